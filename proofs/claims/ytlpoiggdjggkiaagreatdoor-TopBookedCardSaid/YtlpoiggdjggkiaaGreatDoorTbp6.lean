/- What the proof of the claim's theorem uses, part 6. The conditions stand in each statement. -/
import Derived.WalkKit
import Derived.WalkSpells
import Derived.WalkLawsBesides
import Derived.WalkSmall
import Derived.Lib.Hide
import Derived.Laws.OwnMore
import Derived.Laws.CopyOwn
import Derived.Deep.Draws
import Derived.Laws.AppendOwnNone
import Derived.Test.YtlpoiggdjggkiaaGreatDoorProg
import Derived.Outline
import Derived.BigQuiet
import Derived.Deep.QuietTactic
import Derived.Lib.OthersKept
import Derived.Laws.EntriesVeiled
import Derived.Shelf.Strings.Builder1
import Derived.Shelf.LaysM
import Derived.Shelf.Strconv.Itoa3
import Derived.Orders
import Derived.RegionTactic
import Derived.BigRegion
import Derived.Deep.DeepCutAuto
import Derived.Maps.OwnRows
import Derived.Maps.GroupsBeside
import Derived.Deep.RegionHeld3
import Derived.Lib.SliceRun
import Derived.RangeFuncNested
import Derived.RangeFuncBound
import Derived.RangeFuncCalls
import Derived.RangeFuncLeaves
import Derived.Shelf.Abstract
import Derived.Shelf.RegionOpen
import Derived.OwnWalkIn
import Derived.TacticsInMore
import Derived.LoopNIn
import Derived.LoopIn
import Derived.Sort.QuietIn
import Derived.Deep.Quiet
import Derived.Maps.AppendAt
import Derived.Test.YtlpoiggdjggkiaaGreatDoorCards
import Derived.Test.YtlpoiggdjggkiaaGreatDoorTie
import Derived.ProofKit
import Derived.Deep.DeepHandedRow
import Derived.Lib.LaidTab
import Derived.Stop.LaidErr
import Derived.ChangeSame
import Derived.RowKit3
import Derived.ReadAgain
import Derived.OpenShut
import Derived.ChangeSlices
import Derived.WalkMore
import Derived.Maps.Own
import Derived.Maps.OwnOps
import Derived.Maps.OwnSet
import Derived.Shelf.Spec.SlicesInsert
import Derived.Shelf.Spec.SlicesInsertGrow
import Derived.Shelf.Bits.Mul64
import Derived.Deep.RegionLaw
import Derived.ChangeKeysEq
import Derived.Lib.Atoi
import Derived.Lib.Fields
import Derived.Shelf.Strings.SplitShaped
import Derived.Shelf.Strconv.Atoi
import Derived.Lay
import Derived.MakeChecks
import Derived.Deep.DeepWitnessRowRef
import Derived.Test.YtlpoiggdjggkiaaGreatDoorTbp5
set_option linter.unusedVariables false
set_option linter.unusedSimpArgs false
section
namespace Go.Proofs.YtlpoiggdjggkiaaGreatDoor
namespace Sk
open Go.RowKit Go.Maps
set_option maxRecDepth 100000
def cellI (w : World) (g o : Nat) : Int := match w.cell? ⟨g, o, none⟩ with | some (.int _ z) => z | _ => 0
def wideW (w : World) (g n : Nat) : Nat := ((List.range n).map fun i => (cellI w g (i * 2 + 1) - cellI w g (i * 2)).toNat).sum
theorem wideW_eq {w : World} {g n : Nat} {b : B} (hb : Blk w g 110 (bA b)) (hn : n ≤ b.length) : wideW w g n = wide n b := by
  unfold wideW wide
  congr 1
  apply List.map_congr_left
  intro i hi'
  have hin : i < n := by simpa using hi'
  obtain ⟨h1, h2⟩ := bA_get b i (by omega)
  unfold cellI
  rw [hb.cell, hb.cell, h1, h2]
theorem sumLo_snoc (b : B) (l : List Nat) (p : Nat) : sumLo b (l ++ [p]) = sumLo b l + lo b p := by simp [sumLo]
theorem sumHi_snoc (b : B) (l : List Nat) (p : Nat) : sumHi b (l ++ [p]) = sumHi b l + hi b p := by simp [sumHi]
theorem sum_bnd (b : B) : ∀ l : List Nat, (∀ p ∈ l, 0 ≤ lo b p ∧ lo b p ≤ hi b p ∧ hi b p ≤ 10000) → 0 ≤ sumLo b l ∧ sumLo b l ≤ 10000 * l.length ∧ 0 ≤ sumHi b l ∧ sumHi b l ≤ 10000 * l.length := by
  intro l
  induction l with
  | nil => intro _; simp [sumLo, sumHi]
  | cons x l ih =>
    intro h
    have h1 := h x (by simp)
    have h2 := ih fun p hp => h p (by simp [hp])
    simp only [sumLo, sumHi, List.map_cons, List.sum_cons, List.length_cons] at *
    omega
/-- What is known of the bounds all the time. -/
structure Good (fr : List Int) (n : Nat) (b0 : B) (r : List Int) : Prop where
  len : b0.length = 12
  tail : Tail n b0
  fn : fr.length = n
  n12 : n ≤ 12
  tree : Tree fr
  fit : Weights fr r
  real : Sub n (ofW r) b0
  from0 : ∀ i, i < n → 0 ≤ lo b0 i ∧ hi b0 i ≤ 10000
theorem Good.bnd {fr : List Int} {n : Nat} {b0 b : B} {r : List Int} (hg : Good fr n b0 r) (hk : K fr n b0 b) {i : Nat} (hi' : i < n) : 0 ≤ lo b i ∧ lo b i ≤ hi b i ∧ hi b i ≤ 10000 := by
  have h1 := hk.sub i hi'
  have h2 := hk.all _ (hg.fit.fixed n) hg.real i hi'
  have h3 := hg.from0 i hi'
  rw [lo_ofW, hi_ofW] at h2
  omega
set_option maxHeartbeats 8000000 in
theorem tight_spec (gd : Nat) (E : Int) (Al : Option Addr) (cl : Nat) (x : Value) (fr : List Int) (b0 : B) (r : List Int) (w : World) (hd : Desk w gd E (.slice Al fr.length cl) x fr) (hg : Good fr fr.length b0 r) :
    Calls Tryz.prog 91 #[.pointer (some ⟨gd, 0, none⟩), .agg (bA b0)] w fun e w' => ∃ b, e = .returned (.tuple #[.agg (bA b), .bool true]) ∧ K fr fr.length b0 b ∧ Tail fr.length b ∧ Fixd fr fr.length b ∧ Below w.heap.size w w' := by
  obtain ⟨n, hn⟩ : ∃ n, n = fr.length := ⟨_, rfl⟩
  have HN := Lib.hid hn
  rw [← hn] at hd hg ⊢
  have hn12 := hg.n12
  have HG := Lib.hid hg
  have hlen0 := hg.len
  have h110 := bA_info b0 hlen0
  obtain ⟨gm, BM, hB, hW⟩ := hd
  have HLK : Hid (∀ (a : World) (k : Nat), Below w.heap.size w a → k < n → ∃ A c, (Instr.lookup 172 (.map (some gm)) (iv k) false).run Tryz.prog a = .ok (.slice A (parts fr k).length c) a ∧ Own intE 3 BM a (.slice A (parts fr k).length c) ((parts fr k).map fun (q : Nat) => (q : Int))) := Lib.hid fun a k h hk => (hW.below h).look (by have := HN.out; unfold maxLen; omega) (k : Int) (by omega) (by omega)
  have n1 := hB.lt
  have HD := Lib.hid fun (a : World) (h : Below w.heap.size w a) => hB.under h
  clear hW hg hB hn
  go_enter Tryz.func91, Tryz.ntmps91
  go_wp2_with fail
  have hB0 : Blk (w.alloc (.cells (bA b0) 110)) w.heap.size 110 (bA b0) := Blk.new _ _ _
  have hb0 : Below w.heap.size w (w.alloc (.cells (bA b0) 110)) := (Below.refl _ _).alloc (Nat.le_refl _) _
  have hz0 : (w.alloc (.cells (bA b0) 110)).heap.size = w.heap.size + 1 := by simp
  generalize w.alloc (.cells (bA b0) 110) = w0 at *
  have hBr : Blk (w0.alloc (.cells zeroA 110)) (w.heap.size + 1) 110 zeroA := by
    rw [← hz0]; exact Blk.new _ _ _
  have hb1 : Below w0.heap.size w0 (w0.alloc (.cells zeroA 110)) := (Below.refl _ _).alloc (Nat.le_refl _) _
  generalize w0.alloc (.cells zeroA 110) = w1 at *
  have hBb := hB0.under hb1
  have hb01 := hb0.next hb1 (Nat.le_refl _)
  clear hB0 hb0 hb1 h110
  have hgl : w.heap.size < w1.heap.size := hBb.lt
  have hgr1 : w.heap.size + 1 < w1.heap.size := hBr.lt
  obtain ⟨gb, hgb⟩ : ∃ gb, gb = w.heap.size := ⟨_, rfl⟩
  have HGB := Lib.hid hgb
  rw [← hgb] at hBb hBr hgl hgr1 n1 ⊢
  clear hgb hz0
  go_loopw [7, 8, 9, 10, 11, 13, 15] (fun _ _ _ _ _ _ _ wr => ∃ b : B, Blk wr gb 110 (bA b) ∧ Blk wr (gb + 1) 110 zeroA ∧ Hid (K fr n b0 b ∧ Tail n b) ∧ Hid (Below w.heap.size w wr)) (fun _ _ _ _ _ _ _ wr => wideW wr gb n)
  case atStart => exact ⟨b0, hBb, hBr, Lib.hid ⟨K.start hlen0, HG.out.tail⟩, Lib.hid hb01⟩
  case round =>
    clear hBb hBr
    obtain ⟨b, hBb, hBr, HK, HB⟩ := hrel
    have hbl : b.length = 12 := HK.out.1.len
    have hMS : wideW wr gb n = wide n b := wideW_eq hBb (by omega)
    rw [hMS]
    have m2 := hBb.lt
    have hgr := hBr.lt
    go_upto_region 3 with (first | (refine wpList_load_row rfl 110 _ rfl gb rfl 110 _ (0, 0) _ hBb Tryz.underlying110 rfl (bA_info b hbl) ?_) | (refine wpList_store_row rfl 110 _ _ rfl wr.heap.size _ rfl rfl 110 zeroA (heap_alloc_new wr _) (bA_info b hbl) (by rw [bA_size, hbl]; rfl) (bA_one b) ?_))
    simp only [Act.put]
    have hx0 : Below wr.heap.size wr ((wr.alloc (.cells zeroA 110)).setRow wr.heap.size (bA b)) := below_setRow ((Below.refl _ _).alloc (Nat.le_refl _) _) (Nat.le_refl _) _
    have hBn : Blk ((wr.alloc (.cells zeroA 110)).setRow wr.heap.size (bA b)) wr.heap.size 110 (bA b) := setRow_heap _ _ _ _ _ _ (heap_alloc_new wr _)
    change Code.wp _ _ _ _ ((wr.alloc (.cells zeroA 110)).setRow wr.heap.size (bA b))
    generalize (wr.alloc (.cells zeroA 110)).setRow wr.heap.size (bA b) = w2 at *
    have hBb2 := hBb.under hx0
    have hBr2 := hBr.under hx0
    have hgnb : gb + 1 < wr.heap.size := hgr
    have HB2 := Lib.hid (HB.out.next hx0 (by have := HGB.out; omega))
    generalize wr.heap.size = gn at *
    clear hBb hBr HB hx0 m2 hgr
    have m1 := (HD.out w2 HB2.out).cell
    have m3 := (HD.out w2 HB2.out).lt
    go_wp2_with fail
    clear m1 m3
    go_loopw [8, 9, 10, 11, 13, 15, 24] (fun _ _ _ _ _ _ i wx => ∃ (k : Nat) (bb : B), k ≤ n ∧ i = iv k ∧ Blk wx gb 110 (bA bb) ∧ Hid (Rnd fr n b0 b k bb ∧ Tail n bb) ∧ Hid (Fl.Only gb w2 wx)) (fun _ _ _ _ _ _ i _ => n - (intOf i).toNat)
    case atStart => exact ⟨0, b, Nat.zero_le _, rfl, hBb2, Lib.hid ⟨Rnd.start HK.out.1, HK.out.2⟩, Lib.hid (Fl.Only.refl _ _)⟩
    case round =>
      clear hBb2
      obtain ⟨k, bb, hk, rfl, hBx, HR, HO⟩ := hrel
      have hbbl : bb.length = 12 := HR.out.1.kk.len
      have hbw : Below w.heap.size w wr := HB2.out.trans (HO.out.below.mono (by have := HGB.out; omega))
      have hgw : gb < wr.heap.size := hBx.lt
      by_cases hlt : k < n
      · have hki : (k : Int) < (n : Int) := by omega
        have hk12 : (k : Int) < 12 := by omega
        have hbd := HG.out.bnd HR.out.1.kk hlt
        have hle : ¬ (hi bb k < lo bb k) := by omega
        obtain ⟨g0, g1⟩ := bA_get bb k (by omega)
        have c0 : wr.cell? ⟨gb, k * 2, none⟩ = some (iv (lo bb k)) := (hBx.cell _).trans g0
        have c1 : wr.cell? ⟨gb, k * 2 + 1, none⟩ = some (iv (hi bb k)) := (hBx.cell _).trans g1
        clear g0 g1
        go_upto_region 6 with fail
        go_quiet (fail)
        have hq := below_q wr nq
        have hBq := hBx.under hq
        have HOq := Lib.hid (HO.out.next hq (by omega))
        have hbq := hbw.next hq (Nat.le_refl _)
        generalize wr.drewN nq = wq at *
        obtain ⟨A, c, hlk, hSP⟩ := HLK.out wq k hbq hlt
        have HSP := Lib.hid hSP
        have m4 := (HD.out wq hbq).cell
        have m5 := (HD.out wq hbq).lt
        obtain ⟨P, hP⟩ : ∃ P, P = parts fr k := ⟨_, rfl⟩
        have HP := Lib.hid hP
        rw [← hP] at hlk HSP
        have HPL : Hid (∀ p ∈ P, p < n) := Lib.hid fun p hp => by rw [HP.out] at hp; rw [HN.out]; exact parts_lt hp
        have hPn : P.length ≤ 12 := by have h1 := pos_length (k : Int) fr 0; have h2 := HN.out; have h3 : P.length = (pos (k : Int) fr 0).length := (by rw [HP.out, parts]); omega
        clear hSP hP hBx HO c0 c1 hq hle hgw
        by_cases h0 : P.length = 0
        · have hq : (((P.length : Nat) : Int) == 0) = true := by rw [h0]; rfl
          have HR2 := Lib.hid (HR.out.1.skip (by rw [← HP.out]; exact List.eq_nil_of_length_eq_zero h0))
          clear h0
          go_wp2_with fail
          go_roundw
          case rel => exact ⟨k + 1, bb, by omega, by go_num, hBq, Lib.hid ⟨HR2.out, HR.out.2⟩, HOq⟩
          case measure => simp [intOf]; omega
        · have hq : (((P.length : Nat) : Int) == 0) = false := beq_eq_false_iff_ne.2 (by omega)
          go_wp2_with fail
          clear hlk hq m4 m5
          go_loopw [10, 11, 13, 48] (fun u v _ i wy => ∃ j : Nat, j ≤ P.length ∧ u = iv (sumLo bb (P.take j)) ∧ v = iv (sumHi bb (P.take j)) ∧ i = iv j ∧ Below wq.heap.size wq wy) (fun _ _ _ i _ => P.length - (intOf i).toNat)
          case atStart => exact ⟨0, Nat.zero_le _, rfl, rfl, rfl, Below.refl _ _⟩
          case round =>
            obtain ⟨j, hj, rfl, rfl, rfl, hby⟩ := hrel
            by_cases hlt2 : j < P.length
            · have hji : (j : Int) < (P.length : Int) := by omega
              obtain ⟨b1, off1, z, rfl, hb1, hz, hcz⟩ := Sl.atI (HSP.out.below hby).sl (show j < (P.map fun (q : Nat) => (q : Int)).length by simpa using hlt2)
              obtain ⟨p, hp, rfl⟩ : ∃ p, P[j]? = some p ∧ (p : Int) = z := by
                rw [List.getElem?_map] at hz
                obtain ⟨p, h1, h2⟩ := Option.map_eq_some_iff.1 hz
                exact ⟨p, h1, h2⟩
              have hpn := HPL.out p (mem_at hp)
              have hp12 : (p : Int) < 12 := by omega
              obtain ⟨g0, g1⟩ := bA_get bb p (by omega)
              have c0 : wr.cell? ⟨gb, p * 2, none⟩ = some (iv (lo bb p)) := ((hBq.under hby).cell _).trans g0
              have c1 : wr.cell? ⟨gb, p * 2 + 1, none⟩ = some (iv (hi bb p)) := ((hBq.under hby).cell _).trans g1
              have hgw := (hBq.under hby).lt
              have hbd2 := HG.out.bnd HR.out.1.kk hpn
              obtain ⟨s1, s2, s3, s4⟩ := sum_bnd bb (P.take j) fun q hq => HG.out.bnd HR.out.1.kk (HPL.out q (List.mem_of_mem_take hq))
              have htl : (P.take j).length ≤ 12 := by rw [List.length_take]; omega
              have ew1 : IntKind.i64.wrap (sumLo bb (P.take j) + lo bb p) = sumLo bb (P.take j) + lo bb p := IntWalk.i64_in _ (by omega)
              have ew2 : IntKind.i64.wrap (sumHi bb (P.take j) + hi bb p) = sumHi bb (P.take j) + hi bb p := IntWalk.i64_in _ (by omega)
              have HT1 : Hid (sumLo bb (P.take (j + 1)) = sumLo bb (P.take j) + lo bb p ∧ sumHi bb (P.take (j + 1)) = sumHi bb (P.take j) + hi bb p) := Lib.hid (by
                rw [List.take_add_one, hp]
                exact ⟨sumLo_snoc _ _ _, sumHi_snoc _ _ _⟩)
              clear hz g0 g1 hp s1 s2 s3 s4 htl
              go_upto_region 14 with fail
              go_quiet (fail)
              have hby2 : Below wq.heap.size wq (wr.drewN nq) := hby.next (below_q wr nq) (Nat.le_refl _)
              generalize wr.drewN nq = wy at *
              go_wp2_with fail
              go_roundw
              case rel => exact ⟨j + 1, by omega, by rw [HT1.out.1], by rw [HT1.out.2], by go_num, hby2⟩
              case measure => simp [intOf]; omega
            · have hji : ¬ (j : Int) < (P.length : Int) := by omega
              have htk : P.take j = P := List.take_of_length_le (by omega)
              rw [htk]
              have hBy := hBq.under hby
              have hOy := HOq.out.next hby (by have := hBq.lt; omega)
              have HSY := Lib.hid (HSP.out.below hby)
              obtain ⟨s1, s2, s3, s4⟩ := sum_bnd bb P fun q hq => HG.out.bnd HR.out.1.kk (HPL.out q hq)
              have HIN := Lib.hid (HR.out.1.own HG.out.tree HG.out.fn hn12 hlt (by rw [← HP.out]; intro e; rw [e] at h0; simp at h0))
              rw [← HP.out] at HIN
              have HTN := Lib.hid (HR.out.2.nar hlt (sumLo bb P) (sumHi bb P))
              obtain ⟨L, hL⟩ : ∃ L, L = sumLo bb P := ⟨_, rfl⟩
              obtain ⟨H, hH⟩ : ∃ H, H = sumHi bb P := ⟨_, rfl⟩
              rw [← hL] at s1 s2 HIN HTN ⊢
              rw [← hH] at s3 s4 HIN HTN ⊢
              have HBY := Lib.hid hBy
              have HNR := Lib.hid (narrow_spec gb k L H bb wr hBy hbbl (by omega))
              clear htk hBq hby HSP HOq hBy hL hH hbd HR hbq hbw
              go_wp2_with fail
              refine HNR.out.mono ?_
              rintro e wz ⟨rfl, hBz, hOz⟩
              have HOz := Lib.hid (hOy.trans hOz)
              have HSZ := Lib.hid (Fl.Own.only HSY.out HBY.out (by decide) hOz)
              clear HNR hOy hOz HSY HBY
              go_wp2_with fail
              go_loopw [15, 72] (fun _ i wy => ∃ (j : Nat) (bj : B), j ≤ P.length ∧ i = iv j ∧ Blk wy gb 110 (bA bj) ∧ Hid (Inn fr n b0 b k L H j bj ∧ Tail n bj) ∧ Hid (Fl.Only gb wz wy)) (fun _ i _ => P.length - (intOf i).toNat)
              case atStart => exact ⟨0, _, Nat.zero_le _, rfl, hBz, Lib.hid ⟨HIN.out, HTN.out⟩, Lib.hid (Fl.Only.refl _ _)⟩
              case round =>
                obtain ⟨j, bj, hj, rfl, hBj, HI, HOj⟩ := hrel
                have HSJ := Lib.hid (Fl.Own.only HSZ.out hBz (by decide) HOj.out)
                have HOw := Lib.hid (HOz.out.trans HOj.out)
                have hbjl : bj.length = 12 := HI.out.1.kk.len
                by_cases hlt2 : j < P.length
                · have hji : (j : Int) < (P.length : Int) := by omega
                  obtain ⟨b1, off1, z, rfl, hb1, hz, hcz⟩ := Sl.atI HSJ.out.sl (show j < (P.map fun (q : Nat) => (q : Int)).length by simpa using hlt2)
                  obtain ⟨p, hp, rfl⟩ : ∃ p, P[j]? = some p ∧ (p : Int) = z := by
                    rw [List.getElem?_map] at hz
                    obtain ⟨p, h1, h2⟩ := Option.map_eq_some_iff.1 hz
                    exact ⟨p, h1, h2⟩
                  have hpn := HPL.out p (mem_at hp)
                  have hp12 : (p : Int) < 12 := by omega
                  have hk12 : (k : Int) < 12 := by omega
                  have HNX := Lib.hid (HI.out.1.next HG.out.tree HG.out.fn hn12 hlt (by rw [← HP.out]; exact hp))
                  have HTX := Lib.hid (HI.out.2.nar hpn (lo bj k - (H - hi b p)) (hi bj k - (L - lo b p)))
                  have hbd1 := HG.out.bnd HI.out.1.kk hlt
                  have hbd2 := HG.out.bnd HK.out.1 hpn
                  have HBJ := Lib.hid hBj
                  have HC : Hid (∀ y, Below wr.heap.size wr y → y.cell? ⟨gb, k * 2, none⟩ = some (iv (lo bj k)) ∧ y.cell? ⟨gb, k * 2 + 1, none⟩ = some (iv (hi bj k)) ∧ y.cell? ⟨gn, p * 2, none⟩ = some (iv (lo b p)) ∧ y.cell? ⟨gn, p * 2 + 1, none⟩ = some (iv (hi b p)) ∧ gb < y.heap.size ∧ gn < y.heap.size) := Lib.hid fun y hy => by
                    obtain ⟨g0, g1⟩ := bA_get bj k (by omega)
                    obtain ⟨g2, g3⟩ := bA_get b p (by omega)
                    have hBy := HBJ.out.under hy
                    have hNy := (Fl.Blk.only hBn (by omega) HOw.out).under hy
                    exact ⟨(hBy.cell _).trans g0, (hBy.cell _).trans g1, (hNy.cell _).trans g2, (hNy.cell _).trans g3, hBy.lt, hNy.lt⟩
                  obtain ⟨LK, hLK⟩ : ∃ z, z = lo bj k := ⟨_, rfl⟩
                  obtain ⟨HK', hHK⟩ : ∃ z, z = hi bj k := ⟨_, rfl⟩
                  obtain ⟨LP, hLP⟩ : ∃ z, z = lo b p := ⟨_, rfl⟩
                  obtain ⟨HP', hHP⟩ : ∃ z, z = hi b p := ⟨_, rfl⟩
                  rw [← hLK, ← hHK] at hbd1 HC HNX HTX
                  rw [← hLP, ← hHP] at hbd2 HC HNX HTX
                  have ew1 : IntKind.i64.wrap (H - HP') = H - HP' := IntWalk.i64_in _ (by omega)
                  have ew2 : IntKind.i64.wrap (LK - (H - HP')) = LK - (H - HP') := IntWalk.i64_in _ (by omega)
                  have ew3 : IntKind.i64.wrap (L - LP) = L - LP := IntWalk.i64_in _ (by omega)
                  have ew4 : IntKind.i64.wrap (HK' - (L - LP)) = HK' - (L - LP) := IntWalk.i64_in _ (by omega)
                  clear hz hp hLK hHK hLP hHP hBj
                  go_upto_region 20 with fail
                  refine wfl 24 (fun nR x => Below wr.heap.size wr x) (fun x x' => Below x.heap.size x x')
                    [eqv (.func (.func 106) #[] #[.pointer (some ⟨gb, 0, none⟩)]),
                     eqv (iv p),
                     eqv (iv k),
                     eqv (.pointer (some ⟨gb, k * 2, none⟩)),
                     eqv (.pointer (some ⟨gb, k * 2, none⟩)),
                     eqv (iv LK),
                     eqv (iv H),
                     eqv (iv p),
                     eqv (.pointer (some ⟨gn, p * 2, none⟩)),
                     eqv (.pointer (some ⟨gn, p * 2 + 1, none⟩)),
                     eqv (iv HP'),
                     eqv (iv (H - HP')),
                     eqv (iv (LK - (H - HP'))),
                     eqv (iv k),
                     eqv (.pointer (some ⟨gb, k * 2, none⟩)),
                     eqv (.pointer (some ⟨gb, k * 2 + 1, none⟩)),
                     eqv (iv HK'),
                     eqv (iv L),
                     eqv (iv p),
                     eqv (.pointer (some ⟨gn, p * 2, none⟩)),
                     eqv (.pointer (some ⟨gn, p * 2, none⟩)),
                     eqv (iv LP),
                     eqv (iv (L - LP)),
                     eqv (iv (HK' - (L - LP)))]
                    (Below.refl _ wr).drew ?_ ?_
                  · simp only [List.take_succ_cons, List.take_zero, HopL]
                    repeat' apply And.intro
                    · refine fvr fun x hR kk rr _ => ?_
                      have := rho0 rr 6
                      clear rr kk
                      exact ev0
                    · refine fvr fun x hR kk rr _ => ?_
                      have := rho0 rr 15
                      clear rr kk
                      exact ev0
                    · refine fvr fun x hR kk rr _ => ?_
                      have := rho0 rr 8
                      clear rr kk
                      exact ev0
                    · refine fvr fun x hR kk rr _ => ?_
                      have := rho0 rr 3
                      have := rho rr 78 (kk.at 2)
                      clear rr kk
                      obtain ⟨f0, f1, f2, f3, f4, f5⟩ := HC.out x hR
                      exact ev0
                    · refine fvr fun x hR kk rr _ => ?_
                      have := rho rr 79 (kk.at 3)
                      clear rr kk
                      exact ev0
                    · refine fvr fun x hR kk rr _ => ?_
                      have := rho rr 80 (kk.at 4)
                      clear rr kk
                      obtain ⟨f0, f1, f2, f3, f4, f5⟩ := HC.out x hR
                      exact ev0
                    · refine fvr fun x hR kk rr _ => ?_
                      have := rho0 rr 11
                      clear rr kk
                      exact ev0
                    · refine fvr fun x hR kk rr _ => ?_
                      have := rho0 rr 15
                      clear rr kk
                      exact ev0
                    · refine fvr fun x hR kk rr _ => ?_
                      have := rho0 rr 7
                      have := rho rr 83 (kk.at 7)
                      clear rr kk
                      obtain ⟨f0, f1, f2, f3, f4, f5⟩ := HC.out x hR
                      exact ev0
                    · refine fvr fun x hR kk rr _ => ?_
                      have := rho rr 84 (kk.at 8)
                      clear rr kk
                      exact ev0
                    · refine fvr fun x hR kk rr _ => ?_
                      have := rho rr 85 (kk.at 9)
                      clear rr kk
                      obtain ⟨f0, f1, f2, f3, f4, f5⟩ := HC.out x hR
                      exact ev0
                    · refine fvr fun x hR kk rr _ => ?_
                      have := rho rr 82 (kk.at 6)
                      have := rho rr 86 (kk.at 10)
                      clear rr kk
                      exact ev0
                    · refine fvr fun x hR kk rr _ => ?_
                      have := rho rr 81 (kk.at 5)
                      have := rho rr 87 (kk.at 11)
                      clear rr kk
                      exact ev0
                    · refine fvr fun x hR kk rr _ => ?_
                      have := rho0 rr 8
                      clear rr kk
                      exact ev0
                    · refine fvr fun x hR kk rr _ => ?_
                      have := rho0 rr 3
                      have := rho rr 89 (kk.at 13)
                      clear rr kk
                      obtain ⟨f0, f1, f2, f3, f4, f5⟩ := HC.out x hR
                      exact ev0
                    · refine fvr fun x hR kk rr _ => ?_
                      have := rho rr 90 (kk.at 14)
                      clear rr kk
                      exact ev0
                    · refine fvr fun x hR kk rr _ => ?_
                      have := rho rr 91 (kk.at 15)
                      clear rr kk
                      obtain ⟨f0, f1, f2, f3, f4, f5⟩ := HC.out x hR
                      exact ev0
                    · refine fvr fun x hR kk rr _ => ?_
                      have := rho0 rr 10
                      clear rr kk
                      exact ev0
                    · refine fvr fun x hR kk rr _ => ?_
                      have := rho0 rr 15
                      clear rr kk
                      exact ev0
                    · refine fvr fun x hR kk rr _ => ?_
                      have := rho0 rr 7
                      have := rho rr 94 (kk.at 18)
                      clear rr kk
                      obtain ⟨f0, f1, f2, f3, f4, f5⟩ := HC.out x hR
                      exact ev0
                    · refine fvr fun x hR kk rr _ => ?_
                      have := rho rr 95 (kk.at 19)
                      clear rr kk
                      exact ev0
                    · refine fvr fun x hR kk rr _ => ?_
                      have := rho rr 96 (kk.at 20)
                      clear rr kk
                      obtain ⟨f0, f1, f2, f3, f4, f5⟩ := HC.out x hR
                      exact ev0
                    · refine fvr fun x hR kk rr _ => ?_
                      have := rho rr 93 (kk.at 17)
                      have := rho rr 97 (kk.at 21)
                      clear rr kk
                      exact ev0
                    · refine fvr fun x hR kk rr _ => ?_
                      have := rho rr 92 (kk.at 16)
                      have := rho rr 98 (kk.at 22)
                      clear rr kk
                      exact ev0
                    · trivial
                  · intro v nR wy hnR hR hall
                    have h0 : v 0 = .func (.func 106) #[] #[.pointer (some ⟨gb, 0, none⟩)] := hall 0 (by decide)
                    have h1 : v 1 = iv p := hall 1 (by decide)
                    have h12 : v 12 = iv (LK - (H - HP')) := hall 12 (by decide)
                    have h23 : v 23 = iv (HK' - (L - LP)) := hall 23 (by decide)
                    clear hall hnR
                    simp only [List.drop_succ_cons, List.drop_zero, List.take_succ_cons, List.take_zero, frameF, Act.put, List.setIfInBounds_toArray, List.set_cons_zero, List.set_cons_succ, Nat.zero_add, Nat.reduceAdd, h0, h1, h12, h23]
                    have hBy := HBJ.out.under hR
                    have HOy := Lib.hid (HOj.out.next hR (by have := HBJ.out.lt; omega))
                    have HNR := Lib.hid (narrow_spec gb p (LK - (H - HP')) (HK' - (L - LP)) bj wy hBy hbjl (by omega))
                    clear hR hBy
                    go_wp2_with fail
                    refine HNR.out.mono ?_
                    rintro e wu ⟨rfl, hBu, hOu⟩
                    have HOu := Lib.hid (HOy.out.trans hOu)
                    clear HNR hOu
                    go_wp2_with fail
                    go_roundw
                    case rel => exact ⟨j + 1, _, by omega, by go_num, hBu, Lib.hid ⟨HNX.out, HTX.out⟩, HOu⟩
                    case measure => simp [intOf]; omega
                · have hji : ¬ (j : Int) < (P.length : Int) := by omega
                  have HE := Lib.hid (Inn.end_ (by have h1 := HI.out.1; rw [show j = (parts fr k).length by rw [← HP.out]; omega] at h1; exact h1) HG.out.tree HG.out.fn)
                  go_wp2_with fail
                  go_roundw
                  case rel => exact ⟨k + 1, bj, by omega, by go_num, hBj, Lib.hid ⟨HE.out, HI.out.2⟩, HOw⟩
                  case measure => simp [intOf]; omega
      · have hki : ¬ (k : Int) < (n : Int) := by omega
        have hkn : k = n := by omega
        have HRn : Hid (Rnd fr n b0 b n bb ∧ Tail n bb) := Lib.hid (by have := HR.out; rw [hkn] at this; exact this)
        have hBn3 := Fl.Blk.only hBn (by omega) HO.out
        have hBr3 := Fl.Blk.only hBr2 (by omega) HO.out
        have HEQ := fun W => bnd_eq bb b hbbl hbl W
        obtain ⟨q, hqd⟩ : ∃ q, q = decide (bb = b) := ⟨_, rfl⟩
        rw [← hqd] at HEQ
        have HQ := Lib.hid hqd
        clear hqd HR
        cases q
        · have hne : ¬ bb = b := by simpa using HQ.out.symm
          have hlt4 : wide n bb < wide n b := wide_lt HRn.out.1.below (HRn.out.1.kk.all _ (HG.out.fit.fixed n) HG.out.real) (fun i _ => by rw [lo_ofW, hi_ofW]; exact Int.le_refl _) (fun h => hne (eq_of hbbl hbl HRn.out.2 HK.out.2 HRn.out.1.below h))
          have HLT : Hid (wideW wr gb n < wide n b) := Lib.hid (by rw [wideW_eq hBx (by omega)]; exact hlt4)
          have HBW := Lib.hid hbw
          clear hne hlt4
          go_wp2_with (first | (refine wpList_load_row rfl 110 _ rfl gb rfl 110 _ (0, 0) _ hBx Tryz.underlying110 rfl (bA_info bb hbbl) ?_) | (refine wpList_load_row rfl 110 _ rfl gn rfl 110 _ (0, 0) _ hBn3 Tryz.underlying110 rfl (bA_info b hbl) ?_))
          go_roundw
          case rel => exact ⟨bb, hBx, hBr3, Lib.hid ⟨HRn.out.1.kk, HRn.out.2⟩, HBW⟩
          case measure => exact HLT.out
        · have he : bb = b := by simpa using HQ.out.symm
          have HF : Hid (Fixd fr n bb) := Lib.hid (by have := HRn.out.1; rw [he] at this ⊢; exact this.fixed)
          have hlr := hBr3.lt
          have HBW := Lib.hid hbw
          clear he
          go_wp2_with (first | (refine wpList_load_row rfl 110 _ rfl gb rfl 110 _ (0, 0) _ hBx Tryz.underlying110 rfl (bA_info bb hbbl) ?_) | (refine wpList_load_row rfl 110 _ rfl gn rfl 110 _ (0, 0) _ hBn3 Tryz.underlying110 rfl (bA_info b hbl) ?_) | (refine wpList_store_row rfl 110 _ _ rfl (gb + 1) _ rfl rfl 110 zeroA hBr3 (bA_info bb hbbl) (by rw [bA_size, hbbl]; rfl) (bA_one bb) ?_))
          have hr := run_loadVar_row (P := Tryz.prog) (wr.setRow (gb + 1) (bA bb)) (gb + 1) 110 110 (bA bb) (0, 0) _ (setRow_heap _ _ _ _ _ _ hBr3) Tryz.underlying110 rfl (bA_info bb hbbl)
          refine bodyPost_ret (v := .tuple #[.agg (bA bb), .bool true]) ?_ rfl ⟨bb, rfl, HRn.out.1.kk, HRn.out.2, HF.out, below_setRow HBW.out (by have := HGB.out; omega) _⟩
          rw [results_cell_tmp (p := 4) (u := 5) (ty := 110) (by kernel_rfl)]
          simp [asAddr, hr]
end Sk
end Go.Proofs.YtlpoiggdjggkiaaGreatDoor
end
section
namespace Go.Proofs.YtlpoiggdjggkiaaGreatDoor
namespace Sk
open Go.RowKit Go.Maps
set_option maxRecDepth 100000
def b00 (n : Nat) : B := List.replicate n (0, 10000) ++ List.replicate (12 - n) (0, 0)
def say (E : Int) (b : B) (x : Weigh) : B := nar b x.lot.toNat (sLo E x) (sHi E x)
def sayAll (E : Int) (ws : List Weigh) (n : Nat) : B := ws.foldl (say E) (b00 n)
theorem b00_length {n : Nat} (h : n ≤ 12) : (b00 n).length = 12 := by simp [b00]; omega
theorem say_length (E : Int) (b : B) (x : Weigh) : (say E b x).length = b.length := by simp [say, nar]
theorem sayAll_length (E : Int) (ws : List Weigh) {n : Nat} (h : n ≤ 12) : (sayAll E ws n).length = 12 := by
  unfold sayAll
  have : ∀ (l : List Weigh) (b : B), b.length = 12 → (l.foldl (say E) b).length = 12 := by
    intro l
    induction l with
    | nil => intro b hb; exact hb
    | cons x l ih => intro b hb; exact ih _ (by rw [say_length]; exact hb)
  exact this ws _ (b00_length h)
theorem sayAll_snoc (E : Int) (ws : List Weigh) (x : Weigh) (n : Nat) : sayAll E (ws ++ [x]) n = say E (sayAll E ws n) x := by simp [sayAll, List.foldl_append]
/-- One lot more that is from 0 to 10000. -/
def mid (n k : Nat) : B := List.replicate k (0, 10000) ++ List.replicate (12 - k) (0, 0)
theorem mid_length {n k : Nat} (h : k ≤ 12) : (mid n k).length = 12 := by simp [mid]; omega
theorem mid_set {n k : Nat} (h : k < 12) : (mid n k).set k (lo (mid n k) k, 10000) = mid n (k + 1) := by
  have h0 : lo (mid n k) k = 0 := by
    simp only [lo, mid, List.getD_eq_getElem?_getD]
    rw [List.getElem?_append_right (by simp), List.getElem?_replicate]
    split <;> rfl
  rw [h0]
  unfold mid
  rw [List.set_append_right _ _ (by simp), List.length_replicate, Nat.sub_self, show 12 - k = (12 - (k + 1)) + 1 by omega, List.replicate_succ, List.set_cons_zero, List.replicate_succ', List.append_assoc, List.singleton_append]
theorem bA_hi (b : B) (y : Int) (i : Nat) (h : i < b.length) : (bA b).setIfInBounds (i * 2 + 1) (iv y) = bA (b.set i (lo b i, y)) := by
  rw [← bA_set b _ _ i h]
  congr 1
  apply Array.ext_getElem?
  intro j
  by_cases e : j = i * 2
  · subst e
    rw [(bA_get b i h).1, Array.getElem?_setIfInBounds_self_of_lt (by rw [bA_size]; omega)]
  · rw [Array.getElem?_setIfInBounds_ne (fun x => e x.symm)]
set_option maxHeartbeats 8000000 in
theorem skBounds_spec (gd : Nat) (E : Int) (Al : Option Addr) (cl : Nat) (Aw : Option Addr) (ws : List Weigh) (cw : Nat) (fr : List Int) (r : List Int) (w : World) (hd : Desk w gd E (.slice Al fr.length cl) (.slice Aw ws.length cw) fr)
    (hs : Sl weighE w Aw ws) (hok : ∀ x ∈ ws, WOk fr.length x) (hn : ws.length ≤ 10) (hE0 : 0 ≤ E) (hE1 : E ≤ 50) (hg : Good fr fr.length (sayAll E ws fr.length) r) :
    Calls Tryz.prog 70 #[.pointer (some ⟨gd, 0, none⟩), .agg #[.func (.func 92) #[] #[]]] w fun e w' => ∃ b, e = .returned (.tuple #[.agg (bA b), .bool true]) ∧ K fr fr.length (sayAll E ws fr.length) b ∧ Tail fr.length b ∧ Fixd fr fr.length b ∧ Below w.heap.size w w' := by
  have hn12 := hg.n12
  have HTI := Lib.hid fun (W : World) (h : Below w.heap.size w W) => tight_spec gd E Al cl _ fr _ r W (hd.below h) hg
  have HD := Lib.hid hd
  have HS := Lib.hid hs
  have HOK := Lib.hid hok
  obtain ⟨n, hnn⟩ : ∃ n, n = fr.length := ⟨_, rfl⟩
  rw [← hnn] at HTI HOK hn12 ⊢
  obtain ⟨gm, BM, hB, _⟩ := hd
  rw [← hnn] at hB
  have HDB := Lib.hid fun (a : World) (h : Below w.heap.size w a) => hB.under h
  have HNN := Lib.hid hnn
  clear hg hok hB hs hnn
  go_enter Tryz.func70, Tryz.ntmps70
  go_upto_region 2 with fail
  have hF1 : Blk (w.alloc (.cells #[.func (.func 92) #[] #[]] 146)) w.heap.size 146 #[.func (.func 92) #[] #[]] := Blk.new _ _ _
  have hb1 : Below w.heap.size w (w.alloc (.cells #[.func (.func 92) #[] #[]] 146)) := (Below.refl _ _).alloc (Nat.le_refl _) _
  have hz1 : (w.alloc (.cells #[.func (.func 92) #[] #[]] 146)).heap.size = w.heap.size + 1 := by simp
  generalize w.alloc (.cells #[.func (.func 92) #[] #[]] 146) = w1 at *
  have hR2 : Blk (w1.alloc (.cells zeroA 110)) (w.heap.size + 1) 110 zeroA := by rw [← hz1]; exact Blk.new _ _ _
  have hb2 : Below w1.heap.size w1 (w1.alloc (.cells zeroA 110)) := (Below.refl _ _).alloc (Nat.le_refl _) _
  have hz2 : (w1.alloc (.cells zeroA 110)).heap.size = w.heap.size + 1 + 1 := by simp [hz1]
  generalize w1.alloc (.cells zeroA 110) = w2 at *
  have hB3 : Blk (w2.alloc (.cells zeroA 110)) (w.heap.size + 1 + 1) 110 (bA (mid n 0)) := by rw [← hz2, show bA (mid n 0) = zeroA from bA_zero.symm]; exact Blk.new _ _ _
  have hb3 : Below w2.heap.size w2 (w2.alloc (.cells zeroA 110)) := (Below.refl _ _).alloc (Nat.le_refl _) _
  generalize w2.alloc (.cells zeroA 110) = w3 at *
  have hF3 := (hF1.under hb2).under hb3
  have hR3 := hR2.under hb3
  have hb03 := (hb1.next hb2 (Nat.le_refl _)).next hb3 (Nat.le_refl _)
  obtain ⟨gb, hgb⟩ : ∃ gb, gb = w.heap.size + 1 + 1 := ⟨_, rfl⟩
  have HGB := Lib.hid hgb
  rw [← hgb] at hB3 ⊢
  have hgl := hB3.lt
  have HB03 := Lib.hid hb03
  have m0 := (HDB.out _ hb03).cell
  have m1 := (HDB.out _ hb03).lt
  clear hF1 hb1 hz1 hb2 hz2 hR2 hb3 hb03 hgb
  go_wp2_with fail
  clear m0 m1
  go_loopw [7, 17] (fun _ i wx => ∃ k : Nat, k ≤ n ∧ i = iv k ∧ Blk wx gb 110 (bA (mid n k)) ∧ Hid (Fl.Only gb w3 wx)) (fun _ i _ => n - (intOf i).toNat)
  case atStart => exact ⟨0, Nat.zero_le _, rfl, hB3, Lib.hid (Fl.Only.refl _ _)⟩
  case round =>
    clear hB3
    obtain ⟨k, hk, rfl, hBx, HO⟩ := hrel
    by_cases hlt : k < n
    · have hki : (k : Int) < (n : Int) := by omega
      have hk12 : (k : Int) < 12 := by omega
      have hml := mid_length (n := n) (k := k) (by omega)
      have c1 : wr.cell? ⟨gb, k * 2 + 1, none⟩ = some (iv (hi (mid n k) k)) := (hBx.cell _).trans (bA_get (mid n k) k (by omega)).2
      have hgw := hBx.lt
      have hf := hBx.frozen
      have HB := Lib.hid hBx
      clear hBx
      go_wp2_with fail
      go_roundw
      case rel =>
        refine ⟨k + 1, by omega, by go_num, ?_, Lib.hid (HO.out.trans (Fl.Only.set_ gb _ _ _))⟩
        have := HB.out.set_ (k * 2 + 1) (iv 10000)
        rw [bA_hi _ _ _ (by omega), mid_set (by omega)] at this
        exact this
      case measure => simp [intOf]; omega
    · have hki : ¬ (k : Int) < (n : Int) := by omega
      obtain rfl : k = n := by omega
      have hBw : Below w.heap.size w wr := HB03.out.trans (HO.out.below.mono (by have := HGB.out; omega))
      have m0 := (HDB.out _ hBw).cell
      have m1 := (HDB.out _ hBw).lt
      clear hBw
      go_wp2_with fail
      clear m0 m1
      go_loopw [8, 9, 10, 30] (fun _ _ _ i wx => ∃ (j : Nat) (bb : B), j ≤ ws.length ∧ i = iv j ∧ Blk wx gb 110 (bA bb) ∧ Hid (bb = sayAll E (ws.take j) k) ∧ Hid (Fl.Only gb w3 wx)) (fun _ _ _ i _ => ws.length - (intOf i).toNat)
      case atStart => exact ⟨0, mid k k, Nat.zero_le _, rfl, hBx, Lib.hid rfl, HO⟩
      case round =>
        clear hBx HO
        obtain ⟨j, bb, hj, rfl, hBx, HE, HO⟩ := hrel
        have hbbl : bb.length = 12 := by rw [HE.out]; exact sayAll_length E _ hn12
        have hBw : Below w.heap.size w wr := HB03.out.trans (HO.out.below.mono (by have := HGB.out; omega))
        by_cases hlt2 : j < ws.length
        · have hji : (j : Int) < (ws.length : Int) := by omega
          obtain ⟨b, off, y, rfl, hb, hy, hc0, hc1, hc2, hc3⟩ := (HS.out.below hBw).atW hlt2
          have hoky := HOK.out y (mem_at hy)
          obtain ⟨q, hq⟩ : ∃ q : Nat, (q : Int) = y.lot := ⟨y.lot.toNat, by have := hoky.lot; omega⟩
          have hqn : q < k := by have := hoky.lot; omega
          have HNE : Hid (sayAll E (ws.take (j + 1)) k = nar bb q (sLo E y) (sHi E y)) := Lib.hid (by
            rw [take_at hy, sayAll_snoc, ← HE.out, say, ← hq, Int.toNat_natCast])
          have HSY : Hid (∀ X : World, Below wr.heap.size wr X → Calls Tryz.prog 89 #[.pointer (some ⟨gd, 0, none⟩), iv j] X fun e w' => e = .returned (.agg #[iv (sLo E y), iv (sHi E y)]) ∧ Below X.heap.size X w') := Lib.hid fun X hX =>
            skSays_spec gd E _ fr k _ ws cw j y X (HD.out.below (hBw.next hX (Nat.le_refl _))) (HS.out.below (hBw.next hX (Nat.le_refl _))) hy hoky hE0 hE1
          obtain ⟨sl, hsl⟩ : ∃ z, z = sLo E y := ⟨_, rfl⟩
          obtain ⟨sh, hsh⟩ : ∃ z, z = sHi E y := ⟨_, rfl⟩
          rw [← hsl, ← hsh] at HNE HSY
          obtain ⟨y0, y1, y2, y3⟩ := y
          dsimp only at hc0 hc1 hc2 hc3 hq
          subst hq
          have hbw : Below wr.heap.size wr (wr.alloc (.cells #[iv (q : Int), iv y1, iv y2, iv y3] 39)) := (Below.refl _ _).alloc (Nat.le_refl _) _
          have HS1 := Lib.hid (HSY.out _ hbw)
          have hF5 := Fl.Blk.only hF3 (by have := HGB.out; omega) HO.out
          have HFC : Hid (∀ X : World, Below wr.heap.size wr X → X.cell? ⟨w.heap.size, 0, none⟩ = some (.func (.func 92) #[] #[])) := Lib.hid fun X hX => (hF5.under hX).cell 0
          have hcf := callFunc_run (P := Tryz.prog) (K := 92) (by kernel_rfl)
          clear hsl hsh hy hoky
          go_wp2_with fail
          refine HS1.out.mono ?_
          rintro e w4 ⟨rfl, hb4⟩
          have hbw4 := hbw.next hb4 (Nat.le_refl _)
          have hb5 : Below w4.heap.size w4 (w4.alloc (.cells #[iv sl, iv sh] 37)) := (Below.refl _ _).alloc (Nat.le_refl _) _
          have hbw5 := hbw4.next hb5 (Nat.le_refl _)
          have hS5 : Blk (w4.alloc (.cells #[iv sl, iv sh] 37)) w4.heap.size 37 #[iv sl, iv sh] := Blk.new _ _ _
          have hW5 : Blk (w4.alloc (.cells #[iv sl, iv sh] 37)) wr.heap.size 39 #[iv (q : Int), iv y1, iv y2, iv y3] := ((Blk.new wr _ _).under hb4).under hb5
          have f5 := HFC.out _ hbw5
          clear HFC HS1 HSY hb4 hbw hbw4
          go_wp2_with fail
          refine (all1_spec _ _).mono ?_
          rintro e w6 ⟨rfl, rfl⟩
          generalize w4.alloc (.cells #[iv sl, iv sh] 37) = w5 at *
          go_upto_region 12 with fail
          have hBw5 := hBx.under hbw5
          obtain ⟨L, hL⟩ : ∃ L, L = lo bb q := ⟨_, rfl⟩
          obtain ⟨H, hH⟩ : ∃ H, H = hi bb q := ⟨_, rfl⟩
          have hgt := bA_get bb q (by omega)
          rw [← hL, ← hH] at hgt
          have hqi : (q : Int) < 12 := by omega
          have HFF : Hid (∀ a : World, Below w5.heap.size w5 a → a.cell? ⟨wr.heap.size, 0, none⟩ = some (iv (q : Int)) ∧ a.cell? ⟨gb, q * 2, none⟩ = some (iv L) ∧ a.cell? ⟨gb, q * 2 + 1, none⟩ = some (iv H) ∧ a.cell? ⟨w4.heap.size, 0, none⟩ = some (iv sl) ∧ a.cell? ⟨w4.heap.size, 1, none⟩ = some (iv sh) ∧ gb < a.heap.size) := Lib.hid fun a h =>
            ⟨(hW5.under h).cell 0, ((hBw5.under h).cell _).trans hgt.1, ((hBw5.under h).cell _).trans hgt.2, (hS5.under h).cell 0, (hS5.under h).cell 1, (hBw5.under h).lt⟩
          have HBW := Lib.hid hBw5
          have HO5 := Lib.hid (HO.out.next hbw5 (by have := hBx.lt; omega))
          have HL : Hid (nar bb q sl sh = bb.set q (max L sl, min H sh)) := Lib.hid (by rw [hL, hH]; rfl)
          generalize wr.heap.size = gw at *
          generalize w4.heap.size = gs at *
          clear hb5 hbw5 hS5 hW5 f5 hBx hBw5 hcf hF5 hc0 hc1 hc2 hc3 hb hgt hL hH hBw HO
          refine wfl 21 (fun nR x => Below w5.heap.size w5 x) (fun x x' => Below x.heap.size x x')
            [eqv (.pointer (some ⟨gw, 0, none⟩)),
             eqv (iv (q : Int)),
             eqv (.pointer (some ⟨gw, 0, none⟩)),
             eqv (iv (q : Int)),
             eqv (.pointer (some ⟨gb, q * 2, none⟩)),
             eqv (.pointer (some ⟨gb, q * 2, none⟩)),
             eqv (iv L),
             eqv (.pointer (some ⟨gs, 0, none⟩)),
             eqv (iv sl),
             eqv (iv (max L sl)),
             eqv (.pointer (some ⟨gw, 0, none⟩)),
             eqv (iv (q : Int)),
             eqv (.pointer (some ⟨gb, q * 2, none⟩)),
             eqv (.pointer (some ⟨gb, q * 2 + 1, none⟩)),
             eqv (iv H),
             eqv (.pointer (some ⟨gs, 1, none⟩)),
             eqv (iv sh),
             fun _ u x => ∃ g, u = .slice (some ⟨g, 0, none⟩) 1 1 ∧ Sl intE x (some ⟨g, 0, none⟩) [sh],
             eqv (iv (min H sh)),
             eqv (.agg #[iv (max L sl), iv (min H sh)]),
             eqv (.pointer (some ⟨gb, q * 2, none⟩))]
            (Below.refl _ w5).drew ?_ ?_
          · simp only [List.take_succ_cons, List.take_zero, HopL]
            repeat' apply And.intro
            · refine fvr fun x hR kk rr _ => ?_
              have := rho0 rr 9
              clear rr kk
              exact ev0
            · refine fvr fun x hR kk rr _ => ?_
              have := rho rr 42 (kk.at 0)
              clear rr kk
              obtain ⟨f0, f1, f2, f3, f4, f5⟩ := HFF.out x hR
              exact ev0
            · refine fvr fun x hR kk rr _ => ?_
              have := rho0 rr 9
              clear rr kk
              exact ev0
            · refine fvr fun x hR kk rr _ => ?_
              have := rho rr 44 (kk.at 2)
              clear rr kk
              obtain ⟨f0, f1, f2, f3, f4, f5⟩ := HFF.out x hR
              exact ev0
            · refine fvr fun x hR kk rr _ => ?_
              have := rho0 rr 6
              have := rho rr 45 (kk.at 3)
              clear rr kk
              obtain ⟨f0, f1, f2, f3, f4, f5⟩ := HFF.out x hR
              exact ev0
            · refine fvr fun x hR kk rr _ => ?_
              have := rho rr 46 (kk.at 4)
              clear rr kk
              exact ev0
            · refine fvr fun x hR kk rr _ => ?_
              have := rho rr 47 (kk.at 5)
              clear rr kk
              obtain ⟨f0, f1, f2, f3, f4, f5⟩ := HFF.out x hR
              exact ev0
            · refine fvr fun x hR kk rr _ => ?_
              have := rho0 rr 10
              clear rr kk
              exact ev0
            · refine fvr fun x hR kk rr _ => ?_
              have := rho rr 49 (kk.at 7)
              clear rr kk
              obtain ⟨f0, f1, f2, f3, f4, f5⟩ := HFF.out x hR
              exact ev0
            · refine fvr fun x hR kk rr _ => ?_
              have := rho rr 48 (kk.at 6)
              have := rho rr 50 (kk.at 8)
              clear rr kk
              exact ev0
            · refine fvr fun x hR kk rr _ => ?_
              have := rho0 rr 9
              clear rr kk
              exact ev0
            · refine fvr fun x hR kk rr _ => ?_
              have := rho rr 52 (kk.at 10)
              clear rr kk
              obtain ⟨f0, f1, f2, f3, f4, f5⟩ := HFF.out x hR
              exact ev0
            · refine fvr fun x hR kk rr _ => ?_
              have := rho0 rr 6
              have := rho rr 53 (kk.at 11)
              clear rr kk
              obtain ⟨f0, f1, f2, f3, f4, f5⟩ := HFF.out x hR
              exact ev0
            · refine fvr fun x hR kk rr _ => ?_
              have := rho rr 54 (kk.at 12)
              clear rr kk
              exact ev0
            · refine fvr fun x hR kk rr _ => ?_
              have := rho rr 55 (kk.at 13)
              clear rr kk
              obtain ⟨f0, f1, f2, f3, f4, f5⟩ := HFF.out x hR
              exact ev0
            · refine fvr fun x hR kk rr _ => ?_
              have := rho0 rr 10
              clear rr kk
              exact ev0
            · refine fvr fun x hR kk rr _ => ?_
              have := rho rr 57 (kk.at 15)
              clear rr kk
              obtain ⟨f0, f1, f2, f3, f4, f5⟩ := HFF.out x hR
              exact ev0
            · refine fvr (hs := fun _ _ _ _ h hS => (by obtain ⟨g59, e0, s59⟩ := h; exact ⟨g59, e0, s59.below hS⟩)) fun x hR kk rr _ => ?_
              have e58 := rho rr 58 (kk.at 16)
              clear rr kk
              exact stepE_new (u := .slice (some ⟨x.heap.size, 0, none⟩) 1 1) (w' := x.alloc (.cells #[iv sh] 3)) (wanted_none rfl) (by go_simp) ⟨⟨x.heap.size, rfl, Sl.fresh intE x 3 #[iv sh] [sh] rfl (by simp [maxLen])⟩, (Below.refl _ _).alloc (Nat.le_refl _) _, hR.alloc hR.size _⟩
            · refine fvr fun x hR kk rr _ => ?_
              have := rho rr 56 (kk.at 14)
              obtain ⟨g59, h17, s59⟩ := kk.at 17
              have := rho rr 59 h17
              clear rr kk
              exact ec (hc := least_any g59 sh H x s59)
            · refine fvr fun x hR kk rr _ => ?_
              have := rho rr 51 (kk.at 9)
              have := rho rr 60 (kk.at 18)
              clear rr kk
              exact ev0
            · refine fvr fun x hR kk rr _ => ?_
              have := rho0 rr 6
              have := rho rr 43 (kk.at 1)
              clear rr kk
              obtain ⟨f0, f1, f2, f3, f4, f5⟩ := HFF.out x hR
              exact ev0
            · trivial
          · intro v nR x1 hnR hR hall
            have h19 : v 19 = .agg #[iv (max L sl), iv (min H sh)] := hall 19 (by decide)
            have h20 : v 20 = .pointer (some ⟨gb, q * 2, none⟩) := hall 20 (by decide)
            clear hall hnR
            simp only [List.drop_succ_cons, List.drop_zero, List.take_succ_cons, List.take_zero, frameF, Act.put, List.setIfInBounds_toArray, List.set_cons_zero, List.set_cons_succ, Nat.zero_add, Nat.reduceAdd, h19, h20]
            obtain ⟨f0, f1, f2, f3, f4, f5⟩ := HFF.out x1 hR
            have hBz := HBW.out.under hR
            have fz := hBz.frozen
            have HBZ := Lib.hid hBz
            have HOz := Lib.hid (HO5.out.next hR (by have := HBW.out.lt; omega))
            clear hBz hR f0 f3 f4
            go_wp2_with fail
            go_roundw
            case rel =>
              refine ⟨j + 1, nar bb q sl sh, by omega, by go_num, ?_, Lib.hid HNE.out.symm, Lib.hid ((HOz.out.trans (Fl.Only.set_ gb _ _ _)).trans (Fl.Only.set_ gb _ _ _))⟩
              rw [HL.out, ← bA_set bb _ _ q (by omega)]
              exact (HBZ.out.set_ (q * 2) (iv (max L sl))).set_ (q * 2 + 1) (iv (min H sh))
            case measure => simp [intOf]; omega
        · have hji : ¬ (j : Int) < (ws.length : Int) := by omega
          have he : bb = sayAll E ws k := by rw [HE.out, List.take_of_length_le (by omega)]
          have HT := Lib.hid (HTI.out wr hBw)
          clear HE
          subst he
          have hR5 := Fl.Blk.only hR3 (by have := HGB.out; omega) HO.out
          go_wp2_with (first | (refine wpList_load_row rfl 110 _ rfl gb rfl 110 _ (0, 0) _ hBx Tryz.underlying110 rfl (bA_info _ hbbl) ?_) | (go_at_call 91; refine HT.out.mono ?_; rintro e w6 ⟨b, rfl, hk1, hk2, hk3, hb6⟩; have hR6 := hR5.under hb6; have hbl := hk1.len; have HK := Lib.hid (And.intro hk1 (And.intro hk2 hk3)); clear hk1 hk2 hk3) | (refine wpList_store_row rfl 110 _ _ rfl (w.heap.size + 1) _ rfl rfl 110 zeroA hR6 (bA_info b hbl) (by rw [bA_size, hbl]; rfl) (bA_one b) ?_))
          have hb06 := hBw.next hb6 (Nat.le_refl _)
          have hr := run_loadVar_row (P := Tryz.prog) (w6.setRow (w.heap.size + 1) (bA b)) (w.heap.size + 1) 110 110 (bA b) (0, 0) _ (setRow_heap _ _ _ _ _ _ hR6) Tryz.underlying110 rfl (bA_info b hbl)
          refine bodyPost_ret (v := .tuple #[.agg (bA b), .bool true]) ?_ rfl ⟨b, rfl, HK.out.1, HK.out.2.1, HK.out.2.2, below_setRow hb06 (Nat.le_succ _) _⟩
          rw [results_cell_tmp (p := 4) (u := 5) (ty := 110) (by kernel_rfl)]
          simp [asAddr, hr]
end Sk
end Go.Proofs.YtlpoiggdjggkiaaGreatDoor
end
section
namespace Go.Proofs.YtlpoiggdjggkiaaGreatDoor
namespace Sk
open Go.RowKit Go.Maps
set_option maxRecDepth 100000
def spE : Enc (Int × Int) := ⟨fun p => [iv p.1, iv p.2], 2, fun _ => rfl, fun _ u h => by simp at h; rcases h with rfl | rfl <;> rfl, by decide⟩
theorem tySp : SlTy Tryz.prog 45 37 2 := slTy_of (z := .agg #[iv 0, iv 0]) (bytes := 16) Tryz.underlying45 (by kernel_rfl) rfl (by decide)
theorem cloneSp (A : Option Addr) (l : List (Int × Int)) (c : Nat) (w : World) (hm : l.length ≤ big) (hs : Sl spE w A l) :
    Calls Tryz.prog 41 #[.slice A l.length c] w fun e w' => ∃ v, e = .returned v ∧ Own spE 37 w.heap.size w' v l ∧ Below w.heap.size w w' := by
  cases A with
  | none =>
    have hl : l = [] := by
      by_cases h : l = []
      · exact h
      · obtain ⟨_, _, h, _⟩ := hs h; cases h
    subst hl
    have hnil := fun w => Lib.run_eql_slice_nil (P := Tryz.prog) w 45 37 none 0 c 0 0 Tryz.underlying45
    go_enter Tryz.func41, Tryz.ntmps41
    go_wp2
    go_ret
    exact ⟨_, rfl, Own.nil, Below.refl _ _⟩
  | some ad =>
    have hnil := fun w => Lib.run_eql_slice_nil (P := Tryz.prog) w 45 37 (some ad) l.length c 0 0 Tryz.underlying45
    go_enter Tryz.func41, Tryz.ntmps41
    go_wp2_with (at_builtin; refine wpAppS spE tySp rfl _ _ rfl (Own.empty (Nat.le_refl _)) (hs.alloc _) rfl rfl (by simp) (by simpa using hm) ?_; intro v1 w1 hown1 hb1 _)
    go_ret
    exact ⟨_, rfl, by simpa using hown1, ((Below.refl _ _).alloc (Nat.le_refl _) _).trans hb1⟩
theorem sl_bnd {w : World} {g : Nat} {b : B} (hb : Blk w g 110 (bA b)) (n : Nat) : Sl spE w (some ⟨g, 0, none⟩) (b.take n) := fun _ => by
  refine ⟨g, 0, rfl, hb.lt, fun i x hx j u hu => ?_⟩
  obtain ⟨hi1, hi2⟩ := List.getElem?_eq_some_iff.1 hx
  rw [List.length_take] at hi1
  have hib : i < b.length := by omega
  have hx2 : b[i]? = some x := by
    rw [List.getElem?_take_of_lt (by omega)] at hx
    exact hx
  obtain ⟨g0, g1⟩ := bA_get b i hib
  have hl : lo b i = x.1 ∧ hi b i = x.2 := by simp [lo, hi, List.getD_eq_getElem?_getD, hx2]
  have hj : j < 2 := by have := (List.getElem?_eq_some_iff.1 hu).1; simpa [spE] using this
  have h2 : spE.sz = 2 := rfl
  rw [hb.cell, h2, Nat.zero_add]
  match j, hj, hu with
  | 0, _, hu => rw [Nat.add_zero, g0, hl.1]; exact hu
  | 1, _, hu => rw [g1, hl.2]; exact hu
set_option maxHeartbeats 4000000 in
theorem skTold_spec (E : Int) (Al : Option Addr) (ls : List SLot) (cl : Nat) (Aw : Option Addr) (ws : List Weigh) (c : Nat) (r : List Int) (w : World) (hl : Sl lotE w Al ls) (hw : Sl weighE w Aw ws) (hok : MOk E ls ws) (hg : Good (froms ls) (froms ls).length (sayAll E ws (froms ls).length) r) :
    Calls Tryz.prog 40 #[millV E Al ls.length cl Aw ws.length c] w fun e w' => ∃ gd b, e = .returned (.tuple #[.pointer (some ⟨gd, 0, none⟩), .agg (bA b), iv 0]) ∧ (K (froms ls) (froms ls).length (sayAll E ws (froms ls).length) b ∧ Tail (froms ls).length b ∧ Fixd (froms ls) (froms ls).length b) ∧ Below w.heap.size w w' := by
  have hb1 : Below w.heap.size w (w.alloc (.cells #[iv E, .slice Al ls.length cl, .slice Aw ws.length c] 28)) := (Below.refl _ _).alloc (Nat.le_refl _) _
  have hz1 : (w.alloc (.cells #[iv E, .slice Al ls.length cl, .slice Aw ws.length c] 28)).heap.size = w.heap.size + 1 := by simp
  have hR2 : Blk ((w.alloc (.cells #[iv E, .slice Al ls.length cl, .slice Aw ws.length c] 28)).alloc (.cells zeroA 110)) (w.heap.size + 1) 110 zeroA := by rw [← hz1]; exact Blk.new _ _ _
  have hb2 := hb1.alloc hb1.size (.cells zeroA 110)
  have HOP := Lib.hid (skOpened_spec E Al ls cl Aw ws c _ (hl.below hb2) (hw.below hb2) hok)
  have HBO : Hid (∀ (gd : Nat) (W : World), Below w.heap.size w W → Desk W gd E (.slice Al ls.length cl) (.slice Aw ws.length c) (froms ls) → Calls Tryz.prog 70 #[.pointer (some ⟨gd, 0, none⟩), .agg #[.func (.func 92) #[] #[]]] W fun e w' => ∃ b, e = .returned (.tuple #[.agg (bA b), .bool true]) ∧ K (froms ls) (froms ls).length (sayAll E ws (froms ls).length) b ∧ Tail (froms ls).length b ∧ Fixd (froms ls) (froms ls).length b ∧ Below W.heap.size W w') := Lib.hid fun gd W hW hd =>
    skBounds_spec gd E Al cl Aw ws c (froms ls) r W (by rw [List.length_map]; exact hd) (hw.below hW) (by rw [List.length_map]; exact hok.ws) hok.k hok.e0 hok.e1 hg
  obtain ⟨b0, hb0⟩ : ∃ b0, b0 = sayAll E ws (froms ls).length := ⟨_, rfl⟩
  obtain ⟨nn, hnn⟩ : ∃ nn, nn = (froms ls).length := ⟨_, rfl⟩
  rw [← hb0, ← hnn] at HBO ⊢
  clear hb1 hz1 hok hg hl hw hb0 hnn
  go_enter Tryz.func40, Tryz.ntmps40
  go_wp2_with fail
  refine HOP.out.mono ?_
  generalize (w.alloc (.cells #[iv E, .slice Al ls.length cl, .slice Aw ws.length c] 28)).alloc (.cells zeroA 110) = w2 at *
  rintro e w3 ⟨gd, rfl, hb3, hd3⟩
  have hb03 := hb2.next hb3 (Nat.le_refl _)
  have hR3 := hR2.under hb3
  clear HOP hR2 hb2 hb3
  go_wp2_with fail
  refine (all_spec _).mono ?_
  rintro e w4 ⟨rfl, hb4⟩
  have hd4 := hd3.below hb4
  have hb04 := hb03.next hb4 (Nat.le_refl _)
  have hR4 := hR3.under hb4
  have HBN := Lib.hid (HBO.out gd w4 hb04 hd4)
  clear hd3 hb03 hR3 hb4 hd4 HBO
  go_wp2_with fail
  refine HBN.out.mono ?_
  rintro e w5 ⟨b, rfl, hk1, hk2, hk3, hb5⟩
  have hb05 := hb04.next hb5 (Nat.le_refl _)
  have hR5 := hR4.under hb5
  have hbl := hk1.len
  have HKK := Lib.hid (And.intro hk1 (And.intro hk2 hk3))
  clear hb04 hR4 hb5 HBN hk1 hk2 hk3
  go_upto_region 5 with (refine wpList_store_row rfl 110 _ _ rfl w5.heap.size _ rfl rfl 110 zeroA (heap_alloc_new w5 _) (bA_info b hbl) (by rw [bA_size, hbl]; rfl) (bA_one _) ?_)
  have hx6 : Below w5.heap.size w5 ((w5.alloc (.cells zeroA 110)).setRow w5.heap.size (bA b)) := below_setRow ((Below.refl _ _).alloc (Nat.le_refl _) _) (Nat.le_refl _) _
  have hBn : Blk ((w5.alloc (.cells zeroA 110)).setRow w5.heap.size (bA b)) w5.heap.size 110 (bA b) := setRow_heap _ _ _ _ _ _ (heap_alloc_new w5 _)
  generalize (w5.alloc (.cells zeroA 110)).setRow w5.heap.size (bA b) = w6 at *
  have hR6 := hR5.under hx6
  have hb06 := hb05.next hx6 (Nat.le_refl _)
  have hgl := hR5.lt
  go_upto_region 7 with fail
  refine wp_free_lit (by kernel_rfl) 3 (by kernel_rfl) (by kernel_rfl) (by decide) (fun _ x => Below w6.heap.size w6 x) (fun x x' => Below x.heap.size x x')
    [fun _ u _ => u = .pointer (some ⟨gd, 0, none⟩),
     fun _ u _ => u = .agg (bA b),
     fun _ u _ => u = .pointer (some ⟨gd, 0, none⟩)]
    (Below.refl _ w6).drew ?_ ?_
  · simp only [List.take_succ_cons, List.take_zero, HopL]
    refine ⟨?_, ?_, ?_, trivial⟩
    · refine ⟨fun _ _ _ _ _ h => h, fun _ _ _ _ h _ => h, fun v n x hn hR hk => ?_⟩
      simp only [List.take_succ_cons, List.take_zero, frameF, Act.put, List.setIfInBounds_toArray, List.set_cons_zero, List.set_cons_succ]
      exact stepF_val (by rfl) (by go_simp) ⟨rfl, Below.refl _ _, hR⟩
    · refine ⟨fun _ _ _ _ _ h => h, fun _ _ _ _ h _ => h, fun v n x hn hR hk => ?_⟩
      simp only [List.take_succ_cons, List.take_zero, frameF, Act.put, List.setIfInBounds_toArray, List.set_cons_zero, List.set_cons_succ]
      exact stepF_load_row (by rfl) _ _ rfl w5.heap.size rfl 110 _ (0, 0) _ (hBn.under hR) Tryz.underlying110 rfl (bA_info b hbl) ⟨rfl, Below.refl _ _, hR⟩
    · refine ⟨fun _ _ _ _ _ h => h, fun _ _ _ _ h _ => h, fun v n x hn hR hk => ?_⟩
      have h0 : v 0 = .pointer (some ⟨gd, 0, none⟩) := hk 0 (by kernel_rfl)
      simp only [List.take_succ_cons, List.take_zero, frameF, Act.put, List.setIfInBounds_toArray, List.set_cons_zero, List.set_cons_succ]
      exact stepF_val (by rfl) (by go_simp) ⟨rfl, Below.refl _ _, hR⟩
  · intro v n x hn hR hall
    have h1 : v 1 = .agg (bA b) := hall 1 (by decide)
    have h2 : v 2 = .pointer (some ⟨gd, 0, none⟩) := hall 2 (by decide)
    have hR7 := hR6.under hR
    have hb07 := hb06.next hR (Nat.le_refl _)
    clear hall
    simp only [List.drop_succ_cons, List.drop_zero, List.take_succ_cons, List.take_zero, frameF, Act.put, List.setIfInBounds_toArray, List.set_cons_zero, List.set_cons_succ, h1, h2]
    go_wp2_with (refine wpList_store_row rfl 110 _ _ rfl (w.heap.size + 1) _ rfl rfl 110 zeroA hR7 (bA_info b hbl) (by rw [bA_size, hbl]; rfl) (bA_one _) ?_)
    have hr := run_loadVar_row (P := Tryz.prog) (x.setRow (w.heap.size + 1) (bA b)) (w.heap.size + 1) 110 110 (bA b) (0, 0) _ (setRow_heap _ _ _ _ _ _ hR7) Tryz.underlying110 rfl (bA_info b hbl)
    refine bodyPost_ret (v := .tuple #[.pointer (some ⟨gd, 0, none⟩), .agg (bA b), iv 0]) ?_ rfl ⟨gd, b, rfl, HKK.out, below_setRow hb07 (Nat.le_succ _) _⟩
    exact results_tct (t := 2) (p := 3) (u := 4) (ty := 110) (by kernel_rfl) _ _ _ (w.heap.size + 1) _ (by rfl) hr
set_option maxHeartbeats 4000000 in
theorem skBoundsOf_spec (E : Int) (Al : Option Addr) (ls : List SLot) (cl : Nat) (Aw : Option Addr) (ws : List Weigh) (c : Nat) (r : List Int) (w : World) (hl : Sl lotE w Al ls) (hw : Sl weighE w Aw ws) (hok : MOk E ls ws) (hg : Good (froms ls) (froms ls).length (sayAll E ws (froms ls).length) r) :
    Calls Tryz.prog 15 #[millV E Al ls.length cl Aw ws.length c] w fun e w' => ∃ A2 c2 b, e = .returned (.tuple #[.slice A2 ls.length c2, iv 0]) ∧ Own spE 37 w.heap.size w' (.slice A2 ls.length c2) (b.take ls.length) ∧ (K (froms ls) (froms ls).length (sayAll E ws (froms ls).length) b ∧ Tail (froms ls).length b ∧ Fixd (froms ls) (froms ls).length b) ∧ Below w.heap.size w w' := by
  have hn12 := hok.n1
  have hb1 : Below w.heap.size w (w.alloc (.cells #[iv E, .slice Al ls.length cl, .slice Aw ws.length c] 28)) := (Below.refl _ _).alloc (Nat.le_refl _) _
  have hM1 : Blk (w.alloc (.cells #[iv E, .slice Al ls.length cl, .slice Aw ws.length c] 28)) w.heap.size 28 #[iv E, .slice Al ls.length cl, .slice Aw ws.length c] := Blk.new _ _ _
  have HTO := Lib.hid (skTold_spec E Al ls cl Aw ws c r _ (hl.below hb1) (hw.below hb1) hok hg)
  obtain ⟨b0, hb0⟩ : ∃ b0, b0 = sayAll E ws (froms ls).length := ⟨_, rfl⟩
  obtain ⟨nn, hnn⟩ : ∃ nn, nn = (froms ls).length := ⟨_, rfl⟩
  rw [← hb0, ← hnn] at HTO ⊢
  clear hl hw hok hg hb0 hnn
  go_enter Tryz.func15, Tryz.ntmps15
  go_wp2_with fail
  generalize w.alloc (.cells #[iv E, .slice Al ls.length cl, .slice Aw ws.length c] 28) = w1 at *
  refine HTO.out.mono ?_
  rintro e w2 ⟨gd, b, rfl, hk, hb2⟩
  have hb02 := hb1.next hb2 (Nat.le_refl _)
  have hbl := hk.1.len
  have HK := Lib.hid hk
  have hM2 := hM1.under hb2
  clear hk hb1 hM1 hb2 HTO
  go_upto_region 2 with (refine wpList_store_row rfl 110 _ _ rfl w2.heap.size _ rfl rfl 110 zeroA (heap_alloc_new w2 _) (bA_info b hbl) (by rw [bA_size, hbl]; rfl) (bA_one _) ?_)
  have hx6 : Below w2.heap.size w2 ((w2.alloc (.cells zeroA 110)).setRow w2.heap.size (bA b)) := below_setRow ((Below.refl _ _).alloc (Nat.le_refl _) _) (Nat.le_refl _) _
  have hBn : Blk ((w2.alloc (.cells zeroA 110)).setRow w2.heap.size (bA b)) w2.heap.size 110 (bA b) := setRow_heap _ _ _ _ _ _ (heap_alloc_new w2 _)
  generalize (w2.alloc (.cells zeroA 110)).setRow w2.heap.size (bA b) = w3 at *
  have hM3 := hM2.under hx6
  have hb03 := hb02.next hx6 (Nat.le_refl _)
  have hSp := sl_bnd hBn ls.length
  have htl : (b.take ls.length).length = ls.length := by rw [List.length_take]; omega
  have hCL := cloneSp (some ⟨w2.heap.size, 0, none⟩) (b.take ls.length) 12 w3 (by rw [htl]; unfold big; omega) hSp
  rw [htl] at hCL
  have HCL := Lib.hid hCL
  have HTL := Lib.hid htl
  have m0 := hM3.cell
  have m1 := hM3.lt
  have b1 := hBn.lt
  have hni : (ls.length : Int) ≤ 12 := by omega
  clear hCL hSp htl hM2
  go_wp2_with fail
  refine HCL.out.mono ?_
  rintro e w4 ⟨v, rfl, hown, hb4⟩
  obtain ⟨A2, c2, hv, _, _⟩ := hown.form
  rw [HTL.out] at hv
  subst hv
  have hown2 := hown.base (B' := w.heap.size) hb03.size
  go_wp2_with fail
  go_ret2
  exact ⟨A2, c2, b, rfl, hown2, HK.out, hb03.next hb4 (Nat.le_refl _)⟩
end Sk
end Go.Proofs.YtlpoiggdjggkiaaGreatDoor
end
section
namespace Go.Proofs.YtlpoiggdjggkiaaGreatDoor
namespace Sk
open Go.RowKit
set_option maxRecDepth 100000
set_option maxHeartbeats 2000000 in
theorem skCopied_spec (E : Int) (Al : Option Addr) (ls : List SLot) (cl : Nat) (Aw : Option Addr) (ws : List Weigh) (c : Nat) (w : World) (hl : Sl lotE w Al ls) (hw : Sl weighE w Aw ws) (hn : ws.length ≤ 10) (hln : ls.length ≤ 12) :
    Calls Tryz.prog 23 #[millV E Al ls.length cl Aw ws.length c] w fun e w' => ∃ A2 c2 g, e = .returned (.agg #[iv E, .slice A2 ls.length c2, .slice (some ⟨g, 0, none⟩) ws.length (ws.length + 1)]) ∧ Own lotE 65 w.heap.size w' (.slice A2 ls.length c2) ls ∧
      Own weighE 39 w.heap.size w' (.slice (some ⟨g, 0, none⟩) ws.length (ws.length + 1)) ws ∧ Below w.heap.size w w' := by
  have e1 : IntKind.i64.wrap ((ws.length : Int) + 1) = ((ws.length + 1 : Nat) : Int) := IntWalk.i64_in _ (by omega)
  go_enter Tryz.func23, Tryz.ntmps23
  go_upto_region 1 with fail
  have hM : Blk ((w.alloc (.cells #[iv E, .slice Al ls.length cl, .slice Aw ws.length c] 28)).alloc (.cells #[iv 0, .slice none 0 0, .slice none 0 0] 28)) w.heap.size 28 #[iv E, .slice Al ls.length cl, .slice Aw ws.length c] := (Blk.new _ _ _).alloc _
  have hR : Blk ((w.alloc (.cells #[iv E, .slice Al ls.length cl, .slice Aw ws.length c] 28)).alloc (.cells #[iv 0, .slice none 0 0, .slice none 0 0] 28)) (w.heap.size + 1) 28 #[iv 0, .slice none 0 0, .slice none 0 0] := Blk.new_ _ _ _ (by simp)
  have hb1 : Below w.heap.size w ((w.alloc (.cells #[iv E, .slice Al ls.length cl, .slice Aw ws.length c] 28)).alloc (.cells #[iv 0, .slice none 0 0, .slice none 0 0] 28)) := ((Below.refl _ _).alloc (Nat.le_refl _) _).alloc (by simp) _
  generalize (w.alloc (.cells #[iv E, .slice Al ls.length cl, .slice Aw ws.length c] 28)).alloc (.cells #[iv 0, .slice none 0 0, .slice none 0 0] 28) = w1 at *
  have m1 := hM.cell
  have l1 := hM.lt
  go_upto_region 3 with (first
    | (at_make; refine wpMakeCap weighE tyWs rfl _ _ rfl ws.length (ws.length + 1) rfl (by first | rfl | exact congrArg iv e1) (by omega) (by unfold big; omega) ?_; intro w3 cs hcs hB3 hb3 hz3; have hM3 := hM.under hb3; have m3 := hM3.cell; have l3 := hM3.lt)
    | (refine wpCopyE weighE tyWs rfl _ _ rfl hB3 (hw.below (hb1.next hb3 (Nat.le_refl _))) ws.length (ws.length + 1) c ws.length rfl rfl (by simp) (by rw [hcs]; exact Nat.mul_le_mul_right _ (by omega)) ?_; intro w4 hB4 hb4))
  simp only [List.take_length] at hB4
  have hb14 : Below w1.heap.size w1 w4 := hb3.trans hb4
  have hb04 := hb1.next hb14 (Nat.le_refl _)
  have hM4 := hM.under hb14
  have hR4 := hR.under hb14
  have hl4 := hl.below hb04
  have hge : w.heap.size + 1 < w1.heap.size := hR.lt
  have HOWN := Lib.hid (show ∀ x, Below w4.heap.size w4 x → Own weighE 39 w1.heap.size x (.slice (some ⟨w1.heap.size, 0, none⟩) ws.length (ws.length + 1)) ws from fun x hx =>
    (Own.ofHead (n := ws.length) (m := ws.length + 1) hB4 (by omega) rfl (by omega) (by unfold maxLen; omega) (by have := Nat.mul_le_mul_right weighE.sz (show ws.length ≤ ws.length + 1 by omega); simp only [List.length_drop, Array.length_toList, hcs]; omega)).below hx)
  have HFF : Hid (∀ a : World, Below w4.heap.size w4 a → a.cell? ⟨w.heap.size, 0, none⟩ = some (iv E) ∧ a.cell? ⟨w.heap.size, 1, none⟩ = some (.slice Al ls.length cl)) := fun a h => ⟨(hM4.under h).cell 0, (hM4.under h).cell 1⟩
  have HL4 := Lib.hid hl4
  have HR4 := Lib.hid hR4
  have HB04 := Lib.hid hb04
  have hge4 : w1.heap.size < w4.heap.size := hB4.lt
  clear hM hR hb1 m1 l1 hB3 hb3 hz3 hM3 m3 l3 hB4 hb4 hb14 hb04 hM4 hR4 hl4 hcs hl hw
  simp only [Act.put]
  refine wp_free_lit (by kernel_rfl) 7 (by kernel_rfl) (by kernel_rfl) (by decide) (fun _ x => Below w4.heap.size w4 x) (fun x x' => Below x.heap.size x x')
    [fun _ u _ => u = .pointer (some ⟨w.heap.size, 0, none⟩),
     fun _ u _ => u = iv E,
     fun _ u _ => u = .pointer (some ⟨w.heap.size, 1, none⟩),
     fun _ u _ => u = .slice Al ls.length cl,
     fun _ u x => Own lotE 65 w4.heap.size x u ls,
     fun _ u _ => u = .slice (some ⟨w1.heap.size, 0, none⟩) ws.length (ws.length + 1),
     fun v u _ => u = .agg #[iv E, v 4, .slice (some ⟨w1.heap.size, 0, none⟩) ws.length (ws.length + 1)]]
    (Below.refl _ w4).drew ?_ ?_
  · simp only [List.take_succ_cons, List.take_zero, HopL]
    refine ⟨?_, ?_, ?_, ?_, ?_, ?_, ?_, trivial⟩
    · refine ⟨fun _ _ _ _ _ h => h, fun _ _ _ _ h _ => h, fun v n x hn hR hk => ?_⟩
      obtain ⟨f0, f1⟩ := HFF.out x hR
      skip
      simp only [List.take_succ_cons, List.take_zero, frameF, Act.put, List.setIfInBounds_toArray, List.set_cons_zero, List.set_cons_succ]
      exact stepF_val (by rfl) (by go_simp) ⟨rfl, Below.refl _ _, hR⟩
    · refine ⟨fun _ _ _ _ _ h => h, fun _ _ _ _ h _ => h, fun v n x hn hR hk => ?_⟩
      obtain ⟨f0, f1⟩ := HFF.out x hR
      have h0 : v 0 = .pointer (some ⟨w.heap.size, 0, none⟩) := hk 0 (by kernel_rfl)
      simp only [List.take_succ_cons, List.take_zero, frameF, Act.put, List.setIfInBounds_toArray, List.set_cons_zero, List.set_cons_succ]
      exact stepF_val (by rfl) (by go_simp) ⟨rfl, Below.refl _ _, hR⟩
    · refine ⟨fun _ _ _ _ _ h => h, fun _ _ _ _ h _ => h, fun v n x hn hR hk => ?_⟩
      obtain ⟨f0, f1⟩ := HFF.out x hR
      skip
      simp only [List.take_succ_cons, List.take_zero, frameF, Act.put, List.setIfInBounds_toArray, List.set_cons_zero, List.set_cons_succ]
      exact stepF_val (by rfl) (by go_simp) ⟨rfl, Below.refl _ _, hR⟩
    · refine ⟨fun _ _ _ _ _ h => h, fun _ _ _ _ h _ => h, fun v n x hn hR hk => ?_⟩
      obtain ⟨f0, f1⟩ := HFF.out x hR
      have h0 : v 2 = .pointer (some ⟨w.heap.size, 1, none⟩) := hk 2 (by kernel_rfl)
      simp only [List.take_succ_cons, List.take_zero, frameF, Act.put, List.setIfInBounds_toArray, List.set_cons_zero, List.set_cons_succ]
      exact stepF_val (by rfl) (by go_simp) ⟨rfl, Below.refl _ _, hR⟩
    · refine ⟨fun _ _ _ _ _ h => h, fun _ _ _ _ h hS => h.below hS, fun v n x hn hR hk => ?_⟩
      have h3 : v 3 = .slice Al ls.length cl := hk 3 (by kernel_rfl)
      simp only [List.take_succ_cons, List.take_zero, frameF, Act.put, List.setIfInBounds_toArray, List.set_cons_zero, List.set_cons_succ]
      refine stepF_call (by rfl) (by go_simp) (cloneL Al ls cl x (by unfold big; omega) (HL4.out.below hR)) ?_
      rintro e x' ⟨u, rfl, hown, hbx⟩
      exact ⟨_, rfl, hown.base hR.size, hbx, hR.next hbx (Nat.le_refl _)⟩
    · refine ⟨fun _ _ _ _ _ h => h, fun _ _ _ _ h _ => h, fun v n x hn hR hk => ?_⟩
      obtain ⟨f0, f1⟩ := HFF.out x hR
      skip
      simp only [List.take_succ_cons, List.take_zero, frameF, Act.put, List.setIfInBounds_toArray, List.set_cons_zero, List.set_cons_succ]
      exact stepF_val (by rfl) (by go_simp) ⟨rfl, Below.refl _ _, hR⟩
    · refine ⟨fun v v' u x hvv h => ?_, fun _ _ _ _ h _ => h, fun v n x hn hR hk => ?_⟩
      · have e4 : v 4 = v' 4 := hvv 4 (by kernel_rfl)
        show u = .agg #[iv E, v' 4, .slice (some ⟨w1.heap.size, 0, none⟩) ws.length (ws.length + 1)]
        rw [← e4]
        exact h
      · have h1 : v 1 = iv E := hk 1 (by kernel_rfl)
        have h4 : Own lotE 65 w4.heap.size x (v 4) ls := hk 4 (by kernel_rfl)
        have h5 : v 5 = .slice (some ⟨w1.heap.size, 0, none⟩) ws.length (ws.length + 1) := hk 5 (by kernel_rfl)
        obtain ⟨A, c2, e4, _, _⟩ := h4.form
        simp only [List.take_succ_cons, List.take_zero, frameF, Act.put, List.setIfInBounds_toArray, List.set_cons_zero, List.set_cons_succ]
        exact stepF_val (by rfl) (by go_simp) ⟨rfl, Below.refl _ _, hR⟩
  · intro v n x hn hR hall
    have h6 : v 6 = .agg #[iv E, v 4, .slice (some ⟨w1.heap.size, 0, none⟩) ws.length (ws.length + 1)] := hall 6 (by decide)
    have h4 : Own lotE 65 w4.heap.size x (v 4) ls := hall 4 (by decide)
    have HO4 := Lib.hid h4
    have HX := Lib.hid hR
    have hRx := HR4.out.under hR
    have n0 := hRx.cell
    have n1 := hRx.lt
    have n2 := hRx.frozen
    have HRX := Lib.hid hRx
    obtain ⟨A2, c2, e4, _, _⟩ := h4.form
    rw [e4] at h6 HO4
    clear hall h4 hR hRx
    simp only [List.drop_succ_cons, List.drop_zero, List.take_succ_cons, List.take_zero, frameF, Act.put, List.setIfInBounds_toArray, List.set_cons_zero, List.set_cons_succ, h6]
    go_wp2_with fail
    have hRf : Blk (((x.setCell ⟨w.heap.size + 1, 0, none⟩ (iv E)).setCell ⟨w.heap.size + 1, 1, none⟩ (.slice A2 ls.length c2)).setCell ⟨w.heap.size + 1, 2, none⟩ (.slice (some ⟨w1.heap.size, 0, none⟩) ws.length (ws.length + 1))) (w.heap.size + 1) 28 #[iv E, .slice A2 ls.length c2, .slice (some ⟨w1.heap.size, 0, none⟩) ws.length (ws.length + 1)] := by
      simpa using ((HRX.out.set_ 0 (iv E)).set_ 1 (.slice A2 ls.length c2)).set_ 2 (.slice (some ⟨w1.heap.size, 0, none⟩) ws.length (ws.length + 1))
    have hxs := HX.out.size
    exact bodyPost_ret (results_cell_row (P := Tryz.prog) (fn := Tryz.f23) (p := 2) (ty := 28) (by kernel_rfl) _ _ (w.heap.size + 1) 28 _ (0, 0) _ (by rfl) hRf Tryz.underlying28 (by rfl) (by kernel_rfl)) rfl
      ⟨A2, c2, w1.heap.size, rfl, (((HO4.out.setCell (by simp; omega) _).setCell (by simp; omega) _).setCell (by simp; omega) _).base (by omega), ((((HOWN.out x HX.out).setCell (by simpa using hge) _).setCell (by simpa using hge) _).setCell (by simpa using hge) _).base (by omega),
       (((HB04.out.next HX.out (Nat.le_refl _)).setCell (by simp) _).setCell (by simp) _).setCell (by simp) _⟩
set_option maxHeartbeats 2000000 in
theorem skWeigh_spec (E : Int) (Al : Option Addr) (ls : List SLot) (cl : Nat) (Aw : Option Addr) (ws : List Weigh) (c : Nat) (x : Weigh) (w : World) (hl : Sl lotE w Al ls) (hw : Sl weighE w Aw ws) (hn : ws.length ≤ 9) (hok : MOk E ls ws) (hx : WOk ls.length x) :
    Calls Tryz.prog 8 #[millV E Al ls.length cl Aw ws.length c, x.v] w fun e w' => ∃ A2 c2 A3 c3, e = .returned (.tuple #[millV E A2 ls.length c2 A3 (ws.length + 1) c3, iv 0]) ∧ Own lotE 65 w.heap.size w' (.slice A2 ls.length c2) ls ∧ Own weighE 39 w.heap.size w' (.slice A3 (ws.length + 1) c3) (ws ++ [x]) ∧ Below w.heap.size w w' := by
  have hne : ¬ (ws.length : Int) = 10 := by omega
  have hln := hok.n1
  have HOK := Lib.hid hok
  obtain ⟨x0, x1, x2, x3⟩ := x
  have HX := Lib.hid hx
  clear hok hx
  go_enter Tryz.func8, Tryz.ntmps8
  go_wp2_with fail
  have hM : Blk (((w.alloc (.cells #[iv E, .slice Al ls.length cl, .slice Aw ws.length c] 28)).alloc (.cells #[iv x0, iv x1, iv x2, iv x3] 39)).alloc (.cells #[iv 0, .slice none 0 0, .slice none 0 0] 28)) w.heap.size 28 #[iv E, .slice Al ls.length cl, .slice Aw ws.length c] := ((Blk.new _ _ _).alloc _).alloc _
  have hW : Blk (((w.alloc (.cells #[iv E, .slice Al ls.length cl, .slice Aw ws.length c] 28)).alloc (.cells #[iv x0, iv x1, iv x2, iv x3] 39)).alloc (.cells #[iv 0, .slice none 0 0, .slice none 0 0] 28)) (w.heap.size + 1) 39 #[iv x0, iv x1, iv x2, iv x3] := (Blk.new_ _ _ _ (by simp)).alloc _
  have hR : Blk (((w.alloc (.cells #[iv E, .slice Al ls.length cl, .slice Aw ws.length c] 28)).alloc (.cells #[iv x0, iv x1, iv x2, iv x3] 39)).alloc (.cells #[iv 0, .slice none 0 0, .slice none 0 0] 28)) (w.heap.size + 1 + 1) 28 #[iv 0, .slice none 0 0, .slice none 0 0] := Blk.new_ _ _ _ (by simp)
  have hb1 : Below w.heap.size w (((w.alloc (.cells #[iv E, .slice Al ls.length cl, .slice Aw ws.length c] 28)).alloc (.cells #[iv x0, iv x1, iv x2, iv x3] 39)).alloc (.cells #[iv 0, .slice none 0 0, .slice none 0 0] 28)) := (((Below.refl _ _).alloc (Nat.le_refl _) _).alloc (by simp) _).alloc (by simp; omega) _
  generalize ((w.alloc (.cells #[iv E, .slice Al ls.length cl, .slice Aw ws.length c] 28)).alloc (.cells #[iv x0, iv x1, iv x2, iv x3] 39)).alloc (.cells #[iv 0, .slice none 0 0, .slice none 0 0] 28) = w1 at *
  refine (scheck_spec E Al ls cl Aw ws c w1 (hl.below hb1) (hw.below hb1) HOK.out).mono ?_
  rintro e w2 ⟨rfl, hb2⟩
  have hM2 := hM.under hb2
  have hW2 := hW.under hb2
  have hR2 := hR.under hb2
  have hb02 := hb1.next hb2 (Nat.le_refl _)
  have m0 := hM2.cell
  have m1 := hM2.lt
  clear hM hW hR hb1 hb2
  have HCO := Lib.hid (skCopied_spec E Al ls cl Aw ws c w2 (hl.below hb02) (hw.below hb02) (by omega) (by omega))
  clear hl hw
  go_wp2_with fail
  refine HCO.out.mono ?_
  rintro e w3 ⟨A2, c2, g, rfl, hl3, hw3, hb3⟩
  have hW3 := hW2.under hb3
  have hR3 := hR2.under hb3
  have hb03 := hb02.next hb3 (Nat.le_refl _)
  have hz02 : w.heap.size + 1 + 1 < w2.heap.size := hR2.lt
  clear hM2 hW2 HCO m0 m1
  go_upto_region 7 with fail
  have hO4 : Blk (w3.alloc (.cells #[iv E, .slice A2 ls.length c2, .slice (some ⟨g, 0, none⟩) ws.length (ws.length + 1)] 28)) w3.heap.size 28 #[iv E, .slice A2 ls.length c2, .slice (some ⟨g, 0, none⟩) ws.length (ws.length + 1)] := Blk.new _ _ _
  have hb4 : Below w3.heap.size w3 (w3.alloc (.cells #[iv E, .slice A2 ls.length c2, .slice (some ⟨g, 0, none⟩) ws.length (ws.length + 1)] 28)) := (Below.refl _ _).alloc (Nat.le_refl _) _
  have hW4 := hW3.under hb4
  have hR4 := hR3.under hb4
  have hl4 := hl3.below hb4
  have hw4 := hw3.below hb4
  have hb24 := hb3.next hb4 (Nat.le_refl _)
  change Code.wp _ _ _ _ (w3.alloc (.cells #[iv E, .slice A2 ls.length c2, .slice (some ⟨g, 0, none⟩) ws.length (ws.length + 1)] 28))
  have hz24 : w2.heap.size ≤ w3.heap.size := hb3.size
  generalize (w3.alloc (.cells #[iv E, .slice A2 ls.length c2, .slice (some ⟨g, 0, none⟩) ws.length (ws.length + 1)] 28)) = w4 at *
  generalize w3.heap.size = go at *
  have hlen : (ws ++ [(⟨x0, x1, x2, x3⟩ : Weigh)]).length = ws.length + 1 := by simp
  have n0 := hO4.cell
  have n1 := hO4.lt
  have q0 := hW4.cell
  have q1 := hW4.lt
  have hz4 := hb24.size
  have HLEN := Lib.hid hlen
  clear hlen hW3 hR3 hl3 hw3 hb3 hb4
  go_upto_region 8 with (at_builtin; refine wpApp1G weighE tyWs rfl _ _ rfl hw4 (⟨x0, x1, x2, x3⟩ : Weigh) (by rfl) rfl rfl rfl hb24.size (by unfold big; omega) ?_; intro v5 w5 hown5 hb5 hot5; obtain ⟨A3, c3, e5, _, _⟩ := hown5.form; rw [HLEN.out] at e5; subst e5; have hO5 : Blk w5 go 28 _ := (hot5 go n1 (Own.ne_blkS hw4 hO4 (by decide))).trans hO4; have hl5 := hl4.keep hb5.size (fun b hv => hot5 b (hl4.lt b hv).2 (Own.apart5 hl4 hw4 (by decide) hv)); have p0 := hO5.cell; have p1 := hO5.lt; have p2 := hO5.frozen; have HO5 := Lib.hid hO5; clear hO5 hot5)
  have hO6 : Blk (w5.setCell ⟨go, 2, none⟩ (.slice A3 (ws.length + 1) c3)) go 28 #[iv E, .slice A2 ls.length c2, .slice A3 (ws.length + 1) c3] := by simpa using HO5.out.set_ 2 (.slice A3 (ws.length + 1) c3)
  have hl6 : Own lotE 65 w2.heap.size (w5.setCell ⟨go, 2, none⟩ (.slice A3 (ws.length + 1) c3)) (.slice A2 ls.length c2) ls := (hl5.keep (by simp [World.setCell]) fun b hv => Below.heap_setCell _ _ _ b (fun e => Own.ne_blkS hl5 HO5.out (by decide) (by rw [hv]; exact congrArg some e)))
  have hw6 : Own weighE 39 w2.heap.size (w5.setCell ⟨go, 2, none⟩ (.slice A3 (ws.length + 1) c3)) (.slice A3 (ws.length + 1) c3) (ws ++ [⟨x0, x1, x2, x3⟩]) := (hown5.keep (by simp [World.setCell]) fun b hv => Below.heap_setCell _ _ _ b (fun e => Own.ne_blkS hown5 HO5.out (by decide) (by rw [hv]; exact congrArg some e)))
  have hb26 : Below w2.heap.size w2 (w5.setCell ⟨go, 2, none⟩ (.slice A3 (ws.length + 1) c3)) := (hb24.trans hb5).setCell (by simpa using hz24) _
  generalize w5.setCell ⟨go, 2, none⟩ (.slice A3 (ws.length + 1) c3) = w6 at *
  have HCK := scheck_spec E A2 ls c2 A3 (ws ++ [⟨x0, x1, x2, x3⟩]) c3 w6 hl6.sl hw6.sl (HOK.out.few (by rw [HLEN.out]; omega) fun y hy => by
    rcases List.mem_append.1 hy with h | h
    · exact HOK.out.ws y h
    · rw [List.mem_singleton.1 h]; exact HX.out)
  rw [HLEN.out] at HCK
  have HC6 := Lib.hid HCK
  have o0 := hO6.cell
  have o1 := hO6.lt
  have hR6 := hR2.under hb26
  have hb06 := hb02.next hb26 (Nat.le_refl _)
  clear HCK p0 p1 p2 HO5 hown5 hl5 hb5 hw4 hl4 hW4 hR4 hO4 hR2 hb24 q0 q1 n0 n1
  go_wp2_with fail
  refine HC6.out.mono ?_
  rintro e w7 ⟨rfl, hb7⟩
  have hO7 := hO6.under hb7
  have hR7 := hR6.under hb7
  have hb07 := hb06.next hb7 (Nat.le_refl _)
  have hl7 := hl6.below hb7
  have hw7 := hw6.below hb7
  have o0 := hO7.cell
  have o1 := hO7.lt
  have r0 := hR7.cell
  have r1 := hR7.lt
  have r2 := hR7.frozen
  have HR7 := Lib.hid hR7
  clear HC6 hO6 hR6 hb06 hl6 hw6 hO7 hR7
  go_wp2_with fail
  have hRf : Blk (((w7.setCell ⟨w.heap.size + 1 + 1, 0, none⟩ (iv E)).setCell ⟨w.heap.size + 1 + 1, 1, none⟩ (.slice A2 ls.length c2)).setCell ⟨w.heap.size + 1 + 1, 2, none⟩ (.slice A3 (ws.length + 1) c3)) (w.heap.size + 1 + 1) 28 #[iv E, .slice A2 ls.length c2, .slice A3 (ws.length + 1) c3] := by
    simpa using ((HR7.out.set_ 0 (iv E)).set_ 1 (.slice A2 ls.length c2)).set_ 2 (.slice A3 (ws.length + 1) c3)
  have hr := run_loadVar_row (P := Tryz.prog) _ (w.heap.size + 1 + 1) 28 28 _ (0, 0) _ hRf Tryz.underlying28 rfl (by kernel_rfl)
  refine bodyPost_ret (v := .tuple #[.agg #[iv E, .slice A2 ls.length c2, .slice A3 (ws.length + 1) c3], iv 0]) ?_ rfl ⟨A2, c2, A3, c3, rfl, (((hl7.setCell hz02 _).setCell hz02 _).setCell hz02 _).base (by omega), (((hw7.setCell hz02 _).setCell hz02 _).setCell hz02 _).base (by omega), ((hb07.setCell (by simp; omega) _).setCell (by simp; omega) _).setCell (by simp; omega) _⟩
  rw [results_cell_tmp (p := 4) (u := 5) (ty := 28) (by kernel_rfl)]
  simp [asAddr, hr]
end Sk
end Go.Proofs.YtlpoiggdjggkiaaGreatDoor
end
section
namespace Go.Proofs.YtlpoiggdjggkiaaGreatDoor
namespace Fl
open Go.RowKit Go.Shelf
set_option maxRecDepth 100000
theorem bits_mask (x : Int) : ∃ r : Nat, bits .and .i64 x 65535 = (r : Int) ∧ r ≤ 65535 := by
  have h : (BitVec.ofInt 64 x &&& BitVec.ofInt 64 65535).toNat ≤ 65535 := by
    rw [BitVec.toNat_and]
    exact Nat.le_trans Nat.and_le_right (by decide)
  refine ⟨(BitVec.ofInt 64 x &&& BitVec.ofInt 64 65535).toNat, ?_, h⟩
  show IntKind.i64.wrap (((BitVec.ofInt 64 x &&& BitVec.ofInt 64 65535).toNat : Nat) : Int) = _
  exact IntWalk.i64_in _ (by omega)
theorem turn_nil (w : World) (g : Nat) (A : Option Addr) (c k : Nat) (st : Int) (h : Blk w g 60 #[.slice A 0 c, iv k, .int .u64 st]) (hk : k < 4611686018427387904) :
    Calls Tryz.prog 21 #[.pointer (some ⟨g, 0, none⟩)] w fun e w' => ∃ (r : Nat) (st' : Int), e = .returned (iv r) ∧ r ≤ 65535 ∧ Blk w' g 60 #[.slice A 0 c, iv (k + 1 : Nat), .int .u64 st'] ∧ Only g w w' := by
  have h0 := h.cell 0
  have h1 := h.cell 1
  have h2 := h.cell 2
  have f1 := h.frozen
  have hk1 : IntKind.i64.wrap ((k : Int) + 1) = ((k + 1 : Nat) : Int) := IntWalk.i64_in _ (by omega)
  have hk3 : (0 : Int) < (k : Int) + 1 := by omega
  have HH := Lib.hid h
  clear h
  go_enter Tryz.func21, Tryz.ntmps21
  go_wp2
  go_region
  go_wp2
  go_region
  go_wp2
  obtain ⟨r, hr, hr2⟩ := bits_mask (wrap64 (bits .xor .u64 (IntKind.u64.wrap (IntKind.u64.wrap (st * 1103515245) + 12345) / 8) (IntKind.u64.wrap (IntKind.u64.wrap (st * 1103515245) + 12345) / 524288)))
  rw [hr]
  go_ret
  refine ⟨r, _, rfl, hr2, (HH.out.set_ 1 (.int .i64 ((k : Int) + 1))).set_ 2 (.int .u64 (IntKind.u64.wrap (IntKind.u64.wrap (st * 1103515245) + 12345))), ((Only.set_ g 1 w _).trans (Only.set_ g 2 _ _)).drew.drew⟩
def byteE : Enc Int := ⟨fun x => [.int .u8 x], 1, fun _ => rfl, fun _ u h => by simp at h; subst h; rfl, by decide⟩
theorem turn_cons (w : World) (g : Nat) (b off n c k : Nat) (y st : Int) (h : Blk w g 60 #[.slice (some ⟨b, off, none⟩) n c, iv k, .int .u64 st]) (hk : k < 4611686018427387904) (hn : 0 < n) (hy : w.cell? ⟨b, off + k % n, none⟩ = some (.int .u8 y)) (hbg : b ≠ g) :
    Calls Tryz.prog 21 #[.pointer (some ⟨g, 0, none⟩)] w fun e w' => ∃ (r : Nat) (st' : Int), e = .returned (iv r) ∧ r ≤ 65535 ∧ Blk w' g 60 #[.slice (some ⟨b, off, none⟩) n c, iv (k + 1 : Nat), .int .u64 st'] ∧ Only g w w' := by
  have h0 := h.cell 0
  have h1 := h.cell 1
  have h2 := h.cell 2
  have f1 := h.frozen
  have hk1 : IntKind.i64.wrap ((k : Int) + 1) = ((k + 1 : Nat) : Int) := IntWalk.i64_in _ (by omega)
  have hn' : (0 : Int) < (n : Int) := by omega
  have hn0 : ¬ (n : Int) = 0 := by omega
  have hm : (k : Int).tmod (n : Int) = ((k % n : Nat) : Int) := by rw [Int.tmod_eq_emod_of_nonneg (by omega)]; rfl
  have hlt : k % n < n := Nat.mod_lt _ hn
  have hgb : ¬ g = b := fun e => hbg e.symm
  have HH := Lib.hid h
  clear h
  by_cases hkn : (n : Int) < (k : Int) + 1
  · go_enter Tryz.func21, Tryz.ntmps21
    go_wp2
    go_region
    go_wp2
    go_region
    go_wp2
    go_region
    go_wp2
    go_ret
    refine ⟨(bits_mask _).choose, IntKind.u64.wrap (IntKind.u64.wrap (IntKind.u64.wrap (st + IntKind.u64.wrap (IntKind.u64.wrap y * 977)) * 1103515245) + 12345), ret_eq (congrArg (Value.int .i64) (bits_mask _).choose_spec.1), (bits_mask _).choose_spec.2, ?b, ?o⟩
    case b => exact ((HH.out.set_ 2 (.int .u64 (IntKind.u64.wrap (st + IntKind.u64.wrap (IntKind.u64.wrap y * 977))))).set_ 1 (.int .i64 ((k : Int) + 1))).set_ 2 (.int .u64 (IntKind.u64.wrap (IntKind.u64.wrap (IntKind.u64.wrap (st + IntKind.u64.wrap (IntKind.u64.wrap y * 977)) * 1103515245) + 12345)))
    case o => exact (((Only.set_ g 2 w _).trans (Only.set_ g 1 _ _)).trans (Only.set_ g 2 _ _)).drew.drew.drew
  · have hkm : ¬ (n : Int) < ((k + 1 : Nat) : Int) := by omega
    go_enter Tryz.func21, Tryz.ntmps21
    go_wp2
    go_region
    go_wp2
    go_region
    go_wp2
    go_region
    go_wp2
    go_ret
    refine ⟨(bits_mask _).choose, IntKind.u64.wrap (st + IntKind.u64.wrap (IntKind.u64.wrap y * 977)), ret_eq (congrArg (Value.int .i64) (bits_mask _).choose_spec.1), (bits_mask _).choose_spec.2, ?b, ?o⟩
    case b => exact (HH.out.set_ 2 (.int .u64 (IntKind.u64.wrap (st + IntKind.u64.wrap (IntKind.u64.wrap y * 977))))).set_ 1 (.int .i64 ((k : Int) + 1))
    case o => exact ((Only.set_ g 2 w _).trans (Only.set_ g 1 _ _)).drew.drew.drew
/-- Block g is a spool that has given k numbers; it and its bytes lie below B. -/
def IsSpool (B : Nat) (w : World) (g k : Nat) : Prop := g < B ∧ B ≤ w.heap.size ∧ ∃ A n c st, Blk w g 60 #[.slice A n c, iv k, .int .u64 st] ∧ (0 < n → ∃ b off, A = some ⟨b, off, none⟩ ∧ b ≠ g ∧ b < B ∧ ∀ i, i < n → ∃ y, w.cell? ⟨b, off + i, none⟩ = some (.int .u8 y))
theorem IsSpool.keep {B : Nat} {w w' : World} {g k : Nat} (h : IsSpool B w g k) (hz : w.heap.size ≤ w'.heap.size) (hk : ∀ b, b < B → w'.heap[b]? = w.heap[b]?) : IsSpool B w' g k := by
  obtain ⟨hg, hB, A, n, c, st, hb, hs⟩ := h
  refine ⟨hg, Nat.le_trans hB hz, A, n, c, st, (hk g hg).trans hb, fun hn => ?_⟩
  obtain ⟨b, off, hA, hbg, hbl, hc⟩ := hs hn
  refine ⟨b, off, hA, hbg, hbl, fun i hi => ?_⟩
  obtain ⟨y, hy⟩ := hc i hi
  exact ⟨y, by rw [World.cell?_of_block (w := w) (hk b hbl)]; exact hy⟩
theorem IsSpool.below {B B' : Nat} {w w' : World} {g k : Nat} (h : IsSpool B w g k) (hb : Below B' w w') (hB : B ≤ B') : IsSpool B w' g k := h.keep hb.size fun b hl => hb.block b (by omega)
theorem Only.setCell {g : Nat} {w w' : World} (h : Only g w w') {p : Addr} (hg : g ≤ p.block) (hp : w.heap.size ≤ p.block) (v : Value) : Only g w (w'.setCell p v) :=
  ⟨h.below.setCell hg v, fun b hb hne => (Below.heap_setCell w' p v b (by omega)).trans (h.other b hb hne)⟩
theorem Only.nextB {g B : Nat} {w w1 w2 : World} (h : Only g w w1) (hb : Below B w1 w2) (hg : g ≤ B) (hB : w.heap.size ≤ B) : Only g w w2 :=
  ⟨h.below.trans (hb.mono hg), fun b hl hne => (hb.block b (by omega)).trans (h.other b hl hne)⟩
theorem turn_spec (B : Nat) (w : World) (g k : Nat) (h : IsSpool B w g k) (hk : k < 4611686018427387904) :
    Calls Tryz.prog 21 #[.pointer (some ⟨g, 0, none⟩)] w fun e w' => ∃ r : Nat, e = .returned (iv r) ∧ r ≤ 65535 ∧ IsSpool B w' g (k + 1) ∧ Only g w w' := by
  obtain ⟨hg, hB, A, n, c, st, hb, hs⟩ := h
  by_cases hn : n = 0
  · subst hn
    refine (turn_nil w g A c k st hb hk).mono ?_
    rintro e w' ⟨r, st', rfl, hr, hb', ho⟩
    exact ⟨r, rfl, hr, ⟨hg, Nat.le_trans hB ho.below.size, A, 0, c, st', hb', fun h => absurd h (by omega)⟩, ho⟩
  · have hn0 : 0 < n := Nat.pos_of_ne_zero hn
    obtain ⟨b, off, rfl, hbg, hbl, hc⟩ := hs hn0
    obtain ⟨y, hy⟩ := hc (k % n) (Nat.mod_lt _ hn0)
    refine (turn_cons w g b off n c k y st hb hk hn0 hy hbg).mono ?_
    rintro e w' ⟨r, st', rfl, hr, hb', ho⟩
    refine ⟨r, rfl, hr, ⟨hg, Nat.le_trans hB ho.below.size, _, n, c, st', hb', fun _ => ⟨b, off, rfl, hbg, hbl, fun i hi => ?_⟩⟩, ho⟩
    obtain ⟨y', hy'⟩ := hc i hi
    exact ⟨y', by rw [World.cell?_of_block (w := w) (ho.other b (by omega) hbg)]; exact hy'⟩
theorem upto_spec (B : Nat) (w : World) (g k : Nat) (n : Nat) (h : IsSpool B w g k) (hk : k < 4611686018427387904) (hn : n ≤ 1000000) :
    Calls Tryz.prog 7 #[.pointer (some ⟨g, 0, none⟩), iv n] w fun e w' => ∃ r : Nat, e = .returned (iv r) ∧ r ≤ n ∧ IsSpool B w' g (k + 1) ∧ Only g w w' := by
  have hn1 : IntKind.i64.wrap ((n : Int) + 1) = ((n + 1 : Nat) : Int) := IntWalk.i64_in _ (by omega)
  have hmx : max (1 : Int) ((n : Int) + 1) = ((n + 1 : Nat) : Int) := by omega
  have HT := Lib.hid (turn_spec B w g k h hk)
  go_enter Tryz.func7, Tryz.ntmps7
  go_wp2_with (go_at_call 21; refine HT.out.mono ?_; rintro e w1 ⟨r, rfl, hr, hsp, ho⟩; have hne : ¬ (n : Int) + 1 = 0 := by omega)
  go_ret
  have hm : (r : Int) % ((n : Int) + 1) = ((r % (n + 1) : Nat) : Int) := by push_cast; rfl
  exact ⟨r % (n + 1), ret_eq (congrArg (Value.int .i64) hm), by have := Nat.mod_lt r (show 0 < n + 1 by omega); omega, hsp, ho⟩
theorem from_spec (B : Nat) (w : World) (g k lo hi : Nat) (h : IsSpool B w g k) (hk : k < 4611686018427387904) (hl : lo ≤ hi) (hn : hi ≤ 1000000) :
    Calls Tryz.prog 16 #[.pointer (some ⟨g, 0, none⟩), iv lo, iv hi] w fun e w' => ∃ r : Nat, e = .returned (iv r) ∧ lo ≤ r ∧ r ≤ hi ∧ IsSpool B w' g (k + 1) ∧ Only g w w' := by
  have HU := Lib.hid (upto_spec B w g k (hi - lo) h hk (by omega))
  have hs : (hi : Int) - (lo : Int) = ((hi - lo : Nat) : Int) := by omega
  have hs1 : IntKind.i64.wrap ((hi : Int) - (lo : Int)) = ((hi - lo : Nat) : Int) := by rw [hs]; exact IntWalk.i64_in _ (by omega)
  go_enter Tryz.func16, Tryz.ntmps16
  go_wp2_with (go_at_call 7; (try rw [hs]); refine HU.out.mono ?_; rintro e w1 ⟨r, rfl, hr, hsp, ho⟩; have hs2 : IntKind.i64.wrap ((lo : Int) + (r : Int)) = ((lo + r : Nat) : Int) := IntWalk.i64_in _ (by omega))
  go_ret
  exact ⟨lo + r, by first | rfl | (push_cast; rfl), by omega, by omega, hsp, ho⟩
theorem once_spec (B : Nat) (w : World) (g k n : Nat) (h : IsSpool B w g k) (hk : k < 4611686018427387904) (hl : 1 ≤ n) (hn : n ≤ 1000000) :
    Calls Tryz.prog 17 #[.pointer (some ⟨g, 0, none⟩), iv n] w fun e w' => ∃ b : Bool, e = .returned (.bool b) ∧ IsSpool B w' g (k + 1) ∧ Only g w w' := by
  have HU := Lib.hid (upto_spec B w g k (n - 1) h hk (by omega))
  have hs : (n : Int) - 1 = ((n - 1 : Nat) : Int) := by omega
  go_enter Tryz.func17, Tryz.ntmps17
  go_wp2_with (go_at_call 7; (try rw [hs]); refine HU.out.mono ?_; rintro e w1 ⟨r, rfl, hr, hsp, ho⟩)
  go_ret
  exact ⟨_, rfl, hsp, ho⟩
theorem wound_spec (A : Option Addr) (bs : List Int) (c : Nat) (w : World) (hs : Sl byteE w A bs) :
    Calls Tryz.prog 4 #[.slice A bs.length c] w fun e w' => ∃ g, e = .returned (.pointer (some ⟨g, 0, none⟩)) ∧ g = w.heap.size ∧ IsSpool (g + 1) w' g 0 ∧ Below w.heap.size w w' := by
  go_enter Tryz.func4, Tryz.ntmps4
  go_wp2
  go_ret
  refine ⟨w.heap.size, rfl, rfl, ⟨by omega, by simp, A, bs.length, c, IntKind.u64.wrap bs.length, Blk.new _ _ _, fun hn => ?_⟩, (Below.refl _ _).alloc (Nat.le_refl _) _⟩
  have hne : bs ≠ [] := fun e => by rw [e] at hn; simp at hn
  obtain ⟨b, off, rfl, hb, hc⟩ := hs hne
  refine ⟨b, off, rfl, by omega, by omega, fun i hi => ⟨bs[i], ?_⟩⟩
  have := hc i bs[i] (List.getElem?_eq_getElem hi) 0 (.int .u8 bs[i]) rfl
  rw [World.cell?_of_block (w := w) (Below.heap_alloc w _ b hb)]
  simpa [byteE] using this
end Fl
end Go.Proofs.YtlpoiggdjggkiaaGreatDoor
end
section
namespace Go.Proofs.YtlpoiggdjggkiaaGreatDoor
namespace Sk
open Go.RowKit
set_option maxRecDepth 100000
/-- From, from a number that may lie below 0. -/
theorem fromI_spec (B : Nat) (w : World) (g k : Nat) (l : Int) (d : Nat) (h : Fl.IsSpool B w g k) (hk : k < 4611686018427387904) (h1 : -1000 ≤ l) (h2 : l ≤ 1000) (hd : d ≤ 1000) (u : Int) (hu : u = l + (d : Int)) :
    Calls Tryz.prog 16 #[.pointer (some ⟨g, 0, none⟩), iv l, iv u] w fun e w' => ∃ r : Nat, e = .returned (iv (l + (r : Int))) ∧ r ≤ d ∧ Fl.IsSpool B w' g (k + 1) ∧ Fl.Only g w w' := by
  subst hu
  have HU := Lib.hid (Fl.upto_spec B w g k d h hk (by omega))
  have hs1 : IntKind.i64.wrap (l + (d : Int) - l) = (d : Int) := by rw [show l + (d : Int) - l = (d : Int) by omega]; exact IntWalk.i64_in _ (by omega)
  clear h
  go_enter Tryz.func16, Tryz.ntmps16
  go_wp2_with (go_at_call 7; refine HU.out.mono ?_; rintro e w1 ⟨r, rfl, hr, hsp, ho⟩; have hs2 : IntKind.i64.wrap (l + (r : Int)) = l + (r : Int) := IntWalk.i64_in _ (by omega))
  go_ret
  exact ⟨r, rfl, hr, hsp, ho⟩
theorem whole1_spec (x : SLot) (k : Int) (g : Nat) (w : World) (hg : g < w.heap.size) (hc : w.cell? ⟨g, 0, none⟩ = some (iv k)) :
    Calls Tryz.prog 43 #[x.v, .pointer (some ⟨g, 0, none⟩)] w fun e w' => e = .returned (.bool (x.fr == k)) ∧ Below w.heap.size w w' := by
  obtain ⟨a, b⟩ := x
  go_enter Tryz.func43, Tryz.ntmps43
  go_wp2_with fail
  go_ret
  exact ⟨rfl, (Below.refl _ _).alloc (Nat.le_refl _) _⟩
theorem whole_spec (E : Int) (Al : Option Addr) (ls : List SLot) (cl : Nat) (Aw : Option Addr) (m c : Nat) (k : Int) (w : World) (hn : ls.length ≤ 12) (hl : Sl lotE w Al ls) :
    Calls Tryz.prog 18 #[millV E Al ls.length cl Aw m c, iv k] w fun e w' => e = .returned (.bool (!ls.any fun x => x.fr == k)) ∧ Below w.heap.size w w' := by
  have hb0 : Below w.heap.size w ((w.alloc (.cells #[iv E, .slice Al ls.length cl, .slice Aw m c] 28)).alloc (.cells #[iv k] 3)) := ((Below.refl _ _).alloc (Nat.le_refl _) _).alloc (by simp) _
  have hz : (w.alloc (.cells #[iv E, .slice Al ls.length cl, .slice Aw m c] 28)).heap.size = w.heap.size + 1 := by simp
  have hK : Blk ((w.alloc (.cells #[iv E, .slice Al ls.length cl, .slice Aw m c] 28)).alloc (.cells #[iv k] 3)) (w.heap.size + 1) 3 #[iv k] := by rw [← hz]; exact Blk.new _ _ _
  have HC := Lib.hid (containsL Al ls cl 43 #[.pointer (some ⟨w.heap.size + 1, 0, none⟩)] (fun x => x.fr == k) _ (by unfold big; omega) (hl.below hb0) ⟨callFunc_run (by kernel_rfl), fun x _ w' hb => whole1_spec x k _ w' (hK.under hb).lt ((hK.under hb).cell 0)⟩)
  clear hl hK hz
  go_enter Tryz.func18, Tryz.ntmps18
  go_wp2_with fail
  refine HC.out.mono ?_
  generalize (w.alloc (.cells #[iv E, .slice Al ls.length cl, .slice Aw m c] 28)).alloc (.cells #[iv k] 3) = w1 at *
  rintro e w2 ⟨rfl, hb2⟩
  go_wp2_with fail
  go_ret
  exact ⟨rfl, hb0.next hb2 (Nat.le_refl _)⟩
/-- Whether a weighing is true. -/
def rightB (E : Int) (x : Weigh) (dry : Int) : Bool := decide (100 * (x.reads - E) ≤ dry * (100 + x.hi)) && decide (dry * (100 + x.lo) ≤ 100 * (x.reads + E))
theorem right_spec (E : Int) (Al : Option Addr) (n cl : Nat) (Aw : Option Addr) (m c : Nat) (x : Weigh) (dry : Int) (w : World) (hE0 : 0 ≤ E) (hE1 : E ≤ 50) (hr0 : 0 ≤ x.reads) (hr1 : x.reads ≤ 10000) (hl : 0 ≤ x.lo) (hm : x.lo ≤ x.hi) (hh : x.hi ≤ 60) (hd0 : 0 ≤ dry) (hd1 : dry ≤ 10000) :
    Calls Tryz.prog 20 #[millV E Al n cl Aw m c, x.v, iv dry] w fun e w' => e = .returned (.bool (rightB E x dry)) ∧ Below w.heap.size w w' := by
  obtain ⟨x0, x1, x2, x3⟩ := x
  dsimp only at hr0 hr1 hl hm hh
  have hp1 : 0 ≤ dry * (100 + x3) ∧ dry * (100 + x3) ≤ 10000 * 160 := ⟨Int.mul_nonneg hd0 (by omega), Int.le_trans (Int.mul_le_mul_of_nonneg_right hd1 (by omega)) (by omega)⟩
  have hp2 : 0 ≤ dry * (100 + x2) ∧ dry * (100 + x2) ≤ 10000 * 160 := ⟨Int.mul_nonneg hd0 (by omega), Int.le_trans (Int.mul_le_mul_of_nonneg_right hd1 (by omega)) (by omega)⟩
  have e1 : IntKind.i64.wrap (x1 - E) = x1 - E := IntWalk.i64_in _ (by omega)
  have e2 : IntKind.i64.wrap (100 * (x1 - E)) = 100 * (x1 - E) := IntWalk.i64_in _ (by omega)
  have e3 : IntKind.i64.wrap (100 + x3) = 100 + x3 := IntWalk.i64_in _ (by omega)
  have e5 : IntKind.i64.wrap (x1 + E) = x1 + E := IntWalk.i64_in _ (by omega)
  have e6 : IntKind.i64.wrap (100 * (x1 + E)) = 100 * (x1 + E) := IntWalk.i64_in _ (by omega)
  have e7 : IntKind.i64.wrap (100 + x2) = 100 + x2 := IntWalk.i64_in _ (by omega)
  have e4 : IntKind.i64.wrap (dry * (100 + x3)) = dry * (100 + x3) := IntWalk.i64_in _ (by omega)
  have e8 : IntKind.i64.wrap (dry * (100 + x2)) = dry * (100 + x2) := IntWalk.i64_in _ (by omega)
  clear hp1 hp2 hr0 hr1 hl hm hh hd0 hd1 hE0 hE1
  by_cases h : 100 * (x1 - E) ≤ dry * (100 + x3)
  · have hd : decide (100 * (x1 - E) ≤ dry * (100 + x3)) = true := decide_eq_true h
    have HR : Hid (rightB E ⟨x0, x1, x2, x3⟩ dry = decide (dry * (100 + x2) ≤ 100 * (x1 + E))) := Lib.hid (by unfold rightB; rw [hd, Bool.true_and])
    go_enter Tryz.func20, Tryz.ntmps20
    go_wp2_with fail
    go_ret
    exact ⟨by rw [HR.out]; simp, ((Below.refl _ _).alloc (Nat.le_refl _) _).alloc (by simp) _⟩
  · have hd : decide (100 * (x1 - E) ≤ dry * (100 + x3)) = false := decide_eq_false h
    have HR : Hid (rightB E ⟨x0, x1, x2, x3⟩ dry = false) := Lib.hid (by unfold rightB; rw [hd, Bool.false_and])
    go_enter Tryz.func20, Tryz.ntmps20
    go_wp2_with fail
    go_ret
    exact ⟨by rw [HR.out]; try simp, ((Below.refl _ _).alloc (Nat.le_refl _) _).alloc (by simp) _⟩
end Sk
end Go.Proofs.YtlpoiggdjggkiaaGreatDoor
end
section
namespace Go.Proofs.YtlpoiggdjggkiaaGreatDoor
namespace Sk
open Go.RowKit
set_option maxRecDepth 100000
set_option maxHeartbeats 4000000 in
theorem read_spec (B : Nat) (gs k : Nat) (E : Int) (Al : Option Addr) (n cl : Nat) (Aw : Option Addr) (m c : Nat) (lot dry : Int) (w : World) (h : Fl.IsSpool B w gs k) (hk : k < 1000000) (hE0 : 0 ≤ E) (hE1 : E ≤ 50) (hd0 : 0 ≤ dry) (hd1 : dry ≤ 6400) :
    Calls Tryz.prog 19 #[.pointer (some ⟨gs, 0, none⟩), millV E Al n cl Aw m c, iv lot, iv dry] w fun e w' => ∃ x : Weigh, e = .returned x.v ∧ x.lot = lot ∧ (0 ≤ x.reads ∧ x.reads ≤ 10000) ∧ 0 ≤ x.lo ∧ x.lo ≤ x.hi ∧ x.hi ≤ 60 ∧ Fl.IsSpool B w' gs (k + 4) ∧ Fl.Only gs w w' := by
  have hB := h.2.1
  have hgB := h.1
  have hz : (w.alloc (.cells #[iv E, .slice Al n cl, .slice Aw m c] 28)).heap.size = w.heap.size + 1 := by simp
  have hb0 : Below w.heap.size w ((w.alloc (.cells #[iv E, .slice Al n cl, .slice Aw m c] 28)).alloc (.cells #[iv 0, iv 0, iv 0, iv 0] 39)) := ((Below.refl _ _).alloc (Nat.le_refl _) _).alloc (by simp) _
  have hM : Blk ((w.alloc (.cells #[iv E, .slice Al n cl, .slice Aw m c] 28)).alloc (.cells #[iv 0, iv 0, iv 0, iv 0] 39)) w.heap.size 28 #[iv E, .slice Al n cl, .slice Aw m c] := (Blk.new _ _ _).alloc _
  have hR : Blk ((w.alloc (.cells #[iv E, .slice Al n cl, .slice Aw m c] 28)).alloc (.cells #[iv 0, iv 0, iv 0, iv 0] 39)) (w.heap.size + 1) 39 #[iv 0, iv 0, iv 0, iv 0] := by rw [← hz]; exact Blk.new _ _ _
  have hs0 := h.below hb0 hB
  have hU := Lib.hid (Fl.upto_spec B _ gs k 60 hs0 (by omega) (by omega))
  clear h hs0 hz
  go_enter Tryz.func19, Tryz.ntmps19
  go_wp2_with fail
  generalize (w.alloc (.cells #[iv E, .slice Al n cl, .slice Aw m c] 28)).alloc (.cells #[iv 0, iv 0, iv 0, iv 0] 39) = w1 at *
  refine hU.out.mono ?_
  rintro e w2 ⟨lo, rfl, hlo, hs2, ho2⟩
  have hM2 := Fl.Blk.only hM (by omega) ho2
  have hR2 := Fl.Blk.only hR (by omega) ho2
  have HO2 := Lib.hid ((Fl.Only.of_below hb0 (by omega)).trans ho2)
  obtain ⟨hi, hmn⟩ : ∃ hi : Nat, min (60 : Int) ((lo : Int) + 12) = (hi : Int) := ⟨min 60 (lo + 12), by omega⟩
  have hw1 : IntKind.i64.wrap ((lo : Int) + 12) = (lo : Int) + 12 := IntWalk.i64_in _ (by omega)
  have hhi : lo ≤ hi ∧ hi ≤ 60 := by omega
  have hF := Lib.hid (Fl.from_spec B w2 gs (k + 1) lo hi hs2 (by omega) hhi.1 (by omega))
  clear hU hM hR ho2 hs2 hb0
  go_wp2_with fail
  refine hF.out.mono ?_
  rintro e w3 ⟨hh, rfl, hh1, hh2, hs3, ho3⟩
  have hM3 := Fl.Blk.only hM2 (by omega) ho3
  have hR3 := Fl.Blk.only hR2 (by omega) ho3
  have HO3 := Lib.hid (HO2.out.trans ho3)
  have hF3 := Lib.hid (Fl.from_spec B w3 gs (k + 1 + 1) lo hh hs3 (by omega) hh1 (by omega))
  clear hF hM2 hR2 ho3 hs3 hmn hw1
  go_wp2_with fail
  refine hF3.out.mono ?_
  rintro e w4 ⟨re, rfl, hr1, hr2, hs4, ho4⟩
  have hM4 := Fl.Blk.only hM3 (by omega) ho4
  have hR4 := Fl.Blk.only hR3 (by omega) ho4
  have HO4 := Lib.hid (HO3.out.trans ho4)
  clear hF3 hM3 hR3 ho4
  obtain ⟨d, hd⟩ : ∃ d : Nat, (d : Int) = 2 * E := ⟨(2 * E).toNat, by omega⟩
  have hFI := Lib.hid (fromI_spec B w4 gs (k + 1 + 1 + 1) (-E) d hs4 (by omega) (by omega) (by omega) (by omega) E (by omega))
  have hp : 0 ≤ dry * (100 + (re : Int)) ∧ dry * (100 + (re : Int)) ≤ 6400 * 160 := ⟨Int.mul_nonneg hd0 (by omega), Int.le_trans (Int.mul_le_mul_of_nonneg_right hd1 (by omega)) (by omega)⟩
  obtain ⟨pr, hpr⟩ : ∃ pr, pr = dry * (100 + (re : Int)) := ⟨_, rfl⟩
  rw [← hpr] at hp
  have e1 : IntKind.i64.wrap (100 + (re : Int)) = 100 + (re : Int) := IntWalk.i64_in _ (by omega)
  have e2 : IntKind.i64.wrap (dry * (100 + (re : Int))) = pr := by rw [← hpr]; exact IntWalk.i64_in _ (by omega)
  have e3 : IntKind.i64.wrap (pr + 50) = pr + 50 := IntWalk.i64_in _ (by omega)
  obtain ⟨q, hq⟩ : ∃ q, q = (pr + 50) / 100 := ⟨_, rfl⟩
  have e4 : (pr + 50).tdiv 100 = q := by rw [hq]; exact Int.tdiv_eq_ediv_of_nonneg (by omega)
  have hq2 : 0 ≤ q ∧ q ≤ 12000 := by omega
  have e5 : IntKind.i64.wrap q = q := IntWalk.i64_in _ (by omega)
  have e6 : IntKind.i64.wrap (-E) = -E := IntWalk.i64_in _ (by omega)
  have m0 := hM4.cell
  have m1 := hM4.lt
  have HD := Lib.hid hd
  clear hpr hq hs4 hd
  go_wp2_with fail
  refine hFI.out.mono ?_
  rintro e w5 ⟨r, rfl, hr, hs5, ho5⟩
  have e7 : IntKind.i64.wrap (q + (-E + (r : Int))) = q + (-E + (r : Int)) := IntWalk.i64_in _ (by have := HD.out; omega)
  have hR5 := Fl.Blk.only hR4 (by omega) ho5
  have HO5 := Lib.hid (HO4.out.trans ho5)
  have HR5 := Lib.hid hR5
  have HS5 := Lib.hid hs5
  have n1 := hR5.lt
  have n2 := hR5.frozen
  have n0 := hR5.cell
  clear m0 m1 hFI hM4 hR4 ho5 hs5 hR5
  go_wp2_with fail
  have hRf := (((HR5.out.set_ 0 (iv lot)).set_ 1 (iv (min 10000 (max 0 (q + (-E + (r : Int))))))).set_ 2 (iv (lo : Int))).set_ 3 (iv (hh : Int))
  have hRg : Blk ((((w5.setCell ⟨w.heap.size + 1, 0, none⟩ (iv lot)).setCell ⟨w.heap.size + 1, 1, none⟩ (iv (min 10000 (max 0 (q + (-E + (r : Int))))))).setCell ⟨w.heap.size + 1, 2, none⟩ (iv (lo : Int))).setCell ⟨w.heap.size + 1, 3, none⟩ (iv (hh : Int))) (w.heap.size + 1) 39 #[iv lot, iv (min 10000 (max 0 (q + (-E + (r : Int))))), iv (lo : Int), iv (hh : Int)] := by simpa using hRf
  refine bodyPost_ret (results_cell_row (P := Tryz.prog) (fn := Tryz.f19) (p := 8) (ty := 39) (by kernel_rfl) _ _ (w.heap.size + 1) 39 _ (0, 0) _ (by rfl) hRg Tryz.underlying39 (by rfl) (by kernel_rfl)) rfl
    ⟨⟨lot, min 10000 (max 0 (q + (-E + (r : Int)))), lo, hh⟩, rfl, rfl, by dsimp only; omega, by dsimp only; omega, by dsimp only; omega, by dsimp only; omega, ?_, ?_⟩
  · have := HS5.out.keep (w' := ((((w5.setCell ⟨w.heap.size + 1, 0, none⟩ (iv lot)).setCell ⟨w.heap.size + 1, 1, none⟩ (iv (min 10000 (max 0 (q + (-E + (r : Int))))))).setCell ⟨w.heap.size + 1, 2, none⟩ (iv (lo : Int))).setCell ⟨w.heap.size + 1, 3, none⟩ (iv (hh : Int)))) (by simp [World.setCell]) fun b hb => by
      rw [Below.heap_setCell _ _ _ _ (by simp; omega), Below.heap_setCell _ _ _ _ (by simp; omega), Below.heap_setCell _ _ _ _ (by simp; omega), Below.heap_setCell _ _ _ _ (by simp; omega)]
    exact this
  · exact (((HO5.out.setCell (by simp; omega) (by simp) _).setCell (by simp; omega) (by simp) _).setCell (by simp; omega) (by simp) _).setCell (by simp; omega) (by simp) _
end Sk
end Go.Proofs.YtlpoiggdjggkiaaGreatDoor
end
section
namespace Go.Proofs.YtlpoiggdjggkiaaGreatDoor
namespace Sk
/-- The sum of what a list of places holds, from place i on. -/
def from_ (f : Nat → Int) (i : Nat) (l : List Nat) : Int := ((l.filter fun p => decide (i ≤ p)).map f).sum
theorem from_succ (f : Nat → Int) (i : Nat) : ∀ l : List Nat, l.Nodup → from_ f i l = from_ f (i + 1) l + if i ∈ l then f i else 0 := by
  intro l
  induction l with
  | nil => intro _; simp [from_]
  | cons x l ih =>
    intro hn
    rw [List.nodup_cons] at hn
    have := ih hn.2
    unfold from_ at *
    by_cases h1 : x = i
    · subst h1
      have e1 : decide (x ≤ x) = true := decide_eq_true (Nat.le_refl _)
      have e2 : decide (x + 1 ≤ x) = false := decide_eq_false (by omega)
      rw [if_neg hn.1] at this
      simp only [List.filter_cons, e1, e2, if_true, Bool.false_eq_true, if_false, List.map_cons, List.sum_cons, List.mem_cons, true_or, if_true]
      omega
    · have hm : (i ∈ x :: l) ↔ i ∈ l := by simp; omega
      by_cases h2 : i ≤ x
      · have e1 : decide (i ≤ x) = true := decide_eq_true h2
        have e2 : decide (i + 1 ≤ x) = true := decide_eq_true (by omega)
        simp only [List.filter_cons, e1, e2, if_true, List.map_cons, List.sum_cons, hm]
        omega
      · have e1 : decide (i ≤ x) = false := decide_eq_false h2
        have e2 : decide (i + 1 ≤ x) = false := decide_eq_false (by omega)
        simp only [List.filter_cons, e1, e2, Bool.false_eq_true, if_false, hm]
        exact this
theorem from_congr {f g : Nat → Int} {i : Nat} {l : List Nat} (h : ∀ p ∈ l, i ≤ p → f p = g p) : from_ f i l = from_ g i l := by
  unfold from_
  congr 1
  apply List.map_congr_left
  intro p hp
  rw [List.mem_filter] at hp
  exact h p hp.1 (by simpa using hp.2)
theorem from_all {f : Nat → Int} {i : Nat} {l : List Nat} (h : ∀ p ∈ l, i ≤ p) : from_ f i l = (l.map f).sum := by
  unfold from_
  rw [List.filter_eq_self.2 fun p hp => decide_eq_true (h p hp)]
theorem from_none {f : Nat → Int} {i : Nat} {l : List Nat} (h : ∀ p ∈ l, p < i) : from_ f i l = 0 := by
  unfold from_
  rw [List.filter_eq_nil_iff.2 fun p hp => by have := h p hp; simp; omega]
  rfl
abbrev at_ (r : List Int) (i : Nat) : Int := r.getD i 0
theorem at_set (r : List Int) (i : Nat) (x : Int) (h : i < r.length) (q : Nat) : at_ (r.set i x) q = if q = i then x else at_ r q := by
  unfold at_
  by_cases e : q = i
  · subst e; simp [List.getD_eq_getElem?_getD, h]
  · rw [if_neg e, List.getD_eq_getElem?_getD, List.getD_eq_getElem?_getD, List.getElem?_set_ne (fun x => e x.symm)]
/-- Lots from i on have their weights. -/
structure Part (fr : List Int) (n i : Nat) (r : List Int) : Prop where
  len : r.length = n
  fin : ∀ q, i ≤ q → q < n → parts fr q ≠ [] → at_ r q = ((parts fr q).map (at_ r)).sum
  par : ∀ q, q < i → at_ r q = from_ (at_ r) i (parts fr q)
  nn : ∀ q, q < n → 0 ≤ at_ r q
  b1 : ∀ q, i ≤ q → q < n → at_ r q ≤ 200 * 2 ^ (n - 1 - q)
  b2 : ∀ q, q < i → at_ r q ≤ 200 * (2 ^ (n - i) - 1)
theorem Part.start {fr : List Int} {n : Nat} (hn : fr.length = n) : Part fr n n (List.replicate n 0) := by
  have h0 : ∀ q, at_ (List.replicate n 0) q = 0 := fun q => by
    unfold at_
    rw [List.getD_eq_getElem?_getD, List.getElem?_replicate]
    split <;> rfl
  refine ⟨by simp, fun q h1 h2 => absurd h2 (by omega), fun q h => ?_, fun q _ => by rw [h0]; exact Int.le_refl _, fun q h1 h2 => absurd h2 (by omega), fun q h => ?_⟩
  · rw [h0, from_none fun p hp => hn ▸ parts_lt hp]
  · rw [h0]; simp
/-- The weight of lot i is added to that of which it is a part. -/
theorem Part.step {fr : List Int} {n i : Nat} {r r1 r2 : List Int} {x : Int} (h : Part fr n (i + 1) r) (ht : Tree fr) (hn : fr.length = n) (hi : i < n)
    (h1 : (parts fr i = [] ∧ 0 ≤ x ∧ x ≤ 200 ∧ r1 = r.set i x) ∨ (parts fr i ≠ [] ∧ x = at_ r i ∧ r1 = r))
    (h2 : (fr.getD i (-1) = -1 ∧ r2 = r1) ∨ ∃ f : Nat, fr.getD i (-1) = (f : Int) ∧ r2 = r1.set f (at_ r1 f + x)) : Part fr n i r2 := by
  have hr1l : r1.length = n := by rcases h1 with ⟨_, _, _, e⟩ | ⟨_, _, e⟩ <;> rw [e] <;> simp [h.len]
  have hx : 0 ≤ x ∧ x ≤ 200 * 2 ^ (n - 1 - i) := by
    have hpow : (1 : Int) ≤ 2 ^ (n - 1 - i) := by
      have := Nat.one_le_two_pow (n := n - 1 - i)
      exact_mod_cast this
    rcases h1 with ⟨_, h3, h4, _⟩ | ⟨_, h3, _⟩
    · exact ⟨h3, by omega⟩
    · rw [h3]
      have := h.b2 i (by omega)
      have e : n - (i + 1) = n - 1 - i := by omega
      rw [e] at this
      exact ⟨h.nn i hi, by omega⟩
  have hr1 : ∀ q, at_ r1 q = if q = i then x else at_ r q := fun q => by
    rcases h1 with ⟨_, _, _, e⟩ | ⟨_, e3, e⟩
    · rw [e, at_set r i x (by rw [h.len]; exact hi)]
    · rw [e]; split
      · next e => rw [e, e3]
      · rfl
  have hfi : ∀ f : Nat, fr.getD i (-1) = (f : Int) → f < i := fun f hf => by
    have := (ht i (by omega)).2
    omega
  have hr2 : ∀ q, at_ r2 q = if q = i then x else at_ r q + if fr.getD i (-1) = (q : Int) then x else 0 := fun q => by
    rcases h2 with ⟨e1, e2⟩ | ⟨f, e1, e2⟩
    · rw [e2, hr1, e1]
      split
      · rfl
      · rw [if_neg (by omega)]; omega
    · have hf := hfi f e1
      rw [e2, at_set r1 f _ (by omega), hr1 f, if_neg (show ¬ f = i by omega)]
      by_cases hq : q = f
      · subst hq
        rw [if_pos rfl, if_neg (show ¬ q = i by omega), if_pos e1]
      · rw [if_neg hq, hr1]
        split
        · rfl
        · rw [if_neg (by omega)]; omega
  have hup : ∀ q, i < q → at_ r2 q = at_ r q := fun q hq => by
    rw [hr2, if_neg (by omega), if_neg (by
      intro e
      have := (ht i (by omega)).2
      omega)]
    omega
  have hmem : ∀ q, i ∈ parts fr q ↔ fr.getD i (-1) = (q : Int) := fun q => by rw [mem_parts]; exact ⟨fun h => h.2, fun h => ⟨by omega, h⟩⟩
  have hpows : (2 : Int) ^ (n - i) = 2 * 2 ^ (n - (i + 1)) := by
    rw [show n - i = (n - (i + 1)) + 1 by omega, Int.pow_succ]
    omega
  have e1 : n - (i + 1) = n - 1 - i := by omega
  refine ⟨?_, fun q hq1 hq2 hne => ?_, fun q hq => ?_, fun q hq => ?_, fun q hq1 hq2 => ?_, fun q hq => ?_⟩
  · rcases h2 with ⟨_, e⟩ | ⟨_, _, e⟩ <;> rw [e] <;> simp [hr1l]
  · by_cases hqi : q = i
    · subst hqi
      rw [hr2, if_pos rfl]
      rcases h1 with ⟨h3, _⟩ | ⟨_, h3, _⟩
      · exact absurd h3 hne
      · rw [h3, h.par q (by omega), from_all fun p hp => parts_gt ht hp]
        congr 1
        exact List.map_congr_left fun p hp => (hup p (parts_gt ht hp)).symm
    · rw [hup q (by omega), h.fin q (by omega) hq2 hne]
      congr 1
      exact List.map_congr_left fun p hp => (hup p (by have := parts_gt ht hp; omega)).symm
  · rw [hr2, if_neg (by omega), h.par q (by omega), from_succ _ i _ (nodup_parts fr q), hr2 i, if_pos rfl]
    congr 1
    · exact from_congr fun p _ hp => (hup p (by omega)).symm
    · simp only [hmem]
  · rw [hr2]
    have := h.nn q hq
    split
    · exact hx.1
    · split <;> omega
  · by_cases hqi : q = i
    · subst hqi
      rw [hr2, if_pos rfl]
      exact hx.2
    · rw [hup q (by omega)]
      exact h.b1 q (by omega) hq2
  · rw [hr2, if_neg (by omega), hpows]
    have := h.b2 q (by omega)
    rw [e1] at this ⊢
    split <;> omega
theorem Part.weights {fr : List Int} {n : Nat} {r : List Int} (h : Part fr n 0 r) (ht : Tree fr) (hn : fr.length = n) : Weights fr r := fun i hi => by
  have hin : i < n := by
    false_or_by_contra
    apply hi
    apply List.eq_nil_iff_forall_not_mem.2
    intro p hp
    have h1 := parts_gt ht hp
    have h2 := parts_lt hp
    omega
  exact h.fin i (Nat.zero_le _) hin hi
theorem Part.le {fr : List Int} {n i : Nat} {r : List Int} (h : Part fr n i r) (hn : n ≤ 6) (q : Nat) (hq : q < n) : 0 ≤ at_ r q ∧ at_ r q ≤ 12600 := by
  refine ⟨h.nn q hq, ?_⟩
  by_cases hqi : q < i
  · have h1 := h.b2 q hqi
    have h2 : (2 : Nat) ^ (n - i) ≤ 2 ^ 6 := Nat.pow_le_pow_right (by decide) (by omega)
    have h3 : (2 : Int) ^ (n - i) ≤ 64 := by exact_mod_cast h2
    omega
  · have h1 := h.b1 q (by omega) hq
    have h2 : (2 : Nat) ^ (n - 1 - q) ≤ 2 ^ 5 := Nat.pow_le_pow_right (by decide) (by omega)
    have h3 : (2 : Int) ^ (n - 1 - q) ≤ 32 := by exact_mod_cast h2
    omega
theorem Part.bnd {fr : List Int} {n : Nat} {r : List Int} (h : Part fr n 0 r) (hn : n ≤ 6) (q : Nat) : 0 ≤ at_ r q ∧ at_ r q ≤ 6400 := by
  by_cases hq : q < n
  · refine ⟨h.nn q hq, ?_⟩
    have h1 := h.b1 q (Nat.zero_le _) hq
    have h2 : (2 : Nat) ^ (n - 1 - q) ≤ 2 ^ 5 := Nat.pow_le_pow_right (by decide) (by omega)
    have h3 : (2 : Int) ^ (n - 1 - q) ≤ 32 := by exact_mod_cast h2
    omega
  · have : at_ r q = 0 := by
      unfold at_
      rw [List.getD_eq_getElem?_getD, List.getElem?_eq_none (by rw [h.len]; omega)]
      rfl
    omega
end Sk
end Go.Proofs.YtlpoiggdjggkiaaGreatDoor
end
section
namespace Go.Proofs.YtlpoiggdjggkiaaGreatDoor
namespace Sk
open Go.RowKit
set_option maxRecDepth 100000
theorem slLot {w : World} {g : Nat} {a b : Int} (h : Blk w g 65 #[iv a, iv b]) : Sl lotE w (some ⟨g, 0, none⟩) [⟨a, b⟩] := fun _ => by
  refine ⟨g, 0, rfl, h.lt, fun i x hx j u hu => ?_⟩
  obtain ⟨hi, he⟩ := List.getElem?_eq_some_iff.1 hx
  have hi0 : i = 0 := by simpa using hi
  subst hi0
  obtain rfl : (⟨a, b⟩ : SLot) = x := by simpa using he
  rw [h.cell]
  simpa [lotE] using hu
theorem zero_int : ∃ i z, (Tryz.prog).info? 3 = some i ∧ i.zero = some z ∧ z.cells.toList = intE.cells 0 := by
  obtain ⟨i, h1, h2, _⟩ := info_parts (P := Tryz.prog) (e := 3) (z := iv 0) (size := 1) (bytes := 8) (by kernel_rfl)
  exact ⟨i, iv 0, h1, h2, rfl⟩
/-- Lots that come one after the other. -/
structure LOk (ls : List SLot) : Prop where
  kind : ∀ x ∈ ls, 0 ≤ x.kind ∧ x.kind ≤ 3
  tree : Tree (froms ls)
theorem LOk.nil : LOk [] := ⟨fun _ h => (by cases h), fun p h => absurd h (Nat.not_lt_zero _)⟩
theorem LOk.snoc {ls : List SLot} (h : LOk ls) (f q : Int) (h1 : -1 ≤ f) (h2 : f < (ls.length : Int)) (h3 : 0 ≤ q) (h4 : q ≤ 3) : LOk (ls ++ [⟨f, q⟩]) := by
  refine ⟨fun x hx => ?_, fun p hp => ?_⟩
  · rcases List.mem_append.1 hx with hx | hx
    · exact h.kind x hx
    · rw [List.mem_singleton.1 hx]; exact ⟨h3, h4⟩
  · simp only [List.length_map, List.length_append, List.length_singleton] at hp
    rw [froms, List.map_append, List.getD_eq_getElem?_getD]
    by_cases hpl : p < ls.length
    · rw [List.getElem?_append_left (by simpa using hpl)]
      have := h.tree p (by simpa using hpl)
      rw [List.getD_eq_getElem?_getD] at this
      exact this
    · have : p = ls.length := by omega
      subst this
      rw [List.getElem?_append_right (by simp)]
      simp
      exact ⟨h1, h2⟩
theorem any_parts (ls : List SLot) (p : Nat) : (ls.any fun x => x.fr == (p : Int)) = !decide (parts (froms ls) p = []) := by
  rw [Bool.eq_iff_iff, List.any_eq_true]
  simp only [Bool.not_eq_true', decide_eq_false_iff_not]
  constructor
  · rintro ⟨x, hx, he⟩ hp
    obtain ⟨i, hi⟩ := List.getElem?_of_mem hx
    have : i ∈ parts (froms ls) p := by
      rw [mem_parts]
      have hil := (List.getElem?_eq_some_iff.1 hi).1
      refine ⟨by simpa using hil, ?_⟩
      rw [List.getD_eq_getElem?_getD, List.getElem?_map, hi]
      simpa using he
    rw [hp] at this
    cases this
  · intro hp
    obtain ⟨i, hi⟩ := List.exists_mem_of_ne_nil _ hp
    obtain ⟨h1, h2⟩ := mem_parts.1 hi
    have hil : i < ls.length := by simpa using h1
    refine ⟨ls[i], List.getElem_mem hil, ?_⟩
    rw [List.getD_eq_getElem?_getD, List.getElem?_map, List.getElem?_eq_getElem hil] at h2
    simpa using h2
theorem cell_int {w : World} {g : Nat} {r : List Int} (h : Blk w g 3 (r.map iv).toArray) {i : Nat} (hi : i < r.length) : w.cell? ⟨g, i, none⟩ = some (iv (at_ r i)) := by
  rw [h.cell]
  simp [at_, List.getD_eq_getElem?_getD, hi]
theorem set_int {w : World} {g : Nat} {r : List Int} (h : Blk w g 3 (r.map iv).toArray) (i : Nat) (x : Int) : Blk (w.setCell ⟨g, i, none⟩ (iv x)) g 3 ((r.set i x).map iv).toArray := by
  have := h.set_ i (iv x)
  rwa [List.setIfInBounds_toArray, ← List.map_set] at this
set_option maxHeartbeats 8000000 in
theorem lawMade_spec (B : Nat) (gs k0 : Nat) (w : World) (h : Fl.IsSpool B w gs k0) (hk0 : k0 < 1000) :
    Calls Tryz.prog 5 #[.pointer (some ⟨gs, 0, none⟩), iv 6, iv 200] w fun e w' => ∃ (E : Int) (ls : List SLot) (Al : Option Addr) (cl : Nat) (Ar : Option Addr) (r : List Int) (k : Nat),
      e = .returned (.tuple #[millV E Al ls.length cl none 0 0, .slice Ar ls.length ls.length]) ∧ MOk E ls [] ∧ E ≤ 5 ∧ ls.length ≤ 6 ∧ ls.length ≤ cl ∧ Part (froms ls) ls.length 0 r ∧ Own lotE 65 w.heap.size w' (.slice Al ls.length cl) ls ∧ Own intE 3 w.heap.size w' (.slice Ar ls.length ls.length) r ∧ k ≤ k0 + 400 ∧ Fl.IsSpool B w' gs k ∧ Fl.Only gs w w' := by
  have hB := h.2.1
  have hgB := h.1
  have hb0 : Below w.heap.size w (w.alloc (.cells #[iv 0, .slice none 0 0, .slice none 0 0] 28)) := (Below.refl _ _).alloc (Nat.le_refl _) _
  have h6 : Blk (w.alloc (.cells #[iv 0, .slice none 0 0, .slice none 0 0] 28)) w.heap.size 28 #[iv 0, .slice none 0 0, .slice none 0 0] := Blk.new _ _ _
  have hU := Lib.hid (Fl.upto_spec B _ gs k0 5 (h.below hb0 hB) (by omega) (by omega))
  have HO0 := Lib.hid (Fl.Only.of_below hb0 (show gs ≤ w.heap.size by omega))
  clear h hb0
  go_enter Tryz.func5, Tryz.ntmps5
  go_wp2_with fail
  generalize w.alloc (.cells #[iv 0, .slice none 0 0, .slice none 0 0] 28) = w1 at *
  refine hU.out.mono ?_
  rintro e w2 ⟨E, rfl, hE, hs2, ho2⟩
  have h62 := Fl.Blk.only h6 (by omega) ho2
  have HO2 := Lib.hid (HO0.out.trans ho2)
  have hgl := h62.lt
  have hb3 : Below w2.heap.size w2 (w2.alloc (.cells #[iv (E : Int), .slice none 0 0, .slice none 0 0] 28)) := (Below.refl _ _).alloc (Nat.le_refl _) _
  have h83 : Blk (w2.alloc (.cells #[iv (E : Int), .slice none 0 0, .slice none 0 0] 28)) w2.heap.size 28 #[iv (E : Int), .slice none 0 0, .slice none 0 0] := Blk.new _ _ _
  have h63 := h62.under hb3
  have HO3 := Lib.hid (HO2.out.next hb3 (by omega))
  have hF := Lib.hid (Fl.from_spec B _ gs (k0 + 1) 1 6 (hs2.below hb3 (by omega)) (by omega) (by omega) (by omega))
  clear h6 hU ho2 h62 hs2 hb3
  go_wp2_with fail
  generalize w2.alloc (.cells #[iv (E : Int), .slice none 0 0, .slice none 0 0] 28) = w3 at *
  refine hF.out.mono ?_
  rintro e w4 ⟨n, rfl, hn1, hn6, hs4, ho4⟩
  have h64 := Fl.Blk.only h63 (by omega) ho4
  have h84 := Fl.Blk.only h83 (by omega) ho4
  have HO4 := Lib.hid (HO3.out.trans ho4)
  obtain ⟨g8, hg8⟩ : ∃ g8, g8 = w2.heap.size := ⟨_, rfl⟩
  rw [← hg8] at h84 hgl ⊢
  have HS4 := Lib.hid hs4
  clear hF h63 h83 ho4 hs4 hg8
  go_wp2_with fail
  go_loopw [9, 10, 20] (fun _ _ i wx => ∃ (k : Nat) (ls : List SLot) (AL : Option Addr) (cL : Nat), k ≤ n ∧ i = iv k ∧ ls.length = k ∧ k ≤ cL ∧ LOk ls ∧ Blk wx w.heap.size 28 #[iv 0, .slice none 0 0, .slice none 0 0] ∧ Blk wx g8 28 #[iv (E : Int), .slice AL k cL, .slice none 0 0] ∧ Hid (Own lotE 65 (g8 + 1) wx (.slice AL k cL) ls) ∧ Hid (∃ j, j ≤ k0 + 2 + 20 * k ∧ Fl.IsSpool B wx gs j) ∧ Hid (Fl.Only gs w wx)) (fun _ _ i _ => n - (intOf i).toNat)
  case atStart => exact ⟨0, [], none, 0, Nat.zero_le _, rfl, rfl, Nat.le_refl _, LOk.nil, h64, h84, Lib.hid Own.nil, Lib.hid ⟨_, by omega, HS4.out⟩, HO4⟩
  case round =>
    clear h64 h84
    obtain ⟨k, ls, AL, cL, hk, rfl, hlk, hkc, hL, h6, h8, HL, HS, HO⟩ := hrel
    have hbw : w.heap.size ≤ wr.heap.size := HO.out.below.size
    have HLK := Lib.hid hlk
    have HLO := Lib.hid hL
    clear hlk hL
    by_cases hlt : k < n
    · as_aux_lemma =>
      have hki : (k : Int) < (n : Int) := by omega
      obtain ⟨j, hj, hsj⟩ := HS.out
      go_upto_region 6 with fail
      go_cut [29] from 23 to 29 (fun v wx => ∃ z : Bool, v = .bool z ∧ Hid (z = true → 0 < k) ∧ Hid (Fl.Only gs wr wx ∧ ∃ j, j ≤ k0 + 3 + 20 * k ∧ Fl.IsSpool B wx gs j))
      case first => as_aux_lemma =>
        by_cases h0 : 0 < k
        · have h0i : (0 : Int) < (k : Int) := by omega
          have HON := Lib.hid (Fl.once_spec B wr gs j 7 hsj (by omega) (by omega) (by omega))
          go_wp2_with fail
          refine HON.out.mono ?_
          rintro e wa ⟨b, rfl, hsa, hoa⟩
          go_wp2_with fail
          go_meet
          exact ⟨!b, rfl, Lib.hid fun _ => h0, Lib.hid ⟨hoa, _, by omega, hsa⟩⟩
        · have h0i : ¬ (0 : Int) < (k : Int) := by omega
          go_wp2_with fail
          go_meet
          exact ⟨false, rfl, Lib.hid (fun h => by cases h), Lib.hid ⟨Fl.Only.refl _ _, j, by omega, hsj⟩⟩
      case rest =>
      obtain ⟨z, rfl, HZ, HC1⟩ := hcut
      generalize wc = wa at *
      go_upto_if 29 with fail
      go_cut [10] from 30 to 36 (fun v wx => ∃ f : Int, v = iv f ∧ -1 ≤ f ∧ f < (k : Int) ∧ Hid (Fl.Only gs wa wx ∧ ∃ j, j ≤ k0 + 4 + 20 * k ∧ Fl.IsSpool B wx gs j))
      case first => as_aux_lemma =>
        obtain ⟨j2, hj2, hsa⟩ := HC1.out.2
        cases z
        · go_wp2_with fail
          go_meet
          exact ⟨-1, rfl, by omega, by omega, Lib.hid ⟨Fl.Only.refl _ _, j2, by omega, hsa⟩⟩
        · have h0 := HZ.out rfl
          have e1 : IntKind.i64.wrap ((k : Int) - 4) = (k : Int) - 4 := IntWalk.i64_in _ (by omega)
          have e2 : max (0 : Int) ((k : Int) - 4) = ((k - 4 : Nat) : Int) := by omega
          have e3 : IntKind.i64.wrap ((k : Int) - 1) = ((k - 1 : Nat) : Int) := by rw [show (k : Int) - 1 = ((k - 1 : Nat) : Int) by omega]; exact IntWalk.i64_in _ (by omega)
          have HFR := Lib.hid (Fl.from_spec B wa gs j2 (k - 4) (k - 1) hsa (by omega) (by omega) (by omega))
          go_wp2_with fail
          refine HFR.out.mono ?_
          rintro e wb ⟨f, rfl, hf1, hf2, hsb, hob⟩
          go_wp2_with fail
          go_meet
          exact ⟨(f : Int), rfl, by omega, by omega, Lib.hid ⟨hob, _, by omega, hsb⟩⟩
      case rest =>
      obtain ⟨f, rfl, hf1, hf2, HC⟩ := hcut
      generalize wc = w5 at *
      have HO5 := Lib.hid (HC1.out.1.trans HC.out.1)
      have h65 := Fl.Blk.only h6 (by omega) HO5.out
      have h85 := Fl.Blk.only h8 (by omega) HO5.out
      have HL5 := Lib.hid (HL.out.keep HO5.out.below.size fun b hb => HO5.out.other b (HL.out.lt b hb).2 (by have := (HL.out.lt b hb).1; omega))
      have HO5w := Lib.hid (HO.out.trans HO5.out)
      obtain ⟨j5, hj5, hs5⟩ := HC.out.2
      have hB5 := hs5.2.1
      have hg85 := h85.lt
      have H85 := Lib.hid fun (x : World) (hx : Fl.Only gs w5 x) => Fl.Blk.only h85 (show g8 ≠ gs by omega) hx
      have HS5 := Lib.hid hs5
      clear h6 h8 HL HC1 HC HS HO5 hs5 hsj hj h85 HZ
      go_upto_region 8 with fail
      refine wfl 7 (fun nR x => Fl.Only gs w5 x ∧ ∃ j, j ≤ k0 + 4 + 20 * k + nR ∧ Fl.IsSpool B x gs j) (fun x x' => Fl.Only gs x x')
        [eqv (.pointer (some ⟨g8, 1, none⟩)),
         eqv (.slice AL k cL),
         eqv (iv f),
         eqv (.pointer (some ⟨gs, 0, none⟩)),
         fun _ u x => ∃ q : Nat, u = iv (q : Int) ∧ q ≤ 3,
         fun _ u x => ∃ q : Nat, u = .agg #[iv f, iv (q : Int)] ∧ q ≤ 3,
         fun _ u x => ∃ (g q : Nat), u = .slice (some ⟨g, 0, none⟩) 1 1 ∧ q ≤ 3 ∧ w5.heap.size ≤ g ∧ Blk x g 65 #[iv f, iv (q : Int)]]
        (⟨(Fl.Only.refl gs w5).drew, j5, by omega, HS5.out.keep (Nat.le_refl _) (fun _ _ => rfl)⟩) ?_ ?_
      · simp only [List.take_succ_cons, List.take_zero, HopL]
        repeat' apply And.intro
        · refine fvn fun x hnR hR kk rr _ => ?_
          have := rho0 rr 8
          clear rr kk
          have f1 := (H85.out x hR.1).cell 1
          exact ev ⟨rfl, Fl.Only.refl _ _, ⟨hR.1, (by obtain ⟨_, j', q1, q2⟩ := hR; exact ⟨j', by omega, q2⟩)⟩⟩
        · refine fvn fun x hnR hR kk rr _ => ?_
          have := rho rr 37 (kk.at 0)
          clear rr kk
          have f1 := (H85.out x hR.1).cell 1
          have f2 := (H85.out x hR.1).lt
          exact ev ⟨rfl, Fl.Only.refl _ _, ⟨hR.1, (by obtain ⟨_, j', q1, q2⟩ := hR; exact ⟨j', by omega, q2⟩)⟩⟩
        · refine fvn fun x hnR hR kk rr _ => ?_
          have := rho0 rr 10
          clear rr kk
          exact ev ⟨rfl, Fl.Only.refl _ _, ⟨hR.1, (by obtain ⟨_, j', q1, q2⟩ := hR; exact ⟨j', by omega, q2⟩)⟩⟩
        · refine fvn fun x hnR hR kk rr _ => ?_
          have := rho0 rr 0
          clear rr kk
          exact ev ⟨rfl, Fl.Only.refl _ _, ⟨hR.1, (by obtain ⟨_, j', q1, q2⟩ := hR; exact ⟨j', by omega, q2⟩)⟩⟩
        · refine fvn (hs := fun _ _ _ _ h hS => (by obtain ⟨q41, e0, b41⟩ := h; exact ⟨q41, e0, b41⟩)) fun x hnR hR kk rr _ => ?_
          have e40 := rho rr 40 (kk.at 3)
          clear rr kk
          obtain ⟨hO, j', q1, q2⟩ := hR
          refine stepE_call (wanted_none rfl) (by go_simp) (Fl.upto_spec B x gs j' 3 q2 (by simp at hnR; omega) (by omega)) ?_
          rintro e x' ⟨q, rfl, hq, hsx, hox⟩
          exact ⟨_, rfl, ⟨q, rfl, hq⟩, hox, hO.trans hox, _, by omega, hsx⟩
        · refine fvn (hs := fun _ _ _ _ h hS => (by obtain ⟨q42, e0, b42⟩ := h; exact ⟨q42, e0, b42⟩)) fun x hnR hR kk rr _ => ?_
          have e39 := rho rr 39 (kk.at 2)
          obtain ⟨q41, h4, b41⟩ := kk.at 4
          have e41 := rho rr 41 h4
          clear rr kk
          exact stepE_val (wanted_none rfl) (by go_simp) ⟨⟨q41, rfl, b41⟩, Fl.Only.refl _ _, hR.1, (by obtain ⟨_, j', q1, q2⟩ := hR; exact ⟨j', by omega, q2⟩)⟩
        · refine fvn (hs := fun _ _ _ _ h hS => (by obtain ⟨g43, q43, e0, b43, c43, d43⟩ := h; exact ⟨g43, q43, e0, b43, c43, Fl.Blk.only d43 (by omega) hS⟩)) fun x hnR hR kk rr _ => ?_
          obtain ⟨q42, h5, b42⟩ := kk.at 5
          have e42 := rho rr 42 h5
          clear rr kk
          exact stepE_new (u := .slice (some ⟨x.heap.size, 0, none⟩) 1 1) (w' := x.alloc (.cells #[iv f, iv (q42 : Int)] 65)) (wanted_none rfl) (by go_simp) ⟨⟨x.heap.size, q42, rfl, b42, hR.1.below.size, Blk.new _ _ _⟩, Fl.Only.of_below ((Below.refl _ _).alloc (Nat.le_refl _) _) (by have := hR.1.below.size; omega), hR.1.next ((Below.refl _ _).alloc (Nat.le_refl _) _) (by have := hR.1.below.size; omega), (by obtain ⟨_, j', q1, q2⟩ := hR; exact ⟨j', by omega, q2.below ((Below.refl _ _).alloc (Nat.le_refl _) _) (by have := q2.2.1; omega)⟩)⟩
        · trivial
      · intro v nR x1 hnR hR hall
        have h1 : v 1 = .slice AL k cL := hall 1 (by decide)
        obtain ⟨g43, q43, h6, b43, c43, d43⟩ := hall 6 (by decide)
        clear hall
        simp only [List.drop_succ_cons, List.drop_zero, List.take_succ_cons, List.take_zero, frameF, Act.put, List.setIfInBounds_toArray, List.set_cons_zero, List.set_cons_succ, Nat.zero_add, Nat.reduceAdd, h1, h6]
        have hx5 := hR.1.below.size
        have hOL := HL5.out.keep hR.1.below.size fun b hb => hR.1.other b (HL5.out.lt b hb).2 (by have := (HL5.out.lt b hb).1; omega)
        have hSl := slLot d43
        have h8x := H85.out x1 hR.1
        have h6x := Fl.Blk.only h65 (by omega) hR.1
        have HLN : Hid ((ls ++ [(⟨f, (q43 : Int)⟩ : SLot)]).length = k + 1) := Lib.hid (by rw [List.length_append, HLK.out]; rfl)
        have HRX := Lib.hid hR
        have hkb : k + 1 ≤ big := by unfold big; omega
        clear d43 hR
        go_wp2_with (at_builtin; refine wpAppS lotE tyLots rfl _ _ rfl hOL hSl rfl rfl (by omega) (by rw [HLK.out]; exact hkb) ?_; intro v6 w6 hown6 hb6 hk6; obtain ⟨A6, c6, hv6, hc6, _⟩ := hown6.form; rw [HLN.out] at hv6 hc6; subst hv6; have h86 : Blk w6 g8 28 _ := (hb6.block g8 (by omega)).trans h8x; have n0 := h86.cell; have n1 := h86.lt; have n2 := h86.frozen)
        have H66 := Lib.hid ((hb6.block w.heap.size (by omega)).trans h6x)
        have HOW6 := Lib.hid hown6
        have HB6 := Lib.hid hb6
        have H86 := Lib.hid h86
        go_roundw
        case rel =>
          refine ⟨k + 1, ls ++ [⟨f, (q43 : Int)⟩], A6, c6, by omega, by go_num, HLN.out, hc6, HLO.out.snoc f q43 hf1 (by rw [HLK.out]; exact hf2) (by omega) (by omega), ?_, ?_, Lib.hid (HOW6.out.setCell (p := ⟨g8, 1, none⟩) (by simp) _), ?_, Lib.hid ?_⟩
          · exact Blk.far H66.out (p := ⟨g8, 1, none⟩) (by simp <;> omega) _
          · simpa using H86.out.set_ 1 (.slice A6 (k + 1) c6)
          · obtain ⟨hO, j', q1, q2⟩ := HRX.out
            refine Lib.hid ⟨j', by have := hnR; simp at this; omega, ?_⟩
            refine (q2.below HB6.out (by omega)).keep (by simp [World.setCell]) fun b hb => Below.heap_setCell _ ⟨g8, 1, none⟩ _ b (by simp <;> omega)
          · exact (HO5w.out.trans HRX.out.1 |>.trans (Fl.Only.of_below (Below.refl _ _) (by omega))) |> fun hh => ((hh.nextB HB6.out (by omega) (by omega))).setCell (p := ⟨g8, 1, none⟩) (by simp <;> omega) (by simp <;> omega) _
        case measure => simp [intOf]; omega
    · have hki : ¬ (k : Int) < (n : Int) := by omega
      obtain rfl : k = n := by omega
      obtain ⟨j, hj, hsj⟩ := HS.out
      have n0 := h8.cell
      have n1 := h8.lt
      have hkb : k ≤ big := by unfold big; omega
      have e1 : IntKind.i64.wrap ((k : Int) - 1) = (k : Int) - 1 := IntWalk.i64_in _ (by omega)
      go_upto_region 11 with (at_make; refine wpMakeN intE tyInts 0 zero_int rfl _ _ rfl k rfl rfl hkb ?_; intro w6 hown6 hb6)
      obtain ⟨hR6, hR6'⟩ := hown6.full
      rw [flat_int] at hR6
      have h66 := h6.under hb6
      have h86 := h8.under hb6
      have HL6 := Lib.hid (HL.out.below hb6)
      have HO6 := Lib.hid (HO.out.next hb6 (by omega))
      have HS6 : Hid (∃ j, j ≤ k0 + 2 + 20 * k + (k - k) ∧ Fl.IsSpool B w6 gs j) := Lib.hid ⟨j, by omega, hsj.below hb6 (by have := hsj.2.1; omega)⟩
      obtain ⟨gR, hgR⟩ : ∃ gR, gR = wr.heap.size := ⟨_, rfl⟩
      rw [← hgR] at hR6 ⊢
      have hgR8 : g8 < gR := by omega
      have hgRw : w.heap.size < gR := by have := h6.lt; omega
      have m0 := h86.cell
      have m1 := h86.lt
      clear n0 n1 hown6 hb6 h6 h8 HL HO HS hsj hgR
      go_wp2_with fail
      clear m0 m1
      go_loopw [12, 13] (fun v _ wx => ∃ (q : Nat) (z : Int) (r : List Int), q ≤ k ∧ z = (q : Int) - 1 ∧ v = iv z ∧ Blk wx gR 3 (r.map iv).toArray ∧ Hid (Part (froms ls) k q r) ∧ Blk wx w.heap.size 28 #[iv 0, .slice none 0 0, .slice none 0 0] ∧ Blk wx g8 28 #[iv (E : Int), .slice AL k cL, .slice none 0 0] ∧ Hid (Own lotE 65 (g8 + 1) wx (.slice AL k cL) ls) ∧ Hid (∃ j, j ≤ k0 + 2 + 20 * k + (k - q) ∧ Fl.IsSpool B wx gs j) ∧ Hid (Fl.Only gs w wx)) (fun v _ _ => (intOf v + 1).toNat)
      case atStart => exact ⟨k, (k : Int) - 1, List.replicate k 0, Nat.le_refl _, rfl, (by first | rfl | rw [e1]), hR6, Lib.hid (Part.start (by rw [List.length_map]; exact HLK.out)), h66, h86, HL6, HS6, HO6⟩
      case round =>
        clear hR6 h66 h86 HL6 HS6 HO6
        obtain ⟨q, z, r, hq, hz, rfl, hR, HP, h6, h8, HL, HS, HO⟩ := hrel
        obtain ⟨j, hj, hsj⟩ := HS.out
        by_cases h0 : 0 < q
        · obtain ⟨p, rfl⟩ : ∃ p, q = p + 1 := ⟨q - 1, by omega⟩
          obtain rfl : z = (p : Int) := by omega
          have hpi : (0 : Int) ≤ (p : Int) := by omega
          have hWH := whole_spec (E : Int) AL ls cL none 0 0 (p : Int) wr (by rw [HLK.out]; omega) HL.out.sl
          rw [HLK.out, any_parts] at hWH
          obtain ⟨b, hb⟩ : ∃ b, b = decide (parts (froms ls) p = []) := ⟨_, rfl⟩
          rw [← hb, Bool.not_not] at hWH
          have HWH := Lib.hid hWH
          have HBB := Lib.hid hb
          have n0 := h8.cell
          have n1 := h8.lt
          clear hWH hb hz
          go_wp2_with fail
          refine HWH.out.mono ?_
          rintro e w7 ⟨rfl, hb7⟩
          have hR7 := hR.under hb7
          have h67 := h6.under hb7
          have h87 := h8.under hb7
          have HL7 := Lib.hid (HL.out.below hb7)
          have HO7 := Lib.hid (HO.out.next hb7 (by omega))
          have hs7 := hsj.below hb7 (by have := hsj.2.1; omega)
          clear n0 n1 HWH hR h6 h8 HL HO HS hsj hb7
          have hrl : r.length = k := HP.out.len
          go_upto_if 61 with fail
          go_cut [] from 62 to 67 (fun wx => ∃ (x : Int) (r1 : List Int), Hid ((parts (froms ls) p = [] ∧ 0 ≤ x ∧ x ≤ 200 ∧ r1 = r.set p x) ∨ (parts (froms ls) p ≠ [] ∧ x = at_ r p ∧ r1 = r)) ∧ Blk wx gR 3 (r1.map iv).toArray ∧ Blk wx w.heap.size 28 #[iv 0, .slice none 0 0, .slice none 0 0] ∧ Blk wx g8 28 #[iv (E : Int), .slice AL k cL, .slice none 0 0] ∧ Hid (Own lotE 65 (g8 + 1) wx (.slice AL k cL) ls) ∧ Hid (∃ j, j ≤ k0 + 2 + 20 * k + (k - p) ∧ Fl.IsSpool B wx gs j) ∧ Hid (Fl.Only gs w wx))
          case first => as_aux_lemma =>
            cases b
            · have hne : parts (froms ls) p ≠ [] := by simpa using HBB.out.symm
              have HW := Lib.hid hne
              clear hne
              go_wp2_with fail
              go_meet
              exact ⟨at_ r p, r, Lib.hid (Or.inr ⟨HW.out, rfl, rfl⟩), hR7, h67, h87, HL7, Lib.hid ⟨j, by omega, hs7⟩, HO7⟩
            · have hpe : parts (froms ls) p = [] := by simpa using HBB.out.symm
              have HW := Lib.hid hpe
              have HU := Lib.hid (Fl.upto_spec B w7 gs j 200 hs7 (by omega) (by omega))
              have hpk : (p : Int) < (k : Int) := by omega
              have hB7 := hs7.2.1
              clear hpe
              go_wp2_with fail
              refine HU.out.mono ?_
              rintro e w8 ⟨x, rfl, hx, hs8, ho8⟩
              have hR8 := Fl.Blk.only hR7 (by omega) ho8
              have h68 := Fl.Blk.only h67 (by omega) ho8
              have h88 := Fl.Blk.only h87 (by omega) ho8
              have HL8 := Lib.hid (HL7.out.keep ho8.below.size fun b hb => ho8.other b (HL7.out.lt b hb).2 (by have := (HL7.out.lt b hb).1; omega))
              have HO8 := Lib.hid (HO7.out.trans ho8)
              have HS8 := Lib.hid hs8
              have c0 := cell_int hR8 (i := p) (by omega)
              have c1 := hR8.lt
              have c2 := hR8.frozen
              have HR8 := Lib.hid hR8
              have HL88 : Hid (∀ b, (Value.slice AL k cL).ownBlock = some b → b ≠ gR) := Lib.hid fun b hb e => Own.ne_blkS HL8.out HR8.out (by decide) (by rw [hb, e])
              have hsz8 := HS8.out.2.1
              clear HU ho8 hs8 hR8
              go_wp2_with fail
              go_meet
              refine ⟨(x : Int), r.set p (x : Int), Lib.hid (Or.inl ⟨HW.out, by omega, by omega, rfl⟩), set_int HR8.out p (x : Int), Blk.far h68 (p := ⟨gR, p, none⟩) (by simp <;> omega) _, Blk.far h88 (p := ⟨gR, p, none⟩) (by simp <;> omega) _, Lib.hid ?_, Lib.hid ⟨j + 1, by omega, ?_⟩, Lib.hid ?_⟩
              · exact HL8.out.keep (by simp [World.setCell]) fun b hb => Below.heap_setCell _ ⟨gR, p, none⟩ _ b (HL88.out b hb)
              · exact HS8.out.keep (by simp [World.setCell]) fun b hb => Below.heap_setCell _ ⟨gR, p, none⟩ _ b (by simp <;> omega)
              · exact HO8.out.setCell (p := ⟨gR, p, none⟩) (by simp <;> omega) (by simp <;> omega) _
          case rest =>
          obtain ⟨X, r1, HX, hR8, h68, h88, HL8, HS8, HO8⟩ := hcut
          generalize wc = w8 at *
          have hr1l : r1.length = k := by rcases HX.out with ⟨_, _, _, e⟩ | ⟨_, _, e⟩ <;> rw [e] <;> simp [hrl]
          have hxr : at_ r1 p = X := by
            rcases HX.out with ⟨_, _, _, e⟩ | ⟨_, e2, e⟩
            · rw [e, at_set r p X (by omega), if_pos rfl]
            · rw [e, e2]
          have HXR := Lib.hid hxr
          have HXB : Hid (0 ≤ X ∧ X ≤ 12600) := Lib.hid (by
            rcases HX.out with ⟨_, e1, e2, _⟩ | ⟨_, e2, _⟩
            · omega
            · rw [e2]; exact HP.out.le hn6 p (by omega))
          have HRB : Hid (∀ f : Nat, f < p → at_ r1 f = at_ r f) := Lib.hid fun f hf => by
            rcases HX.out with ⟨_, _, _, e⟩ | ⟨_, _, e⟩
            · rw [e, at_set r p X (by omega), if_neg (by omega)]
            · rw [e]
          clear hR7 h67 h87 HL7 HO7 hs7 hxr HBB
          obtain ⟨b1, off1, y, rfl, hb1, hy, hc0, hc1⟩ := HL8.out.sl.atL (show p < ls.length by rw [HLK.out]; omega)
          have hfy : (froms ls).getD p (-1) = y.fr := by rw [List.getD_eq_getElem?_getD, List.getElem?_map, hy]; rfl
          have HFY := Lib.hid hfy
          have htr := HLO.out.tree p (by rw [List.length_map, HLK.out]; omega)
          rw [hfy] at htr
          have HTR := Lib.hid htr
          have hpk : (p : Int) < (k : Int) := by omega
          have n0 := h88.cell
          have n1 := h88.lt
          obtain ⟨yf, yk⟩ := y
          dsimp only at hc0 hc1 HFY HTR htr
          clear hy hfy htr
          by_cases hf : yf = -1
          · subst hf
            go_wp2_with fail
            go_roundw
            case rel => exact ⟨p, (p : Int) - 1, r1, by omega, rfl, by go_num, hR8, Lib.hid (HP.out.step HLO.out.tree (by rw [List.length_map, HLK.out]) (by omega) HX.out (Or.inl ⟨HFY.out, rfl⟩)), h68, h88, HL8, HS8, HO8⟩
            case measure => simp [intOf] <;> omega
          · have hfn : (yf != -1) = true := by simpa using hf
            obtain ⟨f, rfl⟩ : ∃ f : Nat, yf = (f : Int) := ⟨yf.toNat, by have := HTR.out.1; omega⟩
            have hfp : f < p := by have := HTR.out.2; omega
            have hfk : (f : Int) < (k : Int) := by omega
            have HFB := Lib.hid (HP.out.le hn6 f (by omega))
            have HR8 := Lib.hid hR8
            have HC8 : Hid (∀ W, Below w8.heap.size w8 W → W.cell? ⟨gR, f, none⟩ = some (iv (at_ r1 f)) ∧ W.cell? ⟨gR, p, none⟩ = some (iv X) ∧ gR < W.heap.size) := Lib.hid fun W hW => by
              have := HR8.out.under hW
              exact ⟨cell_int this (by omega), by rw [← HXR.out]; exact cell_int this (by omega), this.lt⟩
            obtain ⟨a, ha⟩ : ∃ a, a = at_ r1 f := ⟨_, rfl⟩
            rw [← ha] at HC8
            have ew : IntKind.i64.wrap (a + X) = a + X := IntWalk.i64_in _ (by rw [ha, HRB.out f hfp]; have h1 := HFB.out; have h2 := HXB.out; omega)
            have HA := Lib.hid ha
            clear hf ha hR8
            go_upto_region 18 with fail
            refine wfl 10 (fun nR x => Below w8.heap.size w8 x) (fun x x' => Below x.heap.size x x')
              [eqv (.slice (some ⟨gR, 0, none⟩) k k),
               eqv (iv (f : Int)),
               eqv (.pointer (some ⟨gR, f, none⟩)),
               eqv (iv a),
               eqv (.slice (some ⟨gR, 0, none⟩) k k),
               eqv (iv (p : Int)),
               eqv (.pointer (some ⟨gR, p, none⟩)),
               eqv (iv X),
               eqv (iv (a + X)),
               eqv (.pointer (some ⟨gR, f, none⟩))]
              (Below.refl _ w8).drew ?_ ?_
            · simp only [List.take_succ_cons, List.take_zero, HopL]
              repeat' apply And.intro
              · refine fvr fun x hR kk rr _ => ?_
                have := rho0 rr 11
                clear rr kk
                exact ev0
              · refine fvr fun x hR kk rr _ => ?_
                have := rho0 rr 13
                clear rr kk
                exact ev0
              · refine fvr fun x hR kk rr _ => ?_
                have := rho rr 76 (kk.at 0)
                have := rho rr 77 (kk.at 1)
                clear rr kk
                obtain ⟨f0, f1, f2⟩ := HC8.out x hR
                exact ev0
              · refine fvr fun x hR kk rr _ => ?_
                have := rho rr 78 (kk.at 2)
                clear rr kk
                obtain ⟨f0, f1, f2⟩ := HC8.out x hR
                exact ev0
              · refine fvr fun x hR kk rr _ => ?_
                have := rho0 rr 11
                clear rr kk
                exact ev0
              · refine fvr fun x hR kk rr _ => ?_
                have := rho0 rr 12
                clear rr kk
                exact ev0
              · refine fvr fun x hR kk rr _ => ?_
                have := rho rr 80 (kk.at 4)
                have := rho rr 81 (kk.at 5)
                clear rr kk
                obtain ⟨f0, f1, f2⟩ := HC8.out x hR
                exact ev0
              · refine fvr fun x hR kk rr _ => ?_
                have := rho rr 82 (kk.at 6)
                clear rr kk
                obtain ⟨f0, f1, f2⟩ := HC8.out x hR
                exact ev0
              · refine fvr fun x hR kk rr _ => ?_
                have := rho rr 79 (kk.at 3)
                have := rho rr 83 (kk.at 7)
                clear rr kk
                exact ev0
              · refine fvr fun x hR kk rr _ => ?_
                have := rho rr 76 (kk.at 0)
                have := rho rr 77 (kk.at 1)
                clear rr kk
                obtain ⟨f0, f1, f2⟩ := HC8.out x hR
                exact ev0
              · trivial
            · intro v nR w9 hnR hR hall
              have h8 : v 8 = iv (a + X) := hall 8 (by decide)
              have h9 : v 9 = .pointer (some ⟨gR, f, none⟩) := hall 9 (by decide)
              clear hall hnR
              simp only [List.drop_succ_cons, List.drop_zero, List.take_succ_cons, List.take_zero, frameF, Act.put, List.setIfInBounds_toArray, List.set_cons_zero, List.set_cons_succ, Nat.zero_add, Nat.reduceAdd, h8, h9]
              have hR9 := HR8.out.under hR
              have h69 := h68.under hR
              have h89 := h88.under hR
              have HL9 := Lib.hid (HL8.out.below hR)
              have HO9 := Lib.hid (HO8.out.next hR (by have := h88.lt; omega))
              obtain ⟨j9, hj9, hs9⟩ := HS8.out
              have HS9 := Lib.hid (hs9.below hR (by have := hs9.2.1; omega))
              have hsz9 := HS9.out.2.1
              have c0 := (HC8.out w9 hR).1
              have c1 := hR9.lt
              have c2 := hR9.frozen
              have HR9 := Lib.hid hR9
              have HL99 : Hid (∀ b, (Value.slice (some ⟨b1, off1, none⟩) k cL).ownBlock = some b → b ≠ gR) := Lib.hid fun b hb e => Own.ne_blkS HL9.out HR9.out (by decide) (by rw [hb, e])
              clear hR9 hR h68 h88 hs9
              go_wp2_with fail
              go_roundw
              case rel =>
                refine ⟨p, (p : Int) - 1, r1.set f (a + X), by omega, rfl, by go_num, set_int HR9.out f (a + X), Lib.hid (HP.out.step HLO.out.tree (by rw [List.length_map, HLK.out]) (by omega) HX.out (Or.inr ⟨f, HFY.out, by rw [HA.out]⟩)), Blk.far h69 (p := ⟨gR, f, none⟩) (by simp <;> omega) _, Blk.far h89 (p := ⟨gR, f, none⟩) (by simp <;> omega) _, Lib.hid ?_, Lib.hid ⟨j9, hj9, ?_⟩, Lib.hid ?_⟩
                · exact HL9.out.keep (by simp [World.setCell]) fun b hb => Below.heap_setCell _ ⟨gR, f, none⟩ _ b (HL99.out b hb)
                · exact HS9.out.keep (by simp [World.setCell]) fun b hb => Below.heap_setCell _ ⟨gR, f, none⟩ _ b (by simp <;> omega)
                · exact HO9.out.setCell (p := ⟨gR, f, none⟩) (by simp <;> omega) (by simp <;> omega) _
              case measure => simp [intOf] <;> omega
        · obtain rfl : q = 0 := by omega
          obtain rfl : z = -1 := by omega
          have hsz := hsj.2.1
          have n0 := h8.cell
          have n1 := h8.lt
          have m1 := h6.lt
          have m2 := h6.frozen
          have m0 := h6.cell
          have HH6 := Lib.hid h6
          have HR6 := Lib.hid hR
          have HSJ := Lib.hid hsj
          clear h6 hR hz hsj
          go_wp2_with fail
          have hRf : Blk (((wr.setCell ⟨w.heap.size, 0, none⟩ (iv (E : Int))).setCell ⟨w.heap.size, 1, none⟩ (.slice AL k cL)).setCell ⟨w.heap.size, 2, none⟩ (.slice none 0 0)) w.heap.size 28 #[iv (E : Int), .slice AL k cL, .slice none 0 0] := by
            simpa using ((HH6.out.set_ 0 (iv (E : Int))).set_ 1 (.slice AL k cL)).set_ 2 (.slice none 0 0)
          have hr := run_loadVar_row (P := Tryz.prog) _ w.heap.size 28 28 _ (0, 0) _ hRf Tryz.underlying28 rfl (by kernel_rfl)
          have hok : MOk (E : Int) ls [] := ⟨by omega, by omega, by rw [HLK.out]; omega, by rw [HLK.out]; omega, by simp, HLO.out.kind, HLO.out.tree, fun _ h => by cases h⟩
          have hrl : r.length = k := HP.out.len
          have hbr : ∀ b, b ≠ w.heap.size → (((wr.setCell ⟨w.heap.size, 0, none⟩ (iv (E : Int))).setCell ⟨w.heap.size, 1, none⟩ (.slice AL k cL)).setCell ⟨w.heap.size, 2, none⟩ (.slice none 0 0)).heap[b]? = wr.heap[b]? := fun b hb => by
            rw [Below.heap_setCell _ _ _ _ (by simpa using hb), Below.heap_setCell _ _ _ _ (by simpa using hb), Below.heap_setCell _ _ _ _ (by simpa using hb)]
          have hbs : (((wr.setCell ⟨w.heap.size, 0, none⟩ (iv (E : Int))).setCell ⟨w.heap.size, 1, none⟩ (.slice AL k cL)).setCell ⟨w.heap.size, 2, none⟩ (.slice none 0 0)).heap.size = wr.heap.size := by simp [World.setCell]
          refine bodyPost_ret (v := .tuple #[.agg #[iv (E : Int), .slice AL k cL, .slice none 0 0], .slice (some ⟨gR, 0, none⟩) k k]) ?_ rfl ⟨(E : Int), ls, AL, cL, some ⟨gR, 0, none⟩, r, j, by rw [HLK.out], hok, by omega, by rw [HLK.out]; omega, by rw [HLK.out]; omega, by rw [HLK.out]; exact HP.out, ?_, ?_, by omega, ?_, ?_⟩
          · rw [results_cell_tmp (p := 6) (u := 7) (ty := 28) (by kernel_rfl)]
            simp [asAddr, hr]
          · rw [HLK.out]
            exact (HL.out.keep (Nat.le_of_eq hbs.symm) fun b hb => hbr b (by have := (HL.out.lt b hb).1; omega)).base (by omega)
          · rw [HLK.out]
            have hb : Blk (((wr.setCell ⟨w.heap.size, 0, none⟩ (iv (E : Int))).setCell ⟨w.heap.size, 1, none⟩ (.slice AL k cL)).setCell ⟨w.heap.size, 2, none⟩ (.slice none 0 0)) gR 3 (r.flatMap intE.cells ++ []).toArray := by
              rw [List.append_nil, flat_int]
              exact (hbr gR (by omega)).trans HR6.out
            exact Own.ofHead (n := k) (m := k) hb (by omega) hrl (Nat.le_refl _) (by unfold maxLen; omega) (by simp)
          · exact HSJ.out.keep (Nat.le_of_eq hbs.symm) fun b hb => hbr b (by omega)
          · exact (((HO.out.setCell (p := ⟨w.heap.size, 0, none⟩) (by simp; omega) (Nat.le_refl _) _).setCell (p := ⟨w.heap.size, 1, none⟩) (by simp; omega) (Nat.le_refl _) _).setCell (p := ⟨w.heap.size, 2, none⟩) (by simp; omega) (Nat.le_refl _) _)
end Sk
end Go.Proofs.YtlpoiggdjggkiaaGreatDoor
end
section
namespace Go.Proofs.YtlpoiggdjggkiaaGreatDoor
namespace Sk
open Go.RowKit
set_option maxRecDepth 100000
/-- Weighings that are true. -/
def True_ (E : Int) (n : Nat) (r : List Int) (ws : List Weigh) : Prop := ∀ x ∈ ws, WOk n x ∧ rightB E x (at_ r x.lot.toNat) = true
set_option maxHeartbeats 8000000 in
theorem weighed_spec (B : Nat) (gs k0 : Nat) (E : Int) (Al : Option Addr) (n cl : Nat) (Ar : Option Addr) (r : List Int) (w : World) (h : Fl.IsSpool B w gs k0) (hk0 : k0 < 10000) (hE0 : 0 ≤ E) (hE1 : E ≤ 50) (hn1 : 1 ≤ n) (hn6 : n ≤ 6) (hrl : r.length = n) (hr : ∀ q, 0 ≤ at_ r q ∧ at_ r q ≤ 6400)
    (hro : Own intE 3 B w (.slice Ar n n) r) :
    Calls Tryz.prog 6 #[.pointer (some ⟨gs, 0, none⟩), millV E Al n cl none 0 0, .slice Ar n n, iv 5] w fun e w' => ∃ (ws : List Weigh) (Aw : Option Addr) (cw k : Nat),
      e = .returned (millV E Al n cl Aw ws.length cw) ∧ ws.length ≤ 5 ∧ ws.length ≤ cw ∧ True_ E n r ws ∧ Own weighE 39 w.heap.size w' (.slice Aw ws.length cw) ws ∧ k ≤ k0 + 1000 ∧ Fl.IsSpool B w' gs k ∧ Fl.Only gs w w' := by
  have hB := h.2.1
  have hgB := h.1
  have HRO := Lib.hid fun (W : World) (ho : Fl.Only gs w W) => hro.keep ho.below.size fun b hb => ho.other b (hro.lt b hb).2 (by have := (hro.lt b hb).1; omega)
  have HRB := Lib.hid hr
  have HRL := Lib.hid hrl
  have hz : (w.alloc (.cells #[iv E, .slice Al n cl, .slice none 0 0] 28)).heap.size = w.heap.size + 1 := by simp
  have hb0 : Below w.heap.size w ((w.alloc (.cells #[iv E, .slice Al n cl, .slice none 0 0] 28)).alloc (.cells #[iv 0, .slice none 0 0, .slice none 0 0] 28)) := ((Below.refl _ _).alloc (Nat.le_refl _) _).alloc (by simp) _
  have h5 : Blk ((w.alloc (.cells #[iv E, .slice Al n cl, .slice none 0 0] 28)).alloc (.cells #[iv 0, .slice none 0 0, .slice none 0 0] 28)) w.heap.size 28 #[iv E, .slice Al n cl, .slice none 0 0] := (Blk.new _ _ _).alloc _
  have h8 : Blk ((w.alloc (.cells #[iv E, .slice Al n cl, .slice none 0 0] 28)).alloc (.cells #[iv 0, .slice none 0 0, .slice none 0 0] 28)) (w.heap.size + 1) 28 #[iv 0, .slice none 0 0, .slice none 0 0] := by rw [← hz]; exact Blk.new _ _ _
  have hU := Lib.hid (Fl.upto_spec B _ gs k0 5 (h.below hb0 hB) (by omega) (by omega))
  have HO0 := Lib.hid (Fl.Only.of_below hb0 (show gs ≤ w.heap.size by omega))
  clear h hb0 hz hro hr hrl
  go_enter Tryz.func6, Tryz.ntmps6
  go_wp2_with fail
  generalize (w.alloc (.cells #[iv E, .slice Al n cl, .slice none 0 0] 28)).alloc (.cells #[iv 0, .slice none 0 0, .slice none 0 0] 28) = w1 at *
  refine hU.out.mono ?_
  rintro e w2 ⟨N, rfl, hN, hs2, ho2⟩
  have h52 := Fl.Blk.only h5 (by omega) ho2
  have h82 := Fl.Blk.only h8 (by omega) ho2
  have HO2 := Lib.hid (HO0.out.trans ho2)
  have HS2 := Lib.hid hs2
  obtain ⟨g5, hg5⟩ : ∃ g5, g5 = w.heap.size := ⟨_, rfl⟩
  have HG5 := Lib.hid hg5
  rw [← hg5] at h52 h82 ⊢
  have hgg : gs < g5 := by omega
  clear h5 h8 hU ho2 hs2 hg5
  go_wp2_with fail
  go_loopw [9, 10, 14] (fun _ _ i wx => ∃ (k : Nat) (ws : List Weigh) (Aw : Option Addr) (cw : Nat), k ≤ N ∧ i = iv k ∧ ws.length ≤ k ∧ ws.length ≤ cw ∧ Hid (True_ E n r ws) ∧ Blk wx g5 28 #[iv E, .slice Al n cl, .slice Aw ws.length cw] ∧ Blk wx (g5 + 1) 28 #[iv 0, .slice none 0 0, .slice none 0 0] ∧ Hid (Own weighE 39 (g5 + 2) wx (.slice Aw ws.length cw) ws) ∧ Hid (∃ j, j ≤ k0 + 1 + 60 * k ∧ Fl.IsSpool B wx gs j) ∧ Hid (Fl.Only gs w wx)) (fun _ _ i _ => N - (intOf i).toNat)
  case atStart => exact ⟨0, [], none, 0, Nat.zero_le _, rfl, Nat.le_refl _, Nat.le_refl _, Lib.hid (fun _ h => by cases h), h52, h82, Lib.hid Own.nil, Lib.hid ⟨_, by omega, HS2.out⟩, HO2⟩
  case round =>
    clear h52 h82
    obtain ⟨k, ws, Aw, cw, hk, rfl, hwk, hwc, HT, h5, h8, HW, HS, HO⟩ := hrel
    have hbw : w.heap.size ≤ wr.heap.size := HO.out.below.size
    have hgl := h8.lt
    by_cases hlt : k < N
    · as_aux_lemma =>
      have hki : (k : Int) < (N : Int) := by omega
      obtain ⟨j, hj, hsj⟩ := HS.out
      have e1 : IntKind.i64.wrap ((n : Int) - 1) = ((n - 1 : Nat) : Int) := by rw [show (n : Int) - 1 = ((n - 1 : Nat) : Int) by omega]; exact IntWalk.i64_in _ (by omega)
      have HU := Lib.hid (Fl.upto_spec B wr gs j (n - 1) hsj (by omega) (by omega))
      have n0 := h5.cell
      have n1 := h5.lt
      go_wp2_with fail
      refine HU.out.mono ?_
      rintro e w3 ⟨lot, rfl, hlot, hs3, ho3⟩
      have h53 := Fl.Blk.only h5 (by omega) ho3
      have h83 := Fl.Blk.only h8 (by omega) ho3
      have HW3 := Lib.hid (HW.out.keep ho3.below.size fun b hb => ho3.other b (HW.out.lt b hb).2 (by have := (HW.out.lt b hb).1; omega))
      have HO3 := Lib.hid (HO.out.trans ho3)
      have HR3 := Lib.hid (HRO.out w3 HO3.out)
      have hB3 := hs3.2.1
      have HS3 := Lib.hid hs3
      clear n0 n1 HU h5 h8 HW HO HS hsj ho3 hs3
      obtain ⟨bR, oR, dd, hAr, hbR, hdd, hcR⟩ := Sl.atI HR3.out.sl (show lot < r.length by rw [HRL.out]; omega)
      subst hAr
      have hdd2 : dd = at_ r lot := by rw [at_, List.getD_eq_getElem?_getD, hdd]; rfl
      have hde := HRB.out lot
      rw [← hdd2] at hde
      have HDD := Lib.hid hdd2
      have hlt3 : (lot : Int) < (n : Int) := by omega
      have HFF : Hid (∀ x, Fl.Only gs w3 x → Blk x g5 28 #[iv E, .slice Al n cl, .slice Aw ws.length cw] ∧ x.cell? ⟨bR, oR + lot, none⟩ = some (iv dd)) := Lib.hid fun x hx => by
        refine ⟨Fl.Blk.only h53 (by omega) hx, ?_⟩
        obtain ⟨b', o', d', e1, _, hd', hc'⟩ := Sl.atI (HR3.out.keep hx.below.size fun b hb => hx.other b (HR3.out.lt b hb).2 (by have := (HR3.out.lt b hb).1; omega)).sl (show lot < r.length by rw [HRL.out]; omega)
        injection e1 with e1
        injection e1 with e1 e2 _
        subst e1 e2
        rw [hdd] at hd'
        rw [hc', ← Option.some.inj hd']
      clear hdd hdd2 hcR
      go_upto_region 4 with fail
      refine wfl 9 (fun nR x => Fl.Only gs w3 x ∧ ∃ j', j' ≤ j + 1 + 4 * nR ∧ Fl.IsSpool B x gs j') (fun x x' => Fl.Only gs x x')
        [eqv (.pointer (some ⟨gs, 0, none⟩)),
         eqv (.agg #[iv E, .slice Al n cl, .slice Aw ws.length cw]),
         eqv (iv (lot : Int)),
         eqv (.slice (some ⟨bR, oR, none⟩) n n),
         eqv (iv (lot : Int)),
         eqv (.pointer (some ⟨bR, oR + lot, none⟩)),
         eqv (iv dd),
         fun _ u x => ∃ y : Weigh, u = y.v ∧ y.lot = (lot : Int) ∧ (0 ≤ y.reads ∧ y.reads ≤ 10000) ∧ 0 ≤ y.lo ∧ y.lo ≤ y.hi ∧ y.hi ≤ 60,
         fun _ u x => ∃ g, u = .pointer (some ⟨g, 0, none⟩) ∧ w3.heap.size ≤ g ∧ Blk x g 39 #[iv 0, iv 0, iv 0, iv 0]]
        (⟨(Fl.Only.refl gs w3).drew, j + 1, by omega, HS3.out.keep (Nat.le_refl _) (fun _ _ => rfl)⟩) ?_ ?_
      · simp only [List.take_succ_cons, List.take_zero, HopL]
        repeat' apply And.intro
        · refine fvn fun x hnR hR kk rr _ => ?_
          have := rho0 rr 0
          clear rr kk
          exact ev ⟨rfl, Fl.Only.refl _ _, ⟨hR.1, (by obtain ⟨_, j', q1, q2⟩ := hR; exact ⟨j', by omega, q2⟩)⟩⟩
        · refine fvn fun x hnR hR kk rr _ => ?_
          have := rho0 rr 5
          clear rr kk
          have f1 := (HFF.out x hR.1).1.cell
          have f2 := (HFF.out x hR.1).1.lt
          exact ev ⟨rfl, Fl.Only.refl _ _, ⟨hR.1, (by obtain ⟨_, j', q1, q2⟩ := hR; exact ⟨j', by omega, q2⟩)⟩⟩
        · refine fvn fun x hnR hR kk rr _ => ?_
          have := rho0 rr 9
          clear rr kk
          exact ev ⟨rfl, Fl.Only.refl _ _, ⟨hR.1, (by obtain ⟨_, j', q1, q2⟩ := hR; exact ⟨j', by omega, q2⟩)⟩⟩
        · refine fvn fun x hnR hR kk rr _ => ?_
          have := rho0 rr 2
          clear rr kk
          exact ev ⟨rfl, Fl.Only.refl _ _, ⟨hR.1, (by obtain ⟨_, j', q1, q2⟩ := hR; exact ⟨j', by omega, q2⟩)⟩⟩
        · refine fvn fun x hnR hR kk rr _ => ?_
          have := rho0 rr 9
          clear rr kk
          exact ev ⟨rfl, Fl.Only.refl _ _, ⟨hR.1, (by obtain ⟨_, j', q1, q2⟩ := hR; exact ⟨j', by omega, q2⟩)⟩⟩
        · refine fvn fun x hnR hR kk rr _ => ?_
          have := rho rr 25 (kk.at 3)
          have := rho rr 26 (kk.at 4)
          clear rr kk
          have f1 := (HFF.out x hR.1).2
          exact ev ⟨rfl, Fl.Only.refl _ _, ⟨hR.1, (by obtain ⟨_, j', q1, q2⟩ := hR; exact ⟨j', by omega, q2⟩)⟩⟩
        · refine fvn fun x hnR hR kk rr _ => ?_
          have := rho rr 27 (kk.at 5)
          clear rr kk
          have f1 := (HFF.out x hR.1).2
          exact ev ⟨rfl, Fl.Only.refl _ _, ⟨hR.1, (by obtain ⟨_, j', q1, q2⟩ := hR; exact ⟨j', by omega, q2⟩)⟩⟩
        · refine fvn (hs := fun _ _ _ _ h hS => (by obtain ⟨y29, e0, r29⟩ := h; exact ⟨y29, e0, r29⟩)) fun x hnR hR kk rr _ => ?_
          have e22 := rho rr 22 (kk.at 0)
          have e23 := rho rr 23 (kk.at 1)
          have e24 := rho rr 24 (kk.at 2)
          have e28 := rho rr 28 (kk.at 6)
          clear rr kk
          obtain ⟨hO, j', q1, q2⟩ := hR
          refine stepE_call (wanted_none rfl) (by go_simp) (read_spec B gs j' E Al n cl Aw ws.length cw (lot : Int) dd x q2 (by simp at hnR; omega) hE0 hE1 hde.1 hde.2) ?_
          rintro e x' ⟨y, rfl, y1, y2, y3, y4, y5, hsx, hox⟩
          exact ⟨_, rfl, ⟨y, rfl, y1, y2, y3, y4, y5⟩, hox, hO.trans hox, _, by omega, hsx⟩
        · refine fvn (hs := fun _ _ _ _ h hS => (by obtain ⟨g10, e0, k10, b10⟩ := h; exact ⟨g10, e0, k10, Fl.Blk.only b10 (by omega) hS⟩)) fun x hnR hR kk rr _ => ?_
          clear rr kk
          exact stepE_new (u := .pointer (some ⟨x.heap.size, 0, none⟩)) (w' := x.alloc (.cells #[iv 0, iv 0, iv 0, iv 0] 39)) (wanted_none rfl) (by go_simp) ⟨⟨x.heap.size, rfl, hR.1.below.size, Blk.new _ _ _⟩, Fl.Only.of_below ((Below.refl _ _).alloc (Nat.le_refl _) _) (by have := hR.1.below.size; omega), hR.1.next ((Below.refl _ _).alloc (Nat.le_refl _) _) (by have := hR.1.below.size; omega), (by obtain ⟨_, j', q1, q2⟩ := hR; exact ⟨j', by omega, q2.below ((Below.refl _ _).alloc (Nat.le_refl _) _) (by have := q2.2.1; omega)⟩)⟩
        · trivial
      · intro v nR x1 hnR hR hall
        obtain ⟨y29, h7, r29⟩ := hall 7 (by decide)
        obtain ⟨g10, h8, k10, b10⟩ := hall 8 (by decide)
        clear hall
        simp only [List.drop_succ_cons, List.drop_zero, List.take_succ_cons, List.take_zero, frameF, Act.put, List.setIfInBounds_toArray, List.set_cons_zero, List.set_cons_succ, Nat.zero_add, Nat.reduceAdd, h7, h8]
        obtain ⟨y0, y1, y2, y3⟩ := y29
        dsimp only at r29
        have n0 := b10.cell
        have n1 := b10.lt
        have n2 := b10.frozen
        have B10 : Blk ((((x1.setCell ⟨g10, 0, none⟩ (iv y0)).setCell ⟨g10, 1, none⟩ (iv y1)).setCell ⟨g10, 2, none⟩ (iv y2)).setCell ⟨g10, 3, none⟩ (iv y3)) g10 39 #[iv y0, iv y1, iv y2, iv y3] := by
          simpa using (((b10.set_ 0 (iv y0)).set_ 1 (iv y1)).set_ 2 (iv y2)).set_ 3 (iv y3)
        obtain ⟨hO1, j1, hj1, hs1⟩ := hR
        have hsz1 := hs1.2.1
        have HO4 : Hid (Fl.Only gs w3 ((((x1.setCell ⟨g10, 0, none⟩ (iv y0)).setCell ⟨g10, 1, none⟩ (iv y1)).setCell ⟨g10, 2, none⟩ (iv y2)).setCell ⟨g10, 3, none⟩ (iv y3))) := Lib.hid ((((hO1.setCell (p := ⟨g10, 0, none⟩) (by simp; omega) (by simpa using k10) _).setCell (p := ⟨g10, 1, none⟩) (by simp; omega) (by simpa using k10) _).setCell (p := ⟨g10, 2, none⟩) (by simp; omega) (by simpa using k10) _).setCell (p := ⟨g10, 3, none⟩) (by simp; omega) (by simpa using k10) _)
        have HS4 : Hid (∃ j', j' ≤ j + 50 ∧ Fl.IsSpool B ((((x1.setCell ⟨g10, 0, none⟩ (iv y0)).setCell ⟨g10, 1, none⟩ (iv y1)).setCell ⟨g10, 2, none⟩ (iv y2)).setCell ⟨g10, 3, none⟩ (iv y3)) gs j') := Lib.hid ⟨j1, by simp at hnR; omega, hs1.keep (by simp [World.setCell]) fun b hb => by
          rw [Below.heap_setCell _ _ _ _ (by simp; omega), Below.heap_setCell _ _ _ _ (by simp; omega), Below.heap_setCell _ _ _ _ (by simp; omega), Below.heap_setCell _ _ _ _ (by simp; omega)]⟩
        have HY := Lib.hid r29
        clear r29 hO1 hs1 hj1 b10 hnR
        go_upto_region 5 with fail
        generalize (((x1.setCell ⟨g10, 0, none⟩ (iv y0)).setCell ⟨g10, 1, none⟩ (iv y1)).setCell ⟨g10, 2, none⟩ (iv y2)).setCell ⟨g10, 3, none⟩ (iv y3) = w4 at *
        clear n0 n1 n2
        have hw34 := HO4.out.below.size
        have HG : Hid (∀ x, Below w4.heap.size w4 x → Blk x g5 28 #[iv E, .slice Al n cl, .slice Aw ws.length cw] ∧ x.cell? ⟨bR, oR + lot, none⟩ = some (iv dd) ∧ Blk x g10 39 #[iv y0, iv y1, iv y2, iv y3] ∧ Fl.Only gs w3 x) := Lib.hid fun x hx => by
          have h1 := HO4.out.next hx (by omega)
          exact ⟨(HFF.out x h1).1, (HFF.out x h1).2, B10.under hx, h1⟩
        have HRI : Hid (∀ W, Calls Tryz.prog 20 #[millV E Al n cl Aw ws.length cw, .agg #[iv y0, iv y1, iv y2, iv y3], iv dd] W fun e w' => e = .returned (.bool (rightB E ⟨y0, y1, y2, y3⟩ dd)) ∧ Below W.heap.size W w') := Lib.hid fun W =>
          right_spec E Al n cl Aw ws.length cw ⟨y0, y1, y2, y3⟩ dd W hE0 hE1 HY.out.2.1.1 HY.out.2.1.2 HY.out.2.2.1 HY.out.2.2.2.1 HY.out.2.2.2.2 hde.1 (by omega)
        obtain ⟨rb, hrb⟩ : ∃ rb, rb = rightB E ⟨y0, y1, y2, y3⟩ dd := ⟨_, rfl⟩
        rw [← hrb] at HRI
        have HRB2 := Lib.hid hrb
        clear hrb B10
        refine wfl 6 (fun nR x => Below w4.heap.size w4 x) (fun x x' => Below x.heap.size x x')
          [eqv (.agg #[iv E, .slice Al n cl, .slice Aw ws.length cw]),
           eqv (.agg #[iv y0, iv y1, iv y2, iv y3]),
           eqv (.slice (some ⟨bR, oR, none⟩) n n),
           eqv (iv (lot : Int)),
           eqv (.pointer (some ⟨bR, oR + lot, none⟩)),
           eqv (iv dd)]
          (Below.refl _ w4).drew ?_ ?_
        · simp only [List.take_succ_cons, List.take_zero, HopL]
          repeat' apply And.intro
          · refine fvr fun x hR kk rr _ => ?_
            have := rho0 rr 5
            clear rr kk
            have f1 := (HG.out x hR).1.cell
            have f2 := (HG.out x hR).1.lt
            exact ev0
          · refine fvr fun x hR kk rr _ => ?_
            have := rho0 rr 10
            clear rr kk
            have f1 := (HG.out x hR).2.2.1.cell
            have f2 := (HG.out x hR).2.2.1.lt
            exact ev0
          · refine fvr fun x hR kk rr _ => ?_
            have := rho0 rr 2
            clear rr kk
            exact ev0
          · refine fvr fun x hR kk rr _ => ?_
            have := rho0 rr 9
            clear rr kk
            exact ev0
          · refine fvr fun x hR kk rr _ => ?_
            have := rho rr 32 (kk.at 2)
            have := rho rr 33 (kk.at 3)
            clear rr kk
            have f1 := (HG.out x hR).2.1
            exact ev0
          · refine fvr fun x hR kk rr _ => ?_
            have := rho rr 34 (kk.at 4)
            clear rr kk
            have f1 := (HG.out x hR).2.1
            exact ev0
          · trivial
        · intro v nR w5 hnR hR hall
          have h0 : v 0 = .agg #[iv E, .slice Al n cl, .slice Aw ws.length cw] := hall 0 (by decide)
          have h1 : v 1 = .agg #[iv y0, iv y1, iv y2, iv y3] := hall 1 (by decide)
          have h5 : v 5 = iv dd := hall 5 (by decide)
          clear hall hnR
          simp only [List.drop_succ_cons, List.drop_zero, List.take_succ_cons, List.take_zero, frameF, Act.put, List.setIfInBounds_toArray, List.set_cons_zero, List.set_cons_succ, Nat.zero_add, Nat.reduceAdd, h0, h1, h5]
          have HR5 := Lib.hid hR
          clear hR
          go_wp2_with fail
          refine (HRI.out _).mono ?_
          rintro e w6 ⟨rfl, hb6⟩
          have HB6 := Lib.hid (HR5.out.next hb6 (Nat.le_refl _))
          obtain ⟨h56, _, hY6, hO6⟩ := HG.out w6 HB6.out
          have h86 := Fl.Blk.only h83 (by omega) hO6
          have HW6 := Lib.hid (HW3.out.keep hO6.below.size fun b hb => hO6.other b (HW3.out.lt b hb).2 (by have := (HW3.out.lt b hb).1; omega))
          have HOw := Lib.hid (HO3.out.trans hO6)
          obtain ⟨j6, hj6, hs4⟩ := HS4.out
          have HS6 := Lib.hid (hs4.below HB6.out (by have := hs4.2.1; omega))
          clear hb6 HRI hs4
          cases rb
          · go_wp2_with fail
            go_roundw
            case rel => exact ⟨k + 1, ws, Aw, cw, by omega, by go_num, by omega, hwc, HT, h56, h86, HW6, Lib.hid ⟨j6, by omega, HS6.out⟩, HOw⟩
            case measure => simp [intOf] <;> omega
          · have hw10 : (ws.length : Int) < 10 := by omega
            have n0 := h56.cell
            have n1 := h56.lt
            have n2 := h56.frozen
            have q0 := hY6.cell
            have q1 := hY6.lt
            have hlen : (ws ++ [(⟨y0, y1, y2, y3⟩ : Weigh)]).length = ws.length + 1 := by simp
            have HLEN := Lib.hid hlen
            have hbig : ws.length + 1 ≤ big := by unfold big; omega
            have hwo := HW6.out
            have H56 := Lib.hid h56
            have H86 := Lib.hid h86
            have hg6 := h86.lt
            clear hlen h56 h86 hY6
            go_upto_region 7 with (at_builtin; refine wpApp1G weighE tyWs rfl _ _ rfl hwo (⟨y0, y1, y2, y3⟩ : Weigh) (by rfl) rfl rfl rfl (by omega) hbig ?_; intro v7 w7 hown7 hb7 hot7; obtain ⟨A7, c7, e7, hc7, _⟩ := hown7.form; rw [HLEN.out] at e7 hc7; subst e7; have hO7 : Blk w7 g5 28 _ := (hot7 g5 n1 (Own.ne_blkS hwo H56.out (by decide))).trans H56.out; have p0 := hO7.cell; have p1 := hO7.lt; have p2 := hO7.frozen)
            have HO7 := Lib.hid hO7
            have H87 := Lib.hid ((hot7 (g5 + 1) hg6 (Own.ne_blkS hwo H86.out (by decide))).trans H86.out)
            have HB7 := Lib.hid hb7
            have HW7 := Lib.hid hown7
            clear hown7 hb7 hot7 hO7
            go_wp2_with fail
            go_roundw
            case rel =>
              refine ⟨k + 1, ws ++ [⟨y0, y1, y2, y3⟩], A7, c7, by omega, by go_num, by rw [HLEN.out]; omega, by rw [HLEN.out]; exact hc7, Lib.hid ?_, ?_, ?_, Lib.hid ?_, Lib.hid ⟨j6, by omega, ?_⟩, Lib.hid ?_⟩
              · intro x hx
                rcases List.mem_append.1 hx with hx | hx
                · exact HT.out x hx
                · rw [List.mem_singleton.1 hx]
                  have hy := HY.out
                  refine ⟨⟨by dsimp only; omega, hy.2.1, hy.2.2.1, hy.2.2.2.1, hy.2.2.2.2⟩, ?_⟩
                  have e : at_ r (⟨y0, y1, y2, y3⟩ : Weigh).lot.toNat = dd := by rw [HDD.out, hy.1]; rfl
                  rw [e]
                  exact HRB2.out.symm
              · rw [HLEN.out]
                simpa using HO7.out.set_ 2 (.slice A7 (ws.length + 1) c7)
              · exact Blk.far H87.out (p := ⟨g5, 2, none⟩) (by simp) _
              · rw [HLEN.out]
                exact (HW7.out.keep (by simp [World.setCell]) fun b hv => Below.heap_setCell _ _ _ b (fun e => Own.ne_blkS HW7.out HO7.out (by decide) (by rw [hv]; exact congrArg some e)))
              · exact (HS6.out.below HB7.out (by have := HG5.out; omega)).keep (by simp [World.setCell]) fun b hb => Below.heap_setCell _ ⟨g5, 2, none⟩ _ b (by simp; have := HG5.out; omega)
              · exact (HOw.out.nextB HB7.out (by omega) (by have := HG5.out; omega)).setCell (p := ⟨g5, 2, none⟩) (by simp; omega) (by simp; have := HG5.out; omega) _
            case measure => simp [intOf] <;> omega
    · have hki : ¬ (k : Int) < (N : Int) := by omega
      obtain ⟨j, hj, hsj⟩ := HS.out
      have hsz := hsj.2.1
      have n0 := h5.cell
      have n1 := h5.lt
      have m0 := h8.cell
      have m1 := h8.lt
      have m2 := h8.frozen
      have HH8 := Lib.hid h8
      have HSJ := Lib.hid hsj
      clear h8 hsj
      go_wp2_with fail
      have hRf : Blk (((wr.setCell ⟨g5 + 1, 0, none⟩ (iv E)).setCell ⟨g5 + 1, 1, none⟩ (.slice Al n cl)).setCell ⟨g5 + 1, 2, none⟩ (.slice Aw ws.length cw)) (g5 + 1) 28 #[iv E, .slice Al n cl, .slice Aw ws.length cw] := by
        simpa using ((HH8.out.set_ 0 (iv E)).set_ 1 (.slice Al n cl)).set_ 2 (.slice Aw ws.length cw)
      have hbs : (((wr.setCell ⟨g5 + 1, 0, none⟩ (iv E)).setCell ⟨g5 + 1, 1, none⟩ (.slice Al n cl)).setCell ⟨g5 + 1, 2, none⟩ (.slice Aw ws.length cw)).heap.size = wr.heap.size := by simp [World.setCell]
      have hbr : ∀ b, b ≠ g5 + 1 → (((wr.setCell ⟨g5 + 1, 0, none⟩ (iv E)).setCell ⟨g5 + 1, 1, none⟩ (.slice Al n cl)).setCell ⟨g5 + 1, 2, none⟩ (.slice Aw ws.length cw)).heap[b]? = wr.heap[b]? := fun b hb => by
        rw [Below.heap_setCell _ _ _ _ (by simpa using hb), Below.heap_setCell _ _ _ _ (by simpa using hb), Below.heap_setCell _ _ _ _ (by simpa using hb)]
      exact bodyPost_ret (results_cell_row (P := Tryz.prog) (fn := Tryz.f6) (p := 8) (ty := 28) (by kernel_rfl) _ _ (g5 + 1) 28 _ (0, 0) _ (by rfl) hRf Tryz.underlying28 (by rfl) (by kernel_rfl)) rfl
        ⟨ws, Aw, cw, rfl, by omega, hwc, HT.out, (HW.out.keep (Nat.le_of_eq hbs.symm) fun b hb => hbr b (by have := (HW.out.lt b hb).1; omega)).base (by have := HG5.out; omega), j, by omega, HSJ.out.keep (Nat.le_of_eq hbs.symm) (fun b hb => hbr b (by have := HG5.out; omega)), ((HO.out.setCell (p := ⟨g5 + 1, 0, none⟩) (by simp; omega) (by simp; have := HG5.out; omega) _).setCell (p := ⟨g5 + 1, 1, none⟩) (by simp; omega) (by simp; have := HG5.out; omega) _).setCell (p := ⟨g5 + 1, 2, none⟩) (by simp; omega) (by simp; have := HG5.out; omega) _⟩
end Sk
end Go.Proofs.YtlpoiggdjggkiaaGreatDoor
end
section
namespace Go.Proofs.YtlpoiggdjggkiaaGreatDoor
namespace Sk
open Go.RowKit
theorem says_true {E : Int} {n : Nat} {x : Weigh} {d : Int} (h : WOk n x) (hE : 0 ≤ E) (hd0 : 0 ≤ d) (hd1 : d ≤ 10000) (hr : rightB E x d = true) : sLo E x ≤ d ∧ d ≤ sHi E x := by
  unfold rightB at hr
  rw [Bool.and_eq_true, decide_eq_true_iff, decide_eq_true_iff] at hr
  obtain ⟨h1, h2⟩ := hr
  have hl := h.lo
  have hm := h.mid
  constructor
  · unfold sLo
    have hp : 0 ≤ d * (100 + x.hi) := Int.mul_nonneg hd0 (by omega)
    have h3 : 100 * max 0 (x.reads - E) ≤ d * (100 + x.hi) := by
      by_cases e : 0 ≤ x.reads - E
      · rw [Int.max_eq_right e]; exact h1
      · rw [Int.max_eq_left (by omega)]; omega
    have h4 : (100 * max 0 (x.reads - E) + (100 + x.hi) - 1) / (100 + x.hi) < d + 1 := by
      apply Int.ediv_lt_of_lt_mul (by omega)
      rw [Int.add_mul]
      omega
    omega
  · unfold sHi
    have h3 : d ≤ 100 * (x.reads + E) / (100 + x.lo) := Int.le_ediv_of_mul_le (by omega) h2
    omega
theorem b00_at {n i : Nat} (hi' : i < n) : lo (b00 n) i = 0 ∧ hi (b00 n) i = 10000 := by
  unfold lo hi b00
  rw [List.getD_eq_getElem?_getD, List.getElem?_append_left (by simpa using hi'), List.getElem?_replicate, if_pos hi']
  exact ⟨rfl, rfl⟩
theorem b00_tail {n : Nat} (hn : n ≤ 12) : Tail n (b00 n) := fun i h1 h2 => by
  unfold b00
  rw [List.getElem?_append_right (by simpa using h1), List.length_replicate, List.getElem?_replicate, if_pos (by omega)]
theorem fold_sub (E : Int) (n : Nat) (hn : n ≤ 12) : ∀ (ws : List Weigh) (b : B), b.length = 12 → (∀ x ∈ ws, WOk n x) → Sub n (ws.foldl (say E) b) b := by
  intro ws
  induction ws with
  | nil => intro b _ _; exact Sub.refl _ _
  | cons x ws ih =>
    intro b hb hw
    have hx := (hw x (by simp)).lot
    have h1 := ih (say E b x) (by rw [say_length]; exact hb) fun y hy => hw y (by simp [hy])
    exact h1.trans (nar_sub n b _ _ _ (by rw [hb]; omega))
theorem fold_tail (E : Int) (n : Nat) : ∀ (ws : List Weigh) (b : B), Tail n b → (∀ x ∈ ws, WOk n x) → Tail n (ws.foldl (say E) b) := by
  intro ws
  induction ws with
  | nil => intro b h _; exact h
  | cons x ws ih =>
    intro b h hw
    have hx := (hw x (by simp)).lot
    exact ih _ (h.nar (by omega) _ _) fun y hy => hw y (by simp [hy])
theorem fold_keeps (E : Int) (n : Nat) (hn : n ≤ 12) {F : B} : ∀ (ws : List Weigh) (b : B), b.length = 12 → Sub n F b → (∀ x ∈ ws, WOk n x ∧ sLo E x ≤ lo F x.lot.toNat ∧ hi F x.lot.toNat ≤ sHi E x) → Sub n F (ws.foldl (say E) b) := by
  intro ws
  induction ws with
  | nil => intro b _ h _; exact h
  | cons x ws ih =>
    intro b hb h hw
    obtain ⟨h1, h2, h3⟩ := hw x (by simp)
    have hx := h1.lot
    exact ih _ (by rw [say_length]; exact hb) (nar_keeps (by rw [hb]; omega) h h2 h3) fun y hy => hw y (by simp [hy])
theorem fold_says (E : Int) (n : Nat) (hn : n ≤ 12) : ∀ (ws : List Weigh) (b : B), b.length = 12 → (∀ x ∈ ws, WOk n x) → ∀ x ∈ ws, sLo E x ≤ lo (ws.foldl (say E) b) x.lot.toNat ∧ hi (ws.foldl (say E) b) x.lot.toNat ≤ sHi E x := by
  intro ws
  induction ws with
  | nil => intro b _ _ x hx; cases hx
  | cons y ws ih =>
    intro b hb hw x hx
    have hy := (hw y (by simp)).lot
    rcases List.mem_cons.1 hx with rfl | hx
    · have h1 := fold_sub E n hn ws (say E b x) (by rw [say_length]; exact hb) (fun z hz => hw z (by simp [hz])) x.lot.toNat (by omega)
      have h2 : sLo E x ≤ lo (say E b x) x.lot.toNat ∧ hi (say E b x) x.lot.toNat ≤ sHi E x := by
        unfold say
        rw [lo_nar _ _ _ _ (by rw [hb]; omega), hi_nar _ _ _ _ (by rw [hb]; omega), if_pos rfl, if_pos rfl]
        omega
      simp only [List.foldl_cons]
      omega
    · exact ih (say E b y) (by rw [say_length]; exact hb) (fun z hz => hw z (by simp [hz])) x hx
/-- More weighings make it no wider. -/
theorem sayAll_more {E : Int} {n : Nat} {ws ws' : List Weigh} (hn : n ≤ 12) (h' : ∀ x ∈ ws', WOk n x) (hs : ∀ x ∈ ws, x ∈ ws') : Sub n (sayAll E ws' n) (sayAll E ws n) := by
  refine fold_keeps E n hn ws (b00 n) (b00_length hn) (fold_sub E n hn ws' _ (b00_length hn) h') fun x hx => ⟨h' x (hs x hx), ?_⟩
  exact fold_says E n hn ws' _ (b00_length hn) h' x (hs x hx)
/-- What true weighings say is right of the weights. -/
theorem good_of {E : Int} {fr : List Int} {r : List Int} {ws : List Weigh} {n : Nat} (hE : 0 ≤ E) (hn : fr.length = n) (hn12 : n ≤ 12) (ht : Tree fr) (hf : Weights fr r) (hr : ∀ q, 0 ≤ at_ r q ∧ at_ r q ≤ 10000) (hw : True_ E n r ws) : Good fr n (sayAll E ws n) r where
  len := sayAll_length E ws hn12
  tail := fold_tail E n ws _ (b00_tail hn12) fun x hx => (hw x hx).1
  fn := hn
  n12 := hn12
  tree := ht
  fit := hf
  real := by
    refine fold_keeps E n hn12 ws (b00 n) (b00_length hn12) (fun i hi' => ?_) fun x hx => ⟨(hw x hx).1, ?_⟩
    · rw [(b00_at hi').1, (b00_at hi').2, lo_ofW, hi_ofW]
      exact hr i
    · rw [lo_ofW, hi_ofW]
      exact says_true (hw x hx).1 hE (hr _).1 (hr _).2 (hw x hx).2
  from0 i hi' := by
    have h := fold_sub E n hn12 ws (b00 n) (b00_length hn12) (fun x hx => (hw x hx).1) i hi'
    rw [(b00_at hi').1, (b00_at hi').2] at h
    exact h
/-- The bounds of more weighings lie within those of fewer, and the weights within both. -/
theorem within {E : Int} {fr r : List Int} {n : Nat} {ws ws' : List Weigh} {b b' : B} (hn12 : n ≤ 12) (hw' : True_ E n r ws') (hs : ∀ x ∈ ws, x ∈ ws') (hg' : Good fr n (sayAll E ws' n) r) (hk : K fr n (sayAll E ws n) b) (hk' : K fr n (sayAll E ws' n) b') (hf' : Fixd fr n b') :
    ∀ i, i < n → lo b i ≤ lo b' i ∧ hi b' i ≤ hi b i ∧ lo b' i ≤ at_ r i ∧ at_ r i ≤ hi b' i := fun i hi' => by
  have h1 := hk.all b' hf' (hk'.sub.trans (sayAll_more hn12 (fun x hx => (hw' x hx).1) hs)) i hi'
  have h2 := hk'.all _ (hg'.fit.fixed n) hg'.real i hi'
  rw [lo_ofW, hi_ofW] at h2
  exact ⟨h1.1, h1.2, h2.1, h2.2⟩
end Sk
end Go.Proofs.YtlpoiggdjggkiaaGreatDoor
end
