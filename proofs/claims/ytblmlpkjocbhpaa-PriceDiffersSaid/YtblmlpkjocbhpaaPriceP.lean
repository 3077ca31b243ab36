/- The iterator over all pieces. No condition. -/
import Derived.Test.YtblmlpkjocbhpaaPriceO
import Derived.RangeFuncNested
import Derived.RangeFuncBound
import Derived.RangeFuncCalls
import Derived.RangeFuncLeaves
import Derived.Shelf.Abstract
import Derived.Shelf.RegionOpen
import Derived.WalkKit
import Derived.OwnWalkIn
import Derived.TacticsInMore
import Derived.LoopNIn
import Derived.LoopIn
set_option linter.unusedVariables false
set_option linter.unusedSimpArgs false
namespace Go.Proofs.Ytblmlpkjocbhpaa
open Go.RowKit Go.Shelf
set_option maxRecDepth 100000
attribute [local go_sem] Oper.semAt_some

def Price.pieceAt (n : Nat) : Piece := ⟨(n / 15 : Nat), (n / 3 % 5 : Nat), (n % 3 : Nat)⟩
def Price.allPieces : List Piece := (List.range 60).map Price.pieceAt
theorem Price.allPieces_take {m : Nat} (h : m < 60) : Price.allPieces.take (m + 1) = Price.allPieces.take m ++ [Price.pieceAt m] := by
  simp only [Price.allPieces, ← List.map_take, List.take_range]
  rw [Nat.min_eq_left (by omega), Nat.min_eq_left (by omega), List.range_succ]
  simp
theorem Price.allPieces_length : Price.allPieces.length = 60 := by simp [Price.allPieces]
theorem Price.pieceAt_eq {b s e : Nat} (hs : s < 5) (he : e < 3) : Price.pieceAt (15 * b + 3 * s + e) = ⟨b, s, e⟩ := by
  unfold Price.pieceAt
  have h1 : (15 * b + 3 * s + e) / 15 = b := by omega
  have h2 : (15 * b + 3 * s + e) / 3 % 5 = s := by omega
  have h3 : (15 * b + 3 * s + e) % 3 = e := by omega
  rw [h1, h2, h3]
set_option maxHeartbeats 2000000 in
theorem pieces1_in (F : Fence) (n : Nat) (h7 : F.fn 139) (hro : F.round = none) (hn : 1 ≤ n) (l : Nat) (Kp : World → World → Prop) (J Jx : List Piece → World → Prop)
    (hY : ∀ pre x W, J pre W → pre.length < 60 → YieldAt F (n - 1) Try.prog l #[Piece.v x] W fun e W' =>
      (e = .returned (.bool true) ∧ J (pre ++ [x]) W' ∧ Kp W W') ∨ (e = .returned (.bool false) ∧ Jx (pre ++ [x]) W'))
    (W : World) (h0 : J [] W) :
    CallsIn F n Try.prog 139 #[.func (.yield l) #[] #[]] W fun e W' => (∃ v, e = .returned v) ∧
      ((∃ ys, ys = Price.allPieces ∧ J ys W') ∨ (∃ pre, pre <+: Price.allPieces ∧ Jx pre W')) := by
  refine callsIn_of_wp Try.func139 rfl h7 ?_ hro
  simp only [Try.ntmps139, List.size_toArray, List.length_cons, List.length_nil, Nat.reduceAdd, Nat.reduceSub, Array.replicate_succ, Array.replicate_zero, List.push_toArray, List.append_toArray, List.nil_append, List.cons_append]
  gi_wp2
  gi_loopw [5] (fun i wr => ∃ k : Nat, k ≤ 4 ∧ i = .int .i64 k ∧ J (Price.allPieces.take (15 * k)) wr) (fun i _ => 4 - (intOf i).toNat)
  case atStart => exact ⟨0, by omega, rfl, h0⟩
  case round =>
    obtain ⟨b, hb, rfl, hJ1⟩ := hrel
    by_cases hlt : b < 4
    · have hb1 : (b : Int) < 4 := by omega
      gi_wp2
      gi_loopw [8] (fun i wr => ∃ k : Nat, k ≤ 5 ∧ i = .int .i64 k ∧ J (Price.allPieces.take (15 * b + 3 * k)) wr) (fun i _ => 5 - (intOf i).toNat)
      case atStart => exact ⟨0, by omega, rfl, hJ1⟩
      case round =>
        obtain ⟨s, hs, rfl, hJ2⟩ := hrel
        by_cases hlt2 : s < 5
        · have hs1 : (s : Int) < 5 := by omega
          gi_wp2
          gi_loopw [11] (fun i wr => ∃ k : Nat, k ≤ 3 ∧ i = .int .i64 k ∧ J (Price.allPieces.take (15 * b + 3 * s + k)) wr) (fun i _ => 3 - (intOf i).toNat)
          case atStart => exact ⟨0, by omega, rfl, hJ2⟩
          case round =>
            obtain ⟨e, he, rfl, hJ3⟩ := hrel
            by_cases hlt3 : e < 3
            · have he1 : (e : Int) < 3 := by omega
              have hm : 15 * b + 3 * s + e < 60 := by omega
              obtain ⟨fn, tmps, assign, body, hy, hR⟩ := hY _ (Price.pieceAt (15 * b + 3 * s + e)) _ hJ3 (by rw [List.length_take, Price.allPieces_length]; omega)
              rw [← Price.allPieces_take hm] at hR
              rw [Price.pieceAt_eq hlt2 hlt3] at hy
              gi_wp2
              refine hR.mono ?_
              rintro x W3 (⟨rfl, hJ4, hk3⟩ | ⟨rfl, hJx3⟩)
              · gi_wp2
                go_roundw
                case rel => exact ⟨e + 1, by omega, by go_num, hJ4⟩
                case measure => simp [intOf]; omega
              · gi_wp2
                refine bodyPost_ret (results_none rfl _ _ _) rfl ?_
                exact ⟨⟨_, rfl⟩, .inr ⟨_, List.take_prefix _ _, hJx3⟩⟩
            · obtain rfl : e = 3 := by omega
              gi_wp2
              go_roundw
              case rel => exact ⟨s + 1, by omega, by go_num, by rw [show 15 * b + 3 * (s + 1) = 15 * b + 3 * s + 3 by omega]; exact hJ3⟩
              case measure => simp [intOf]; omega
        · obtain rfl : s = 5 := by omega
          gi_wp2
          go_roundw
          case rel => exact ⟨b + 1, by omega, by go_num, by rw [show 15 * (b + 1) = 15 * b + 3 * 5 by omega]; exact hJ2⟩
          case measure => simp [intOf]; omega
    · obtain rfl : b = 4 := by omega
      gi_wp2
      go_end0
      exact ⟨⟨_, rfl⟩, .inl ⟨_, List.take_of_length_le (by rw [Price.allPieces_length]; omega), hJ1⟩⟩
end Go.Proofs.Ytblmlpkjocbhpaa
