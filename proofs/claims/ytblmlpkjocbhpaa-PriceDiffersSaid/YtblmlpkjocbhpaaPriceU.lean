/- The examples of the chapter: Five, Week. No condition. -/
import Derived.Test.YtblmlpkjocbhpaaPriceT
set_option linter.unusedVariables false
set_option linter.unusedSimpArgs false
namespace Go.Proofs.Ytblmlpkjocbhpaa
open Go.RowKit Go.Shelf
set_option maxRecDepth 100000

theorem Sl.fresh {α : Type} (E : Enc α) (w : World) (t : TypeId) (arr : Array Value) (xs : List α) (h : arr.toList = xs.flatMap E.cells) (hm : xs.length ≤ maxLen) : Sl E (w.alloc (.cells arr t)) (some ⟨w.heap.size, 0, none⟩) xs := by
  have hb : Blk (w.alloc (.cells arr t)) w.heap.size t (xs.flatMap E.cells).toArray := by
    rw [← h]; exact Blk.new w t arr
  exact (Own.ofBlk (E := E) (B := 0) hb (Nat.zero_le _) hm).sl
def Price.five : List Rule := [⟨-1, -1, -1, 10⟩, ⟨1, -1, -1, 12⟩, ⟨-1, 2, -1, 15⟩, ⟨1, 2, -1, 14⟩, ⟨-1, -1, 1, 12⟩]
def Price.weekStock : List Piece := [⟨1, 2, 0⟩, ⟨0, 0, 0⟩, ⟨1, 0, 0⟩, ⟨0, 0, 0⟩]
theorem Five_spec (w : World) : Calls Try.prog 87 #[] w fun e w' => ∃ A, e = .returned (.slice A Price.five.length 5) ∧ Sl ruleE w' A Price.five ∧ Below w.heap.size w w' := by
  go_enter Try.func87, Try.ntmps87
  go_wp2
  go_ret
  exact ⟨_, rfl, Sl.fresh ruleE w _ _ Price.five rfl (by decide), (Below.refl _ _).alloc (Nat.le_refl _) _⟩
theorem Week_spec (w : World) : Calls Try.prog 88 #[] w fun e w' => ∃ A A', e = .returned (.tuple #[saleV 10 A [(1 : Int), 2].length 2, .slice A' Price.weekStock.length 4]) ∧ Sl intE w' A [1, 2] ∧ Sl pieceE w' A' Price.weekStock ∧ Below w.heap.size w w' := by
  go_enter Try.func88, Try.ntmps88
  go_wp2
  have k0 := ((Blk.new w 31 #[.int .i64 10, .slice (some ⟨w.heap.size + 1, 0, none⟩) 2 2]).alloc (.cells #[.int .i64 1, .int .i64 2] 3)).alloc (.cells #[.int .i64 1, .int .i64 2, .int .i64 0, .int .i64 0, .int .i64 0, .int .i64 0, .int .i64 1, .int .i64 0, .int .i64 0, .int .i64 0, .int .i64 0, .int .i64 0] 42)
  have d0 := k0.cell
  have s1 := (Sl.fresh intE (w.alloc (.cells #[.int .i64 10, .slice (some ⟨w.heap.size + 1, 0, none⟩) 2 2] 31)) 3 #[.int .i64 1, .int .i64 2] [1, 2] rfl (by decide)).alloc (.cells #[.int .i64 1, .int .i64 2, .int .i64 0, .int .i64 0, .int .i64 0, .int .i64 0, .int .i64 1, .int .i64 0, .int .i64 0, .int .i64 0, .int .i64 0, .int .i64 0] 42)
  have s2 := Sl.fresh pieceE ((w.alloc (.cells #[.int .i64 10, .slice (some ⟨w.heap.size + 1, 0, none⟩) 2 2] 31)).alloc (.cells #[.int .i64 1, .int .i64 2] 3)) 42 #[.int .i64 1, .int .i64 2, .int .i64 0, .int .i64 0, .int .i64 0, .int .i64 0, .int .i64 1, .int .i64 0, .int .i64 0, .int .i64 0, .int .i64 0, .int .i64 0] Price.weekStock rfl (by decide)
  rw [World.size_alloc] at s1 s2
  rw [World.size_alloc] at s2
  refine bodyPost_ret (v := .tuple #[.agg #[.int .i64 10, .slice (some ⟨w.heap.size + 1, 0, none⟩) 2 2], .slice (some ⟨w.heap.size + 1 + 1, 0, none⟩) 4 4]) (by simp [results, Try.f88, go_sem, d0]) rfl ?_
  exact ⟨_, _, rfl, s1, s2, (((Below.refl _ w).alloc (Nat.le_refl _) _).alloc (by simp) _).alloc (by simp; omega) _⟩
end Go.Proofs.Ytblmlpkjocbhpaa
