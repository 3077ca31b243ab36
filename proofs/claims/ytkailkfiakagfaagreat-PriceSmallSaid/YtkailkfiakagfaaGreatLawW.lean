/- What a rule names of a piece, as the statements reckon it. No condition. -/
import Derived.Test.YtkailkfiakagfaaGreatPriceA
import Derived.Test.YtkailkfiakagfaaGreatLawP
import Derived.Test.YtkailkfiakagfaaGreatMem2
set_option linter.unusedVariables false
set_option linter.unusedSimpArgs false
namespace Go.Proofs.YtkailkfiakagfaaGreat
open Go.RowKit
set_option maxRecDepth 100000
theorem below_alloc' {B : Nat} {w w' : World} {o : Obj} (h : Below B w w') (hB : B ≤ w'.heap.size) : Below B w (w'.alloc o) := h.alloc hB o
end Go.Proofs.YtkailkfiakagfaaGreat
-- The price of a piece, as the statements reckon it. Condition: lengths are below a great bound.
namespace Go.Proofs.YtkailkfiakagfaaGreat
open Go.RowKit
set_option maxRecDepth 100000

def Price.stepGo (q : Piece) (l : List Rule) (st : Int × Int × Int) : Int × Int × Int := l.foldl (Price.lawStep q) st
end Go.Proofs.YtkailkfiakagfaaGreat
