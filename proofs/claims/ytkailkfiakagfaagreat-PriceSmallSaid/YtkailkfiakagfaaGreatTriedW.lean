/- tried, of the statements: a plan that is let, out of a spool. Conditions: lengths are below a great bound. -/
import Derived.Test.YtkailkfiakagfaaGreatSoldW
import Derived.Test.YtkailkfiakagfaaGreatPlanA
set_option linter.unusedVariables false
set_option linter.unusedSimpArgs false
namespace Go.Proofs.YtkailkfiakagfaaGreat
open Go.RowKit Go.Shelf
set_option maxRecDepth 100000

end Go.Proofs.YtkailkfiakagfaaGreat
