/- The reference's Normal. -/
import Derived.Test.YtkdfafaiabidgaaDoorKq
namespace Go.Proofs.YtkdfafaiabidgaaDoor.X5
set_option linter.unusedVariables false
set_option linter.unusedSimpArgs false
open Go.RowKit Wd Ty9

end Go.Proofs.YtkdfafaiabidgaaDoor.X5
