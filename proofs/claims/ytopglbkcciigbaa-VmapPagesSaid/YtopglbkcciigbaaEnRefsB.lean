/- pantryref15.Merge, Cut, Insert. Conditions: a right list of at most 500 entries. -/
import Derived.Test.YtopglbkcciigbaaEnRefs
import Derived.Test.YtopglbkcciigbaaEnCut
import Derived.Test.YtopglbkcciigbaaEnInsP
import Derived.Test.YtopglbkcciigbaaEnRight
namespace Go.Proofs.Ytopglbkcciigbaa
open Go.RowKit
set_option linter.unusedSimpArgs false
set_option linter.unusedVariables false
end Go.Proofs.Ytopglbkcciigbaa
