/- What the functions come to. -/
import Derived.Test.YtfklggpopffkjaaF12
set_option linter.unusedVariables false
set_option linter.unusedSimpArgs false
namespace Go.Proofs.YtfklggpopffkjaaK
open Go.RowKit
end Go.Proofs.YtfklggpopffkjaaK
