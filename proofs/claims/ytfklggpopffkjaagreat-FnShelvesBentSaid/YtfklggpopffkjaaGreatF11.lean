/- What the functions come to. -/
import Derived.Test.YtfklggpopffkjaaGreatF10
set_option linter.unusedVariables false
set_option linter.unusedSimpArgs false
namespace Go.Proofs.YtfklggpopffkjaaGreatK
open Go.RowKit
end Go.Proofs.YtfklggpopffkjaaGreatK
