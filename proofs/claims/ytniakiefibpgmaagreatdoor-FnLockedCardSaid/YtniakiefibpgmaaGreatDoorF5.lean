/- What the functions come to. -/
import Derived.Test.YtniakiefibpgmaaGreatDoorF4
set_option linter.unusedVariables false
set_option linter.unusedSimpArgs false
namespace Go.Proofs.YtniakiefibpgmaaGreatDoorK
open Go.RowKit
end Go.Proofs.YtniakiefibpgmaaGreatDoorK
