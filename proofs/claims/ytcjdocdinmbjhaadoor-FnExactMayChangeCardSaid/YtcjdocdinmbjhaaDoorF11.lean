/- What the functions come to. -/
import Derived.Test.YtcjdocdinmbjhaaDoorF10
set_option linter.unusedVariables false
set_option linter.unusedSimpArgs false
namespace Go.Proofs.YtcjdocdinmbjhaaDoorK
open Go.RowKit
def heldB (s : SrvD) : Bool := s.2.1.all fun x => (tagAt s.1 x.2.1).isSome
end Go.Proofs.YtcjdocdinmbjhaaDoorK
