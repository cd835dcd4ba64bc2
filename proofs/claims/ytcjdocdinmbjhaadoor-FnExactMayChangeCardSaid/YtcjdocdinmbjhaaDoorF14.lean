/- What the functions come to. -/
import Derived.Test.YtcjdocdinmbjhaaDoorF13
set_option linter.unusedVariables false
set_option linter.unusedSimpArgs false
namespace Go.Proofs.YtcjdocdinmbjhaaDoorK
open Go.RowKit
theorem okT_ver {t : List ResD} (h : OkT (.sl TRes) t) : verB t := fun r hr => by
  have := (h.2 r hr).2.2.2.1
  simp only [OkT, Lit.wf, IntKind.min, IntKind.max, IntKind.signed, IntKind.bits] at this
  simp at this
  omega
end Go.Proofs.YtcjdocdinmbjhaaDoorK
