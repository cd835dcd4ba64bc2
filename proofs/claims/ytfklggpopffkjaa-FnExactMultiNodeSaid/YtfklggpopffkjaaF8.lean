/- What the functions come to. -/
import Derived.Test.YtfklggpopffkjaaF7
set_option linter.unusedVariables false
set_option linter.unusedSimpArgs false
namespace Go.Proofs.YtfklggpopffkjaaK
open Go.RowKit
theorem okP_sz {p : PathD} (h : szT (.sl .str) p ≤ 1099511627776) : OkP p := by
  have := szLen (t := .str) (l := p)
  refine ⟨by omega, fun s hs => ?_⟩
  rw [szT_slE] at h
  have := szL_mem (t := .str) hs
  simp only [szT_str] at this
  omega
def underB (p h : PathD) : Bool := decide (h.length < p.length) && decide (p.take h.length = h)
end Go.Proofs.YtfklggpopffkjaaK
