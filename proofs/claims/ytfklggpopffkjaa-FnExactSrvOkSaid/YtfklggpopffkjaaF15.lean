/- What the functions come to. -/
import Derived.Test.YtfklggpopffkjaaF14
set_option linter.unusedVariables false
set_option linter.unusedSimpArgs false
namespace Go.Proofs.YtfklggpopffkjaaK
open Go.RowKit
theorem wFnExactSrvOk_ok (s : SrvD) (hO : OkT TSrv s) : V wFnExactSrvOk [srvA s] [] = rB true := by
  rw [V_eq (fn := wFnExactSrvOk_m) (by kernel_rfl)]
  have hb := OkT.bnd TSrv s hO
  obtain ⟨c0, c1, c2, c3, c4, c5⟩ := s
  obtain ⟨r1, e1, q1⟩ := wszSrv_ok c0 c1 c2 c3 c4 c5 hb 1048576 (by omega) (by omega)
  by_cases h1 : r1 < 0
  · simp -implicitDefEqProofs [wFnExactSrvOk_m, e1, h1]
  have p1 := q1.resolve_left (by omega)
  have hz : szT (.sl TRes) c0 + szT (.sl TLock) c1 + szT (.sl (.int .i64)) c4 + szT (.sl (.int .i64)) c5 ≤ 1048576 := by omega
  have f1 := wtoSrv_ok c0 c1 c2 c3 c4 c5 hz
  have hs : szT TSrv (c0, c1, c2, c3, c4, c5) ≤ 1099511627776 := by simp only [szT_pr, szT_int]; omega
  have f2 := sSrvOk_ok (c0, c1, c2, c3, c4, c5) hs
  have f3 := iSrvOk_ok (c0, c1, c2, c3, c4, c5) hs
  have f4 := weqSrv_ok c0 c1 c2 c3 c4 c5 hb
  simp only [srvA] at f2 f3
  cases srvB (c0, c1, c2, c3, c4, c5) <;> simp -implicitDefEqProofs [wFnExactSrvOk_m, e1, h1, f1, f2, f3, f4]
end Go.Proofs.YtfklggpopffkjaaK
