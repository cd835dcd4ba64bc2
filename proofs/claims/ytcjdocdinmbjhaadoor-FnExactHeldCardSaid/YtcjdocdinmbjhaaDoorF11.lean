/- What the functions come to. -/
import Derived.Test.YtcjdocdinmbjhaaDoorF10
set_option linter.unusedVariables false
set_option linter.unusedSimpArgs false
namespace Go.Proofs.YtcjdocdinmbjhaaDoorK
open Go.RowKit
theorem okT_ver {t : List ResD} (h : OkT (.sl TRes) t) : verB t := fun r hr => by
  have := (h.2 r hr).2.2.2.1
  simp only [OkT, Lit.wf, IntKind.min, IntKind.max, IntKind.signed, IntKind.bits] at this
  simp at this
  omega
theorem wFnExactHeld_ok (s : SrvD) (hO : OkT TSrv s) : V wFnExactHeld [srvA s] [] = rB true := by
  rw [V_eq (fn := wFnExactHeld_m) rfl]
  have hb := OkT.bnd TSrv s hO
  have hv := okT_ver hO.1
  obtain ⟨c0, c1, c2, c3, c4, c5⟩ := s
  obtain ⟨r1, e1, q1⟩ := wszSrv_ok c0 c1 c2 c3 c4 c5 hb 1048576 (by omega) (by omega)
  by_cases h1 : r1 < 0
  · simp -implicitDefEqProofs [wFnExactHeld_m, e1, h1]
  have p1 := q1.resolve_left (by omega)
  have hz : szT (.sl TRes) c0 + szT (.sl TLock) c1 + szT (.sl (.int .i64)) c4 + szT (.sl (.int .i64)) c5 ≤ 1048576 := by omega
  have f1 := wtoSrv_ok c0 c1 c2 c3 c4 c5 hz
  have hs : szT TSrv (c0, c1, c2, c3, c4, c5) ≤ 1099511627776 := by simp only [szT_pr, szT_int]; omega
  have f2 := sHeld_ok (c0, c1, c2, c3, c4, c5) hs hv
  have f3 := iHeld_ok (c0, c1, c2, c3, c4, c5) hs hv
  have f4 := weqSrv_ok c0 c1 c2 c3 c4 c5 hb
  simp only [srvA] at f2 f3
  cases heldB (c0, c1, c2, c3, c4, c5) <;> simp -implicitDefEqProofs [wFnExactHeld_m, e1, h1, f1, f2, f3, f4]
end Go.Proofs.YtcjdocdinmbjhaaDoorK
