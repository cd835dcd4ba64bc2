/- What the functions come to. -/
import Derived.Test.YtfklggpopffkjaaGreatDoorF15
set_option linter.unusedVariables false
set_option linter.unusedSimpArgs false
namespace Go.Proofs.YtfklggpopffkjaaGreatDoorK
open Go.RowKit
def safeB (s : SrvD) : Int := if srvB s = true then (if heldB s = true then 0 else 2) else 1
theorem iSafe_ok (s : SrvD) (ht : szT TSrv s ≤ 1099511627776) (hv : verB s.1) : V iSafe [srvA s] [] = rI (safeB s) := by
  rw [V_eq (fn := iSafe_m) (by kernel_rfl)]
  have e1 := iSrvOk_ok s ht
  have e2 := iHeld_ok s ht hv
  unfold safeB
  generalize srvB s = t1 at e1 ⊢
  generalize heldB s = t2 at e2 ⊢
  obtain ⟨c0, c1, c2, c3, c4, c5⟩ := s
  simp only [srvA] at e1 e2 ⊢
  cases t1 <;> cases t2 <;> simp -implicitDefEqProofs [iSafe_m, e1, e2]
theorem sSafe_ok (s : SrvD) (ht : szT TSrv s ≤ 1099511627776) (hv : verB s.1) : V sSafe [srvA s] [] = rI (safeB s) := by
  rw [V_eq (fn := sSafe_m) (by kernel_rfl)]
  have e1 := sSrvOk_ok s ht
  have e2 := sHeld_ok s ht hv
  unfold safeB
  generalize srvB s = t1 at e1 ⊢
  generalize heldB s = t2 at e2 ⊢
  obtain ⟨c0, c1, c2, c3, c4, c5⟩ := s
  simp only [srvA] at e1 e2 ⊢
  cases t1 <;> cases t2 <;> simp -implicitDefEqProofs [sSafe_m, e1, e2]
theorem okT_ver' {t : List ResD} (h : OkT (.sl TRes) t) : verB t := fun r hr => by
  have := (h.2 r hr).2.2.2.1
  simp only [OkT, Lit.wf, IntKind.min, IntKind.max, IntKind.signed, IntKind.bits] at this
  simp at this
  omega
theorem wFnExactSafe_ok (s : SrvD) (hO : OkT TSrv s) : V wFnExactSafe [srvA s] [] = rB true := by
  rw [V_eq (fn := wFnExactSafe_m) (by kernel_rfl)]
  have hb := OkT.bnd TSrv s hO
  have hv := okT_ver' hO.1
  obtain ⟨c0, c1, c2, c3, c4, c5⟩ := s
  obtain ⟨r1, e1, q1⟩ := wszSrv_ok c0 c1 c2 c3 c4 c5 hb 1048576 (by omega) (by omega)
  by_cases h1 : r1 < 0
  · simp -implicitDefEqProofs [wFnExactSafe_m, e1, h1]
  have p1 := q1.resolve_left (by omega)
  have hz : szT (.sl TRes) c0 + szT (.sl TLock) c1 + szT (.sl (.int .i64)) c4 + szT (.sl (.int .i64)) c5 ≤ 1048576 := by omega
  have f1 := wtoSrv_ok c0 c1 c2 c3 c4 c5 hz
  have hs : szT TSrv (c0, c1, c2, c3, c4, c5) ≤ 1099511627776 := by simp only [szT_pr, szT_int]; omega
  have f2 := sSafe_ok (c0, c1, c2, c3, c4, c5) hs hv
  have f3 := iSafe_ok (c0, c1, c2, c3, c4, c5) hs hv
  have f4 := weqSrv_ok c0 c1 c2 c3 c4 c5 hb
  simp only [srvA] at f2 f3
  generalize safeB (c0, c1, c2, c3, c4, c5) = r at f2 f3
  simp -implicitDefEqProofs [wFnExactSafe_m, e1, h1, f1, f2, f3, f4]
end Go.Proofs.YtfklggpopffkjaaGreatDoorK
