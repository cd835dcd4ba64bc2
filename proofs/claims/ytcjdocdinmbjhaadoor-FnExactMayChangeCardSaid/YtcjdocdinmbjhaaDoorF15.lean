/- What the functions come to. -/
import Derived.Test.YtcjdocdinmbjhaaDoorF14
set_option linter.unusedVariables false
set_option linter.unusedSimpArgs false
namespace Go.Proofs.YtcjdocdinmbjhaaDoorK
open Go.RowKit
theorem okT_str {m : List UInt8} (h : OkT .str m) : m.length ≤ 9223372036854775807 := (OkT.bnd .str m h)
set_option maxHeartbeats 1000000 in
theorem wFnExactMayChange_ok (s : SrvD) (m : List UInt8) (a : AskD) (hO : OkT TSrv s) (hA : OkT TAsk a) : V wFnExactMayChange [srvA s, .d (.s m), askA a] [] = rB true := by
  rw [V_eq (fn := wFnExactMayChange_m) (by kernel_rfl)]
  have hb := OkT.bnd TSrv s hO
  have ha := OkT.bnd TAsk a hA
  have hv := okT_ver hO.1
  obtain ⟨c0, c1, c2, c3, c4, c5⟩ := s
  obtain ⟨p, q, dp, ov, tk, code⟩ := a
  by_cases h0 : 1048576 < m.length
  · have g0 : ((m.length : Int) ≤ 1048576) = False := eq_false (by omega)
    have g1 : ((1048576 : Int) < m.length) = True := eq_true (by omega)
    simp -implicitDefEqProofs [wFnExactMayChange_m, g0, g1]
  have g0 : ((m.length : Int) ≤ 1048576) = True := eq_true (by omega)
  have g1 : ((1048576 : Int) < m.length) = False := eq_false (by omega)
  obtain ⟨r1, e1, q1⟩ := wszSrv_ok c0 c1 c2 c3 c4 c5 hb 1048576 (by omega) (by omega)
  by_cases h1 : r1 < 0
  · simp -implicitDefEqProofs [wFnExactMayChange_m, g0, g1, e1, h1]
  have p1 := q1.resolve_left (by omega)
  obtain ⟨r2, e2, q2⟩ := wszAsk_ok p q dp ov tk code ha r1 (by omega) (by omega)
  by_cases h2 : r2 < 0
  · simp -implicitDefEqProofs [wFnExactMayChange_m, g0, g1, e1, h1, e2, h2]
  have p2 := q2.resolve_left (by omega)
  have hz : szT (.sl TRes) c0 + szT (.sl TLock) c1 + szT (.sl (.int .i64)) c4 + szT (.sl (.int .i64)) c5 ≤ 1048576 := by omega
  have hy : szT (.sl .str) p + szT (.sl .str) q + szT (.sl (.int .i64)) tk ≤ 1048576 := by omega
  have f1 := wtoSrv_ok c0 c1 c2 c3 c4 c5 hz
  have f2 := wtoAsk_ok p q dp ov tk code hy
  have lp := szLen (t := .str) (l := p)
  have lq := szLen (t := .str) (l := q)
  have lt := szLen (t := .int .i64) (l := tk)
  have hK : AskOk (c0, c1, c2, c3, c4, c5) (p, q, dp, ov, tk, code) := ⟨show szT (.sl TRes) c0 ≤ _ by omega, show szT (.sl TLock) c1 ≤ _ by omega, hv, show p.length ≤ _ by omega, show q.length ≤ _ by omega, show tk.length ≤ _ by omega⟩
  have f3 := sMayChange_ok _ m _ hK
  have f4 := iMayChange_ok _ m _ hK
  have f5 := weqSrv_ok c0 c1 c2 c3 c4 c5 hb
  have f6 := weqAsk_ok p q dp ov tk code ha
  simp only [srvA, askA] at f3 f4
  cases changeB (c0, c1, c2, c3, c4, c5) m (p, q, dp, ov, tk, code) <;> simp -implicitDefEqProofs [wFnExactMayChange_m, g0, g1, e1, h1, e2, h2, f1, f2, f3, f4, f5, f6]
end Go.Proofs.YtcjdocdinmbjhaaDoorK
