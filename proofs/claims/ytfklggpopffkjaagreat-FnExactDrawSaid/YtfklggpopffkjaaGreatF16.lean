/- What the functions come to. -/
import Derived.Test.YtfklggpopffkjaaGreatF15
set_option linter.unusedVariables false
set_option linter.unusedSimpArgs false
namespace Go.Proofs.YtfklggpopffkjaaGreatK
open Go.RowKit
theorem srvMarks (c0 : List (T.den TRes)) (c1 : List (T.den TLock)) (c2 c3 : Int) (c4 c5 : List Int) (hz : szT (.sl TRes) c0 + szT (.sl TLock) c1 + szT (.sl (.int .i64)) c4 + szT (.sl (.int .i64)) c5 ≤ 4194304) :
    ∃ (d0 : List (T.den TRes)) (d1 : List (T.den TLock)) (d4 d5 : List Int) (m : Nat), d0.length = c0.length ∧ d1.length = c1.length ∧ d4.length = c4.length ∧ d5.length = c5.length ∧
      V wmarkSrv [.agg [.h 0 0 c0.length, .h 1 0 c1.length, i6 c2, i6 c3, .h 2 0 c4.length, .h 3 0 c5.length], i6 1] [.ls TRes false c0 0 [], .ls TLock false c1 0 [], .ls (.int .i64) false c4 0 [], .ls (.int .i64) false c5 0 []] =
        some ([some (.ls TRes false d0 0 []), some (.ls TLock false d1 0 []), some (.ls (.int .i64) false d4 0 []), some (.ls (.int .i64) false d5 0 [])], .one (.fz (.i .i64 m))) ∧
      V wheldSrv [.agg [.d (.sl TRes d0), .d (.sl TLock d1), i6 c2, i6 c3, .d (.sl (.int .i64) d4), .d (.sl (.int .i64) d5)], i6 1] [] = rI m := by
  have b0 := BndM_of (.sl TRes) c0 (by omega)
  have b1 := BndM_of (.sl TLock) c1 (by omega)
  have b4 := BndM_of (.sl (.int .i64)) c4 (by omega)
  have b5 := BndM_of (.sl (.int .i64)) c5 (by omega)
  have hk : (markT (.sl (.int .i64)) c5 ((markT (.sl (.int .i64)) c4 ((markT (.sl TLock) c1 ((markT (.sl TRes) c0 (1)).2)).2)).2)).2 ≤ 4611686018427387904 := by
    have k0 := markT_bound (.sl TRes) c0 1
    have k1 := markT_bound (.sl TLock) c1 (markT (.sl TRes) c0 1).2
    generalize (markT (.sl TRes) c0 1).2 = x0 at *
    generalize (markT (.sl TLock) c1 x0).2 = x1 at *
    have k4 := markT_bound (.sl (.int .i64)) c4 x1
    generalize (markT (.sl (.int .i64)) c4 x1).2 = x4 at *
    have k5 := markT_bound (.sl (.int .i64)) c5 x4
    simp [T.wd] at k0 k1 k4 k5
    omega
  have e2 := wmarkSrv_ok c0 c1 c2 c3 c4 c5 1 b0.1 b1.1 b4.1 b5.1 b0.2 b1.2 b4.2 b5.2 hk
  have e3 := wheldSrv_ok c0 c1 c2 c3 c4 c5 1 b0.1 b1.1 b4.1 b5.1 b0.2 b1.2 b4.2 b5.2 hk
  simp only [Int.natCast_one] at e2 e3
  exact ⟨_, _, _, _, _, markL_len _ _ _, markL_len _ _ _, markL_len _ _ _, markL_len _ _ _, e2, e3⟩
set_option maxHeartbeats 2000000 in
set_option maxRecDepth 100000 in
theorem wFnExactDraw_ok (s : SrvD) (n : Int) (hO : OkT TSrv s) : V wFnExactDraw [srvA s, i6 n] [] = rB true := by
  rw [V_eq (fn := wFnExactDraw_m) (by kernel_rfl)]
  have hb := OkT.bnd TSrv s hO
  obtain ⟨c0, c1, c2, c3, c4, c5⟩ := s
  obtain ⟨r1, e1, q1⟩ := wszSrv_ok c0 c1 c2 c3 c4 c5 hb 1048576 (by omega) (by omega)
  by_cases h1 : r1 < 0
  · simp -implicitDefEqProofs [wFnExactDraw_m, e1, h1]
  have p1 := q1.resolve_left (by omega)
  have hz : szT (.sl TRes) c0 + szT (.sl TLock) c1 + szT (.sl (.int .i64)) c4 + szT (.sl (.int .i64)) c5 ≤ 1048576 := by omega
  have f1 := wtoSrv_ok c0 c1 c2 c3 c4 c5 hz
  have hs : szT TSrv (c0, c1, c2, c3, c4, c5) ≤ 1099511627776 := by simp only [szT_pr, szT_int]; omega
  have f2 := sDraw_ok (c0, c1, c2, c3, c4, c5) n hs
  have f3 := iDraw_ok (c0, c1, c2, c3, c4, c5) n hs
  have f4 := weqSrv_ok c0 c1 c2 c3 c4 c5 hb
  have hr : szT TSrv (drawB (c0, c1, c2, c3, c4, c5) n) ≤ 1048577 := by
    unfold drawB
    have e : szT (.sl (.int .i64)) (c4 ++ [n]) = szT (.sl (.int .i64)) c4 + 1 := by rw [szT_flat rfl, szT_flat rfl]; simp
    split <;> simp only [szT_pr, szT_int] <;> omega
  generalize drawB (c0, c1, c2, c3, c4, c5) n = r at f2 f3 hr
  have hbr := BndT_of TSrv r (by omega)
  obtain ⟨d0, d1, d2, d3, d4, d5⟩ := r
  simp only [szT_pr, szT_int] at hr
  have f5 := weqSrv_ok d0 d1 d2 d3 d4 d5 hbr
  obtain ⟨a0, a1, a4, a5, m, l0, l1, l4, l5, g1, g2⟩ := srvMarks c0 c1 c2 c3 c4 c5 (by omega)
  obtain ⟨b0, b1, b4, b5, m', k0, k1, k4, k5, g3, g4⟩ := srvMarks d0 d1 d2 d3 d4 d5 (by omega)
  simp only [srvA] at f2 f3
  simp -implicitDefEqProofs [wFnExactDraw_m, e1, h1, f1, f2, f3, f4, f5, g1, g2, g3, g4, l0, l1, l4, l5, k0, k1, k4, k5, take_all]
end Go.Proofs.YtfklggpopffkjaaGreatK
