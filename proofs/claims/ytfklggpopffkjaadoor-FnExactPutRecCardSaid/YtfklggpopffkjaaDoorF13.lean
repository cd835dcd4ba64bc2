/- What the functions come to. -/
import Derived.Test.YtfklggpopffkjaaDoorF12
set_option linter.unusedVariables false
set_option linter.unusedSimpArgs false
namespace Go.Proofs.YtfklggpopffkjaaDoorK
open Go.RowKit
theorem byMarks (l : List UInt8) (hz : l.length ≤ 4194304) :
    ∃ (d : List UInt8) (m : Nat), d.length = l.length ∧ m ≤ 2305843009213693952 ∧ V wmarkByteS [.h 0 0 l.length, i6 1] [.ls .u8 false l 0 []] = some ([some (.ls .u8 false d 0 [])], .one (.fz (.i .i64 m))) ∧
      V wheldByteS [.d (.sl .u8 d), i6 1] [] = rI m := by
  have hs : szT (.sl .u8) l ≤ 4194304 := by rw [szT_flat rfl]; omega
  have b0 := BndM_of (.sl .u8) l (by omega)
  have k0 := markT_bound (.sl .u8) l 1
  simp [T.wd] at k0
  have e2 := wmarkByteS_ok l 1 b0.1 (by omega) b0.2
  have e3 := wheldByteS_ok l 1 b0.1 (by omega) b0.2
  simp only [Int.natCast_one] at e2 e3
  exact ⟨_, _, markL_len _ _ _, by omega, e2, e3⟩
theorem recMarks (n k : Int) (m p : List UInt8) (l : List (T.den THead)) (b : List UInt8) (x : Nat) (hx : x ≤ 2305843009213693952) (hz : szT (.sl THead) l ≤ 4194304) :
    ∃ (d : List (T.den THead)) (y : Nat), d.length = l.length ∧ V wmarkRec [.agg [i6 n, i6 k, .d (.s m), .d (.s p), .h 0 0 l.length, .d (.s b)], i6 x] [.ls THead false l 0 []] = some ([some (.ls THead false d 0 [])], .one (.fz (.i .i64 y))) := by
  have b0 := BndM_of (.sl THead) l (by omega)
  have k0 := markT_bound (.sl THead) l x
  simp [T.wd] at k0
  have e2 := wmarkRec_ok n k m p l b x b0.1 b0.2 (by omega)
  exact ⟨_, _, markL_len _ _ _, e2⟩
set_option maxHeartbeats 2000000 in
set_option maxRecDepth 100000 in
theorem wFnExactPutRec_ok (a : List UInt8) (r : RecD) (hA : OkT (.sl .u8) a) (hO : OkT TRec r) : V wFnExactPutRec [.d (.sl .u8 a), recA r] [] = rB true := by
  rw [V_eq (fn := wFnExactPutRec_m) (by kernel_rfl)]
  have ha := OkT.bnd (.sl .u8) a hA
  have hb := OkT.bnd TRec r hO
  by_cases hl : 1048576 < a.length
  · obtain ⟨n, k, m, p, l, b⟩ := r
    simp -implicitDefEqProofs [wFnExactPutRec_m, (eq_true (by omega) : ((1048576 : Int) < (a.length : Int)) = True)]
  have hl' : ((1048576 : Int) < (a.length : Int)) = False := eq_false (by omega)
  obtain ⟨n, k, m, p, l, b⟩ := r
  obtain ⟨r1, e1, q1⟩ := wszRec_ok n k m p l b hb 1048576 (by omega) (by omega)
  by_cases h1 : r1 < 0
  · simp -implicitDefEqProofs [wFnExactPutRec_m, hl', e1, h1]
  have p1 := q1.resolve_left (by omega)
  have hz : m.length + p.length + szT (.sl THead) l + b.length ≤ 1048576 := by omega
  have f1 := wtoRec_ok n k m p l b hz
  have g1 := wtoByteS_ok a (by rw [szT_flat rfl]; omega)
  have hs : szR (m, p, l, b) ≤ 1099511627776 := by simp only [szR]; omega
  have f2 := sPutRec_ok a (n, k, m, p, l, b) (by omega) hs
  have f3 := iPutRec_ok a (n, k, m, p, l, b) (by omega) hs
  have f4 := weqRec_ok n k m p l b hb
  have g4 := weqByteS_ok a ha
  simp only [recA] at f2 f3
  have ht : (a ++ recB (n, k, m, p, l, b)).length ≤ 4194304 := by
    have := putB_len (m, p, l, b) (extraB b) b
    rw [List.length_append]
    have : (recB (n, k, m, p, l, b)).length ≤ 407 + b.length := by
      unfold recB; split
      · rw [List.length_append]; unfold putReqB; simp only [recText, List.length_cons, List.length_nil]; omega
      · simp
    omega
  generalize a ++ recB (n, k, m, p, l, b) = t at f2 f3 ht
  have hbt := BndT_of (.sl .u8) t (by rw [szT_flat rfl]; omega)
  have g5 := weqByteS_ok t hbt
  obtain ⟨d, x, l0, hx, k1, k2⟩ := byMarks a (by omega)
  obtain ⟨d', x', l1, _, k3, k4⟩ := byMarks t ht
  obtain ⟨c, y, l2, k5⟩ := recMarks n k m p l b x hx (by omega)
  simp -implicitDefEqProofs [wFnExactPutRec_m, hl', e1, h1, f1, g1, f2, f3, f4, g4, g5, k1, k2, k3, k4, k5, l0, l1, l2, take_all]
end Go.Proofs.YtfklggpopffkjaaDoorK
