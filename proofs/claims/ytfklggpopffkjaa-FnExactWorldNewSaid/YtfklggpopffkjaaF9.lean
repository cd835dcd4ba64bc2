/- What the functions come to. -/
import Derived.Test.YtfklggpopffkjaaF8
set_option linter.unusedVariables false
set_option linter.unusedSimpArgs false
namespace Go.Proofs.YtfklggpopffkjaaK
open Go.RowKit
/-- The law, where both come to w. -/
theorem worldNew_law (n : Int) (w : WorldD) (f1 : V sWorldNew [i6 n] [] = some ([], worldR w)) (f2 : V iWorldNew [i6 n] [] = some ([], worldR w)) (hb : BndT TWorld w) (hz : szT TWorld w ≤ 1048576) : V wFnExactWorldNew [i6 n] [] = rB true := by
  rw [V_eq (fn := wFnExactWorldNew_m) (by kernel_rfl)]
  obtain ⟨⟨c0, c1, c2, c3, c4, c5⟩, c6, c7, c8, c9, c10⟩ := w
  simp only [szT_pr, szT_int] at hz
  have e1 := weqWorld_ok c0 c1 c2 c3 c4 c5 c6 c7 c8 c9 c10 hb
  have b0 := BndM_of (.sl TRes) c0 (by omega)
  have b1 := BndM_of (.sl TLock) c1 (by omega)
  have b4 := BndM_of (.sl (.int .i64)) c4 (by omega)
  have b5 := BndM_of (.sl (.int .i64)) c5 (by omega)
  have b6 := BndM_of (.sl TWire) c6 (by omega)
  have b7 := BndM_of (.sl (.sl .u8)) c7 (by omega)
  have b8 := BndM_of (.sl (.sl .u8)) c8 (by omega)
  have b9 := BndM_of (.sl .u8) c9 (by omega)
  have hk : (markT (.sl .u8) c9 ((markT (.sl (.sl .u8)) c8 ((markT (.sl (.sl .u8)) c7 ((markT (.sl TWire) c6 ((markT (.sl (.int .i64)) c5 ((markT (.sl (.int .i64)) c4 ((markT (.sl TLock) c1 ((markT (.sl TRes) c0 (1)).2)).2)).2)).2)).2)).2)).2)).2 ≤ 4611686018427387904 := by
    have k0 := markT_bound (.sl TRes) c0 1
    have k1 := markT_bound (.sl TLock) c1 (markT (.sl TRes) c0 1).2
    generalize (markT (.sl TRes) c0 1).2 = x0 at *
    generalize (markT (.sl TLock) c1 x0).2 = x1 at *
    have k4 := markT_bound (.sl (.int .i64)) c4 x1
    generalize (markT (.sl (.int .i64)) c4 x1).2 = x4 at *
    have k5 := markT_bound (.sl (.int .i64)) c5 x4
    generalize (markT (.sl (.int .i64)) c5 x4).2 = x5 at *
    have k6 := markT_bound (.sl TWire) c6 x5
    generalize (markT (.sl TWire) c6 x5).2 = x6 at *
    have k7 := markT_bound (.sl (.sl .u8)) c7 x6
    generalize (markT (.sl (.sl .u8)) c7 x6).2 = x7 at *
    have k8 := markT_bound (.sl (.sl .u8)) c8 x7
    generalize (markT (.sl (.sl .u8)) c8 x7).2 = x8 at *
    have k9 := markT_bound (.sl .u8) c9 x8
    simp [T.wd] at k0 k1 k4 k5 k6 k7 k8 k9
    omega
  have e2 := wmarkWorld_ok c0 c1 c2 c3 c4 c5 c6 c7 c8 c9 c10 1 b0.1 b1.1 b4.1 b5.1 b6.1 b7.1 b8.1 b9.1 b0.2 b1.2 b4.2 b5.2 b6.2 b7.2 b8.2 b9.2 hk
  have e3 := wheldWorld_ok c0 c1 c2 c3 c4 c5 c6 c7 c8 c9 c10 1 b0.1 b1.1 b4.1 b5.1 b6.1 b7.1 b8.1 b9.1 b0.2 b1.2 b4.2 b5.2 b6.2 b7.2 b8.2 b9.2 hk
  simp only [Int.natCast_one] at e2 e3
  simp -implicitDefEqProofs [wFnExactWorldNew_m, f1, f2, e1, e2, e3, mark_take, markL_len]
theorem wFnExactWorldNew_ok (n : Int) : V wFnExactWorldNew [i6 n] [] = rB true := by
  refine worldNew_law n (worldNewB n) (sWorldNew_ok n) (iWorldNew_ok n) ?_ ?_
  all_goals
    unfold worldNewB
    split
    · rename_i h
      obtain rfl | rfl | rfl | rfl : n = 1 ∨ n = 2 ∨ n = 3 ∨ n = 4 := by omega
      all_goals simp [newW, BndT, szT, szL, List.replicate]
    · simp [noW, BndT, szT]
end Go.Proofs.YtfklggpopffkjaaK
