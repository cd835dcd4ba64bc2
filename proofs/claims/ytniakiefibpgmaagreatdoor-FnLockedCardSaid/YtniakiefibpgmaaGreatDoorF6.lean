/- What the functions come to. -/
import Derived.Test.YtniakiefibpgmaaGreatDoorF5
set_option linter.unusedVariables false
set_option linter.unusedSimpArgs false
namespace Go.Proofs.YtniakiefibpgmaaGreatDoorK
open Go.RowKit
theorem wbig_ok (l : List UInt8) : V wbig [.d (.sl .u8 l)] [] = rB (decide (1048576 < l.length)) := by
  rw [V_eq (fn := wbig_m) (by kernel_rfl)]
  by_cases hb : 1048576 < l.length
  · simp -implicitDefEqProofs [wbig_m, hb, (eq_true (by omega) : ((1048576 : Int) < (l.length : Int)) = True)]
  · simp -implicitDefEqProofs [wbig_m, hb, (eq_false (by omega) : ((1048576 : Int) < (l.length : Int)) = False)]
end Go.Proofs.YtniakiefibpgmaaGreatDoorK
