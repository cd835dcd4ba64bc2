/- What the functions come to. -/
import Derived.Test.YtfklggpopffkjaaF4
set_option linter.unusedVariables false
set_option linter.unusedSimpArgs false
namespace Go.Proofs.YtfklggpopffkjaaK
open Go.RowKit
def plainB (b : UInt8) : Bool := decide (32 ≤ b) && decide (b ≤ 126)
theorem iin_ok (n a b : Int) : V iin [.d (.i .i64 n), .d (.i .i64 a), .d (.i .i64 b)] [] = some ([], .one (.fz (.b (decide (a ≤ n) && decide (n ≤ b))))) := by
  rw [V_eq (fn := iin_m) (by kernel_rfl)]
  by_cases h : a ≤ n <;> simp -implicitDefEqProofs [iin_m, h]
theorem sl1In_ok (n a b : Int) : V sl1In [.d (.i .i64 n), .d (.i .i64 a), .d (.i .i64 b)] [] = some ([], .one (.fz (.b (decide (a ≤ n) && decide (n ≤ b))))) := by
  rw [V_eq (fn := sl1In_m) (by kernel_rfl)]
  by_cases h : a ≤ n <;> simp -implicitDefEqProofs [sl1In_m, h]
theorem u8_range (b : UInt8) (x y : Nat) (hx : x < 256) (hy : y < 256) : (decide ((x : Int) ≤ (b.toNat : Int)) && decide ((b.toNat : Int) ≤ (y : Int))) = (decide (UInt8.ofNat x ≤ b) && decide (b ≤ UInt8.ofNat y)) := by
  have e1 : (UInt8.ofNat x).toNat = x := by simp; omega
  have e2 : (UInt8.ofNat y).toNat = y := by simp; omega
  simp only [UInt8.le_iff_toNat_le, e1, e2, Int.ofNat_le]
end Go.Proofs.YtfklggpopffkjaaK
