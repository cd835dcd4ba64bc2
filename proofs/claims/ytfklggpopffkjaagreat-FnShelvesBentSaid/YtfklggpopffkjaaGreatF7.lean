/- What the functions come to. -/
import Derived.Test.YtfklggpopffkjaaGreatF6
set_option linter.unusedVariables false
set_option linter.unusedSimpArgs false
namespace Go.Proofs.YtfklggpopffkjaaGreatK
open Go.RowKit
theorem okP_sz {p : PathD} (h : szT (.sl .str) p ≤ 1099511627776) : OkP p := by
  have := szLen (t := .str) (l := p)
  refine ⟨by omega, fun s hs => ?_⟩
  rw [szT_slE] at h
  have := szL_mem (t := .str) hs
  simp only [szT_str] at this
  omega
def underB (p h : PathD) : Bool := decide (h.length < p.length) && decide (p.take h.length = h)
theorem iUnder_ok (p h : PathD) (hh : h.length ≤ 9223372036854775807) : V iUnder [.d (.sl .str p), .d (.sl .str h)] [] = rB (underB p h) := by
  rw [V_eq (fn := iUnder_m) (by kernel_rfl)]
  have e := iSamePath_ok (p.take h.length) h (by rw [List.length_take]; omega)
  unfold underB
  by_cases c : h.length < p.length
  · have c' : h.length ≤ p.length := by omega
    simp -implicitDefEqProofs [iUnder_m, c, c', e]
  · simp -implicitDefEqProofs [iUnder_m, c]
theorem sUnder_ok (p h : PathD) (hh : h.length ≤ 9223372036854775807) : V sUnder [.d (.sl .str p), .d (.sl .str h)] [] = rB (underB p h) := by
  rw [V_eq (fn := sUnder_m) (by kernel_rfl)]
  have e := sSamePath_ok (p.take h.length) h (by rw [List.length_take]; omega)
  unfold underB
  by_cases c : h.length < p.length
  · have c' : h.length ≤ p.length := by omega
    simp -implicitDefEqProofs [sUnder_m, c, c', e]
  · simp -implicitDefEqProofs [sUnder_m, c]
theorem icopyPath_ok (p : PathD) (h : p.length ≤ 1099511627776) : V icopyPath [.d (.sl .str p)] [] = some ([], .one (.own (.sl .str p))) := by
  rw [V_eq (fn := icopyPath_m) (by kernel_rfl)]
  simp -implicitDefEqProofs [icopyPath_m, (by omega : p.length * 16 ≤ 140737488355328)]
theorem iAbove_ok (p : PathD) (h : p.length ≤ 1099511627776) : V iAbove [.d (.sl .str p)] [] = some ([], .one (.own (.sl .str p.dropLast))) := by
  rw [V_eq (fn := iAbove_m) (by kernel_rfl)]
  by_cases c : p = []
  · subst c; simp -implicitDefEqProofs [iAbove_m]
  · have hl : 0 < p.length := List.length_pos_iff.2 c
    have e := icopyPath_ok (p.take (p.length - 1)) (by rw [List.length_take]; omega)
    have w : IntKind.i64.wrap ((p.length : Int) - 1) = ((p.length - 1 : Nat) : Int) := by rw [wrI (by omega) (by omega)]; omega
    simp -implicitDefEqProofs [iAbove_m, c, w, e, List.dropLast_eq_take, List.take_take, Nat.min_self]
theorem sAbove_ok (p : PathD) (h : p.length ≤ 1099511627776) : V sAbove [.d (.sl .str p)] [] = some ([], .one (.own (.sl .str p.dropLast))) := by
  rw [V_eq (fn := sAbove_m) (by kernel_rfl)]
  by_cases c : p = []
  · subst c; simp -implicitDefEqProofs [sAbove_m]
  · have hl : 0 < p.length := List.length_pos_iff.2 c
    have w : IntKind.i64.wrap ((p.length : Int) - 1) = ((p.length - 1 : Nat) : Int) := by rw [wrI (by omega) (by omega)]; omega
    have hm : min (p.length - 1) p.length = p.length - 1 := by omega
    simp -implicitDefEqProofs [sAbove_m, c, w, List.dropLast_eq_take, List.take_take, Nat.min_self, hm, (by omega : (p.length - 1) * 16 ≤ 140737488355328)]
end Go.Proofs.YtfklggpopffkjaaGreatK
