/- What the functions come to. -/
import Derived.Test.YtfklggpopffkjaaGreatDoorF13
set_option linter.unusedVariables false
set_option linter.unusedSimpArgs false
namespace Go.Proofs.YtfklggpopffkjaaGreatDoorK
open Go.RowKit
def heldB (s : SrvD) : Bool := s.2.1.all fun x => (tagAt s.1 x.2.1).isSome
theorem iHeld_ok (s : SrvD) (ht : szT TSrv s ≤ 1099511627776) (hv : verB s.1) : V iHeld [srvA s] [] = rB (heldB s) := by
  rw [V_eq (fn := iHeld_m) (by kernel_rfl)]
  have ht' := ht
  simp only [szT_pr] at ht'
  have hl := szLen (t := TLock) (l := s.2.1)
  have L := loop_all (X := V) (c := iHeld_l0) s.2.1 (fun x => (tagAt s.1 x.2.1).isSome) (fun i : Nat => ⟨[(10, i6 i), (9, i6 s.2.1.length), (8, .d (.sl TLock s.2.1)), (1, .p 65 0 0)], [(65, .ls TSrv true [s] 0 [])]⟩) (.ret, ⟨[(2, .d (.b false))], []⟩) (.ex 0, ⟨[], []⟩) (by simp) (by simp)
    (fun i hi => by
      have e := iTagAt_ok s s.2.1[i].2.1 (by omega) hv
      cases h : tagAt s.1 s.2.1[i].2.1 <;> rw [h, tagR] at e <;> simp -implicitDefEqProofs [iHeld_l0, hi, get_some hi, wrap_succ hi (by omega), e])
    (by simp -implicitDefEqProofs [iHeld_l0])
  simp only [Int.natCast_zero] at L
  unfold heldB
  cases h : s.2.1.all (fun x => (tagAt s.1 x.2.1).isSome) <;> rw [h] at L <;> simp -implicitDefEqProofs [iHeld_m, L]
theorem sHeld_ok (s : SrvD) (ht : szT TSrv s ≤ 1099511627776) (hv : verB s.1) : V sHeld [srvA s] [] = rB (heldB s) := by
  rw [V_eq (fn := sHeld_m) (by kernel_rfl)]
  have ht' := ht
  simp only [szT_pr] at ht'
  have hl := szLen (t := TLock) (l := s.2.1)
  have L := loop_all (X := V) (c := sHeld_l0) s.2.1 (fun x => (tagAt s.1 x.2.1).isSome) (fun i : Nat => ⟨[(3, i6 i), (1, .p 65 0 0)], [(65, .ls TSrv true [s] 0 [])]⟩) (.ret, ⟨[(2, .d (.b false))], []⟩) (.ex 0, ⟨[], []⟩) (by simp) (by simp)
    (fun i hi => by
      have e := sTagAt_ok s s.2.1[i].2.1 (by omega) hv
      cases h : tagAt s.1 s.2.1[i].2.1 <;> rw [h, tagR] at e <;> simp -implicitDefEqProofs [sHeld_l0, hi, get_some hi, wrap_succ hi (by omega), e])
    (by simp -implicitDefEqProofs [sHeld_l0])
  simp only [Int.natCast_zero] at L
  unfold heldB
  cases h : s.2.1.all (fun x => (tagAt s.1 x.2.1).isSome) <;> rw [h] at L <;> simp -implicitDefEqProofs [sHeld_m, L]
end Go.Proofs.YtfklggpopffkjaaGreatDoorK
