/- What the functions come to. -/
import Derived.Test.YtfklggpopffkjaaF7
set_option linter.unusedVariables false
set_option linter.unusedSimpArgs false
namespace Go.Proofs.YtfklggpopffkjaaK
open Go.RowKit
abbrev PathD := List (List UInt8)
abbrev PropD := List UInt8 × List UInt8 × List UInt8
abbrev ResD := List (List UInt8) × Bool × List UInt8 × Int × List PropD
abbrev LockD := Int × List (List UInt8) × Bool × Bool × Int
abbrev SrvD := List ResD × List LockD × Int × Int × List Int × List Int
def atP (p : PathD) (r : ResD) : Bool := decide (r.1 = p)
def findB (t : List ResD) (p : PathD) : Int := match t.findIdx? (atP p) with | some i => i | none => -1
theorem fi_lt {α : Type} {l : List α} {p : α → Bool} {i : Nat} (h : l.findIdx? p = some i) : i < l.length := by
  have := List.findIdx?_eq_some_iff_findIdx_eq.1 h; omega
theorem fi_at {α : Type} {l : List α} {p : α → Bool} {i : Nat} (h : l.findIdx? p = some i) (hi : i < l.length) : p l[i] = true := by
  obtain ⟨_, h1, _⟩ := List.findIdx?_eq_some_iff_getElem.1 h
  exact h1
theorem iFindRes_ok (t : List ResD) (p : PathD) (ht : szT (.sl TRes) t ≤ 1099511627776) : V iFindRes [.d (.sl TRes t), .d (.sl .str p)] [] = rI (findB t p) := by
  rw [V_eq (fn := iFindRes_m) (by kernel_rfl)]
  have hl := szLen (t := TRes) (l := t)
  have L := loop_find (X := V) (c := iFindRes_l0) t (atP p) (fun i : Nat => ⟨[(9, i6 i), (8, i6 t.length), (7, .d (.sl TRes t)), (1, .d (.sl .str p))], []⟩) (fun i => (.ret, ⟨[(4, i6 i)], []⟩)) (.ex 0, ⟨[], []⟩) (by simp) (by simp)
    (fun i hi => by
      have hx := szG (t := TRes) hi
      have hy := szLen (t := .str) (l := t[i].1)
      simp only [szT_pr] at hx
      simp -implicitDefEqProofs [iFindRes_l0, hi, get_some hi, iSamePath_ok t[i].1 p (by omega), wrap_succ hi (by omega), atP])
    (by simp -implicitDefEqProofs [iFindRes_l0])
  cases h : t.findIdx? (atP p) <;> simp only [h, Int.natCast_zero] at L <;> simp -implicitDefEqProofs [iFindRes_m, L, findB, h]
theorem sFindRes_ok (t : List ResD) (p : PathD) (ht : szT (.sl TRes) t ≤ 1099511627776) : V sFindRes [.d (.sl TRes t), .d (.sl .str p)] [] = rI (findB t p) := by
  rw [V_eq (fn := sFindRes_m) (by kernel_rfl)]
  have hl := szLen (t := TRes) (l := t)
  have L := loop_find (X := V) (c := sFindRes_l0) t (atP p) (fun i : Nat => ⟨[(5, i6 i), (1, .d (.sl .str p)), (0, .d (.sl TRes t))], []⟩) (fun i => (.ret, ⟨[(4, i6 i)], []⟩)) (.ex 0, ⟨[], []⟩) (by simp) (by simp)
    (fun i hi => by
      have hx := szG (t := TRes) hi
      have hy := szLen (t := .str) (l := t[i].1)
      simp only [szT_pr] at hx
      simp -implicitDefEqProofs [sFindRes_l0, hi, get_some hi, sSamePath_ok t[i].1 p (by omega), wrap_succ hi (by omega), atP])
    (by simp -implicitDefEqProofs [sFindRes_l0])
  cases h : t.findIdx? (atP p) <;> simp only [h, Int.natCast_zero] at L <;> simp -implicitDefEqProofs [sFindRes_m, L, findB, h]
end Go.Proofs.YtfklggpopffkjaaK
