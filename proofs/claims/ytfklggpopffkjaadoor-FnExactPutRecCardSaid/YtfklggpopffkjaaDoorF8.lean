/- What the functions come to. -/
import Derived.Test.YtfklggpopffkjaaDoorF7
set_option linter.unusedVariables false
set_option linter.unusedSimpArgs false
namespace Go.Proofs.YtfklggpopffkjaaDoorK
open Go.RowKit
abbrev PathD := List (List UInt8)
abbrev PropD := List UInt8 × List UInt8 × List UInt8
abbrev ResD := List (List UInt8) × Bool × List UInt8 × Int × List PropD
abbrev LockD := Int × List (List UInt8) × Bool × Bool × Int
abbrev SrvD := List ResD × List LockD × Int × Int × List Int × List Int
def atP (p : PathD) (r : ResD) : Bool := decide (r.1 = p)
def findB (t : List ResD) (p : PathD) : Int := match t.findIdx? (atP p) with | some i => i | none => -1
theorem fi_lt {α : Type} {l : List α} {p : α → Bool} {i : Nat} (h : l.findIdx? p = some i) : i < l.length := by
  have := List.findIdx?_eq_some_iff_findIdx_eq.1 h; omega
theorem fi_at {α : Type} {l : List α} {p : α → Bool} {i : Nat} (h : l.findIdx? p = some i) (hi : i < l.length) : p l[i] = true := by
  obtain ⟨_, h1, _⟩ := List.findIdx?_eq_some_iff_getElem.1 h
  exact h1
end Go.Proofs.YtfklggpopffkjaaDoorK
