/- What the functions come to. -/
import Derived.Test.YtfklggpopffkjaaGreatF10
set_option linter.unusedVariables false
set_option linter.unusedSimpArgs false
namespace Go.Proofs.YtfklggpopffkjaaGreatK
open Go.RowKit
abbrev srvA (s : SrvD) : AV := .agg [.d (.sl TRes s.1), .d (.sl TLock s.2.1), i6 s.2.2.1, i6 s.2.2.2.1, .d (.sl (.int .i64) s.2.2.2.2.1), .d (.sl (.int .i64) s.2.2.2.2.2)]
def tagAt (t : List ResD) (p : PathD) : Option (List UInt8) := if p = [] then some (tagB 0) else (t.find? (atP p)).map fun r => tagB r.2.2.2.1
theorem find_idx {α : Type} : ∀ {l : List α} {p : α → Bool}, (match l.findIdx? p with | some i => l[i]? | none => none) = l.find? p
  | [], p => rfl
  | a :: l, p => by
    rw [List.findIdx?_cons, List.find?_cons]
    cases p a
    · have := find_idx (l := l) (p := p)
      simp only [Bool.false_eq_true, if_false]
      rw [← this]
      cases l.findIdx? p <;> simp
    · simp
theorem idx_find {α : Type} {l : List α} {p : α → Bool} {i : Nat} (h : l.findIdx? p = some i) (hi : i < l.length) : l.find? p = some l[i] := by
  rw [← find_idx, h]; simp [hi]
theorem idx_none {α : Type} {l : List α} {p : α → Bool} (h : l.findIdx? p = none) : l.find? p = none := by
  rw [← find_idx, h]
def verB (t : List ResD) : Prop := ∀ r ∈ t, r.2.2.2.1 ≤ 9223372036854775807
def tagR : Option (List UInt8) → Option (List (Option Ob) × RV)
  | some s => some ([], .tup [.one (.fz (.s s)), .one (.fz (.b true))])
  | none => some ([], .tup [.one (.fz (.s [])), .one (.fz (.b false))])
end Go.Proofs.YtfklggpopffkjaaGreatK
