/- What the functions come to. -/
import Derived.Test.YtfklggpopffkjaaGreatDoorF10
set_option linter.unusedVariables false
set_option linter.unusedSimpArgs false
namespace Go.Proofs.YtfklggpopffkjaaGreatDoorK
open Go.RowKit
abbrev srvA (s : SrvD) : AV := .agg [.d (.sl TRes s.1), .d (.sl TLock s.2.1), i6 s.2.2.1, i6 s.2.2.2.1, .d (.sl (.int .i64) s.2.2.2.2.1), .d (.sl (.int .i64) s.2.2.2.2.2)]
def tagAt (t : List ResD) (p : PathD) : Option (List UInt8) := if p = [] then some (tagB 0) else (t.find? (atP p)).map fun r => tagB r.2.2.2.1
theorem find_idx {α : Type} : ∀ {l : List α} {p : α → Bool}, (match l.findIdx? p with | some i => l[i]? | none => none) = l.find? p
  | [], p => rfl
  | a :: l, p => by
    rw [List.findIdx?_cons, List.find?_cons]
    cases p a
    · have := find_idx (l := l) (p := p)
      simp only [Bool.false_eq_true, if_false]
      rw [← this]
      cases l.findIdx? p <;> simp
    · simp
theorem idx_find {α : Type} {l : List α} {p : α → Bool} {i : Nat} (h : l.findIdx? p = some i) (hi : i < l.length) : l.find? p = some l[i] := by
  rw [← find_idx, h]; simp [hi]
theorem idx_none {α : Type} {l : List α} {p : α → Bool} (h : l.findIdx? p = none) : l.find? p = none := by
  rw [← find_idx, h]
def verB (t : List ResD) : Prop := ∀ r ∈ t, r.2.2.2.1 ≤ 9223372036854775807
def tagR : Option (List UInt8) → Option (List (Option Ob) × RV)
  | some s => some ([], .tup [.one (.fz (.s s)), .one (.fz (.b true))])
  | none => some ([], .tup [.one (.fz (.s [])), .one (.fz (.b false))])
theorem iTagAt_ok (s : SrvD) (p : PathD) (ht : szT (.sl TRes) s.1 ≤ 1099511627776) (hv : verB s.1) : V iTagAt [srvA s, .d (.sl .str p)] [] = tagR (tagAt s.1 p) := by
  rw [V_eq (fn := iTagAt_m) (by kernel_rfl)]
  obtain ⟨t, rest⟩ := s
  simp only at ht hv ⊢
  have hl := szLen (t := TRes) (l := t)
  have e1 := iFindRes_ok t p ht
  have e2 := iTagText_ok 0 (by omega)
  unfold tagAt
  by_cases hp : p = []
  · subst hp
    simp -implicitDefEqProofs [iTagAt_m, e2, tagR]
  · have hp' : ¬ p.length = 0 := fun e => hp (List.length_eq_zero_iff.1 e)
    rw [if_neg hp]
    unfold findB at e1
    cases h : t.findIdx? (atP p) with
    | none =>
      rw [h] at e1
      rw [idx_none h]
      simp -implicitDefEqProofs [iTagAt_m, e1, hp, tagR]
    | some i =>
      rw [h] at e1
      have hi := fi_lt h
      rw [idx_find h hi]
      have e3 := iTagText_ok t[i].2.2.2.1 (hv _ (List.getElem_mem hi))
      simp -implicitDefEqProofs [iTagAt_m, e1, hp, natneg, get_some hi, e3, tagR]
theorem sTagAt_ok (s : SrvD) (p : PathD) (ht : szT (.sl TRes) s.1 ≤ 1099511627776) (hv : verB s.1) : V sTagAt [srvA s, .d (.sl .str p)] [] = tagR (tagAt s.1 p) := by
  rw [V_eq (fn := sTagAt_m) (by kernel_rfl)]
  obtain ⟨t, rest⟩ := s
  simp only at ht hv ⊢
  have hl := szLen (t := TRes) (l := t)
  have e1 := sFindRes_ok t p ht
  have e2 := sTagText_ok 0 (by omega)
  unfold tagAt
  by_cases hp : p = []
  · subst hp
    simp -implicitDefEqProofs [sTagAt_m, e2, tagR]
  · have hp' : ¬ p.length = 0 := fun e => hp (List.length_eq_zero_iff.1 e)
    rw [if_neg hp]
    unfold findB at e1
    cases h : t.findIdx? (atP p) with
    | none =>
      rw [h] at e1
      rw [idx_none h]
      simp -implicitDefEqProofs [sTagAt_m, e1, hp, tagR]
    | some i =>
      rw [h] at e1
      have hi := fi_lt h
      rw [idx_find h hi]
      have e3 := sTagText_ok t[i].2.2.2.1 (hv _ (List.getElem_mem hi))
      simp -implicitDefEqProofs [sTagAt_m, e1, hp, natneg, get_some hi, e3, tagR]
end Go.Proofs.YtfklggpopffkjaaGreatDoorK
