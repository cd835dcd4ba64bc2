/- What the functions come to. -/
import Derived.Test.YtfklggpopffkjaaF14
set_option linter.unusedVariables false
set_option linter.unusedSimpArgs false
namespace Go.Proofs.YtfklggpopffkjaaK
open Go.RowKit
abbrev TreeD := List ResD
def withP (r : ResD) (ps : List PropD) : ResD := (r.1, r.2.1, r.2.2.1, r.2.2.2.1, ps)
def patchB (t : TreeD) (p : PathD) (xs : List SetD) : TreeD × Int :=
  if treeB t = true then
    if p = [] then (t, 403) else
    match t.findIdx? (atP p) with
    | none => (t, 404)
    | some i => match t[i]? with
      | none => (t, 404)
      | some r => if (setPropsB r.2.2.2.2 xs).2 = true then (t.set i (withP r (setPropsB r.2.2.2.2 xs).1), 207) else (t, 409)
  else (t, 500)
abbrev treeR (r : TreeD × Int) : Option (List (Option Ob) × RV) := some ([], .tup [.one (.own (.sl TRes r.1)), .one (.fz (.i .i64 r.2))])
theorem iPatch_ok (t : TreeD) (p : PathD) (xs : List SetD) (ht : szT (.sl TRes) t ≤ 549755813888) (hx : szT (.sl TSet) xs ≤ 549755813888) : V iPatch [.d (.sl TRes t), .d (.sl .str p), .d (.sl TSet xs)] [] = treeR (patchB t p xs) := by
  rw [V_eq (fn := iPatch_m) (by kernel_rfl)]
  have e1 := iTreeOk_ok t (by omega)
  have e2 := icopyTree_ok t (by omega)
  have hn := szLen (t := TRes) (l := t)
  have e3 := iFindRes_ok t p (by omega)
  unfold patchB
  unfold findB at e3
  generalize treeB t = t1 at e1 ⊢
  cases t1
  · simp -implicitDefEqProofs [iPatch_m, e1, e2, e3]
  by_cases hp : p = []
  · subst hp
    simp -implicitDefEqProofs [iPatch_m, e1, e2, e3]
  have hlp : 0 < p.length := List.length_pos_iff.2 hp
  cases hf : t.findIdx? (atP p) with
  | none =>
    rw [hf] at e3
    simp -implicitDefEqProofs [iPatch_m, e1, e2, e3, hp]
  | some i =>
    rw [hf] at e3
    have hi := (List.findIdx?_eq_some_iff_getElem.1 hf).1
    have hg := szG (t := TRes) hi
    rw [szRes] at hg
    have e4 := iSetProps_ok t[i].2.2.2.2 xs (by omega) hx
    simp only [if_neg hp, if_true, get_some hi] at e3 ⊢
    generalize setPropsB t[i].2.2.2.2 xs = r at e4 ⊢
    obtain ⟨n, b⟩ := r
    unfold withP
    cases b
    · simp -implicitDefEqProofs [iPatch_m, e1, e2, e3, e4, hp, hi, get_some hi]
    · simp -implicitDefEqProofs [iPatch_m, e1, e2, e3, e4, hp, hi, get_some hi]
      exact List.take_of_length_le (by simp)
theorem sPatch_ok (t : TreeD) (p : PathD) (xs : List SetD) (ht : szT (.sl TRes) t ≤ 549755813888) (hx : szT (.sl TSet) xs ≤ 549755813888) : V sPatch [.d (.sl TRes t), .d (.sl .str p), .d (.sl TSet xs)] [] = treeR (patchB t p xs) := by
  rw [V_eq (fn := sPatch_m) (by kernel_rfl)]
  have e1 := sTreeOk_ok t (by omega)
  have e2 := sl10CopyAll_ok t (by omega)
  have hn := szLen (t := TRes) (l := t)
  have e3 := sFindRes_ok t p (by omega)
  unfold patchB
  unfold findB at e3
  generalize treeB t = t1 at e1 ⊢
  cases t1
  · simp -implicitDefEqProofs [sPatch_m, e1, e2, e3]
  by_cases hp : p = []
  · subst hp
    simp -implicitDefEqProofs [sPatch_m, e1, e2, e3]
  have hlp : 0 < p.length := List.length_pos_iff.2 hp
  cases hf : t.findIdx? (atP p) with
  | none =>
    rw [hf] at e3
    simp -implicitDefEqProofs [sPatch_m, e1, e2, e3, hp]
  | some i =>
    rw [hf] at e3
    have hi := (List.findIdx?_eq_some_iff_getElem.1 hf).1
    have hg := szG (t := TRes) hi
    rw [szRes] at hg
    have e4 := sSetProps_ok t[i].2.2.2.2 xs (by omega) hx
    simp only [if_neg hp, if_true, get_some hi] at e3 ⊢
    generalize setPropsB t[i].2.2.2.2 xs = r at e4 ⊢
    obtain ⟨n, b⟩ := r
    unfold withP
    cases b
    · simp -implicitDefEqProofs [sPatch_m, e1, e2, e3, e4, hp, hi, get_some hi]
    · simp -implicitDefEqProofs [sPatch_m, e1, e2, e3, e4, hp, hi, get_some hi]
      exact List.take_of_length_le (by simp)
end Go.Proofs.YtfklggpopffkjaaK
