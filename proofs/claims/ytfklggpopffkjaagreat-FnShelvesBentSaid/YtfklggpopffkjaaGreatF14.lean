/- What the functions come to. -/
import Derived.Test.YtfklggpopffkjaaGreatF13
set_option linter.unusedVariables false
set_option linter.unusedSimpArgs false
namespace Go.Proofs.YtfklggpopffkjaaGreatK
open Go.RowKit
def putStep (r : ResD) (s : Bool × TreeD) (q : ResD) : Bool × TreeD :=
  let b := !s.1 && !lessPathB q.1 r.1
  let o := if b = true then s.2 ++ [r] else s.2
  (s.1 || b, if q.1 = r.1 then o else o ++ [q])
def putFold (r : ResD) (t : TreeD) : Bool × TreeD := t.foldl (putStep r) (false, [])
def putInB (t : TreeD) (r : ResD) : TreeD := if (putFold r t).1 = true then (putFold r t).2 else (putFold r t).2 ++ [r]
theorem putFold_snoc (r : ResD) (l : TreeD) (q : ResD) : putFold r (l ++ [q]) = putStep r (putFold r l) q := by
  unfold putFold; rw [List.foldl_append]; rfl
theorem szR_app (l : TreeD) (q : ResD) : szT (.sl TRes) (l ++ [q]) = szT (.sl TRes) l + (szT TRes q + 1) := szT_snoc (t := TRes) l q
theorem putStep_sz (p : ResD) (s : Bool × TreeD) (q : ResD) : szT (.sl TRes) (putStep p s q).2 + (if (putStep p s q).1 = true then 0 else szT TRes p + 1) ≤ szT (.sl TRes) s.2 + (if s.1 = true then 0 else szT TRes p + 1) + (szT TRes q + 1) := by
  obtain ⟨b, o⟩ := s
  unfold putStep
  have e2 : o ++ [p, q] = (o ++ [p]) ++ [q] := by simp
  have e3 := szR_app (o ++ [p]) q
  have e4 := szR_app o p
  have e5 := szR_app o q
  rw [← e2] at e3
  by_cases hq : q.1 = p.1 <;> cases b <;> cases lessPathB q.1 p.1 <;> simp [hq] <;> omega
theorem putFold_sz (p : ResD) (l : TreeD) : szT (.sl TRes) (putFold p l).2 + (if (putFold p l).1 = true then 0 else szT TRes p + 1) ≤ szT (.sl TRes) l + (szT TRes p + 1) := by
  suffices h : ∀ n (l : TreeD), l.length = n → szT (.sl TRes) (putFold p l).2 + (if (putFold p l).1 = true then 0 else szT TRes p + 1) ≤ szT (.sl TRes) l + (szT TRes p + 1) from h _ l rfl
  intro n
  induction n with
  | zero =>
    intro l hl
    obtain rfl := List.eq_nil_of_length_eq_zero hl
    simp [putFold]
  | succ n ih =>
    intro l hl
    rcases List.eq_nil_or_concat l with e | ⟨l', q, e⟩
    · subst e; simp at hl
    · rw [List.concat_eq_append] at e
      subst e
      have h1 := ih l' (by simpa using hl)
      have h2 := putStep_sz p (putFold p l') q
      rw [putFold_snoc, szR_app]
      omega
theorem putInB_sz (l : TreeD) (x : ResD) : szT (.sl TRes) (putInB l x) ≤ szT (.sl TRes) l + (szT TRes x + 1) := by
  have := putFold_sz x l
  unfold putInB
  split
  · rename_i h; rw [if_pos h] at this; omega
  · rename_i h; rw [if_neg h] at this; rw [szR_app]; omega
set_option maxRecDepth 100000 in
theorem sl11Put_ok (l : TreeD) (x : ResD) (h : szT (.sl TRes) l ≤ 274877906944) (hx : szT TRes x ≤ 274877906944) : V sl11Put [.d (.sl TRes l), resA x] [] = some ([], .one (.own (.sl TRes (putInB l x)))) := by
  rw [V_eq (fn := sl11Put_m) (by kernel_rfl)]
  have hn := szLen (t := TRes) (l := l)
  have hr := szRes x
  have ex := sl10Copy_ok x (by omega)
  have L := loop_each (X := V) (c := sl11Put_l0) l.length (fun i : Nat => ⟨[(7, i6 i), (6, .d (.b (putFold x (l.take i)).1)), (5, .h 69 0 (putFold x (l.take i)).2.length), (3, .p 67 0 0), (0, .d (.sl TRes l))], [(69, .ls TRes false (putFold x (l.take i)).2 0 []), (67, .ls TRes true [x] 0 [])]⟩)
    (.ex 0, ⟨[(6, .d (.b (putFold x l).1)), (5, .h 69 0 (putFold x l).2.length), (3, .p 67 0 0)], [(69, .ls TRes false (putFold x l).2 0 []), (67, .ls TRes true [x] 0 [])]⟩) (by simp)
    (fun i hi => by
      have hz := putFold_sz x (l.take i)
      have hk2 := szTake' (t := TRes) (l := l) (i := i)
      have hg := szG (t := TRes) hi
      have hgl := szRes l[i]
      rw [take_snoc hi, putFold_snoc]
      generalize putFold x (l.take i) = s at hz ⊢
      obtain ⟨b, o⟩ := s
      have ho : o.length ≤ 549755813889 := by
        have h1 := szLen (t := TRes) (l := o)
        have h2 : szT (.sl TRes) o ≤ szT (.sl TRes) l + (szT TRes x + 1) := Nat.le_trans (Nat.le_add_right _ _) (Nat.le_trans hz (by omega))
        omega
      clear hz
      have hp1 := szLen (t := .str) (l := l[i].1)
      have hp2 := szLen (t := .str) (l := x.1)
      have e1 := sLessPath_ok l[i].1 x.1 (by omega) (by omega)
      have e2 := sSamePath_ok l[i].1 x.1 (by omega)
      have e3 := sl10Copy_ok l[i] (by omega)
      unfold putStep
      simp only
      generalize lessPathB l[i].1 x.1 = t1 at e1 ⊢
      obtain ⟨x1, x2, x3, x4, x5⟩ := x
      simp only [resA, resR] at ex e1 e2 e3 ⊢
      by_cases hq : l[i].1 = x1
      · rw [decide_eq_true hq] at e2
        rw [if_pos hq]
        cases b <;> cases t1 <;> simp -implicitDefEqProofs [sl11Put_l0, hi, get_some hi, ex, e1, e2, e3, wrap_succ hi (by omega), (eq_true (by omega) : ((o.length + 1) * 80 ≤ 140737488355328) = True)]
        done
      · rw [decide_eq_false hq] at e2
        rw [if_neg hq]
        cases b <;> cases t1 <;> simp -implicitDefEqProofs [sl11Put_l0, hi, get_some hi, ex, e1, e2, e3, wrap_succ hi (by omega), (eq_true (by omega) : ((o.length + 1) * 80 ≤ 140737488355328) = True), (eq_true (by omega) : ((o.length + 1 + 1) * 80 ≤ 140737488355328) = True), (take_snoc_all rfl : (o ++ [((x1, x2, x3, x4, x5) : ResD)]).take (o.length + 1) = _)]
        done)
    (by rw [List.take_length]; simp -implicitDefEqProofs [sl11Put_l0])
  simp only [Int.natCast_zero, List.take_zero, show ∀ p, putFold p [] = (false, []) from fun _ => rfl, List.length_nil] at L
  have ho : (putFold x l).2.length ≤ 549755813889 := by
    have h1 := szLen (t := TRes) (l := (putFold x l).2)
    have h2 := putFold_sz x l
    omega
  unfold putInB
  generalize putFold x l = s at L ho ⊢
  obtain ⟨b, o⟩ := s
  obtain ⟨x1, x2, x3, x4, x5⟩ := x
  simp only [resA, resR] at L ho ex ⊢
  cases b <;> simp -implicitDefEqProofs [sl11Put_m, L, ex, (eq_true (by omega) : ((o.length + 1) * 80 ≤ 140737488355328) = True), (take_snoc_all rfl : (o ++ [((x1, x2, x3, x4, x5) : ResD)]).take (o.length + 1) = _)]
def mayR (t : TreeD) (p : PathD) (n : Int) : Int := if treeB t = true then (if pathB p = true then (if (decide (0 ≤ n) && decide (n ≤ 99999)) = true then 0 else 507) else 400) else 500
def collR (t : TreeD) (p : PathD) (n : Int) : Int :=
  if mayR t p n ≠ 0 then mayR t p n else if p = [] ∨ 0 ≤ findB t p then 405 else if collB t p.dropLast = true then (if 12 ≤ t.length then 507 else 0) else 409
def makeCollB (t : TreeD) (p : PathD) (n : Int) : TreeD × Int := if collR t p n ≠ 0 then (t, collR t p n) else (putInB t (p, true, [], n, []), 201)
def fileR (t : TreeD) (p : PathD) (s : List UInt8) (n : Int) : Int :=
  if mayR t p n ≠ 0 then mayR t p n else if collB t p = true then 405 else if collB t p.dropLast = true then (if 200 < s.length then 413 else if findB t p < 0 ∧ 12 ≤ t.length then 507 else 0) else 409
def putFileB (t : TreeD) (p : PathD) (s : List UInt8) (n : Int) : TreeD × Int :=
  if fileR t p s n ≠ 0 then (t, fileR t p s n) else match t.findIdx? (atP p) with
  | none => (putInB t (p, false, s, n, []), 201)
  | some i => match t[i]? with
    | some r => (putInB t (p, false, s, n, r.2.2.2.2), 204)
    | none => (putInB t (p, false, s, n, []), 201)
theorem szNoProp : szT (.sl TProp) ([] : List PropD) = 0 := szT_nil
set_option maxRecDepth 100000 in
theorem sl11Put_nil (l : TreeD) (p : PathD) (b : Bool) (s : List UInt8) (n : Int) : V sl11Put [.d (.sl TRes l), .agg [.d (.sl .str p), .d (.b b), .d (.s s), i6 n, .nil TProp]] [] = V sl11Put [.d (.sl TRes l), resA (p, b, s, n, [])] [] := by
  rw [V_eq (fn := sl11Put_m) (by kernel_rfl)]
  rw [V_eq (fn := sl11Put_m) (by kernel_rfl)]
  simp -implicitDefEqProofs [sl11Put_m]
theorem sl11May_ok (t : TreeD) (p : PathD) (n : Int) (ht : szT (.sl TRes) t ≤ 1099511627776) (hp : szT (.sl .str) p ≤ 1099511627776) : V sl11May [.d (.sl TRes t), .d (.sl .str p), i6 n] [] = rI (mayR t p n) := by
  rw [V_eq (fn := sl11May_m) (by kernel_rfl)]
  have e1 := sTreeOk_ok t ht
  have e2 := sPathOk_ok p (okP_sz hp)
  have e3 := sl1In_ok n 0 99999
  unfold mayR
  generalize treeB t = t1 at e1 ⊢
  generalize pathB p = t2 at e2 ⊢
  generalize (decide (0 ≤ n) && decide (n ≤ 99999)) = t3 at e3 ⊢
  cases t1 <;> cases t2 <;> cases t3 <;> simp -implicitDefEqProofs [sl11May_m, e1, e2, e3]
theorem sMakeColl_ok (t : TreeD) (p : PathD) (n : Int) (ht : szT (.sl TRes) t ≤ 274877906944) (hp : szT (.sl .str) p ≤ 274877906944) : V sMakeColl [.d (.sl TRes t), .d (.sl .str p), i6 n] [] = treeR (makeCollB t p n) := by
  rw [V_eq (fn := sMakeColl_m) (by kernel_rfl)]
  have hl := szLen (t := .str) (l := p)
  have hn := szLen (t := TRes) (l := t)
  have e1 := sl11May_ok t p n (by omega) (by omega)
  have e2 := sFindRes_ok t p (by omega)
  have e3 := sAbove_ok p (by omega)
  have e4 := sIsColl_ok t p.dropLast (by omega)
  have e5 := sl10CopyAll_ok t (by omega)
  have e6 := sl11Put_ok t (p, true, [], n, []) ht (by rw [szRes]; simp only [List.length_nil]; rw [szNoProp]; omega)
  rw [← sl11Put_nil] at e6
  unfold makeCollB collR
  generalize mayR t p n = r at e1 ⊢
  generalize findB t p = f at e2 ⊢
  generalize collB t p.dropLast = t4 at e4 ⊢
  generalize putInB t (p, true, [], n, []) = q at e6 ⊢
  by_cases hr : r = 0
  · subst hr
    simp only [ne_eq, not_true, if_false]
    by_cases hp : p = []
    · subst hp
      simp -implicitDefEqProofs [sMakeColl_m, e1, e2, e5]
    have hpl : ((p.length : Int) = 0) = False := eq_false (fun h => hp (List.eq_nil_of_length_eq_zero (by omega)))
    by_cases hf : 0 ≤ f
    · simp -implicitDefEqProofs [sMakeColl_m, e1, e2, e5, hp, hf]
    cases t4
    · simp -implicitDefEqProofs [sMakeColl_m, e1, e2, e3, e4, e5, hp, hf]
    by_cases hc : 12 ≤ t.length
    · simp -implicitDefEqProofs [sMakeColl_m, e1, e2, e3, e4, e5, hp, hf, hc, (eq_true (by omega) : ((12 : Int) ≤ (t.length : Int)) = True)]
    · simp -implicitDefEqProofs [sMakeColl_m, e1, e2, e3, e4, e6, hp, hf, hc, (eq_false (by omega) : ((12 : Int) ≤ (t.length : Int)) = False)]
  · simp -implicitDefEqProofs [sMakeColl_m, e1, e5, hr]
set_option maxRecDepth 100000 in
theorem sPutFile_ok (t : TreeD) (p : PathD) (s : List UInt8) (n : Int) (ht : szT (.sl TRes) t ≤ 274877906944) (hp : szT (.sl .str) p ≤ 1099511627776) (hps : szT (.sl .str) p + s.length + szT (.sl TRes) t ≤ 274877906944) : V sPutFile [.d (.sl TRes t), .d (.sl .str p), .d (.s s), i6 n] [] = treeR (putFileB t p s n) := by
  rw [V_eq (fn := sPutFile_m) (by kernel_rfl)]
  have hl := szLen (t := .str) (l := p)
  have hn := szLen (t := TRes) (l := t)
  have e1 := sl11May_ok t p n (by omega) (by omega)
  have e2 := sFindRes_ok t p (by omega)
  have e3 := sAbove_ok p (by omega)
  have e4 := sIsColl_ok t p.dropLast (by omega)
  have e4' := sIsColl_ok t p (by omega)
  have e5 := sl10CopyAll_ok t (by omega)
  have e6 := sl11Put_ok t (p, false, s, n, []) ht (by rw [szRes]; simp only; rw [szNoProp]; omega)
  simp only [resA] at e6
  unfold putFileB fileR
  generalize mayR t p n = r at e1 ⊢
  generalize collB t p.dropLast = t4 at e4 ⊢
  generalize collB t p = t5 at e4' ⊢
  by_cases hr : ¬ r = 0
  · simp -implicitDefEqProofs [sPutFile_m, e1, e2, e5, hr]
  obtain rfl := Classical.not_not.1 hr
  clear hr
  simp only [ne_eq, not_true, if_false]
  by_cases h5 : t5 = true
  · subst h5
    simp -implicitDefEqProofs [sPutFile_m, e1, e2, e4', e5]
  obtain rfl := Bool.eq_false_iff.2 h5
  clear h5
  cases t4
  · simp -implicitDefEqProofs [sPutFile_m, e1, e2, e3, e4, e4', e5]
  by_cases hs : 200 < s.length
  · simp -implicitDefEqProofs [sPutFile_m, e1, e2, e3, e4, e4', e5, hs, (eq_true (by omega) : ((200 : Int) < (s.length : Int)) = True)]
  have hs' : ((200 : Int) < (s.length : Int)) = False := eq_false (by omega)
  unfold findB at e2 ⊢
  cases hf : t.findIdx? (atP p) with
  | none =>
    simp only [hf] at e2 ⊢
    by_cases hc : 12 ≤ t.length
    · simp -implicitDefEqProofs [sPutFile_m, e1, e2, e3, e4, e4', e5, hs, hs', hc, (eq_true (by omega) : ((12 : Int) ≤ (t.length : Int)) = True)]
    · simp -implicitDefEqProofs [sPutFile_m, e1, e2, e3, e4, e4', e6, hs, hs', hc, (eq_false (by omega) : ((12 : Int) ≤ (t.length : Int)) = False)]
  | some i =>
    have hi := (List.findIdx?_eq_some_iff_getElem.1 hf).1
    have hg := szG (t := TRes) hi
    have hgr := szRes t[i]
    have e7 := sl11Put_ok t (p, false, s, n, t[i].2.2.2.2) ht (by rw [szRes]; simp only; omega)
    simp only [resA] at e7
    simp only [hf, get_some hi] at e2 ⊢
    simp -implicitDefEqProofs [sPutFile_m, e1, e2, e3, e4, e4', e7, hs, hs', hi, get_some hi]
end Go.Proofs.YtfklggpopffkjaaGreatK
