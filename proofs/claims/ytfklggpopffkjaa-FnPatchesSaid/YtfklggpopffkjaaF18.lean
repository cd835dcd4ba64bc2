/- What the functions come to. -/
import Derived.Test.YtfklggpopffkjaaF17
set_option linter.unusedVariables false
set_option linter.unusedSimpArgs false
namespace Go.Proofs.YtfklggpopffkjaaK
open Go.RowKit
def putStep (r : ResD) (s : Bool × TreeD) (q : ResD) : Bool × TreeD :=
  let b := !s.1 && !lessPathB q.1 r.1
  let o := if b = true then s.2 ++ [r] else s.2
  (s.1 || b, if q.1 = r.1 then o else o ++ [q])
def putFold (r : ResD) (t : TreeD) : Bool × TreeD := t.foldl (putStep r) (false, [])
def putInB (t : TreeD) (r : ResD) : TreeD := if (putFold r t).1 = true then (putFold r t).2 else (putFold r t).2 ++ [r]
theorem putFold_snoc (r : ResD) (l : TreeD) (q : ResD) : putFold r (l ++ [q]) = putStep r (putFold r l) q := by
  unfold putFold; rw [List.foldl_append]; rfl
theorem szR_app (l : TreeD) (q : ResD) : szT (.sl TRes) (l ++ [q]) = szT (.sl TRes) l + (szT TRes q + 1) := szT_snoc (t := TRes) l q
theorem putStep_sz (p : ResD) (s : Bool × TreeD) (q : ResD) : szT (.sl TRes) (putStep p s q).2 + (if (putStep p s q).1 = true then 0 else szT TRes p + 1) ≤ szT (.sl TRes) s.2 + (if s.1 = true then 0 else szT TRes p + 1) + (szT TRes q + 1) := by
  obtain ⟨b, o⟩ := s
  unfold putStep
  have e2 : o ++ [p, q] = (o ++ [p]) ++ [q] := by simp
  have e3 := szR_app (o ++ [p]) q
  have e4 := szR_app o p
  have e5 := szR_app o q
  rw [← e2] at e3
  by_cases hq : q.1 = p.1 <;> cases b <;> cases lessPathB q.1 p.1 <;> simp [hq] <;> omega
theorem putFold_sz (p : ResD) (l : TreeD) : szT (.sl TRes) (putFold p l).2 + (if (putFold p l).1 = true then 0 else szT TRes p + 1) ≤ szT (.sl TRes) l + (szT TRes p + 1) := by
  suffices h : ∀ n (l : TreeD), l.length = n → szT (.sl TRes) (putFold p l).2 + (if (putFold p l).1 = true then 0 else szT TRes p + 1) ≤ szT (.sl TRes) l + (szT TRes p + 1) from h _ l rfl
  intro n
  induction n with
  | zero =>
    intro l hl
    obtain rfl := List.eq_nil_of_length_eq_zero hl
    simp [putFold]
  | succ n ih =>
    intro l hl
    rcases List.eq_nil_or_concat l with e | ⟨l', q, e⟩
    · subst e; simp at hl
    · rw [List.concat_eq_append] at e
      subst e
      have h1 := ih l' (by simpa using hl)
      have h2 := putStep_sz p (putFold p l') q
      rw [putFold_snoc, szR_app]
      omega
theorem putInB_sz (l : TreeD) (x : ResD) : szT (.sl TRes) (putInB l x) ≤ szT (.sl TRes) l + (szT TRes x + 1) := by
  have := putFold_sz x l
  unfold putInB
  split
  · rename_i h; rw [if_pos h] at this; omega
  · rename_i h; rw [if_neg h] at this; rw [szR_app]; omega
set_option maxRecDepth 100000 in
theorem sl11Put_ok (l : TreeD) (x : ResD) (h : szT (.sl TRes) l ≤ 274877906944) (hx : szT TRes x ≤ 274877906944) : V sl11Put [.d (.sl TRes l), resA x] [] = some ([], .one (.own (.sl TRes (putInB l x)))) := by
  rw [V_eq (fn := sl11Put_m) (by kernel_rfl)]
  have hn := szLen (t := TRes) (l := l)
  have hr := szRes x
  have ex := sl10Copy_ok x (by omega)
  have L := loop_each (X := V) (c := sl11Put_l0) l.length (fun i : Nat => ⟨[(7, i6 i), (6, .d (.b (putFold x (l.take i)).1)), (5, .h 69 0 (putFold x (l.take i)).2.length), (3, .p 67 0 0), (0, .d (.sl TRes l))], [(69, .ls TRes false (putFold x (l.take i)).2 0 []), (67, .ls TRes true [x] 0 [])]⟩)
    (.ex 0, ⟨[(6, .d (.b (putFold x l).1)), (5, .h 69 0 (putFold x l).2.length), (3, .p 67 0 0)], [(69, .ls TRes false (putFold x l).2 0 []), (67, .ls TRes true [x] 0 [])]⟩) (by simp)
    (fun i hi => by
      have hz := putFold_sz x (l.take i)
      have hk2 := szTake' (t := TRes) (l := l) (i := i)
      have hg := szG (t := TRes) hi
      have hgl := szRes l[i]
      rw [take_snoc hi, putFold_snoc]
      generalize putFold x (l.take i) = s at hz ⊢
      obtain ⟨b, o⟩ := s
      have ho : o.length ≤ 549755813889 := by
        have h1 := szLen (t := TRes) (l := o)
        have h2 : szT (.sl TRes) o ≤ szT (.sl TRes) l + (szT TRes x + 1) := Nat.le_trans (Nat.le_add_right _ _) (Nat.le_trans hz (by omega))
        omega
      clear hz
      have hp1 := szLen (t := .str) (l := l[i].1)
      have hp2 := szLen (t := .str) (l := x.1)
      have e1 := sLessPath_ok l[i].1 x.1 (by omega) (by omega)
      have e2 := sSamePath_ok l[i].1 x.1 (by omega)
      have e3 := sl10Copy_ok l[i] (by omega)
      unfold putStep
      simp only
      generalize lessPathB l[i].1 x.1 = t1 at e1 ⊢
      obtain ⟨x1, x2, x3, x4, x5⟩ := x
      simp only [resA, resR] at ex e1 e2 e3 ⊢
      by_cases hq : l[i].1 = x1
      · rw [decide_eq_true hq] at e2
        rw [if_pos hq]
        cases b <;> cases t1 <;> simp -implicitDefEqProofs [sl11Put_l0, hi, get_some hi, ex, e1, e2, e3, wrap_succ hi (by omega), (eq_true (by omega) : ((o.length + 1) * 80 ≤ 140737488355328) = True)]
        done
      · rw [decide_eq_false hq] at e2
        rw [if_neg hq]
        cases b <;> cases t1 <;> simp -implicitDefEqProofs [sl11Put_l0, hi, get_some hi, ex, e1, e2, e3, wrap_succ hi (by omega), (eq_true (by omega) : ((o.length + 1) * 80 ≤ 140737488355328) = True), (eq_true (by omega) : ((o.length + 1 + 1) * 80 ≤ 140737488355328) = True), (take_snoc_all rfl : (o ++ [((x1, x2, x3, x4, x5) : ResD)]).take (o.length + 1) = _)]
        done)
    (by rw [List.take_length]; simp -implicitDefEqProofs [sl11Put_l0])
  simp only [Int.natCast_zero, List.take_zero, show ∀ p, putFold p [] = (false, []) from fun _ => rfl, List.length_nil] at L
  have ho : (putFold x l).2.length ≤ 549755813889 := by
    have h1 := szLen (t := TRes) (l := (putFold x l).2)
    have h2 := putFold_sz x l
    omega
  unfold putInB
  generalize putFold x l = s at L ho ⊢
  obtain ⟨b, o⟩ := s
  obtain ⟨x1, x2, x3, x4, x5⟩ := x
  simp only [resA, resR] at L ho ex ⊢
  cases b <;> simp -implicitDefEqProofs [sl11Put_m, L, ex, (eq_true (by omega) : ((o.length + 1) * 80 ≤ 140737488355328) = True), (take_snoc_all rfl : (o ++ [((x1, x2, x3, x4, x5) : ResD)]).take (o.length + 1) = _)]
end Go.Proofs.YtfklggpopffkjaaK
