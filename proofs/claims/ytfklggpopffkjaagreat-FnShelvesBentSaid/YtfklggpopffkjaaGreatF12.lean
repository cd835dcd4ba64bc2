/- What the functions come to. -/
import Derived.Test.YtfklggpopffkjaaGreatF11
set_option linter.unusedVariables false
set_option linter.unusedSimpArgs false
namespace Go.Proofs.YtfklggpopffkjaaGreatK
open Go.RowKit
abbrev SetD := Bool × PropD
abbrev setA (x : SetD) : AV := .agg [.d (.b x.1), .d (.s x.2.1), .d (.s x.2.2.1), .d (.s x.2.2.2)]
def sameP (p q : PropD) : Bool := decide (q.1 = p.1) && decide (q.2.1 = p.2.1)
def oneStep (p : PropD) (s : Bool × List PropD) (q : PropD) : Bool × List PropD :=
  let b := !s.1 && !lessPropB q p
  let o := if b = true then s.2 ++ [p] else s.2
  (s.1 || b, if sameP p q = true then o else o ++ [q])
def oneFold (p : PropD) (b : Bool) (l : List PropD) : Bool × List PropD := l.foldl (oneStep p) (b, [])
def oneB (l : List PropD) (x : SetD) : List PropD := if (oneFold x.2 x.1 l).1 = true then (oneFold x.2 x.1 l).2 else (oneFold x.2 x.1 l).2 ++ [x.2]
def setF (l : List PropD) (x : SetD) : Option (List PropD) := if propB x.2 = true then some (oneB l x) else none
def setPropsB (l : List PropD) (xs : List SetD) : List PropD × Bool := match goM setF l xs with
  | some n => if propsB n = true then (n, true) else (l, false)
  | none => (l, false)
theorem oneFold_snoc (p : PropD) (b : Bool) (l : List PropD) (q : PropD) : oneFold p b (l ++ [q]) = oneStep p (oneFold p b l) q := by
  unfold oneFold; rw [List.foldl_append]; rfl
theorem szPropV (p : PropD) : szT TProp p = szP p := rfl
theorem szP_app (l : List PropD) (q : PropD) : szT (.sl TProp) (l ++ [q]) = szT (.sl TProp) l + (szP q + 1) := by
  have e : szL TProp (l ++ [q]) = szL TProp l + szP q := by simp [szL, szPropV q]
  rw [szT_slE, szT_slE, e, List.length_append]; simp; omega
theorem oneStep_sz (p : PropD) (s : Bool × List PropD) (q : PropD) : szT (.sl TProp) (oneStep p s q).2 + (if (oneStep p s q).1 = true then 0 else szP p + 1) ≤ szT (.sl TProp) s.2 + (if s.1 = true then 0 else szP p + 1) + (szP q + 1) := by
  obtain ⟨b, o⟩ := s
  unfold oneStep
  have e2 : o ++ [p, q] = (o ++ [p]) ++ [q] := by simp
  have e3 := szP_app (o ++ [p]) q
  have e4 := szP_app o p
  have e5 := szP_app o q
  rw [← e2] at e3
  cases b <;> cases lessPropB q p <;> cases sameP p q <;> simp <;> omega
theorem oneFold_sz (p : PropD) (b : Bool) (l : List PropD) : szT (.sl TProp) (oneFold p b l).2 + (if (oneFold p b l).1 = true then 0 else szP p + 1) ≤ szT (.sl TProp) l + (szP p + 1) := by
  suffices h : ∀ n (l : List PropD), l.length = n → szT (.sl TProp) (oneFold p b l).2 + (if (oneFold p b l).1 = true then 0 else szP p + 1) ≤ szT (.sl TProp) l + (szP p + 1) from h _ l rfl
  intro n
  induction n with
  | zero =>
    intro l hl
    obtain rfl := List.eq_nil_of_length_eq_zero hl
    cases b <;> simp [oneFold]
  | succ n ih =>
    intro l hl
    rcases List.eq_nil_or_concat l with e | ⟨l', q, e⟩
    · subst e; simp at hl
    · rw [List.concat_eq_append] at e
      subst e
      have h1 := ih l' (by simpa using hl)
      have h2 := oneStep_sz p (oneFold p b l') q
      rw [oneFold_snoc, szP_app]
      omega
theorem oneB_sz (l : List PropD) (x : SetD) : szT (.sl TProp) (oneB l x) ≤ szT (.sl TProp) l + (szP x.2 + 1) := by
  have := oneFold_sz x.2 x.1 l
  unfold oneB
  split
  · rename_i h; rw [if_pos h] at this; omega
  · rename_i h; rw [if_neg h] at this; rw [szP_app]; omega
theorem szSet (x : SetD) : szT TSet x = szP x.2 := by
  obtain ⟨a, p⟩ := x
  show szT (.pr .bool TProp) (a, p) = _
  rw [szT_pr, szT_bool]; exact (Nat.zero_add _).trans (szPropV p)
theorem szTake' {t : T} {l : List t.den} {i : Nat} : szT (.sl t) (l.take i) ≤ szT (.sl t) l := by
  have h : szL t l = szL t (l.take i) + szL t (l.drop i) := by
    have e : l = l.take i ++ l.drop i := (List.take_append_drop i l).symm
    have key : ∀ a b : List t.den, szL t (a ++ b) = szL t a + szL t b := fun a b => by simp [szL]
    rw [← key, ← e]
  rw [szT_slE, szT_slE, List.length_take]
  omega
theorem sl12One_ok (l : List PropD) (x : SetD) (h : szT (.sl TProp) l ≤ 1099511627776) (hx : szP x.2 ≤ 1099511627776) : V sl12One [.d (.sl TProp l), setA x] [] = some ([], .one (.own (.sl TProp (oneB l x)))) := by
  rw [V_eq (fn := sl12One_m) (by kernel_rfl)]
  have hn := szLen (t := TProp) (l := l)
  have L := loop_each (X := V) (c := sl12One_l0) l.length (fun i : Nat => ⟨[(7, i6 i), (6, .d (.b (oneFold x.2 x.1 (l.take i)).1)), (5, .h 69 0 (oneFold x.2 x.1 (l.take i)).2.length), (3, .p 67 0 0), (0, .d (.sl TProp l))], [(69, .ls TProp false (oneFold x.2 x.1 (l.take i)).2 0 []), (67, .ls TSet false [x] 0 [])]⟩)
    (.ex 0, ⟨[(6, .d (.b (oneFold x.2 x.1 l).1)), (5, .h 69 0 (oneFold x.2 x.1 l).2.length), (3, .p 67 0 0)], [(69, .ls TProp false (oneFold x.2 x.1 l).2 0 []), (67, .ls TSet false [x] 0 [])]⟩) (by simp)
    (fun i hi => by
      have hz := oneFold_sz x.2 x.1 (l.take i)
      have hk2 := szTake' (t := TProp) (l := l) (i := i)
      rw [take_snoc hi, oneFold_snoc]
      generalize oneFold x.2 x.1 (l.take i) = s at hz ⊢
      obtain ⟨b, o⟩ := s
      have ho : o.length ≤ 2199023255560 := by
        have h1 := szLen (t := TProp) (l := o)
        have h2 : szT (.sl TProp) o ≤ szT (.sl TProp) l + (szP x.2 + 1) := Nat.le_trans (Nat.le_add_right _ _) (Nat.le_trans hz (by omega))
        omega
      clear hz
      obtain ⟨x0, xp⟩ := x
      have e1 := sl10LessProp_ok l[i] xp
      unfold oneStep sameP
      simp only
      generalize lessPropB l[i] xp = t1 at e1 ⊢
      obtain ⟨p1, p2, p3⟩ := xp
      simp only [propA] at e1 ⊢
      obtain ⟨t3, h3⟩ : ∃ t, decide (l[i].1 = p1) = t := ⟨_, rfl⟩
      obtain ⟨t4, h4⟩ : ∃ t, decide (l[i].2.1 = p2) = t := ⟨_, rfl⟩
      rw [h3, h4]
      cases b <;> cases t1 <;> cases t3 <;> cases t4 <;> simp -implicitDefEqProofs [sl12One_l0, hi, get_some hi, e1, h3, h4, wrap_succ hi (by omega), (eq_true (by omega) : ((o.length + 1) * 48 ≤ 140737488355328) = True), (eq_true (by omega) : ((o.length + 1 + 1) * 48 ≤ 140737488355328) = True), (take_snoc_all rfl : (o ++ [(p1, p2, p3)]).take (o.length + 1) = _)])
    (by rw [List.take_length]; simp -implicitDefEqProofs [sl12One_l0])
  simp only [Int.natCast_zero, List.take_zero, show ∀ p b, oneFold p b [] = (b, []) from fun _ _ => rfl, List.length_nil] at L
  have ho : (oneFold x.2 x.1 l).2.length ≤ 2199023255560 := by
    have h1 := szLen (t := TProp) (l := (oneFold x.2 x.1 l).2)
    have h2 := oneFold_sz x.2 x.1 l
    omega
  unfold oneB
  generalize oneFold x.2 x.1 l = s at L ho ⊢
  obtain ⟨b, o⟩ := s
  obtain ⟨x0, p1, p2, p3⟩ := x
  simp only at L ho
  cases b <;> simp -implicitDefEqProofs [sl12One_m, L, (eq_true (by omega) : ((o.length + 1) * 48 ≤ 140737488355328) = True), (take_snoc_all rfl : (o ++ [(p1, p2, p3)]).take (o.length + 1) = _)]
theorem szTake1 {t : T} {l : List t.den} {i : Nat} (h : i < l.length) : szT (.sl t) (l.take i) + (szT t l[i] + 1) = szT (.sl t) (l.take (i + 1)) := by
  have key : ∀ a b : List t.den, szL t (a ++ b) = szL t a + szL t b := fun a b => by simp [szL]
  rw [take_snoc h, szT_slE, szT_slE, key, List.length_append, show szL t [l[i]] = szT t l[i] by simp [szL]]
  simp; omega
theorem setF_sz {l n : List PropD} {x : SetD} (h : setF l x = some n) : szT (.sl TProp) n ≤ szT (.sl TProp) l + (szT TSet x + 1) := by
  unfold setF at h
  split at h
  · obtain rfl := Option.some.inj h
    rw [szSet]; exact oneB_sz l x
  · cases h
theorem setFP (l : List PropD) (xs : List SetD) (i : Nat) (hi : i < xs.length) (s s' : List PropD) (hP : szT (.sl TProp) s ≤ szT (.sl TProp) l + szT (.sl TSet) (xs.take i)) (hf : setF s xs[i] = some s') : szT (.sl TProp) s' ≤ szT (.sl TProp) l + szT (.sl TSet) (xs.take (i + 1)) := by
  have h1 := setF_sz hf
  have h2 := szTake1 (t := TSet) hi
  omega
theorem goM_sz (l : List PropD) : ∀ (xs : List SetD) (s n : List PropD), goM setF s xs = some n → szT (.sl TProp) n ≤ szT (.sl TProp) s + szT (.sl TSet) xs
  | [], s, n, h => by obtain rfl := Option.some.inj h; omega
  | x :: xs, s, n, h => by
    simp only [goM, Option.bind_eq_some_iff] at h
    obtain ⟨s', h1, h2⟩ := h
    have e1 := goM_sz l xs s' n h2
    have e2 := setF_sz h1
    have e3 : szT (.sl TSet) (x :: xs) = szT (.sl TSet) xs + (szT TSet x + 1) := by
      rw [szT_slE, szT_slE, List.length_cons]
      have : szL TSet (x :: xs) = szT TSet x + szL TSet xs := by simp [szL]
      omega
    omega
abbrev propsR (r : List PropD × Bool) : Option (List (Option Ob) × RV) := some ([], .tup [.one (.own (.sl TProp r.1)), .one (.fz (.b r.2))])
theorem sSetProps_ok (l : List PropD) (xs : List SetD) (h : szT (.sl TProp) l ≤ 549755813888) (hx : szT (.sl TSet) xs ≤ 549755813888) : V sSetProps [.d (.sl TProp l), .d (.sl TSet xs)] [] = propsR (setPropsB l xs) := by
  rw [V_eq (fn := sSetProps_m) (by kernel_rfl)]
  have hn := szLen (t := TProp) (l := l)
  have hm := szLen (t := TSet) (l := xs)
  have hl : l.length * 48 ≤ 140737488355328 := by omega
  have L := loop_goM (X := V) (c := sSetProps_l0) xs setF (fun i s => szT (.sl TProp) s ≤ szT (.sl TProp) l + szT (.sl TSet) (xs.take i))
    (fun (i : Nat) (s : List PropD) => ⟨[(7, i6 i), (6, .h 70 0 s.length), (1, .d (.sl TSet xs)), (0, .d (.sl TProp l))], [(70, .ls TProp false s 0 [])]⟩)
    (.ret, ⟨[(5, .d (.b false)), (4, .h 68 0 l.length)], [(68, .ls TProp false l 0 [])]⟩)
    (fun s => (.ex 0, ⟨[(6, .h 70 0 s.length), (0, .d (.sl TProp l))], [(70, .ls TProp false s 0 [])]⟩)) (by simp) (by simp)
    (fun i hi s hP => by
      have hz := szTake' (t := TSet) (l := xs) (i := i)
      have hg := szG (t := TSet) hi
      rw [szSet] at hg
      have e1 := sl10Prop_ok xs[i].2 (by omega)
      have e2 := sl12One_ok s xs[i] (by omega) (by omega)
      unfold setF
      generalize propB xs[i].2 = t1 at e1 ⊢
      generalize oneB s xs[i] = n at e2 ⊢
      cases t1 <;> simp -implicitDefEqProofs [sSetProps_l0, hi, get_some hi, e1, e2, wrap_succ hi (by omega), hl])
    (setFP l xs)
    (fun s _ => by simp -implicitDefEqProofs [sSetProps_l0])
    l (by simp)
  simp only [Int.natCast_zero] at L
  have hl : l.length * 48 ≤ 140737488355328 := by omega
  unfold setPropsB
  cases hs : goM setF l xs with
  | none =>
    rw [hs] at L
    simp -implicitDefEqProofs [sSetProps_m, L, hl]
  | some n =>
    rw [hs] at L
    have hz := goM_sz l xs l n hs
    have e1 := sPropsOk_ok n (by omega)
    show _ = propsR (if propsB n = true then (n, true) else (l, false))
    generalize propsB n = t1 at e1 ⊢
    cases t1 <;> simp -implicitDefEqProofs [sSetProps_m, L, hl, e1]
abbrev TreeD := List ResD
def withP (r : ResD) (ps : List PropD) : ResD := (r.1, r.2.1, r.2.2.1, r.2.2.2.1, ps)
def patchB (t : TreeD) (p : PathD) (xs : List SetD) : TreeD × Int :=
  if treeB t = true then
    if p = [] then (t, 403) else
    match t.findIdx? (atP p) with
    | none => (t, 404)
    | some i => match t[i]? with
      | none => (t, 404)
      | some r => if (setPropsB r.2.2.2.2 xs).2 = true then (t.set i (withP r (setPropsB r.2.2.2.2 xs).1), 207) else (t, 409)
  else (t, 500)
abbrev treeR (r : TreeD × Int) : Option (List (Option Ob) × RV) := some ([], .tup [.one (.own (.sl TRes r.1)), .one (.fz (.i .i64 r.2))])
end Go.Proofs.YtfklggpopffkjaaGreatK
