/- What the functions come to. -/
import Derived.Test.YtfklggpopffkjaaGreatF7
set_option linter.unusedVariables false
set_option linter.unusedSimpArgs false
namespace Go.Proofs.YtfklggpopffkjaaGreatK
open Go.RowKit
def smallC (i : Nat) (b : UInt8) : Bool := (decide (97 ≤ b) && decide (b ≤ 122)) || (!decide (i = 0) && ((decide (48 ≤ b) && decide (b ≤ 57)) || decide (b = 45)))
def smallB (s : List UInt8) : Bool := eachB smallC s && (decide (1 ≤ s.length) && decide (s.length ≤ 20))
theorem iSmallName_ok (s : List UInt8) (hs : s.length ≤ 9223372036854775807) : V iSmallName [.d (.s s)] [] = rB (smallB s) := by
  rw [V_eq (fn := iSmallName_m) (by kernel_rfl)]
  have L := loop_eachB (X := V) (c := iSmallName_l0) s smallC (fun i : Nat => ⟨[(3, i6 i), (0, .d (.s s))], []⟩) (.ret, ⟨[(2, .d (.b false))], []⟩) (.ex 0, ⟨[(0, .d (.s s))], []⟩) (by simp) (by simp)
    (fun i hi => by
      have e1 := iisSmall_ok s[i]
      have e2 := iisDigit_ok s[i]
      unfold smallC
      generalize (decide (97 ≤ s[i]) && decide (s[i] ≤ 122)) = t1 at e1 ⊢
      generalize (decide (48 ≤ s[i]) && decide (s[i] ≤ 57)) = t2 at e2 ⊢
      obtain ⟨t3, h3⟩ : ∃ t, decide (i = 0) = t := ⟨_, rfl⟩
      obtain ⟨t4, h4⟩ : ∃ t, decide (s[i] = 45) = t := ⟨_, rfl⟩
      rw [h3, h4]
      cases t1 <;> cases t3 <;> cases t2 <;> cases t4 <;> simp -implicitDefEqProofs [iSmallName_l0, hi, get_some hi, e1, e2, h3, h4, wrap_succ hi hs])
    (by simp -implicitDefEqProofs [iSmallName_l0])
  have e := iin_ok s.length 1 20
  rw [show (decide ((1 : Int) ≤ (s.length : Int)) && decide ((s.length : Int) ≤ 20)) = (decide (1 ≤ s.length) && decide (s.length ≤ 20)) from len_range s.length 1 20] at e
  simp only [Int.natCast_zero] at L
  unfold smallB
  cases h : eachB smallC s <;> rw [h] at L <;> simp -implicitDefEqProofs only [Bool.false_eq_true, if_true, if_false] at L <;> simp -implicitDefEqProofs [iSmallName_m, L, e]
theorem sSmallName_ok (s : List UInt8) (hs : s.length ≤ 9223372036854775807) : V sSmallName [.d (.s s)] [] = rB (smallB s) := by
  rw [V_eq (fn := sSmallName_m) (by kernel_rfl)]
  have L := loop_eachB (X := V) (c := sSmallName_l0) s smallC (fun i : Nat => ⟨[(3, i6 i), (0, .d (.s s))], []⟩) (.ret, ⟨[(2, .d (.b false))], []⟩) (.ex 0, ⟨[(0, .d (.s s))], []⟩) (by simp) (by simp)
    (fun i hi => by
      have e1 := sl1Small_ok s[i]
      have e2 := sl1Digit_ok s[i]
      unfold smallC
      generalize (decide (97 ≤ s[i]) && decide (s[i] ≤ 122)) = t1 at e1 ⊢
      generalize (decide (48 ≤ s[i]) && decide (s[i] ≤ 57)) = t2 at e2 ⊢
      obtain ⟨t3, h3⟩ : ∃ t, decide (i = 0) = t := ⟨_, rfl⟩
      obtain ⟨t4, h4⟩ : ∃ t, decide (s[i] = 45) = t := ⟨_, rfl⟩
      rw [h3, h4]
      cases t1 <;> cases t3 <;> cases t2 <;> cases t4 <;> simp -implicitDefEqProofs [sSmallName_l0, hi, get_some hi, e1, e2, h3, h4, wrap_succ hi hs])
    (by simp -implicitDefEqProofs [sSmallName_l0])
  have e := sl1In_ok s.length 1 20
  rw [show (decide ((1 : Int) ≤ (s.length : Int)) && decide ((s.length : Int) ≤ 20)) = (decide (1 ≤ s.length) && decide (s.length ≤ 20)) from len_range s.length 1 20] at e
  simp only [Int.natCast_zero] at L
  unfold smallB
  cases h : eachB smallC s <;> rw [h] at L <;> simp -implicitDefEqProofs only [Bool.false_eq_true, if_true, if_false] at L <;> simp -implicitDefEqProofs [sSmallName_m, L, e]
abbrev propA (p : PropD) : AV := .agg [.d (.s p.1), .d (.s p.2.1), .d (.s p.2.2)]
def propB (p : PropD) : Bool := decide (p.1.length ≤ 20) && p.1.all plainB && smallB p.2.1 && decide (p.2.2.length ≤ 20) && p.2.2.all plainB
def lessPropB (a b : PropD) : Bool := if a.1 = b.1 then Op.bytesLess a.2.1 b.2.1 else Op.bytesLess a.1 b.1
def propsB (l : List PropD) : Bool := eachB (fun i p => propB p && prevB lessPropB l i p) l && decide (l.length ≤ 4)
abbrev szP (p : PropD) : Nat := p.1.length + (p.2.1.length + p.2.2.length)
theorem ipropOk_ok (p : PropD) (h : szP p ≤ 1099511627776) : V ipropOk [propA p] [] = rB (propB p) := by
  rw [V_eq (fn := ipropOk_m) (by kernel_rfl)]
  obtain ⟨a, b, c⟩ := p
  simp only [szP] at h
  have e1 := iPlain_ok a (by omega)
  have e2 := iSmallName_ok b (by omega)
  have e3 := iPlain_ok c (by omega)
  unfold propB
  simp only
  generalize a.all plainB = t1 at e1 ⊢
  generalize smallB b = t2 at e2 ⊢
  generalize c.all plainB = t3 at e3 ⊢
  by_cases h1 : a.length ≤ 20
  case neg => simp -implicitDefEqProofs [ipropOk_m, h1, (eq_false (by omega) : ((a.length : Int) ≤ 20) = False)]
  have h1i : (a.length : Int) ≤ 20 := by omega
  cases t1
  · simp -implicitDefEqProofs [ipropOk_m, h1, h1i, e1]
  cases t2
  · simp -implicitDefEqProofs [ipropOk_m, h1, h1i, e1, e2]
  by_cases h2 : c.length ≤ 20
  case neg => simp -implicitDefEqProofs [ipropOk_m, h1, h1i, e1, e2, h2, (eq_false (by omega) : ((c.length : Int) ≤ 20) = False)]
  have h2i : (c.length : Int) ≤ 20 := by omega
  simp -implicitDefEqProofs [ipropOk_m, h1, h1i, e1, e2, h2, h2i, e3]
theorem sl10Prop_ok (p : PropD) (h : szP p ≤ 1099511627776) : V sl10Prop [propA p] [] = rB (propB p) := by
  rw [V_eq (fn := sl10Prop_m) (by kernel_rfl)]
  obtain ⟨a, b, c⟩ := p
  simp only [szP] at h
  have e1 := sPlain_ok a (by omega)
  have e2 := sSmallName_ok b (by omega)
  have e3 := sPlain_ok c (by omega)
  unfold propB
  simp only
  generalize a.all plainB = t1 at e1 ⊢
  generalize smallB b = t2 at e2 ⊢
  generalize c.all plainB = t3 at e3 ⊢
  by_cases h1 : a.length ≤ 20
  case neg => simp -implicitDefEqProofs [sl10Prop_m, h1, (eq_false (by omega) : ((a.length : Int) ≤ 20) = False)]
  have h1i : (a.length : Int) ≤ 20 := by omega
  cases t1
  · simp -implicitDefEqProofs [sl10Prop_m, h1, h1i, e1]
  cases t2
  · simp -implicitDefEqProofs [sl10Prop_m, h1, h1i, e1, e2]
  by_cases h2 : c.length ≤ 20
  case neg => simp -implicitDefEqProofs [sl10Prop_m, h1, h1i, e1, e2, h2, (eq_false (by omega) : ((c.length : Int) ≤ 20) = False)]
  have h2i : (c.length : Int) ≤ 20 := by omega
  simp -implicitDefEqProofs [sl10Prop_m, h1, h1i, e1, e2, h2, h2i, e3]
theorem ilessProp_ok (p q : PropD) : V ilessProp [propA p, propA q] [] = rB (lessPropB p q) := by
  rw [V_eq (fn := ilessProp_m) (by kernel_rfl)]
  obtain ⟨a, b, c⟩ := p
  obtain ⟨a', b', c'⟩ := q
  unfold lessPropB
  simp only
  by_cases h : a = a'
  · subst h
    simp -implicitDefEqProofs [ilessProp_m, bytesLess_irrefl]
  · cases h2 : Op.bytesLess a a' <;> simp -implicitDefEqProofs [ilessProp_m, h, h2]
theorem sl10LessProp_ok (p q : PropD) : V sl10LessProp [propA p, propA q] [] = rB (lessPropB p q) := by
  rw [V_eq (fn := sl10LessProp_m) (by kernel_rfl)]
  obtain ⟨a, b, c⟩ := p
  obtain ⟨a', b', c'⟩ := q
  unfold lessPropB
  simp only
  by_cases h : a = a' <;> simp -implicitDefEqProofs [sl10LessProp_m, h]
theorem szProp (p : PropD) : szT TProp p = szP p := rfl
theorem iPropsOk_ok (l : List PropD) (hl : szT (.sl TProp) l ≤ 1099511627776) : V iPropsOk [.d (.sl TProp l)] [] = rB (propsB l) := by
  rw [V_eq (fn := iPropsOk_m) (by kernel_rfl)]
  have hn := szLen (t := TProp) (l := l)
  have L := loop_eachB (X := V) (c := iPropsOk_l0) l (fun i p => propB p && prevB lessPropB l i p) (fun i : Nat => ⟨[(7, i6 i), (6, i6 l.length), (5, .d (.sl TProp l)), (0, .d (.sl TProp l))], []⟩) (.ret, ⟨[(2, .d (.b false))], []⟩) (.ex 0, ⟨[(0, .d (.sl TProp l))], []⟩) (by simp) (by simp)
    (fun i hi => by
      have hz := szG (t := TProp) hi
      rw [szProp] at hz
      have e1 := ipropOk_ok l[i] (by omega)
      simp only [propA] at e1
      generalize propB l[i] = t1 at e1 ⊢
      by_cases c0 : 0 < i
      · have hi' : i - 1 < l.length := by omega
        have e2 := ilessProp_ok l[i - 1] l[i]
        simp only [propA] at e2
        rw [prevB_pos c0 hi']
        generalize lessPropB l[i - 1] l[i] = t2 at e2 ⊢
        have w : IntKind.i64.wrap ((i : Int) - 1) = ((i - 1 : Nat) : Int) := by rw [wrI (by omega) (by omega)]; omega
        cases t1 <;> cases t2 <;> simp -implicitDefEqProofs [iPropsOk_l0, hi, get_some hi, hi', get_some hi', e1, e2, c0, w, wrap_succ hi (by omega)]
      · rw [prevB_zero c0]
        cases t1 <;> simp -implicitDefEqProofs [iPropsOk_l0, hi, get_some hi, e1, c0, wrap_succ hi (by omega)])
    (by simp -implicitDefEqProofs [iPropsOk_l0])
  simp only [Int.natCast_zero] at L
  unfold propsB
  cases h : eachB (fun i p => propB p && prevB lessPropB l i p) l <;> rw [h] at L <;> simp -implicitDefEqProofs only [Bool.false_eq_true, if_true, if_false] at L <;> simp -implicitDefEqProofs [iPropsOk_m, L]
  omega
theorem szPropS (p : PropD) : szT TProp p = szP p := rfl
theorem sPropsOk_ok (l : List PropD) (hl : szT (.sl TProp) l ≤ 1099511627776) : V sPropsOk [.d (.sl TProp l)] [] = rB (propsB l) := by
  rw [V_eq (fn := sPropsOk_m) (by kernel_rfl)]
  have hn := szLen (t := TProp) (l := l)
  have L := loop_eachB (X := V) (c := sPropsOk_l0) l (fun i p => propB p && prevB lessPropB l i p) (fun i : Nat => ⟨[(3, i6 i), (0, .d (.sl TProp l))], []⟩) (.ret, ⟨[(2, .d (.b false))], []⟩) (.ex 0, ⟨[(0, .d (.sl TProp l))], []⟩) (by simp) (by simp)
    (fun i hi => by
      have hz := szG (t := TProp) hi
      rw [szPropS] at hz
      have e1 := sl10Prop_ok l[i] (by omega)
      simp only [propA] at e1
      generalize propB l[i] = t1 at e1 ⊢
      by_cases c0 : 0 < i
      · have hi' : i - 1 < l.length := by omega
        have e2 := sl10LessProp_ok l[i - 1] l[i]
        simp only [propA] at e2
        rw [prevB_pos c0 hi']
        generalize lessPropB l[i - 1] l[i] = t2 at e2 ⊢
        have w : IntKind.i64.wrap ((i : Int) - 1) = ((i - 1 : Nat) : Int) := by rw [wrI (by omega) (by omega)]; omega
        cases t1 <;> cases t2 <;> simp -implicitDefEqProofs [sPropsOk_l0, hi, get_some hi, hi', get_some hi', e1, e2, c0, w, wrap_succ hi (by omega)]
      · rw [prevB_zero c0]
        cases t1 <;> simp -implicitDefEqProofs [sPropsOk_l0, hi, get_some hi, e1, c0, wrap_succ hi (by omega)])
    (by simp -implicitDefEqProofs [sPropsOk_l0])
  simp only [Int.natCast_zero] at L
  unfold propsB
  cases h : eachB (fun i p => propB p && prevB lessPropB l i p) l <;> rw [h] at L <;> simp -implicitDefEqProofs only [Bool.false_eq_true, if_true, if_false] at L <;> simp -implicitDefEqProofs [sPropsOk_m, L]
  omega
def diffI (a b : PathD) : Option Nat := firstI (min a.length b.length) fun i => !decide (a[i]? = b[i]?)
def lessPathB (a b : PathD) : Bool := match diffI a b with | some i => Op.bytesLess (a.getD i []) (b.getD i []) | none => decide (a.length < b.length)
theorem diffI_lt {a b : PathD} {i : Nat} (h : diffI a b = some i) : i < a.length ∧ i < b.length := by have := (firstI_some h).1; omega
theorem iLessPath_ok (a b : PathD) (ha : a.length ≤ 1099511627776) (hb : b.length ≤ 1099511627776) : V iLessPath [.d (.sl .str a), .d (.sl .str b)] [] = rB (lessPathB a b) := by
  rw [V_eq (fn := iLessPath_m) (by kernel_rfl)]
  have L := loop_firstI (X := V) (c := iLessPath_l0) (min a.length b.length) (fun i => !decide (a[i]? = b[i]?)) (fun i : Nat => ⟨[(5, i6 i), (1, .d (.sl .str b)), (0, .d (.sl .str a))], []⟩) (fun i => (.ret, ⟨[(4, .d (.b (Op.bytesLess (a.getD i []) (b.getD i []))))], []⟩)) (.ex 0, ⟨[(1, .d (.sl .str b)), (0, .d (.sl .str a))], []⟩) (by simp) (by simp)
    (fun i hi => by
      have h1 : i < a.length := by omega
      have h2 : i < b.length := by omega
      simp only [List.getD_eq_getElem?_getD, get_some h1, get_some h2, Option.getD_some, Option.some.injEq]
      by_cases c : a[i] = b[i] <;> simp -implicitDefEqProofs [iLessPath_l0, h1, h2, get_some h1, get_some h2, c, wrap_succ h1 (by omega)])
    (by
      rcases Nat.lt_or_ge a.length b.length with h | h
      · rw [Nat.min_eq_left (by omega)]; simp -implicitDefEqProofs [iLessPath_l0]
      · rw [Nat.min_eq_right h]
        by_cases h2 : b.length < a.length <;> simp -implicitDefEqProofs [iLessPath_l0, h2])
  simp only [Int.natCast_zero] at L
  unfold lessPathB diffI
  cases h : firstI (min a.length b.length) (fun i => !decide (a[i]? = b[i]?)) <;> rw [h] at L <;> simp only at L <;> simp -implicitDefEqProofs [iLessPath_m, L]
theorem sLessPath_ok (a b : PathD) (ha : a.length ≤ 1099511627776) (hb : b.length ≤ 1099511627776) : V sLessPath [.d (.sl .str a), .d (.sl .str b)] [] = rB (lessPathB a b) := by
  rw [V_eq (fn := sLessPath_m) (by kernel_rfl)]
  have L := loop_firstI (X := V) (c := sLessPath_l0) (min a.length b.length) (fun i => !decide (a[i]? = b[i]?)) (fun i : Nat => ⟨[(5, i6 i), (1, .d (.sl .str b)), (0, .d (.sl .str a))], []⟩) (fun i => (.ret, ⟨[(4, .d (.b (Op.bytesLess (a.getD i []) (b.getD i []))))], []⟩)) (.ex 0, ⟨[(1, .d (.sl .str b)), (0, .d (.sl .str a))], []⟩) (by simp) (by simp)
    (fun i hi => by
      have h1 : i < a.length := by omega
      have h2 : i < b.length := by omega
      simp only [List.getD_eq_getElem?_getD, get_some h1, get_some h2, Option.getD_some, Option.some.injEq]
      by_cases c : a[i] = b[i] <;> simp -implicitDefEqProofs [sLessPath_l0, h1, h2, get_some h1, get_some h2, c, wrap_succ h1 (by omega)])
    (by
      rcases Nat.lt_or_ge a.length b.length with h | h
      · rw [Nat.min_eq_left (by omega)]; simp -implicitDefEqProofs [sLessPath_l0]
      · rw [Nat.min_eq_right h]
        by_cases h2 : b.length < a.length <;> simp -implicitDefEqProofs [sLessPath_l0, h2])
  simp only [Int.natCast_zero] at L
  unfold lessPathB diffI
  cases h : firstI (min a.length b.length) (fun i => !decide (a[i]? = b[i]?)) <;> rw [h] at L <;> simp only at L <;> simp -implicitDefEqProofs [sLessPath_m, L]
def collB (t : List ResD) (p : PathD) : Bool := decide (p = []) || match t.findIdx? (atP p) with | some i => (match t[i]? with | some r => r.2.1 | none => false) | none => false
theorem iIsColl_ok (t : List ResD) (p : PathD) (ht : szT (.sl TRes) t ≤ 1099511627776) : V iIsColl [.d (.sl TRes t), .d (.sl .str p)] [] = rB (collB t p) := by
  rw [V_eq (fn := iIsColl_m) (by kernel_rfl)]
  have e := iFindRes_ok t p ht
  unfold collB
  by_cases hp : p = []
  · simp -implicitDefEqProofs [iIsColl_m, hp]
  · cases h : t.findIdx? (atP p) with
    | none => simp only [findB, h] at e; simp -implicitDefEqProofs [iIsColl_m, hp, e]
    | some i =>
      have hi := fi_lt h
      simp only [findB, h] at e; simp -implicitDefEqProofs [iIsColl_m, hp, e, hi, get_some hi]
theorem sIsColl_ok (t : List ResD) (p : PathD) (ht : szT (.sl TRes) t ≤ 1099511627776) : V sIsColl [.d (.sl TRes t), .d (.sl .str p)] [] = rB (collB t p) := by
  rw [V_eq (fn := sIsColl_m) (by kernel_rfl)]
  have e := sFindRes_ok t p ht
  unfold collB
  cases h : t.findIdx? (atP p) with
  | none =>
    simp only [findB, h] at e
    by_cases hp : p = []
    · subst hp; simp -implicitDefEqProofs [sIsColl_m, e]
    · simp -implicitDefEqProofs [sIsColl_m, hp, e]
  | some i =>
    have hi := fi_lt h
    simp only [findB, h] at e
    by_cases hp : p = []
    · subst hp; simp -implicitDefEqProofs [sIsColl_m, e, hi, get_some hi]
    · simp -implicitDefEqProofs [sIsColl_m, hp, e, hi, get_some hi]
end Go.Proofs.YtfklggpopffkjaaGreatK
