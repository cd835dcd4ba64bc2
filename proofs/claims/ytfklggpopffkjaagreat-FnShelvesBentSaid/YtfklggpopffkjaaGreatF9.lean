/- What the functions come to. -/
import Derived.Test.YtfklggpopffkjaaGreatF8
set_option linter.unusedVariables false
set_option linter.unusedSimpArgs false
namespace Go.Proofs.YtfklggpopffkjaaGreatK
open Go.RowKit
abbrev resA (r : ResD) : AV := .agg [.d (.sl .str r.1), .d (.b r.2.1), .d (.s r.2.2.1), i6 r.2.2.2.1, .d (.sl TProp r.2.2.2.2)]
def resB (r : ResD) : Bool := decide (0 < r.1.length) && pathB r.1 && (!r.2.1 || decide (r.2.2.1 = [])) && decide (r.2.2.1.length ≤ 200) && (decide (0 ≤ r.2.2.2.1) && decide (r.2.2.2.1 ≤ 99999)) && propsB r.2.2.2.2
def treeB (t : List ResD) : Bool := eachB (fun i r => resB r && prevB (fun a b => lessPathB a.1 b.1) t i r && collB t r.1.dropLast) t && decide (t.length ≤ 12)
theorem szRes (r : ResD) : szT TRes r = szT (.sl .str) r.1 + r.2.2.1.length + szT (.sl TProp) r.2.2.2.2 := by simp only [szT_pr, szT_bool, szT_str, szT_int]; omega
theorem iresOk_ok (r : ResD) (h : szT TRes r ≤ 1099511627776) : V iresOk [resA r] [] = rB (resB r) := by
  rw [V_eq (fn := iresOk_m) (by kernel_rfl)]
  rw [szRes] at h
  obtain ⟨p, c, b, v, l⟩ := r
  simp only at h
  have e1 := iPathOk_ok p (okP_sz (by omega))
  have e2 := iin_ok v 0 99999
  have e3 := iPropsOk_ok l (by omega)
  unfold resB
  simp only
  generalize pathB p = t1 at e1 ⊢
  generalize (decide (0 ≤ v) && decide (v ≤ 99999)) = t2 at e2 ⊢
  generalize propsB l = t3 at e3 ⊢
  by_cases hp : p = []
  · subst hp; simp -implicitDefEqProofs [iresOk_m]
  have hp' : 0 < p.length := List.length_pos_iff.2 hp
  cases t1
  · simp -implicitDefEqProofs [iresOk_m, hp, hp', e1]
  obtain ⟨t4, h4⟩ : ∃ t, decide (b = []) = t := ⟨_, rfl⟩
  rw [h4]
  by_cases hb : b.length ≤ 200
  · cases c <;> cases t4 <;> cases t2 <;> simp -implicitDefEqProofs [iresOk_m, hp, hp', e1, h4, hb, (by omega : (b.length : Int) ≤ 200), e2, e3]
  · cases c <;> cases t4 <;> simp -implicitDefEqProofs [iresOk_m, hp, hp', e1, h4, hb, (eq_false (by omega) : ((b.length : Int) ≤ 200) = False)]
theorem iTreeOk_ok (t : List ResD) (ht : szT (.sl TRes) t ≤ 1099511627776) : V iTreeOk [.d (.sl TRes t)] [] = rB (treeB t) := by
  rw [V_eq (fn := iTreeOk_m) (by kernel_rfl)]
  have hl := szLen (t := TRes) (l := t)
  have L := loop_eachB (X := V) (c := iTreeOk_l0) t (fun i r => resB r && prevB (fun a b => lessPathB a.1 b.1) t i r && collB t r.1.dropLast) (fun i : Nat => ⟨[(7, i6 i), (6, i6 t.length), (5, .d (.sl TRes t)), (0, .d (.sl TRes t))], []⟩) (.ret, ⟨[(2, .d (.b false))], []⟩) (.ex 0, ⟨[(0, .d (.sl TRes t))], []⟩) (by simp) (by simp)
    (fun i hi => by
      have hz := szG (t := TRes) hi
      have hy := szLen (t := .str) (l := t[i].1)
      have hz' := szRes t[i]
      have e1 := iresOk_ok t[i] (by omega)
      simp only [resA] at e1
      have e3 := iAbove_ok t[i].1 (by omega)
      have e4 := iIsColl_ok t t[i].1.dropLast (by omega)
      generalize resB t[i] = t1 at e1 ⊢
      generalize collB t t[i].1.dropLast = t3 at e4 ⊢
      by_cases c0 : 0 < i
      · have hi' : i - 1 < t.length := by omega
        have hx := szG (t := TRes) hi'
        have hx' := szRes t[i - 1]
        have hx2 := szLen (t := .str) (l := t[i - 1].1)
        have e2 := iLessPath_ok t[i - 1].1 t[i].1 (by omega) (by omega)
        rw [prevB_pos c0 hi']
        generalize lessPathB t[i - 1].1 t[i].1 = t2 at e2 ⊢
        have w : IntKind.i64.wrap ((i : Int) - 1) = ((i - 1 : Nat) : Int) := by rw [wrI (by omega) (by omega)]; omega
        cases t1 <;> cases t2 <;> cases t3 <;> simp -implicitDefEqProofs [iTreeOk_l0, hi, get_some hi, hi', get_some hi', e1, e2, e3, e4, c0, w, wrap_succ hi (by omega)]
      · rw [prevB_zero c0]
        cases t1 <;> cases t3 <;> simp -implicitDefEqProofs [iTreeOk_l0, hi, get_some hi, e1, e3, e4, c0, wrap_succ hi (by omega)])
    (by simp -implicitDefEqProofs [iTreeOk_l0])
  simp only [Int.natCast_zero] at L
  unfold treeB
  cases h : eachB (fun i r => resB r && prevB (fun a b => lessPathB a.1 b.1) t i r && collB t r.1.dropLast) t <;> rw [h] at L <;> simp -implicitDefEqProofs only [Bool.false_eq_true, if_true, if_false] at L <;> simp -implicitDefEqProofs [iTreeOk_m, L]
  omega
set_option maxHeartbeats 1000000 in
theorem sTreeOk_ok (t : List ResD) (ht : szT (.sl TRes) t ≤ 1099511627776) : V sTreeOk [.d (.sl TRes t)] [] = rB (treeB t) := by
  rw [V_eq (fn := sTreeOk_m) (by kernel_rfl)]
  have hl := szLen (t := TRes) (l := t)
  have L := loop_eachB (X := V) (c := sTreeOk_l0) t (fun i r => resB r && prevB (fun a b => lessPathB a.1 b.1) t i r && collB t r.1.dropLast) (fun i : Nat => ⟨[(3, i6 i), (0, .d (.sl TRes t))], []⟩) (.ret, ⟨[(2, .d (.b false))], []⟩) (.ex 0, ⟨[(0, .d (.sl TRes t))], []⟩) (by simp) (by simp)
    (fun i hi => by
      have hz := szG (t := TRes) hi
      have hy := szLen (t := .str) (l := t[i].1)
      have hz' := szRes t[i]
      have e3 := sAbove_ok t[i].1 (by omega)
      have e4 := sIsColl_ok t t[i].1.dropLast (by omega)
      have f1 := sPathOk_ok t[i].1 (okP_sz (by omega))
      have f2 := sl1In_ok t[i].2.2.2.1 0 99999
      have f3 := sPropsOk_ok t[i].2.2.2.2 (by omega)
      unfold resB
      generalize collB t t[i].1.dropLast = t3 at e4 ⊢
      generalize pathB t[i].1 = u1 at f1 ⊢
      generalize (decide (0 ≤ t[i].2.2.2.1) && decide (t[i].2.2.2.1 ≤ 99999)) = u2 at f2 ⊢
      generalize propsB t[i].2.2.2.2 = u3 at f3 ⊢
      by_cases hp : t[i].1 = []
      · simp -implicitDefEqProofs [sTreeOk_l0, hi, get_some hi, hp]
      have hp' : 0 < t[i].1.length := List.length_pos_iff.2 hp
      cases u1
      · simp -implicitDefEqProofs [sTreeOk_l0, hi, get_some hi, hp, f1]
      by_cases hb : t[i].2.2.1.length ≤ 200
      case neg => simp -implicitDefEqProofs [sTreeOk_l0, hi, get_some hi, hp, f1, hb, (eq_true (by omega) : ((200 : Int) < t[i].2.2.1.length) = True)]
      have hbi : ((200 : Int) < t[i].2.2.1.length) = False := eq_false (by omega)
      obtain ⟨t4, h4⟩ : ∃ x, decide (t[i].2.2.1 = []) = x := ⟨_, rfl⟩
      obtain ⟨c, hc⟩ : ∃ x, t[i].2.1 = x := ⟨_, rfl⟩
      rw [h4, hc]
      have g : (c = true ∧ t4 = false) ∨ (!c || t4) = true := by cases c <;> cases t4 <;> simp
      rcases g with ⟨rfl, rfl⟩ | g
      · simp -implicitDefEqProofs [sTreeOk_l0, hi, get_some hi, hp, f1, hb, hbi, h4, hc]
      rw [g]
      cases u2
      · cases c <;> cases t4 <;> simp at g <;> simp -implicitDefEqProofs [sTreeOk_l0, hi, get_some hi, hp, f1, hb, hbi, h4, hc, f2]
      cases u3
      · cases c <;> cases t4 <;> simp at g <;> simp -implicitDefEqProofs [sTreeOk_l0, hi, get_some hi, hp, f1, hb, hbi, h4, hc, f2, f3]
      have hpos : decide (0 < t[i].1.length) = true := decide_eq_true hp'
      have hb2 : decide (t[i].2.2.1.length ≤ 200) = true := decide_eq_true hb
      simp only [hpos, hb2, Bool.true_and, Bool.and_true]
      by_cases c0 : 0 < i
      · have hi' : i - 1 < t.length := by omega
        have hx := szG (t := TRes) hi'
        have hx' := szRes t[i - 1]
        have hx2 := szLen (t := .str) (l := t[i - 1].1)
        have e2 := sLessPath_ok t[i - 1].1 t[i].1 (by omega) (by omega)
        rw [prevB_pos c0 hi']
        generalize lessPathB t[i - 1].1 t[i].1 = t2 at e2 ⊢
        have w : IntKind.i64.wrap ((i : Int) - 1) = ((i - 1 : Nat) : Int) := by rw [wrI (by omega) (by omega)]; omega
        cases c <;> cases t4 <;> simp at g <;> cases t2 <;> cases t3 <;> simp -implicitDefEqProofs [sTreeOk_l0, hi, get_some hi, hi', get_some hi', hp, f1, hb, hbi, h4, hc, f2, f3, e2, e3, e4, c0, w, wrap_succ hi (by omega)]
      · rw [prevB_zero c0]
        cases c <;> cases t4 <;> simp at g <;> cases t3 <;> simp -implicitDefEqProofs [sTreeOk_l0, hi, get_some hi, hp, f1, hb, hbi, h4, hc, f2, f3, e3, e4, c0, wrap_succ hi (by omega)])
    (by simp -implicitDefEqProofs [sTreeOk_l0])
  simp only [Int.natCast_zero] at L
  unfold treeB
  cases h : eachB (fun i r => resB r && prevB (fun a b => lessPathB a.1 b.1) t i r && collB t r.1.dropLast) t <;> rw [h] at L <;> simp -implicitDefEqProofs only [Bool.false_eq_true, if_true, if_false] at L <;> simp -implicitDefEqProofs [sTreeOk_m, L]
  omega
end Go.Proofs.YtfklggpopffkjaaGreatK
