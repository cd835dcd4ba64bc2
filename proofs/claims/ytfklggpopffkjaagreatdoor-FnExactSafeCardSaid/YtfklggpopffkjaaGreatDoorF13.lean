/- What the functions come to. -/
import Derived.Test.YtfklggpopffkjaaGreatDoorF12
set_option linter.unusedVariables false
set_option linter.unusedSimpArgs false
namespace Go.Proofs.YtfklggpopffkjaaGreatDoorK
open Go.RowKit
abbrev resA (r : ResD) : AV := .agg [.d (.sl .str r.1), .d (.b r.2.1), .d (.s r.2.2.1), i6 r.2.2.2.1, .d (.sl TProp r.2.2.2.2)]
def resB (r : ResD) : Bool := decide (0 < r.1.length) && pathB r.1 && (!r.2.1 || decide (r.2.2.1 = [])) && decide (r.2.2.1.length ≤ 200) && (decide (0 ≤ r.2.2.2.1) && decide (r.2.2.2.1 ≤ 99999)) && propsB r.2.2.2.2
def treeB (t : List ResD) : Bool := eachB (fun i r => resB r && prevB (fun a b => lessPathB a.1 b.1) t i r && collB t r.1.dropLast) t && decide (t.length ≤ 12)
theorem szRes (r : ResD) : szT TRes r = szT (.sl .str) r.1 + r.2.2.1.length + szT (.sl TProp) r.2.2.2.2 := by simp only [szT_pr, szT_bool, szT_str, szT_int]; omega
theorem szLock (x : LockD) : szT TLock x = szT (.sl .str) x.2.1 := by simp only [szT_pr, szT_bool, szT_int]; omega
theorem szSrv (s : SrvD) : szT TSrv s = szT (.sl TRes) s.1 + szT (.sl TLock) s.2.1 + szT (.sl (.int .i64)) s.2.2.2.2.1 + szT (.sl (.int .i64)) s.2.2.2.2.2 := by simp only [szT_pr, szT_int]; omega
theorem okP_sz {p : PathD} (h : szT (.sl .str) p ≤ 1099511627776) : OkP p := by
  have := szLen (t := .str) (l := p)
  refine ⟨by omega, fun s hs => ?_⟩
  rw [szT_slE] at h
  have := szL_mem (t := .str) hs
  simp only [szT_str] at this
  omega
theorem iresOk_ok (r : ResD) (h : szT TRes r ≤ 1099511627776) : V iresOk [resA r] [] = rB (resB r) := by
  rw [V_eq (fn := iresOk_m) (by kernel_rfl)]
  rw [szRes] at h
  obtain ⟨p, c, b, v, l⟩ := r
  simp only at h
  have e1 := iPathOk_ok p (okP_sz (by omega))
  have e2 := iin_ok v 0 99999
  have e3 := iPropsOk_ok l (by omega)
  unfold resB
  simp only
  generalize pathB p = t1 at e1 ⊢
  generalize (decide (0 ≤ v) && decide (v ≤ 99999)) = t2 at e2 ⊢
  generalize propsB l = t3 at e3 ⊢
  by_cases hp : p = []
  · subst hp; simp -implicitDefEqProofs [iresOk_m]
  have hp' : 0 < p.length := List.length_pos_iff.2 hp
  cases t1
  · simp -implicitDefEqProofs [iresOk_m, hp, hp', e1]
  obtain ⟨t4, h4⟩ : ∃ t, decide (b = []) = t := ⟨_, rfl⟩
  rw [h4]
  by_cases hb : b.length ≤ 200
  · cases c <;> cases t4 <;> cases t2 <;> simp -implicitDefEqProofs [iresOk_m, hp, hp', e1, h4, hb, (by omega : (b.length : Int) ≤ 200), e2, e3]
  · cases c <;> cases t4 <;> simp -implicitDefEqProofs [iresOk_m, hp, hp', e1, h4, hb, (eq_false (by omega) : ((b.length : Int) ≤ 200) = False)]
theorem iTreeOk_ok (t : List ResD) (ht : szT (.sl TRes) t ≤ 1099511627776) : V iTreeOk [.d (.sl TRes t)] [] = rB (treeB t) := by
  rw [V_eq (fn := iTreeOk_m) (by kernel_rfl)]
  have hl := szLen (t := TRes) (l := t)
  have L := loop_eachB (X := V) (c := iTreeOk_l0) t (fun i r => resB r && prevB (fun a b => lessPathB a.1 b.1) t i r && collB t r.1.dropLast) (fun i : Nat => ⟨[(7, i6 i), (6, i6 t.length), (5, .d (.sl TRes t)), (0, .d (.sl TRes t))], []⟩) (.ret, ⟨[(2, .d (.b false))], []⟩) (.ex 0, ⟨[(0, .d (.sl TRes t))], []⟩) (by simp) (by simp)
    (fun i hi => by
      have hz := szG (t := TRes) hi
      have hy := szLen (t := .str) (l := t[i].1)
      have hz' := szRes t[i]
      have e1 := iresOk_ok t[i] (by omega)
      simp only [resA] at e1
      have e3 := iAbove_ok t[i].1 (by omega)
      have e4 := iIsColl_ok t t[i].1.dropLast (by omega)
      generalize resB t[i] = t1 at e1 ⊢
      generalize collB t t[i].1.dropLast = t3 at e4 ⊢
      by_cases c0 : 0 < i
      · have hi' : i - 1 < t.length := by omega
        have hx := szG (t := TRes) hi'
        have hx' := szRes t[i - 1]
        have hx2 := szLen (t := .str) (l := t[i - 1].1)
        have e2 := iLessPath_ok t[i - 1].1 t[i].1 (by omega) (by omega)
        rw [prevB_pos c0 hi']
        generalize lessPathB t[i - 1].1 t[i].1 = t2 at e2 ⊢
        have w : IntKind.i64.wrap ((i : Int) - 1) = ((i - 1 : Nat) : Int) := by rw [wrI (by omega) (by omega)]; omega
        cases t1 <;> cases t2 <;> cases t3 <;> simp -implicitDefEqProofs [iTreeOk_l0, hi, get_some hi, hi', get_some hi', e1, e2, e3, e4, c0, w, wrap_succ hi (by omega)]
      · rw [prevB_zero c0]
        cases t1 <;> cases t3 <;> simp -implicitDefEqProofs [iTreeOk_l0, hi, get_some hi, e1, e3, e4, c0, wrap_succ hi (by omega)])
    (by simp -implicitDefEqProofs [iTreeOk_l0])
  simp only [Int.natCast_zero] at L
  unfold treeB
  cases h : eachB (fun i r => resB r && prevB (fun a b => lessPathB a.1 b.1) t i r && collB t r.1.dropLast) t <;> rw [h] at L <;> simp -implicitDefEqProofs only [Bool.false_eq_true, if_true, if_false] at L <;> simp -implicitDefEqProofs [iTreeOk_m, L]
  omega
set_option maxHeartbeats 1000000 in
theorem sTreeOk_ok (t : List ResD) (ht : szT (.sl TRes) t ≤ 1099511627776) : V sTreeOk [.d (.sl TRes t)] [] = rB (treeB t) := by
  rw [V_eq (fn := sTreeOk_m) (by kernel_rfl)]
  have hl := szLen (t := TRes) (l := t)
  have L := loop_eachB (X := V) (c := sTreeOk_l0) t (fun i r => resB r && prevB (fun a b => lessPathB a.1 b.1) t i r && collB t r.1.dropLast) (fun i : Nat => ⟨[(3, i6 i), (0, .d (.sl TRes t))], []⟩) (.ret, ⟨[(2, .d (.b false))], []⟩) (.ex 0, ⟨[(0, .d (.sl TRes t))], []⟩) (by simp) (by simp)
    (fun i hi => by
      have hz := szG (t := TRes) hi
      have hy := szLen (t := .str) (l := t[i].1)
      have hz' := szRes t[i]
      have e3 := sAbove_ok t[i].1 (by omega)
      have e4 := sIsColl_ok t t[i].1.dropLast (by omega)
      have f1 := sPathOk_ok t[i].1 (okP_sz (by omega))
      have f2 := sl1In_ok t[i].2.2.2.1 0 99999
      have f3 := sPropsOk_ok t[i].2.2.2.2 (by omega)
      unfold resB
      generalize collB t t[i].1.dropLast = t3 at e4 ⊢
      generalize pathB t[i].1 = u1 at f1 ⊢
      generalize (decide (0 ≤ t[i].2.2.2.1) && decide (t[i].2.2.2.1 ≤ 99999)) = u2 at f2 ⊢
      generalize propsB t[i].2.2.2.2 = u3 at f3 ⊢
      by_cases hp : t[i].1 = []
      · simp -implicitDefEqProofs [sTreeOk_l0, hi, get_some hi, hp]
      have hp' : 0 < t[i].1.length := List.length_pos_iff.2 hp
      cases u1
      · simp -implicitDefEqProofs [sTreeOk_l0, hi, get_some hi, hp, f1]
      by_cases hb : t[i].2.2.1.length ≤ 200
      case neg => simp -implicitDefEqProofs [sTreeOk_l0, hi, get_some hi, hp, f1, hb, (eq_true (by omega) : ((200 : Int) < t[i].2.2.1.length) = True)]
      have hbi : ((200 : Int) < t[i].2.2.1.length) = False := eq_false (by omega)
      obtain ⟨t4, h4⟩ : ∃ x, decide (t[i].2.2.1 = []) = x := ⟨_, rfl⟩
      obtain ⟨c, hc⟩ : ∃ x, t[i].2.1 = x := ⟨_, rfl⟩
      rw [h4, hc]
      have g : (c = true ∧ t4 = false) ∨ (!c || t4) = true := by cases c <;> cases t4 <;> simp
      rcases g with ⟨rfl, rfl⟩ | g
      · simp -implicitDefEqProofs [sTreeOk_l0, hi, get_some hi, hp, f1, hb, hbi, h4, hc]
      rw [g]
      cases u2
      · cases c <;> cases t4 <;> simp at g <;> simp -implicitDefEqProofs [sTreeOk_l0, hi, get_some hi, hp, f1, hb, hbi, h4, hc, f2]
      cases u3
      · cases c <;> cases t4 <;> simp at g <;> simp -implicitDefEqProofs [sTreeOk_l0, hi, get_some hi, hp, f1, hb, hbi, h4, hc, f2, f3]
      have hpos : decide (0 < t[i].1.length) = true := decide_eq_true hp'
      have hb2 : decide (t[i].2.2.1.length ≤ 200) = true := decide_eq_true hb
      simp only [hpos, hb2, Bool.true_and, Bool.and_true]
      by_cases c0 : 0 < i
      · have hi' : i - 1 < t.length := by omega
        have hx := szG (t := TRes) hi'
        have hx' := szRes t[i - 1]
        have hx2 := szLen (t := .str) (l := t[i - 1].1)
        have e2 := sLessPath_ok t[i - 1].1 t[i].1 (by omega) (by omega)
        rw [prevB_pos c0 hi']
        generalize lessPathB t[i - 1].1 t[i].1 = t2 at e2 ⊢
        have w : IntKind.i64.wrap ((i : Int) - 1) = ((i - 1 : Nat) : Int) := by rw [wrI (by omega) (by omega)]; omega
        cases c <;> cases t4 <;> simp at g <;> cases t2 <;> cases t3 <;> simp -implicitDefEqProofs [sTreeOk_l0, hi, get_some hi, hi', get_some hi', hp, f1, hb, hbi, h4, hc, f2, f3, e2, e3, e4, c0, w, wrap_succ hi (by omega)]
      · rw [prevB_zero c0]
        cases c <;> cases t4 <;> simp at g <;> cases t3 <;> simp -implicitDefEqProofs [sTreeOk_l0, hi, get_some hi, hp, f1, hb, hbi, h4, hc, f2, f3, e3, e4, c0, wrap_succ hi (by omega)])
    (by simp -implicitDefEqProofs [sTreeOk_l0])
  simp only [Int.natCast_zero] at L
  unfold treeB
  cases h : eachB (fun i r => resB r && prevB (fun a b => lessPathB a.1 b.1) t i r && collB t r.1.dropLast) t <;> rw [h] at L <;> simp -implicitDefEqProofs only [Bool.false_eq_true, if_true, if_false] at L <;> simp -implicitDefEqProofs [sTreeOk_m, L]
  omega
def lockB (x : LockD) : Bool := (decide (1 ≤ x.1) && decide (x.1 ≤ 9999)) && pathB x.2.1 && (decide (0 ≤ x.2.2.2.2) && decide (x.2.2.2.2 ≤ 9999999))
def clashB (a b : LockD) : Bool := !(a.2.2.2.1 && b.2.2.2.1) && (coversB a b.2.1 || coversB b a.2.1)
theorem clashB_comm (a b : LockD) : clashB a b = clashB b a := by unfold clashB; rw [Bool.and_comm a.2.2.2.1, Bool.or_comm (coversB a b.2.1)]
def locksB (l : List LockD) : Bool := eachB (fun i x => lockB x && (l.take i).all fun y => !decide (y.1 = x.1) && !clashB y x) l && decide (l.length ≤ 6)
theorem iLockOk_ok (x : LockD) (h : szT TLock x ≤ 1099511627776) : V iLockOk [lockA x] [] = rB (lockB x) := by
  rw [V_eq (fn := iLockOk_m) (by kernel_rfl)]
  rw [szLock] at h
  obtain ⟨a, p, d, s, u⟩ := x
  simp only at h
  have e1 := iin_ok a 1 9999
  have e2 := iPathOk_ok p (okP_sz h)
  have e3 := iin_ok u 0 9999999
  unfold lockB
  simp only
  generalize (decide (1 ≤ a) && decide (a ≤ 9999)) = t1 at e1 ⊢
  generalize pathB p = t2 at e2 ⊢
  generalize (decide (0 ≤ u) && decide (u ≤ 9999999)) = t3 at e3 ⊢
  cases t1 <;> cases t2 <;> simp -implicitDefEqProofs [iLockOk_m, e1, e2, e3]
theorem sLockOk_ok (x : LockD) (h : szT TLock x ≤ 1099511627776) : V sLockOk [lockA x] [] = rB (lockB x) := by
  rw [V_eq (fn := sLockOk_m) (by kernel_rfl)]
  rw [szLock] at h
  obtain ⟨a, p, d, s, u⟩ := x
  simp only at h
  have e1 := sl1In_ok a 1 9999
  have e2 := sPathOk_ok p (okP_sz h)
  have e3 := sl1In_ok u 0 9999999
  unfold lockB
  simp only
  generalize (decide (1 ≤ a) && decide (a ≤ 9999)) = t1 at e1 ⊢
  generalize pathB p = t2 at e2 ⊢
  generalize (decide (0 ≤ u) && decide (u ≤ 9999999)) = t3 at e3 ⊢
  cases t1 <;> cases t2 <;> simp -implicitDefEqProofs [sLockOk_m, e1, e2, e3]
theorem iLockClash_ok (x y : LockD) (hx : szT TLock x ≤ 1099511627776) (hy : szT TLock y ≤ 1099511627776) : V iLockClash [lockA x, lockA y] [] = rB (clashB x y) := by
  rw [V_eq (fn := iLockClash_m) (by kernel_rfl)]
  rw [szLock] at hx hy
  have h1 := szLen (t := .str) (l := x.2.1)
  have h2 := szLen (t := .str) (l := y.2.1)
  have e1 := iCovers_ok x y.2.1 (by omega)
  have e2 := iCovers_ok y x.2.1 (by omega)
  obtain ⟨a, p, d, s, u⟩ := x
  obtain ⟨a', p', d', s', u'⟩ := y
  unfold clashB
  simp only [lockA] at e1 e2 ⊢
  generalize coversB (a, p, d, s, u) p' = t1 at e1 ⊢
  generalize coversB (a', p', d', s', u') p = t2 at e2 ⊢
  cases s <;> cases s' <;> cases t1 <;> simp -implicitDefEqProofs [iLockClash_m, e1, e2]
theorem sLockClash_ok (x y : LockD) (hx : szT TLock x ≤ 1099511627776) (hy : szT TLock y ≤ 1099511627776) : V sLockClash [lockA x, lockA y] [] = rB (clashB x y) := by
  rw [V_eq (fn := sLockClash_m) (by kernel_rfl)]
  rw [szLock] at hx hy
  have h1 := szLen (t := .str) (l := x.2.1)
  have h2 := szLen (t := .str) (l := y.2.1)
  have e1 := sCovers_ok x y.2.1 (by omega)
  have e2 := sCovers_ok y x.2.1 (by omega)
  obtain ⟨a, p, d, s, u⟩ := x
  obtain ⟨a', p', d', s', u'⟩ := y
  unfold clashB
  simp only [lockA] at e1 e2 ⊢
  generalize coversB (a, p, d, s, u) p' = t1 at e1 ⊢
  generalize coversB (a', p', d', s', u') p = t2 at e2 ⊢
  cases s <;> cases s' <;> cases t1 <;> simp -implicitDefEqProofs [sLockClash_m, e1, e2]
theorem iLocksOk_ok (l : List LockD) (hz : szT (.sl TLock) l ≤ 1099511627776) : V iLocksOk [.d (.sl TLock l)] [] = rB (locksB l) := by
  rw [V_eq (fn := iLocksOk_m) (by kernel_rfl)]
  have hl := szLen (t := TLock) (l := l)
  have L := loop_eachB (X := V) (c := iLocksOk_l1) l (fun i x => lockB x && (l.take i).all fun y => !decide (y.1 = x.1) && !clashB y x) (fun i : Nat => ⟨[(9, i6 i), (8, i6 l.length), (7, .d (.sl TLock l)), (0, .d (.sl TLock l))], []⟩) (.ret, ⟨[(2, .d (.b false))], []⟩) (.ex 0, ⟨[(0, .d (.sl TLock l))], []⟩) (by simp) (by simp)
    (fun i hi => by
      have hx := szG (t := TLock) hi
      have e1 := iLockOk_ok l[i] (by omega)
      simp only [lockA] at e1
      have hk : (l.take i).length = i := by rw [List.length_take]; omega
      have L2 := loop_all (X := V) (c := iLocksOk_l0) (l.take i) (fun y => !decide (y.1 = l[i].1) && !clashB y l[i]) (fun k : Nat => ⟨[(21, i6 k), (20, i6 i), (19, .d (.sl TLock (l.take i))), (9, i6 i), (8, i6 l.length), (7, .d (.sl TLock l)), (4, .p 68 0 0), (0, .d (.sl TLock l))], [(68, .ls TLock true [l[i]] 0 [])]⟩) (.ret, ⟨[(2, .d (.b false))], []⟩) (.ex 2, ⟨[(9, i6 i), (8, i6 l.length), (7, .d (.sl TLock l)), (0, .d (.sl TLock l))], []⟩) (by simp) (by simp)
        (fun k hk' => by
          have hki : k < i := by omega
          have hkl : k < l.length := by omega
          have hg : (l.take i)[k] = l[k] := List.getElem_take
          have hy := szG (t := TLock) hkl
          have e2 := iLockClash_ok l[i] l[k] (by omega) (by omega)
          simp only [lockA] at e2
          rw [clashB_comm] at e2
          have hg2 : (l.take i)[k]? = some l[k] := by rw [get_some hk', hg]
          rw [hg]
          generalize clashB l[k] l[i] = t2 at e2 ⊢
          by_cases ht : l[k].1 = l[i].1
          · simp -implicitDefEqProofs [iLocksOk_l0, hki, hg2, hkl, ht]
          · have ht' : ¬ l[i].1 = l[k].1 := fun q => ht q.symm
            cases t2 <;> simp -implicitDefEqProofs [iLocksOk_l0, hki, hg2, hkl, ht, ht', e2, wrap_succ hki (by omega)])
        (by rw [hk]; simp -implicitDefEqProofs [iLocksOk_l0])
      simp only [Int.natCast_zero] at L2
      generalize lockB l[i] = t1 at e1 ⊢
      cases t1
      · simp -implicitDefEqProofs [iLocksOk_l1, hi, get_some hi, e1]
      cases h2 : (l.take i).all (fun y => !decide (y.1 = l[i].1) && !clashB y l[i]) <;> rw [h2] at L2 <;> simp -implicitDefEqProofs only [Bool.false_eq_true, if_true, if_false] at L2 <;> simp -implicitDefEqProofs [iLocksOk_l1, hi, get_some hi, e1, L2, hk, (by omega : i ≤ l.length), (by omega : min i l.length = i), wrap_succ hi (by omega)])
    (by simp -implicitDefEqProofs [iLocksOk_l1])
  simp only [Int.natCast_zero] at L
  unfold locksB
  cases h : eachB (fun i x => lockB x && (l.take i).all fun y => !decide (y.1 = x.1) && !clashB y x) l <;> rw [h] at L <;> simp -implicitDefEqProofs only [Bool.false_eq_true, if_true, if_false] at L <;> simp -implicitDefEqProofs [iLocksOk_m, L]
  omega
theorem sLocksOk_ok (l : List LockD) (hz : szT (.sl TLock) l ≤ 1099511627776) : V sLocksOk [.d (.sl TLock l)] [] = rB (locksB l) := by
  rw [V_eq (fn := sLocksOk_m) (by kernel_rfl)]
  have hl := szLen (t := TLock) (l := l)
  have L := loop_eachB (X := V) (c := sLocksOk_l1) l (fun i x => lockB x && (l.take i).all fun y => !decide (y.1 = x.1) && !clashB y x) (fun i : Nat => ⟨[(3, i6 i), (0, .d (.sl TLock l))], []⟩) (.ret, ⟨[(2, .d (.b false))], []⟩) (.ex 0, ⟨[(0, .d (.sl TLock l))], []⟩) (by simp) (by simp)
    (fun i hi => by
      have hx := szG (t := TLock) hi
      have e1 := sLockOk_ok l[i] (by omega)
      simp only [lockA] at e1
      have hk : (l.take i).length = i := by rw [List.length_take]; omega
      have L2 := loop_all (X := V) (c := sLocksOk_l0) (l.take i) (fun y => !decide (y.1 = l[i].1) && !clashB y l[i]) (fun k : Nat => ⟨[(4, i6 k), (3, i6 i), (0, .d (.sl TLock l))], []⟩) (.ret, ⟨[(2, .d (.b false))], []⟩) (.ex 2, ⟨[(3, i6 i), (0, .d (.sl TLock l))], []⟩) (by simp) (by simp)
        (fun k hk' => by
          have hki : k < i := by omega
          have hkl : k < l.length := by omega
          have hg : (l.take i)[k] = l[k] := List.getElem_take
          have hy := szG (t := TLock) hkl
          have e2 := sLockClash_ok l[k] l[i] (by omega) (by omega)
          simp only [lockA] at e2
          rw [hg]
          generalize clashB l[k] l[i] = t2 at e2 ⊢
          by_cases ht : l[k].1 = l[i].1
          · simp -implicitDefEqProofs [sLocksOk_l0, hki, hi, get_some hi, get_some hkl, hkl, ht]
          · cases t2 <;> simp -implicitDefEqProofs [sLocksOk_l0, hki, hi, get_some hi, get_some hkl, hkl, ht, e2, wrap_succ hki (by omega)])
        (by rw [hk]; simp -implicitDefEqProofs [sLocksOk_l0])
      simp only [Int.natCast_zero] at L2
      generalize lockB l[i] = t1 at e1 ⊢
      cases t1
      · simp -implicitDefEqProofs [sLocksOk_l1, hi, get_some hi, e1]
      cases h2 : (l.take i).all (fun y => !decide (y.1 = l[i].1) && !clashB y l[i]) <;> rw [h2] at L2 <;> simp -implicitDefEqProofs only [Bool.false_eq_true, if_true, if_false] at L2 <;> simp -implicitDefEqProofs [sLocksOk_l1, hi, get_some hi, e1, L2, wrap_succ hi (by omega)])
    (by simp -implicitDefEqProofs [sLocksOk_l1])
  simp only [Int.natCast_zero] at L
  unfold locksB
  cases h : eachB (fun i x => lockB x && (l.take i).all fun y => !decide (y.1 = x.1) && !clashB y x) l <;> rw [h] at L <;> simp -implicitDefEqProofs only [Bool.false_eq_true, if_true, if_false] at L <;> simp -implicitDefEqProofs [sLocksOk_m, L]
  omega
def usedC (l : List Int) (i : Nat) (n : Int) : Bool := (decide (1 ≤ n) && decide (n ≤ 9999)) && prevB (fun a b => decide (a < b)) l i n
def usedB (l : List Int) : Bool := eachB (usedC l) l
def srvB (s : SrvD) : Bool := treeB s.1 && locksB s.2.1 && (decide (0 ≤ s.2.2.1) && decide (s.2.2.1 ≤ 9999999)) && (decide (1 ≤ s.2.2.2.1) && decide (s.2.2.2.1 ≤ 100000)) && decide (s.2.2.2.2.1.length ≤ 20) && usedB s.2.2.2.2.2 &&
  s.1.all (fun r => decide (r.2.2.2.1 < s.2.2.2.1)) && s.2.1.all fun x => hasB s.2.2.2.2.2 x.1
theorem iusedOk_ok (l : List Int) (hl : l.length ≤ 1099511627776) : V iusedOk [.d (.sl (.int .i64) l)] [] = rB (usedB l) := by
  rw [V_eq (fn := iusedOk_m) (by kernel_rfl)]
  have L := loop_eachB (X := V) (c := iusedOk_l0) l (usedC l) (fun i : Nat => ⟨[(7, i6 i), (6, i6 l.length), (5, .d (.sl (.int .i64) l)), (0, .d (.sl (.int .i64) l))], []⟩) (.ret, ⟨[(2, .d (.b false))], []⟩) (.ex 0, ⟨[], []⟩) (by simp) (by simp)
    (fun i hi => by
      have e1 := iin_ok l[i] 1 9999
      unfold usedC
      generalize (decide (1 ≤ l[i]) && decide (l[i] ≤ 9999)) = t1 at e1 ⊢
      by_cases c0 : 0 < i
      · have hi' : i - 1 < l.length := by omega
        rw [prevB_pos c0 hi']
        have w : IntKind.i64.wrap ((i : Int) - 1) = ((i - 1 : Nat) : Int) := by rw [wrI (by omega) (by omega)]; omega
        by_cases c : l[i - 1] < l[i]
        · cases t1 <;> simp -implicitDefEqProofs [iusedOk_l0, hi, get_some hi, hi', get_some hi', e1, c0, w, c, (by omega : ¬ l[i] ≤ l[i - 1]), wrap_succ hi (by omega)]
        · cases t1 <;> simp -implicitDefEqProofs [iusedOk_l0, hi, get_some hi, hi', get_some hi', e1, c0, w, c, (by omega : l[i] ≤ l[i - 1]), wrap_succ hi (by omega)]
      · rw [prevB_zero c0]
        cases t1 <;> simp -implicitDefEqProofs [iusedOk_l0, hi, get_some hi, e1, c0, wrap_succ hi (by omega)])
    (by simp -implicitDefEqProofs [iusedOk_l0])
  simp only [Int.natCast_zero] at L
  unfold usedB
  cases h : eachB (usedC l) l <;> rw [h] at L <;> simp -implicitDefEqProofs only [Bool.false_eq_true, if_true, if_false] at L <;> simp -implicitDefEqProofs [iusedOk_m, L]
theorem iSrvOk_ok (s : SrvD) (hz : szT TSrv s ≤ 1099511627776) : V iSrvOk [srvA s] [] = rB (srvB s) := by
  rw [V_eq (fn := iSrvOk_m) (by kernel_rfl)]
  rw [szSrv] at hz
  obtain ⟨t, l, now, ver, dr, us⟩ := s
  simp only at hz
  have ht := szLen (t := TRes) (l := t)
  have hl := szLen (t := TLock) (l := l)
  have hd := szLen (t := .int .i64) (l := dr)
  have hu := szLen (t := .int .i64) (l := us)
  have e1 := iTreeOk_ok t (by omega)
  have e2 := iLocksOk_ok l (by omega)
  have e3 := iin_ok now 0 9999999
  have e4 := iin_ok ver 1 100000
  have e5 := iusedOk_ok us (by omega)
  have L0 := loop_all (X := V) (c := iSrvOk_l0) t (fun r => decide (r.2.2.2.1 < ver)) (fun i : Nat => ⟨[(44, i6 i), (43, i6 t.length), (42, .d (.sl TRes t)), (1, .p 65 0 0)], [(65, .ls TSrv true [(t, l, now, ver, dr, us)] 0 [])]⟩) (.ret, ⟨[(2, .d (.b false))], []⟩) (.ex 0, ⟨[(1, .p 65 0 0)], [(65, .ls TSrv true [(t, l, now, ver, dr, us)] 0 [])]⟩) (by simp) (by simp)
    (fun i hi => by
      by_cases c : t[i].2.2.2.1 < ver
      · simp -implicitDefEqProofs [iSrvOk_l0, hi, get_some hi, c, (by omega : ¬ ver ≤ t[i].2.2.2.1), wrap_succ hi (by omega)]
      · simp -implicitDefEqProofs [iSrvOk_l0, hi, get_some hi, c, (by omega : ver ≤ t[i].2.2.2.1), wrap_succ hi (by omega)])
    (by simp -implicitDefEqProofs [iSrvOk_l0])
  have L1 := loop_all (X := V) (c := iSrvOk_l1) l (fun x => hasB us x.1) (fun i : Nat => ⟨[(57, i6 i), (56, i6 l.length), (55, .d (.sl TLock l)), (1, .p 65 0 0)], [(65, .ls TSrv true [(t, l, now, ver, dr, us)] 0 [])]⟩) (.ret, ⟨[(2, .d (.b false))], []⟩) (.ex 2, ⟨[], []⟩) (by simp) (by simp)
    (fun i hi => by
      have e := ihasInt_ok us l[i].1 (by omega)
      generalize hasB us l[i].1 = t1 at e ⊢
      cases t1 <;> simp -implicitDefEqProofs [iSrvOk_l1, hi, get_some hi, e, wrap_succ hi (by omega)])
    (by simp -implicitDefEqProofs [iSrvOk_l1])
  simp only [Int.natCast_zero] at L0 L1
  unfold srvB
  simp only
  generalize treeB t = t1 at e1 ⊢
  generalize locksB l = t2 at e2 ⊢
  generalize (decide (0 ≤ now) && decide (now ≤ 9999999)) = t3 at e3 ⊢
  generalize (decide (1 ≤ ver) && decide (ver ≤ 100000)) = t4 at e4 ⊢
  generalize usedB us = t5 at e5 ⊢
  generalize t.all (fun r => decide (r.2.2.2.1 < ver)) = t6 at L0 ⊢
  generalize l.all (fun x => hasB us x.1) = t7 at L1 ⊢
  cases t1
  · simp -implicitDefEqProofs [iSrvOk_m, e1]
  cases t2
  · simp -implicitDefEqProofs [iSrvOk_m, e1, e2]
  cases t3
  · simp -implicitDefEqProofs [iSrvOk_m, e1, e2, e3]
  cases t4
  · simp -implicitDefEqProofs [iSrvOk_m, e1, e2, e3, e4]
  by_cases h5 : dr.length ≤ 20
  case neg => simp -implicitDefEqProofs [iSrvOk_m, e1, e2, e3, e4, h5, (eq_true (by omega) : ((20 : Int) < dr.length) = True)]
  have h5' : ((20 : Int) < dr.length) = False := eq_false (by omega)
  cases t5
  · simp -implicitDefEqProofs [iSrvOk_m, e1, e2, e3, e4, h5, h5', e5]
  cases t6
  · simp -implicitDefEqProofs only [Bool.false_eq_true, if_true, if_false] at L0
    simp -implicitDefEqProofs [iSrvOk_m, e1, e2, e3, e4, h5, h5', e5, L0]
  simp -implicitDefEqProofs only [Bool.false_eq_true, if_true, if_false] at L0
  cases t7 <;> simp -implicitDefEqProofs only [Bool.false_eq_true, if_true, if_false] at L1 <;> simp -implicitDefEqProofs [iSrvOk_m, e1, e2, e3, e4, h5, h5', e5, L0, L1]
theorem sSrvOk_ok (s : SrvD) (hz : szT TSrv s ≤ 1099511627776) : V sSrvOk [srvA s] [] = rB (srvB s) := by
  rw [V_eq (fn := sSrvOk_m) (by kernel_rfl)]
  rw [szSrv] at hz
  obtain ⟨t, l, now, ver, dr, us⟩ := s
  simp only at hz
  have ht := szLen (t := TRes) (l := t)
  have hl := szLen (t := TLock) (l := l)
  have hd := szLen (t := .int .i64) (l := dr)
  have hu := szLen (t := .int .i64) (l := us)
  have e1 := sTreeOk_ok t (by omega)
  have e2 := sLocksOk_ok l (by omega)
  have e3 := sl1In_ok now 0 9999999
  have e4 := sl1In_ok ver 1 100000
  have L0 := loop_all (X := V) (c := sSrvOk_l0) t (fun r => decide (r.2.2.2.1 < ver)) (fun i : Nat => ⟨[(3, i6 i), (1, .p 65 0 0)], [(65, .ls TSrv true [(t, l, now, ver, dr, us)] 0 [])]⟩) (.ret, ⟨[(2, .d (.b false))], []⟩) (.ex 0, ⟨[(1, .p 65 0 0)], [(65, .ls TSrv true [(t, l, now, ver, dr, us)] 0 [])]⟩) (by simp) (by simp)
    (fun i hi => by
      by_cases c : t[i].2.2.2.1 < ver
      · simp -implicitDefEqProofs [sSrvOk_l0, hi, get_some hi, c, (by omega : ¬ ver ≤ t[i].2.2.2.1), wrap_succ hi (by omega)]
      · simp -implicitDefEqProofs [sSrvOk_l0, hi, get_some hi, c, (by omega : ver ≤ t[i].2.2.2.1), wrap_succ hi (by omega)])
    (by simp -implicitDefEqProofs [sSrvOk_l0])
  have L1 := loop_all (X := V) (c := sSrvOk_l1) l (fun x => hasB us x.1) (fun i : Nat => ⟨[(4, i6 i), (1, .p 65 0 0)], [(65, .ls TSrv true [(t, l, now, ver, dr, us)] 0 [])]⟩) (.ret, ⟨[(2, .d (.b false))], []⟩) (.ex 2, ⟨[(1, .p 65 0 0)], [(65, .ls TSrv true [(t, l, now, ver, dr, us)] 0 [])]⟩) (by simp) (by simp)
    (fun i hi => by
      have e := sl13Has_ok us l[i].1 (by omega)
      generalize hasB us l[i].1 = t1 at e ⊢
      cases t1 <;> simp -implicitDefEqProofs [sSrvOk_l1, hi, get_some hi, e, wrap_succ hi (by omega)])
    (by simp -implicitDefEqProofs [sSrvOk_l1])
  have L2 := loop_eachB (X := V) (c := sSrvOk_l2) us (usedC us) (fun i : Nat => ⟨[(5, i6 i), (1, .p 65 0 0)], [(65, .ls TSrv true [(t, l, now, ver, dr, us)] 0 [])]⟩) (.ret, ⟨[(2, .d (.b false))], []⟩) (.ex 4, ⟨[(1, .p 65 0 0)], [(65, .ls TSrv true [(t, l, now, ver, dr, us)] 0 [])]⟩) (by simp) (by simp)
    (fun i hi => by
      have e1 := sl1In_ok us[i] 1 9999
      unfold usedC
      generalize (decide (1 ≤ us[i]) && decide (us[i] ≤ 9999)) = t1 at e1 ⊢
      by_cases c0 : 0 < i
      · have hi' : i - 1 < us.length := by omega
        rw [prevB_pos c0 hi']
        have w : IntKind.i64.wrap ((i : Int) - 1) = ((i - 1 : Nat) : Int) := by rw [wrI (by omega) (by omega)]; omega
        by_cases c : us[i - 1] < us[i]
        · cases t1 <;> simp -implicitDefEqProofs [sSrvOk_l2, hi, get_some hi, hi', get_some hi', e1, c0, w, c, (by omega : ¬ us[i] ≤ us[i - 1]), wrap_succ hi (by omega)]
        · cases t1 <;> simp -implicitDefEqProofs [sSrvOk_l2, hi, get_some hi, hi', get_some hi', e1, c0, w, c, (by omega : us[i] ≤ us[i - 1]), wrap_succ hi (by omega)]
      · rw [prevB_zero c0]
        cases t1 <;> simp -implicitDefEqProofs [sSrvOk_l2, hi, get_some hi, e1, c0, wrap_succ hi (by omega)])
    (by simp -implicitDefEqProofs [sSrvOk_l2])
  simp only [Int.natCast_zero] at L0 L1 L2
  unfold srvB usedB
  simp only
  generalize treeB t = t1 at e1 ⊢
  generalize locksB l = t2 at e2 ⊢
  generalize (decide (0 ≤ now) && decide (now ≤ 9999999)) = t3 at e3 ⊢
  generalize (decide (1 ≤ ver) && decide (ver ≤ 100000)) = t4 at e4 ⊢
  generalize eachB (usedC us) us = t5 at L2 ⊢
  generalize t.all (fun r => decide (r.2.2.2.1 < ver)) = t6 at L0 ⊢
  generalize l.all (fun x => hasB us x.1) = t7 at L1 ⊢
  cases t6
  · simp -implicitDefEqProofs only [Bool.false_eq_true, if_true, if_false] at L0
    simp -implicitDefEqProofs [sSrvOk_m, L0]
  simp -implicitDefEqProofs only [Bool.false_eq_true, if_true, if_false] at L0
  cases t7
  · simp -implicitDefEqProofs only [Bool.false_eq_true, if_true, if_false] at L1
    simp -implicitDefEqProofs [sSrvOk_m, L0, L1]
  simp -implicitDefEqProofs only [Bool.false_eq_true, if_true, if_false] at L1
  cases t5
  · simp -implicitDefEqProofs only [Bool.false_eq_true, if_true, if_false] at L2
    simp -implicitDefEqProofs [sSrvOk_m, L0, L1, L2]
  simp -implicitDefEqProofs only [Bool.false_eq_true, if_true, if_false] at L2
  cases t1
  · simp -implicitDefEqProofs [sSrvOk_m, L0, L1, L2, e1]
  cases t2
  · simp -implicitDefEqProofs [sSrvOk_m, L0, L1, L2, e1, e2]
  cases t3
  · simp -implicitDefEqProofs [sSrvOk_m, L0, L1, L2, e1, e2, e3]
  cases t4
  · simp -implicitDefEqProofs [sSrvOk_m, L0, L1, L2, e1, e2, e3, e4]
  simp -implicitDefEqProofs [sSrvOk_m, L0, L1, L2, e1, e2, e3, e4]
  try omega
end Go.Proofs.YtfklggpopffkjaaGreatDoorK
