/- What the functions come to. -/
import Derived.Test.YtfklggpopffkjaaGreatF13
set_option linter.unusedVariables false
set_option linter.unusedSimpArgs false
namespace Go.Proofs.YtfklggpopffkjaaGreatK
open Go.RowKit
theorem icopyInts_ok (l : List Int) (h : l.length ≤ 1099511627776) : V icopyInts [.d (.sl (.int .i64) l)] [] = some ([], .one (.own (.sl (.int .i64) l))) := by
  rw [V_eq (fn := icopyInts_m) (by kernel_rfl)]
  simp -implicitDefEqProofs [icopyInts_m, (by omega : l.length * 8 ≤ 140737488355328)]
abbrev resR (r : ResD) : RV := .agg [.own (.sl .str r.1), .fz (.b r.2.1), .fz (.s r.2.2.1), .fz (.i .i64 r.2.2.2.1), .own (.sl TProp r.2.2.2.2)]
abbrev lockR (x : LockD) : RV := .agg [.fz (.i .i64 x.1), .own (.sl .str x.2.1), .fz (.b x.2.2.1), .fz (.b x.2.2.2.1), .fz (.i .i64 x.2.2.2.2)]
abbrev srvR (s : SrvD) : RV := .agg [.own (.sl TRes s.1), .own (.sl TLock s.2.1), .fz (.i .i64 s.2.2.1), .fz (.i .i64 s.2.2.2.1), .own (.sl (.int .i64) s.2.2.2.2.1), .own (.sl (.int .i64) s.2.2.2.2.2)]
theorem icopyRes_ok (r : ResD) (h : szT TRes r ≤ 1099511627776) : V icopyRes [resA r] [] = some ([], resR r) := by
  rw [V_eq (fn := icopyRes_m) (by kernel_rfl)]
  rw [szRes] at h
  obtain ⟨p, c, b, v, l⟩ := r
  simp only at h
  have h1 := szLen (t := .str) (l := p)
  have h2 := szLen (t := TProp) (l := l)
  have e1 := icopyPath_ok p (by omega)
  simp -implicitDefEqProofs [icopyRes_m, e1, (by omega : l.length * 48 ≤ 140737488355328)]
theorem sl10Copy_ok (r : ResD) (h : szT TRes r ≤ 1099511627776) : V sl10Copy [resA r] [] = some ([], resR r) := by
  rw [V_eq (fn := sl10Copy_m) (by kernel_rfl)]
  rw [szRes] at h
  obtain ⟨p, c, b, v, l⟩ := r
  simp only at h
  have h1 := szLen (t := .str) (l := p)
  have h2 := szLen (t := TProp) (l := l)
  simp -implicitDefEqProofs [sl10Copy_m, (by omega : p.length * 16 ≤ 140737488355328), (by omega : l.length * 48 ≤ 140737488355328)]
theorem icopyTree_ok (t : List ResD) (h : szT (.sl TRes) t ≤ 1099511627776) : V icopyTree [.d (.sl TRes t)] [] = some ([], .one (.own (.sl TRes t))) := by
  rw [V_eq (fn := icopyTree_m) (by kernel_rfl)]
  have hl := szLen (t := TRes) (l := t)
  have L := loop_each (X := V) (c := icopyTree_l0) t.length (fun i : Nat => ⟨[(8, i6 i), (7, i6 t.length), (6, .d (.sl TRes t)), (3, .h 67 0 i)], [(67, .ls TRes false (t.take i) 0 [])]⟩) (.ex 0, ⟨[(3, .h 67 0 t.length)], [(67, .ls TRes false t 0 [])]⟩) (by simp)
    (fun i hi => by
      have hz := szG (t := TRes) hi
      have e := icopyRes_ok t[i] (by omega)
      simp only [resA, resR] at e
      have hk := take_len (Nat.le_of_lt hi)
      rw [take_snoc hi]
      generalize t.take i = q at hk ⊢
      simp -implicitDefEqProofs [icopyTree_l0, hi, get_some hi, e, hk, take_all hk, (by omega : (i + 1) * 80 ≤ 140737488355328), wrap_succ hi (by omega)])
    (by rw [List.take_length]; simp -implicitDefEqProofs [icopyTree_l0])
  simp only [Int.natCast_zero, List.take_zero] at L
  simp -implicitDefEqProofs [icopyTree_m, L]
theorem sl10CopyAll_ok (t : List ResD) (h : szT (.sl TRes) t ≤ 1099511627776) : V sl10CopyAll [.d (.sl TRes t)] [] = some ([], .one (.own (.sl TRes t))) := by
  rw [V_eq (fn := sl10CopyAll_m) (by kernel_rfl)]
  have hl := szLen (t := TRes) (l := t)
  have L := loop_each (X := V) (c := sl10CopyAll_l0) t.length (fun i : Nat => ⟨[(4, i6 i), (3, .h 67 0 i), (0, .d (.sl TRes t))], [(67, .ls TRes false (t.take i) 0 [])]⟩) (.ex 0, ⟨[(3, .h 67 0 t.length)], [(67, .ls TRes false t 0 [])]⟩) (by simp)
    (fun i hi => by
      have hz := szG (t := TRes) hi
      have e := sl10Copy_ok t[i] (by omega)
      simp only [resA, resR] at e
      have hk := take_len (Nat.le_of_lt hi)
      rw [take_snoc hi]
      generalize t.take i = q at hk ⊢
      simp -implicitDefEqProofs [sl10CopyAll_l0, hi, get_some hi, e, hk, take_all hk, (by omega : (i + 1) * 80 ≤ 140737488355328), wrap_succ hi (by omega)])
    (by rw [List.take_length]; simp -implicitDefEqProofs [sl10CopyAll_l0])
  simp only [Int.natCast_zero, List.take_zero] at L
  simp -implicitDefEqProofs [sl10CopyAll_m, L]
theorem icopyLocks_ok (t : List LockD) (h : szT (.sl TLock) t ≤ 1099511627776) : V icopyLocks [.d (.sl TLock t)] [] = some ([], .one (.own (.sl TLock t))) := by
  rw [V_eq (fn := icopyLocks_m) (by kernel_rfl)]
  have hl := szLen (t := TLock) (l := t)
  have L := loop_each (X := V) (c := icopyLocks_l0) t.length (fun i : Nat => ⟨[(8, i6 i), (7, i6 t.length), (6, .d (.sl TLock t)), (3, .h 67 0 i)], [(67, .ls TLock false (t.take i) 0 [])]⟩) (.ex 0, ⟨[(3, .h 67 0 t.length)], [(67, .ls TLock false t 0 [])]⟩) (by simp)
    (fun i hi => by
      have hz := szG (t := TLock) hi
      have hz' := szLock t[i]
      have hy := szLen (t := .str) (l := t[i].2.1)
      have e := icopyPath_ok t[i].2.1 (by omega)
      have hk := take_len (Nat.le_of_lt hi)
      rw [take_snoc hi]
      generalize t.take i = q at hk ⊢
      simp -implicitDefEqProofs [icopyLocks_l0, hi, get_some hi, e, hk, take_all hk, (by omega : (i + 1) * 48 ≤ 140737488355328), wrap_succ hi (by omega)])
    (by rw [List.take_length]; simp -implicitDefEqProofs [icopyLocks_l0])
  simp only [Int.natCast_zero, List.take_zero] at L
  simp -implicitDefEqProofs [icopyLocks_m, L]
theorem sl13Copy_ok (t : List LockD) (h : szT (.sl TLock) t ≤ 1099511627776) : V sl13Copy [.d (.sl TLock t)] [] = some ([], .one (.own (.sl TLock t))) := by
  rw [V_eq (fn := sl13Copy_m) (by kernel_rfl)]
  have hl := szLen (t := TLock) (l := t)
  have L := loop_each (X := V) (c := sl13Copy_l0) t.length (fun i : Nat => ⟨[(4, i6 i), (3, .h 67 0 i), (0, .d (.sl TLock t))], [(67, .ls TLock false (t.take i) 0 [])]⟩) (.ex 0, ⟨[(3, .h 67 0 t.length)], [(67, .ls TLock false t 0 [])]⟩) (by simp)
    (fun i hi => by
      have hz := szG (t := TLock) hi
      have hz' := szLock t[i]
      have hy := szLen (t := .str) (l := t[i].2.1)
      have hk := take_len (Nat.le_of_lt hi)
      rw [take_snoc hi]
      generalize t.take i = q at hk ⊢
      simp -implicitDefEqProofs [sl13Copy_l0, hi, get_some hi, hk, take_all hk, (by omega : t[i].2.1.length * 16 ≤ 140737488355328), (by omega : (i + 1) * 48 ≤ 140737488355328), wrap_succ hi (by omega)])
    (by rw [List.take_length]; simp -implicitDefEqProofs [sl13Copy_l0])
  simp only [Int.natCast_zero, List.take_zero] at L
  simp -implicitDefEqProofs [sl13Copy_m, L]
set_option maxRecDepth 100000 in
theorem icopySrv_ok (s : SrvD) (h : szT TSrv s ≤ 1099511627776) : V icopySrv [srvA s] [] = some ([], srvR s) := by
  rw [V_eq (fn := icopySrv_m) (by kernel_rfl)]
  rw [szSrv] at h
  obtain ⟨t, l, now, ver, dr, us⟩ := s
  simp only at h
  have hd := szLen (t := .int .i64) (l := dr)
  have hu := szLen (t := .int .i64) (l := us)
  have e1 := icopyTree_ok t (by omega)
  have e2 := icopyLocks_ok l (by omega)
  have e3 := icopyInts_ok dr (by omega)
  have e4 := icopyInts_ok us (by omega)
  simp -implicitDefEqProofs [icopySrv_m, e1, e2, e3, e4]
set_option maxRecDepth 100000 in
theorem sl15Copy_ok (s : SrvD) (h : szT TSrv s ≤ 1099511627776) : V sl15Copy [srvA s] [] = some ([], srvR s) := by
  rw [V_eq (fn := sl15Copy_m) (by kernel_rfl)]
  rw [szSrv] at h
  obtain ⟨t, l, now, ver, dr, us⟩ := s
  simp only at h
  have hd := szLen (t := .int .i64) (l := dr)
  have hu := szLen (t := .int .i64) (l := us)
  have e1 := sl10CopyAll_ok t (by omega)
  have e2 := sl13Copy_ok l (by omega)
  simp -implicitDefEqProofs [sl15Copy_m, e1, e2, (by omega : dr.length * 8 ≤ 140737488355328), (by omega : us.length * 8 ≤ 140737488355328)]
def liveB (l : List LockD) (now : Int) : List LockD := l.filter fun x => decide (now < x.2.2.2.2)
theorem szT_filter (t : T) (p : t.den → Bool) : ∀ l : List t.den, szT (.sl t) (l.filter p) ≤ szT (.sl t) l
  | [] => Nat.le_refl _
  | x :: l => by
    have ih := szT_filter t p l
    rw [List.filter_cons]
    split
    · simp only [szT_slE, szL_cons, List.length_cons] at ih ⊢; omega
    · simp only [szT_slE, szL_cons, List.length_cons] at ih ⊢; omega
theorem liveB_sz (l : List LockD) (now : Int) : szT (.sl TLock) (liveB l now) ≤ szT (.sl TLock) l := szT_filter TLock _ l
def tickB (s : SrvD) (n : Int) : SrvD := if (srvB s && (decide (s.2.2.1 ≤ n) && decide (n ≤ 9999999))) = true then (s.1, liveB s.2.1 n, n, s.2.2.2.1, s.2.2.2.2.1, s.2.2.2.2.2) else s
def drawB (s : SrvD) (n : Int) : SrvD := if (srvB s && decide (s.2.2.2.2.1.length < 20)) = true then (s.1, s.2.1, s.2.2.1, s.2.2.2.1, s.2.2.2.2.1 ++ [n], s.2.2.2.2.2) else s
theorem iDraw_ok (s : SrvD) (n : Int) (h : szT TSrv s ≤ 1099511627776) : V iDraw [srvA s, i6 n] [] = some ([], srvR (drawB s n)) := by
  rw [V_eq (fn := iDraw_m) (by kernel_rfl)]
  have e1 := icopySrv_ok s h
  have e2 := iSrvOk_ok s h
  rw [szSrv] at h
  obtain ⟨t, l, now, ver, dr, us⟩ := s
  simp only at h
  have hd := szLen (t := .int .i64) (l := dr)
  unfold drawB
  simp only [srvA, srvR] at e1 e2 ⊢
  generalize srvB (t, l, now, ver, dr, us) = t1 at e2 ⊢
  by_cases c : dr.length < 20
  · cases t1 <;> simp -implicitDefEqProofs [iDraw_m, e1, e2, c, (List.take_of_length_le (by simp) : (dr ++ [n]).take (dr.length + 1) = dr ++ [n]), (eq_true (by omega) : ((dr.length : Int) < 20) = True), (by omega : (dr.length + 1) * 8 ≤ 140737488355328)]
  · cases t1 <;> simp -implicitDefEqProofs [iDraw_m, e1, e2, c, (eq_false (by omega) : ((dr.length : Int) < 20) = False)]
theorem sDraw_ok (s : SrvD) (n : Int) (h : szT TSrv s ≤ 1099511627776) : V sDraw [srvA s, i6 n] [] = some ([], srvR (drawB s n)) := by
  rw [V_eq (fn := sDraw_m) (by kernel_rfl)]
  have e1 := sl15Copy_ok s h
  have e2 := sSrvOk_ok s h
  rw [szSrv] at h
  obtain ⟨t, l, now, ver, dr, us⟩ := s
  simp only at h
  have hd := szLen (t := .int .i64) (l := dr)
  unfold drawB
  simp only [srvA, srvR] at e1 e2 ⊢
  generalize srvB (t, l, now, ver, dr, us) = t1 at e2 ⊢
  by_cases c : dr.length < 20
  · cases t1 <;> simp -implicitDefEqProofs [sDraw_m, e1, e2, c, (List.take_of_length_le (by simp) : (dr ++ [n]).take (dr.length + 1) = dr ++ [n]), (eq_true (by omega) : ((dr.length : Int) < 20) = True), (by omega : (dr.length + 1) * 8 ≤ 140737488355328)]
  · cases t1 <;> simp -implicitDefEqProofs [sDraw_m, e1, e2, c, (eq_false (by omega) : ((dr.length : Int) < 20) = False)]
end Go.Proofs.YtfklggpopffkjaaGreatK
