/- What the functions come to. -/
import Derived.Test.YtfklggpopffkjaaGreatF13
set_option linter.unusedVariables false
set_option linter.unusedSimpArgs false
namespace Go.Proofs.YtfklggpopffkjaaGreatK
open Go.RowKit
theorem take_all {α : Type} {q : List α} {i : Nat} (h : q.length = i) : q.take i = q := by rw [← h]; exact List.take_length
theorem take_len {α : Type} {l : List α} {i : Nat} (h : i ≤ l.length) : (l.take i).length = i := by rw [List.length_take]; omega
theorem icopyInts_ok (l : List Int) (h : l.length ≤ 1099511627776) : V icopyInts [.d (.sl (.int .i64) l)] [] = some ([], .one (.own (.sl (.int .i64) l))) := by
  rw [V_eq (fn := icopyInts_m) (by kernel_rfl)]
  simp -implicitDefEqProofs [icopyInts_m, (by omega : l.length * 8 ≤ 140737488355328)]
abbrev resR (r : ResD) : RV := .agg [.own (.sl .str r.1), .fz (.b r.2.1), .fz (.s r.2.2.1), .fz (.i .i64 r.2.2.2.1), .own (.sl TProp r.2.2.2.2)]
abbrev lockR (x : LockD) : RV := .agg [.fz (.i .i64 x.1), .own (.sl .str x.2.1), .fz (.b x.2.2.1), .fz (.b x.2.2.2.1), .fz (.i .i64 x.2.2.2.2)]
abbrev srvR (s : SrvD) : RV := .agg [.own (.sl TRes s.1), .own (.sl TLock s.2.1), .fz (.i .i64 s.2.2.1), .fz (.i .i64 s.2.2.2.1), .own (.sl (.int .i64) s.2.2.2.2.1), .own (.sl (.int .i64) s.2.2.2.2.2)]
theorem icopyRes_ok (r : ResD) (h : szT TRes r ≤ 1099511627776) : V icopyRes [resA r] [] = some ([], resR r) := by
  rw [V_eq (fn := icopyRes_m) (by kernel_rfl)]
  rw [szRes] at h
  obtain ⟨p, c, b, v, l⟩ := r
  simp only at h
  have h1 := szLen (t := .str) (l := p)
  have h2 := szLen (t := TProp) (l := l)
  have e1 := icopyPath_ok p (by omega)
  simp -implicitDefEqProofs [icopyRes_m, e1, (by omega : l.length * 48 ≤ 140737488355328)]
theorem sl10Copy_ok (r : ResD) (h : szT TRes r ≤ 1099511627776) : V sl10Copy [resA r] [] = some ([], resR r) := by
  rw [V_eq (fn := sl10Copy_m) (by kernel_rfl)]
  rw [szRes] at h
  obtain ⟨p, c, b, v, l⟩ := r
  simp only at h
  have h1 := szLen (t := .str) (l := p)
  have h2 := szLen (t := TProp) (l := l)
  simp -implicitDefEqProofs [sl10Copy_m, (by omega : p.length * 16 ≤ 140737488355328), (by omega : l.length * 48 ≤ 140737488355328)]
theorem icopyTree_ok (t : List ResD) (h : szT (.sl TRes) t ≤ 1099511627776) : V icopyTree [.d (.sl TRes t)] [] = some ([], .one (.own (.sl TRes t))) := by
  rw [V_eq (fn := icopyTree_m) (by kernel_rfl)]
  have hl := szLen (t := TRes) (l := t)
  have L := loop_each (X := V) (c := icopyTree_l0) t.length (fun i : Nat => ⟨[(8, i6 i), (7, i6 t.length), (6, .d (.sl TRes t)), (3, .h 67 0 i)], [(67, .ls TRes false (t.take i) 0 [])]⟩) (.ex 0, ⟨[(3, .h 67 0 t.length)], [(67, .ls TRes false t 0 [])]⟩) (by simp)
    (fun i hi => by
      have hz := szG (t := TRes) hi
      have e := icopyRes_ok t[i] (by omega)
      simp only [resA, resR] at e
      have hk := take_len (Nat.le_of_lt hi)
      rw [take_snoc hi]
      generalize t.take i = q at hk ⊢
      simp -implicitDefEqProofs [icopyTree_l0, hi, get_some hi, e, hk, take_all hk, (by omega : (i + 1) * 80 ≤ 140737488355328), wrap_succ hi (by omega)])
    (by rw [List.take_length]; simp -implicitDefEqProofs [icopyTree_l0])
  simp only [Int.natCast_zero, List.take_zero] at L
  simp -implicitDefEqProofs [icopyTree_m, L]
theorem sl10CopyAll_ok (t : List ResD) (h : szT (.sl TRes) t ≤ 1099511627776) : V sl10CopyAll [.d (.sl TRes t)] [] = some ([], .one (.own (.sl TRes t))) := by
  rw [V_eq (fn := sl10CopyAll_m) (by kernel_rfl)]
  have hl := szLen (t := TRes) (l := t)
  have L := loop_each (X := V) (c := sl10CopyAll_l0) t.length (fun i : Nat => ⟨[(4, i6 i), (3, .h 67 0 i), (0, .d (.sl TRes t))], [(67, .ls TRes false (t.take i) 0 [])]⟩) (.ex 0, ⟨[(3, .h 67 0 t.length)], [(67, .ls TRes false t 0 [])]⟩) (by simp)
    (fun i hi => by
      have hz := szG (t := TRes) hi
      have e := sl10Copy_ok t[i] (by omega)
      simp only [resA, resR] at e
      have hk := take_len (Nat.le_of_lt hi)
      rw [take_snoc hi]
      generalize t.take i = q at hk ⊢
      simp -implicitDefEqProofs [sl10CopyAll_l0, hi, get_some hi, e, hk, take_all hk, (by omega : (i + 1) * 80 ≤ 140737488355328), wrap_succ hi (by omega)])
    (by rw [List.take_length]; simp -implicitDefEqProofs [sl10CopyAll_l0])
  simp only [Int.natCast_zero, List.take_zero] at L
  simp -implicitDefEqProofs [sl10CopyAll_m, L]
theorem icopyLocks_ok (t : List LockD) (h : szT (.sl TLock) t ≤ 1099511627776) : V icopyLocks [.d (.sl TLock t)] [] = some ([], .one (.own (.sl TLock t))) := by
  rw [V_eq (fn := icopyLocks_m) (by kernel_rfl)]
  have hl := szLen (t := TLock) (l := t)
  have L := loop_each (X := V) (c := icopyLocks_l0) t.length (fun i : Nat => ⟨[(8, i6 i), (7, i6 t.length), (6, .d (.sl TLock t)), (3, .h 67 0 i)], [(67, .ls TLock false (t.take i) 0 [])]⟩) (.ex 0, ⟨[(3, .h 67 0 t.length)], [(67, .ls TLock false t 0 [])]⟩) (by simp)
    (fun i hi => by
      have hz := szG (t := TLock) hi
      have hz' := szLock t[i]
      have hy := szLen (t := .str) (l := t[i].2.1)
      have e := icopyPath_ok t[i].2.1 (by omega)
      have hk := take_len (Nat.le_of_lt hi)
      rw [take_snoc hi]
      generalize t.take i = q at hk ⊢
      simp -implicitDefEqProofs [icopyLocks_l0, hi, get_some hi, e, hk, take_all hk, (by omega : (i + 1) * 48 ≤ 140737488355328), wrap_succ hi (by omega)])
    (by rw [List.take_length]; simp -implicitDefEqProofs [icopyLocks_l0])
  simp only [Int.natCast_zero, List.take_zero] at L
  simp -implicitDefEqProofs [icopyLocks_m, L]
theorem sl13Copy_ok (t : List LockD) (h : szT (.sl TLock) t ≤ 1099511627776) : V sl13Copy [.d (.sl TLock t)] [] = some ([], .one (.own (.sl TLock t))) := by
  rw [V_eq (fn := sl13Copy_m) (by kernel_rfl)]
  have hl := szLen (t := TLock) (l := t)
  have L := loop_each (X := V) (c := sl13Copy_l0) t.length (fun i : Nat => ⟨[(4, i6 i), (3, .h 67 0 i), (0, .d (.sl TLock t))], [(67, .ls TLock false (t.take i) 0 [])]⟩) (.ex 0, ⟨[(3, .h 67 0 t.length)], [(67, .ls TLock false t 0 [])]⟩) (by simp)
    (fun i hi => by
      have hz := szG (t := TLock) hi
      have hz' := szLock t[i]
      have hy := szLen (t := .str) (l := t[i].2.1)
      have hk := take_len (Nat.le_of_lt hi)
      rw [take_snoc hi]
      generalize t.take i = q at hk ⊢
      simp -implicitDefEqProofs [sl13Copy_l0, hi, get_some hi, hk, take_all hk, (by omega : t[i].2.1.length * 16 ≤ 140737488355328), (by omega : (i + 1) * 48 ≤ 140737488355328), wrap_succ hi (by omega)])
    (by rw [List.take_length]; simp -implicitDefEqProofs [sl13Copy_l0])
  simp only [Int.natCast_zero, List.take_zero] at L
  simp -implicitDefEqProofs [sl13Copy_m, L]
set_option maxRecDepth 100000 in
theorem icopySrv_ok (s : SrvD) (h : szT TSrv s ≤ 1099511627776) : V icopySrv [srvA s] [] = some ([], srvR s) := by
  rw [V_eq (fn := icopySrv_m) (by kernel_rfl)]
  rw [szSrv] at h
  obtain ⟨t, l, now, ver, dr, us⟩ := s
  simp only at h
  have hd := szLen (t := .int .i64) (l := dr)
  have hu := szLen (t := .int .i64) (l := us)
  have e1 := icopyTree_ok t (by omega)
  have e2 := icopyLocks_ok l (by omega)
  have e3 := icopyInts_ok dr (by omega)
  have e4 := icopyInts_ok us (by omega)
  simp -implicitDefEqProofs [icopySrv_m, e1, e2, e3, e4]
set_option maxRecDepth 100000 in
theorem sl15Copy_ok (s : SrvD) (h : szT TSrv s ≤ 1099511627776) : V sl15Copy [srvA s] [] = some ([], srvR s) := by
  rw [V_eq (fn := sl15Copy_m) (by kernel_rfl)]
  rw [szSrv] at h
  obtain ⟨t, l, now, ver, dr, us⟩ := s
  simp only at h
  have hd := szLen (t := .int .i64) (l := dr)
  have hu := szLen (t := .int .i64) (l := us)
  have e1 := sl10CopyAll_ok t (by omega)
  have e2 := sl13Copy_ok l (by omega)
  simp -implicitDefEqProofs [sl15Copy_m, e1, e2, (by omega : dr.length * 8 ≤ 140737488355328), (by omega : us.length * 8 ≤ 140737488355328)]
theorem iLiveLocks_1_ok (x : LockD) (now : Int) : V iLiveLocks_1 [lockA x, .rp none [.i .i64 now]] [] = rB (decide (now < x.2.2.2.2)) := by
  rw [V_eq (fn := iLiveLocks_1_m) (by kernel_rfl)]
  simp -implicitDefEqProofs [iLiveLocks_1_m]
theorem ikeepLocks_one (l : List LockD) (h : szT (.sl TLock) l ≤ 1099511627776) (f : Nat) (cs : List D) (p : LockD → Bool) (hp : ∀ x ∈ l, V f [lockA x, .rp none cs] [] = rB (p x)) : V ikeepLocks [.d (.sl TLock l), .clo f [.rp none cs]] [] = some ([], .one (.own (.sl TLock (l.filter p)))) := by
  rw [V_eq (fn := ikeepLocks_m) (by kernel_rfl)]
  have hl := szLen (t := TLock) (l := l)
  have e1 := icopyLocks_ok l h
  have L := loop_each (X := V) (c := ikeepLocks_l0) l.length (fun i : Nat => ⟨[(11, i6 i), (10, i6 l.length), (9, .h 10064 0 l.length), (5, .h 69 0 ((l.take i).filter p).length), (1, .clo f [.rp none cs])], [(10064, .ls TLock false l i []), (69, .ls TLock false ((l.take i).filter p) 0 [])]⟩) (.ex 0, ⟨[(5, .h 69 0 (l.filter p).length)], [(69, .ls TLock false (l.filter p) 0 [])]⟩) (by simp)
    (fun i hi => by
      have e := hp l[i] (List.getElem_mem hi)
      simp only [lockA] at e
      have hk : ((l.take i).filter p).length ≤ i := Nat.le_trans (List.length_filter_le _ _) (Nat.le_of_eq (take_len (Nat.le_of_lt hi)))
      rw [take_snoc hi, List.filter_append]
      generalize (l.take i).filter p = q at hk ⊢
      cases c : p l[i] <;> rw [c] at e <;> simp -implicitDefEqProofs [ikeepLocks_l0, hi, get_some hi, e, c, (by omega : (q.length + 1) * 48 ≤ 140737488355328), wrap_succ hi (by omega)])
    (by rw [List.take_length]; simp -implicitDefEqProofs [ikeepLocks_l0])
  simp only [Int.natCast_zero, List.take_zero, List.filter_nil, List.length_nil] at L
  simp -implicitDefEqProofs [ikeepLocks_m, e1, L]
def liveB (l : List LockD) (now : Int) : List LockD := l.filter fun x => decide (now < x.2.2.2.2)
theorem szT_filter (t : T) (p : t.den → Bool) : ∀ l : List t.den, szT (.sl t) (l.filter p) ≤ szT (.sl t) l
  | [] => Nat.le_refl _
  | x :: l => by
    have ih := szT_filter t p l
    rw [List.filter_cons]
    split
    · simp only [szT_slE, szL_cons, List.length_cons] at ih ⊢; omega
    · simp only [szT_slE, szL_cons, List.length_cons] at ih ⊢; omega
theorem liveB_sz (l : List LockD) (now : Int) : szT (.sl TLock) (liveB l now) ≤ szT (.sl TLock) l := szT_filter TLock _ l
theorem iLiveLocks_ok (l : List LockD) (now : Int) (h : szT (.sl TLock) l ≤ 1099511627776) : V iLiveLocks [.d (.sl TLock l), i6 now] [] = some ([], .one (.own (.sl TLock (liveB l now)))) := by
  rw [V_eq (fn := iLiveLocks_m) (by kernel_rfl)]
  have e := ikeepLocks_one l h iLiveLocks_1 [.i .i64 now] (fun x => decide (now < x.2.2.2.2)) (fun x _ => iLiveLocks_1_ok x now)
  simp -implicitDefEqProofs [iLiveLocks_m, e, liveB]
theorem sLiveLocks_ok (l : List LockD) (now : Int) (h : szT (.sl TLock) l ≤ 1099511627776) : V sLiveLocks [.d (.sl TLock l), i6 now] [] = some ([], .one (.own (.sl TLock (liveB l now)))) := by
  rw [V_eq (fn := sLiveLocks_m) (by kernel_rfl)]
  have hl := szLen (t := TLock) (l := l)
  have e1 := sl13Copy_ok l h
  have L := loop_rec (X := V) (c := sLiveLocks_l0) (α := Nat × Nat) (fun a : Nat × Nat => ⟨[(7, i6 a.1), (6, .h 11064 0 l.length), (5, .h 69 0 (liveB (l.take a.1) now).length), (1, i6 now)], [(11064, .ls TLock false l a.2 []), (69, .ls TLock false (liveB (l.take a.1) now) 0 [])]⟩) (fun _ => some (.ex 0, ⟨[(5, .h 69 0 (liveB l now).length)], [(69, .ls TLock false (liveB l now) 0 [])]⟩)) (fun a => l.length - a.1) (fun a => a.2 ≤ a.1 ∧ a.1 ≤ l.length)
    (fun a ha => by
      obtain ⟨i, k⟩ := a
      simp only at ha ⊢
      rcases Nat.lt_or_ge i l.length with hi | hi
      · have hk : (liveB (l.take i) now).length ≤ i := Nat.le_trans (List.length_filter_le _ _) (Nat.le_of_eq (take_len (Nat.le_of_lt hi)))
        have hs : liveB (l.take (i + 1)) now = liveB (l.take i) now ++ if now < l[i].2.2.2.2 then [l[i]] else [] := by
          unfold liveB; rw [take_snoc hi, List.filter_append]; congr 1
          by_cases c : now < l[i].2.2.2.2 <;> simp [c]
        by_cases c : now < l[i].2.2.2.2
        · refine .inl ⟨(i + 1, i + 1), ?_, ⟨Nat.le_refl _, hi⟩, by simp only; omega, by simp⟩
          simp only [hs, if_pos c]
          generalize liveB (l.take i) now = q at hk ⊢
          simp -implicitDefEqProofs [sLiveLocks_l0, hi, get_some hi, c, ha.1, (eq_false (by omega) : (i < k) = False), (by omega : (q.length + 1) * 48 ≤ 140737488355328), wrap_succ hi (by omega)]
        · refine .inl ⟨(i + 1, k), ?_, ⟨by simp only; omega, hi⟩, by simp only; omega, by simp⟩
          simp only [hs, if_neg c, List.append_nil]
          generalize liveB (l.take i) now = q at hk ⊢
          simp -implicitDefEqProofs [sLiveLocks_l0, hi, get_some hi, c, wrap_succ hi (by omega)]
      · obtain rfl : i = l.length := by omega
        refine .inr ⟨(.ex 0, ⟨[(5, .h 69 0 (liveB l now).length)], [(69, .ls TLock false (liveB l now) 0 [])]⟩), by simp, ?_, by simp⟩
        rw [List.take_length]; simp -implicitDefEqProofs [sLiveLocks_l0]) (0, 0) ⟨Nat.le_refl _, Nat.zero_le _⟩
  have hn : liveB [] now = [] := rfl
  simp only [Int.natCast_zero, List.take_zero, hn, List.length_nil] at L
  simp -implicitDefEqProofs [sLiveLocks_m, e1, L]
def tickB (s : SrvD) (n : Int) : SrvD := if (srvB s && (decide (s.2.2.1 ≤ n) && decide (n ≤ 9999999))) = true then (s.1, liveB s.2.1 n, n, s.2.2.2.1, s.2.2.2.2.1, s.2.2.2.2.2) else s
def drawB (s : SrvD) (n : Int) : SrvD := if (srvB s && decide (s.2.2.2.2.1.length < 20)) = true then (s.1, s.2.1, s.2.2.1, s.2.2.2.1, s.2.2.2.2.1 ++ [n], s.2.2.2.2.2) else s
theorem iTick_ok (s : SrvD) (n : Int) (h : szT TSrv s ≤ 1099511627776) : V iTick [srvA s, i6 n] [] = some ([], srvR (tickB s n)) := by
  rw [V_eq (fn := iTick_m) (by kernel_rfl)]
  have e1 := icopySrv_ok s h
  have e2 := iSrvOk_ok s h
  rw [szSrv] at h
  obtain ⟨t, l, now, ver, dr, us⟩ := s
  simp only at h
  have e3 := iin_ok n now 9999999
  have e4 := iLiveLocks_ok l n (by omega)
  unfold tickB
  simp only [srvA, srvR] at e1 e2 ⊢
  generalize srvB (t, l, now, ver, dr, us) = t1 at e2 ⊢
  generalize (decide (now ≤ n) && decide (n ≤ 9999999)) = t2 at e3 ⊢
  cases t1 <;> cases t2 <;> simp -implicitDefEqProofs [iTick_m, e1, e2, e3, e4]
theorem sTick_ok (s : SrvD) (n : Int) (h : szT TSrv s ≤ 1099511627776) : V sTick [srvA s, i6 n] [] = some ([], srvR (tickB s n)) := by
  rw [V_eq (fn := sTick_m) (by kernel_rfl)]
  have e1 := sl15Copy_ok s h
  have e2 := sSrvOk_ok s h
  rw [szSrv] at h
  obtain ⟨t, l, now, ver, dr, us⟩ := s
  simp only at h
  have e3 := sl1In_ok n now 9999999
  have e4 := sLiveLocks_ok l n (by omega)
  unfold tickB
  simp only [srvA, srvR] at e1 e2 ⊢
  generalize srvB (t, l, now, ver, dr, us) = t1 at e2 ⊢
  generalize (decide (now ≤ n) && decide (n ≤ 9999999)) = t2 at e3 ⊢
  cases t1 <;> cases t2 <;> simp -implicitDefEqProofs [sTick_m, e1, e2, e3, e4]
end Go.Proofs.YtfklggpopffkjaaGreatK
