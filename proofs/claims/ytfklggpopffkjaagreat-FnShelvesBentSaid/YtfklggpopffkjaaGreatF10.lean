/- What the functions come to. -/
import Derived.Test.YtfklggpopffkjaaGreatF9
set_option linter.unusedVariables false
set_option linter.unusedSimpArgs false
namespace Go.Proofs.YtfklggpopffkjaaGreatK
open Go.RowKit
abbrev resR (r : ResD) : RV := .agg [.own (.sl .str r.1), .fz (.b r.2.1), .fz (.s r.2.2.1), .fz (.i .i64 r.2.2.2.1), .own (.sl TProp r.2.2.2.2)]
abbrev lockR (x : LockD) : RV := .agg [.fz (.i .i64 x.1), .own (.sl .str x.2.1), .fz (.b x.2.2.1), .fz (.b x.2.2.2.1), .fz (.i .i64 x.2.2.2.2)]
theorem icopyRes_ok (r : ResD) (h : szT TRes r ≤ 1099511627776) : V icopyRes [resA r] [] = some ([], resR r) := by
  rw [V_eq (fn := icopyRes_m) (by kernel_rfl)]
  rw [szRes] at h
  obtain ⟨p, c, b, v, l⟩ := r
  simp only at h
  have h1 := szLen (t := .str) (l := p)
  have h2 := szLen (t := TProp) (l := l)
  have e1 := icopyPath_ok p (by omega)
  simp -implicitDefEqProofs [icopyRes_m, e1, (by omega : l.length * 48 ≤ 140737488355328)]
theorem sl10Copy_ok (r : ResD) (h : szT TRes r ≤ 1099511627776) : V sl10Copy [resA r] [] = some ([], resR r) := by
  rw [V_eq (fn := sl10Copy_m) (by kernel_rfl)]
  rw [szRes] at h
  obtain ⟨p, c, b, v, l⟩ := r
  simp only at h
  have h1 := szLen (t := .str) (l := p)
  have h2 := szLen (t := TProp) (l := l)
  simp -implicitDefEqProofs [sl10Copy_m, (by omega : p.length * 16 ≤ 140737488355328), (by omega : l.length * 48 ≤ 140737488355328)]
theorem icopyTree_ok (t : List ResD) (h : szT (.sl TRes) t ≤ 1099511627776) : V icopyTree [.d (.sl TRes t)] [] = some ([], .one (.own (.sl TRes t))) := by
  rw [V_eq (fn := icopyTree_m) (by kernel_rfl)]
  have hl := szLen (t := TRes) (l := t)
  have L := loop_each (X := V) (c := icopyTree_l0) t.length (fun i : Nat => ⟨[(8, i6 i), (7, i6 t.length), (6, .d (.sl TRes t)), (3, .h 67 0 i)], [(67, .ls TRes false (t.take i) 0 [])]⟩) (.ex 0, ⟨[(3, .h 67 0 t.length)], [(67, .ls TRes false t 0 [])]⟩) (by simp)
    (fun i hi => by
      have hz := szG (t := TRes) hi
      have e := icopyRes_ok t[i] (by omega)
      simp only [resA, resR] at e
      have hk := take_len (Nat.le_of_lt hi)
      rw [take_snoc hi]
      generalize t.take i = q at hk ⊢
      simp -implicitDefEqProofs [icopyTree_l0, hi, get_some hi, e, hk, take_all hk, (by omega : (i + 1) * 80 ≤ 140737488355328), wrap_succ hi (by omega)])
    (by rw [List.take_length]; simp -implicitDefEqProofs [icopyTree_l0])
  simp only [Int.natCast_zero, List.take_zero] at L
  simp -implicitDefEqProofs [icopyTree_m, L]
theorem sl10CopyAll_ok (t : List ResD) (h : szT (.sl TRes) t ≤ 1099511627776) : V sl10CopyAll [.d (.sl TRes t)] [] = some ([], .one (.own (.sl TRes t))) := by
  rw [V_eq (fn := sl10CopyAll_m) (by kernel_rfl)]
  have hl := szLen (t := TRes) (l := t)
  have L := loop_each (X := V) (c := sl10CopyAll_l0) t.length (fun i : Nat => ⟨[(4, i6 i), (3, .h 67 0 i), (0, .d (.sl TRes t))], [(67, .ls TRes false (t.take i) 0 [])]⟩) (.ex 0, ⟨[(3, .h 67 0 t.length)], [(67, .ls TRes false t 0 [])]⟩) (by simp)
    (fun i hi => by
      have hz := szG (t := TRes) hi
      have e := sl10Copy_ok t[i] (by omega)
      simp only [resA, resR] at e
      have hk := take_len (Nat.le_of_lt hi)
      rw [take_snoc hi]
      generalize t.take i = q at hk ⊢
      simp -implicitDefEqProofs [sl10CopyAll_l0, hi, get_some hi, e, hk, take_all hk, (by omega : (i + 1) * 80 ≤ 140737488355328), wrap_succ hi (by omega)])
    (by rw [List.take_length]; simp -implicitDefEqProofs [sl10CopyAll_l0])
  simp only [Int.natCast_zero, List.take_zero] at L
  simp -implicitDefEqProofs [sl10CopyAll_m, L]
end Go.Proofs.YtfklggpopffkjaaGreatK
