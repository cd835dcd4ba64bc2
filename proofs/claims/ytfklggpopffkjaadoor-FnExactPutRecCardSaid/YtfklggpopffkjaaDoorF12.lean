/- What the functions come to. -/
import Derived.Test.YtfklggpopffkjaaDoorF11
set_option linter.unusedVariables false
set_option linter.unusedSimpArgs false
namespace Go.Proofs.YtfklggpopffkjaaDoorK
open Go.RowKit
abbrev byR (l : List UInt8) : Option (List (Option Ob) × RV) := some ([], .one (.own (.sl .u8 l)))
abbrev restB (h e : List UInt8) : List UInt8 := [32, 72, 84, 84, 80, 47, 49, 46, 49] ++ ([13, 10] ++ (h ++ (e ++ [13, 10])))
abbrev putText (r : ReqD) (e : List UInt8) : List UInt8 := r.1 ++ (([32] : List UInt8) ++ (r.2.1 ++ restB (headTextB r.2.2.1) e))
def putB (r : ReqD) (e b : List UInt8) : List UInt8 := if reqB r = true ∧ (putText r e).length ≤ 400 then putText r e ++ b else []
theorem putB_len (r : ReqD) (e b : List UInt8) : (putB r e b).length ≤ 400 + b.length := by
  unfold putB; split
  · rename_i h; rw [List.length_append]; have := h.2; omega
  · simp
theorem sl3HeadsText_ok (l : List HeadD) (hl : szT (.sl THead) l ≤ 1099511627776) : V sl3HeadsText [.d (.sl THead l)] [] = rS (headTextB l) := by
  rw [V_eq (fn := sl3HeadsText_m) (by kernel_rfl)]
  have hn := szLen (t := THead) (l := l)
  have L := loop_each (X := V) (c := sl3HeadsText_l0) l.length (fun i : Nat => ⟨[(4, i6 i), (3, .d (.s (headTextB (l.take i)))), (0, .d (.sl THead l))], []⟩) (.ex 0, ⟨[(3, .d (.s (headTextB l)))], []⟩) (by simp)
    (fun i hi => by
      have hz := szG (t := THead) hi
      have hy : szT THead l[i] = l[i].1.length + l[i].2.length := rfl
      have hk := headTextB_len (l.take i)
      have hk2 := szTake (t := THead) (l := l) (i := i)
      rw [headTake l i hi]
      generalize headTextB (l.take i) = q at hk ⊢
      simp -implicitDefEqProofs [sl3HeadsText_l0, hi, get_some hi, wrap_succ hi (by omega)]
      try omega)
    (by rw [List.take_length]; simp -implicitDefEqProofs [sl3HeadsText_l0])
  simp only [Int.natCast_zero, List.take_zero, headTextB, List.flatMap_nil] at L
  unfold headTextB
  simp -implicitDefEqProofs [sl3HeadsText_m, L]
def lenTextB (s : List UInt8) : List UInt8 := [99, 111, 110, 116, 101, 110, 116, 45, 108, 101, 110, 103, 116, 104, 58, 32] ++ (numB s.length ++ [13, 10])
theorem ilengthText_ok (s : List UInt8) (h : s.length ≤ 1099511627776) : V ilengthText [.d (.s s)] [] = rS (lenTextB s) := by
  rw [V_eq (fn := ilengthText_m) (by kernel_rfl)]
  have e := iNumText_ok s.length (by omega)
  have hn : (numB s.length).length ≤ 20 := decB_len20 s.length (by omega)
  unfold lenTextB
  generalize numB s.length = q at e hn ⊢
  simp -implicitDefEqProofs [ilengthText_m, e]
  omega
theorem iputReq_ok (r : ReqD) (e b : List UInt8) (h : szR r ≤ 1099511627776) (he : e.length ≤ 1099511627776) (hb : b.length ≤ 1099511627776) : V iputReq [reqA r, .d (.s e), .d (.sl .u8 b)] [] = byR (putB r e b) := by
  rw [V_eq (fn := iputReq_m) (by kernel_rfl)]
  have e1 := iReqOk_ok r h
  obtain ⟨m, p, l, bd⟩ := r
  simp only [szR] at h
  have e2 := iheadText_ok l (by omega)
  have hl := headTextB_len l
  unfold putB putText
  simp only
  generalize reqB (m, p, l, bd) = t1 at e1 ⊢
  generalize headTextB l = q at e2 hl ⊢
  cases t1
  · simp -implicitDefEqProofs [iputReq_m, e1, e2]
    omega
  · by_cases hL : m.length + p.length + q.length + e.length ≤ 386
    · simp -implicitDefEqProofs [iputReq_m, e1, e2]
      refine ⟨by omega, by omega, by omega, by omega, by omega, by omega, by omega, ?_⟩
      rw [if_neg (by omega), if_pos (by omega), if_pos (by omega)]
      simp
      rw [List.take_of_length_le (by simp), List.take_of_length_le (by simp)]
      simp
    · simp -implicitDefEqProofs [iputReq_m, e1, e2]
      refine ⟨by omega, by omega, by omega, by omega, by omega, by omega, by omega, ?_⟩
      rw [if_pos (by omega), if_neg (by omega)]
theorem sl3Put_ok (r : ReqD) (e b : List UInt8) (h : szR r ≤ 1099511627776) (he : e.length ≤ 1099511627776) (hb : b.length ≤ 1099511627776) : V sl3Put [reqA r, .d (.s e), .d (.s b)] [] = byR (putB r e b) := by
  rw [V_eq (fn := sl3Put_m) (by kernel_rfl)]
  have e1 := sReqOk_ok r h
  obtain ⟨m, p, l, bd⟩ := r
  simp only [szR] at h
  have e2 := sl3HeadsText_ok l (by omega)
  have hl := headTextB_len l
  unfold putB putText
  simp only
  generalize reqB (m, p, l, bd) = t1 at e1 ⊢
  generalize headTextB l = q at e2 hl ⊢
  cases t1
  · simp -implicitDefEqProofs [sl3Put_m, e1, e2]
    omega
  · by_cases hL : m.length + p.length + q.length + e.length ≤ 386
    · simp -implicitDefEqProofs [sl3Put_m, e1, e2]
      refine ⟨by omega, by omega, by omega, by omega, by omega, by omega, by omega, ?_⟩
      rw [if_neg (by omega), if_pos (by omega), if_pos (by omega)]
      simp
      rw [List.take_of_length_le (by simp)]
    · simp -implicitDefEqProofs [sl3Put_m, e1, e2]
      refine ⟨by omega, by omega, by omega, by omega, by omega, by omega, by omega, ?_⟩
      rw [if_pos (by omega), if_neg (by omega)]
theorem icopyBytes_ok (l : List UInt8) (h : l.length ≤ 1099511627776) : V icopyBytes [.d (.sl .u8 l)] [] = byR l := by
  rw [V_eq (fn := icopyBytes_m) (by kernel_rfl)]
  simp -implicitDefEqProofs [icopyBytes_m]
  omega
def extraB (b : List UInt8) : List UInt8 := if b = [] then [] else lenTextB b
def putReqB (r : ReqD) : List UInt8 := putB r (extraB r.2.2.2) r.2.2.2
theorem lenTextB_len (b : List UInt8) (h : b.length ≤ 1099511627776) : (lenTextB b).length ≤ 1099511627776 := by
  have := decB_len20 b.length (by omega)
  unfold lenTextB numB
  simp only [Int.toNat_natCast, List.length_append, List.length_cons, List.length_nil]
  omega
set_option maxRecDepth 100000 in
theorem iPutReq_ok (r : ReqD) (h : szR r ≤ 1099511627776) : V iPutReq [reqA r] [] = byR (putReqB r) := by
  rw [V_eq (fn := iPutReq_m) (by kernel_rfl)]
  obtain ⟨m, p, l, b⟩ := r
  have hb : b.length ≤ 1099511627776 := by simp only [szR] at h; omega
  have e0 := ilengthText_ok b hb
  unfold putReqB extraB
  simp only
  by_cases hz : b = []
  · subst hz
    have e1 := iputReq_ok (m, p, l, []) [] [] h (by simp) (by simp)
    simp only [reqA] at e1
    simp -implicitDefEqProofs [iPutReq_m, e1]
  · have e1 := iputReq_ok (m, p, l, b) (lenTextB b) b h (lenTextB_len b hb) hb
    simp only [reqA] at e1
    simp -implicitDefEqProofs [iPutReq_m, e0, e1, hz]
set_option maxRecDepth 100000 in
theorem sPutReq_ok (r : ReqD) (h : szR r ≤ 1099511627776) : V sPutReq [reqA r] [] = byR (putReqB r) := by
  rw [V_eq (fn := sPutReq_m) (by kernel_rfl)]
  obtain ⟨m, p, l, b⟩ := r
  have hb : b.length ≤ 1099511627776 := by simp only [szR] at h; omega
  have e0 := sNumText_ok b.length (by omega)
  unfold putReqB extraB
  simp only
  by_cases hz : b = []
  · subst hz
    have e1 := sl3Put_ok (m, p, l, []) [] [] h (by simp) (by simp)
    simp only [reqA] at e1
    simp -implicitDefEqProofs [sPutReq_m, e1]
  · have e1 := sl3Put_ok (m, p, l, b) (lenTextB b) b h (lenTextB_len b hb) hb
    simp only [reqA] at e1
    have hn : (numB b.length).length ≤ 20 := decB_len20 b.length (by omega)
    unfold lenTextB at e1 ⊢
    rw [if_neg hz]
    generalize numB b.length = q at e0 e1 hn ⊢
    simp only [List.cons_append, List.nil_append] at e1
    simp -implicitDefEqProofs [sPutReq_m, e0, e1, hz]
    omega
abbrev RecD := Int × Int × ReqD
abbrev recA (r : RecD) : AV := .agg [i6 r.1, i6 r.2.1, .d (.s r.2.2.1), .d (.s r.2.2.2.1), .d (.sl THead r.2.2.2.2.1), .d (.s r.2.2.2.2.2)]
def recText (r : RecD) (n : Nat) : List UInt8 :=
  [UInt8.ofNat ((IntKind.i64.wrap ((n : Int) + 5)).fdiv (2 ^ min 8 IntKind.i64.bits) % 256).toNat, UInt8.ofNat (IntKind.i64.wrap ((n : Int) + 5) % 256).toNat,
   UInt8.ofNat (r.1.fdiv (2 ^ min 16 IntKind.i64.bits) % 256).toNat, UInt8.ofNat (r.1.fdiv (2 ^ min 8 IntKind.i64.bits) % 256).toNat, UInt8.ofNat (r.1 % 256).toNat,
   UInt8.ofNat (r.2.1.fdiv (2 ^ min 8 IntKind.i64.bits) % 256).toNat, UInt8.ofNat (r.2.1 % 256).toNat]
def recB (r : RecD) : List UInt8 :=
  if (decide (0 ≤ r.1) && decide (r.1 ≤ 9999999)) && (decide (0 ≤ r.2.1) && decide (r.2.1 ≤ 9999)) && !decide (putReqB r.2.2 = []) then recText r (putReqB r.2.2).length ++ putReqB r.2.2 else []
theorem iputRec_ok (r : RecD) (h : szR r.2.2 ≤ 1099511627776) : V iputRec [recA r] [] = byR (recB r) := by
  rw [V_eq (fn := iputRec_m) (by kernel_rfl)]
  obtain ⟨n, k, q⟩ := r
  have e0 := iPutReq_ok q h
  have e1 := iin_ok n 0 9999999
  have e2 := iin_ok k 0 9999
  have ht : (putReqB q).length ≤ 1099511629000 := by
    have := putB_len q (extraB q.2.2.2) q.2.2.2
    unfold putReqB; simp only [szR] at h; omega
  unfold recB recText
  simp only
  generalize (decide (0 ≤ n) && decide (n ≤ 9999999)) = t1 at e1 ⊢
  generalize (decide (0 ≤ k) && decide (k ≤ 9999)) = t2 at e2 ⊢
  obtain ⟨m, p, l, b⟩ := q
  simp only [reqA] at e0
  generalize putReqB (m, p, l, b) = t at e0 ht ⊢
  cases t1
  · simp -implicitDefEqProofs [iputRec_m, e0, e1]
  cases t2
  · simp -implicitDefEqProofs [iputRec_m, e0, e1, e2]
  by_cases hz : t = []
  · subst hz
    simp -implicitDefEqProofs [iputRec_m, e0, e1, e2]
  · have hp : 0 < t.length := List.length_pos_iff.2 hz
    simp -implicitDefEqProofs [iputRec_m, e0, e1, e2, hz]
    refine ⟨by omega, ?_⟩
    rw [List.take_of_length_le (by simp; omega)]
theorem recB_len (r : RecD) (h : szR r.2.2 ≤ 1099511627776) : (recB r).length ≤ 1099511629000 := by
  have := putB_len r.2.2 (extraB r.2.2.2.2.2) r.2.2.2.2.2
  unfold recB; split
  · rw [List.length_append]; unfold putReqB; simp only [szR] at h; simp only [recText, List.length_cons, List.length_nil]; omega
  · simp
theorem iPutRec_ok (a : List UInt8) (r : RecD) (ha : a.length ≤ 1099511627776) (h : szR r.2.2 ≤ 1099511627776) : V iPutRec [.d (.sl .u8 a), recA r] [] = byR (a ++ recB r) := by
  rw [V_eq (fn := iPutRec_m) (by kernel_rfl)]
  have e0 := icopyBytes_ok a ha
  have e1 := iputRec_ok r h
  have hn := recB_len r h
  generalize recB r = t at e1 hn ⊢
  obtain ⟨n, k, m, p, l, b⟩ := r
  simp only [recA] at e1
  simp -implicitDefEqProofs [iPutRec_m, e0, e1]
  refine ⟨by omega, ?_⟩
  rw [List.take_of_length_le (by simp)]
theorem sPutRec_ok (a : List UInt8) (r : RecD) (ha : a.length ≤ 1099511627776) (h : szR r.2.2 ≤ 1099511627776) : V sPutRec [.d (.sl .u8 a), recA r] [] = byR (a ++ recB r) := by
  rw [V_eq (fn := sPutRec_m) (by kernel_rfl)]
  obtain ⟨n, k, q⟩ := r
  have e0 := sPutReq_ok q h
  have e1 := sl1In_ok n 0 9999999
  have e2 := sl1In_ok k 0 9999
  have ht : (putReqB q).length ≤ 1099511629000 := by
    have := putB_len q (extraB q.2.2.2) q.2.2.2
    unfold putReqB; simp only [szR] at h; omega
  unfold recB recText
  simp only
  generalize (decide (0 ≤ n) && decide (n ≤ 9999999)) = t1 at e1 ⊢
  generalize (decide (0 ≤ k) && decide (k ≤ 9999)) = t2 at e2 ⊢
  obtain ⟨m, p, l, b⟩ := q
  simp only [reqA] at e0
  generalize putReqB (m, p, l, b) = t at e0 ht ⊢
  cases t1
  · simp -implicitDefEqProofs [sPutRec_m, e0, e1]
    omega
  cases t2
  · simp -implicitDefEqProofs [sPutRec_m, e0, e1, e2]
    omega
  by_cases hz : t = []
  · subst hz
    simp -implicitDefEqProofs [sPutRec_m, e0, e1, e2]
    omega
  · have hp : 0 < t.length := List.length_pos_iff.2 hz
    simp -implicitDefEqProofs [sPutRec_m, e0, e1, e2, hz]
    refine ⟨by omega, by omega, by omega, ?_⟩
    rw [List.take_of_length_le (by simp), List.take_of_length_le (by simp)]
    simp
end Go.Proofs.YtfklggpopffkjaaDoorK
