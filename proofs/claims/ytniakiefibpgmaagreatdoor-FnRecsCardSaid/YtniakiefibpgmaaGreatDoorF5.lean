/- What the functions come to. -/
import Derived.Test.YtniakiefibpgmaaGreatDoorF4
set_option linter.unusedVariables false
set_option linter.unusedSimpArgs false
namespace Go.Proofs.YtniakiefibpgmaaGreatDoorK
open Go.RowKit
abbrev byR (l : List UInt8) : Option (List (Option Ob) × RV) := some ([], .one (.own (.sl .u8 l)))
abbrev restB (h e : List UInt8) : List UInt8 := [32, 72, 84, 84, 80, 47, 49, 46, 49] ++ ([13, 10] ++ (h ++ (e ++ [13, 10])))
abbrev putText (r : ReqD) (e : List UInt8) : List UInt8 := r.1 ++ (([32] : List UInt8) ++ (r.2.1 ++ restB (headTextB r.2.2.1) e))
def putB (r : ReqD) (e b : List UInt8) : List UInt8 := if reqB r = true ∧ (putText r e).length ≤ 400 then putText r e ++ b else []
theorem putB_len (r : ReqD) (e b : List UInt8) : (putB r e b).length ≤ 400 + b.length := by
  unfold putB; split
  · rename_i h; rw [List.length_append]; have := h.2; omega
  · simp
theorem sl3HeadsText_ok (l : List HeadD) (hl : szT (.sl THead) l ≤ 1099511627776) : V sl3HeadsText [.d (.sl THead l)] [] = rS (headTextB l) := by
  rw [V_eq (fn := sl3HeadsText_m) (by kernel_rfl)]
  have hn := szLen (t := THead) (l := l)
  have L := loop_each (X := V) (c := sl3HeadsText_l0) l.length (fun i : Nat => ⟨[(4, i6 i), (3, .d (.s (headTextB (l.take i)))), (0, .d (.sl THead l))], []⟩) (.ex 0, ⟨[(3, .d (.s (headTextB l)))], []⟩) (by simp)
    (fun i hi => by
      have hz := szG (t := THead) hi
      have hy : szT THead l[i] = l[i].1.length + l[i].2.length := rfl
      have hk := headTextB_len (l.take i)
      have hk2 := szTake (t := THead) (l := l) (i := i)
      rw [headTake l i hi]
      generalize headTextB (l.take i) = q at hk ⊢
      simp -implicitDefEqProofs [sl3HeadsText_l0, hi, get_some hi, wrap_succ hi (by omega)]
      try omega)
    (by rw [List.take_length]; simp -implicitDefEqProofs [sl3HeadsText_l0])
  simp only [Int.natCast_zero, List.take_zero, headTextB, List.flatMap_nil] at L
  unfold headTextB
  simp -implicitDefEqProofs [sl3HeadsText_m, L]
def lenTextB (s : List UInt8) : List UInt8 := [99, 111, 110, 116, 101, 110, 116, 45, 108, 101, 110, 103, 116, 104, 58, 32] ++ (numB s.length ++ [13, 10])
theorem ilengthText_ok (s : List UInt8) (h : s.length ≤ 1099511627776) : V ilengthText [.d (.s s)] [] = rS (lenTextB s) := by
  rw [V_eq (fn := ilengthText_m) (by kernel_rfl)]
  have e := iNumText_ok s.length (by omega)
  have hn : (numB s.length).length ≤ 20 := decB_len20 s.length (by omega)
  unfold lenTextB
  generalize numB s.length = q at e hn ⊢
  simp -implicitDefEqProofs [ilengthText_m, e]
  omega
theorem iputReq_ok (r : ReqD) (e b : List UInt8) (h : szR r ≤ 1099511627776) (he : e.length ≤ 1099511627776) (hb : b.length ≤ 1099511627776) : V iputReq [reqA r, .d (.s e), .d (.sl .u8 b)] [] = byR (putB r e b) := by
  rw [V_eq (fn := iputReq_m) (by kernel_rfl)]
  have e1 := iReqOk_ok r h
  obtain ⟨m, p, l, bd⟩ := r
  simp only [szR] at h
  have e2 := iheadText_ok l (by omega)
  have hl := headTextB_len l
  unfold putB putText
  simp only
  generalize reqB (m, p, l, bd) = t1 at e1 ⊢
  generalize headTextB l = q at e2 hl ⊢
  cases t1
  · simp -implicitDefEqProofs [iputReq_m, e1, e2]
    omega
  · by_cases hL : m.length + p.length + q.length + e.length ≤ 386
    · simp -implicitDefEqProofs [iputReq_m, e1, e2]
      refine ⟨by omega, by omega, by omega, by omega, by omega, by omega, by omega, ?_⟩
      rw [if_neg (by omega), if_pos (by omega), if_pos (by omega)]
      simp
      rw [List.take_of_length_le (by simp), List.take_of_length_le (by simp)]
      simp
    · simp -implicitDefEqProofs [iputReq_m, e1, e2]
      refine ⟨by omega, by omega, by omega, by omega, by omega, by omega, by omega, ?_⟩
      rw [if_pos (by omega), if_neg (by omega)]
theorem sl3Put_ok (r : ReqD) (e b : List UInt8) (h : szR r ≤ 1099511627776) (he : e.length ≤ 1099511627776) (hb : b.length ≤ 1099511627776) : V sl3Put [reqA r, .d (.s e), .d (.s b)] [] = byR (putB r e b) := by
  rw [V_eq (fn := sl3Put_m) (by kernel_rfl)]
  have e1 := sReqOk_ok r h
  obtain ⟨m, p, l, bd⟩ := r
  simp only [szR] at h
  have e2 := sl3HeadsText_ok l (by omega)
  have hl := headTextB_len l
  unfold putB putText
  simp only
  generalize reqB (m, p, l, bd) = t1 at e1 ⊢
  generalize headTextB l = q at e2 hl ⊢
  cases t1
  · simp -implicitDefEqProofs [sl3Put_m, e1, e2]
    omega
  · by_cases hL : m.length + p.length + q.length + e.length ≤ 386
    · simp -implicitDefEqProofs [sl3Put_m, e1, e2]
      refine ⟨by omega, by omega, by omega, by omega, by omega, by omega, by omega, ?_⟩
      rw [if_neg (by omega), if_pos (by omega), if_pos (by omega)]
      simp
      rw [List.take_of_length_le (by simp)]
    · simp -implicitDefEqProofs [sl3Put_m, e1, e2]
      refine ⟨by omega, by omega, by omega, by omega, by omega, by omega, by omega, ?_⟩
      rw [if_pos (by omega), if_neg (by omega)]
theorem icopyBytes_ok (l : List UInt8) (h : l.length ≤ 1099511627776) : V icopyBytes [.d (.sl .u8 l)] [] = byR l := by
  rw [V_eq (fn := icopyBytes_m) (by kernel_rfl)]
  simp -implicitDefEqProofs [icopyBytes_m]
  omega
def extraB (b : List UInt8) : List UInt8 := if b = [] then [] else lenTextB b
def putReqB (r : ReqD) : List UInt8 := putB r (extraB r.2.2.2) r.2.2.2
theorem lenTextB_len (b : List UInt8) (h : b.length ≤ 1099511627776) : (lenTextB b).length ≤ 1099511627776 := by
  have := decB_len20 b.length (by omega)
  unfold lenTextB numB
  simp only [Int.toNat_natCast, List.length_append, List.length_cons, List.length_nil]
  omega
set_option maxRecDepth 100000 in
theorem iPutReq_ok (r : ReqD) (h : szR r ≤ 1099511627776) : V iPutReq [reqA r] [] = byR (putReqB r) := by
  rw [V_eq (fn := iPutReq_m) (by kernel_rfl)]
  obtain ⟨m, p, l, b⟩ := r
  have hb : b.length ≤ 1099511627776 := by simp only [szR] at h; omega
  have e0 := ilengthText_ok b hb
  unfold putReqB extraB
  simp only
  by_cases hz : b = []
  · subst hz
    have e1 := iputReq_ok (m, p, l, []) [] [] h (by simp) (by simp)
    simp only [reqA] at e1
    simp -implicitDefEqProofs [iPutReq_m, e1]
  · have e1 := iputReq_ok (m, p, l, b) (lenTextB b) b h (lenTextB_len b hb) hb
    simp only [reqA] at e1
    simp -implicitDefEqProofs [iPutReq_m, e0, e1, hz]
set_option maxRecDepth 100000 in
theorem sPutReq_ok (r : ReqD) (h : szR r ≤ 1099511627776) : V sPutReq [reqA r] [] = byR (putReqB r) := by
  rw [V_eq (fn := sPutReq_m) (by kernel_rfl)]
  obtain ⟨m, p, l, b⟩ := r
  have hb : b.length ≤ 1099511627776 := by simp only [szR] at h; omega
  have e0 := sNumText_ok b.length (by omega)
  unfold putReqB extraB
  simp only
  by_cases hz : b = []
  · subst hz
    have e1 := sl3Put_ok (m, p, l, []) [] [] h (by simp) (by simp)
    simp only [reqA] at e1
    simp -implicitDefEqProofs [sPutReq_m, e1]
  · have e1 := sl3Put_ok (m, p, l, b) (lenTextB b) b h (lenTextB_len b hb) hb
    simp only [reqA] at e1
    have hn : (numB b.length).length ≤ 20 := decB_len20 b.length (by omega)
    unfold lenTextB at e1 ⊢
    rw [if_neg hz]
    generalize numB b.length = q at e0 e1 hn ⊢
    simp only [List.cons_append, List.nil_append] at e1
    simp -implicitDefEqProofs [sPutReq_m, e0, e1, hz]
    omega
abbrev RecD := Int × Int × ReqD
abbrev recA (r : RecD) : AV := .agg [i6 r.1, i6 r.2.1, .d (.s r.2.2.1), .d (.s r.2.2.2.1), .d (.sl THead r.2.2.2.2.1), .d (.s r.2.2.2.2.2)]
def recText (r : RecD) (n : Nat) : List UInt8 :=
  [UInt8.ofNat ((IntKind.i64.wrap ((n : Int) + 5)).fdiv (2 ^ min 8 IntKind.i64.bits) % 256).toNat, UInt8.ofNat (IntKind.i64.wrap ((n : Int) + 5) % 256).toNat,
   UInt8.ofNat (r.1.fdiv (2 ^ min 16 IntKind.i64.bits) % 256).toNat, UInt8.ofNat (r.1.fdiv (2 ^ min 8 IntKind.i64.bits) % 256).toNat, UInt8.ofNat (r.1 % 256).toNat,
   UInt8.ofNat (r.2.1.fdiv (2 ^ min 8 IntKind.i64.bits) % 256).toNat, UInt8.ofNat (r.2.1 % 256).toNat]
def recB (r : RecD) : List UInt8 :=
  if (decide (0 ≤ r.1) && decide (r.1 ≤ 9999999)) && (decide (0 ≤ r.2.1) && decide (r.2.1 ≤ 9999)) && !decide (putReqB r.2.2 = []) then recText r (putReqB r.2.2).length ++ putReqB r.2.2 else []
theorem iputRec_ok (r : RecD) (h : szR r.2.2 ≤ 1099511627776) : V iputRec [recA r] [] = byR (recB r) := by
  rw [V_eq (fn := iputRec_m) (by kernel_rfl)]
  obtain ⟨n, k, q⟩ := r
  have e0 := iPutReq_ok q h
  have e1 := iin_ok n 0 9999999
  have e2 := iin_ok k 0 9999
  have ht : (putReqB q).length ≤ 1099511629000 := by
    have := putB_len q (extraB q.2.2.2) q.2.2.2
    unfold putReqB; simp only [szR] at h; omega
  unfold recB recText
  simp only
  generalize (decide (0 ≤ n) && decide (n ≤ 9999999)) = t1 at e1 ⊢
  generalize (decide (0 ≤ k) && decide (k ≤ 9999)) = t2 at e2 ⊢
  obtain ⟨m, p, l, b⟩ := q
  simp only [reqA] at e0
  generalize putReqB (m, p, l, b) = t at e0 ht ⊢
  cases t1
  · simp -implicitDefEqProofs [iputRec_m, e0, e1]
  cases t2
  · simp -implicitDefEqProofs [iputRec_m, e0, e1, e2]
  by_cases hz : t = []
  · subst hz
    simp -implicitDefEqProofs [iputRec_m, e0, e1, e2]
  · have hp : 0 < t.length := List.length_pos_iff.2 hz
    simp -implicitDefEqProofs [iputRec_m, e0, e1, e2, hz]
    refine ⟨by omega, ?_⟩
    rw [List.take_of_length_le (by simp; omega)]
theorem recB_len (r : RecD) (h : szR r.2.2 ≤ 1099511627776) : (recB r).length ≤ 1099511629000 := by
  have := putB_len r.2.2 (extraB r.2.2.2.2.2) r.2.2.2.2.2
  unfold recB; split
  · rw [List.length_append]; unfold putReqB; simp only [szR] at h; simp only [recText, List.length_cons, List.length_nil]; omega
  · simp
theorem iPutRec_ok (a : List UInt8) (r : RecD) (ha : a.length ≤ 1099511627776) (h : szR r.2.2 ≤ 1099511627776) : V iPutRec [.d (.sl .u8 a), recA r] [] = byR (a ++ recB r) := by
  rw [V_eq (fn := iPutRec_m) (by kernel_rfl)]
  have e0 := icopyBytes_ok a ha
  have e1 := iputRec_ok r h
  have hn := recB_len r h
  generalize recB r = t at e1 hn ⊢
  obtain ⟨n, k, m, p, l, b⟩ := r
  simp only [recA] at e1
  simp -implicitDefEqProofs [iPutRec_m, e0, e1]
  refine ⟨by omega, ?_⟩
  rw [List.take_of_length_le (by simp)]
theorem sPutRec_ok (a : List UInt8) (r : RecD) (ha : a.length ≤ 1099511627776) (h : szR r.2.2 ≤ 1099511627776) : V sPutRec [.d (.sl .u8 a), recA r] [] = byR (a ++ recB r) := by
  rw [V_eq (fn := sPutRec_m) (by kernel_rfl)]
  obtain ⟨n, k, q⟩ := r
  have e0 := sPutReq_ok q h
  have e1 := sl1In_ok n 0 9999999
  have e2 := sl1In_ok k 0 9999
  have ht : (putReqB q).length ≤ 1099511629000 := by
    have := putB_len q (extraB q.2.2.2) q.2.2.2
    unfold putReqB; simp only [szR] at h; omega
  unfold recB recText
  simp only
  generalize (decide (0 ≤ n) && decide (n ≤ 9999999)) = t1 at e1 ⊢
  generalize (decide (0 ≤ k) && decide (k ≤ 9999)) = t2 at e2 ⊢
  obtain ⟨m, p, l, b⟩ := q
  simp only [reqA] at e0
  generalize putReqB (m, p, l, b) = t at e0 ht ⊢
  cases t1
  · simp -implicitDefEqProofs [sPutRec_m, e0, e1]
    omega
  cases t2
  · simp -implicitDefEqProofs [sPutRec_m, e0, e1, e2]
    omega
  by_cases hz : t = []
  · subst hz
    simp -implicitDefEqProofs [sPutRec_m, e0, e1, e2]
    omega
  · have hp : 0 < t.length := List.length_pos_iff.2 hz
    simp -implicitDefEqProofs [sPutRec_m, e0, e1, e2, hz]
    refine ⟨by omega, by omega, by omega, ?_⟩
    rw [List.take_of_length_le (by simp), List.take_of_length_le (by simp)]
    simp
def lowB (b : UInt8) : UInt8 := if (decide (65 ≤ b) && decide (b ≤ 90)) = true then b + 32 else b
def lowerB (s : List UInt8) : List UInt8 := s.map lowB
theorem lower_take {s : List UInt8} {i : Nat} (h : i < s.length) : lowerB (s.take (i + 1)) = lowerB (s.take i) ++ [lowB s[i]] := by
  unfold lowerB; rw [take_snoc h, List.map_append]; rfl
theorem sLower_ok (s : List UInt8) (h : s.length ≤ 1099511627776) : V sLower [.d (.s s)] [] = rS (lowerB s) := by
  rw [V_eq (fn := sLower_m) (by kernel_rfl)]
  have L := loop_each (X := V) (c := sLower_l0) s.length (fun i : Nat => ⟨[(4, i6 i), (3, .h 67 0 (lowerB (s.take i)).length), (0, .d (.s s))], [(67, .ls .u8 false (lowerB (s.take i)) 0 [])]⟩) (.ex 0, ⟨[(3, .h 67 0 (lowerB s).length)], [(67, .ls .u8 false (lowerB s) 0 [])]⟩) (by simp)
    (fun i hi => by
      have e := sl1Large_ok s[i]
      have hq : (lowerB (s.take i)).length ≤ 1099511627776 := by unfold lowerB; rw [List.length_map, List.length_take]; omega
      rw [lower_take hi]
      unfold lowB
      generalize (decide (65 ≤ s[i]) && decide (s[i] ≤ 90)) = t1 at e ⊢
      generalize lowerB (s.take i) = q at hq ⊢
      cases t1 <;> simp -implicitDefEqProofs [sLower_l0, hi, get_some hi, e, wrap_succ hi (by omega)] <;> omega)
    (by rw [List.take_length]; simp -implicitDefEqProofs [sLower_l0])
  simp only [Int.natCast_zero, List.take_zero, show lowerB [] = [] from rfl, List.length_nil] at L
  simp -implicitDefEqProofs [sLower_m, L]
theorem iLower_ok (s : List UInt8) (h : s.length ≤ 1099511627776) : V iLower [.d (.s s)] [] = rS (lowerB s) := by
  rw [V_eq (fn := iLower_m) (by kernel_rfl)]
  have L := loop_each (X := V) (c := iLower_l0) s.length (fun i : Nat => ⟨[(10, i6 i), (9, i6 s.length), (8, .h 71 0 s.length), (3, .h 71 0 s.length)], [(71, .ls .u8 false (lowerB (s.take i) ++ s.drop i) 0 [])]⟩) (.ex 0, ⟨[(3, .h 71 0 s.length)], [(71, .ls .u8 false (lowerB s) 0 [])]⟩) (by simp)
    (fun i hi => by
      have e := iisLarge_ok s[i]
      have hq : (lowerB (s.take i)).length = i := by unfold lowerB; rw [List.length_map, List.length_take]; omega
      rw [lower_take hi, drop_cons hi]
      unfold lowB
      generalize (decide (65 ≤ s[i]) && decide (s[i] ≤ 90)) = t1 at e ⊢
      generalize lowerB (s.take i) = q at hq ⊢
      generalize s.drop (i + 1) = r
      have g1 : (q ++ s[i] :: r)[i]? = some s[i] := by rw [List.getElem?_append_right (by omega), hq]; simp
      have g2 : ∀ x : UInt8, (q ++ s[i] :: r).set i x = q ++ x :: r := fun x => by rw [List.set_append_right _ _ (by omega), hq]; simp
      have hn : s.length ≤ (q ++ s[i] :: r).length → True := fun _ => trivial
      cases t1
      · simp -implicitDefEqProofs [iLower_l0, hi, g1, e, wrap_succ hi (by omega)]
      · simp -implicitDefEqProofs [iLower_l0, hi, g1, g2, e, wrap_succ hi (by omega)])
    (by rw [List.take_length, List.drop_length, List.append_nil]; simp -implicitDefEqProofs [iLower_l0])
  simp only [Int.natCast_zero, List.take_zero, show lowerB [] = [] from rfl, List.drop_zero, List.nil_append] at L
  have hl : (lowerB s).length = s.length := by unfold lowerB; rw [List.length_map]
  simp -implicitDefEqProofs [iLower_m, L, hl, take_all hl]
def hexV (b : UInt8) : Int :=
  if (decide (48 ≤ b) && decide (b ≤ 57)) = true then (b.toNat : Int) - 48 else
  if (decide (97 ≤ b) && decide (b ≤ 102)) = true then (b.toNat : Int) - 97 + 10 else
  if (decide (65 ≤ b) && decide (b ≤ 70)) = true then (b.toNat : Int) - 65 + 10 else -1
theorem hexV_lt (b : UInt8) : -1 ≤ hexV b ∧ hexV b ≤ 15 := by
  have hb := b.toNat_lt
  unfold hexV
  simp only [Bool.and_eq_true, decide_eq_true_eq, UInt8.le_iff_toNat_le, UInt8.toNat_ofNat]
  split
  · omega
  · split
    · omega
    · split
      · omega
      · omega
theorem sl1HexOf_ok (b : UInt8) : V sl1HexOf [.d (.u b)] [] = rI (hexV b) := by
  rw [V_eq (fn := sl1HexOf_m) (by kernel_rfl)]
  have hb := b.toNat_lt
  have e1 := sl1Digit_ok b
  have e2 := sl1In_ok (b.toNat) 97 102
  have e3 := sl1In_ok (b.toNat) 65 70
  rw [show (decide ((97 : Int) ≤ (b.toNat : Int)) && decide ((b.toNat : Int) ≤ 102)) = (decide (97 ≤ b) && decide (b ≤ 102)) from u8_range b 97 102 (by omega) (by omega)] at e2
  rw [show (decide ((65 : Int) ≤ (b.toNat : Int)) && decide ((b.toNat : Int) ≤ 70)) = (decide (65 ≤ b) && decide (b ≤ 70)) from u8_range b 65 70 (by omega) (by omega)] at e3
  unfold hexV
  generalize (decide (48 ≤ b) && decide (b ≤ 57)) = t1 at e1 ⊢
  generalize (decide (97 ≤ b) && decide (b ≤ 102)) = t2 at e2 ⊢
  generalize (decide (65 ≤ b) && decide (b ≤ 70)) = t3 at e3 ⊢
  have w1 : IntKind.i64.wrap ((b.toNat : Int) - 48) = (b.toNat : Int) - 48 := wrI (by omega) (by omega)
  have w2 : IntKind.i64.wrap ((b.toNat : Int) - 97) = (b.toNat : Int) - 97 := wrI (by omega) (by omega)
  have w3 : IntKind.i64.wrap ((b.toNat : Int) - 65) = (b.toNat : Int) - 65 := wrI (by omega) (by omega)
  have w4 : IntKind.i64.wrap ((b.toNat : Int) - 97 + 10) = (b.toNat : Int) - 97 + 10 := wrI (by omega) (by omega)
  have w5 : IntKind.i64.wrap ((b.toNat : Int) - 65 + 10) = (b.toNat : Int) - 65 + 10 := wrI (by omega) (by omega)
  cases t1
  · cases t2
    · cases t3 <;> simp -implicitDefEqProofs [sl1HexOf_m, e1, e2, e3, wrap_b, w3, w5]
    · simp -implicitDefEqProofs [sl1HexOf_m, e1, e2, wrap_b, w2, w4]
  · simp -implicitDefEqProofs [sl1HexOf_m, e1, wrap_b, w1]
theorem idigitOf_ok (b : UInt8) : V idigitOf [.d (.u b)] [] = rI (hexV b) := by
  rw [V_eq (fn := idigitOf_m) (by kernel_rfl)]
  have hb := b.toNat_lt
  have e1 := iisDigit_ok b
  have sub : ∀ (c : UInt8), c ≤ b → ((b - c).toNat : Int) = (b.toNat : Int) - c.toNat := fun c hc => by
    rw [UInt8.toNat_sub_of_le _ _ hc]
    have := UInt8.le_iff_toNat_le.1 hc
    omega
  unfold hexV
  have wr : ∀ n : Nat, n ≤ 1000 → IntKind.i64.wrap (n : Int) = n := fun n hn => wrI (by omega) (by omega)
  have wr2 : ∀ n : Nat, n ≤ 1000 → IntKind.i64.wrap ((n : Int) + 10) = (n : Int) + 10 := fun n hn => wrI (by omega) (by omega)
  by_cases h1 : (decide (48 ≤ b) && decide (b ≤ 57)) = true
  · rw [h1] at e1
    simp only [Bool.and_eq_true, decide_eq_true_eq] at h1
    have h48 : 48 ≤ b.toNat := UInt8.le_iff_toNat_le.1 h1.1
    simp -implicitDefEqProofs [idigitOf_m, e1, wrap_b, h1.1, h1.2]
    rw [wr _ (by omega)]; omega
  rw [Bool.eq_false_iff.2 h1] at e1
  rw [if_neg h1]
  by_cases h2 : (decide (97 ≤ b) && decide (b ≤ 102)) = true
  · rw [if_pos h2]
    simp only [Bool.and_eq_true, decide_eq_true_eq] at h2
    have h97 : 97 ≤ b.toNat := UInt8.le_iff_toNat_le.1 h2.1
    simp -implicitDefEqProofs [idigitOf_m, e1, wrap_b, h2.1, h2.2]
    rw [wr _ (by omega), wr2 _ (by omega)]; omega
  rw [if_neg h2]
  have n2 : ∀ h : 97 ≤ b, ¬ b ≤ 102 := fun h h' => h2 (by simp [h, h'])
  by_cases h3 : (decide (65 ≤ b) && decide (b ≤ 70)) = true
  · rw [if_pos h3]
    simp only [Bool.and_eq_true, decide_eq_true_eq] at h3
    have h65 : 65 ≤ b.toNat := UInt8.le_iff_toNat_le.1 h3.1
    have h70 : b.toNat ≤ 70 := UInt8.le_iff_toNat_le.1 h3.2
    have h97 : ¬ 97 ≤ b := fun h => by have : 97 ≤ b.toNat := UInt8.le_iff_toNat_le.1 h; omega
    simp -implicitDefEqProofs [idigitOf_m, e1, wrap_b, h97, h3.1, h3.2]
    rw [wr _ (by omega), wr2 _ (by omega)]; omega
  rw [if_neg h3]
  have n3 : ∀ h : 65 ≤ b, ¬ b ≤ 70 := fun h h' => h3 (by simp [h, h'])
  by_cases h97 : 97 ≤ b
  · by_cases h65 : 65 ≤ b
    · simp -implicitDefEqProofs [idigitOf_m, e1, wrap_b, h97, n2 h97, h65, n3 h65]
    · simp -implicitDefEqProofs [idigitOf_m, e1, wrap_b, h97, n2 h97, h65]
  · by_cases h65 : 65 ≤ b
    · simp -implicitDefEqProofs [idigitOf_m, e1, wrap_b, h97, h65, n3 h65]
    · simp -implicitDefEqProofs [idigitOf_m, e1, wrap_b, h97, h65]
def hexF (v : Int) (b : UInt8) : Option Int := if hexV b < 0 then none else some (16 * v + hexV b)
def hexB (s : List UInt8) : Int × Bool := if 1 ≤ s.length ∧ s.length ≤ 4 then (match goM hexF 0 s with | some v => (v, true) | none => (0, false)) else (0, false)
abbrev numR (r : Int × Bool) : Option (List (Option Ob) × RV) := some ([], .tup [.one (.fz (.i .i64 r.1)), .one (.fz (.b r.2))])
def hexP (i : Nat) (v : Int) : Prop := 0 ≤ v ∧ v < 16 ^ i
theorem hexP_step {i : Nat} {v n : Int} {b : UInt8} (h : hexP i v) (hf : hexF v b = some n) : hexP (i + 1) n := by
  have := hexV_lt b
  unfold hexF at hf
  unfold hexP at h ⊢
  split at hf
  · cases hf
  · obtain rfl := Option.some.inj hf
    rw [Int.pow_succ]
    omega
theorem hexP_le {i : Nat} {v : Int} (h : hexP i v) (hi : i ≤ 5) : 0 ≤ v ∧ v ≤ 1048576 := by
  unfold hexP at h
  have : (16 : Int) ^ i ≤ 16 ^ 5 := by
    have : (16 : Nat) ^ i ≤ 16 ^ 5 := Nat.pow_le_pow_right (by omega) hi
    exact_mod_cast this
  omega
theorem iParseHex_ok (s : List UInt8) (h : s.length ≤ 1099511627776) : V iParseHex [.d (.s s)] [] = numR (hexB s) := by
  rw [V_eq (fn := iParseHex_m) (by kernel_rfl)]
  unfold hexB
  by_cases hl : s.length ≤ 4
  · have L := loop_goM (X := V) (c := iParseHex_l0) s hexF hexP (fun (i : Nat) (v : Int) => ⟨[(5, i6 i), (4, i6 v), (0, .d (.s s))], []⟩) (.ret, ⟨[(3, .d (.b false)), (2, i6 0)], []⟩) (fun v => (.ex 0, ⟨[(4, i6 v), (0, .d (.s s))], []⟩)) (by simp) (by simp)
      (fun i hi v hP => by
        have e := idigitOf_ok s[i]
        have hv := hexP_le hP (by omega)
        have hx := hexV_lt s[i]
        unfold hexF
        generalize hexV s[i] = x at e hx ⊢
        by_cases hn : x < 0
        · simp -implicitDefEqProofs [iParseHex_l0, hi, get_some hi, e, hn]
        · simp -implicitDefEqProofs [iParseHex_l0, hi, get_some hi, e, hn, (eq_false (by omega) : ((4 : Int) ≤ (i : Int)) = False), wrap_succ hi (by omega), (wrI (by omega) (by omega) : IntKind.i64.wrap (16 * v) = 16 * v), (wrI (by omega) (by omega) : IntKind.i64.wrap (16 * v + x) = 16 * v + x)])
      (fun i hi v n hP hf => hexP_step hP hf)
      (fun v _ => by simp -implicitDefEqProofs [iParseHex_l0]) 0 ⟨by omega, by simp⟩
    simp only [Int.natCast_zero] at L
    by_cases hz : s = []
    · subst hz
      simp only [goM] at L
      simp -implicitDefEqProofs [iParseHex_m, L]
    · have h1 : 1 ≤ s.length := by have := List.length_pos_iff.2 hz; omega
      rw [if_pos ⟨h1, hl⟩]
      cases hg : goM hexF 0 s with
      | none => simp only [hg] at L; simp -implicitDefEqProofs [iParseHex_m, L]
      | some v => simp only [hg] at L; simp -implicitDefEqProofs [iParseHex_m, L, hz]
  · rw [if_neg (by omega)]
    obtain ⟨e, σ', L, rfl, rfl⟩ := loop_ex (X := V) (c := iParseHex_l0) 4 (fun i σ => ∃ v : Int, hexP i v ∧ σ = ⟨[(5, i6 i), (4, i6 v), (0, .d (.s s))], []⟩) (fun e σ => e = .ret ∧ σ = ⟨[(3, .d (.b false)), (2, i6 0)], []⟩)
      (fun i σ hi hI => by
        obtain ⟨v, hP, rfl⟩ := hI
        have hi' : i < s.length := by omega
        have e := idigitOf_ok s[i]
        have hv := hexP_le hP (by omega)
        have hx := hexV_lt s[i]
        have hst := hexP_step (b := s[i]) (n := 16 * v + hexV s[i]) hP
        unfold hexF at hst
        generalize hexV s[i] = x at e hx hst ⊢
        by_cases hn : x < 0
        · exact .inr ⟨.ret, _, by simp, by simp -implicitDefEqProofs [iParseHex_l0, hi', get_some hi', e, hn], rfl, rfl⟩
        · exact .inl ⟨_, by simp -implicitDefEqProofs [iParseHex_l0, hi', get_some hi', e, hn, (eq_false (by omega) : ((4 : Int) ≤ (i : Int)) = False), wrap_succ hi' (by omega), (wrI (by omega) (by omega) : IntKind.i64.wrap (16 * v) = 16 * v), (wrI (by omega) (by omega) : IntKind.i64.wrap (16 * v + x) = 16 * v + x)]; rfl, 16 * v + x, hst (if_neg hn), by simp⟩)
      (fun σ hI => by
        obtain ⟨v, hP, rfl⟩ := hI
        have hi' : 4 < s.length := by omega
        have e := idigitOf_ok s[4]
        generalize hexV s[4] = x at e ⊢
        refine ⟨.ret, _, by simp, ?_, rfl, rfl⟩
        by_cases hn : x < 0
        · simp -implicitDefEqProofs [iParseHex_l0, hi', get_some hi', e, hn, (eq_true (by omega) : ((4 : Int) < (s.length : Int)) = True)]
        · simp -implicitDefEqProofs [iParseHex_l0, hi', get_some hi', e, hn, (eq_true (by omega) : ((4 : Int) < (s.length : Int)) = True)])
      ⟨[(5, i6 0), (4, i6 0), (0, .d (.s s))], []⟩ ⟨0, ⟨by omega, by simp⟩, rfl⟩
    simp -implicitDefEqProofs [iParseHex_m, L]
theorem sParseHex_ok (s : List UInt8) (h : s.length ≤ 1099511627776) : V sParseHex [.d (.s s)] [] = numR (hexB s) := by
  rw [V_eq (fn := sParseHex_m) (by kernel_rfl)]
  have e2 := sl1In_ok s.length 1 4
  rw [show (decide ((1 : Int) ≤ (s.length : Int)) && decide ((s.length : Int) ≤ 4)) = (decide (1 ≤ s.length) && decide (s.length ≤ 4)) from len_range s.length 1 4] at e2
  unfold hexB
  by_cases hl : s.length ≤ 4
  · have L := loop_goM (X := V) (c := sParseHex_l0) s hexF hexP (fun (i : Nat) (v : Int) => ⟨[(5, i6 i), (4, i6 v), (0, .d (.s s))], []⟩) (.ret, ⟨[(3, .d (.b false)), (2, i6 0)], []⟩) (fun v => (.ex 0, ⟨[(4, i6 v), (0, .d (.s s))], []⟩)) (by simp) (by simp)
      (fun i hi v hP => by
        have e := sl1HexOf_ok s[i]
        have hv := hexP_le hP (by omega)
        have hx := hexV_lt s[i]
        unfold hexF
        generalize hexV s[i] = x at e hx ⊢
        by_cases hn : x < 0
        · simp -implicitDefEqProofs [sParseHex_l0, hi, get_some hi, e, hn, (eq_true (by omega) : ((i : Int) < 5) = True)]
        · simp -implicitDefEqProofs [sParseHex_l0, hi, get_some hi, e, hn, (eq_true (by omega) : ((i : Int) < 5) = True), wrap_succ hi (by omega), (wrI (by omega) (by omega) : IntKind.i64.wrap (v * 16) = v * 16), (wrI (by omega) (by omega) : IntKind.i64.wrap (v * 16 + x) = v * 16 + x)]
          omega)
      (fun i hi v n hP hf => hexP_step hP hf)
      (fun v _ => by simp -implicitDefEqProofs [sParseHex_l0]) 0 ⟨by omega, by simp⟩
    simp only [Int.natCast_zero] at L
    by_cases hz : s = []
    · subst hz
      simp only [goM] at L
      simp -implicitDefEqProofs at e2
      simp -implicitDefEqProofs [sParseHex_m, L, e2]
    · have h1 : 1 ≤ s.length := by have := List.length_pos_iff.2 hz; omega
      rw [if_pos ⟨h1, hl⟩]
      rw [decide_eq_true h1, decide_eq_true hl] at e2
      cases hg : goM hexF 0 s with
      | none => simp only [hg] at L; simp -implicitDefEqProofs [sParseHex_m, L]
      | some v => simp only [hg] at L; simp -implicitDefEqProofs [sParseHex_m, L, e2]
  · rw [if_neg (by omega)]
    rw [decide_eq_false hl, Bool.and_false] at e2
    obtain ⟨e, σ', L, hJ⟩ := loop_ex (X := V) (c := sParseHex_l0) 5 (fun i σ => ∃ v : Int, hexP i v ∧ σ = ⟨[(5, i6 i), (4, i6 v), (0, .d (.s s))], []⟩) (fun e σ => (e = .ret ∧ σ = ⟨[(3, .d (.b false)), (2, i6 0)], []⟩) ∨ (∃ v : Int, e = .ex 0 ∧ σ = ⟨[(4, i6 v), (0, .d (.s s))], []⟩))
      (fun i σ hi hI => by
        obtain ⟨v, hP, rfl⟩ := hI
        have hi' : i < s.length := by omega
        have e := sl1HexOf_ok s[i]
        have hv := hexP_le hP (by omega)
        have hx := hexV_lt s[i]
        have hst := hexP_step (b := s[i]) (n := 16 * v + hexV s[i]) hP
        unfold hexF at hst
        generalize hexV s[i] = x at e hx hst ⊢
        by_cases hn : x < 0
        · exact .inr ⟨.ret, _, by simp, by simp -implicitDefEqProofs [sParseHex_l0, hi', get_some hi', e, hn, (eq_true (by omega) : ((i : Int) < 5) = True)], .inl ⟨rfl, rfl⟩⟩
        · refine .inl ⟨⟨[(5, i6 ((i + 1 : Nat) : Int)), (4, i6 (16 * v + x)), (0, .d (.s s))], []⟩, ?_, 16 * v + x, hst (if_neg hn), rfl⟩
          simp -implicitDefEqProofs [sParseHex_l0, hi', get_some hi', e, hn, (eq_true (by omega) : ((i : Int) < 5) = True), wrap_succ hi' (by omega), (wrI (by omega) (by omega) : IntKind.i64.wrap (v * 16) = v * 16), (wrI (by omega) (by omega) : IntKind.i64.wrap (v * 16 + x) = v * 16 + x)]
          omega)
      (fun σ hI => by
        obtain ⟨v, hP, rfl⟩ := hI
        refine ⟨.ex 0, ⟨[(4, i6 v), (0, .d (.s s))], []⟩, by simp, ?_, .inr ⟨v, rfl, rfl⟩⟩
        by_cases h5 : 5 < s.length
        · simp -implicitDefEqProofs [sParseHex_l0, (eq_true (by omega) : ((5 : Int) < (s.length : Int)) = True)]
        · simp -implicitDefEqProofs [sParseHex_l0, (eq_false (by omega) : ((5 : Int) < (s.length : Int)) = False)])
      ⟨[(5, i6 0), (4, i6 0), (0, .d (.s s))], []⟩ ⟨0, ⟨by omega, by simp⟩, rfl⟩
    rcases hJ with ⟨rfl, rfl⟩ | ⟨v, rfl, rfl⟩
    · simp -implicitDefEqProofs [sParseHex_m, L]
    · simp -implicitDefEqProofs [sParseHex_m, L, e2]
end Go.Proofs.YtniakiefibpgmaaGreatDoorK
