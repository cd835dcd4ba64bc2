/- What the functions come to. -/
import Derived.Test.YtniakiefibpgmaaGreatDoorF10
set_option linter.unusedVariables false
set_option linter.unusedSimpArgs false
namespace Go.Proofs.YtniakiefibpgmaaGreatDoorK
open Go.RowKit
structure LkFacts (n : Int) (c : UInt8) : Prop where
  lk_put1 : V iDo [lkA [] [] 0 1 [n] [], lkQ put3 old3 (.nil THead)] [] = some ([], .tup [lkR (lkT old3 1) [] 0 2 [n] [], lkP 201 (etag4 49)])
  lk_num : V iNumText [i6 n] [] = rS [c]
  lk_lock : V iDo [lkA (lkT old3 1) [] 0 2 [n] [], lkQ [76, 79, 67, 75] [] (.d (.sl THead [([116, 105, 109, 101, 111, 117, 116], [53, 48])]))] [] = some ([], .tup [lkR (lkT old3 1) (lkL n) 0 3 [] [n], lkP 200 [(ltok, lkK c)]])
  lk_head : V iHeadOf [.d (.sl THead [(ltok, lkK c)]), .d (.s ltok)] [] = some ([], .tup [.one (.fz (.s (lkK c))), .one (.fz (.b true))])
  lk_put3 : V iDo [lkA (lkT old3 1) (lkL n) 0 3 [] [n], lkQ put3 new3 (.d (.sl THead [([105, 102], [40, 60, c, 62, 41])]))] [] = some ([], .tup [lkR (lkT new3 3) (lkL n) 0 4 [] [n], lkP 204 (etag4 51)])
  lk_put2 : V iDo [lkA (lkT old3 1) (lkL n) 0 3 [] [n], lkQ put3 new3 (.nil THead)] [] = some ([], .tup [lkR (lkT old3 1) (lkL n) 0 3 [] [n], lkP 423 []])
  lk_tick : V iTick [lkA (lkT old3 1) (lkL n) 0 3 [] [n], i6 49] [] = some ([], lkO (lkT old3 1) (lkL n) 49 3 [] [n])
  lk_tick2 : V iTick [lkA (lkT old3 1) (lkL n) 0 3 [] [n], i6 50] [] = some ([], lkO (lkT old3 1) [] 50 3 [] [n])
  lk_put4 : V iDo [lkA (lkT old3 1) (lkL n) 49 3 [] [n], lkQ put3 new3 (.nil THead)] [] = some ([], .tup [lkR (lkT old3 1) (lkL n) 49 3 [] [n], lkP 423 []])
  lk_put5 : V iDo [lkA (lkT old3 1) [] 50 3 [] [n], lkQ put3 new3 (.nil THead)] [] = some ([], .tup [lkR (lkT new3 3) [] 50 4 [] [n], lkP 204 (etag4 51)])
  lk_same : V iSameSrv [lkA (lkT old3 1) (lkL n) 0 3 [] [n], lkA (lkT old3 1) (lkL n) 0 3 [] [n]] [] = rB true
theorem lk_all (n : Int) (hn : N9 n) : ∃ c : UInt8, LkFacts n c := by
  rcases hn with rfl | rfl | rfl | rfl | rfl | rfl | rfl | rfl | rfl
  · exact ⟨49, ⟨lk_put1_1, lk_num_1, lk_lock_1, lk_head_1, lk_put3_1, lk_put2_1, lk_tick_1, lk_tick2_1, lk_put4_1, lk_put5_1, lk_same_1⟩⟩
  · exact ⟨50, ⟨lk_put1_2, lk_num_2, lk_lock_2, lk_head_2, lk_put3_2, lk_put2_2, lk_tick_2, lk_tick2_2, lk_put4_2, lk_put5_2, lk_same_2⟩⟩
  · exact ⟨51, ⟨lk_put1_3, lk_num_3, lk_lock_3, lk_head_3, lk_put3_3, lk_put2_3, lk_tick_3, lk_tick2_3, lk_put4_3, lk_put5_3, lk_same_3⟩⟩
  · exact ⟨52, ⟨lk_put1_4, lk_num_4, lk_lock_4, lk_head_4, lk_put3_4, lk_put2_4, lk_tick_4, lk_tick2_4, lk_put4_4, lk_put5_4, lk_same_4⟩⟩
  · exact ⟨53, ⟨lk_put1_5, lk_num_5, lk_lock_5, lk_head_5, lk_put3_5, lk_put2_5, lk_tick_5, lk_tick2_5, lk_put4_5, lk_put5_5, lk_same_5⟩⟩
  · exact ⟨54, ⟨lk_put1_6, lk_num_6, lk_lock_6, lk_head_6, lk_put3_6, lk_put2_6, lk_tick_6, lk_tick2_6, lk_put4_6, lk_put5_6, lk_same_6⟩⟩
  · exact ⟨55, ⟨lk_put1_7, lk_num_7, lk_lock_7, lk_head_7, lk_put3_7, lk_put2_7, lk_tick_7, lk_tick2_7, lk_put4_7, lk_put5_7, lk_same_7⟩⟩
  · exact ⟨56, ⟨lk_put1_8, lk_num_8, lk_lock_8, lk_head_8, lk_put3_8, lk_put2_8, lk_tick_8, lk_tick2_8, lk_put4_8, lk_put5_8, lk_same_8⟩⟩
  · exact ⟨57, ⟨lk_put1_9, lk_num_9, lk_lock_9, lk_head_9, lk_put3_9, lk_put2_9, lk_tick_9, lk_tick2_9, lk_put4_9, lk_put5_9, lk_same_9⟩⟩
set_option maxHeartbeats 2000000 in
theorem wFnLocked_ok (l : List UInt8) (hO : OkT (.sl .u8) l) : V wFnLocked [.d (.sl .u8 l)] [] = rB true := by
  rw [V_eq (fn := wFnLocked_m) (by kernel_rfl)]
  have e0 := wbig_ok l
  by_cases hb : 1048576 < l.length
  · rw [decide_eq_true hb] at e0
    simp -implicitDefEqProofs [wFnLocked_m, e0]
  rw [decide_eq_false hb] at e0
  obtain ⟨a, ha, ha2, e1⟩ := wat_ok l 2 (by omega) (by omega)
  obtain ⟨b, hb1, hb2, e2⟩ := wat_ok l 3 (by omega) (by omega)
  rw [show ((2 : Nat) : Int) = 2 from rfl] at e1
  rw [show ((3 : Nat) : Int) = 3 from rfl] at e2
  have t1 := Int.tmod_lt_of_pos a (show (0 : Int) < 9 by omega)
  have t2 := Int.tmod_nonneg 9 ha
  have t3 := Int.tmod_lt_of_pos b (show (0 : Int) < 2 by omega)
  have t4 := Int.tmod_nonneg 2 hb1
  have w1 : IntKind.i64.wrap (a.tmod 9) = a.tmod 9 := wrI (by omega) (by omega)
  have w2 : IntKind.i64.wrap (b.tmod 2) = b.tmod 2 := wrI (by omega) (by omega)
  obtain ⟨n, hn⟩ : ∃ n, 1 + a.tmod 9 = n := ⟨_, rfl⟩
  have w3 : IntKind.i64.wrap (1 + a.tmod 9) = n := by rw [hn]; exact wrI (by omega) (by omega)
  have h9 : N9 n := by unfold N9; omega
  clear hn hb hO
  obtain ⟨c, f5, f1, f2, f3, f4, f6, k1, k2, k3, k4, f7⟩ := lk_all n h9
  have f8 := lk_new
  have f9 := lk_draw n h9
  rcases (show b.tmod 2 = 0 ∨ b.tmod 2 = 1 by omega) with q | q
  · have w4 : IntKind.i64.wrap (b.tmod 2) = 0 := by rw [w2, q]
    have w5 : IntKind.i64.wrap 49 = 49 := wrI (by omega) (by omega)
    clear h9 k2 k4
    simp -implicitDefEqProofs [wFnLocked_m, e0, e1, e2, w1, w3, w4, w5, q, f1, f2, f3, f4, f5, f6, f7, f8, f9, k1, k3]
  · have w4 : IntKind.i64.wrap (b.tmod 2) = 1 := by rw [w2, q]
    have w5 : IntKind.i64.wrap 50 = 50 := wrI (by omega) (by omega)
    clear h9 k1 k3
    simp -implicitDefEqProofs [wFnLocked_m, e0, e1, e2, w1, w3, w4, w5, q, f1, f2, f3, f4, f5, f6, f7, f8, f9, k2, k4]
end Go.Proofs.YtniakiefibpgmaaGreatDoorK
