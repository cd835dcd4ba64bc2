import Derived.Test.YtmccpbabpnffcaaRows
import Derived.Test.YtmccpbabpnffcaaF4c
set_option linter.unusedVariables false
set_option linter.unusedSimpArgs false
namespace Go.Proofs.YtmccpbabpnffcaaK
open Go.ChangeShapes Go.WideShapes Go.ChangeAt Go.RowKit
theorem srv_of {ds : List D} (h : hasTs ctSrv ds) : ∃ s : Sv, ds = encV s ∧ s.t.length ≤ 9223372036854775807 ∧ ∀ r ∈ s.t, r.path.length ≤ 9223372036854775807 := by
  match ds, hasTs_len h, h with
  | [x0, x1, x2, x3, x4, x5], hl, h =>
    clear hl
    simp only [hasTs, and_true] at h
    obtain ⟨h0, h1, h2, h3, h4, h5⟩ := h
    obtain ⟨r0, rfl, h0⟩ := is_sl h0
    obtain ⟨r1, rfl, h1⟩ := is_sl h1
    obtain ⟨n2, rfl, h2⟩ := is_i h2
    obtain ⟨n3, rfl, h3⟩ := is_i h3
    obtain ⟨r4, rfl, h4⟩ := is_sl h4
    obtain ⟨r5, rfl, h5⟩ := is_sl h5
    obtain ⟨t, rfl, ht⟩ := ress_of h0.2
    refine ⟨⟨t, r1, n2, n3, r4, r5⟩, rfl, ?_, ht⟩
    have := h0.1
    rw [List.length_map] at this
    exact this
set_option maxHeartbeats 4000000 in
theorem e4 (ds0 ds1 : List D) (h0 : hasTs ctSrv ds0) (h1 : hasTs ctSrv ds1) : V 4 [.agg ds0, .agg ds1] = some (false, .one (.b true)) := by
  rw [V_eq (fn := m4) rfl]
  obtain ⟨r, hr, hr2⟩ := szSrv_ok ds0 h0 1048576 (by omega) (by omega)
  have t0 := toSrv_ok ds0 h0
  have t1 := toSrv_ok ds1 h1
  have q0 := eqSrv_ok ds0 h0
  have q1 := eqSrv_ok ds1 h1
  have z1 := szSrv_ok ds1 h1
  obtain ⟨a, rfl, ha, hpa⟩ := srv_of h0
  obtain ⟨b, rfl, hb, hpb⟩ := srv_of h1
  have f14 := e14 a b ha hb hpb
  have f16 := e16 a b ha hb hpb
  by_cases c1 : r < 0
  · simp only [encV] at hr
    simp (config := {implicitDefEqProofs := false}) only [m4, entered, argRegs, DA.av, DL_r, DL_skip, DL_seq, DL_cond, condDL_b, DL_blk, DL_ex, DL_ret, DL_pre, DL_post, andThen_n, andThen_ex, andThen_ret, goN_eq, outOf_n, outOf_ret, outOf_ex, krun_nil, krun_cons, kstep, St.set, St.op, St.reg, klook, kput, kdel, killAll, Option.bind_some, Option.map_some, Option.bind_none, Option.map_none, Option.getD_some, ↓reduceIte, Nat.reduceEqDiff, Nat.reduceLT, List.length_map, binV, binI, binS, isSh, asInt', Option.bind_eq_bind, decide_eq_true_eq, St.new, St.unref, St.unlook, St.turn, St.gone, dropAll, AV.refs, AV.refsL, AV.looks, AV.looksL, AV.fr, AV.frL, List.filter_cons, List.filter_nil, Bool.not_false, Bool.not_true, cellsOf, cellOf, AV.cells, kcut, packed, viewOf, viewD, St.arg, St.one, allOf, List.map_cons, List.map_nil, RV.av, ite_bind', ite_map', List.getElem?_map, bind_map', BEq.rfl, List.getElem?_cons_zero, List.set_cons_zero, List.drop_zero, List.take_succ_cons, List.length_cons, List.length_nil, Nat.reduceAdd, Nat.reduceLeDiff, List.drop_succ_cons, List.take_zero, List.nil_append, List.append_nil, List.cons_append, and_self, Bool.false_eq_true, Nat.reduceBEq, and_true, true_and, ended, resV, rvOf, tupled, Bool.or_false, Bool.false_or, Bool.or_true, Bool.true_or, called, Bool.and_true, Bool.true_and, beq_self_eq_true, Int.toNat_natCast, Int.natCast_nonneg, skipped, AV.parts, fillO, chunks, List.replicate_succ, List.replicate_zero, List.flatten_cons, List.flatten_nil, Nat.reduceMul, Nat.zero_mul, Nat.mul_one, tailOf, appTo, AV.toOwn, AV.toD, D.scalar, List.all_cons, List.all_nil, rowF, Nat.zero_add, Nat.zero_le, List.getElem?_cons_succ, RV.avL, keepAll, keepOne, Bool.true_eq_false, encV, hr, c1, if_true]
  · rcases hr2 with e | ⟨g1, g2⟩
    · omega
    obtain ⟨r', hr', hr2'⟩ := z1 r g1 (by omega)
    by_cases c2 : r' < 0
    · simp only [encV] at hr hr'
      simp (config := {implicitDefEqProofs := false}) only [m4, entered, argRegs, DA.av, DL_r, DL_skip, DL_seq, DL_cond, condDL_b, DL_blk, DL_ex, DL_ret, DL_pre, DL_post, andThen_n, andThen_ex, andThen_ret, goN_eq, outOf_n, outOf_ret, outOf_ex, krun_nil, krun_cons, kstep, St.set, St.op, St.reg, klook, kput, kdel, killAll, Option.bind_some, Option.map_some, Option.bind_none, Option.map_none, Option.getD_some, ↓reduceIte, Nat.reduceEqDiff, Nat.reduceLT, List.length_map, binV, binI, binS, isSh, asInt', Option.bind_eq_bind, decide_eq_true_eq, St.new, St.unref, St.unlook, St.turn, St.gone, dropAll, AV.refs, AV.refsL, AV.looks, AV.looksL, AV.fr, AV.frL, List.filter_cons, List.filter_nil, Bool.not_false, Bool.not_true, cellsOf, cellOf, AV.cells, kcut, packed, viewOf, viewD, St.arg, St.one, allOf, List.map_cons, List.map_nil, RV.av, ite_bind', ite_map', List.getElem?_map, bind_map', BEq.rfl, List.getElem?_cons_zero, List.set_cons_zero, List.drop_zero, List.take_succ_cons, List.length_cons, List.length_nil, Nat.reduceAdd, Nat.reduceLeDiff, List.drop_succ_cons, List.take_zero, List.nil_append, List.append_nil, List.cons_append, and_self, Bool.false_eq_true, Nat.reduceBEq, and_true, true_and, ended, resV, rvOf, tupled, Bool.or_false, Bool.false_or, Bool.or_true, Bool.true_or, called, Bool.and_true, Bool.true_and, beq_self_eq_true, Int.toNat_natCast, Int.natCast_nonneg, skipped, AV.parts, fillO, chunks, List.replicate_succ, List.replicate_zero, List.flatten_cons, List.flatten_nil, Nat.reduceMul, Nat.zero_mul, Nat.mul_one, tailOf, appTo, AV.toOwn, AV.toD, D.scalar, List.all_cons, List.all_nil, rowF, Nat.zero_add, Nat.zero_le, List.getElem?_cons_succ, RV.avL, keepAll, keepOne, Bool.true_eq_false, encV, hr, c1, hr', c2, if_true, if_false]
    · rcases hr2' with e | ⟨g3, g4⟩
      · omega
      have t0 := t0 (by omega)
      have t1 := t1 (by omega)
      simp only [encV] at hr hr' t0 t1 q0 q1 f14 f16
      simp (config := {implicitDefEqProofs := false}) only [m4, entered, argRegs, DA.av, DL_r, DL_skip, DL_seq, DL_cond, condDL_b, DL_blk, DL_ex, DL_ret, DL_pre, DL_post, andThen_n, andThen_ex, andThen_ret, goN_eq, outOf_n, outOf_ret, outOf_ex, krun_nil, krun_cons, kstep, St.set, St.op, St.reg, klook, kput, kdel, killAll, Option.bind_some, Option.map_some, Option.bind_none, Option.map_none, Option.getD_some, ↓reduceIte, Nat.reduceEqDiff, Nat.reduceLT, List.length_map, binV, binI, binS, isSh, asInt', Option.bind_eq_bind, decide_eq_true_eq, St.new, St.unref, St.unlook, St.turn, St.gone, dropAll, AV.refs, AV.refsL, AV.looks, AV.looksL, AV.fr, AV.frL, List.filter_cons, List.filter_nil, Bool.not_false, Bool.not_true, cellsOf, cellOf, AV.cells, kcut, packed, viewOf, viewD, St.arg, St.one, allOf, List.map_cons, List.map_nil, RV.av, ite_bind', ite_map', List.getElem?_map, bind_map', BEq.rfl, List.getElem?_cons_zero, List.set_cons_zero, List.drop_zero, List.take_succ_cons, List.length_cons, List.length_nil, Nat.reduceAdd, Nat.reduceLeDiff, List.drop_succ_cons, List.take_zero, List.nil_append, List.append_nil, List.cons_append, and_self, Bool.false_eq_true, Nat.reduceBEq, and_true, true_and, ended, resV, rvOf, tupled, Bool.or_false, Bool.false_or, Bool.or_true, Bool.true_or, called, Bool.and_true, Bool.true_and, beq_self_eq_true, Int.toNat_natCast, Int.natCast_nonneg, skipped, AV.parts, fillO, chunks, List.replicate_succ, List.replicate_zero, List.flatten_cons, List.flatten_nil, Nat.reduceMul, Nat.zero_mul, Nat.mul_one, tailOf, appTo, AV.toOwn, AV.toD, D.scalar, List.all_cons, List.all_nil, rowF, Nat.zero_add, Nat.zero_le, List.getElem?_cons_succ, RV.avL, keepAll, keepOne, Bool.true_eq_false, encV, hr, c1, hr', c2, if_true, if_false, t0, t1, q0, q1, f14, f16, bne_self_eq_false]
end Go.Proofs.YtmccpbabpnffcaaK
