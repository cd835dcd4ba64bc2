import Derived.Test.YtmccpbabpnffcaaD4
set_option linter.unusedVariables false
set_option linter.unusedSimpArgs false
namespace Go.Proofs.YtmccpbabpnffcaaK
open Go.RowKit
abbrev Tx := List UInt8
def encS (s : Tx) : List D := [.s s]
theorem strs_of : ∀ {rows : List (List D)}, (∀ r ∈ rows, hasTs [.s] r) → ∃ l : List Tx, rows = l.map encS
  | [], _ => ⟨[], rfl⟩
  | r :: rows, h => by
    obtain ⟨l, hl, _⟩ := str_of (h r (by simp))
    obtain ⟨ls, hls⟩ := strs_of (rows := rows) fun r hr => h r (by simp [hr])
    exact ⟨l :: ls, by simp only [List.map_cons, hl, hls, encS]⟩
structure Rs where
  path : List Tx
  coll : Bool
  body : Tx
  ver : Int
  props : List (List D)
def encR (r : Rs) : List D := [.sl (r.path.map encS), .b r.coll, .s r.body, .i .i64 r.ver, .sl r.props]
theorem ress_of : ∀ {rows : List (List D)}, (∀ r ∈ rows, hasTs ctRes r) → ∃ l : List Rs, rows = l.map encR ∧ ∀ r ∈ l, r.path.length ≤ 9223372036854775807
  | [], _ => ⟨[], rfl, fun r h => by cases h⟩
  | r :: rows, h => by
    obtain ⟨ls, hls, hb⟩ := ress_of (rows := rows) fun r hr => h r (by simp [hr])
    have h1 := h r (by simp)
    match r, hasTs_len h1, h1 with
    | [x0, x1, x2, x3, x4], hl, h1 =>
      clear hl
      simp only [hasTs, and_true] at h1
      obtain ⟨h0, h1, h2, h3, h4⟩ := h1
      obtain ⟨r0, rfl, h0⟩ := is_sl h0
      obtain ⟨t, rfl⟩ := is_b h1
      obtain ⟨s, rfl, h2⟩ := is_s h2
      obtain ⟨n, rfl, h3⟩ := is_i h3
      obtain ⟨r4, rfl, h4⟩ := is_sl h4
      obtain ⟨p, rfl⟩ := strs_of h0.2
      refine ⟨⟨p, t, s, n, r4⟩ :: ls, by simp only [List.map_cons, hls, encR], fun r hr => ?_⟩
      rcases List.mem_cons.1 hr with e | e
      · subst e
        have := h0.1
        rw [List.length_map] at this
        exact this
      · exact hb r e
/-- SamePath -/
def same (a b : List Tx) : Bool := decide (a = b)
theorem same_drop {a b : List Tx} (hl : a.length = b.length) {i : Nat} (h : i < a.length) : a.drop i = b.drop i ↔ a[i] = b[i]'(by omega) ∧ a.drop (i + 1) = b.drop (i + 1) := by
  rw [List.drop_eq_getElem_cons h, List.drop_eq_getElem_cons (by omega : i < b.length), List.cons.injEq]
def sameQ (a b : List Tx) (i : Nat) : Ex × St := if a.drop i = b.drop i then (.ex 0, ⟨[], []⟩) else (.ret, ⟨[(4, .d (.b false))], []⟩)
theorem l111 (a b : List Tx) (hl : a.length = b.length) (ha : a.length ≤ 9223372036854775807) : ∀ (k i : Nat), i + k = a.length →
    DL V (.loop m111l0) ⟨[(5, .d (.i .i64 i)), (1, .d (.sl (b.map encS))), (0, .d (.sl (a.map encS)))], []⟩ = some (sameQ a b i) := by
  intro k
  induction k with
  | zero =>
    intro i h
    rw [DL_loop]
    have hlt : ¬ ((i : Int) < (a.length : Int)) := by omega
    simp (config := {implicitDefEqProofs := false}) only [m111l0, entered, argRegs, DA.av, DL_r, DL_skip, DL_seq, DL_cond, condDL_b, DL_blk, DL_ex, DL_ret, DL_pre, DL_post, andThen_n, andThen_ex, andThen_ret, goN_eq, outOf_n, outOf_ret, outOf_ex, krun_nil, krun_cons, kstep, St.set, St.op, St.reg, klook, kput, kdel, killAll, Option.bind_some, Option.map_some, Option.bind_none, Option.map_none, Option.getD_some, ↓reduceIte, Nat.reduceEqDiff, Nat.reduceLT, List.length_map, binV, binI, binS, isSh, asInt', Option.bind_eq_bind, decide_eq_true_eq, St.new, St.unref, St.unlook, St.turn, St.gone, dropAll, AV.refs, AV.refsL, AV.looks, AV.looksL, AV.fr, AV.frL, List.filter_cons, List.filter_nil, Bool.not_false, Bool.not_true, cellsOf, cellOf, AV.cells, kcut, packed, viewOf, viewD, St.arg, St.one, allOf, List.map_cons, List.map_nil, RV.av, ite_bind', ite_map', List.getElem?_map, bind_map', BEq.rfl, List.getElem?_cons_zero, List.set_cons_zero, List.drop_zero, List.take_succ_cons, List.length_cons, List.length_nil, Nat.reduceAdd, Nat.reduceLeDiff, List.drop_succ_cons, List.take_zero, List.nil_append, List.append_nil, List.cons_append, and_self, Bool.false_eq_true, Nat.reduceBEq, and_true, true_and, ended, resV, rvOf, tupled, Bool.or_false, Bool.false_or, Bool.or_true, Bool.true_or, called, Bool.and_true, Bool.true_and, beq_self_eq_true, Int.toNat_natCast, Int.natCast_nonneg, skipped, AV.parts, fillO, chunks, List.replicate_succ, List.replicate_zero, List.flatten_cons, List.flatten_nil, Nat.reduceMul, Nat.zero_mul, Nat.mul_one, tailOf, appTo, AV.toOwn, AV.toD, D.scalar, List.all_cons, List.all_nil, rowF, Nat.zero_add, Nat.zero_le, List.getElem?_cons_succ, RV.avL, keepAll, keepOne, Bool.true_eq_false, hlt]
    rw [sameQ, List.drop_eq_nil_of_le (by omega), List.drop_eq_nil_of_le (by omega), if_pos rfl]
  | succ k ih =>
    intro i h
    rw [DL_loop]
    have hil : i < a.length := by omega
    have hil2 : i < b.length := by omega
    have hlt : ((i : Int) < (a.length : Int)) := by omega
    have hi : a[i]? = some a[i] := List.getElem?_eq_getElem hil
    have hj : b[i]? = some b[i] := List.getElem?_eq_getElem hil2
    have e := ih (i + 1) (by omega)
    generalize DL V (.loop m111l0) = G at ih e ⊢
    simp (config := {implicitDefEqProofs := false}) only [m111l0, entered, argRegs, DA.av, DL_r, DL_skip, DL_seq, DL_cond, condDL_b, DL_blk, DL_ex, DL_ret, DL_pre, DL_post, andThen_n, andThen_ex, andThen_ret, goN_eq, outOf_n, outOf_ret, outOf_ex, krun_nil, krun_cons, kstep, St.set, St.op, St.reg, klook, kput, kdel, killAll, Option.bind_some, Option.map_some, Option.bind_none, Option.map_none, Option.getD_some, ↓reduceIte, Nat.reduceEqDiff, Nat.reduceLT, List.length_map, binV, binI, binS, isSh, asInt', Option.bind_eq_bind, decide_eq_true_eq, St.new, St.unref, St.unlook, St.turn, St.gone, dropAll, AV.refs, AV.refsL, AV.looks, AV.looksL, AV.fr, AV.frL, List.filter_cons, List.filter_nil, Bool.not_false, Bool.not_true, cellsOf, cellOf, AV.cells, kcut, packed, viewOf, viewD, St.arg, St.one, allOf, List.map_cons, List.map_nil, RV.av, ite_bind', ite_map', List.getElem?_map, bind_map', BEq.rfl, List.getElem?_cons_zero, List.set_cons_zero, List.drop_zero, List.take_succ_cons, List.length_cons, List.length_nil, Nat.reduceAdd, Nat.reduceLeDiff, List.drop_succ_cons, List.take_zero, List.nil_append, List.append_nil, List.cons_append, and_self, Bool.false_eq_true, Nat.reduceBEq, and_true, true_and, ended, resV, rvOf, tupled, Bool.or_false, Bool.false_or, Bool.or_true, Bool.true_or, called, Bool.and_true, Bool.true_and, beq_self_eq_true, Int.toNat_natCast, Int.natCast_nonneg, skipped, AV.parts, fillO, chunks, List.replicate_succ, List.replicate_zero, List.flatten_cons, List.flatten_nil, Nat.reduceMul, Nat.zero_mul, Nat.mul_one, tailOf, appTo, AV.toOwn, AV.toD, D.scalar, List.all_cons, List.all_nil, rowF, Nat.zero_add, Nat.zero_le, List.getElem?_cons_succ, RV.avL, keepAll, keepOne, Bool.true_eq_false, hlt, hi, hj, encS, wrap_succ hil ha]
    by_cases c : a[i] = b[i]
    · simp only [c, ne_eq, not_true, decide_false, decide_true, Bool.not_true, if_false, Bool.false_eq_true]
      rw [e, sameQ, sameQ]
      simp only [same_drop hl hil, c, true_and]
    · simp only [c, ne_eq, not_false_iff, decide_false, decide_true, Bool.not_false, if_true]
      rw [sameQ, if_neg]
      rw [same_drop hl hil]; exact fun q => c q.1
theorem e111 (a b : List Tx) (ha : a.length ≤ 9223372036854775807) : V 111 [.one (.sl (a.map encS)), .one (.sl (b.map encS))] = some (false, .one (.b (same a b))) := by
  rw [V_eq (fn := m111) rfl]
  by_cases hl : a.length = b.length
  · have h := l111 a b hl ha a.length 0 (by omega)
    simp only [Int.natCast_zero] at h
    have hl' : (a.length : Int) = (b.length : Int) := by omega
    by_cases c : a = b
    · subst c
      have q : sameQ a a 0 = (.ex 0, ⟨[], []⟩) := by rw [sameQ]; simp
      rw [q] at h
      simp (config := {implicitDefEqProofs := false}) only [m111, entered, argRegs, DA.av, DL_r, DL_skip, DL_seq, DL_cond, condDL_b, DL_blk, DL_ex, DL_ret, DL_pre, DL_post, andThen_n, andThen_ex, andThen_ret, goN_eq, outOf_n, outOf_ret, outOf_ex, krun_nil, krun_cons, kstep, St.set, St.op, St.reg, klook, kput, kdel, killAll, Option.bind_some, Option.map_some, Option.bind_none, Option.map_none, Option.getD_some, ↓reduceIte, Nat.reduceEqDiff, Nat.reduceLT, List.length_map, binV, binI, binS, isSh, asInt', Option.bind_eq_bind, decide_eq_true_eq, St.new, St.unref, St.unlook, St.turn, St.gone, dropAll, AV.refs, AV.refsL, AV.looks, AV.looksL, AV.fr, AV.frL, List.filter_cons, List.filter_nil, Bool.not_false, Bool.not_true, cellsOf, cellOf, AV.cells, kcut, packed, viewOf, viewD, St.arg, St.one, allOf, List.map_cons, List.map_nil, RV.av, ite_bind', ite_map', List.getElem?_map, bind_map', BEq.rfl, List.getElem?_cons_zero, List.set_cons_zero, List.drop_zero, List.take_succ_cons, List.length_cons, List.length_nil, Nat.reduceAdd, Nat.reduceLeDiff, List.drop_succ_cons, List.take_zero, List.nil_append, List.append_nil, List.cons_append, and_self, Bool.false_eq_true, Nat.reduceBEq, and_true, true_and, ended, resV, rvOf, tupled, Bool.or_false, Bool.false_or, Bool.or_true, Bool.true_or, called, Bool.and_true, Bool.true_and, beq_self_eq_true, Int.toNat_natCast, Int.natCast_nonneg, skipped, AV.parts, fillO, chunks, List.replicate_succ, List.replicate_zero, List.flatten_cons, List.flatten_nil, Nat.reduceMul, Nat.zero_mul, Nat.mul_one, tailOf, appTo, AV.toOwn, AV.toD, D.scalar, List.all_cons, List.all_nil, rowF, Nat.zero_add, Nat.zero_le, List.getElem?_cons_succ, RV.avL, keepAll, keepOne, Bool.true_eq_false, h, ne_eq, not_true, decide_false, decide_true, same, Bool.not_true]
    · have q : sameQ a b 0 = (.ret, ⟨[(4, .d (.b false))], []⟩) := by rw [sameQ]; simp [c]
      rw [q] at h
      simp (config := {implicitDefEqProofs := false}) only [m111, entered, argRegs, DA.av, DL_r, DL_skip, DL_seq, DL_cond, condDL_b, DL_blk, DL_ex, DL_ret, DL_pre, DL_post, andThen_n, andThen_ex, andThen_ret, goN_eq, outOf_n, outOf_ret, outOf_ex, krun_nil, krun_cons, kstep, St.set, St.op, St.reg, klook, kput, kdel, killAll, Option.bind_some, Option.map_some, Option.bind_none, Option.map_none, Option.getD_some, ↓reduceIte, Nat.reduceEqDiff, Nat.reduceLT, List.length_map, binV, binI, binS, isSh, asInt', Option.bind_eq_bind, decide_eq_true_eq, St.new, St.unref, St.unlook, St.turn, St.gone, dropAll, AV.refs, AV.refsL, AV.looks, AV.looksL, AV.fr, AV.frL, List.filter_cons, List.filter_nil, Bool.not_false, Bool.not_true, cellsOf, cellOf, AV.cells, kcut, packed, viewOf, viewD, St.arg, St.one, allOf, List.map_cons, List.map_nil, RV.av, ite_bind', ite_map', List.getElem?_map, bind_map', BEq.rfl, List.getElem?_cons_zero, List.set_cons_zero, List.drop_zero, List.take_succ_cons, List.length_cons, List.length_nil, Nat.reduceAdd, Nat.reduceLeDiff, List.drop_succ_cons, List.take_zero, List.nil_append, List.append_nil, List.cons_append, and_self, Bool.false_eq_true, Nat.reduceBEq, and_true, true_and, ended, resV, rvOf, tupled, Bool.or_false, Bool.false_or, Bool.or_true, Bool.true_or, called, Bool.and_true, Bool.true_and, beq_self_eq_true, Int.toNat_natCast, Int.natCast_nonneg, skipped, AV.parts, fillO, chunks, List.replicate_succ, List.replicate_zero, List.flatten_cons, List.flatten_nil, Nat.reduceMul, Nat.zero_mul, Nat.mul_one, tailOf, appTo, AV.toOwn, AV.toD, D.scalar, List.all_cons, List.all_nil, rowF, Nat.zero_add, Nat.zero_le, List.getElem?_cons_succ, RV.avL, keepAll, keepOne, Bool.true_eq_false, h, hl', ne_eq, not_true, decide_false, decide_true, same, c, Bool.not_true]
  · have hl' : ¬ (a.length : Int) = (b.length : Int) := by omega
    have c : ¬ a = b := fun e => hl (by rw [e])
    simp (config := {implicitDefEqProofs := false}) only [m111, entered, argRegs, DA.av, DL_r, DL_skip, DL_seq, DL_cond, condDL_b, DL_blk, DL_ex, DL_ret, DL_pre, DL_post, andThen_n, andThen_ex, andThen_ret, goN_eq, outOf_n, outOf_ret, outOf_ex, krun_nil, krun_cons, kstep, St.set, St.op, St.reg, klook, kput, kdel, killAll, Option.bind_some, Option.map_some, Option.bind_none, Option.map_none, Option.getD_some, ↓reduceIte, Nat.reduceEqDiff, Nat.reduceLT, List.length_map, binV, binI, binS, isSh, asInt', Option.bind_eq_bind, decide_eq_true_eq, St.new, St.unref, St.unlook, St.turn, St.gone, dropAll, AV.refs, AV.refsL, AV.looks, AV.looksL, AV.fr, AV.frL, List.filter_cons, List.filter_nil, Bool.not_false, Bool.not_true, cellsOf, cellOf, AV.cells, kcut, packed, viewOf, viewD, St.arg, St.one, allOf, List.map_cons, List.map_nil, RV.av, ite_bind', ite_map', List.getElem?_map, bind_map', BEq.rfl, List.getElem?_cons_zero, List.set_cons_zero, List.drop_zero, List.take_succ_cons, List.length_cons, List.length_nil, Nat.reduceAdd, Nat.reduceLeDiff, List.drop_succ_cons, List.take_zero, List.nil_append, List.append_nil, List.cons_append, and_self, Bool.false_eq_true, Nat.reduceBEq, and_true, true_and, ended, resV, rvOf, tupled, Bool.or_false, Bool.false_or, Bool.or_true, Bool.true_or, called, Bool.and_true, Bool.true_and, beq_self_eq_true, Int.toNat_natCast, Int.natCast_nonneg, skipped, AV.parts, fillO, chunks, List.replicate_succ, List.replicate_zero, List.flatten_cons, List.flatten_nil, Nat.reduceMul, Nat.zero_mul, Nat.mul_one, tailOf, appTo, AV.toOwn, AV.toD, D.scalar, List.all_cons, List.all_nil, rowF, Nat.zero_add, Nat.zero_le, List.getElem?_cons_succ, RV.avL, keepAll, keepOne, Bool.true_eq_false, hl', ne_eq, not_false_iff, decide_false, decide_true, same, c, Bool.not_false]
theorem l114 (a b : List Tx) (hl : a.length = b.length) (ha : a.length ≤ 9223372036854775807) : ∀ (k i : Nat), i + k = a.length →
    DL V (.loop m114l0) ⟨[(13, .d (.i .i64 i)), (12, .d (.i .i64 a.length)), (1, .d (.sl (b.map encS))), (0, .d (.sl (a.map encS)))], []⟩ = some (sameQ a b i) := by
  intro k
  induction k with
  | zero =>
    intro i h
    rw [DL_loop]
    have hlt : ¬ ((i : Int) < (a.length : Int)) := by omega
    simp (config := {implicitDefEqProofs := false}) only [m114l0, entered, argRegs, DA.av, DL_r, DL_skip, DL_seq, DL_cond, condDL_b, DL_blk, DL_ex, DL_ret, DL_pre, DL_post, andThen_n, andThen_ex, andThen_ret, goN_eq, outOf_n, outOf_ret, outOf_ex, krun_nil, krun_cons, kstep, St.set, St.op, St.reg, klook, kput, kdel, killAll, Option.bind_some, Option.map_some, Option.bind_none, Option.map_none, Option.getD_some, ↓reduceIte, Nat.reduceEqDiff, Nat.reduceLT, List.length_map, binV, binI, binS, isSh, asInt', Option.bind_eq_bind, decide_eq_true_eq, St.new, St.unref, St.unlook, St.turn, St.gone, dropAll, AV.refs, AV.refsL, AV.looks, AV.looksL, AV.fr, AV.frL, List.filter_cons, List.filter_nil, Bool.not_false, Bool.not_true, cellsOf, cellOf, AV.cells, kcut, packed, viewOf, viewD, St.arg, St.one, allOf, List.map_cons, List.map_nil, RV.av, ite_bind', ite_map', List.getElem?_map, bind_map', BEq.rfl, List.getElem?_cons_zero, List.set_cons_zero, List.drop_zero, List.take_succ_cons, List.length_cons, List.length_nil, Nat.reduceAdd, Nat.reduceLeDiff, List.drop_succ_cons, List.take_zero, List.nil_append, List.append_nil, List.cons_append, and_self, Bool.false_eq_true, Nat.reduceBEq, and_true, true_and, ended, resV, rvOf, tupled, Bool.or_false, Bool.false_or, Bool.or_true, Bool.true_or, called, Bool.and_true, Bool.true_and, beq_self_eq_true, Int.toNat_natCast, Int.natCast_nonneg, skipped, AV.parts, fillO, chunks, List.replicate_succ, List.replicate_zero, List.flatten_cons, List.flatten_nil, Nat.reduceMul, Nat.zero_mul, Nat.mul_one, tailOf, appTo, AV.toOwn, AV.toD, D.scalar, List.all_cons, List.all_nil, rowF, Nat.zero_add, Nat.zero_le, List.getElem?_cons_succ, RV.avL, keepAll, keepOne, Bool.true_eq_false, hlt]
    rw [sameQ, List.drop_eq_nil_of_le (by omega), List.drop_eq_nil_of_le (by omega), if_pos rfl]
  | succ k ih =>
    intro i h
    rw [DL_loop]
    have hil : i < a.length := by omega
    have hil2 : i < b.length := by omega
    have hlt : ((i : Int) < (a.length : Int)) := by omega
    have hi : a[i]? = some a[i] := List.getElem?_eq_getElem hil
    have hj : b[i]? = some b[i] := List.getElem?_eq_getElem hil2
    have e := ih (i + 1) (by omega)
    generalize DL V (.loop m114l0) = G at ih e ⊢
    simp (config := {implicitDefEqProofs := false}) only [m114l0, entered, argRegs, DA.av, DL_r, DL_skip, DL_seq, DL_cond, condDL_b, DL_blk, DL_ex, DL_ret, DL_pre, DL_post, andThen_n, andThen_ex, andThen_ret, goN_eq, outOf_n, outOf_ret, outOf_ex, krun_nil, krun_cons, kstep, St.set, St.op, St.reg, klook, kput, kdel, killAll, Option.bind_some, Option.map_some, Option.bind_none, Option.map_none, Option.getD_some, ↓reduceIte, Nat.reduceEqDiff, Nat.reduceLT, List.length_map, binV, binI, binS, isSh, asInt', Option.bind_eq_bind, decide_eq_true_eq, St.new, St.unref, St.unlook, St.turn, St.gone, dropAll, AV.refs, AV.refsL, AV.looks, AV.looksL, AV.fr, AV.frL, List.filter_cons, List.filter_nil, Bool.not_false, Bool.not_true, cellsOf, cellOf, AV.cells, kcut, packed, viewOf, viewD, St.arg, St.one, allOf, List.map_cons, List.map_nil, RV.av, ite_bind', ite_map', List.getElem?_map, bind_map', BEq.rfl, List.getElem?_cons_zero, List.set_cons_zero, List.drop_zero, List.take_succ_cons, List.length_cons, List.length_nil, Nat.reduceAdd, Nat.reduceLeDiff, List.drop_succ_cons, List.take_zero, List.nil_append, List.append_nil, List.cons_append, and_self, Bool.false_eq_true, Nat.reduceBEq, and_true, true_and, ended, resV, rvOf, tupled, Bool.or_false, Bool.false_or, Bool.or_true, Bool.true_or, called, Bool.and_true, Bool.true_and, beq_self_eq_true, Int.toNat_natCast, Int.natCast_nonneg, skipped, AV.parts, fillO, chunks, List.replicate_succ, List.replicate_zero, List.flatten_cons, List.flatten_nil, Nat.reduceMul, Nat.zero_mul, Nat.mul_one, tailOf, appTo, AV.toOwn, AV.toD, D.scalar, List.all_cons, List.all_nil, rowF, Nat.zero_add, Nat.zero_le, List.getElem?_cons_succ, RV.avL, keepAll, keepOne, Bool.true_eq_false, hlt, hi, hj, encS, wrap_succ hil ha]
    by_cases c : a[i] = b[i]
    · simp only [c, ne_eq, not_true, decide_false, decide_true, Bool.not_true, if_false, Bool.false_eq_true]
      rw [e, sameQ, sameQ]
      simp only [same_drop hl hil, c, true_and]
    · simp only [c, ne_eq, not_false_iff, decide_false, decide_true, Bool.not_false, if_true]
      rw [sameQ, if_neg]
      rw [same_drop hl hil]; exact fun q => c q.1
theorem e114 (a b : List Tx) (ha : a.length ≤ 9223372036854775807) : V 114 [.one (.sl (a.map encS)), .one (.sl (b.map encS))] = some (false, .one (.b (same a b))) := by
  rw [V_eq (fn := m114) rfl]
  by_cases hl : a.length = b.length
  · have h := l114 a b hl ha a.length 0 (by omega)
    simp only [Int.natCast_zero] at h
    have hl' : (a.length : Int) = (b.length : Int) := by omega
    by_cases c : a = b
    · subst c
      have q : sameQ a a 0 = (.ex 0, ⟨[], []⟩) := by rw [sameQ]; simp
      rw [q] at h
      simp (config := {implicitDefEqProofs := false}) only [m114, entered, argRegs, DA.av, DL_r, DL_skip, DL_seq, DL_cond, condDL_b, DL_blk, DL_ex, DL_ret, DL_pre, DL_post, andThen_n, andThen_ex, andThen_ret, goN_eq, outOf_n, outOf_ret, outOf_ex, krun_nil, krun_cons, kstep, St.set, St.op, St.reg, klook, kput, kdel, killAll, Option.bind_some, Option.map_some, Option.bind_none, Option.map_none, Option.getD_some, ↓reduceIte, Nat.reduceEqDiff, Nat.reduceLT, List.length_map, binV, binI, binS, isSh, asInt', Option.bind_eq_bind, decide_eq_true_eq, St.new, St.unref, St.unlook, St.turn, St.gone, dropAll, AV.refs, AV.refsL, AV.looks, AV.looksL, AV.fr, AV.frL, List.filter_cons, List.filter_nil, Bool.not_false, Bool.not_true, cellsOf, cellOf, AV.cells, kcut, packed, viewOf, viewD, St.arg, St.one, allOf, List.map_cons, List.map_nil, RV.av, ite_bind', ite_map', List.getElem?_map, bind_map', BEq.rfl, List.getElem?_cons_zero, List.set_cons_zero, List.drop_zero, List.take_succ_cons, List.length_cons, List.length_nil, Nat.reduceAdd, Nat.reduceLeDiff, List.drop_succ_cons, List.take_zero, List.nil_append, List.append_nil, List.cons_append, and_self, Bool.false_eq_true, Nat.reduceBEq, and_true, true_and, ended, resV, rvOf, tupled, Bool.or_false, Bool.false_or, Bool.or_true, Bool.true_or, called, Bool.and_true, Bool.true_and, beq_self_eq_true, Int.toNat_natCast, Int.natCast_nonneg, skipped, AV.parts, fillO, chunks, List.replicate_succ, List.replicate_zero, List.flatten_cons, List.flatten_nil, Nat.reduceMul, Nat.zero_mul, Nat.mul_one, tailOf, appTo, AV.toOwn, AV.toD, D.scalar, List.all_cons, List.all_nil, rowF, Nat.zero_add, Nat.zero_le, List.getElem?_cons_succ, RV.avL, keepAll, keepOne, Bool.true_eq_false, h, ne_eq, not_true, decide_false, decide_true, same, Bool.not_true]
    · have q : sameQ a b 0 = (.ret, ⟨[(4, .d (.b false))], []⟩) := by rw [sameQ]; simp [c]
      rw [q, hl'] at h
      simp (config := {implicitDefEqProofs := false}) only [m114, entered, argRegs, DA.av, DL_r, DL_skip, DL_seq, DL_cond, condDL_b, DL_blk, DL_ex, DL_ret, DL_pre, DL_post, andThen_n, andThen_ex, andThen_ret, goN_eq, outOf_n, outOf_ret, outOf_ex, krun_nil, krun_cons, kstep, St.set, St.op, St.reg, klook, kput, kdel, killAll, Option.bind_some, Option.map_some, Option.bind_none, Option.map_none, Option.getD_some, ↓reduceIte, Nat.reduceEqDiff, Nat.reduceLT, List.length_map, binV, binI, binS, isSh, asInt', Option.bind_eq_bind, decide_eq_true_eq, St.new, St.unref, St.unlook, St.turn, St.gone, dropAll, AV.refs, AV.refsL, AV.looks, AV.looksL, AV.fr, AV.frL, List.filter_cons, List.filter_nil, Bool.not_false, Bool.not_true, cellsOf, cellOf, AV.cells, kcut, packed, viewOf, viewD, St.arg, St.one, allOf, List.map_cons, List.map_nil, RV.av, ite_bind', ite_map', List.getElem?_map, bind_map', BEq.rfl, List.getElem?_cons_zero, List.set_cons_zero, List.drop_zero, List.take_succ_cons, List.length_cons, List.length_nil, Nat.reduceAdd, Nat.reduceLeDiff, List.drop_succ_cons, List.take_zero, List.nil_append, List.append_nil, List.cons_append, and_self, Bool.false_eq_true, Nat.reduceBEq, and_true, true_and, ended, resV, rvOf, tupled, Bool.or_false, Bool.false_or, Bool.or_true, Bool.true_or, called, Bool.and_true, Bool.true_and, beq_self_eq_true, Int.toNat_natCast, Int.natCast_nonneg, skipped, AV.parts, fillO, chunks, List.replicate_succ, List.replicate_zero, List.flatten_cons, List.flatten_nil, Nat.reduceMul, Nat.zero_mul, Nat.mul_one, tailOf, appTo, AV.toOwn, AV.toD, D.scalar, List.all_cons, List.all_nil, rowF, Nat.zero_add, Nat.zero_le, List.getElem?_cons_succ, RV.avL, keepAll, keepOne, Bool.true_eq_false, h, hl', ne_eq, not_true, decide_false, decide_true, same, c, Bool.not_true]
  · have hl' : ¬ (a.length : Int) = (b.length : Int) := by omega
    have c : ¬ a = b := fun e => hl (by rw [e])
    simp (config := {implicitDefEqProofs := false}) only [m114, entered, argRegs, DA.av, DL_r, DL_skip, DL_seq, DL_cond, condDL_b, DL_blk, DL_ex, DL_ret, DL_pre, DL_post, andThen_n, andThen_ex, andThen_ret, goN_eq, outOf_n, outOf_ret, outOf_ex, krun_nil, krun_cons, kstep, St.set, St.op, St.reg, klook, kput, kdel, killAll, Option.bind_some, Option.map_some, Option.bind_none, Option.map_none, Option.getD_some, ↓reduceIte, Nat.reduceEqDiff, Nat.reduceLT, List.length_map, binV, binI, binS, isSh, asInt', Option.bind_eq_bind, decide_eq_true_eq, St.new, St.unref, St.unlook, St.turn, St.gone, dropAll, AV.refs, AV.refsL, AV.looks, AV.looksL, AV.fr, AV.frL, List.filter_cons, List.filter_nil, Bool.not_false, Bool.not_true, cellsOf, cellOf, AV.cells, kcut, packed, viewOf, viewD, St.arg, St.one, allOf, List.map_cons, List.map_nil, RV.av, ite_bind', ite_map', List.getElem?_map, bind_map', BEq.rfl, List.getElem?_cons_zero, List.set_cons_zero, List.drop_zero, List.take_succ_cons, List.length_cons, List.length_nil, Nat.reduceAdd, Nat.reduceLeDiff, List.drop_succ_cons, List.take_zero, List.nil_append, List.append_nil, List.cons_append, and_self, Bool.false_eq_true, Nat.reduceBEq, and_true, true_and, ended, resV, rvOf, tupled, Bool.or_false, Bool.false_or, Bool.or_true, Bool.true_or, called, Bool.and_true, Bool.true_and, beq_self_eq_true, Int.toNat_natCast, Int.natCast_nonneg, skipped, AV.parts, fillO, chunks, List.replicate_succ, List.replicate_zero, List.flatten_cons, List.flatten_nil, Nat.reduceMul, Nat.zero_mul, Nat.mul_one, tailOf, appTo, AV.toOwn, AV.toD, D.scalar, List.all_cons, List.all_nil, rowF, Nat.zero_add, Nat.zero_le, List.getElem?_cons_succ, RV.avL, keepAll, keepOne, Bool.true_eq_false, hl', ne_eq, not_false_iff, decide_false, decide_true, same, c, Bool.not_false]
end Go.Proofs.YtmccpbabpnffcaaK
