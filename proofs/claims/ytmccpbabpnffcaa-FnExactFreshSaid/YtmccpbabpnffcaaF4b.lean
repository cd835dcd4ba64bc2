import Derived.Test.YtmccpbabpnffcaaF4
set_option linter.unusedVariables false
set_option linter.unusedSimpArgs false
namespace Go.Proofs.YtmccpbabpnffcaaK
open Go.RowKit
def findR : List Rs → List Tx → Nat → Option (Nat × Rs)
  | [], _, _ => none
  | r :: t, p, i => if r.path = p then some (i, r) else findR t p (i + 1)
theorem findR_get : ∀ {t t' : List Rs} {p : List Tx} {i j : Nat} {r : Rs}, findR (t.drop i) p i = some (j, r) → t' = t.drop i → t[j]? = some r := by
  intro t t'
  induction t' generalizing t with
  | nil => intro p i j r h e; rw [← e] at h; simp [findR] at h
  | cons a l ih =>
    intro p i j r h e
    have hil : i < t.length := by
      rcases Nat.lt_or_ge i t.length with q | q
      · exact q
      · rw [List.drop_eq_nil_of_le q] at e; cases e
    rw [List.drop_eq_getElem_cons hil] at h e
    simp only [findR] at h
    split at h
    · simp only [Option.some.injEq, Prod.mk.injEq] at h
      obtain ⟨rfl, rfl⟩ := h
      exact List.getElem?_eq_getElem hil
    · exact ih h (List.cons.inj e).2
def kOf : Option (Nat × Rs) → Int
  | some (i, _) => i
  | none => -1
def fEx : Option (Nat × Rs) → Ex
  | some _ => .ret
  | none => .ex 0
def fRegs : Option (Nat × Rs) → List (Nat × AV)
  | some (i, _) => [(4, .d (.i .i64 i))]
  | none => []
theorem l58 (t : List Rs) (p : List Tx) (hl : t.length ≤ 9223372036854775807) (hp : ∀ r ∈ t, r.path.length ≤ 9223372036854775807) : ∀ (k i : Nat), i + k = t.length →
    DL V (.loop m58l0) ⟨[(5, .d (.i .i64 i)), (1, .d (.sl (p.map encS))), (0, .d (.sl (t.map encR)))], []⟩ = some (fEx (findR (t.drop i) p i), ⟨fRegs (findR (t.drop i) p i), []⟩) := by
  intro k
  induction k with
  | zero =>
    intro i h
    rw [DL_loop]
    have hlt : ¬ ((i : Int) < (t.length : Int)) := by omega
    rw [List.drop_eq_nil_of_le (by omega)]
    simp (config := {implicitDefEqProofs := false}) only [m58l0, entered, argRegs, DA.av, DL_r, DL_skip, DL_seq, DL_cond, condDL_b, DL_blk, DL_ex, DL_ret, DL_pre, DL_post, andThen_n, andThen_ex, andThen_ret, goN_eq, outOf_n, outOf_ret, outOf_ex, krun_nil, krun_cons, kstep, St.set, St.op, St.reg, klook, kput, kdel, killAll, Option.bind_some, Option.map_some, Option.bind_none, Option.map_none, Option.getD_some, ↓reduceIte, Nat.reduceEqDiff, Nat.reduceLT, List.length_map, binV, binI, binS, isSh, asInt', Option.bind_eq_bind, decide_eq_true_eq, St.new, St.unref, St.unlook, St.turn, St.gone, dropAll, AV.refs, AV.refsL, AV.looks, AV.looksL, AV.fr, AV.frL, List.filter_cons, List.filter_nil, Bool.not_false, Bool.not_true, cellsOf, cellOf, AV.cells, kcut, packed, viewOf, viewD, St.arg, St.one, allOf, List.map_cons, List.map_nil, RV.av, ite_bind', ite_map', List.getElem?_map, bind_map', BEq.rfl, List.getElem?_cons_zero, List.set_cons_zero, List.drop_zero, List.take_succ_cons, List.length_cons, List.length_nil, Nat.reduceAdd, Nat.reduceLeDiff, List.drop_succ_cons, List.take_zero, List.nil_append, List.append_nil, List.cons_append, and_self, Bool.false_eq_true, Nat.reduceBEq, and_true, true_and, ended, resV, rvOf, tupled, Bool.or_false, Bool.false_or, Bool.or_true, Bool.true_or, called, Bool.and_true, Bool.true_and, beq_self_eq_true, Int.toNat_natCast, Int.natCast_nonneg, skipped, AV.parts, fillO, chunks, List.replicate_succ, List.replicate_zero, List.flatten_cons, List.flatten_nil, Nat.reduceMul, Nat.zero_mul, Nat.mul_one, tailOf, appTo, AV.toOwn, AV.toD, D.scalar, List.all_cons, List.all_nil, rowF, Nat.zero_add, Nat.zero_le, List.getElem?_cons_succ, RV.avL, keepAll, keepOne, Bool.true_eq_false, hlt, findR, fEx, fRegs]
  | succ k ih =>
    intro i h
    rw [DL_loop]
    have hil : i < t.length := by omega
    have hlt : ((i : Int) < (t.length : Int)) := by omega
    have hi : t[i]? = some t[i] := List.getElem?_eq_getElem hil
    have hs := e111 t[i].path p (hp _ (List.getElem_mem hil))
    have e := ih (i + 1) (by omega)
    rw [List.drop_eq_getElem_cons hil]
    generalize DL V (.loop m58l0) = G at ih e ⊢
    by_cases c : t[i].path = p
    · simp only [same, c, decide_true] at hs
      simp (config := {implicitDefEqProofs := false}) only [m58l0, entered, argRegs, DA.av, DL_r, DL_skip, DL_seq, DL_cond, condDL_b, DL_blk, DL_ex, DL_ret, DL_pre, DL_post, andThen_n, andThen_ex, andThen_ret, goN_eq, outOf_n, outOf_ret, outOf_ex, krun_nil, krun_cons, kstep, St.set, St.op, St.reg, klook, kput, kdel, killAll, Option.bind_some, Option.map_some, Option.bind_none, Option.map_none, Option.getD_some, ↓reduceIte, Nat.reduceEqDiff, Nat.reduceLT, List.length_map, binV, binI, binS, isSh, asInt', Option.bind_eq_bind, decide_eq_true_eq, St.new, St.unref, St.unlook, St.turn, St.gone, dropAll, AV.refs, AV.refsL, AV.looks, AV.looksL, AV.fr, AV.frL, List.filter_cons, List.filter_nil, Bool.not_false, Bool.not_true, cellsOf, cellOf, AV.cells, kcut, packed, viewOf, viewD, St.arg, St.one, allOf, List.map_cons, List.map_nil, RV.av, ite_bind', ite_map', List.getElem?_map, bind_map', BEq.rfl, List.getElem?_cons_zero, List.set_cons_zero, List.drop_zero, List.take_succ_cons, List.length_cons, List.length_nil, Nat.reduceAdd, Nat.reduceLeDiff, List.drop_succ_cons, List.take_zero, List.nil_append, List.append_nil, List.cons_append, and_self, Bool.false_eq_true, Nat.reduceBEq, and_true, true_and, ended, resV, rvOf, tupled, Bool.or_false, Bool.false_or, Bool.or_true, Bool.true_or, called, Bool.and_true, Bool.true_and, beq_self_eq_true, Int.toNat_natCast, Int.natCast_nonneg, skipped, AV.parts, fillO, chunks, List.replicate_succ, List.replicate_zero, List.flatten_cons, List.flatten_nil, Nat.reduceMul, Nat.zero_mul, Nat.mul_one, tailOf, appTo, AV.toOwn, AV.toD, D.scalar, List.all_cons, List.all_nil, rowF, Nat.zero_add, Nat.zero_le, List.getElem?_cons_succ, RV.avL, keepAll, keepOne, Bool.true_eq_false, hlt, hi, encR, hs, c, wrap_succ hil hl, findR, fEx, fRegs]
    · simp only [same, c, decide_false] at hs
      simp (config := {implicitDefEqProofs := false}) only [m58l0, entered, argRegs, DA.av, DL_r, DL_skip, DL_seq, DL_cond, condDL_b, DL_blk, DL_ex, DL_ret, DL_pre, DL_post, andThen_n, andThen_ex, andThen_ret, goN_eq, outOf_n, outOf_ret, outOf_ex, krun_nil, krun_cons, kstep, St.set, St.op, St.reg, klook, kput, kdel, killAll, Option.bind_some, Option.map_some, Option.bind_none, Option.map_none, Option.getD_some, ↓reduceIte, Nat.reduceEqDiff, Nat.reduceLT, List.length_map, binV, binI, binS, isSh, asInt', Option.bind_eq_bind, decide_eq_true_eq, St.new, St.unref, St.unlook, St.turn, St.gone, dropAll, AV.refs, AV.refsL, AV.looks, AV.looksL, AV.fr, AV.frL, List.filter_cons, List.filter_nil, Bool.not_false, Bool.not_true, cellsOf, cellOf, AV.cells, kcut, packed, viewOf, viewD, St.arg, St.one, allOf, List.map_cons, List.map_nil, RV.av, ite_bind', ite_map', List.getElem?_map, bind_map', BEq.rfl, List.getElem?_cons_zero, List.set_cons_zero, List.drop_zero, List.take_succ_cons, List.length_cons, List.length_nil, Nat.reduceAdd, Nat.reduceLeDiff, List.drop_succ_cons, List.take_zero, List.nil_append, List.append_nil, List.cons_append, and_self, Bool.false_eq_true, Nat.reduceBEq, and_true, true_and, ended, resV, rvOf, tupled, Bool.or_false, Bool.false_or, Bool.or_true, Bool.true_or, called, Bool.and_true, Bool.true_and, beq_self_eq_true, Int.toNat_natCast, Int.natCast_nonneg, skipped, AV.parts, fillO, chunks, List.replicate_succ, List.replicate_zero, List.flatten_cons, List.flatten_nil, Nat.reduceMul, Nat.zero_mul, Nat.mul_one, tailOf, appTo, AV.toOwn, AV.toD, D.scalar, List.all_cons, List.all_nil, rowF, Nat.zero_add, Nat.zero_le, List.getElem?_cons_succ, RV.avL, keepAll, keepOne, Bool.true_eq_false, hlt, hi, encR, hs, c, wrap_succ hil hl, findR, if_false]
      exact e
theorem e58 (t : List Rs) (p : List Tx) (hl : t.length ≤ 9223372036854775807) (hp : ∀ r ∈ t, r.path.length ≤ 9223372036854775807) : V 58 [.one (.sl (t.map encR)), .one (.sl (p.map encS))] = some (false, .one (.i .i64 (kOf (findR t p 0)))) := by
  rw [V_eq (fn := m58) rfl]
  have h := l58 t p hl hp t.length 0 (by omega)
  simp only [Int.natCast_zero, List.drop_zero] at h
  cases hc : findR t p 0 <;> rw [hc] at h <;> simp only [fEx, fRegs] at h <;> simp (config := {implicitDefEqProofs := false}) only [m58, entered, argRegs, DA.av, DL_r, DL_skip, DL_seq, DL_cond, condDL_b, DL_blk, DL_ex, DL_ret, DL_pre, DL_post, andThen_n, andThen_ex, andThen_ret, goN_eq, outOf_n, outOf_ret, outOf_ex, krun_nil, krun_cons, kstep, St.set, St.op, St.reg, klook, kput, kdel, killAll, Option.bind_some, Option.map_some, Option.bind_none, Option.map_none, Option.getD_some, ↓reduceIte, Nat.reduceEqDiff, Nat.reduceLT, List.length_map, binV, binI, binS, isSh, asInt', Option.bind_eq_bind, decide_eq_true_eq, St.new, St.unref, St.unlook, St.turn, St.gone, dropAll, AV.refs, AV.refsL, AV.looks, AV.looksL, AV.fr, AV.frL, List.filter_cons, List.filter_nil, Bool.not_false, Bool.not_true, cellsOf, cellOf, AV.cells, kcut, packed, viewOf, viewD, St.arg, St.one, allOf, List.map_cons, List.map_nil, RV.av, ite_bind', ite_map', List.getElem?_map, bind_map', BEq.rfl, List.getElem?_cons_zero, List.set_cons_zero, List.drop_zero, List.take_succ_cons, List.length_cons, List.length_nil, Nat.reduceAdd, Nat.reduceLeDiff, List.drop_succ_cons, List.take_zero, List.nil_append, List.append_nil, List.cons_append, and_self, Bool.false_eq_true, Nat.reduceBEq, and_true, true_and, ended, resV, rvOf, tupled, Bool.or_false, Bool.false_or, Bool.or_true, Bool.true_or, called, Bool.and_true, Bool.true_and, beq_self_eq_true, Int.toNat_natCast, Int.natCast_nonneg, skipped, AV.parts, fillO, chunks, List.replicate_succ, List.replicate_zero, List.flatten_cons, List.flatten_nil, Nat.reduceMul, Nat.zero_mul, Nat.mul_one, tailOf, appTo, AV.toOwn, AV.toD, D.scalar, List.all_cons, List.all_nil, rowF, Nat.zero_add, Nat.zero_le, List.getElem?_cons_succ, RV.avL, keepAll, keepOne, Bool.true_eq_false, h, kOf]
theorem l62 (t : List Rs) (p : List Tx) (hl : t.length ≤ 9223372036854775807) (hp : ∀ r ∈ t, r.path.length ≤ 9223372036854775807) : ∀ (k i : Nat), i + k = t.length →
    ∃ ob, DL V (.loop m62l0) ⟨[(9, .d (.i .i64 i)), (8, .d (.i .i64 t.length)), (7, .d (.sl (t.map encR))), (1, .d (.sl (p.map encS)))], []⟩ = some (fEx (findR (t.drop i) p i), ⟨fRegs (findR (t.drop i) p i), ob⟩) := by
  intro k
  induction k with
  | zero =>
    intro i h
    rw [DL_loop]
    have hlt : ¬ ((i : Int) < (t.length : Int)) := by omega
    rw [List.drop_eq_nil_of_le (by omega)]
    simp (config := {implicitDefEqProofs := false}) only [m62l0, entered, argRegs, DA.av, DL_r, DL_skip, DL_seq, DL_cond, condDL_b, DL_blk, DL_ex, DL_ret, DL_pre, DL_post, andThen_n, andThen_ex, andThen_ret, goN_eq, outOf_n, outOf_ret, outOf_ex, krun_nil, krun_cons, kstep, St.set, St.op, St.reg, klook, kput, kdel, killAll, Option.bind_some, Option.map_some, Option.bind_none, Option.map_none, Option.getD_some, ↓reduceIte, Nat.reduceEqDiff, Nat.reduceLT, List.length_map, binV, binI, binS, isSh, asInt', Option.bind_eq_bind, decide_eq_true_eq, St.new, St.unref, St.unlook, St.turn, St.gone, dropAll, AV.refs, AV.refsL, AV.looks, AV.looksL, AV.fr, AV.frL, List.filter_cons, List.filter_nil, Bool.not_false, Bool.not_true, cellsOf, cellOf, AV.cells, kcut, packed, viewOf, viewD, St.arg, St.one, allOf, List.map_cons, List.map_nil, RV.av, ite_bind', ite_map', List.getElem?_map, bind_map', BEq.rfl, List.getElem?_cons_zero, List.set_cons_zero, List.drop_zero, List.take_succ_cons, List.length_cons, List.length_nil, Nat.reduceAdd, Nat.reduceLeDiff, List.drop_succ_cons, List.take_zero, List.nil_append, List.append_nil, List.cons_append, and_self, Bool.false_eq_true, Nat.reduceBEq, and_true, true_and, ended, resV, rvOf, tupled, Bool.or_false, Bool.false_or, Bool.or_true, Bool.true_or, called, Bool.and_true, Bool.true_and, beq_self_eq_true, Int.toNat_natCast, Int.natCast_nonneg, skipped, AV.parts, fillO, chunks, List.replicate_succ, List.replicate_zero, List.flatten_cons, List.flatten_nil, Nat.reduceMul, Nat.zero_mul, Nat.mul_one, tailOf, appTo, AV.toOwn, AV.toD, D.scalar, List.all_cons, List.all_nil, rowF, Nat.zero_add, Nat.zero_le, List.getElem?_cons_succ, RV.avL, keepAll, keepOne, Bool.true_eq_false, hlt, findR, fEx, fRegs]
    exact ⟨_, rfl⟩
  | succ k ih =>
    intro i h
    rw [DL_loop]
    have hil : i < t.length := by omega
    have hlt : ((i : Int) < (t.length : Int)) := by omega
    have hi : t[i]? = some t[i] := List.getElem?_eq_getElem hil
    have hs := e114 t[i].path p (hp _ (List.getElem_mem hil))
    have e := ih (i + 1) (by omega)
    rw [List.drop_eq_getElem_cons hil]
    generalize DL V (.loop m62l0) = G at ih e ⊢
    by_cases c : t[i].path = p
    · simp only [same, c, decide_true] at hs
      simp (config := {implicitDefEqProofs := false}) only [m62l0, entered, argRegs, DA.av, DL_r, DL_skip, DL_seq, DL_cond, condDL_b, DL_blk, DL_ex, DL_ret, DL_pre, DL_post, andThen_n, andThen_ex, andThen_ret, goN_eq, outOf_n, outOf_ret, outOf_ex, krun_nil, krun_cons, kstep, St.set, St.op, St.reg, klook, kput, kdel, killAll, Option.bind_some, Option.map_some, Option.bind_none, Option.map_none, Option.getD_some, ↓reduceIte, Nat.reduceEqDiff, Nat.reduceLT, List.length_map, binV, binI, binS, isSh, asInt', Option.bind_eq_bind, decide_eq_true_eq, St.new, St.unref, St.unlook, St.turn, St.gone, dropAll, AV.refs, AV.refsL, AV.looks, AV.looksL, AV.fr, AV.frL, List.filter_cons, List.filter_nil, Bool.not_false, Bool.not_true, cellsOf, cellOf, AV.cells, kcut, packed, viewOf, viewD, St.arg, St.one, allOf, List.map_cons, List.map_nil, RV.av, ite_bind', ite_map', List.getElem?_map, bind_map', BEq.rfl, List.getElem?_cons_zero, List.set_cons_zero, List.drop_zero, List.take_succ_cons, List.length_cons, List.length_nil, Nat.reduceAdd, Nat.reduceLeDiff, List.drop_succ_cons, List.take_zero, List.nil_append, List.append_nil, List.cons_append, and_self, Bool.false_eq_true, Nat.reduceBEq, and_true, true_and, ended, resV, rvOf, tupled, Bool.or_false, Bool.false_or, Bool.or_true, Bool.true_or, called, Bool.and_true, Bool.true_and, beq_self_eq_true, Int.toNat_natCast, Int.natCast_nonneg, skipped, AV.parts, fillO, chunks, List.replicate_succ, List.replicate_zero, List.flatten_cons, List.flatten_nil, Nat.reduceMul, Nat.zero_mul, Nat.mul_one, tailOf, appTo, AV.toOwn, AV.toD, D.scalar, List.all_cons, List.all_nil, rowF, Nat.zero_add, Nat.zero_le, List.getElem?_cons_succ, RV.avL, keepAll, keepOne, Bool.true_eq_false, hlt, hi, encR, hs, c, wrap_succ hil hl, findR, fEx, fRegs]
      exact ⟨_, rfl⟩
    · simp only [same, c, decide_false] at hs
      simp (config := {implicitDefEqProofs := false}) only [m62l0, entered, argRegs, DA.av, DL_r, DL_skip, DL_seq, DL_cond, condDL_b, DL_blk, DL_ex, DL_ret, DL_pre, DL_post, andThen_n, andThen_ex, andThen_ret, goN_eq, outOf_n, outOf_ret, outOf_ex, krun_nil, krun_cons, kstep, St.set, St.op, St.reg, klook, kput, kdel, killAll, Option.bind_some, Option.map_some, Option.bind_none, Option.map_none, Option.getD_some, ↓reduceIte, Nat.reduceEqDiff, Nat.reduceLT, List.length_map, binV, binI, binS, isSh, asInt', Option.bind_eq_bind, decide_eq_true_eq, St.new, St.unref, St.unlook, St.turn, St.gone, dropAll, AV.refs, AV.refsL, AV.looks, AV.looksL, AV.fr, AV.frL, List.filter_cons, List.filter_nil, Bool.not_false, Bool.not_true, cellsOf, cellOf, AV.cells, kcut, packed, viewOf, viewD, St.arg, St.one, allOf, List.map_cons, List.map_nil, RV.av, ite_bind', ite_map', List.getElem?_map, bind_map', BEq.rfl, List.getElem?_cons_zero, List.set_cons_zero, List.drop_zero, List.take_succ_cons, List.length_cons, List.length_nil, Nat.reduceAdd, Nat.reduceLeDiff, List.drop_succ_cons, List.take_zero, List.nil_append, List.append_nil, List.cons_append, and_self, Bool.false_eq_true, Nat.reduceBEq, and_true, true_and, ended, resV, rvOf, tupled, Bool.or_false, Bool.false_or, Bool.or_true, Bool.true_or, called, Bool.and_true, Bool.true_and, beq_self_eq_true, Int.toNat_natCast, Int.natCast_nonneg, skipped, AV.parts, fillO, chunks, List.replicate_succ, List.replicate_zero, List.flatten_cons, List.flatten_nil, Nat.reduceMul, Nat.zero_mul, Nat.mul_one, tailOf, appTo, AV.toOwn, AV.toD, D.scalar, List.all_cons, List.all_nil, rowF, Nat.zero_add, Nat.zero_le, List.getElem?_cons_succ, RV.avL, keepAll, keepOne, Bool.true_eq_false, hlt, hi, encR, hs, c, wrap_succ hil hl, findR, if_false]
      exact e
theorem e62 (t : List Rs) (p : List Tx) (hl : t.length ≤ 9223372036854775807) (hp : ∀ r ∈ t, r.path.length ≤ 9223372036854775807) : V 62 [.one (.sl (t.map encR)), .one (.sl (p.map encS))] = some (false, .one (.i .i64 (kOf (findR t p 0)))) := by
  rw [V_eq (fn := m62) rfl]
  obtain ⟨ob, h⟩ := l62 t p hl hp t.length 0 (by omega)
  simp only [Int.natCast_zero, List.drop_zero] at h
  cases hc : findR t p 0 <;> rw [hc] at h <;> simp only [fEx, fRegs] at h <;> simp (config := {implicitDefEqProofs := false}) only [m62, entered, argRegs, DA.av, DL_r, DL_skip, DL_seq, DL_cond, condDL_b, DL_blk, DL_ex, DL_ret, DL_pre, DL_post, andThen_n, andThen_ex, andThen_ret, goN_eq, outOf_n, outOf_ret, outOf_ex, krun_nil, krun_cons, kstep, St.set, St.op, St.reg, klook, kput, kdel, killAll, Option.bind_some, Option.map_some, Option.bind_none, Option.map_none, Option.getD_some, ↓reduceIte, Nat.reduceEqDiff, Nat.reduceLT, List.length_map, binV, binI, binS, isSh, asInt', Option.bind_eq_bind, decide_eq_true_eq, St.new, St.unref, St.unlook, St.turn, St.gone, dropAll, AV.refs, AV.refsL, AV.looks, AV.looksL, AV.fr, AV.frL, List.filter_cons, List.filter_nil, Bool.not_false, Bool.not_true, cellsOf, cellOf, AV.cells, kcut, packed, viewOf, viewD, St.arg, St.one, allOf, List.map_cons, List.map_nil, RV.av, ite_bind', ite_map', List.getElem?_map, bind_map', BEq.rfl, List.getElem?_cons_zero, List.set_cons_zero, List.drop_zero, List.take_succ_cons, List.length_cons, List.length_nil, Nat.reduceAdd, Nat.reduceLeDiff, List.drop_succ_cons, List.take_zero, List.nil_append, List.append_nil, List.cons_append, and_self, Bool.false_eq_true, Nat.reduceBEq, and_true, true_and, ended, resV, rvOf, tupled, Bool.or_false, Bool.false_or, Bool.or_true, Bool.true_or, called, Bool.and_true, Bool.true_and, beq_self_eq_true, Int.toNat_natCast, Int.natCast_nonneg, skipped, AV.parts, fillO, chunks, List.replicate_succ, List.replicate_zero, List.flatten_cons, List.flatten_nil, Nat.reduceMul, Nat.zero_mul, Nat.mul_one, tailOf, appTo, AV.toOwn, AV.toD, D.scalar, List.all_cons, List.all_nil, rowF, Nat.zero_add, Nat.zero_le, List.getElem?_cons_succ, RV.avL, keepAll, keepOne, Bool.true_eq_false, h, kOf]
/-- Fresh -/
structure Sv where
  t : List Rs
  l : List (List D)
  now : Int
  ver : Int
  dr : List (List D)
  us : List (List D)
def encV (s : Sv) : List D := [.sl (s.t.map encR), .sl s.l, .i .i64 s.now, .i .i64 s.ver, .sl s.dr, .sl s.us]
def rowV (s : Sv) : List AV := [.d (.sl (s.t.map encR)), .d (.sl s.l), .d (.i .i64 s.now), .d (.i .i64 s.ver), .d (.sl s.dr), .d (.sl s.us)]
def bad (t : List Rs) (r : Rs) : Bool := match findR t r.path 0 with
  | none => false
  | some (_, q) => !r.coll && !q.coll && decide (r.ver = q.ver) && !decide (r.body = q.body)
def bEx : Bool → Ex
  | true => .ret
  | false => .ex 0
def bRegs : Bool → List (Nat × AV)
  | true => [(4, .d (.b false))]
  | false => [(3, .p 3 0 0), (2, .p 2 0 0)]
theorem neg1 : ¬ ((0 : Int) ≤ -1) := by omega
theorem neg1' : (-1 : Int) < 0 := by omega
theorem nneg (j : Nat) : ¬ ((j : Int) < 0) := by omega
set_option maxRecDepth 100000 in
set_option maxHeartbeats 4000000 in
theorem l14a (a b : Sv) (hla : a.t.length ≤ 9223372036854775807) (hlb : b.t.length ≤ 9223372036854775807) (hpb : ∀ r ∈ b.t, r.path.length ≤ 9223372036854775807) {i : Nat} (hil : i < a.t.length) {r : Rs} (hi : a.t[i]? = some r) (hf : findR b.t r.path 0 = none) : DL V m14l0 ⟨[(5, .d (.i .i64 i)), (3, .p 3 0 0), (2, .p 2 0 0)], [(3, ⟨6, [rowV b]⟩), (2, ⟨6, [rowV a]⟩)]⟩ = some (.n, ⟨[(5, .d (.i .i64 (i + 1 : Nat))), (3, .p 3 0 0), (2, .p 2 0 0)], [(3, ⟨6, [rowV b]⟩), (2, ⟨6, [rowV a]⟩)]⟩) := by
  have hlt : ((i : Int) < (a.t.length : Int)) := by omega
  have hs := e58 b.t r.path hlb hpb
  rw [hf] at hs
  simp only [kOf] at hs
  simp (config := {implicitDefEqProofs := false}) only [m14l0, entered, argRegs, DA.av, DL_r, DL_skip, DL_seq, DL_cond, condDL_b, DL_blk, DL_ex, DL_ret, DL_pre, DL_post, andThen_n, andThen_ex, andThen_ret, goN_eq, outOf_n, outOf_ret, outOf_ex, krun_nil, krun_cons, kstep, St.set, St.op, St.reg, klook, kput, kdel, killAll, Option.bind_some, Option.map_some, Option.bind_none, Option.map_none, Option.getD_some, ↓reduceIte, Nat.reduceEqDiff, Nat.reduceLT, List.length_map, binV, binI, binS, isSh, asInt', Option.bind_eq_bind, decide_eq_true_eq, St.new, St.unref, St.unlook, St.turn, St.gone, dropAll, AV.refs, AV.refsL, AV.looks, AV.looksL, AV.fr, AV.frL, List.filter_cons, List.filter_nil, Bool.not_false, Bool.not_true, cellsOf, cellOf, AV.cells, kcut, packed, viewOf, viewD, St.arg, St.one, allOf, List.map_cons, List.map_nil, RV.av, ite_bind', ite_map', List.getElem?_map, bind_map', BEq.rfl, List.getElem?_cons_zero, List.set_cons_zero, List.drop_zero, List.take_succ_cons, List.length_cons, List.length_nil, Nat.reduceAdd, Nat.reduceLeDiff, List.drop_succ_cons, List.take_zero, List.nil_append, List.append_nil, List.cons_append, and_self, Bool.false_eq_true, Nat.reduceBEq, and_true, true_and, ended, resV, rvOf, tupled, Bool.or_false, Bool.false_or, Bool.or_true, Bool.true_or, called, Bool.and_true, Bool.true_and, beq_self_eq_true, Int.toNat_natCast, Int.natCast_nonneg, skipped, AV.parts, fillO, chunks, List.replicate_succ, List.replicate_zero, List.flatten_cons, List.flatten_nil, Nat.reduceMul, Nat.zero_mul, Nat.mul_one, tailOf, appTo, AV.toOwn, AV.toD, D.scalar, List.all_cons, List.all_nil, rowF, Nat.zero_add, Nat.zero_le, List.getElem?_cons_succ, RV.avL, keepAll, keepOne, Bool.true_eq_false, rowV, hlt, hi, encR, hs, wrap_succ hil hla, neg1, decide_false, pickV]
set_option maxRecDepth 100000 in
set_option maxHeartbeats 4000000 in
theorem l14b (a b : Sv) (hla : a.t.length ≤ 9223372036854775807) (hlb : b.t.length ≤ 9223372036854775807) (hpb : ∀ r ∈ b.t, r.path.length ≤ 9223372036854775807) {i : Nat} (hil : i < a.t.length) {r : Rs} (hi : a.t[i]? = some r) {j : Nat} {q : Rs} (hf : findR b.t r.path 0 = some (j, q)) (hc : r.coll = true) : DL V m14l0 ⟨[(5, .d (.i .i64 i)), (3, .p 3 0 0), (2, .p 2 0 0)], [(3, ⟨6, [rowV b]⟩), (2, ⟨6, [rowV a]⟩)]⟩ = some (.n, ⟨[(5, .d (.i .i64 (i + 1 : Nat))), (3, .p 3 0 0), (2, .p 2 0 0)], [(3, ⟨6, [rowV b]⟩), (2, ⟨6, [rowV a]⟩)]⟩) := by
  have hlt : ((i : Int) < (a.t.length : Int)) := by omega
  have hs := e58 b.t r.path hlb hpb
  have hj : b.t[j]? = some q := findR_get (t := b.t) (i := 0) (by simpa using hf) rfl
  rw [hf] at hs
  simp only [kOf] at hs
  simp (config := {implicitDefEqProofs := false}) only [m14l0, entered, argRegs, DA.av, DL_r, DL_skip, DL_seq, DL_cond, condDL_b, DL_blk, DL_ex, DL_ret, DL_pre, DL_post, andThen_n, andThen_ex, andThen_ret, goN_eq, outOf_n, outOf_ret, outOf_ex, krun_nil, krun_cons, kstep, St.set, St.op, St.reg, klook, kput, kdel, killAll, Option.bind_some, Option.map_some, Option.bind_none, Option.map_none, Option.getD_some, ↓reduceIte, Nat.reduceEqDiff, Nat.reduceLT, List.length_map, binV, binI, binS, isSh, asInt', Option.bind_eq_bind, decide_eq_true_eq, St.new, St.unref, St.unlook, St.turn, St.gone, dropAll, AV.refs, AV.refsL, AV.looks, AV.looksL, AV.fr, AV.frL, List.filter_cons, List.filter_nil, Bool.not_false, Bool.not_true, cellsOf, cellOf, AV.cells, kcut, packed, viewOf, viewD, St.arg, St.one, allOf, List.map_cons, List.map_nil, RV.av, ite_bind', ite_map', List.getElem?_map, bind_map', BEq.rfl, List.getElem?_cons_zero, List.set_cons_zero, List.drop_zero, List.take_succ_cons, List.length_cons, List.length_nil, Nat.reduceAdd, Nat.reduceLeDiff, List.drop_succ_cons, List.take_zero, List.nil_append, List.append_nil, List.cons_append, and_self, Bool.false_eq_true, Nat.reduceBEq, and_true, true_and, ended, resV, rvOf, tupled, Bool.or_false, Bool.false_or, Bool.or_true, Bool.true_or, called, Bool.and_true, Bool.true_and, beq_self_eq_true, Int.toNat_natCast, Int.natCast_nonneg, skipped, AV.parts, fillO, chunks, List.replicate_succ, List.replicate_zero, List.flatten_cons, List.flatten_nil, Nat.reduceMul, Nat.zero_mul, Nat.mul_one, tailOf, appTo, AV.toOwn, AV.toD, D.scalar, List.all_cons, List.all_nil, rowF, Nat.zero_add, Nat.zero_le, List.getElem?_cons_succ, RV.avL, keepAll, keepOne, Bool.true_eq_false, rowV, hlt, hi, hj, encR, hs, wrap_succ hil hla, pickV, hc, decide_true, decide_false, ne_eq, not_true, not_false_iff, Bool.not_true, Bool.not_false]
set_option maxRecDepth 100000 in
set_option maxHeartbeats 4000000 in
theorem l14c (a b : Sv) (hla : a.t.length ≤ 9223372036854775807) (hlb : b.t.length ≤ 9223372036854775807) (hpb : ∀ r ∈ b.t, r.path.length ≤ 9223372036854775807) {i : Nat} (hil : i < a.t.length) {r : Rs} (hi : a.t[i]? = some r) {j : Nat} {q : Rs} (hf : findR b.t r.path 0 = some (j, q)) (hc : r.coll = false) (hq : q.coll = true) : DL V m14l0 ⟨[(5, .d (.i .i64 i)), (3, .p 3 0 0), (2, .p 2 0 0)], [(3, ⟨6, [rowV b]⟩), (2, ⟨6, [rowV a]⟩)]⟩ = some (.n, ⟨[(5, .d (.i .i64 (i + 1 : Nat))), (3, .p 3 0 0), (2, .p 2 0 0)], [(3, ⟨6, [rowV b]⟩), (2, ⟨6, [rowV a]⟩)]⟩) := by
  have hlt : ((i : Int) < (a.t.length : Int)) := by omega
  have hs := e58 b.t r.path hlb hpb
  have hj : b.t[j]? = some q := findR_get (t := b.t) (i := 0) (by simpa using hf) rfl
  rw [hf] at hs
  simp only [kOf] at hs
  simp (config := {implicitDefEqProofs := false}) only [m14l0, entered, argRegs, DA.av, DL_r, DL_skip, DL_seq, DL_cond, condDL_b, DL_blk, DL_ex, DL_ret, DL_pre, DL_post, andThen_n, andThen_ex, andThen_ret, goN_eq, outOf_n, outOf_ret, outOf_ex, krun_nil, krun_cons, kstep, St.set, St.op, St.reg, klook, kput, kdel, killAll, Option.bind_some, Option.map_some, Option.bind_none, Option.map_none, Option.getD_some, ↓reduceIte, Nat.reduceEqDiff, Nat.reduceLT, List.length_map, binV, binI, binS, isSh, asInt', Option.bind_eq_bind, decide_eq_true_eq, St.new, St.unref, St.unlook, St.turn, St.gone, dropAll, AV.refs, AV.refsL, AV.looks, AV.looksL, AV.fr, AV.frL, List.filter_cons, List.filter_nil, Bool.not_false, Bool.not_true, cellsOf, cellOf, AV.cells, kcut, packed, viewOf, viewD, St.arg, St.one, allOf, List.map_cons, List.map_nil, RV.av, ite_bind', ite_map', List.getElem?_map, bind_map', BEq.rfl, List.getElem?_cons_zero, List.set_cons_zero, List.drop_zero, List.take_succ_cons, List.length_cons, List.length_nil, Nat.reduceAdd, Nat.reduceLeDiff, List.drop_succ_cons, List.take_zero, List.nil_append, List.append_nil, List.cons_append, and_self, Bool.false_eq_true, Nat.reduceBEq, and_true, true_and, ended, resV, rvOf, tupled, Bool.or_false, Bool.false_or, Bool.or_true, Bool.true_or, called, Bool.and_true, Bool.true_and, beq_self_eq_true, Int.toNat_natCast, Int.natCast_nonneg, skipped, AV.parts, fillO, chunks, List.replicate_succ, List.replicate_zero, List.flatten_cons, List.flatten_nil, Nat.reduceMul, Nat.zero_mul, Nat.mul_one, tailOf, appTo, AV.toOwn, AV.toD, D.scalar, List.all_cons, List.all_nil, rowF, Nat.zero_add, Nat.zero_le, List.getElem?_cons_succ, RV.avL, keepAll, keepOne, Bool.true_eq_false, rowV, hlt, hi, hj, encR, hs, wrap_succ hil hla, pickV, hc, hq, decide_true, decide_false, ne_eq, not_true, not_false_iff, Bool.not_true, Bool.not_false]
set_option maxRecDepth 100000 in
set_option maxHeartbeats 4000000 in
theorem l14d (a b : Sv) (hla : a.t.length ≤ 9223372036854775807) (hlb : b.t.length ≤ 9223372036854775807) (hpb : ∀ r ∈ b.t, r.path.length ≤ 9223372036854775807) {i : Nat} (hil : i < a.t.length) {r : Rs} (hi : a.t[i]? = some r) {j : Nat} {q : Rs} (hf : findR b.t r.path 0 = some (j, q)) (hc : r.coll = false) (hq : q.coll = false) (hv : ¬ r.ver = q.ver) : DL V m14l0 ⟨[(5, .d (.i .i64 i)), (3, .p 3 0 0), (2, .p 2 0 0)], [(3, ⟨6, [rowV b]⟩), (2, ⟨6, [rowV a]⟩)]⟩ = some (.n, ⟨[(5, .d (.i .i64 (i + 1 : Nat))), (3, .p 3 0 0), (2, .p 2 0 0)], [(3, ⟨6, [rowV b]⟩), (2, ⟨6, [rowV a]⟩)]⟩) := by
  have hlt : ((i : Int) < (a.t.length : Int)) := by omega
  have hs := e58 b.t r.path hlb hpb
  have hj : b.t[j]? = some q := findR_get (t := b.t) (i := 0) (by simpa using hf) rfl
  rw [hf] at hs
  simp only [kOf] at hs
  simp (config := {implicitDefEqProofs := false}) only [m14l0, entered, argRegs, DA.av, DL_r, DL_skip, DL_seq, DL_cond, condDL_b, DL_blk, DL_ex, DL_ret, DL_pre, DL_post, andThen_n, andThen_ex, andThen_ret, goN_eq, outOf_n, outOf_ret, outOf_ex, krun_nil, krun_cons, kstep, St.set, St.op, St.reg, klook, kput, kdel, killAll, Option.bind_some, Option.map_some, Option.bind_none, Option.map_none, Option.getD_some, ↓reduceIte, Nat.reduceEqDiff, Nat.reduceLT, List.length_map, binV, binI, binS, isSh, asInt', Option.bind_eq_bind, decide_eq_true_eq, St.new, St.unref, St.unlook, St.turn, St.gone, dropAll, AV.refs, AV.refsL, AV.looks, AV.looksL, AV.fr, AV.frL, List.filter_cons, List.filter_nil, Bool.not_false, Bool.not_true, cellsOf, cellOf, AV.cells, kcut, packed, viewOf, viewD, St.arg, St.one, allOf, List.map_cons, List.map_nil, RV.av, ite_bind', ite_map', List.getElem?_map, bind_map', BEq.rfl, List.getElem?_cons_zero, List.set_cons_zero, List.drop_zero, List.take_succ_cons, List.length_cons, List.length_nil, Nat.reduceAdd, Nat.reduceLeDiff, List.drop_succ_cons, List.take_zero, List.nil_append, List.append_nil, List.cons_append, and_self, Bool.false_eq_true, Nat.reduceBEq, and_true, true_and, ended, resV, rvOf, tupled, Bool.or_false, Bool.false_or, Bool.or_true, Bool.true_or, called, Bool.and_true, Bool.true_and, beq_self_eq_true, Int.toNat_natCast, Int.natCast_nonneg, skipped, AV.parts, fillO, chunks, List.replicate_succ, List.replicate_zero, List.flatten_cons, List.flatten_nil, Nat.reduceMul, Nat.zero_mul, Nat.mul_one, tailOf, appTo, AV.toOwn, AV.toD, D.scalar, List.all_cons, List.all_nil, rowF, Nat.zero_add, Nat.zero_le, List.getElem?_cons_succ, RV.avL, keepAll, keepOne, Bool.true_eq_false, rowV, hlt, hi, hj, encR, hs, wrap_succ hil hla, pickV, hc, hq, hv, decide_true, decide_false, ne_eq, not_true, not_false_iff, Bool.not_true, Bool.not_false]
set_option maxRecDepth 100000 in
set_option maxHeartbeats 4000000 in
theorem l14e (a b : Sv) (hla : a.t.length ≤ 9223372036854775807) (hlb : b.t.length ≤ 9223372036854775807) (hpb : ∀ r ∈ b.t, r.path.length ≤ 9223372036854775807) {i : Nat} (hil : i < a.t.length) {r : Rs} (hi : a.t[i]? = some r) {j : Nat} {q : Rs} (hf : findR b.t r.path 0 = some (j, q)) (hc : r.coll = false) (hq : q.coll = false) (hv : r.ver = q.ver) (hb : r.body = q.body) : DL V m14l0 ⟨[(5, .d (.i .i64 i)), (3, .p 3 0 0), (2, .p 2 0 0)], [(3, ⟨6, [rowV b]⟩), (2, ⟨6, [rowV a]⟩)]⟩ = some (.n, ⟨[(5, .d (.i .i64 (i + 1 : Nat))), (3, .p 3 0 0), (2, .p 2 0 0)], [(3, ⟨6, [rowV b]⟩), (2, ⟨6, [rowV a]⟩)]⟩) := by
  have hlt : ((i : Int) < (a.t.length : Int)) := by omega
  have hs := e58 b.t r.path hlb hpb
  have hj : b.t[j]? = some q := findR_get (t := b.t) (i := 0) (by simpa using hf) rfl
  rw [hf] at hs
  simp only [kOf] at hs
  simp (config := {implicitDefEqProofs := false}) only [m14l0, entered, argRegs, DA.av, DL_r, DL_skip, DL_seq, DL_cond, condDL_b, DL_blk, DL_ex, DL_ret, DL_pre, DL_post, andThen_n, andThen_ex, andThen_ret, goN_eq, outOf_n, outOf_ret, outOf_ex, krun_nil, krun_cons, kstep, St.set, St.op, St.reg, klook, kput, kdel, killAll, Option.bind_some, Option.map_some, Option.bind_none, Option.map_none, Option.getD_some, ↓reduceIte, Nat.reduceEqDiff, Nat.reduceLT, List.length_map, binV, binI, binS, isSh, asInt', Option.bind_eq_bind, decide_eq_true_eq, St.new, St.unref, St.unlook, St.turn, St.gone, dropAll, AV.refs, AV.refsL, AV.looks, AV.looksL, AV.fr, AV.frL, List.filter_cons, List.filter_nil, Bool.not_false, Bool.not_true, cellsOf, cellOf, AV.cells, kcut, packed, viewOf, viewD, St.arg, St.one, allOf, List.map_cons, List.map_nil, RV.av, ite_bind', ite_map', List.getElem?_map, bind_map', BEq.rfl, List.getElem?_cons_zero, List.set_cons_zero, List.drop_zero, List.take_succ_cons, List.length_cons, List.length_nil, Nat.reduceAdd, Nat.reduceLeDiff, List.drop_succ_cons, List.take_zero, List.nil_append, List.append_nil, List.cons_append, and_self, Bool.false_eq_true, Nat.reduceBEq, and_true, true_and, ended, resV, rvOf, tupled, Bool.or_false, Bool.false_or, Bool.or_true, Bool.true_or, called, Bool.and_true, Bool.true_and, beq_self_eq_true, Int.toNat_natCast, Int.natCast_nonneg, skipped, AV.parts, fillO, chunks, List.replicate_succ, List.replicate_zero, List.flatten_cons, List.flatten_nil, Nat.reduceMul, Nat.zero_mul, Nat.mul_one, tailOf, appTo, AV.toOwn, AV.toD, D.scalar, List.all_cons, List.all_nil, rowF, Nat.zero_add, Nat.zero_le, List.getElem?_cons_succ, RV.avL, keepAll, keepOne, Bool.true_eq_false, rowV, hlt, hi, hj, encR, hs, wrap_succ hil hla, pickV, hc, hq, hv, hb, decide_true, decide_false, ne_eq, not_true, not_false_iff, Bool.not_true, Bool.not_false]
set_option maxRecDepth 100000 in
set_option maxHeartbeats 4000000 in
theorem l14f (a b : Sv) (hla : a.t.length ≤ 9223372036854775807) (hlb : b.t.length ≤ 9223372036854775807) (hpb : ∀ r ∈ b.t, r.path.length ≤ 9223372036854775807) {i : Nat} (hil : i < a.t.length) {r : Rs} (hi : a.t[i]? = some r) {j : Nat} {q : Rs} (hf : findR b.t r.path 0 = some (j, q)) (hc : r.coll = false) (hq : q.coll = false) (hv : r.ver = q.ver) (hb : ¬ r.body = q.body) : DL V m14l0 ⟨[(5, .d (.i .i64 i)), (3, .p 3 0 0), (2, .p 2 0 0)], [(3, ⟨6, [rowV b]⟩), (2, ⟨6, [rowV a]⟩)]⟩ = some (.ret, ⟨[(4, .d (.b false))], [(3, ⟨6, [rowV b]⟩), (2, ⟨6, [rowV a]⟩)]⟩) := by
  have hlt : ((i : Int) < (a.t.length : Int)) := by omega
  have hs := e58 b.t r.path hlb hpb
  have hj : b.t[j]? = some q := findR_get (t := b.t) (i := 0) (by simpa using hf) rfl
  rw [hf] at hs
  simp only [kOf] at hs
  simp (config := {implicitDefEqProofs := false}) only [m14l0, entered, argRegs, DA.av, DL_r, DL_skip, DL_seq, DL_cond, condDL_b, DL_blk, DL_ex, DL_ret, DL_pre, DL_post, andThen_n, andThen_ex, andThen_ret, goN_eq, outOf_n, outOf_ret, outOf_ex, krun_nil, krun_cons, kstep, St.set, St.op, St.reg, klook, kput, kdel, killAll, Option.bind_some, Option.map_some, Option.bind_none, Option.map_none, Option.getD_some, ↓reduceIte, Nat.reduceEqDiff, Nat.reduceLT, List.length_map, binV, binI, binS, isSh, asInt', Option.bind_eq_bind, decide_eq_true_eq, St.new, St.unref, St.unlook, St.turn, St.gone, dropAll, AV.refs, AV.refsL, AV.looks, AV.looksL, AV.fr, AV.frL, List.filter_cons, List.filter_nil, Bool.not_false, Bool.not_true, cellsOf, cellOf, AV.cells, kcut, packed, viewOf, viewD, St.arg, St.one, allOf, List.map_cons, List.map_nil, RV.av, ite_bind', ite_map', List.getElem?_map, bind_map', BEq.rfl, List.getElem?_cons_zero, List.set_cons_zero, List.drop_zero, List.take_succ_cons, List.length_cons, List.length_nil, Nat.reduceAdd, Nat.reduceLeDiff, List.drop_succ_cons, List.take_zero, List.nil_append, List.append_nil, List.cons_append, and_self, Bool.false_eq_true, Nat.reduceBEq, and_true, true_and, ended, resV, rvOf, tupled, Bool.or_false, Bool.false_or, Bool.or_true, Bool.true_or, called, Bool.and_true, Bool.true_and, beq_self_eq_true, Int.toNat_natCast, Int.natCast_nonneg, skipped, AV.parts, fillO, chunks, List.replicate_succ, List.replicate_zero, List.flatten_cons, List.flatten_nil, Nat.reduceMul, Nat.zero_mul, Nat.mul_one, tailOf, appTo, AV.toOwn, AV.toD, D.scalar, List.all_cons, List.all_nil, rowF, Nat.zero_add, Nat.zero_le, List.getElem?_cons_succ, RV.avL, keepAll, keepOne, Bool.true_eq_false, rowV, hlt, hi, hj, encR, hs, wrap_succ hil hla, pickV, hc, hq, hv, hb, decide_true, decide_false, ne_eq, not_true, not_false_iff, Bool.not_true, Bool.not_false]
theorem l14 (a b : Sv) (hla : a.t.length ≤ 9223372036854775807) (hlb : b.t.length ≤ 9223372036854775807) (hpb : ∀ r ∈ b.t, r.path.length ≤ 9223372036854775807) : ∀ (k i : Nat), i + k = a.t.length →
    DL V (.loop m14l0) ⟨[(5, .d (.i .i64 i)), (3, .p 3 0 0), (2, .p 2 0 0)], [(3, ⟨6, [rowV b]⟩), (2, ⟨6, [rowV a]⟩)]⟩ = some (bEx ((a.t.drop i).any (bad b.t)), ⟨bRegs ((a.t.drop i).any (bad b.t)), [(3, ⟨6, [rowV b]⟩), (2, ⟨6, [rowV a]⟩)]⟩) := by
  intro k
  induction k with
  | zero =>
    intro i h
    rw [DL_loop]
    have hlt : ¬ ((i : Int) < (a.t.length : Int)) := by omega
    rw [List.drop_eq_nil_of_le (by omega)]
    simp (config := {implicitDefEqProofs := false}) only [m14l0, entered, argRegs, DA.av, DL_r, DL_skip, DL_seq, DL_cond, condDL_b, DL_blk, DL_ex, DL_ret, DL_pre, DL_post, andThen_n, andThen_ex, andThen_ret, goN_eq, outOf_n, outOf_ret, outOf_ex, krun_nil, krun_cons, kstep, St.set, St.op, St.reg, klook, kput, kdel, killAll, Option.bind_some, Option.map_some, Option.bind_none, Option.map_none, Option.getD_some, ↓reduceIte, Nat.reduceEqDiff, Nat.reduceLT, List.length_map, binV, binI, binS, isSh, asInt', Option.bind_eq_bind, decide_eq_true_eq, St.new, St.unref, St.unlook, St.turn, St.gone, dropAll, AV.refs, AV.refsL, AV.looks, AV.looksL, AV.fr, AV.frL, List.filter_cons, List.filter_nil, Bool.not_false, Bool.not_true, cellsOf, cellOf, AV.cells, kcut, packed, viewOf, viewD, St.arg, St.one, allOf, List.map_cons, List.map_nil, RV.av, ite_bind', ite_map', List.getElem?_map, bind_map', BEq.rfl, List.getElem?_cons_zero, List.set_cons_zero, List.drop_zero, List.take_succ_cons, List.length_cons, List.length_nil, Nat.reduceAdd, Nat.reduceLeDiff, List.drop_succ_cons, List.take_zero, List.nil_append, List.append_nil, List.cons_append, and_self, Bool.false_eq_true, Nat.reduceBEq, and_true, true_and, ended, resV, rvOf, tupled, Bool.or_false, Bool.false_or, Bool.or_true, Bool.true_or, called, Bool.and_true, Bool.true_and, beq_self_eq_true, Int.toNat_natCast, Int.natCast_nonneg, skipped, AV.parts, fillO, chunks, List.replicate_succ, List.replicate_zero, List.flatten_cons, List.flatten_nil, Nat.reduceMul, Nat.zero_mul, Nat.mul_one, tailOf, appTo, AV.toOwn, AV.toD, D.scalar, List.all_cons, List.all_nil, rowF, Nat.zero_add, Nat.zero_le, List.getElem?_cons_succ, RV.avL, keepAll, keepOne, Bool.true_eq_false, rowV, hlt, List.any_nil, bEx, bRegs]
  | succ k ih =>
    intro i h
    have hil : i < a.t.length := by omega
    have hi : a.t[i]? = some a.t[i] := List.getElem?_eq_getElem hil
    have e := ih (i + 1) (by omega)
    rw [List.drop_eq_getElem_cons hil, List.any_cons]
    generalize a.t[i] = r at hi ⊢
    have go : DL V m14l0 ⟨[(5, .d (.i .i64 i)), (3, .p 3 0 0), (2, .p 2 0 0)], [(3, ⟨6, [rowV b]⟩), (2, ⟨6, [rowV a]⟩)]⟩ = some (.n, ⟨[(5, .d (.i .i64 (i + 1 : Nat))), (3, .p 3 0 0), (2, .p 2 0 0)], [(3, ⟨6, [rowV b]⟩), (2, ⟨6, [rowV a]⟩)]⟩) → bad b.t r = false →
        DL V (.loop m14l0) ⟨[(5, .d (.i .i64 i)), (3, .p 3 0 0), (2, .p 2 0 0)], [(3, ⟨6, [rowV b]⟩), (2, ⟨6, [rowV a]⟩)]⟩ = some (bEx (bad b.t r || (a.t.drop (i + 1)).any (bad b.t)), ⟨bRegs (bad b.t r || (a.t.drop (i + 1)).any (bad b.t)), [(3, ⟨6, [rowV b]⟩), (2, ⟨6, [rowV a]⟩)]⟩) := fun h1 h2 => by
      rw [DL_loop, h1, h2]
      exact e
    cases hf : findR b.t r.path 0 with
    | none => exact go (l14a a b hla hlb hpb hil hi hf) (by simp only [bad, hf])
    | some q =>
      obtain ⟨j, q⟩ := q
      cases hc : r.coll with
      | true => exact go (l14b a b hla hlb hpb hil hi hf hc) (by simp [bad, hf, hc])
      | false => cases hq : q.coll with
        | true => exact go (l14c a b hla hlb hpb hil hi hf hc hq) (by simp [bad, hf, hc, hq])
        | false =>
          by_cases hv : r.ver = q.ver
          · by_cases hb : r.body = q.body
            · exact go (l14e a b hla hlb hpb hil hi hf hc hq hv hb) (by simp [bad, hf, hb])
            · have hbad : bad b.t r = true := by simp [bad, hf, hc, hq, hv, hb]
              rw [DL_loop, l14f a b hla hlb hpb hil hi hf hc hq hv hb, hbad]
              rfl
          · exact go (l14d a b hla hlb hpb hil hi hf hc hq hv) (by simp [bad, hf, hv])
def freshV (a b : Sv) : Bool := if a.t.any (bad b.t) then false else decide (a.ver ≤ b.ver)
theorem e14 (a b : Sv) (hla : a.t.length ≤ 9223372036854775807) (hlb : b.t.length ≤ 9223372036854775807) (hpb : ∀ r ∈ b.t, r.path.length ≤ 9223372036854775807) :
    V 14 [.agg (encV a), .agg (encV b)] = some (false, .one (.b (freshV a b))) := by
  rw [V_eq (fn := m14) rfl]
  have h := l14 a b hla hlb hpb a.t.length 0 (by omega)
  simp only [Int.natCast_zero, List.drop_zero] at h
  unfold freshV
  cases hc : a.t.any (bad b.t) <;> rw [hc] at h <;> simp only [bEx, bRegs, rowV] at h <;> simp (config := {implicitDefEqProofs := false}) only [m14, entered, argRegs, DA.av, DL_r, DL_skip, DL_seq, DL_cond, condDL_b, DL_blk, DL_ex, DL_ret, DL_pre, DL_post, andThen_n, andThen_ex, andThen_ret, goN_eq, outOf_n, outOf_ret, outOf_ex, krun_nil, krun_cons, kstep, St.set, St.op, St.reg, klook, kput, kdel, killAll, Option.bind_some, Option.map_some, Option.bind_none, Option.map_none, Option.getD_some, ↓reduceIte, Nat.reduceEqDiff, Nat.reduceLT, List.length_map, binV, binI, binS, isSh, asInt', Option.bind_eq_bind, decide_eq_true_eq, St.new, St.unref, St.unlook, St.turn, St.gone, dropAll, AV.refs, AV.refsL, AV.looks, AV.looksL, AV.fr, AV.frL, List.filter_cons, List.filter_nil, Bool.not_false, Bool.not_true, cellsOf, cellOf, AV.cells, kcut, packed, viewOf, viewD, St.arg, St.one, allOf, List.map_cons, List.map_nil, RV.av, ite_bind', ite_map', List.getElem?_map, bind_map', BEq.rfl, List.getElem?_cons_zero, List.set_cons_zero, List.drop_zero, List.take_succ_cons, List.length_cons, List.length_nil, Nat.reduceAdd, Nat.reduceLeDiff, List.drop_succ_cons, List.take_zero, List.nil_append, List.append_nil, List.cons_append, and_self, Bool.false_eq_true, Nat.reduceBEq, and_true, true_and, ended, resV, rvOf, tupled, Bool.or_false, Bool.false_or, Bool.or_true, Bool.true_or, called, Bool.and_true, Bool.true_and, beq_self_eq_true, Int.toNat_natCast, Int.natCast_nonneg, skipped, AV.parts, fillO, chunks, List.replicate_succ, List.replicate_zero, List.flatten_cons, List.flatten_nil, Nat.reduceMul, Nat.zero_mul, Nat.mul_one, tailOf, appTo, AV.toOwn, AV.toD, D.scalar, List.all_cons, List.all_nil, rowF, Nat.zero_add, Nat.zero_le, List.getElem?_cons_succ, RV.avL, keepAll, keepOne, Bool.true_eq_false, encV, h]
end Go.Proofs.YtmccpbabpnffcaaK
