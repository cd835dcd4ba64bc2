import Derived.Test.YtmccpbabpnffcaaM4
set_option linter.unusedVariables false
set_option linter.unusedSimpArgs false
namespace Go.Proofs.YtmccpbabpnffcaaK
open Go.RowKit
def tab : Nat → Option Fn := klook tabL
def noE : XF := fun _ _ => none
noncomputable abbrev V : XF := evL tab noE
theorem V_eq {f : Nat} {fn : Fn} (hf : tab f = some fn) (ds : List DA) : V f ds = (entered fn ds).bind fun σ => (DL V fn.body σ).bind (ended fn) := evL_eq tab noE hf ds
theorem is_i {q : IntKind} {x : D} (h : hasT (.i q) x) : ∃ n, x = .i q n ∧ (Lit.int q n).wf = true := by
  cases x <;> simp only [hasT] at h
  obtain ⟨rfl, h⟩ := h
  exact ⟨_, rfl, h⟩
theorem is_b {x : D} (h : hasT .b x) : ∃ t, x = .b t := by
  cases x <;> simp only [hasT] at h
  exact ⟨_, rfl⟩
theorem is_s {x : D} (h : hasT .s x) : ∃ l : List UInt8, x = .s l ∧ l.length ≤ 9223372036854775807 := by
  cases x <;> simp only [hasT] at h
  exact ⟨_, rfl, h⟩
theorem is_sl {es : List CT} {x : D} (h : hasT (.sl es) x) : ∃ rows, x = .sl rows ∧ rows.length ≤ 9223372036854775807 ∧ ∀ r ∈ rows, hasTs es r := by
  cases x <;> simp only [hasT] at h
  exact ⟨_, rfl, h⟩
theorem one_of {c : CT} {r : List D} (h : hasTs [c] r) : ∃ d, r = [d] := by
  match r, hasTs_len h with
  | [x], _ => exact ⟨x, rfl⟩
theorem str_of {r : List D} (h : hasTs [.s] r) : ∃ l : List UInt8, r = [.s l] ∧ l.length ≤ 9223372036854775807 := by
  match r, hasTs_len h, h with
  | [x], _, h =>
    simp only [hasTs, and_true] at h
    cases x <;> simp only [hasT] at h
    exact ⟨_, rfl, h⟩
theorem str_or {r : List D} (h : hasTs [.s] r) : (∃ l : List UInt8, r = [.s l]) ∨ ∃ (k : IntKind) (n : Int), r = [.i k n] := by
  obtain ⟨l, h, _⟩ := str_of h; exact .inl ⟨l, h⟩
theorem int_or {q : IntKind} {r : List D} (h : hasTs [.i q] r) : (∃ l : List UInt8, r = [.s l]) ∨ ∃ (k : IntKind) (n : Int), r = [.i k n] := by
  match r, hasTs_len h, h with
  | [x], _, h =>
    simp only [hasTs, and_true] at h
    cases x <;> simp only [hasT] at h
    exact .inr ⟨_, _, rfl⟩
theorem szRows_int {q : IntKind} : ∀ {rows : List (List D)}, (∀ r ∈ rows, hasTs [.i q] r) → szRows rows = 0
  | [], _ => rfl
  | r :: rows, h => by
    have h1 := h r (by simp)
    have h2 := szRows_int (rows := rows) fun r hr => h r (by simp [hr])
    match r, hasTs_len h1, h1 with
    | [x], _, h1 =>
      simp only [hasTs, and_true] at h1
      cases x <;> simp only [hasT] at h1
      simp only [szRows, szDs, szD, h2]
theorem toStringS_ok (rows : List (List D)) (h : ∀ r ∈ rows, hasTs [.s] r) (hs : szD (.sl rows) ≤ 1048576) : V 27 [.one (.sl rows)] = some (false, .one (.sl rows)) := by
  simp only [szD] at hs
  exact toF3_ok (n := 27) (bytes := 16) (z := .d (.s [])) rfl rows (by omega) (by omega) rfl fun r hr => one_of (h r hr)
theorem szStringS_ok (rows : List (List D)) (h : ∀ r ∈ rows, hasTs [.s] r) (hl : rows.length ≤ 9223372036854775807) (m : Int) (h0 : 0 ≤ m) (hm : m ≤ 1048576) : ∃ r : Int, V 24 [.one (.sl rows), .one (.i .i64 m)] = some (false, .one (.i .i64 r)) ∧ Sized r m (szD (.sl rows)) :=
  szF3_ok (n := 24) rfl rows hl (fun r hr => str_of (h r hr)) m h0 hm
theorem eqStringS_ok (rows : List (List D)) (h : ∀ r ∈ rows, hasTs [.s] r) (hl : rows.length ≤ 9223372036854775807) : V 30 [.one (.sl rows), .one (.sl rows)] = some (false, .one (.b true)) :=
  eqF3_ok (n := 30) rfl rows hl fun r hr => str_or (h r hr)
abbrev ctProp : List CT := [.s, .s, .s]
theorem toProp_ok (ds : List D) (h : hasTs ctProp ds) (hsz : szDs ds ≤ 1048576) : V 96 [.agg ds] = some (false, .agg ds) := by
  rw [V_eq (fn := m96) rfl]
  match ds, hasTs_len h, h with
  | [x0, x1, x2], hl, h =>
    clear hl
    simp only [hasTs, and_true] at h
    obtain ⟨h0, h1, h2⟩ := h
    obtain ⟨s0, rfl, h0⟩ := is_s h0
    obtain ⟨s1, rfl, h1⟩ := is_s h1
    obtain ⟨s2, rfl, h2⟩ := is_s h2
    simp only [szDs] at hsz
    simp (config := {implicitDefEqProofs := false}) only [m96, entered, argRegs, DA.av, DL_r, DL_skip, DL_seq, DL_cond, condDL_b, DL_blk, DL_ex, DL_ret, DL_pre, DL_post, andThen_n, andThen_ex, andThen_ret, goN_eq, outOf_n, outOf_ret, outOf_ex, krun_nil, krun_cons, kstep, St.set, St.op, St.reg, klook, kput, kdel, killAll, Option.bind_some, Option.map_some, Option.bind_none, Option.map_none, Option.getD_some, ↓reduceIte, Nat.reduceEqDiff, Nat.reduceLT, List.length_map, binV, binI, binS, isSh, asInt', Option.bind_eq_bind, decide_eq_true_eq, St.new, St.unref, St.unlook, St.turn, St.gone, dropAll, AV.refs, AV.refsL, AV.looks, AV.looksL, AV.fr, AV.frL, List.filter_cons, List.filter_nil, Bool.not_false, Bool.not_true, cellsOf, cellOf, AV.cells, kcut, packed, viewOf, viewD, St.arg, St.one, allOf, List.map_cons, List.map_nil, RV.av, ite_bind', ite_map', List.getElem?_map, bind_map', BEq.rfl, List.getElem?_cons_zero, List.set_cons_zero, List.drop_zero, List.take_succ_cons, List.length_cons, List.length_nil, Nat.reduceAdd, Nat.reduceLeDiff, List.drop_succ_cons, List.take_zero, List.nil_append, List.append_nil, List.cons_append, and_self, Bool.false_eq_true, Nat.reduceBEq, and_true, true_and, ended, resV, rvOf, tupled, Bool.or_false, Bool.false_or, Bool.or_true, Bool.true_or, called, Bool.and_true, Bool.true_and, beq_self_eq_true, Int.toNat_natCast, Int.natCast_nonneg, skipped, AV.parts, fillO, chunks, List.replicate_succ, List.replicate_zero, List.flatten_cons, List.flatten_nil, Nat.reduceMul, Nat.zero_mul, Nat.mul_one, tailOf, appTo, AV.toOwn, AV.toD, D.scalar, List.all_cons, List.all_nil, rowF, Nat.zero_add, Nat.zero_le, List.getElem?_cons_succ, RV.avL, keepAll, keepOne, Bool.true_eq_false]
theorem eqProp_ok (ds : List D) (h : hasTs ctProp ds) : V 101 [.agg ds, .agg ds] = some (false, .one (.b true)) := by
  rw [V_eq (fn := m101) rfl]
  match ds, hasTs_len h, h with
  | [x0, x1, x2], hl, h =>
    clear hl
    simp only [hasTs, and_true] at h
    obtain ⟨h0, h1, h2⟩ := h
    obtain ⟨s0, rfl, h0⟩ := is_s h0
    obtain ⟨s1, rfl, h1⟩ := is_s h1
    obtain ⟨s2, rfl, h2⟩ := is_s h2
    simp (config := {implicitDefEqProofs := false}) only [m101, entered, argRegs, DA.av, DL_r, DL_skip, DL_seq, DL_cond, condDL_b, DL_blk, DL_ex, DL_ret, DL_pre, DL_post, andThen_n, andThen_ex, andThen_ret, goN_eq, outOf_n, outOf_ret, outOf_ex, krun_nil, krun_cons, kstep, St.set, St.op, St.reg, klook, kput, kdel, killAll, Option.bind_some, Option.map_some, Option.bind_none, Option.map_none, Option.getD_some, ↓reduceIte, Nat.reduceEqDiff, Nat.reduceLT, List.length_map, binV, binI, binS, isSh, asInt', Option.bind_eq_bind, decide_eq_true_eq, St.new, St.unref, St.unlook, St.turn, St.gone, dropAll, AV.refs, AV.refsL, AV.looks, AV.looksL, AV.fr, AV.frL, List.filter_cons, List.filter_nil, Bool.not_false, Bool.not_true, cellsOf, cellOf, AV.cells, kcut, packed, viewOf, viewD, St.arg, St.one, allOf, List.map_cons, List.map_nil, RV.av, ite_bind', ite_map', List.getElem?_map, bind_map', BEq.rfl, List.getElem?_cons_zero, List.set_cons_zero, List.drop_zero, List.take_succ_cons, List.length_cons, List.length_nil, Nat.reduceAdd, Nat.reduceLeDiff, List.drop_succ_cons, List.take_zero, List.nil_append, List.append_nil, List.cons_append, and_self, Bool.false_eq_true, Nat.reduceBEq, and_true, true_and, ended, resV, rvOf, tupled, Bool.or_false, Bool.false_or, Bool.or_true, Bool.true_or, called, Bool.and_true, Bool.true_and, beq_self_eq_true, Int.toNat_natCast, Int.natCast_nonneg, skipped, AV.parts, fillO, chunks, List.replicate_succ, List.replicate_zero, List.flatten_cons, List.flatten_nil, Nat.reduceMul, Nat.zero_mul, Nat.mul_one, tailOf, appTo, AV.toOwn, AV.toD, D.scalar, List.all_cons, List.all_nil, rowF, Nat.zero_add, Nat.zero_le, List.getElem?_cons_succ, RV.avL, keepAll, keepOne, Bool.true_eq_false, ne_eq, not_true, decide_false, decide_true, if_false, bne_self_eq_false]
theorem szProp_ok (ds : List D) (h : hasTs ctProp ds) (n : Int) (h0n : 0 ≤ n) (hn : n ≤ 1048576) : ∃ m : Int, V 93 [.agg ds, .one (.i .i64 n)] = some (false, .one (.i .i64 m)) ∧ Sized m n (szDs ds) := by
  rw [V_eq (fn := m93) rfl]
  match ds, hasTs_len h, h with
  | [x0, x1, x2], hl, h =>
    clear hl
    simp only [hasTs, and_true] at h
    obtain ⟨h0, h1, h2⟩ := h
    obtain ⟨s0, rfl, h0⟩ := is_s h0
    obtain ⟨s1, rfl, h1⟩ := is_s h1
    obtain ⟨s2, rfl, h2⟩ := is_s h2
    have w0 : IntKind.i64.wrap (n - (s0.length : Int)) = n - (s0.length : Int) := wrap_id (by omega) (by omega)
    by_cases c0 : n - (s0.length : Int) < 0
    · simp (config := {implicitDefEqProofs := false}) only [m93, entered, argRegs, DA.av, DL_r, DL_skip, DL_seq, DL_cond, condDL_b, DL_blk, DL_ex, DL_ret, DL_pre, DL_post, andThen_n, andThen_ex, andThen_ret, goN_eq, outOf_n, outOf_ret, outOf_ex, krun_nil, krun_cons, kstep, St.set, St.op, St.reg, klook, kput, kdel, killAll, Option.bind_some, Option.map_some, Option.bind_none, Option.map_none, Option.getD_some, ↓reduceIte, Nat.reduceEqDiff, Nat.reduceLT, List.length_map, binV, binI, binS, isSh, asInt', Option.bind_eq_bind, decide_eq_true_eq, St.new, St.unref, St.unlook, St.turn, St.gone, dropAll, AV.refs, AV.refsL, AV.looks, AV.looksL, AV.fr, AV.frL, List.filter_cons, List.filter_nil, Bool.not_false, Bool.not_true, cellsOf, cellOf, AV.cells, kcut, packed, viewOf, viewD, St.arg, St.one, allOf, List.map_cons, List.map_nil, RV.av, ite_bind', ite_map', List.getElem?_map, bind_map', BEq.rfl, List.getElem?_cons_zero, List.set_cons_zero, List.drop_zero, List.take_succ_cons, List.length_cons, List.length_nil, Nat.reduceAdd, Nat.reduceLeDiff, List.drop_succ_cons, List.take_zero, List.nil_append, List.append_nil, List.cons_append, and_self, Bool.false_eq_true, Nat.reduceBEq, and_true, true_and, ended, resV, rvOf, tupled, Bool.or_false, Bool.false_or, Bool.or_true, Bool.true_or, called, Bool.and_true, Bool.true_and, beq_self_eq_true, Int.toNat_natCast, Int.natCast_nonneg, skipped, AV.parts, fillO, chunks, List.replicate_succ, List.replicate_zero, List.flatten_cons, List.flatten_nil, Nat.reduceMul, Nat.zero_mul, Nat.mul_one, tailOf, appTo, AV.toOwn, AV.toD, D.scalar, List.all_cons, List.all_nil, rowF, Nat.zero_add, Nat.zero_le, List.getElem?_cons_succ, RV.avL, keepAll, keepOne, Bool.true_eq_false, w0, c0, if_true, if_false]; exact ⟨_, rfl, .inl rfl⟩
    have w1 : IntKind.i64.wrap ((n - (s0.length : Int)) - (s1.length : Int)) = (n - (s0.length : Int)) - (s1.length : Int) := wrap_id (by omega) (by omega)
    by_cases c1 : (n - (s0.length : Int)) - (s1.length : Int) < 0
    · simp (config := {implicitDefEqProofs := false}) only [m93, entered, argRegs, DA.av, DL_r, DL_skip, DL_seq, DL_cond, condDL_b, DL_blk, DL_ex, DL_ret, DL_pre, DL_post, andThen_n, andThen_ex, andThen_ret, goN_eq, outOf_n, outOf_ret, outOf_ex, krun_nil, krun_cons, kstep, St.set, St.op, St.reg, klook, kput, kdel, killAll, Option.bind_some, Option.map_some, Option.bind_none, Option.map_none, Option.getD_some, ↓reduceIte, Nat.reduceEqDiff, Nat.reduceLT, List.length_map, binV, binI, binS, isSh, asInt', Option.bind_eq_bind, decide_eq_true_eq, St.new, St.unref, St.unlook, St.turn, St.gone, dropAll, AV.refs, AV.refsL, AV.looks, AV.looksL, AV.fr, AV.frL, List.filter_cons, List.filter_nil, Bool.not_false, Bool.not_true, cellsOf, cellOf, AV.cells, kcut, packed, viewOf, viewD, St.arg, St.one, allOf, List.map_cons, List.map_nil, RV.av, ite_bind', ite_map', List.getElem?_map, bind_map', BEq.rfl, List.getElem?_cons_zero, List.set_cons_zero, List.drop_zero, List.take_succ_cons, List.length_cons, List.length_nil, Nat.reduceAdd, Nat.reduceLeDiff, List.drop_succ_cons, List.take_zero, List.nil_append, List.append_nil, List.cons_append, and_self, Bool.false_eq_true, Nat.reduceBEq, and_true, true_and, ended, resV, rvOf, tupled, Bool.or_false, Bool.false_or, Bool.or_true, Bool.true_or, called, Bool.and_true, Bool.true_and, beq_self_eq_true, Int.toNat_natCast, Int.natCast_nonneg, skipped, AV.parts, fillO, chunks, List.replicate_succ, List.replicate_zero, List.flatten_cons, List.flatten_nil, Nat.reduceMul, Nat.zero_mul, Nat.mul_one, tailOf, appTo, AV.toOwn, AV.toD, D.scalar, List.all_cons, List.all_nil, rowF, Nat.zero_add, Nat.zero_le, List.getElem?_cons_succ, RV.avL, keepAll, keepOne, Bool.true_eq_false, w0, c0, w1, c1, if_true, if_false]; exact ⟨_, rfl, .inl rfl⟩
    have w2 : IntKind.i64.wrap (((n - (s0.length : Int)) - (s1.length : Int)) - (s2.length : Int)) = ((n - (s0.length : Int)) - (s1.length : Int)) - (s2.length : Int) := wrap_id (by omega) (by omega)
    by_cases c2 : ((n - (s0.length : Int)) - (s1.length : Int)) - (s2.length : Int) < 0
    · simp (config := {implicitDefEqProofs := false}) only [m93, entered, argRegs, DA.av, DL_r, DL_skip, DL_seq, DL_cond, condDL_b, DL_blk, DL_ex, DL_ret, DL_pre, DL_post, andThen_n, andThen_ex, andThen_ret, goN_eq, outOf_n, outOf_ret, outOf_ex, krun_nil, krun_cons, kstep, St.set, St.op, St.reg, klook, kput, kdel, killAll, Option.bind_some, Option.map_some, Option.bind_none, Option.map_none, Option.getD_some, ↓reduceIte, Nat.reduceEqDiff, Nat.reduceLT, List.length_map, binV, binI, binS, isSh, asInt', Option.bind_eq_bind, decide_eq_true_eq, St.new, St.unref, St.unlook, St.turn, St.gone, dropAll, AV.refs, AV.refsL, AV.looks, AV.looksL, AV.fr, AV.frL, List.filter_cons, List.filter_nil, Bool.not_false, Bool.not_true, cellsOf, cellOf, AV.cells, kcut, packed, viewOf, viewD, St.arg, St.one, allOf, List.map_cons, List.map_nil, RV.av, ite_bind', ite_map', List.getElem?_map, bind_map', BEq.rfl, List.getElem?_cons_zero, List.set_cons_zero, List.drop_zero, List.take_succ_cons, List.length_cons, List.length_nil, Nat.reduceAdd, Nat.reduceLeDiff, List.drop_succ_cons, List.take_zero, List.nil_append, List.append_nil, List.cons_append, and_self, Bool.false_eq_true, Nat.reduceBEq, and_true, true_and, ended, resV, rvOf, tupled, Bool.or_false, Bool.false_or, Bool.or_true, Bool.true_or, called, Bool.and_true, Bool.true_and, beq_self_eq_true, Int.toNat_natCast, Int.natCast_nonneg, skipped, AV.parts, fillO, chunks, List.replicate_succ, List.replicate_zero, List.flatten_cons, List.flatten_nil, Nat.reduceMul, Nat.zero_mul, Nat.mul_one, tailOf, appTo, AV.toOwn, AV.toD, D.scalar, List.all_cons, List.all_nil, rowF, Nat.zero_add, Nat.zero_le, List.getElem?_cons_succ, RV.avL, keepAll, keepOne, Bool.true_eq_false, w0, c0, w1, c1, w2, c2, if_true, if_false]; exact ⟨_, rfl, .inl rfl⟩
    simp (config := {implicitDefEqProofs := false}) only [m93, entered, argRegs, DA.av, DL_r, DL_skip, DL_seq, DL_cond, condDL_b, DL_blk, DL_ex, DL_ret, DL_pre, DL_post, andThen_n, andThen_ex, andThen_ret, goN_eq, outOf_n, outOf_ret, outOf_ex, krun_nil, krun_cons, kstep, St.set, St.op, St.reg, klook, kput, kdel, killAll, Option.bind_some, Option.map_some, Option.bind_none, Option.map_none, Option.getD_some, ↓reduceIte, Nat.reduceEqDiff, Nat.reduceLT, List.length_map, binV, binI, binS, isSh, asInt', Option.bind_eq_bind, decide_eq_true_eq, St.new, St.unref, St.unlook, St.turn, St.gone, dropAll, AV.refs, AV.refsL, AV.looks, AV.looksL, AV.fr, AV.frL, List.filter_cons, List.filter_nil, Bool.not_false, Bool.not_true, cellsOf, cellOf, AV.cells, kcut, packed, viewOf, viewD, St.arg, St.one, allOf, List.map_cons, List.map_nil, RV.av, ite_bind', ite_map', List.getElem?_map, bind_map', BEq.rfl, List.getElem?_cons_zero, List.set_cons_zero, List.drop_zero, List.take_succ_cons, List.length_cons, List.length_nil, Nat.reduceAdd, Nat.reduceLeDiff, List.drop_succ_cons, List.take_zero, List.nil_append, List.append_nil, List.cons_append, and_self, Bool.false_eq_true, Nat.reduceBEq, and_true, true_and, ended, resV, rvOf, tupled, Bool.or_false, Bool.false_or, Bool.or_true, Bool.true_or, called, Bool.and_true, Bool.true_and, beq_self_eq_true, Int.toNat_natCast, Int.natCast_nonneg, skipped, AV.parts, fillO, chunks, List.replicate_succ, List.replicate_zero, List.flatten_cons, List.flatten_nil, Nat.reduceMul, Nat.zero_mul, Nat.mul_one, tailOf, appTo, AV.toOwn, AV.toD, D.scalar, List.all_cons, List.all_nil, rowF, Nat.zero_add, Nat.zero_le, List.getElem?_cons_succ, RV.avL, keepAll, keepOne, Bool.true_eq_false, w0, c0, w1, c1, w2, c2, if_true, if_false]
    exact ⟨_, rfl, .inr ⟨by omega, by simp only [szDs, szD] at *; omega⟩⟩
theorem toPropS_ok (rows : List (List D)) (h : ∀ r ∈ rows, hasTs ctProp r) (hs : szD (.sl rows) ≤ 1048576) : V 39 [.one (.sl rows)] = some (false, .one (.sl rows)) := by
  simp only [szD] at hs
  exact toF1_ok (n := 39) (g := 96) (sz := 3) (bytes := 48) (z := [.d (.s []), .d (.s []), .d (.s [])]) rfl rows (by omega) (by omega) rfl rfl fun r hr => ⟨hasTs_len (h r hr), toProp_ok r (h r hr) (by have := szRows_get hr; omega)⟩
theorem szPropS_ok (rows : List (List D)) (h : ∀ r ∈ rows, hasTs ctProp r) (hl : rows.length ≤ 9223372036854775807) (m : Int) (h0 : 0 ≤ m) (hm : m ≤ 1048576) : ∃ r : Int, V 36 [.one (.sl rows), .one (.i .i64 m)] = some (false, .one (.i .i64 r)) ∧ Sized r m (szD (.sl rows)) :=
  szF1_ok (n := 36) (g := 93) (sz := 3) rfl rows hl (fun r hr => ⟨hasTs_len (h r hr), szProp_ok r (h r hr)⟩) m h0 hm
theorem eqPropS_ok (rows : List (List D)) (h : ∀ r ∈ rows, hasTs ctProp r) (hl : rows.length ≤ 9223372036854775807) : V 43 [.one (.sl rows), .one (.sl rows)] = some (false, .one (.b true)) :=
  eqF1_ok (n := 43) (g := 101) (sz := 3) rfl rows hl fun r hr => ⟨hasTs_len (h r hr), eqProp_ok r (h r hr)⟩
abbrev ctRes : List CT := [.sl [.s], .b, .s, .i .i64, .sl ctProp]
theorem toRes_ok (ds : List D) (h : hasTs ctRes ds) (hsz : szDs ds ≤ 1048576) : V 112 [.agg ds] = some (false, .agg ds) := by
  rw [V_eq (fn := m112) rfl]
  match ds, hasTs_len h, h with
  | [x0, x1, x2, x3, x4], hl, h =>
    clear hl
    simp only [hasTs, and_true] at h
    obtain ⟨h0, h1, h2, h3, h4⟩ := h
    obtain ⟨r0, rfl, h0⟩ := is_sl h0
    obtain ⟨t1, rfl⟩ := is_b h1
    obtain ⟨s2, rfl, h2⟩ := is_s h2
    obtain ⟨n3, rfl, h3⟩ := is_i h3
    obtain ⟨r4, rfl, h4⟩ := is_sl h4
    simp only [szDs] at hsz
    have e0 := toStringS_ok r0 h0.2 (by omega)
    have e4 := toPropS_ok r4 h4.2 (by omega)
    simp (config := {implicitDefEqProofs := false}) only [m112, entered, argRegs, DA.av, DL_r, DL_skip, DL_seq, DL_cond, condDL_b, DL_blk, DL_ex, DL_ret, DL_pre, DL_post, andThen_n, andThen_ex, andThen_ret, goN_eq, outOf_n, outOf_ret, outOf_ex, krun_nil, krun_cons, kstep, St.set, St.op, St.reg, klook, kput, kdel, killAll, Option.bind_some, Option.map_some, Option.bind_none, Option.map_none, Option.getD_some, ↓reduceIte, Nat.reduceEqDiff, Nat.reduceLT, List.length_map, binV, binI, binS, isSh, asInt', Option.bind_eq_bind, decide_eq_true_eq, St.new, St.unref, St.unlook, St.turn, St.gone, dropAll, AV.refs, AV.refsL, AV.looks, AV.looksL, AV.fr, AV.frL, List.filter_cons, List.filter_nil, Bool.not_false, Bool.not_true, cellsOf, cellOf, AV.cells, kcut, packed, viewOf, viewD, St.arg, St.one, allOf, List.map_cons, List.map_nil, RV.av, ite_bind', ite_map', List.getElem?_map, bind_map', BEq.rfl, List.getElem?_cons_zero, List.set_cons_zero, List.drop_zero, List.take_succ_cons, List.length_cons, List.length_nil, Nat.reduceAdd, Nat.reduceLeDiff, List.drop_succ_cons, List.take_zero, List.nil_append, List.append_nil, List.cons_append, and_self, Bool.false_eq_true, Nat.reduceBEq, and_true, true_and, ended, resV, rvOf, tupled, Bool.or_false, Bool.false_or, Bool.or_true, Bool.true_or, called, Bool.and_true, Bool.true_and, beq_self_eq_true, Int.toNat_natCast, Int.natCast_nonneg, skipped, AV.parts, fillO, chunks, List.replicate_succ, List.replicate_zero, List.flatten_cons, List.flatten_nil, Nat.reduceMul, Nat.zero_mul, Nat.mul_one, tailOf, appTo, AV.toOwn, AV.toD, D.scalar, List.all_cons, List.all_nil, rowF, Nat.zero_add, Nat.zero_le, List.getElem?_cons_succ, RV.avL, keepAll, keepOne, Bool.true_eq_false, e0, e4]
theorem eqRes_ok (ds : List D) (h : hasTs ctRes ds) : V 115 [.agg ds, .agg ds] = some (false, .one (.b true)) := by
  rw [V_eq (fn := m115) rfl]
  match ds, hasTs_len h, h with
  | [x0, x1, x2, x3, x4], hl, h =>
    clear hl
    simp only [hasTs, and_true] at h
    obtain ⟨h0, h1, h2, h3, h4⟩ := h
    obtain ⟨r0, rfl, h0⟩ := is_sl h0
    obtain ⟨t1, rfl⟩ := is_b h1
    obtain ⟨s2, rfl, h2⟩ := is_s h2
    obtain ⟨n3, rfl, h3⟩ := is_i h3
    obtain ⟨r4, rfl, h4⟩ := is_sl h4
    have e0 := eqStringS_ok r0 h0.2 h0.1
    have e4 := eqPropS_ok r4 h4.2 h4.1
    simp (config := {implicitDefEqProofs := false}) only [m115, entered, argRegs, DA.av, DL_r, DL_skip, DL_seq, DL_cond, condDL_b, DL_blk, DL_ex, DL_ret, DL_pre, DL_post, andThen_n, andThen_ex, andThen_ret, goN_eq, outOf_n, outOf_ret, outOf_ex, krun_nil, krun_cons, kstep, St.set, St.op, St.reg, klook, kput, kdel, killAll, Option.bind_some, Option.map_some, Option.bind_none, Option.map_none, Option.getD_some, ↓reduceIte, Nat.reduceEqDiff, Nat.reduceLT, List.length_map, binV, binI, binS, isSh, asInt', Option.bind_eq_bind, decide_eq_true_eq, St.new, St.unref, St.unlook, St.turn, St.gone, dropAll, AV.refs, AV.refsL, AV.looks, AV.looksL, AV.fr, AV.frL, List.filter_cons, List.filter_nil, Bool.not_false, Bool.not_true, cellsOf, cellOf, AV.cells, kcut, packed, viewOf, viewD, St.arg, St.one, allOf, List.map_cons, List.map_nil, RV.av, ite_bind', ite_map', List.getElem?_map, bind_map', BEq.rfl, List.getElem?_cons_zero, List.set_cons_zero, List.drop_zero, List.take_succ_cons, List.length_cons, List.length_nil, Nat.reduceAdd, Nat.reduceLeDiff, List.drop_succ_cons, List.take_zero, List.nil_append, List.append_nil, List.cons_append, and_self, Bool.false_eq_true, Nat.reduceBEq, and_true, true_and, ended, resV, rvOf, tupled, Bool.or_false, Bool.false_or, Bool.or_true, Bool.true_or, called, Bool.and_true, Bool.true_and, beq_self_eq_true, Int.toNat_natCast, Int.natCast_nonneg, skipped, AV.parts, fillO, chunks, List.replicate_succ, List.replicate_zero, List.flatten_cons, List.flatten_nil, Nat.reduceMul, Nat.zero_mul, Nat.mul_one, tailOf, appTo, AV.toOwn, AV.toD, D.scalar, List.all_cons, List.all_nil, rowF, Nat.zero_add, Nat.zero_le, List.getElem?_cons_succ, RV.avL, keepAll, keepOne, Bool.true_eq_false, e0, e4, ne_eq, not_true, decide_false, decide_true, if_false, bne_self_eq_false]
theorem szRes_ok (ds : List D) (h : hasTs ctRes ds) (n : Int) (h0n : 0 ≤ n) (hn : n ≤ 1048576) : ∃ m : Int, V 109 [.agg ds, .one (.i .i64 n)] = some (false, .one (.i .i64 m)) ∧ Sized m n (szDs ds) := by
  rw [V_eq (fn := m109) rfl]
  match ds, hasTs_len h, h with
  | [x0, x1, x2, x3, x4], hl, h =>
    clear hl
    simp only [hasTs, and_true] at h
    obtain ⟨h0, h1, h2, h3, h4⟩ := h
    obtain ⟨r0, rfl, h0⟩ := is_sl h0
    obtain ⟨t1, rfl⟩ := is_b h1
    obtain ⟨s2, rfl, h2⟩ := is_s h2
    obtain ⟨n3, rfl, h3⟩ := is_i h3
    obtain ⟨r4, rfl, h4⟩ := is_sl h4
    obtain ⟨m0, e0, q0⟩ := szStringS_ok r0 h0.2 h0.1 n (by omega) (by omega)
    by_cases c0 : m0 < 0
    · simp (config := {implicitDefEqProofs := false}) only [m109, entered, argRegs, DA.av, DL_r, DL_skip, DL_seq, DL_cond, condDL_b, DL_blk, DL_ex, DL_ret, DL_pre, DL_post, andThen_n, andThen_ex, andThen_ret, goN_eq, outOf_n, outOf_ret, outOf_ex, krun_nil, krun_cons, kstep, St.set, St.op, St.reg, klook, kput, kdel, killAll, Option.bind_some, Option.map_some, Option.bind_none, Option.map_none, Option.getD_some, ↓reduceIte, Nat.reduceEqDiff, Nat.reduceLT, List.length_map, binV, binI, binS, isSh, asInt', Option.bind_eq_bind, decide_eq_true_eq, St.new, St.unref, St.unlook, St.turn, St.gone, dropAll, AV.refs, AV.refsL, AV.looks, AV.looksL, AV.fr, AV.frL, List.filter_cons, List.filter_nil, Bool.not_false, Bool.not_true, cellsOf, cellOf, AV.cells, kcut, packed, viewOf, viewD, St.arg, St.one, allOf, List.map_cons, List.map_nil, RV.av, ite_bind', ite_map', List.getElem?_map, bind_map', BEq.rfl, List.getElem?_cons_zero, List.set_cons_zero, List.drop_zero, List.take_succ_cons, List.length_cons, List.length_nil, Nat.reduceAdd, Nat.reduceLeDiff, List.drop_succ_cons, List.take_zero, List.nil_append, List.append_nil, List.cons_append, and_self, Bool.false_eq_true, Nat.reduceBEq, and_true, true_and, ended, resV, rvOf, tupled, Bool.or_false, Bool.false_or, Bool.or_true, Bool.true_or, called, Bool.and_true, Bool.true_and, beq_self_eq_true, Int.toNat_natCast, Int.natCast_nonneg, skipped, AV.parts, fillO, chunks, List.replicate_succ, List.replicate_zero, List.flatten_cons, List.flatten_nil, Nat.reduceMul, Nat.zero_mul, Nat.mul_one, tailOf, appTo, AV.toOwn, AV.toD, D.scalar, List.all_cons, List.all_nil, rowF, Nat.zero_add, Nat.zero_le, List.getElem?_cons_succ, RV.avL, keepAll, keepOne, Bool.true_eq_false, e0, c0, if_true, if_false]; exact ⟨_, rfl, .inl rfl⟩
    have p0 : 0 ≤ m0 ∧ m0 + szD (.sl r0) = n := by rcases q0 with q | q <;> omega
    have w2 : IntKind.i64.wrap (m0 - (s2.length : Int)) = m0 - (s2.length : Int) := wrap_id (by omega) (by omega)
    by_cases c2 : m0 - (s2.length : Int) < 0
    · simp (config := {implicitDefEqProofs := false}) only [m109, entered, argRegs, DA.av, DL_r, DL_skip, DL_seq, DL_cond, condDL_b, DL_blk, DL_ex, DL_ret, DL_pre, DL_post, andThen_n, andThen_ex, andThen_ret, goN_eq, outOf_n, outOf_ret, outOf_ex, krun_nil, krun_cons, kstep, St.set, St.op, St.reg, klook, kput, kdel, killAll, Option.bind_some, Option.map_some, Option.bind_none, Option.map_none, Option.getD_some, ↓reduceIte, Nat.reduceEqDiff, Nat.reduceLT, List.length_map, binV, binI, binS, isSh, asInt', Option.bind_eq_bind, decide_eq_true_eq, St.new, St.unref, St.unlook, St.turn, St.gone, dropAll, AV.refs, AV.refsL, AV.looks, AV.looksL, AV.fr, AV.frL, List.filter_cons, List.filter_nil, Bool.not_false, Bool.not_true, cellsOf, cellOf, AV.cells, kcut, packed, viewOf, viewD, St.arg, St.one, allOf, List.map_cons, List.map_nil, RV.av, ite_bind', ite_map', List.getElem?_map, bind_map', BEq.rfl, List.getElem?_cons_zero, List.set_cons_zero, List.drop_zero, List.take_succ_cons, List.length_cons, List.length_nil, Nat.reduceAdd, Nat.reduceLeDiff, List.drop_succ_cons, List.take_zero, List.nil_append, List.append_nil, List.cons_append, and_self, Bool.false_eq_true, Nat.reduceBEq, and_true, true_and, ended, resV, rvOf, tupled, Bool.or_false, Bool.false_or, Bool.or_true, Bool.true_or, called, Bool.and_true, Bool.true_and, beq_self_eq_true, Int.toNat_natCast, Int.natCast_nonneg, skipped, AV.parts, fillO, chunks, List.replicate_succ, List.replicate_zero, List.flatten_cons, List.flatten_nil, Nat.reduceMul, Nat.zero_mul, Nat.mul_one, tailOf, appTo, AV.toOwn, AV.toD, D.scalar, List.all_cons, List.all_nil, rowF, Nat.zero_add, Nat.zero_le, List.getElem?_cons_succ, RV.avL, keepAll, keepOne, Bool.true_eq_false, e0, c0, w2, c2, if_true, if_false]; exact ⟨_, rfl, .inl rfl⟩
    obtain ⟨m4, e4, q4⟩ := szPropS_ok r4 h4.2 h4.1 (m0 - (s2.length : Int)) (by omega) (by omega)
    by_cases c4 : m4 < 0
    · simp (config := {implicitDefEqProofs := false}) only [m109, entered, argRegs, DA.av, DL_r, DL_skip, DL_seq, DL_cond, condDL_b, DL_blk, DL_ex, DL_ret, DL_pre, DL_post, andThen_n, andThen_ex, andThen_ret, goN_eq, outOf_n, outOf_ret, outOf_ex, krun_nil, krun_cons, kstep, St.set, St.op, St.reg, klook, kput, kdel, killAll, Option.bind_some, Option.map_some, Option.bind_none, Option.map_none, Option.getD_some, ↓reduceIte, Nat.reduceEqDiff, Nat.reduceLT, List.length_map, binV, binI, binS, isSh, asInt', Option.bind_eq_bind, decide_eq_true_eq, St.new, St.unref, St.unlook, St.turn, St.gone, dropAll, AV.refs, AV.refsL, AV.looks, AV.looksL, AV.fr, AV.frL, List.filter_cons, List.filter_nil, Bool.not_false, Bool.not_true, cellsOf, cellOf, AV.cells, kcut, packed, viewOf, viewD, St.arg, St.one, allOf, List.map_cons, List.map_nil, RV.av, ite_bind', ite_map', List.getElem?_map, bind_map', BEq.rfl, List.getElem?_cons_zero, List.set_cons_zero, List.drop_zero, List.take_succ_cons, List.length_cons, List.length_nil, Nat.reduceAdd, Nat.reduceLeDiff, List.drop_succ_cons, List.take_zero, List.nil_append, List.append_nil, List.cons_append, and_self, Bool.false_eq_true, Nat.reduceBEq, and_true, true_and, ended, resV, rvOf, tupled, Bool.or_false, Bool.false_or, Bool.or_true, Bool.true_or, called, Bool.and_true, Bool.true_and, beq_self_eq_true, Int.toNat_natCast, Int.natCast_nonneg, skipped, AV.parts, fillO, chunks, List.replicate_succ, List.replicate_zero, List.flatten_cons, List.flatten_nil, Nat.reduceMul, Nat.zero_mul, Nat.mul_one, tailOf, appTo, AV.toOwn, AV.toD, D.scalar, List.all_cons, List.all_nil, rowF, Nat.zero_add, Nat.zero_le, List.getElem?_cons_succ, RV.avL, keepAll, keepOne, Bool.true_eq_false, e0, c0, w2, c2, e4, c4, if_true, if_false]; exact ⟨_, rfl, .inl rfl⟩
    have p4 : 0 ≤ m4 ∧ m4 + szD (.sl r4) = (m0 - (s2.length : Int)) := by rcases q4 with q | q <;> omega
    simp (config := {implicitDefEqProofs := false}) only [m109, entered, argRegs, DA.av, DL_r, DL_skip, DL_seq, DL_cond, condDL_b, DL_blk, DL_ex, DL_ret, DL_pre, DL_post, andThen_n, andThen_ex, andThen_ret, goN_eq, outOf_n, outOf_ret, outOf_ex, krun_nil, krun_cons, kstep, St.set, St.op, St.reg, klook, kput, kdel, killAll, Option.bind_some, Option.map_some, Option.bind_none, Option.map_none, Option.getD_some, ↓reduceIte, Nat.reduceEqDiff, Nat.reduceLT, List.length_map, binV, binI, binS, isSh, asInt', Option.bind_eq_bind, decide_eq_true_eq, St.new, St.unref, St.unlook, St.turn, St.gone, dropAll, AV.refs, AV.refsL, AV.looks, AV.looksL, AV.fr, AV.frL, List.filter_cons, List.filter_nil, Bool.not_false, Bool.not_true, cellsOf, cellOf, AV.cells, kcut, packed, viewOf, viewD, St.arg, St.one, allOf, List.map_cons, List.map_nil, RV.av, ite_bind', ite_map', List.getElem?_map, bind_map', BEq.rfl, List.getElem?_cons_zero, List.set_cons_zero, List.drop_zero, List.take_succ_cons, List.length_cons, List.length_nil, Nat.reduceAdd, Nat.reduceLeDiff, List.drop_succ_cons, List.take_zero, List.nil_append, List.append_nil, List.cons_append, and_self, Bool.false_eq_true, Nat.reduceBEq, and_true, true_and, ended, resV, rvOf, tupled, Bool.or_false, Bool.false_or, Bool.or_true, Bool.true_or, called, Bool.and_true, Bool.true_and, beq_self_eq_true, Int.toNat_natCast, Int.natCast_nonneg, skipped, AV.parts, fillO, chunks, List.replicate_succ, List.replicate_zero, List.flatten_cons, List.flatten_nil, Nat.reduceMul, Nat.zero_mul, Nat.mul_one, tailOf, appTo, AV.toOwn, AV.toD, D.scalar, List.all_cons, List.all_nil, rowF, Nat.zero_add, Nat.zero_le, List.getElem?_cons_succ, RV.avL, keepAll, keepOne, Bool.true_eq_false, e0, c0, w2, c2, e4, c4, if_true, if_false]
    exact ⟨_, rfl, .inr ⟨by omega, by simp only [szDs, szD] at *; omega⟩⟩
theorem toResS_ok (rows : List (List D)) (h : ∀ r ∈ rows, hasTs ctRes r) (hs : szD (.sl rows) ≤ 1048576) : V 59 [.one (.sl rows)] = some (false, .one (.sl rows)) := by
  simp only [szD] at hs
  exact toF1_ok (n := 59) (g := 112) (sz := 5) (bytes := 80) (z := [.nil, .d (.b false), .d (.s []), .d (.i .i64 0), .nil]) rfl rows (by omega) (by omega) rfl rfl fun r hr => ⟨hasTs_len (h r hr), toRes_ok r (h r hr) (by have := szRows_get hr; omega)⟩
theorem szResS_ok (rows : List (List D)) (h : ∀ r ∈ rows, hasTs ctRes r) (hl : rows.length ≤ 9223372036854775807) (m : Int) (h0 : 0 ≤ m) (hm : m ≤ 1048576) : ∃ r : Int, V 55 [.one (.sl rows), .one (.i .i64 m)] = some (false, .one (.i .i64 r)) ∧ Sized r m (szD (.sl rows)) :=
  szF1_ok (n := 55) (g := 109) (sz := 5) rfl rows hl (fun r hr => ⟨hasTs_len (h r hr), szRes_ok r (h r hr)⟩) m h0 hm
theorem eqResS_ok (rows : List (List D)) (h : ∀ r ∈ rows, hasTs ctRes r) (hl : rows.length ≤ 9223372036854775807) : V 63 [.one (.sl rows), .one (.sl rows)] = some (false, .one (.b true)) :=
  eqF1_ok (n := 63) (g := 115) (sz := 5) rfl rows hl fun r hr => ⟨hasTs_len (h r hr), eqRes_ok r (h r hr)⟩
abbrev ctLock : List CT := [.i .i64, .sl [.s], .b, .b, .i .i64]
theorem toLock_ok (ds : List D) (h : hasTs ctLock ds) (hsz : szDs ds ≤ 1048576) : V 113 [.agg ds] = some (false, .agg ds) := by
  rw [V_eq (fn := m113) rfl]
  match ds, hasTs_len h, h with
  | [x0, x1, x2, x3, x4], hl, h =>
    clear hl
    simp only [hasTs, and_true] at h
    obtain ⟨h0, h1, h2, h3, h4⟩ := h
    obtain ⟨n0, rfl, h0⟩ := is_i h0
    obtain ⟨r1, rfl, h1⟩ := is_sl h1
    obtain ⟨t2, rfl⟩ := is_b h2
    obtain ⟨t3, rfl⟩ := is_b h3
    obtain ⟨n4, rfl, h4⟩ := is_i h4
    simp only [szDs] at hsz
    have e1 := toStringS_ok r1 h1.2 (by omega)
    simp (config := {implicitDefEqProofs := false}) only [m113, entered, argRegs, DA.av, DL_r, DL_skip, DL_seq, DL_cond, condDL_b, DL_blk, DL_ex, DL_ret, DL_pre, DL_post, andThen_n, andThen_ex, andThen_ret, goN_eq, outOf_n, outOf_ret, outOf_ex, krun_nil, krun_cons, kstep, St.set, St.op, St.reg, klook, kput, kdel, killAll, Option.bind_some, Option.map_some, Option.bind_none, Option.map_none, Option.getD_some, ↓reduceIte, Nat.reduceEqDiff, Nat.reduceLT, List.length_map, binV, binI, binS, isSh, asInt', Option.bind_eq_bind, decide_eq_true_eq, St.new, St.unref, St.unlook, St.turn, St.gone, dropAll, AV.refs, AV.refsL, AV.looks, AV.looksL, AV.fr, AV.frL, List.filter_cons, List.filter_nil, Bool.not_false, Bool.not_true, cellsOf, cellOf, AV.cells, kcut, packed, viewOf, viewD, St.arg, St.one, allOf, List.map_cons, List.map_nil, RV.av, ite_bind', ite_map', List.getElem?_map, bind_map', BEq.rfl, List.getElem?_cons_zero, List.set_cons_zero, List.drop_zero, List.take_succ_cons, List.length_cons, List.length_nil, Nat.reduceAdd, Nat.reduceLeDiff, List.drop_succ_cons, List.take_zero, List.nil_append, List.append_nil, List.cons_append, and_self, Bool.false_eq_true, Nat.reduceBEq, and_true, true_and, ended, resV, rvOf, tupled, Bool.or_false, Bool.false_or, Bool.or_true, Bool.true_or, called, Bool.and_true, Bool.true_and, beq_self_eq_true, Int.toNat_natCast, Int.natCast_nonneg, skipped, AV.parts, fillO, chunks, List.replicate_succ, List.replicate_zero, List.flatten_cons, List.flatten_nil, Nat.reduceMul, Nat.zero_mul, Nat.mul_one, tailOf, appTo, AV.toOwn, AV.toD, D.scalar, List.all_cons, List.all_nil, rowF, Nat.zero_add, Nat.zero_le, List.getElem?_cons_succ, RV.avL, keepAll, keepOne, Bool.true_eq_false, e1]
theorem eqLock_ok (ds : List D) (h : hasTs ctLock ds) : V 116 [.agg ds, .agg ds] = some (false, .one (.b true)) := by
  rw [V_eq (fn := m116) rfl]
  match ds, hasTs_len h, h with
  | [x0, x1, x2, x3, x4], hl, h =>
    clear hl
    simp only [hasTs, and_true] at h
    obtain ⟨h0, h1, h2, h3, h4⟩ := h
    obtain ⟨n0, rfl, h0⟩ := is_i h0
    obtain ⟨r1, rfl, h1⟩ := is_sl h1
    obtain ⟨t2, rfl⟩ := is_b h2
    obtain ⟨t3, rfl⟩ := is_b h3
    obtain ⟨n4, rfl, h4⟩ := is_i h4
    have e1 := eqStringS_ok r1 h1.2 h1.1
    simp (config := {implicitDefEqProofs := false}) only [m116, entered, argRegs, DA.av, DL_r, DL_skip, DL_seq, DL_cond, condDL_b, DL_blk, DL_ex, DL_ret, DL_pre, DL_post, andThen_n, andThen_ex, andThen_ret, goN_eq, outOf_n, outOf_ret, outOf_ex, krun_nil, krun_cons, kstep, St.set, St.op, St.reg, klook, kput, kdel, killAll, Option.bind_some, Option.map_some, Option.bind_none, Option.map_none, Option.getD_some, ↓reduceIte, Nat.reduceEqDiff, Nat.reduceLT, List.length_map, binV, binI, binS, isSh, asInt', Option.bind_eq_bind, decide_eq_true_eq, St.new, St.unref, St.unlook, St.turn, St.gone, dropAll, AV.refs, AV.refsL, AV.looks, AV.looksL, AV.fr, AV.frL, List.filter_cons, List.filter_nil, Bool.not_false, Bool.not_true, cellsOf, cellOf, AV.cells, kcut, packed, viewOf, viewD, St.arg, St.one, allOf, List.map_cons, List.map_nil, RV.av, ite_bind', ite_map', List.getElem?_map, bind_map', BEq.rfl, List.getElem?_cons_zero, List.set_cons_zero, List.drop_zero, List.take_succ_cons, List.length_cons, List.length_nil, Nat.reduceAdd, Nat.reduceLeDiff, List.drop_succ_cons, List.take_zero, List.nil_append, List.append_nil, List.cons_append, and_self, Bool.false_eq_true, Nat.reduceBEq, and_true, true_and, ended, resV, rvOf, tupled, Bool.or_false, Bool.false_or, Bool.or_true, Bool.true_or, called, Bool.and_true, Bool.true_and, beq_self_eq_true, Int.toNat_natCast, Int.natCast_nonneg, skipped, AV.parts, fillO, chunks, List.replicate_succ, List.replicate_zero, List.flatten_cons, List.flatten_nil, Nat.reduceMul, Nat.zero_mul, Nat.mul_one, tailOf, appTo, AV.toOwn, AV.toD, D.scalar, List.all_cons, List.all_nil, rowF, Nat.zero_add, Nat.zero_le, List.getElem?_cons_succ, RV.avL, keepAll, keepOne, Bool.true_eq_false, e1, ne_eq, not_true, decide_false, decide_true, if_false, bne_self_eq_false]
theorem szLock_ok (ds : List D) (h : hasTs ctLock ds) (n : Int) (h0n : 0 ≤ n) (hn : n ≤ 1048576) : ∃ m : Int, V 110 [.agg ds, .one (.i .i64 n)] = some (false, .one (.i .i64 m)) ∧ Sized m n (szDs ds) := by
  rw [V_eq (fn := m110) rfl]
  match ds, hasTs_len h, h with
  | [x0, x1, x2, x3, x4], hl, h =>
    clear hl
    simp only [hasTs, and_true] at h
    obtain ⟨h0, h1, h2, h3, h4⟩ := h
    obtain ⟨n0, rfl, h0⟩ := is_i h0
    obtain ⟨r1, rfl, h1⟩ := is_sl h1
    obtain ⟨t2, rfl⟩ := is_b h2
    obtain ⟨t3, rfl⟩ := is_b h3
    obtain ⟨n4, rfl, h4⟩ := is_i h4
    obtain ⟨m1, e1, q1⟩ := szStringS_ok r1 h1.2 h1.1 n (by omega) (by omega)
    by_cases c1 : m1 < 0
    · simp (config := {implicitDefEqProofs := false}) only [m110, entered, argRegs, DA.av, DL_r, DL_skip, DL_seq, DL_cond, condDL_b, DL_blk, DL_ex, DL_ret, DL_pre, DL_post, andThen_n, andThen_ex, andThen_ret, goN_eq, outOf_n, outOf_ret, outOf_ex, krun_nil, krun_cons, kstep, St.set, St.op, St.reg, klook, kput, kdel, killAll, Option.bind_some, Option.map_some, Option.bind_none, Option.map_none, Option.getD_some, ↓reduceIte, Nat.reduceEqDiff, Nat.reduceLT, List.length_map, binV, binI, binS, isSh, asInt', Option.bind_eq_bind, decide_eq_true_eq, St.new, St.unref, St.unlook, St.turn, St.gone, dropAll, AV.refs, AV.refsL, AV.looks, AV.looksL, AV.fr, AV.frL, List.filter_cons, List.filter_nil, Bool.not_false, Bool.not_true, cellsOf, cellOf, AV.cells, kcut, packed, viewOf, viewD, St.arg, St.one, allOf, List.map_cons, List.map_nil, RV.av, ite_bind', ite_map', List.getElem?_map, bind_map', BEq.rfl, List.getElem?_cons_zero, List.set_cons_zero, List.drop_zero, List.take_succ_cons, List.length_cons, List.length_nil, Nat.reduceAdd, Nat.reduceLeDiff, List.drop_succ_cons, List.take_zero, List.nil_append, List.append_nil, List.cons_append, and_self, Bool.false_eq_true, Nat.reduceBEq, and_true, true_and, ended, resV, rvOf, tupled, Bool.or_false, Bool.false_or, Bool.or_true, Bool.true_or, called, Bool.and_true, Bool.true_and, beq_self_eq_true, Int.toNat_natCast, Int.natCast_nonneg, skipped, AV.parts, fillO, chunks, List.replicate_succ, List.replicate_zero, List.flatten_cons, List.flatten_nil, Nat.reduceMul, Nat.zero_mul, Nat.mul_one, tailOf, appTo, AV.toOwn, AV.toD, D.scalar, List.all_cons, List.all_nil, rowF, Nat.zero_add, Nat.zero_le, List.getElem?_cons_succ, RV.avL, keepAll, keepOne, Bool.true_eq_false, e1, c1, if_true, if_false]; exact ⟨_, rfl, .inl rfl⟩
    have p1 : 0 ≤ m1 ∧ m1 + szD (.sl r1) = n := by rcases q1 with q | q <;> omega
    simp (config := {implicitDefEqProofs := false}) only [m110, entered, argRegs, DA.av, DL_r, DL_skip, DL_seq, DL_cond, condDL_b, DL_blk, DL_ex, DL_ret, DL_pre, DL_post, andThen_n, andThen_ex, andThen_ret, goN_eq, outOf_n, outOf_ret, outOf_ex, krun_nil, krun_cons, kstep, St.set, St.op, St.reg, klook, kput, kdel, killAll, Option.bind_some, Option.map_some, Option.bind_none, Option.map_none, Option.getD_some, ↓reduceIte, Nat.reduceEqDiff, Nat.reduceLT, List.length_map, binV, binI, binS, isSh, asInt', Option.bind_eq_bind, decide_eq_true_eq, St.new, St.unref, St.unlook, St.turn, St.gone, dropAll, AV.refs, AV.refsL, AV.looks, AV.looksL, AV.fr, AV.frL, List.filter_cons, List.filter_nil, Bool.not_false, Bool.not_true, cellsOf, cellOf, AV.cells, kcut, packed, viewOf, viewD, St.arg, St.one, allOf, List.map_cons, List.map_nil, RV.av, ite_bind', ite_map', List.getElem?_map, bind_map', BEq.rfl, List.getElem?_cons_zero, List.set_cons_zero, List.drop_zero, List.take_succ_cons, List.length_cons, List.length_nil, Nat.reduceAdd, Nat.reduceLeDiff, List.drop_succ_cons, List.take_zero, List.nil_append, List.append_nil, List.cons_append, and_self, Bool.false_eq_true, Nat.reduceBEq, and_true, true_and, ended, resV, rvOf, tupled, Bool.or_false, Bool.false_or, Bool.or_true, Bool.true_or, called, Bool.and_true, Bool.true_and, beq_self_eq_true, Int.toNat_natCast, Int.natCast_nonneg, skipped, AV.parts, fillO, chunks, List.replicate_succ, List.replicate_zero, List.flatten_cons, List.flatten_nil, Nat.reduceMul, Nat.zero_mul, Nat.mul_one, tailOf, appTo, AV.toOwn, AV.toD, D.scalar, List.all_cons, List.all_nil, rowF, Nat.zero_add, Nat.zero_le, List.getElem?_cons_succ, RV.avL, keepAll, keepOne, Bool.true_eq_false, e1, c1, if_true, if_false]
    exact ⟨_, rfl, .inr ⟨by omega, by simp only [szDs, szD] at *; omega⟩⟩
theorem toLockS_ok (rows : List (List D)) (h : ∀ r ∈ rows, hasTs ctLock r) (hs : szD (.sl rows) ≤ 1048576) : V 60 [.one (.sl rows)] = some (false, .one (.sl rows)) := by
  simp only [szD] at hs
  exact toF1_ok (n := 60) (g := 113) (sz := 5) (bytes := 48) (z := [.d (.i .i64 0), .nil, .d (.b false), .d (.b false), .d (.i .i64 0)]) rfl rows (by omega) (by omega) rfl rfl fun r hr => ⟨hasTs_len (h r hr), toLock_ok r (h r hr) (by have := szRows_get hr; omega)⟩
theorem szLockS_ok (rows : List (List D)) (h : ∀ r ∈ rows, hasTs ctLock r) (hl : rows.length ≤ 9223372036854775807) (m : Int) (h0 : 0 ≤ m) (hm : m ≤ 1048576) : ∃ r : Int, V 56 [.one (.sl rows), .one (.i .i64 m)] = some (false, .one (.i .i64 r)) ∧ Sized r m (szD (.sl rows)) :=
  szF1_ok (n := 56) (g := 110) (sz := 5) rfl rows hl (fun r hr => ⟨hasTs_len (h r hr), szLock_ok r (h r hr)⟩) m h0 hm
theorem eqLockS_ok (rows : List (List D)) (h : ∀ r ∈ rows, hasTs ctLock r) (hl : rows.length ≤ 9223372036854775807) : V 64 [.one (.sl rows), .one (.sl rows)] = some (false, .one (.b true)) :=
  eqF1_ok (n := 64) (g := 116) (sz := 5) rfl rows hl fun r hr => ⟨hasTs_len (h r hr), eqLock_ok r (h r hr)⟩
theorem toIntS_ok (rows : List (List D)) (h : ∀ r ∈ rows, hasTs [.i .i64] r) (hs : szD (.sl rows) ≤ 1048576) : V 61 [.one (.sl rows)] = some (false, .one (.sl rows)) := by
  simp only [szD] at hs
  exact toF3_ok (n := 61) (bytes := 8) (z := .d (.i .i64 0)) rfl rows (by omega) (by omega) rfl fun r hr => one_of (h r hr)
theorem szIntS_ok (rows : List (List D)) (h : ∀ r ∈ rows, hasTs [.i .i64] r) (hl : rows.length ≤ 9223372036854775807) (m : Int) (h0 : 0 ≤ m) (hm : m ≤ 1048576) : ∃ r : Int, V 57 [.one (.sl rows), .one (.i .i64 m)] = some (false, .one (.i .i64 r)) ∧ Sized r m (szD (.sl rows)) := by
  rw [V_eq (fn := m57) rfl]
  have hz : szRows rows = 0 := szRows_int h
  have hw : IntKind.i64.wrap (m - rows.length) = m - rows.length := wrap_id (by omega) (by omega)
  by_cases c : m - (rows.length : Int) < 0
  · simp (config := {implicitDefEqProofs := false}) only [m57, entered, argRegs, DA.av, DL_r, DL_skip, DL_seq, DL_cond, condDL_b, DL_blk, DL_ex, DL_ret, DL_pre, DL_post, andThen_n, andThen_ex, andThen_ret, goN_eq, outOf_n, outOf_ret, outOf_ex, krun_nil, krun_cons, kstep, St.set, St.op, St.reg, klook, kput, kdel, killAll, Option.bind_some, Option.map_some, Option.bind_none, Option.map_none, Option.getD_some, ↓reduceIte, Nat.reduceEqDiff, Nat.reduceLT, List.length_map, binV, binI, binS, isSh, asInt', Option.bind_eq_bind, decide_eq_true_eq, St.new, St.unref, St.unlook, St.turn, St.gone, dropAll, AV.refs, AV.refsL, AV.looks, AV.looksL, AV.fr, AV.frL, List.filter_cons, List.filter_nil, Bool.not_false, Bool.not_true, cellsOf, cellOf, AV.cells, kcut, packed, viewOf, viewD, St.arg, St.one, allOf, List.map_cons, List.map_nil, RV.av, ite_bind', ite_map', List.getElem?_map, bind_map', BEq.rfl, List.getElem?_cons_zero, List.set_cons_zero, List.drop_zero, List.take_succ_cons, List.length_cons, List.length_nil, Nat.reduceAdd, Nat.reduceLeDiff, List.drop_succ_cons, List.take_zero, List.nil_append, List.append_nil, List.cons_append, and_self, Bool.false_eq_true, Nat.reduceBEq, and_true, true_and, ended, resV, rvOf, tupled, Bool.or_false, Bool.false_or, Bool.or_true, Bool.true_or, called, Bool.and_true, Bool.true_and, beq_self_eq_true, Int.toNat_natCast, Int.natCast_nonneg, skipped, AV.parts, fillO, chunks, List.replicate_succ, List.replicate_zero, List.flatten_cons, List.flatten_nil, Nat.reduceMul, Nat.zero_mul, Nat.mul_one, tailOf, appTo, AV.toOwn, AV.toD, D.scalar, List.all_cons, List.all_nil, rowF, Nat.zero_add, Nat.zero_le, List.getElem?_cons_succ, RV.avL, keepAll, keepOne, Bool.true_eq_false, hw, c, if_true]; exact ⟨_, rfl, .inl rfl⟩
  · simp (config := {implicitDefEqProofs := false}) only [m57, entered, argRegs, DA.av, DL_r, DL_skip, DL_seq, DL_cond, condDL_b, DL_blk, DL_ex, DL_ret, DL_pre, DL_post, andThen_n, andThen_ex, andThen_ret, goN_eq, outOf_n, outOf_ret, outOf_ex, krun_nil, krun_cons, kstep, St.set, St.op, St.reg, klook, kput, kdel, killAll, Option.bind_some, Option.map_some, Option.bind_none, Option.map_none, Option.getD_some, ↓reduceIte, Nat.reduceEqDiff, Nat.reduceLT, List.length_map, binV, binI, binS, isSh, asInt', Option.bind_eq_bind, decide_eq_true_eq, St.new, St.unref, St.unlook, St.turn, St.gone, dropAll, AV.refs, AV.refsL, AV.looks, AV.looksL, AV.fr, AV.frL, List.filter_cons, List.filter_nil, Bool.not_false, Bool.not_true, cellsOf, cellOf, AV.cells, kcut, packed, viewOf, viewD, St.arg, St.one, allOf, List.map_cons, List.map_nil, RV.av, ite_bind', ite_map', List.getElem?_map, bind_map', BEq.rfl, List.getElem?_cons_zero, List.set_cons_zero, List.drop_zero, List.take_succ_cons, List.length_cons, List.length_nil, Nat.reduceAdd, Nat.reduceLeDiff, List.drop_succ_cons, List.take_zero, List.nil_append, List.append_nil, List.cons_append, and_self, Bool.false_eq_true, Nat.reduceBEq, and_true, true_and, ended, resV, rvOf, tupled, Bool.or_false, Bool.false_or, Bool.or_true, Bool.true_or, called, Bool.and_true, Bool.true_and, beq_self_eq_true, Int.toNat_natCast, Int.natCast_nonneg, skipped, AV.parts, fillO, chunks, List.replicate_succ, List.replicate_zero, List.flatten_cons, List.flatten_nil, Nat.reduceMul, Nat.zero_mul, Nat.mul_one, tailOf, appTo, AV.toOwn, AV.toD, D.scalar, List.all_cons, List.all_nil, rowF, Nat.zero_add, Nat.zero_le, List.getElem?_cons_succ, RV.avL, keepAll, keepOne, Bool.true_eq_false, hw, c, if_false]; exact ⟨_, rfl, .inr ⟨by omega, by simp only [szD, hz]; omega⟩⟩
theorem eqIntS_ok (rows : List (List D)) (h : ∀ r ∈ rows, hasTs [.i .i64] r) (hl : rows.length ≤ 9223372036854775807) : V 65 [.one (.sl rows), .one (.sl rows)] = some (false, .one (.b true)) :=
  eqF3_ok (n := 65) rfl rows hl fun r hr => int_or (h r hr)
abbrev ctSrv : List CT := [.sl ctRes, .sl ctLock, .i .i64, .i .i64, .sl [.i .i64], .sl [.i .i64]]
theorem toSrv_ok (ds : List D) (h : hasTs ctSrv ds) (hsz : szDs ds ≤ 1048576) : V 15 [.agg ds] = some (false, .agg ds) := by
  rw [V_eq (fn := m15) rfl]
  match ds, hasTs_len h, h with
  | [x0, x1, x2, x3, x4, x5], hl, h =>
    clear hl
    simp only [hasTs, and_true] at h
    obtain ⟨h0, h1, h2, h3, h4, h5⟩ := h
    obtain ⟨r0, rfl, h0⟩ := is_sl h0
    obtain ⟨r1, rfl, h1⟩ := is_sl h1
    obtain ⟨n2, rfl, h2⟩ := is_i h2
    obtain ⟨n3, rfl, h3⟩ := is_i h3
    obtain ⟨r4, rfl, h4⟩ := is_sl h4
    obtain ⟨r5, rfl, h5⟩ := is_sl h5
    simp only [szDs] at hsz
    have e0 := toResS_ok r0 h0.2 (by omega)
    have e1 := toLockS_ok r1 h1.2 (by omega)
    have e4 := toIntS_ok r4 h4.2 (by omega)
    have e5 := toIntS_ok r5 h5.2 (by omega)
    simp (config := {implicitDefEqProofs := false}) only [m15, entered, argRegs, DA.av, DL_r, DL_skip, DL_seq, DL_cond, condDL_b, DL_blk, DL_ex, DL_ret, DL_pre, DL_post, andThen_n, andThen_ex, andThen_ret, goN_eq, outOf_n, outOf_ret, outOf_ex, krun_nil, krun_cons, kstep, St.set, St.op, St.reg, klook, kput, kdel, killAll, Option.bind_some, Option.map_some, Option.bind_none, Option.map_none, Option.getD_some, ↓reduceIte, Nat.reduceEqDiff, Nat.reduceLT, List.length_map, binV, binI, binS, isSh, asInt', Option.bind_eq_bind, decide_eq_true_eq, St.new, St.unref, St.unlook, St.turn, St.gone, dropAll, AV.refs, AV.refsL, AV.looks, AV.looksL, AV.fr, AV.frL, List.filter_cons, List.filter_nil, Bool.not_false, Bool.not_true, cellsOf, cellOf, AV.cells, kcut, packed, viewOf, viewD, St.arg, St.one, allOf, List.map_cons, List.map_nil, RV.av, ite_bind', ite_map', List.getElem?_map, bind_map', BEq.rfl, List.getElem?_cons_zero, List.set_cons_zero, List.drop_zero, List.take_succ_cons, List.length_cons, List.length_nil, Nat.reduceAdd, Nat.reduceLeDiff, List.drop_succ_cons, List.take_zero, List.nil_append, List.append_nil, List.cons_append, and_self, Bool.false_eq_true, Nat.reduceBEq, and_true, true_and, ended, resV, rvOf, tupled, Bool.or_false, Bool.false_or, Bool.or_true, Bool.true_or, called, Bool.and_true, Bool.true_and, beq_self_eq_true, Int.toNat_natCast, Int.natCast_nonneg, skipped, AV.parts, fillO, chunks, List.replicate_succ, List.replicate_zero, List.flatten_cons, List.flatten_nil, Nat.reduceMul, Nat.zero_mul, Nat.mul_one, tailOf, appTo, AV.toOwn, AV.toD, D.scalar, List.all_cons, List.all_nil, rowF, Nat.zero_add, Nat.zero_le, List.getElem?_cons_succ, RV.avL, keepAll, keepOne, Bool.true_eq_false, e0, e1, e4, e5]
theorem eqSrv_ok (ds : List D) (h : hasTs ctSrv ds) : V 17 [.agg ds, .agg ds] = some (false, .one (.b true)) := by
  rw [V_eq (fn := m17) rfl]
  match ds, hasTs_len h, h with
  | [x0, x1, x2, x3, x4, x5], hl, h =>
    clear hl
    simp only [hasTs, and_true] at h
    obtain ⟨h0, h1, h2, h3, h4, h5⟩ := h
    obtain ⟨r0, rfl, h0⟩ := is_sl h0
    obtain ⟨r1, rfl, h1⟩ := is_sl h1
    obtain ⟨n2, rfl, h2⟩ := is_i h2
    obtain ⟨n3, rfl, h3⟩ := is_i h3
    obtain ⟨r4, rfl, h4⟩ := is_sl h4
    obtain ⟨r5, rfl, h5⟩ := is_sl h5
    have e0 := eqResS_ok r0 h0.2 h0.1
    have e1 := eqLockS_ok r1 h1.2 h1.1
    have e4 := eqIntS_ok r4 h4.2 h4.1
    have e5 := eqIntS_ok r5 h5.2 h5.1
    simp (config := {implicitDefEqProofs := false}) only [m17, entered, argRegs, DA.av, DL_r, DL_skip, DL_seq, DL_cond, condDL_b, DL_blk, DL_ex, DL_ret, DL_pre, DL_post, andThen_n, andThen_ex, andThen_ret, goN_eq, outOf_n, outOf_ret, outOf_ex, krun_nil, krun_cons, kstep, St.set, St.op, St.reg, klook, kput, kdel, killAll, Option.bind_some, Option.map_some, Option.bind_none, Option.map_none, Option.getD_some, ↓reduceIte, Nat.reduceEqDiff, Nat.reduceLT, List.length_map, binV, binI, binS, isSh, asInt', Option.bind_eq_bind, decide_eq_true_eq, St.new, St.unref, St.unlook, St.turn, St.gone, dropAll, AV.refs, AV.refsL, AV.looks, AV.looksL, AV.fr, AV.frL, List.filter_cons, List.filter_nil, Bool.not_false, Bool.not_true, cellsOf, cellOf, AV.cells, kcut, packed, viewOf, viewD, St.arg, St.one, allOf, List.map_cons, List.map_nil, RV.av, ite_bind', ite_map', List.getElem?_map, bind_map', BEq.rfl, List.getElem?_cons_zero, List.set_cons_zero, List.drop_zero, List.take_succ_cons, List.length_cons, List.length_nil, Nat.reduceAdd, Nat.reduceLeDiff, List.drop_succ_cons, List.take_zero, List.nil_append, List.append_nil, List.cons_append, and_self, Bool.false_eq_true, Nat.reduceBEq, and_true, true_and, ended, resV, rvOf, tupled, Bool.or_false, Bool.false_or, Bool.or_true, Bool.true_or, called, Bool.and_true, Bool.true_and, beq_self_eq_true, Int.toNat_natCast, Int.natCast_nonneg, skipped, AV.parts, fillO, chunks, List.replicate_succ, List.replicate_zero, List.flatten_cons, List.flatten_nil, Nat.reduceMul, Nat.zero_mul, Nat.mul_one, tailOf, appTo, AV.toOwn, AV.toD, D.scalar, List.all_cons, List.all_nil, rowF, Nat.zero_add, Nat.zero_le, List.getElem?_cons_succ, RV.avL, keepAll, keepOne, Bool.true_eq_false, e0, e1, e4, e5, ne_eq, not_true, decide_false, decide_true, if_false, bne_self_eq_false]
theorem szSrv_ok (ds : List D) (h : hasTs ctSrv ds) (n : Int) (h0n : 0 ≤ n) (hn : n ≤ 1048576) : ∃ m : Int, V 13 [.agg ds, .one (.i .i64 n)] = some (false, .one (.i .i64 m)) ∧ Sized m n (szDs ds) := by
  rw [V_eq (fn := m13) rfl]
  match ds, hasTs_len h, h with
  | [x0, x1, x2, x3, x4, x5], hl, h =>
    clear hl
    simp only [hasTs, and_true] at h
    obtain ⟨h0, h1, h2, h3, h4, h5⟩ := h
    obtain ⟨r0, rfl, h0⟩ := is_sl h0
    obtain ⟨r1, rfl, h1⟩ := is_sl h1
    obtain ⟨n2, rfl, h2⟩ := is_i h2
    obtain ⟨n3, rfl, h3⟩ := is_i h3
    obtain ⟨r4, rfl, h4⟩ := is_sl h4
    obtain ⟨r5, rfl, h5⟩ := is_sl h5
    obtain ⟨m0, e0, q0⟩ := szResS_ok r0 h0.2 h0.1 n (by omega) (by omega)
    by_cases c0 : m0 < 0
    · simp (config := {implicitDefEqProofs := false}) only [m13, entered, argRegs, DA.av, DL_r, DL_skip, DL_seq, DL_cond, condDL_b, DL_blk, DL_ex, DL_ret, DL_pre, DL_post, andThen_n, andThen_ex, andThen_ret, goN_eq, outOf_n, outOf_ret, outOf_ex, krun_nil, krun_cons, kstep, St.set, St.op, St.reg, klook, kput, kdel, killAll, Option.bind_some, Option.map_some, Option.bind_none, Option.map_none, Option.getD_some, ↓reduceIte, Nat.reduceEqDiff, Nat.reduceLT, List.length_map, binV, binI, binS, isSh, asInt', Option.bind_eq_bind, decide_eq_true_eq, St.new, St.unref, St.unlook, St.turn, St.gone, dropAll, AV.refs, AV.refsL, AV.looks, AV.looksL, AV.fr, AV.frL, List.filter_cons, List.filter_nil, Bool.not_false, Bool.not_true, cellsOf, cellOf, AV.cells, kcut, packed, viewOf, viewD, St.arg, St.one, allOf, List.map_cons, List.map_nil, RV.av, ite_bind', ite_map', List.getElem?_map, bind_map', BEq.rfl, List.getElem?_cons_zero, List.set_cons_zero, List.drop_zero, List.take_succ_cons, List.length_cons, List.length_nil, Nat.reduceAdd, Nat.reduceLeDiff, List.drop_succ_cons, List.take_zero, List.nil_append, List.append_nil, List.cons_append, and_self, Bool.false_eq_true, Nat.reduceBEq, and_true, true_and, ended, resV, rvOf, tupled, Bool.or_false, Bool.false_or, Bool.or_true, Bool.true_or, called, Bool.and_true, Bool.true_and, beq_self_eq_true, Int.toNat_natCast, Int.natCast_nonneg, skipped, AV.parts, fillO, chunks, List.replicate_succ, List.replicate_zero, List.flatten_cons, List.flatten_nil, Nat.reduceMul, Nat.zero_mul, Nat.mul_one, tailOf, appTo, AV.toOwn, AV.toD, D.scalar, List.all_cons, List.all_nil, rowF, Nat.zero_add, Nat.zero_le, List.getElem?_cons_succ, RV.avL, keepAll, keepOne, Bool.true_eq_false, e0, c0, if_true, if_false]; exact ⟨_, rfl, .inl rfl⟩
    have p0 : 0 ≤ m0 ∧ m0 + szD (.sl r0) = n := by rcases q0 with q | q <;> omega
    obtain ⟨m1, e1, q1⟩ := szLockS_ok r1 h1.2 h1.1 m0 (by omega) (by omega)
    by_cases c1 : m1 < 0
    · simp (config := {implicitDefEqProofs := false}) only [m13, entered, argRegs, DA.av, DL_r, DL_skip, DL_seq, DL_cond, condDL_b, DL_blk, DL_ex, DL_ret, DL_pre, DL_post, andThen_n, andThen_ex, andThen_ret, goN_eq, outOf_n, outOf_ret, outOf_ex, krun_nil, krun_cons, kstep, St.set, St.op, St.reg, klook, kput, kdel, killAll, Option.bind_some, Option.map_some, Option.bind_none, Option.map_none, Option.getD_some, ↓reduceIte, Nat.reduceEqDiff, Nat.reduceLT, List.length_map, binV, binI, binS, isSh, asInt', Option.bind_eq_bind, decide_eq_true_eq, St.new, St.unref, St.unlook, St.turn, St.gone, dropAll, AV.refs, AV.refsL, AV.looks, AV.looksL, AV.fr, AV.frL, List.filter_cons, List.filter_nil, Bool.not_false, Bool.not_true, cellsOf, cellOf, AV.cells, kcut, packed, viewOf, viewD, St.arg, St.one, allOf, List.map_cons, List.map_nil, RV.av, ite_bind', ite_map', List.getElem?_map, bind_map', BEq.rfl, List.getElem?_cons_zero, List.set_cons_zero, List.drop_zero, List.take_succ_cons, List.length_cons, List.length_nil, Nat.reduceAdd, Nat.reduceLeDiff, List.drop_succ_cons, List.take_zero, List.nil_append, List.append_nil, List.cons_append, and_self, Bool.false_eq_true, Nat.reduceBEq, and_true, true_and, ended, resV, rvOf, tupled, Bool.or_false, Bool.false_or, Bool.or_true, Bool.true_or, called, Bool.and_true, Bool.true_and, beq_self_eq_true, Int.toNat_natCast, Int.natCast_nonneg, skipped, AV.parts, fillO, chunks, List.replicate_succ, List.replicate_zero, List.flatten_cons, List.flatten_nil, Nat.reduceMul, Nat.zero_mul, Nat.mul_one, tailOf, appTo, AV.toOwn, AV.toD, D.scalar, List.all_cons, List.all_nil, rowF, Nat.zero_add, Nat.zero_le, List.getElem?_cons_succ, RV.avL, keepAll, keepOne, Bool.true_eq_false, e0, c0, e1, c1, if_true, if_false]; exact ⟨_, rfl, .inl rfl⟩
    have p1 : 0 ≤ m1 ∧ m1 + szD (.sl r1) = m0 := by rcases q1 with q | q <;> omega
    obtain ⟨m4, e4, q4⟩ := szIntS_ok r4 h4.2 h4.1 m1 (by omega) (by omega)
    by_cases c4 : m4 < 0
    · simp (config := {implicitDefEqProofs := false}) only [m13, entered, argRegs, DA.av, DL_r, DL_skip, DL_seq, DL_cond, condDL_b, DL_blk, DL_ex, DL_ret, DL_pre, DL_post, andThen_n, andThen_ex, andThen_ret, goN_eq, outOf_n, outOf_ret, outOf_ex, krun_nil, krun_cons, kstep, St.set, St.op, St.reg, klook, kput, kdel, killAll, Option.bind_some, Option.map_some, Option.bind_none, Option.map_none, Option.getD_some, ↓reduceIte, Nat.reduceEqDiff, Nat.reduceLT, List.length_map, binV, binI, binS, isSh, asInt', Option.bind_eq_bind, decide_eq_true_eq, St.new, St.unref, St.unlook, St.turn, St.gone, dropAll, AV.refs, AV.refsL, AV.looks, AV.looksL, AV.fr, AV.frL, List.filter_cons, List.filter_nil, Bool.not_false, Bool.not_true, cellsOf, cellOf, AV.cells, kcut, packed, viewOf, viewD, St.arg, St.one, allOf, List.map_cons, List.map_nil, RV.av, ite_bind', ite_map', List.getElem?_map, bind_map', BEq.rfl, List.getElem?_cons_zero, List.set_cons_zero, List.drop_zero, List.take_succ_cons, List.length_cons, List.length_nil, Nat.reduceAdd, Nat.reduceLeDiff, List.drop_succ_cons, List.take_zero, List.nil_append, List.append_nil, List.cons_append, and_self, Bool.false_eq_true, Nat.reduceBEq, and_true, true_and, ended, resV, rvOf, tupled, Bool.or_false, Bool.false_or, Bool.or_true, Bool.true_or, called, Bool.and_true, Bool.true_and, beq_self_eq_true, Int.toNat_natCast, Int.natCast_nonneg, skipped, AV.parts, fillO, chunks, List.replicate_succ, List.replicate_zero, List.flatten_cons, List.flatten_nil, Nat.reduceMul, Nat.zero_mul, Nat.mul_one, tailOf, appTo, AV.toOwn, AV.toD, D.scalar, List.all_cons, List.all_nil, rowF, Nat.zero_add, Nat.zero_le, List.getElem?_cons_succ, RV.avL, keepAll, keepOne, Bool.true_eq_false, e0, c0, e1, c1, e4, c4, if_true, if_false]; exact ⟨_, rfl, .inl rfl⟩
    have p4 : 0 ≤ m4 ∧ m4 + szD (.sl r4) = m1 := by rcases q4 with q | q <;> omega
    obtain ⟨m5, e5, q5⟩ := szIntS_ok r5 h5.2 h5.1 m4 (by omega) (by omega)
    by_cases c5 : m5 < 0
    · simp (config := {implicitDefEqProofs := false}) only [m13, entered, argRegs, DA.av, DL_r, DL_skip, DL_seq, DL_cond, condDL_b, DL_blk, DL_ex, DL_ret, DL_pre, DL_post, andThen_n, andThen_ex, andThen_ret, goN_eq, outOf_n, outOf_ret, outOf_ex, krun_nil, krun_cons, kstep, St.set, St.op, St.reg, klook, kput, kdel, killAll, Option.bind_some, Option.map_some, Option.bind_none, Option.map_none, Option.getD_some, ↓reduceIte, Nat.reduceEqDiff, Nat.reduceLT, List.length_map, binV, binI, binS, isSh, asInt', Option.bind_eq_bind, decide_eq_true_eq, St.new, St.unref, St.unlook, St.turn, St.gone, dropAll, AV.refs, AV.refsL, AV.looks, AV.looksL, AV.fr, AV.frL, List.filter_cons, List.filter_nil, Bool.not_false, Bool.not_true, cellsOf, cellOf, AV.cells, kcut, packed, viewOf, viewD, St.arg, St.one, allOf, List.map_cons, List.map_nil, RV.av, ite_bind', ite_map', List.getElem?_map, bind_map', BEq.rfl, List.getElem?_cons_zero, List.set_cons_zero, List.drop_zero, List.take_succ_cons, List.length_cons, List.length_nil, Nat.reduceAdd, Nat.reduceLeDiff, List.drop_succ_cons, List.take_zero, List.nil_append, List.append_nil, List.cons_append, and_self, Bool.false_eq_true, Nat.reduceBEq, and_true, true_and, ended, resV, rvOf, tupled, Bool.or_false, Bool.false_or, Bool.or_true, Bool.true_or, called, Bool.and_true, Bool.true_and, beq_self_eq_true, Int.toNat_natCast, Int.natCast_nonneg, skipped, AV.parts, fillO, chunks, List.replicate_succ, List.replicate_zero, List.flatten_cons, List.flatten_nil, Nat.reduceMul, Nat.zero_mul, Nat.mul_one, tailOf, appTo, AV.toOwn, AV.toD, D.scalar, List.all_cons, List.all_nil, rowF, Nat.zero_add, Nat.zero_le, List.getElem?_cons_succ, RV.avL, keepAll, keepOne, Bool.true_eq_false, e0, c0, e1, c1, e4, c4, e5, c5, if_true, if_false]; exact ⟨_, rfl, .inl rfl⟩
    have p5 : 0 ≤ m5 ∧ m5 + szD (.sl r5) = m4 := by rcases q5 with q | q <;> omega
    simp (config := {implicitDefEqProofs := false}) only [m13, entered, argRegs, DA.av, DL_r, DL_skip, DL_seq, DL_cond, condDL_b, DL_blk, DL_ex, DL_ret, DL_pre, DL_post, andThen_n, andThen_ex, andThen_ret, goN_eq, outOf_n, outOf_ret, outOf_ex, krun_nil, krun_cons, kstep, St.set, St.op, St.reg, klook, kput, kdel, killAll, Option.bind_some, Option.map_some, Option.bind_none, Option.map_none, Option.getD_some, ↓reduceIte, Nat.reduceEqDiff, Nat.reduceLT, List.length_map, binV, binI, binS, isSh, asInt', Option.bind_eq_bind, decide_eq_true_eq, St.new, St.unref, St.unlook, St.turn, St.gone, dropAll, AV.refs, AV.refsL, AV.looks, AV.looksL, AV.fr, AV.frL, List.filter_cons, List.filter_nil, Bool.not_false, Bool.not_true, cellsOf, cellOf, AV.cells, kcut, packed, viewOf, viewD, St.arg, St.one, allOf, List.map_cons, List.map_nil, RV.av, ite_bind', ite_map', List.getElem?_map, bind_map', BEq.rfl, List.getElem?_cons_zero, List.set_cons_zero, List.drop_zero, List.take_succ_cons, List.length_cons, List.length_nil, Nat.reduceAdd, Nat.reduceLeDiff, List.drop_succ_cons, List.take_zero, List.nil_append, List.append_nil, List.cons_append, and_self, Bool.false_eq_true, Nat.reduceBEq, and_true, true_and, ended, resV, rvOf, tupled, Bool.or_false, Bool.false_or, Bool.or_true, Bool.true_or, called, Bool.and_true, Bool.true_and, beq_self_eq_true, Int.toNat_natCast, Int.natCast_nonneg, skipped, AV.parts, fillO, chunks, List.replicate_succ, List.replicate_zero, List.flatten_cons, List.flatten_nil, Nat.reduceMul, Nat.zero_mul, Nat.mul_one, tailOf, appTo, AV.toOwn, AV.toD, D.scalar, List.all_cons, List.all_nil, rowF, Nat.zero_add, Nat.zero_le, List.getElem?_cons_succ, RV.avL, keepAll, keepOne, Bool.true_eq_false, e0, c0, e1, c1, e4, c4, e5, c5, if_true, if_false]
    exact ⟨_, rfl, .inr ⟨by omega, by simp only [szDs, szD] at *; omega⟩⟩
end Go.Proofs.YtmccpbabpnffcaaK
