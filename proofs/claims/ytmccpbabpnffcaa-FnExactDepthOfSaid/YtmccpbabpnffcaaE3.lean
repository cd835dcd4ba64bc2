import Derived.Test.YtmccpbabpnffcaaM3
set_option linter.unusedVariables false
set_option linter.unusedSimpArgs false
namespace Go.Proofs.YtmccpbabpnffcaaK
theorem ite_bind' {α β : Type} (c : Prop) [Decidable c] (a b : Option α) (f : α → Option β) : (if c then a else b).bind f = if c then a.bind f else b.bind f := by split <;> rfl
theorem ite_map' {α β : Type} (c : Prop) [Decidable c] (a b : Option α) (f : α → β) : (if c then a else b).map f = if c then a.map f else b.map f := by split <;> rfl
theorem bind_map' {α β γ : Type} (a : Option α) (g : α → β) (f : β → Option γ) : (a.map g).bind f = a.bind fun x => f (g x) := by cases a <;> rfl
def tab : Nat → Option Fn := klook tabL
def noE : XF := fun _ _ => none
noncomputable abbrev V : XF := evL tab noE
theorem V_eq {f : Nat} {fn : Fn} (hf : tab f = some fn) (ds : List DA) : V f ds = (entered fn ds).bind fun σ => (DL V fn.body σ).bind (ended fn) := evL_eq tab noE hf ds
theorem wrap_id {n : Int} (h1 : -9223372036854775808 ≤ n) (h2 : n ≤ 9223372036854775807) : IntKind.i64.wrap n = n := by
  simp only [IntKind.wrap, IntKind.min, IntKind.max, IntKind.signed, IntKind.bits] at *
  simp
  try omega
theorem wrap_succ {i n : Nat} (h : i < n) (hn : n ≤ 9223372036854775807) : IntKind.i64.wrap ((i : Int) + 1) = ((i + 1 : Nat) : Int) := by
  rw [wrap_id (by omega) (by omega)]; rfl

abbrev Tx := List UInt8
abbrev Hd := Tx × Tx
def encH (h : Hd) : List D := [.s h.1, .s h.2]
theorem e104 (a b : Tx) (n : Int) (h0 : 0 ≤ n) (hn : n ≤ 1048576) (ha : a.length ≤ 9223372036854775807) (hb : b.length ≤ 9223372036854775807) : ∃ r : Int, V 104 [.agg [.s a, .s b], .one (.i .i64 n)] = some (false, .one (.i .i64 r)) ∧ (r = -1 ∨ (0 ≤ r ∧ r + a.length + b.length = n)) := by
  rw [V_eq (fn := m104) rfl]
  have h1 : IntKind.i64.wrap (n - a.length) = n - a.length := wrap_id (by omega) (by omega)
  simp only [m104, entered, argRegs, DA.av, DL_r, DL_skip, DL_seq, DL_cond, condDL_b, DL_blk, DL_ex, DL_ret, DL_pre, DL_post, andThen_n, andThen_ex, andThen_ret, goN_eq, outOf_n, outOf_ret, outOf_ex, krun_nil, krun_cons, kstep, St.set, St.op, St.reg, klook, kput, kdel, killAll, Option.bind_some, Option.map_some, Option.bind_none, Option.map_none, Option.getD_some, ↓reduceIte, Nat.reduceEqDiff, Nat.reduceLT, List.length_map, binV, binI, binS, isSh, asInt', Option.bind_eq_bind, decide_eq_true_eq, St.new, St.unref, St.unlook, St.turn, St.gone, dropAll, AV.refs, AV.refsL, AV.looks, AV.looksL, AV.fr, AV.frL, List.filter_cons, List.filter_nil, Bool.not_false, Bool.not_true, cellsOf, cellOf, AV.cells, kcut, packed, viewOf, viewD, St.arg, St.one, allOf, List.map_cons, List.map_nil, RV.av, ite_bind', ite_map', List.getElem?_map, bind_map', BEq.rfl, List.getElem?_cons_zero, List.set_cons_zero, List.drop_zero, List.take_succ_cons, List.length_cons, List.length_nil, Nat.reduceAdd, Nat.reduceLeDiff, List.drop_succ_cons, List.take_zero, List.nil_append, List.append_nil, List.cons_append, and_self, Bool.false_eq_true, Nat.reduceBEq, and_true, true_and, ended, resV, rvOf, tupled, Bool.or_false, Bool.false_or, Bool.or_true, Bool.true_or, called, Bool.and_true, Bool.true_and, beq_self_eq_true, Int.toNat_natCast, Int.natCast_nonneg, skipped, AV.parts, fillO, chunks, List.replicate_succ, List.replicate_zero, List.flatten_cons, List.flatten_nil, Nat.reduceMul, Nat.zero_mul, Nat.mul_one, tailOf, appTo, AV.toOwn, AV.toD, D.scalar, List.all_cons, List.all_nil, rowF, Nat.zero_add, Nat.zero_le, List.getElem?_cons_succ, RV.avL, h1]
  by_cases c1 : n - (a.length : Int) < 0
  · simp only [c1, if_true]; exact ⟨_, rfl, .inl rfl⟩
  · have h2 : IntKind.i64.wrap (n - a.length - b.length) = n - a.length - b.length := wrap_id (by omega) (by omega)
    simp only [c1, if_false, h2]
    by_cases c2 : n - (a.length : Int) - b.length < 0
    · simp only [c2, if_true]; exact ⟨_, rfl, .inl rfl⟩
    · simp only [c2, if_false]; exact ⟨_, rfl, .inr ⟨by omega, by omega⟩⟩
theorem l48 (l : List Hd) (hl : l.length ≤ 9223372036854775807) (hs : ∀ h ∈ l, h.1.length ≤ 9223372036854775807 ∧ h.2.length ≤ 9223372036854775807) : ∀ (k i : Nat) (n : Int), i + k = l.length → 0 ≤ n → n ≤ 1048576 →
    ∃ q, DL V (.loop m48l0) ⟨[(0, .d (.sl (l.map encH))), (1, .d (.i .i64 n)), (5, .d (.i .i64 i))], []⟩ = some q ∧
      ((q.1 = .ex 0 ∧ ∃ m : Int, q.2 = ⟨[(1, .d (.i .i64 m))], []⟩ ∧ 0 ≤ m ∧ m ≤ n ∧ ∀ (j : Nat) (h : Hd), i ≤ j → l[j]? = some h → h.1.length ≤ 1048576 ∧ h.2.length ≤ 1048576) ∨ (q.1 = .ret ∧ q.2 = ⟨[(4, .d (.i .i64 (-1)))], []⟩)) := by
  intro k
  induction k with
  | zero =>
    intro i n h h0 hn
    rw [DL_loop]
    have hlt : ¬ ((i : Int) < (l.length : Int)) := by omega
    simp only [m48l0, entered, argRegs, DA.av, DL_r, DL_skip, DL_seq, DL_cond, condDL_b, DL_blk, DL_ex, DL_ret, DL_pre, DL_post, andThen_n, andThen_ex, andThen_ret, goN_eq, outOf_n, outOf_ret, outOf_ex, krun_nil, krun_cons, kstep, St.set, St.op, St.reg, klook, kput, kdel, killAll, Option.bind_some, Option.map_some, Option.bind_none, Option.map_none, Option.getD_some, ↓reduceIte, Nat.reduceEqDiff, Nat.reduceLT, List.length_map, binV, binI, binS, isSh, asInt', Option.bind_eq_bind, decide_eq_true_eq, St.new, St.unref, St.unlook, St.turn, St.gone, dropAll, AV.refs, AV.refsL, AV.looks, AV.looksL, AV.fr, AV.frL, List.filter_cons, List.filter_nil, Bool.not_false, Bool.not_true, cellsOf, cellOf, AV.cells, kcut, packed, viewOf, viewD, St.arg, St.one, allOf, List.map_cons, List.map_nil, RV.av, ite_bind', ite_map', List.getElem?_map, bind_map', BEq.rfl, List.getElem?_cons_zero, List.set_cons_zero, List.drop_zero, List.take_succ_cons, List.length_cons, List.length_nil, Nat.reduceAdd, Nat.reduceLeDiff, List.drop_succ_cons, List.take_zero, List.nil_append, List.append_nil, List.cons_append, and_self, Bool.false_eq_true, Nat.reduceBEq, and_true, true_and, ended, resV, rvOf, tupled, Bool.or_false, Bool.false_or, Bool.or_true, Bool.true_or, called, Bool.and_true, Bool.true_and, beq_self_eq_true, Int.toNat_natCast, Int.natCast_nonneg, skipped, AV.parts, fillO, chunks, List.replicate_succ, List.replicate_zero, List.flatten_cons, List.flatten_nil, Nat.reduceMul, Nat.zero_mul, Nat.mul_one, tailOf, appTo, AV.toOwn, AV.toD, D.scalar, List.all_cons, List.all_nil, rowF, Nat.zero_add, Nat.zero_le, List.getElem?_cons_succ, RV.avL, hlt]
    exact ⟨_, rfl, .inl ⟨rfl, n, rfl, h0, Int.le_refl _, fun j h hj hjl => by rw [List.getElem?_eq_none (by omega)] at hjl; cases hjl⟩⟩
  | succ k ih =>
    intro i n h h0 hn
    rw [DL_loop]
    have hlt : ((i : Int) < (l.length : Int)) := by omega
    have hil : i < l.length := by omega
    have hi : l[i]? = some l[i] := List.getElem?_eq_getElem hil
    obtain ⟨b1, b2⟩ := hs l[i] (List.getElem_mem hil)
    obtain ⟨r, hr, hr2⟩ := e104 l[i].1 l[i].2 n h0 hn b1 b2
    generalize DL V (.loop m48l0) = G at ih ⊢
    simp only [m48l0, entered, argRegs, DA.av, DL_r, DL_skip, DL_seq, DL_cond, condDL_b, DL_blk, DL_ex, DL_ret, DL_pre, DL_post, andThen_n, andThen_ex, andThen_ret, goN_eq, outOf_n, outOf_ret, outOf_ex, krun_nil, krun_cons, kstep, St.set, St.op, St.reg, klook, kput, kdel, killAll, Option.bind_some, Option.map_some, Option.bind_none, Option.map_none, Option.getD_some, ↓reduceIte, Nat.reduceEqDiff, Nat.reduceLT, List.length_map, binV, binI, binS, isSh, asInt', Option.bind_eq_bind, decide_eq_true_eq, St.new, St.unref, St.unlook, St.turn, St.gone, dropAll, AV.refs, AV.refsL, AV.looks, AV.looksL, AV.fr, AV.frL, List.filter_cons, List.filter_nil, Bool.not_false, Bool.not_true, cellsOf, cellOf, AV.cells, kcut, packed, viewOf, viewD, St.arg, St.one, allOf, List.map_cons, List.map_nil, RV.av, ite_bind', ite_map', List.getElem?_map, bind_map', BEq.rfl, List.getElem?_cons_zero, List.set_cons_zero, List.drop_zero, List.take_succ_cons, List.length_cons, List.length_nil, Nat.reduceAdd, Nat.reduceLeDiff, List.drop_succ_cons, List.take_zero, List.nil_append, List.append_nil, List.cons_append, and_self, Bool.false_eq_true, Nat.reduceBEq, and_true, true_and, ended, resV, rvOf, tupled, Bool.or_false, Bool.false_or, Bool.or_true, Bool.true_or, called, Bool.and_true, Bool.true_and, beq_self_eq_true, Int.toNat_natCast, Int.natCast_nonneg, skipped, AV.parts, fillO, chunks, List.replicate_succ, List.replicate_zero, List.flatten_cons, List.flatten_nil, Nat.reduceMul, Nat.zero_mul, Nat.mul_one, tailOf, appTo, AV.toOwn, AV.toD, D.scalar, List.all_cons, List.all_nil, rowF, Nat.zero_add, Nat.zero_le, List.getElem?_cons_succ, RV.avL, hlt, hi, encH, hr, wrap_succ hil hl]
    by_cases c : r < 0
    · simp only [c, if_true]; exact ⟨_, rfl, .inr ⟨rfl, rfl⟩⟩
    · simp only [c, if_false]
      rcases hr2 with e | ⟨e1, e2⟩
      · omega
      obtain ⟨q, hq, hq2⟩ := ih (i + 1) r (by omega) (by omega) (by omega)
      refine ⟨q, hq, ?_⟩
      rcases hq2 with ⟨q1, m, q2, q3, q4, q5⟩ | q1
      · refine .inl ⟨q1, m, q2, q3, by omega, fun j h' hj hjl => ?_⟩
        rcases Nat.lt_or_ge i j with z | z
        · exact q5 j h' z hjl
        · have : j = i := by omega
          subst this
          rw [hi] at hjl
          obtain rfl := Option.some.inj hjl
          omega
      · exact .inr q1
theorem e48 (l : List Hd) (hl : l.length ≤ 9223372036854775807) (hs : ∀ h ∈ l, h.1.length ≤ 9223372036854775807 ∧ h.2.length ≤ 9223372036854775807) (n : Int) (h0 : 0 ≤ n) (hn : n ≤ 1048576) :
    ∃ r : Int, V 48 [.one (.sl (l.map encH)), .one (.i .i64 n)] = some (false, .one (.i .i64 r)) ∧ (r = -1 ∨ (0 ≤ r ∧ r ≤ n ∧ l.length ≤ 1048576 ∧ ∀ (j : Nat) (h : Hd), l[j]? = some h → h.1.length ≤ 1048576 ∧ h.2.length ≤ 1048576)) := by
  rw [V_eq (fn := m48) rfl]
  have h1 : IntKind.i64.wrap (n - l.length) = n - l.length := wrap_id (by omega) (by omega)
  by_cases c : n - (l.length : Int) < 0
  · simp only [m48, entered, argRegs, DA.av, DL_r, DL_skip, DL_seq, DL_cond, condDL_b, DL_blk, DL_ex, DL_ret, DL_pre, DL_post, andThen_n, andThen_ex, andThen_ret, goN_eq, outOf_n, outOf_ret, outOf_ex, krun_nil, krun_cons, kstep, St.set, St.op, St.reg, klook, kput, kdel, killAll, Option.bind_some, Option.map_some, Option.bind_none, Option.map_none, Option.getD_some, ↓reduceIte, Nat.reduceEqDiff, Nat.reduceLT, List.length_map, binV, binI, binS, isSh, asInt', Option.bind_eq_bind, decide_eq_true_eq, St.new, St.unref, St.unlook, St.turn, St.gone, dropAll, AV.refs, AV.refsL, AV.looks, AV.looksL, AV.fr, AV.frL, List.filter_cons, List.filter_nil, Bool.not_false, Bool.not_true, cellsOf, cellOf, AV.cells, kcut, packed, viewOf, viewD, St.arg, St.one, allOf, List.map_cons, List.map_nil, RV.av, ite_bind', ite_map', List.getElem?_map, bind_map', BEq.rfl, List.getElem?_cons_zero, List.set_cons_zero, List.drop_zero, List.take_succ_cons, List.length_cons, List.length_nil, Nat.reduceAdd, Nat.reduceLeDiff, List.drop_succ_cons, List.take_zero, List.nil_append, List.append_nil, List.cons_append, and_self, Bool.false_eq_true, Nat.reduceBEq, and_true, true_and, ended, resV, rvOf, tupled, Bool.or_false, Bool.false_or, Bool.or_true, Bool.true_or, called, Bool.and_true, Bool.true_and, beq_self_eq_true, Int.toNat_natCast, Int.natCast_nonneg, skipped, AV.parts, fillO, chunks, List.replicate_succ, List.replicate_zero, List.flatten_cons, List.flatten_nil, Nat.reduceMul, Nat.zero_mul, Nat.mul_one, tailOf, appTo, AV.toOwn, AV.toD, D.scalar, List.all_cons, List.all_nil, rowF, Nat.zero_add, Nat.zero_le, List.getElem?_cons_succ, RV.avL, h1, c, if_true]; exact ⟨_, rfl, .inl rfl⟩
  · obtain ⟨⟨e, σ⟩, hq, hq2⟩ := l48 l hl hs l.length 0 (n - l.length) (by omega) (by omega) (by omega)
    simp only [Int.natCast_zero] at hq
    simp only [m48, entered, argRegs, DA.av, DL_r, DL_skip, DL_seq, DL_cond, condDL_b, DL_blk, DL_ex, DL_ret, DL_pre, DL_post, andThen_n, andThen_ex, andThen_ret, goN_eq, outOf_n, outOf_ret, outOf_ex, krun_nil, krun_cons, kstep, St.set, St.op, St.reg, klook, kput, kdel, killAll, Option.bind_some, Option.map_some, Option.bind_none, Option.map_none, Option.getD_some, ↓reduceIte, Nat.reduceEqDiff, Nat.reduceLT, List.length_map, binV, binI, binS, isSh, asInt', Option.bind_eq_bind, decide_eq_true_eq, St.new, St.unref, St.unlook, St.turn, St.gone, dropAll, AV.refs, AV.refsL, AV.looks, AV.looksL, AV.fr, AV.frL, List.filter_cons, List.filter_nil, Bool.not_false, Bool.not_true, cellsOf, cellOf, AV.cells, kcut, packed, viewOf, viewD, St.arg, St.one, allOf, List.map_cons, List.map_nil, RV.av, ite_bind', ite_map', List.getElem?_map, bind_map', BEq.rfl, List.getElem?_cons_zero, List.set_cons_zero, List.drop_zero, List.take_succ_cons, List.length_cons, List.length_nil, Nat.reduceAdd, Nat.reduceLeDiff, List.drop_succ_cons, List.take_zero, List.nil_append, List.append_nil, List.cons_append, and_self, Bool.false_eq_true, Nat.reduceBEq, and_true, true_and, ended, resV, rvOf, tupled, Bool.or_false, Bool.false_or, Bool.or_true, Bool.true_or, called, Bool.and_true, Bool.true_and, beq_self_eq_true, Int.toNat_natCast, Int.natCast_nonneg, skipped, AV.parts, fillO, chunks, List.replicate_succ, List.replicate_zero, List.flatten_cons, List.flatten_nil, Nat.reduceMul, Nat.zero_mul, Nat.mul_one, tailOf, appTo, AV.toOwn, AV.toD, D.scalar, List.all_cons, List.all_nil, rowF, Nat.zero_add, Nat.zero_le, List.getElem?_cons_succ, RV.avL, h1, c, if_false]
    rw [hq]
    rcases hq2 with ⟨q1, m, q2, q3, q4, q5⟩ | ⟨q1, q2⟩
    · dsimp only at q1 q2
      subst q1 q2
      simp only [entered, argRegs, DA.av, DL_r, DL_skip, DL_seq, DL_cond, condDL_b, DL_blk, DL_ex, DL_ret, DL_pre, DL_post, andThen_n, andThen_ex, andThen_ret, goN_eq, outOf_n, outOf_ret, outOf_ex, krun_nil, krun_cons, kstep, St.set, St.op, St.reg, klook, kput, kdel, killAll, Option.bind_some, Option.map_some, Option.bind_none, Option.map_none, Option.getD_some, ↓reduceIte, Nat.reduceEqDiff, Nat.reduceLT, List.length_map, binV, binI, binS, isSh, asInt', Option.bind_eq_bind, decide_eq_true_eq, St.new, St.unref, St.unlook, St.turn, St.gone, dropAll, AV.refs, AV.refsL, AV.looks, AV.looksL, AV.fr, AV.frL, List.filter_cons, List.filter_nil, Bool.not_false, Bool.not_true, cellsOf, cellOf, AV.cells, kcut, packed, viewOf, viewD, St.arg, St.one, allOf, List.map_cons, List.map_nil, RV.av, ite_bind', ite_map', List.getElem?_map, bind_map', BEq.rfl, List.getElem?_cons_zero, List.set_cons_zero, List.drop_zero, List.take_succ_cons, List.length_cons, List.length_nil, Nat.reduceAdd, Nat.reduceLeDiff, List.drop_succ_cons, List.take_zero, List.nil_append, List.append_nil, List.cons_append, and_self, Bool.false_eq_true, Nat.reduceBEq, and_true, true_and, ended, resV, rvOf, tupled, Bool.or_false, Bool.false_or, Bool.or_true, Bool.true_or, called, Bool.and_true, Bool.true_and, beq_self_eq_true, Int.toNat_natCast, Int.natCast_nonneg, skipped, AV.parts, fillO, chunks, List.replicate_succ, List.replicate_zero, List.flatten_cons, List.flatten_nil, Nat.reduceMul, Nat.zero_mul, Nat.mul_one, tailOf, appTo, AV.toOwn, AV.toD, D.scalar, List.all_cons, List.all_nil, rowF, Nat.zero_add, Nat.zero_le, List.getElem?_cons_succ, RV.avL]
      exact ⟨_, rfl, .inr ⟨q3, by omega, by omega, fun j h hj => q5 j h (Nat.zero_le _) hj⟩⟩
    · dsimp only at q1 q2
      subst q1 q2
      simp only [entered, argRegs, DA.av, DL_r, DL_skip, DL_seq, DL_cond, condDL_b, DL_blk, DL_ex, DL_ret, DL_pre, DL_post, andThen_n, andThen_ex, andThen_ret, goN_eq, outOf_n, outOf_ret, outOf_ex, krun_nil, krun_cons, kstep, St.set, St.op, St.reg, klook, kput, kdel, killAll, Option.bind_some, Option.map_some, Option.bind_none, Option.map_none, Option.getD_some, ↓reduceIte, Nat.reduceEqDiff, Nat.reduceLT, List.length_map, binV, binI, binS, isSh, asInt', Option.bind_eq_bind, decide_eq_true_eq, St.new, St.unref, St.unlook, St.turn, St.gone, dropAll, AV.refs, AV.refsL, AV.looks, AV.looksL, AV.fr, AV.frL, List.filter_cons, List.filter_nil, Bool.not_false, Bool.not_true, cellsOf, cellOf, AV.cells, kcut, packed, viewOf, viewD, St.arg, St.one, allOf, List.map_cons, List.map_nil, RV.av, ite_bind', ite_map', List.getElem?_map, bind_map', BEq.rfl, List.getElem?_cons_zero, List.set_cons_zero, List.drop_zero, List.take_succ_cons, List.length_cons, List.length_nil, Nat.reduceAdd, Nat.reduceLeDiff, List.drop_succ_cons, List.take_zero, List.nil_append, List.append_nil, List.cons_append, and_self, Bool.false_eq_true, Nat.reduceBEq, and_true, true_and, ended, resV, rvOf, tupled, Bool.or_false, Bool.false_or, Bool.or_true, Bool.true_or, called, Bool.and_true, Bool.true_and, beq_self_eq_true, Int.toNat_natCast, Int.natCast_nonneg, skipped, AV.parts, fillO, chunks, List.replicate_succ, List.replicate_zero, List.flatten_cons, List.flatten_nil, Nat.reduceMul, Nat.zero_mul, Nat.mul_one, tailOf, appTo, AV.toOwn, AV.toD, D.scalar, List.all_cons, List.all_nil, rowF, Nat.zero_add, Nat.zero_le, List.getElem?_cons_succ, RV.avL]
      exact ⟨_, rfl, .inl rfl⟩
theorem e106 (a b : Tx) : V 106 [.agg [.s a, .s b]] = some (false, .agg [.s a, .s b]) := by
  rw [V_eq (fn := m106) rfl]
  simp only [m106, entered, argRegs, DA.av, DL_r, DL_skip, DL_seq, DL_cond, condDL_b, DL_blk, DL_ex, DL_ret, DL_pre, DL_post, andThen_n, andThen_ex, andThen_ret, goN_eq, outOf_n, outOf_ret, outOf_ex, krun_nil, krun_cons, kstep, St.set, St.op, St.reg, klook, kput, kdel, killAll, Option.bind_some, Option.map_some, Option.bind_none, Option.map_none, Option.getD_some, ↓reduceIte, Nat.reduceEqDiff, Nat.reduceLT, List.length_map, binV, binI, binS, isSh, asInt', Option.bind_eq_bind, decide_eq_true_eq, St.new, St.unref, St.unlook, St.turn, St.gone, dropAll, AV.refs, AV.refsL, AV.looks, AV.looksL, AV.fr, AV.frL, List.filter_cons, List.filter_nil, Bool.not_false, Bool.not_true, cellsOf, cellOf, AV.cells, kcut, packed, viewOf, viewD, St.arg, St.one, allOf, List.map_cons, List.map_nil, RV.av, ite_bind', ite_map', List.getElem?_map, bind_map', BEq.rfl, List.getElem?_cons_zero, List.set_cons_zero, List.drop_zero, List.take_succ_cons, List.length_cons, List.length_nil, Nat.reduceAdd, Nat.reduceLeDiff, List.drop_succ_cons, List.take_zero, List.nil_append, List.append_nil, List.cons_append, and_self, Bool.false_eq_true, Nat.reduceBEq, and_true, true_and, ended, resV, rvOf, tupled, Bool.or_false, Bool.false_or, Bool.or_true, Bool.true_or, called, Bool.and_true, Bool.true_and, beq_self_eq_true, Int.toNat_natCast, Int.natCast_nonneg, skipped, AV.parts, fillO, chunks, List.replicate_succ, List.replicate_zero, List.flatten_cons, List.flatten_nil, Nat.reduceMul, Nat.zero_mul, Nat.mul_one, tailOf, appTo, AV.toOwn, AV.toD, D.scalar, List.all_cons, List.all_nil, rowF, Nat.zero_add, Nat.zero_le, List.getElem?_cons_succ, RV.avL]
theorem e108 (a b : Tx) : V 108 [.agg [.s a, .s b], .agg [.s a, .s b]] = some (false, .one (.b true)) := by
  rw [V_eq (fn := m108) rfl]
  simp only [m108, entered, argRegs, DA.av, DL_r, DL_skip, DL_seq, DL_cond, condDL_b, DL_blk, DL_ex, DL_ret, DL_pre, DL_post, andThen_n, andThen_ex, andThen_ret, goN_eq, outOf_n, outOf_ret, outOf_ex, krun_nil, krun_cons, kstep, St.set, St.op, St.reg, klook, kput, kdel, killAll, Option.bind_some, Option.map_some, Option.bind_none, Option.map_none, Option.getD_some, ↓reduceIte, Nat.reduceEqDiff, Nat.reduceLT, List.length_map, binV, binI, binS, isSh, asInt', Option.bind_eq_bind, decide_eq_true_eq, St.new, St.unref, St.unlook, St.turn, St.gone, dropAll, AV.refs, AV.refsL, AV.looks, AV.looksL, AV.fr, AV.frL, List.filter_cons, List.filter_nil, Bool.not_false, Bool.not_true, cellsOf, cellOf, AV.cells, kcut, packed, viewOf, viewD, St.arg, St.one, allOf, List.map_cons, List.map_nil, RV.av, ite_bind', ite_map', List.getElem?_map, bind_map', BEq.rfl, List.getElem?_cons_zero, List.set_cons_zero, List.drop_zero, List.take_succ_cons, List.length_cons, List.length_nil, Nat.reduceAdd, Nat.reduceLeDiff, List.drop_succ_cons, List.take_zero, List.nil_append, List.append_nil, List.cons_append, and_self, Bool.false_eq_true, Nat.reduceBEq, and_true, true_and, ended, resV, rvOf, tupled, Bool.or_false, Bool.false_or, Bool.or_true, Bool.true_or, called, Bool.and_true, Bool.true_and, beq_self_eq_true, Int.toNat_natCast, Int.natCast_nonneg, skipped, AV.parts, fillO, chunks, List.replicate_succ, List.replicate_zero, List.flatten_cons, List.flatten_nil, Nat.reduceMul, Nat.zero_mul, Nat.mul_one, tailOf, appTo, AV.toOwn, AV.toD, D.scalar, List.all_cons, List.all_nil, rowF, Nat.zero_add, Nat.zero_le, List.getElem?_cons_succ, RV.avL, decide_true, ne_eq, not_true, if_false]
theorem e66 (x a b : Int) : V 66 [.one (.i .i64 x), .one (.i .i64 a), .one (.i .i64 b)] = some (false, .one (.b (decide (a ≤ x) && decide (x ≤ b)))) := by
  rw [V_eq (fn := m66) rfl]
  by_cases h : a ≤ x <;> simp only [m66, entered, argRegs, DA.av, DL_r, DL_skip, DL_seq, DL_cond, condDL_b, DL_blk, DL_ex, DL_ret, DL_pre, DL_post, andThen_n, andThen_ex, andThen_ret, goN_eq, outOf_n, outOf_ret, outOf_ex, krun_nil, krun_cons, kstep, St.set, St.op, St.reg, klook, kput, kdel, killAll, Option.bind_some, Option.map_some, Option.bind_none, Option.map_none, Option.getD_some, ↓reduceIte, Nat.reduceEqDiff, Nat.reduceLT, List.length_map, binV, binI, binS, isSh, asInt', Option.bind_eq_bind, decide_eq_true_eq, St.new, St.unref, St.unlook, St.turn, St.gone, dropAll, AV.refs, AV.refsL, AV.looks, AV.looksL, AV.fr, AV.frL, List.filter_cons, List.filter_nil, Bool.not_false, Bool.not_true, cellsOf, cellOf, AV.cells, kcut, packed, viewOf, viewD, St.arg, St.one, allOf, List.map_cons, List.map_nil, RV.av, ite_bind', ite_map', List.getElem?_map, bind_map', BEq.rfl, List.getElem?_cons_zero, List.set_cons_zero, List.drop_zero, List.take_succ_cons, List.length_cons, List.length_nil, Nat.reduceAdd, Nat.reduceLeDiff, List.drop_succ_cons, List.take_zero, List.nil_append, List.append_nil, List.cons_append, and_self, Bool.false_eq_true, Nat.reduceBEq, and_true, true_and, ended, resV, rvOf, tupled, Bool.or_false, Bool.false_or, Bool.or_true, Bool.true_or, called, Bool.and_true, Bool.true_and, beq_self_eq_true, Int.toNat_natCast, Int.natCast_nonneg, skipped, AV.parts, fillO, chunks, List.replicate_succ, List.replicate_zero, List.flatten_cons, List.flatten_nil, Nat.reduceMul, Nat.zero_mul, Nat.mul_one, tailOf, appTo, AV.toOwn, AV.toD, D.scalar, List.all_cons, List.all_nil, rowF, Nat.zero_add, Nat.zero_le, List.getElem?_cons_succ, RV.avL, pickV, h, decide_true, decide_false, if_true, if_false, Bool.false_and]
theorem wrap_u8 (x : UInt8) : IntKind.i64.wrap (x.toNat : Int) = (x.toNat : Int) := wrap_id (by omega) (by have := x.toNat_lt; omega)
def large (x : UInt8) : Bool := decide ((65 : Int) ≤ x.toNat) && decide ((x.toNat : Int) ≤ 90)
def low (x : UInt8) : UInt8 := if large x = true then x + 32 else x
theorem e105 (x : UInt8) : V 105 [.one (.i .u8 x.toNat)] = some (false, .one (.b (large x))) := by
  rw [V_eq (fn := m105) rfl]
  simp only [m105, entered, argRegs, DA.av, DL_r, DL_skip, DL_seq, DL_cond, condDL_b, DL_blk, DL_ex, DL_ret, DL_pre, DL_post, andThen_n, andThen_ex, andThen_ret, goN_eq, outOf_n, outOf_ret, outOf_ex, krun_nil, krun_cons, kstep, St.set, St.op, St.reg, klook, kput, kdel, killAll, Option.bind_some, Option.map_some, Option.bind_none, Option.map_none, Option.getD_some, ↓reduceIte, Nat.reduceEqDiff, Nat.reduceLT, List.length_map, binV, binI, binS, isSh, asInt', Option.bind_eq_bind, decide_eq_true_eq, St.new, St.unref, St.unlook, St.turn, St.gone, dropAll, AV.refs, AV.refsL, AV.looks, AV.looksL, AV.fr, AV.frL, List.filter_cons, List.filter_nil, Bool.not_false, Bool.not_true, cellsOf, cellOf, AV.cells, kcut, packed, viewOf, viewD, St.arg, St.one, allOf, List.map_cons, List.map_nil, RV.av, ite_bind', ite_map', List.getElem?_map, bind_map', BEq.rfl, List.getElem?_cons_zero, List.set_cons_zero, List.drop_zero, List.take_succ_cons, List.length_cons, List.length_nil, Nat.reduceAdd, Nat.reduceLeDiff, List.drop_succ_cons, List.take_zero, List.nil_append, List.append_nil, List.cons_append, and_self, Bool.false_eq_true, Nat.reduceBEq, and_true, true_and, ended, resV, rvOf, tupled, Bool.or_false, Bool.false_or, Bool.or_true, Bool.true_or, called, Bool.and_true, Bool.true_and, beq_self_eq_true, Int.toNat_natCast, Int.natCast_nonneg, skipped, AV.parts, fillO, chunks, List.replicate_succ, List.replicate_zero, List.flatten_cons, List.flatten_nil, Nat.reduceMul, Nat.zero_mul, Nat.mul_one, tailOf, appTo, AV.toOwn, AV.toD, D.scalar, List.all_cons, List.all_nil, rowF, Nat.zero_add, Nat.zero_le, List.getElem?_cons_succ, RV.avL, wrap_u8, e66, large]
theorem e107 (x : UInt8) : V 107 [.one (.i .u8 x.toNat)] = some (false, .one (.b (large x))) := by
  rw [V_eq (fn := m107) rfl]
  by_cases h : (65 : Int) ≤ x.toNat <;> simp only [m107, entered, argRegs, DA.av, DL_r, DL_skip, DL_seq, DL_cond, condDL_b, DL_blk, DL_ex, DL_ret, DL_pre, DL_post, andThen_n, andThen_ex, andThen_ret, goN_eq, outOf_n, outOf_ret, outOf_ex, krun_nil, krun_cons, kstep, St.set, St.op, St.reg, klook, kput, kdel, killAll, Option.bind_some, Option.map_some, Option.bind_none, Option.map_none, Option.getD_some, ↓reduceIte, Nat.reduceEqDiff, Nat.reduceLT, List.length_map, binV, binI, binS, isSh, asInt', Option.bind_eq_bind, decide_eq_true_eq, St.new, St.unref, St.unlook, St.turn, St.gone, dropAll, AV.refs, AV.refsL, AV.looks, AV.looksL, AV.fr, AV.frL, List.filter_cons, List.filter_nil, Bool.not_false, Bool.not_true, cellsOf, cellOf, AV.cells, kcut, packed, viewOf, viewD, St.arg, St.one, allOf, List.map_cons, List.map_nil, RV.av, ite_bind', ite_map', List.getElem?_map, bind_map', BEq.rfl, List.getElem?_cons_zero, List.set_cons_zero, List.drop_zero, List.take_succ_cons, List.length_cons, List.length_nil, Nat.reduceAdd, Nat.reduceLeDiff, List.drop_succ_cons, List.take_zero, List.nil_append, List.append_nil, List.cons_append, and_self, Bool.false_eq_true, Nat.reduceBEq, and_true, true_and, ended, resV, rvOf, tupled, Bool.or_false, Bool.false_or, Bool.or_true, Bool.true_or, called, Bool.and_true, Bool.true_and, beq_self_eq_true, Int.toNat_natCast, Int.natCast_nonneg, skipped, AV.parts, fillO, chunks, List.replicate_succ, List.replicate_zero, List.flatten_cons, List.flatten_nil, Nat.reduceMul, Nat.zero_mul, Nat.mul_one, tailOf, appTo, AV.toOwn, AV.toD, D.scalar, List.all_cons, List.all_nil, rowF, Nat.zero_add, Nat.zero_le, List.getElem?_cons_succ, RV.avL, pickV, h, large, decide_true, decide_false, if_true, if_false, Bool.false_and, Bool.true_and]
theorem add32 (x : UInt8) : IntKind.u8.wrap ((x.toNat : Int) + 32) = ((x + 32).toNat : Int) := by
  simp only [IntKind.wrap, IntKind.min, IntKind.max, IntKind.signed, IntKind.bits, UInt8.toNat_add]
  simp
/-- spec.Lower -/
def rowsB (l : Tx) : List (List AV) := l.map fun b => [AV.d (.i .u8 b.toNat)]
theorem l50 (s : Tx) (hs : s.length ≤ 1048576) : ∀ (k i : Nat), i + k = s.length →
    DL V (.loop m50l0) ⟨[(0, .d (.s s)), (3, .h 6 0 i), (4, .d (.i .i64 i))], [(6, ⟨1, rowsB ((s.take i).map low)⟩)]⟩ = some (.ex 0, ⟨[(3, .h 6 0 s.length)], [(6, ⟨1, rowsB (s.map low)⟩)]⟩) := by
  intro k
  induction k with
  | zero =>
    intro i h
    have : i = s.length := by omega
    subst this
    rw [DL_loop]
    simp only [m50l0, entered, argRegs, DA.av, DL_r, DL_skip, DL_seq, DL_cond, condDL_b, DL_blk, DL_ex, DL_ret, DL_pre, DL_post, andThen_n, andThen_ex, andThen_ret, goN_eq, outOf_n, outOf_ret, outOf_ex, krun_nil, krun_cons, kstep, St.set, St.op, St.reg, klook, kput, kdel, killAll, Option.bind_some, Option.map_some, Option.bind_none, Option.map_none, Option.getD_some, ↓reduceIte, Nat.reduceEqDiff, Nat.reduceLT, List.length_map, binV, binI, binS, isSh, asInt', Option.bind_eq_bind, decide_eq_true_eq, St.new, St.unref, St.unlook, St.turn, St.gone, dropAll, AV.refs, AV.refsL, AV.looks, AV.looksL, AV.fr, AV.frL, List.filter_cons, List.filter_nil, Bool.not_false, Bool.not_true, cellsOf, cellOf, AV.cells, kcut, packed, viewOf, viewD, St.arg, St.one, allOf, List.map_cons, List.map_nil, RV.av, ite_bind', ite_map', List.getElem?_map, bind_map', BEq.rfl, List.getElem?_cons_zero, List.set_cons_zero, List.drop_zero, List.take_succ_cons, List.length_cons, List.length_nil, Nat.reduceAdd, Nat.reduceLeDiff, List.drop_succ_cons, List.take_zero, List.nil_append, List.append_nil, List.cons_append, and_self, Bool.false_eq_true, Nat.reduceBEq, and_true, true_and, ended, resV, rvOf, tupled, Bool.or_false, Bool.false_or, Bool.or_true, Bool.true_or, called, Bool.and_true, Bool.true_and, beq_self_eq_true, Int.toNat_natCast, Int.natCast_nonneg, skipped, AV.parts, fillO, chunks, List.replicate_succ, List.replicate_zero, List.flatten_cons, List.flatten_nil, Nat.reduceMul, Nat.zero_mul, Nat.mul_one, tailOf, appTo, AV.toOwn, AV.toD, D.scalar, List.all_cons, List.all_nil, rowF, Nat.zero_add, Nat.zero_le, List.getElem?_cons_succ, RV.avL, Int.lt_irrefl, List.take_length]
  | succ k ih =>
    intro i h
    rw [DL_loop]
    have hil : i < s.length := by omega
    have hlt : ((i : Int) < (s.length : Int)) := by omega
    have hi : s[i]? = some s[i] := List.getElem?_eq_getElem hil
    generalize DL V (.loop m50l0) = G at ih ⊢
    have hr : (rowsB ((s.take i).map low)).length = i := by simp [rowsB]; omega
    have ht : (rowsB ((s.take i).map low)).take i = rowsB ((s.take i).map low) := List.take_of_length_le (by omega)
    have hsucc : rowsB ((s.take (i + 1)).map low) = rowsB ((s.take i).map low) ++ [[AV.d (.i .u8 (low s[i]).toNat)]] := by
      rw [List.take_add_one, hi]; simp only [rowsB, Option.toList_some, List.map_append, List.map_cons, List.map_nil]
    have hroom : (i + 1) ≤ 140737488355328 := by omega
    have hle : i ≤ i := Nat.le_refl i
    cases hc : large s[i] <;> simp only [m50l0, entered, argRegs, DA.av, DL_r, DL_skip, DL_seq, DL_cond, condDL_b, DL_blk, DL_ex, DL_ret, DL_pre, DL_post, andThen_n, andThen_ex, andThen_ret, goN_eq, outOf_n, outOf_ret, outOf_ex, krun_nil, krun_cons, kstep, St.set, St.op, St.reg, klook, kput, kdel, killAll, Option.bind_some, Option.map_some, Option.bind_none, Option.map_none, Option.getD_some, ↓reduceIte, Nat.reduceEqDiff, Nat.reduceLT, List.length_map, binV, binI, binS, isSh, asInt', Option.bind_eq_bind, decide_eq_true_eq, St.new, St.unref, St.unlook, St.turn, St.gone, dropAll, AV.refs, AV.refsL, AV.looks, AV.looksL, AV.fr, AV.frL, List.filter_cons, List.filter_nil, Bool.not_false, Bool.not_true, cellsOf, cellOf, AV.cells, kcut, packed, viewOf, viewD, St.arg, St.one, allOf, List.map_cons, List.map_nil, RV.av, ite_bind', ite_map', List.getElem?_map, bind_map', BEq.rfl, List.getElem?_cons_zero, List.set_cons_zero, List.drop_zero, List.take_succ_cons, List.length_cons, List.length_nil, Nat.reduceAdd, Nat.reduceLeDiff, List.drop_succ_cons, List.take_zero, List.nil_append, List.append_nil, List.cons_append, and_self, Bool.false_eq_true, Nat.reduceBEq, and_true, true_and, ended, resV, rvOf, tupled, Bool.or_false, Bool.false_or, Bool.or_true, Bool.true_or, called, Bool.and_true, Bool.true_and, beq_self_eq_true, Int.toNat_natCast, Int.natCast_nonneg, skipped, AV.parts, fillO, chunks, List.replicate_succ, List.replicate_zero, List.flatten_cons, List.flatten_nil, Nat.reduceMul, Nat.zero_mul, Nat.mul_one, tailOf, appTo, AV.toOwn, AV.toD, D.scalar, List.all_cons, List.all_nil, rowF, Nat.zero_add, Nat.zero_le, List.getElem?_cons_succ, RV.avL, hlt, hi, hc, e105, wrap_succ hil (by omega), add32, hr, ht, hle, hroom]
    · have e := ih (i + 1) (by omega)
      rw [hsucc, low, hc] at e
      exact e
    · have e := ih (i + 1) (by omega)
      rw [hsucc, low, hc] at e
      exact e
theorem bytesOf_ofBytes (l : Tx) : bytesOf (ofBytes l) = some l := by
  induction l with
  | nil => rfl
  | cons b l ih =>
    simp only [bytesOf, ofBytes, List.map_cons, allOf] at ih ⊢
    rw [ih]
    simp
theorem dEs_rowsB (l : Tx) : dEs (rowsB l) = some (ofBytes l) := by
  induction l with
  | nil => rfl
  | cons b l ih =>
    simp only [dEs, rowsB, ofBytes, List.map_cons, allOf, AV.toD, Option.bind_some, Option.map_some] at ih ⊢
    rw [ih]
    rfl
theorem e50 (s : Tx) (hs : s.length ≤ 1048576) : V 50 [.one (.s s)] = some (false, .one (.s (s.map low))) := by
  rw [V_eq (fn := m50) rfl]
  have h := l50 s hs s.length 0 (by omega)
  have ht : (rowsB (s.map low)).take s.length = rowsB (s.map low) := List.take_of_length_le (by simp [rowsB])
  have hd : dEs (rowsB (s.map low)) = some (ofBytes (s.map low)) := dEs_rowsB _
  have hr0 : rowsB (([] : Tx).map low) = [] := rfl
  simp only [List.take_zero, hr0, Int.natCast_zero] at h
  simp only [m50, entered, argRegs, DA.av, DL_r, DL_skip, DL_seq, DL_cond, condDL_b, DL_blk, DL_ex, DL_ret, DL_pre, DL_post, andThen_n, andThen_ex, andThen_ret, goN_eq, outOf_n, outOf_ret, outOf_ex, krun_nil, krun_cons, kstep, St.set, St.op, St.reg, klook, kput, kdel, killAll, Option.bind_some, Option.map_some, Option.bind_none, Option.map_none, Option.getD_some, ↓reduceIte, Nat.reduceEqDiff, Nat.reduceLT, List.length_map, binV, binI, binS, isSh, asInt', Option.bind_eq_bind, decide_eq_true_eq, St.new, St.unref, St.unlook, St.turn, St.gone, dropAll, AV.refs, AV.refsL, AV.looks, AV.looksL, AV.fr, AV.frL, List.filter_cons, List.filter_nil, Bool.not_false, Bool.not_true, cellsOf, cellOf, AV.cells, kcut, packed, viewOf, viewD, St.arg, St.one, allOf, List.map_cons, List.map_nil, RV.av, ite_bind', ite_map', List.getElem?_map, bind_map', BEq.rfl, List.getElem?_cons_zero, List.set_cons_zero, List.drop_zero, List.take_succ_cons, List.length_cons, List.length_nil, Nat.reduceAdd, Nat.reduceLeDiff, List.drop_succ_cons, List.take_zero, List.nil_append, List.append_nil, List.cons_append, and_self, Bool.false_eq_true, Nat.reduceBEq, and_true, true_and, ended, resV, rvOf, tupled, Bool.or_false, Bool.false_or, Bool.or_true, Bool.true_or, called, Bool.and_true, Bool.true_and, beq_self_eq_true, Int.toNat_natCast, Int.natCast_nonneg, skipped, AV.parts, fillO, chunks, List.replicate_succ, List.replicate_zero, List.flatten_cons, List.flatten_nil, Nat.reduceMul, Nat.zero_mul, Nat.mul_one, tailOf, appTo, AV.toOwn, AV.toD, D.scalar, List.all_cons, List.all_nil, rowF, Nat.zero_add, Nat.zero_le, List.getElem?_cons_succ, RV.avL, h, ht, hd, bytesOf_ofBytes]
/-- impl.Lower -/
theorem List.set_getElem?_self' {α : Type} : ∀ {l : List α} {i : Nat} {a : α}, l[i]? = some a → l.set i a = l
  | [], _, _, h => by simp at h
  | b :: l, 0, a, h => by simp at h; simp [h]
  | b :: l, i + 1, a, h => by simp at h; simp [List.set_getElem?_self' (by simpa using h)]
theorem l53 (s : Tx) (hs : s.length ≤ 1048576) : ∀ (k i : Nat), i + k = s.length →
    DL V (.loop m53l0) ⟨[(3, .h 7 0 s.length), (8, .h 7 0 s.length), (9, .d (.i .i64 s.length)), (10, .d (.i .i64 i))], [(7, ⟨1, rowsB ((s.take i).map low ++ s.drop i)⟩)]⟩ = some (.ex 0, ⟨[(3, .h 7 0 s.length)], [(7, ⟨1, rowsB (s.map low)⟩)]⟩) := by
  intro k
  induction k with
  | zero =>
    intro i h
    have : i = s.length := by omega
    subst this
    rw [DL_loop]
    simp only [m53l0, entered, argRegs, DA.av, DL_r, DL_skip, DL_seq, DL_cond, condDL_b, DL_blk, DL_ex, DL_ret, DL_pre, DL_post, andThen_n, andThen_ex, andThen_ret, goN_eq, outOf_n, outOf_ret, outOf_ex, krun_nil, krun_cons, kstep, St.set, St.op, St.reg, klook, kput, kdel, killAll, Option.bind_some, Option.map_some, Option.bind_none, Option.map_none, Option.getD_some, ↓reduceIte, Nat.reduceEqDiff, Nat.reduceLT, List.length_map, binV, binI, binS, isSh, asInt', Option.bind_eq_bind, decide_eq_true_eq, St.new, St.unref, St.unlook, St.turn, St.gone, dropAll, AV.refs, AV.refsL, AV.looks, AV.looksL, AV.fr, AV.frL, List.filter_cons, List.filter_nil, Bool.not_false, Bool.not_true, cellsOf, cellOf, AV.cells, kcut, packed, viewOf, viewD, St.arg, St.one, allOf, List.map_cons, List.map_nil, RV.av, ite_bind', ite_map', List.getElem?_map, bind_map', BEq.rfl, List.getElem?_cons_zero, List.set_cons_zero, List.drop_zero, List.take_succ_cons, List.length_cons, List.length_nil, Nat.reduceAdd, Nat.reduceLeDiff, List.drop_succ_cons, List.take_zero, List.nil_append, List.append_nil, List.cons_append, and_self, Bool.false_eq_true, Nat.reduceBEq, and_true, true_and, ended, resV, rvOf, tupled, Bool.or_false, Bool.false_or, Bool.or_true, Bool.true_or, called, Bool.and_true, Bool.true_and, beq_self_eq_true, Int.toNat_natCast, Int.natCast_nonneg, skipped, AV.parts, fillO, chunks, List.replicate_succ, List.replicate_zero, List.flatten_cons, List.flatten_nil, Nat.reduceMul, Nat.zero_mul, Nat.mul_one, tailOf, appTo, AV.toOwn, AV.toD, D.scalar, List.all_cons, List.all_nil, rowF, Nat.zero_add, Nat.zero_le, List.getElem?_cons_succ, RV.avL, Int.lt_irrefl, List.take_length, List.drop_length]
  | succ k ih =>
    intro i h
    rw [DL_loop]
    have hil : i < s.length := by omega
    have hlt : ((i : Int) < (s.length : Int)) := by omega
    have hi : s[i]? = some s[i] := List.getElem?_eq_getElem hil
    have hget : (rowsB ((s.take i).map low ++ s.drop i))[i]? = some [AV.d (.i .u8 s[i].toNat)] := by
      simp only [rowsB, List.getElem?_map]
      rw [List.getElem?_append_right (by simp; omega)]
      simp only [List.length_map, List.length_take, List.getElem?_drop]
      rw [show i + (i - min i s.length) = i by omega, hi]; rfl
    have hset : (rowsB ((s.take i).map low ++ s.drop i)).set i [AV.d (.i .u8 (low s[i]).toNat)] = rowsB ((s.take (i + 1)).map low ++ s.drop (i + 1)) := by
      have e1 : s.drop i = s[i] :: s.drop (i + 1) := List.drop_eq_getElem_cons hil
      have e2 : s.take (i + 1) = s.take i ++ [s[i]] := by rw [List.take_add_one, hi]; rfl
      rw [e1, e2]
      simp only [rowsB, List.map_append, List.map_cons, List.map_nil]
      rw [List.set_append_right _ _ (by simp; omega)]
      simp [Nat.min_eq_left (Nat.le_of_lt hil)]
    generalize DL V (.loop m53l0) = G at ih ⊢
    have e := ih (i + 1) (by omega)
    rw [← hset] at e
    cases hc : large s[i]
    · have hsame : (rowsB ((s.take i).map low ++ s.drop i)).set i [AV.d (.i .u8 (low s[i]).toNat)] = rowsB ((s.take i).map low ++ s.drop i) := by
        rw [low, hc, if_neg (by simp)]
        exact List.set_getElem?_self' hget
      rw [hsame] at e
      simp only [m53l0, entered, argRegs, DA.av, DL_r, DL_skip, DL_seq, DL_cond, condDL_b, DL_blk, DL_ex, DL_ret, DL_pre, DL_post, andThen_n, andThen_ex, andThen_ret, goN_eq, outOf_n, outOf_ret, outOf_ex, krun_nil, krun_cons, kstep, St.set, St.op, St.reg, klook, kput, kdel, killAll, Option.bind_some, Option.map_some, Option.bind_none, Option.map_none, Option.getD_some, ↓reduceIte, Nat.reduceEqDiff, Nat.reduceLT, List.length_map, binV, binI, binS, isSh, asInt', Option.bind_eq_bind, decide_eq_true_eq, St.new, St.unref, St.unlook, St.turn, St.gone, dropAll, AV.refs, AV.refsL, AV.looks, AV.looksL, AV.fr, AV.frL, List.filter_cons, List.filter_nil, Bool.not_false, Bool.not_true, cellsOf, cellOf, AV.cells, kcut, packed, viewOf, viewD, St.arg, St.one, allOf, List.map_cons, List.map_nil, RV.av, ite_bind', ite_map', List.getElem?_map, bind_map', BEq.rfl, List.getElem?_cons_zero, List.set_cons_zero, List.drop_zero, List.take_succ_cons, List.length_cons, List.length_nil, Nat.reduceAdd, Nat.reduceLeDiff, List.drop_succ_cons, List.take_zero, List.nil_append, List.append_nil, List.cons_append, and_self, Bool.false_eq_true, Nat.reduceBEq, and_true, true_and, ended, resV, rvOf, tupled, Bool.or_false, Bool.false_or, Bool.or_true, Bool.true_or, called, Bool.and_true, Bool.true_and, beq_self_eq_true, Int.toNat_natCast, Int.natCast_nonneg, skipped, AV.parts, fillO, chunks, List.replicate_succ, List.replicate_zero, List.flatten_cons, List.flatten_nil, Nat.reduceMul, Nat.zero_mul, Nat.mul_one, tailOf, appTo, AV.toOwn, AV.toD, D.scalar, List.all_cons, List.all_nil, rowF, Nat.zero_add, Nat.zero_le, List.getElem?_cons_succ, RV.avL, hlt, hget, hc, e107, wrap_succ hil (by omega), add32]
      exact e
    · rw [low, hc, if_pos rfl] at e
      simp only [m53l0, entered, argRegs, DA.av, DL_r, DL_skip, DL_seq, DL_cond, condDL_b, DL_blk, DL_ex, DL_ret, DL_pre, DL_post, andThen_n, andThen_ex, andThen_ret, goN_eq, outOf_n, outOf_ret, outOf_ex, krun_nil, krun_cons, kstep, St.set, St.op, St.reg, klook, kput, kdel, killAll, Option.bind_some, Option.map_some, Option.bind_none, Option.map_none, Option.getD_some, ↓reduceIte, Nat.reduceEqDiff, Nat.reduceLT, List.length_map, binV, binI, binS, isSh, asInt', Option.bind_eq_bind, decide_eq_true_eq, St.new, St.unref, St.unlook, St.turn, St.gone, dropAll, AV.refs, AV.refsL, AV.looks, AV.looksL, AV.fr, AV.frL, List.filter_cons, List.filter_nil, Bool.not_false, Bool.not_true, cellsOf, cellOf, AV.cells, kcut, packed, viewOf, viewD, St.arg, St.one, allOf, List.map_cons, List.map_nil, RV.av, ite_bind', ite_map', List.getElem?_map, bind_map', BEq.rfl, List.getElem?_cons_zero, List.set_cons_zero, List.drop_zero, List.take_succ_cons, List.length_cons, List.length_nil, Nat.reduceAdd, Nat.reduceLeDiff, List.drop_succ_cons, List.take_zero, List.nil_append, List.append_nil, List.cons_append, and_self, Bool.false_eq_true, Nat.reduceBEq, and_true, true_and, ended, resV, rvOf, tupled, Bool.or_false, Bool.false_or, Bool.or_true, Bool.true_or, called, Bool.and_true, Bool.true_and, beq_self_eq_true, Int.toNat_natCast, Int.natCast_nonneg, skipped, AV.parts, fillO, chunks, List.replicate_succ, List.replicate_zero, List.flatten_cons, List.flatten_nil, Nat.reduceMul, Nat.zero_mul, Nat.mul_one, tailOf, appTo, AV.toOwn, AV.toD, D.scalar, List.all_cons, List.all_nil, rowF, Nat.zero_add, Nat.zero_le, List.getElem?_cons_succ, RV.avL, hlt, hget, hc, e107, wrap_succ hil (by omega), add32]
      exact e
theorem e53 (s : Tx) (hs : s.length ≤ 1048576) : V 53 [.one (.s s)] = some (false, .one (.s (s.map low))) := by
  rw [V_eq (fn := m53) rfl]
  have h := l53 s hs s.length 0 (by omega)
  have ht : (rowsB (s.map low)).take s.length = rowsB (s.map low) := List.take_of_length_le (by simp [rowsB])
  have hd : dEs (rowsB (s.map low)) = some (ofBytes (s.map low)) := dEs_rowsB _
  have hr0 : rowsB s = (ofBytes s).map (fun cs => cs.map AV.d) := by simp [rowsB, ofBytes]
  simp only [List.take_zero, List.map_nil, List.nil_append, List.drop_zero, Int.natCast_zero, hr0] at h
  simp only [m53, entered, argRegs, DA.av, DL_r, DL_skip, DL_seq, DL_cond, condDL_b, DL_blk, DL_ex, DL_ret, DL_pre, DL_post, andThen_n, andThen_ex, andThen_ret, goN_eq, outOf_n, outOf_ret, outOf_ex, krun_nil, krun_cons, kstep, St.set, St.op, St.reg, klook, kput, kdel, killAll, Option.bind_some, Option.map_some, Option.bind_none, Option.map_none, Option.getD_some, ↓reduceIte, Nat.reduceEqDiff, Nat.reduceLT, List.length_map, binV, binI, binS, isSh, asInt', Option.bind_eq_bind, decide_eq_true_eq, St.new, St.unref, St.unlook, St.turn, St.gone, dropAll, AV.refs, AV.refsL, AV.looks, AV.looksL, AV.fr, AV.frL, List.filter_cons, List.filter_nil, Bool.not_false, Bool.not_true, cellsOf, cellOf, AV.cells, kcut, packed, viewOf, viewD, St.arg, St.one, allOf, List.map_cons, List.map_nil, RV.av, ite_bind', ite_map', List.getElem?_map, bind_map', BEq.rfl, List.getElem?_cons_zero, List.set_cons_zero, List.drop_zero, List.take_succ_cons, List.length_cons, List.length_nil, Nat.reduceAdd, Nat.reduceLeDiff, List.drop_succ_cons, List.take_zero, List.nil_append, List.append_nil, List.cons_append, and_self, Bool.false_eq_true, Nat.reduceBEq, and_true, true_and, ended, resV, rvOf, tupled, Bool.or_false, Bool.false_or, Bool.or_true, Bool.true_or, called, Bool.and_true, Bool.true_and, beq_self_eq_true, Int.toNat_natCast, Int.natCast_nonneg, skipped, AV.parts, fillO, chunks, List.replicate_succ, List.replicate_zero, List.flatten_cons, List.flatten_nil, Nat.reduceMul, Nat.zero_mul, Nat.mul_one, tailOf, appTo, AV.toOwn, AV.toD, D.scalar, List.all_cons, List.all_nil, rowF, Nat.zero_add, Nat.zero_le, List.getElem?_cons_succ, RV.avL, h, ht, hd, bytesOf_ofBytes]
end Go.Proofs.YtmccpbabpnffcaaK
