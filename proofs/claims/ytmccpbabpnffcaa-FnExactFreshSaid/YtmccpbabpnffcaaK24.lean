/- Functions that are alike for every type: copies, sizes, comparisons of slices. -/
import Derived.Test.YtmccpbabpnffcaaK23
set_option linter.unusedVariables false
set_option linter.unusedSimpArgs false
namespace Go.Proofs.YtmccpbabpnffcaaK
open Go.RowKit

theorem ite_bind' {α β : Type} (c : Prop) [Decidable c] (a b : Option α) (f : α → Option β) : (if c then a else b).bind f = if c then a.bind f else b.bind f := by split <;> rfl
theorem ite_map' {α β : Type} (c : Prop) [Decidable c] (a b : Option α) (f : α → β) : (if c then a else b).map f = if c then a.map f else b.map f := by split <;> rfl
theorem bind_map' {α β γ : Type} (a : Option α) (g : α → β) (f : β → Option γ) : (a.map g).bind f = a.bind fun x => f (g x) := by cases a <;> rfl
theorem wrap_id {n : Int} (h1 : -9223372036854775808 ≤ n) (h2 : n ≤ 9223372036854775807) : IntKind.i64.wrap n = n := by
  simp only [IntKind.wrap, IntKind.min, IntKind.max, IntKind.signed, IntKind.bits] at *
  simp
  try omega
theorem wrap_succ {i n : Nat} (h : i < n) (hn : n ≤ 9223372036854775807) : IntKind.i64.wrap ((i : Int) + 1) = ((i + 1 : Nat) : Int) := by
  rw [wrap_id (by omega) (by omega)]; rfl

mutual
/-- How great data are, as the laws reckon it. -/
def szD : D → Nat
  | .s l => l.length
  | .sl rows => rows.length + szRows rows
  | _ => 0
def szDs : List D → Nat
  | [] => 0
  | d :: l => szD d + szDs l
def szRows : List (List D) → Nat
  | [] => 0
  | r :: l => szDs r + szRows l
end
theorem szRows_get : ∀ {rows : List (List D)} {r : List D}, r ∈ rows → szDs r ≤ szRows rows
  | [], _, h => by cases h
  | a :: l, r, h => by
    simp only [szRows]
    rcases List.mem_cons.1 h with e | e
    · subst e; omega
    · have := szRows_get e; omega
theorem szDs_get : ∀ {l : List D} {d : D}, d ∈ l → szD d ≤ szDs l
  | [], _, h => by cases h
  | a :: l, r, h => by
    simp only [szDs]
    rcases List.mem_cons.1 h with e | e
    · subst e; omega
    · have := szDs_get e; omega
theorem szRows_drop {rows : List (List D)} {i : Nat} (h : i < rows.length) : szRows (rows.drop i) = szDs rows[i] + szRows (rows.drop (i + 1)) := by
  rw [List.drop_eq_getElem_cons h]; rfl

def rowD (r : List D) : List AV := r.map AV.d
theorem kcut_all {α : Type} {r : List α} {sz : Nat} (h : r.length = sz) : kcut r 0 sz = some r := by
  subst h; simp [kcut]
theorem viewD_none (r : List D) : r.map (viewD none) = r.map AV.d := by
  refine List.map_congr_left fun x _ => ?_
  cases x <;> rfl
theorem allOf_one_d (σ : St) : ∀ (r : List D), allOf σ.one (r.map AV.d) = some r
  | [] => rfl
  | d :: r => by simp only [List.map_cons, allOf, St.one, Option.bind_some, allOf_one_d σ r, Option.map_some]
theorem cellsOf_d (σ : St) : ∀ (r : List D), cellsOf (r.map AV.d) σ = some (r.map AV.d, σ)
  | [] => rfl
  | d :: r => by simp only [List.map_cons, cellsOf, cellOf, Option.bind_some, cellsOf_d σ r, Option.map_some]
theorem allOf_toD_d : ∀ (r : List D), allOf AV.toD (r.map AV.d) = some r
  | [] => rfl
  | d :: r => by simp only [List.map_cons, allOf, AV.toD, Option.bind_some, allOf_toD_d r, Option.map_some]
theorem dEs_rowD : ∀ (rows : List (List D)), dEs (rows.map rowD) = some rows
  | [] => rfl
  | r :: rows => by
    have := dEs_rowD rows
    simp only [dEs] at this
    simp only [dEs, List.map_cons, allOf, rowD, allOf_toD_d, Option.bind_some]
    rw [show (rows.map rowD) = rows.map (fun r => r.map AV.d) from rfl] at this
    simp only [show (rows.map fun r => rowD r) = rows.map (fun r => r.map AV.d) from rfl] at *
    rw [this]; rfl
theorem refsL_rowD (o : Nat) : ∀ (r : List D), AV.refsL o (r.map AV.d) = false
  | [] => rfl
  | d :: r => by simp only [List.map_cons, AV.refsL, AV.refs, Bool.false_or, refsL_rowD o r]
theorem frL_rowD (r : List D) : AV.frL (r.map AV.d) = true := frL_d r

/-! ### Copies -/
def toL1 (g sz : Nat) : C := .post
  (.seq (.seq (.post (.r [.mv 8 (.t 4),
      .mv 9 (.t 0),
      .len 10 (.t 9),
      .bin 11 .lss .num (.t 8) (.t 10)]) [.kill [8, 9, 10]])
    (.cond (.t 11)
      (.pre [.kill [11]] (.skip))
      (.pre [.keep [3]] (.ex 0))))
    (.seq (.blk 1 (.post (.r [.mv 14 (.t 3),
      .mv 15 (.t 4),
      .mv 16 (.t 0),
      .mv 17 (.t 4),
      .ia 18 sz (.t 16) (.t 17),
      .ld 19 sz true (.t 18),
      .call 20 false (.c (.clo g [])) [(.t 19)],
      .ia 21 sz (.t 14) (.t 15),
      .st sz (.t 21) (.t 20)]) [.keep [4, 3, 0]]))
    (.post (.r [.mv 12 (.t 4),
      .bin 13 .add .num (.t 12) (.c (.d (.i .i64 1))),
      .mv 4 (.t 13)]) [.kill [12, 13]])))
  [.keep [4, 3, 0]]
def toF1 (g sz bytes : Nat) (z : List AV) : Fn := ⟨1, [.t 2], false,
  .seq (.post (.r [.mv 2 (.c .nil)]) [.kill [2]])
  (.seq (.post (.r [.mv 5 (.t 0),
    .len 6 (.t 5),
    .mk 7 sz bytes z (.t 6),
    .mv 3 (.t 7)]) [.keep [3, 0]])
  (.seq (.seq (.r [.mv 4 (.c (.d (.i .i64 0)))])
  (.blk 0 (.pre [.keep [4, 3, 0]] (.loop (toL1 g sz)))))
  (.seq (.post (.r [.mv 22 (.t 3),
    .mv 2 (.t 22)]) [.keep [2]])
  (.ret))))⟩
def toL3 : C := .post
  (.seq (.seq (.post (.r [.mv 8 (.t 4),
      .mv 9 (.t 0),
      .len 10 (.t 9),
      .bin 11 .lss .num (.t 8) (.t 10)]) [.kill [8, 9, 10]])
    (.cond (.t 11)
      (.pre [.kill [11]] (.skip))
      (.pre [.keep [3]] (.ex 0))))
    (.seq (.blk 1 (.post (.r [.mv 14 (.t 3),
      .mv 15 (.t 4),
      .mv 16 (.t 0),
      .mv 17 (.t 4),
      .ia 18 1 (.t 16) (.t 17),
      .ld 19 1 false (.t 18),
      .ia 20 1 (.t 14) (.t 15),
      .st 1 (.t 20) (.t 19)]) [.keep [4, 3, 0]]))
    (.post (.r [.mv 12 (.t 4),
      .bin 13 .add .num (.t 12) (.c (.d (.i .i64 1))),
      .mv 4 (.t 13)]) [.kill [12, 13]])))
  [.keep [4, 3, 0]]
def toF3 (bytes : Nat) (z : AV) : Fn := ⟨1, [.t 2], false,
  .seq (.post (.r [.mv 2 (.c .nil)]) [.kill [2]])
  (.seq (.post (.r [.mv 5 (.t 0),
    .len 6 (.t 5),
    .mk 7 1 bytes [z] (.t 6),
    .mv 3 (.t 7)]) [.keep [3, 0]])
  (.seq (.seq (.r [.mv 4 (.c (.d (.i .i64 0)))])
  (.blk 0 (.pre [.keep [4, 3, 0]] (.loop toL3))))
  (.seq (.post (.r [.mv 21 (.t 3),
    .mv 2 (.t 21)]) [.keep [2]])
  (.ret))))⟩
section
variable {T : Nat → Option Fn} {E : XF}
theorem toL1_ok {g sz : Nat} {z : List AV} (rows : List (List D)) (hl : rows.length ≤ 9223372036854775807) (hz : z.length = sz) (hr : ∀ r ∈ rows, r.length = sz ∧ evL T E g [.agg r] = some (false, .agg r)) : ∀ (k i : Nat), i + k = rows.length →
    DL (evL T E) (.loop (toL1 g sz)) ⟨[(4, .d (.i .i64 i)), (3, .h 7 0 rows.length), (0, .d (.sl rows))], [(7, ⟨sz, (rows.take i).map rowD ++ List.replicate (rows.length - i) z⟩)]⟩ = some (.ex 0, ⟨[(3, .h 7 0 rows.length)], [(7, ⟨sz, rows.map rowD⟩)]⟩) := by
  intro k
  induction k with
  | zero =>
    intro i h
    have : i = rows.length := by omega
    subst this
    rw [DL_loop]
    simp only [toL1, entered, argRegs, DA.av, DL_r, DL_skip, DL_seq, DL_cond, condDL_b, DL_blk, DL_ex, DL_ret, DL_pre, DL_post, andThen_n, andThen_ex, andThen_ret, goN_eq, outOf_n, outOf_ret, outOf_ex, krun_nil, krun_cons, kstep, St.set, St.op, St.reg, klook, kput, kdel, killAll, Option.bind_some, Option.map_some, Option.bind_none, Option.map_none, Option.getD_some, ↓reduceIte, Nat.reduceEqDiff, Nat.reduceLT, List.length_map, binV, binI, binS, isSh, asInt', Option.bind_eq_bind, decide_eq_true_eq, St.new, St.unref, St.unlook, St.turn, St.gone, dropAll, AV.refs, AV.refsL, AV.looks, AV.looksL, AV.fr, AV.frL, List.filter_cons, List.filter_nil, Bool.not_false, Bool.not_true, cellsOf, cellOf, AV.cells, kcut, packed, viewOf, viewD, St.arg, St.one, allOf, List.map_cons, List.map_nil, RV.av, ite_bind', ite_map', List.getElem?_map, bind_map', BEq.rfl, List.getElem?_cons_zero, List.set_cons_zero, List.drop_zero, List.take_succ_cons, List.length_cons, List.length_nil, Nat.reduceAdd, Nat.reduceLeDiff, List.drop_succ_cons, List.take_zero, List.nil_append, List.append_nil, List.cons_append, and_self, Bool.false_eq_true, Nat.reduceBEq, and_true, true_and, ended, resV, rvOf, tupled, Bool.or_false, Bool.false_or, Bool.or_true, Bool.true_or, called, Bool.and_true, Bool.true_and, beq_self_eq_true, Int.toNat_natCast, Int.natCast_nonneg, skipped, AV.parts, fillO, chunks, List.replicate_succ, List.replicate_zero, List.flatten_cons, List.flatten_nil, Nat.reduceMul, Nat.zero_mul, Nat.mul_one, tailOf, appTo, AV.toOwn, AV.toD, D.scalar, List.all_cons, List.all_nil, rowF, Nat.zero_add, Nat.zero_le, List.getElem?_cons_succ, RV.avL, keepAll, keepOne, Bool.true_eq_false, Int.lt_irrefl, List.take_length, Nat.sub_self]
  | succ k ih =>
    intro i h
    rw [DL_loop]
    have hil : i < rows.length := by omega
    have hlt : ((i : Int) < (rows.length : Int)) := by omega
    have hi : rows[i]? = some rows[i] := List.getElem?_eq_getElem hil
    obtain ⟨hrl, hcall⟩ := hr rows[i] (List.getElem_mem hil)
    have hlen : ((rows.take i).map rowD).length = i := by simp; omega
    have hget : ((rows.take i).map rowD ++ List.replicate (rows.length - i) z)[i]? = some z := by
      rw [List.getElem?_append_right (by omega), hlen, Nat.sub_self, List.getElem?_replicate, if_pos (by omega)]
    have hset : ((rows.take i).map rowD ++ List.replicate (rows.length - i) z).set i (rowD rows[i]) = (rows.take (i + 1)).map rowD ++ List.replicate (rows.length - (i + 1)) z := by
      rw [List.set_append_right _ _ (by omega), hlen, Nat.sub_self, show rows.length - i = (rows.length - (i + 1)) + 1 by omega, List.replicate_succ, List.set_cons_zero, List.take_add_one, hi]
      simp only [Option.toList_some, List.map_append, List.map_cons, List.map_nil, List.append_assoc, List.cons_append, List.nil_append]
    have hk : rows[i].take sz = rows[i] := List.take_of_length_le (by omega)
    have hzd : z.drop sz = [] := List.drop_eq_nil_of_le (by omega)
    have hle : 0 + sz ≤ z.length := by omega
    have hrl' : (rows[i].map AV.d).length = sz := by simp [hrl]
    have e := ih (i + 1) (by omega)
    rw [← hset] at e
    generalize DL (evL T E) (.loop (toL1 g sz)) = G at ih e ⊢
    simp only [toL1, entered, argRegs, DA.av, DL_r, DL_skip, DL_seq, DL_cond, condDL_b, DL_blk, DL_ex, DL_ret, DL_pre, DL_post, andThen_n, andThen_ex, andThen_ret, goN_eq, outOf_n, outOf_ret, outOf_ex, krun_nil, krun_cons, kstep, St.set, St.op, St.reg, klook, kput, kdel, killAll, Option.bind_some, Option.map_some, Option.bind_none, Option.map_none, Option.getD_some, ↓reduceIte, Nat.reduceEqDiff, Nat.reduceLT, List.length_map, binV, binI, binS, isSh, asInt', Option.bind_eq_bind, decide_eq_true_eq, St.new, St.unref, St.unlook, St.turn, St.gone, dropAll, AV.refs, AV.refsL, AV.looks, AV.looksL, AV.fr, AV.frL, List.filter_cons, List.filter_nil, Bool.not_false, Bool.not_true, cellsOf, cellOf, AV.cells, kcut, packed, viewOf, viewD, St.arg, St.one, allOf, List.map_cons, List.map_nil, RV.av, ite_bind', ite_map', List.getElem?_map, bind_map', BEq.rfl, List.getElem?_cons_zero, List.set_cons_zero, List.drop_zero, List.take_succ_cons, List.length_cons, List.length_nil, Nat.reduceAdd, Nat.reduceLeDiff, List.drop_succ_cons, List.take_zero, List.nil_append, List.append_nil, List.cons_append, and_self, Bool.false_eq_true, Nat.reduceBEq, and_true, true_and, ended, resV, rvOf, tupled, Bool.or_false, Bool.false_or, Bool.or_true, Bool.true_or, called, Bool.and_true, Bool.true_and, beq_self_eq_true, Int.toNat_natCast, Int.natCast_nonneg, skipped, AV.parts, fillO, chunks, List.replicate_succ, List.replicate_zero, List.flatten_cons, List.flatten_nil, Nat.reduceMul, Nat.zero_mul, Nat.mul_one, tailOf, appTo, AV.toOwn, AV.toD, D.scalar, List.all_cons, List.all_nil, rowF, Nat.zero_add, Nat.zero_le, List.getElem?_cons_succ, RV.avL, keepAll, keepOne, Bool.true_eq_false, hlt, hi, hrl, hk, viewD_none, allOf_one_d, hcall, wrap_succ hil hl, hget, cellsOf_d, hz, hzd, hle, hrl', refsL_rowD, frL_rowD, Nat.le_refl]
    exact e
theorem toF1_ok {n g sz bytes : Nat} {z : List AV} (hf : T n = some (toF1 g sz bytes z)) (rows : List (List D)) (hb : rows.length * bytes ≤ 140737488355328) (hb0 : 0 < bytes) (hz : z.length = sz) (hst : z.all AV.still = true) (hr : ∀ r ∈ rows, r.length = sz ∧ evL T E g [.agg r] = some (false, .agg r)) :
    evL T E n [.one (.sl rows)] = some (false, .one (.sl rows)) := by
  rw [evL_eq T E hf]
  have hl : rows.length ≤ 140737488355328 := Nat.le_trans (Nat.le_mul_of_pos_right _ hb0) hb
  have h := toL1_ok (T := T) (E := E) (g := g) (z := z) rows (by omega) hz hr rows.length 0 (by omega)
  have ht : (rows.map rowD).take rows.length = rows.map rowD := List.take_of_length_le (by simp)
  have hroom : (rows.length : Int) * (bytes : Int) ≤ 140737488355328 := by
    rw [← Int.natCast_mul]
    generalize rows.length * bytes = m at hb ⊢
    omega
  simp only [List.take_zero, List.map_nil, List.nil_append, Nat.sub_zero, Int.natCast_zero] at h
  simp only [toF1, entered, argRegs, DA.av, DL_r, DL_skip, DL_seq, DL_cond, condDL_b, DL_blk, DL_ex, DL_ret, DL_pre, DL_post, andThen_n, andThen_ex, andThen_ret, goN_eq, outOf_n, outOf_ret, outOf_ex, krun_nil, krun_cons, kstep, St.set, St.op, St.reg, klook, kput, kdel, killAll, Option.bind_some, Option.map_some, Option.bind_none, Option.map_none, Option.getD_some, ↓reduceIte, Nat.reduceEqDiff, Nat.reduceLT, List.length_map, binV, binI, binS, isSh, asInt', Option.bind_eq_bind, decide_eq_true_eq, St.new, St.unref, St.unlook, St.turn, St.gone, dropAll, AV.refs, AV.refsL, AV.looks, AV.looksL, AV.fr, AV.frL, List.filter_cons, List.filter_nil, Bool.not_false, Bool.not_true, cellsOf, cellOf, AV.cells, kcut, packed, viewOf, viewD, St.arg, St.one, allOf, List.map_cons, List.map_nil, RV.av, ite_bind', ite_map', List.getElem?_map, bind_map', BEq.rfl, List.getElem?_cons_zero, List.set_cons_zero, List.drop_zero, List.take_succ_cons, List.length_cons, List.length_nil, Nat.reduceAdd, Nat.reduceLeDiff, List.drop_succ_cons, List.take_zero, List.nil_append, List.append_nil, List.cons_append, and_self, Bool.false_eq_true, Nat.reduceBEq, and_true, true_and, ended, resV, rvOf, tupled, Bool.or_false, Bool.false_or, Bool.or_true, Bool.true_or, called, Bool.and_true, Bool.true_and, beq_self_eq_true, Int.toNat_natCast, Int.natCast_nonneg, skipped, AV.parts, fillO, chunks, List.replicate_succ, List.replicate_zero, List.flatten_cons, List.flatten_nil, Nat.reduceMul, Nat.zero_mul, Nat.mul_one, tailOf, appTo, AV.toOwn, AV.toD, D.scalar, List.all_cons, List.all_nil, rowF, Nat.zero_add, Nat.zero_le, List.getElem?_cons_succ, RV.avL, keepAll, keepOne, Bool.true_eq_false, h, ht, dEs_rowD, hroom, hst, hz]

theorem toL3_ok {z : AV} (rows : List (List D)) (hl : rows.length ≤ 9223372036854775807) (hr : ∀ r ∈ rows, ∃ d, r = [d]) : ∀ (k i : Nat), i + k = rows.length →
    DL (evL T E) (.loop toL3) ⟨[(4, .d (.i .i64 i)), (3, .h 7 0 rows.length), (0, .d (.sl rows))], [(7, ⟨1, (rows.take i).map rowD ++ List.replicate (rows.length - i) [z]⟩)]⟩ = some (.ex 0, ⟨[(3, .h 7 0 rows.length)], [(7, ⟨1, rows.map rowD⟩)]⟩) := by
  intro k
  induction k with
  | zero =>
    intro i h
    have : i = rows.length := by omega
    subst this
    rw [DL_loop]
    simp only [toL3, entered, argRegs, DA.av, DL_r, DL_skip, DL_seq, DL_cond, condDL_b, DL_blk, DL_ex, DL_ret, DL_pre, DL_post, andThen_n, andThen_ex, andThen_ret, goN_eq, outOf_n, outOf_ret, outOf_ex, krun_nil, krun_cons, kstep, St.set, St.op, St.reg, klook, kput, kdel, killAll, Option.bind_some, Option.map_some, Option.bind_none, Option.map_none, Option.getD_some, ↓reduceIte, Nat.reduceEqDiff, Nat.reduceLT, List.length_map, binV, binI, binS, isSh, asInt', Option.bind_eq_bind, decide_eq_true_eq, St.new, St.unref, St.unlook, St.turn, St.gone, dropAll, AV.refs, AV.refsL, AV.looks, AV.looksL, AV.fr, AV.frL, List.filter_cons, List.filter_nil, Bool.not_false, Bool.not_true, cellsOf, cellOf, AV.cells, kcut, packed, viewOf, viewD, St.arg, St.one, allOf, List.map_cons, List.map_nil, RV.av, ite_bind', ite_map', List.getElem?_map, bind_map', BEq.rfl, List.getElem?_cons_zero, List.set_cons_zero, List.drop_zero, List.take_succ_cons, List.length_cons, List.length_nil, Nat.reduceAdd, Nat.reduceLeDiff, List.drop_succ_cons, List.take_zero, List.nil_append, List.append_nil, List.cons_append, and_self, Bool.false_eq_true, Nat.reduceBEq, and_true, true_and, ended, resV, rvOf, tupled, Bool.or_false, Bool.false_or, Bool.or_true, Bool.true_or, called, Bool.and_true, Bool.true_and, beq_self_eq_true, Int.toNat_natCast, Int.natCast_nonneg, skipped, AV.parts, fillO, chunks, List.replicate_succ, List.replicate_zero, List.flatten_cons, List.flatten_nil, Nat.reduceMul, Nat.zero_mul, Nat.mul_one, tailOf, appTo, AV.toOwn, AV.toD, D.scalar, List.all_cons, List.all_nil, rowF, Nat.zero_add, Nat.zero_le, List.getElem?_cons_succ, RV.avL, keepAll, keepOne, Bool.true_eq_false, Int.lt_irrefl, List.take_length, Nat.sub_self]
  | succ k ih =>
    intro i h
    rw [DL_loop]
    have hil : i < rows.length := by omega
    have hlt : ((i : Int) < (rows.length : Int)) := by omega
    obtain ⟨d, hd⟩ := hr rows[i] (List.getElem_mem hil)
    have hi : rows[i]? = some [d] := by rw [List.getElem?_eq_getElem hil, hd]
    have hlen : ((rows.take i).map rowD).length = i := by simp; omega
    have hget : ((rows.take i).map rowD ++ List.replicate (rows.length - i) [z])[i]? = some [z] := by
      rw [List.getElem?_append_right (by omega), hlen, Nat.sub_self, List.getElem?_replicate, if_pos (by omega)]
    have hset : ((rows.take i).map rowD ++ List.replicate (rows.length - i) [z]).set i [AV.d d] = (rows.take (i + 1)).map rowD ++ List.replicate (rows.length - (i + 1)) [z] := by
      rw [List.set_append_right _ _ (by omega), hlen, Nat.sub_self, show rows.length - i = (rows.length - (i + 1)) + 1 by omega, List.replicate_succ, List.set_cons_zero, List.take_add_one, hi]
      simp only [Option.toList_some, List.map_append, List.map_cons, List.map_nil, List.append_assoc, List.cons_append, List.nil_append, rowD]
    have e := ih (i + 1) (by omega)
    rw [← hset] at e
    generalize DL (evL T E) (.loop toL3) = G at ih e ⊢
    cases d <;> (simp only [toL3, entered, argRegs, DA.av, DL_r, DL_skip, DL_seq, DL_cond, condDL_b, DL_blk, DL_ex, DL_ret, DL_pre, DL_post, andThen_n, andThen_ex, andThen_ret, goN_eq, outOf_n, outOf_ret, outOf_ex, krun_nil, krun_cons, kstep, St.set, St.op, St.reg, klook, kput, kdel, killAll, Option.bind_some, Option.map_some, Option.bind_none, Option.map_none, Option.getD_some, ↓reduceIte, Nat.reduceEqDiff, Nat.reduceLT, List.length_map, binV, binI, binS, isSh, asInt', Option.bind_eq_bind, decide_eq_true_eq, St.new, St.unref, St.unlook, St.turn, St.gone, dropAll, AV.refs, AV.refsL, AV.looks, AV.looksL, AV.fr, AV.frL, List.filter_cons, List.filter_nil, Bool.not_false, Bool.not_true, cellsOf, cellOf, AV.cells, kcut, packed, viewOf, viewD, St.arg, St.one, allOf, List.map_cons, List.map_nil, RV.av, ite_bind', ite_map', List.getElem?_map, bind_map', BEq.rfl, List.getElem?_cons_zero, List.set_cons_zero, List.drop_zero, List.take_succ_cons, List.length_cons, List.length_nil, Nat.reduceAdd, Nat.reduceLeDiff, List.drop_succ_cons, List.take_zero, List.nil_append, List.append_nil, List.cons_append, and_self, Bool.false_eq_true, Nat.reduceBEq, and_true, true_and, ended, resV, rvOf, tupled, Bool.or_false, Bool.false_or, Bool.or_true, Bool.true_or, called, Bool.and_true, Bool.true_and, beq_self_eq_true, Int.toNat_natCast, Int.natCast_nonneg, skipped, AV.parts, fillO, chunks, List.replicate_succ, List.replicate_zero, List.flatten_cons, List.flatten_nil, Nat.reduceMul, Nat.zero_mul, Nat.mul_one, tailOf, appTo, AV.toOwn, AV.toD, D.scalar, List.all_cons, List.all_nil, rowF, Nat.zero_add, Nat.zero_le, List.getElem?_cons_succ, RV.avL, keepAll, keepOne, Bool.true_eq_false, hlt, hi, wrap_succ hil hl, hget]; exact e)
theorem toF3_ok {n bytes : Nat} {z : AV} (hf : T n = some (toF3 bytes z)) (rows : List (List D)) (hb : rows.length * bytes ≤ 140737488355328) (hb0 : 0 < bytes) (hst : z.still = true) (hr : ∀ r ∈ rows, ∃ d, r = [d]) :
    evL T E n [.one (.sl rows)] = some (false, .one (.sl rows)) := by
  rw [evL_eq T E hf]
  have hl : rows.length ≤ 140737488355328 := Nat.le_trans (Nat.le_mul_of_pos_right _ hb0) hb
  have h := toL3_ok (T := T) (E := E) (z := z) rows (by omega) hr rows.length 0 (by omega)
  have ht : (rows.map rowD).take rows.length = rows.map rowD := List.take_of_length_le (by simp)
  have hroom : (rows.length : Int) * (bytes : Int) ≤ 140737488355328 := by
    rw [← Int.natCast_mul]
    generalize rows.length * bytes = m at hb ⊢
    omega
  simp only [List.take_zero, List.map_nil, List.nil_append, Nat.sub_zero, Int.natCast_zero] at h
  simp only [toF3, entered, argRegs, DA.av, DL_r, DL_skip, DL_seq, DL_cond, condDL_b, DL_blk, DL_ex, DL_ret, DL_pre, DL_post, andThen_n, andThen_ex, andThen_ret, goN_eq, outOf_n, outOf_ret, outOf_ex, krun_nil, krun_cons, kstep, St.set, St.op, St.reg, klook, kput, kdel, killAll, Option.bind_some, Option.map_some, Option.bind_none, Option.map_none, Option.getD_some, ↓reduceIte, Nat.reduceEqDiff, Nat.reduceLT, List.length_map, binV, binI, binS, isSh, asInt', Option.bind_eq_bind, decide_eq_true_eq, St.new, St.unref, St.unlook, St.turn, St.gone, dropAll, AV.refs, AV.refsL, AV.looks, AV.looksL, AV.fr, AV.frL, List.filter_cons, List.filter_nil, Bool.not_false, Bool.not_true, cellsOf, cellOf, AV.cells, kcut, packed, viewOf, viewD, St.arg, St.one, allOf, List.map_cons, List.map_nil, RV.av, ite_bind', ite_map', List.getElem?_map, bind_map', BEq.rfl, List.getElem?_cons_zero, List.set_cons_zero, List.drop_zero, List.take_succ_cons, List.length_cons, List.length_nil, Nat.reduceAdd, Nat.reduceLeDiff, List.drop_succ_cons, List.take_zero, List.nil_append, List.append_nil, List.cons_append, and_self, Bool.false_eq_true, Nat.reduceBEq, and_true, true_and, ended, resV, rvOf, tupled, Bool.or_false, Bool.false_or, Bool.or_true, Bool.true_or, called, Bool.and_true, Bool.true_and, beq_self_eq_true, Int.toNat_natCast, Int.natCast_nonneg, skipped, AV.parts, fillO, chunks, List.replicate_succ, List.replicate_zero, List.flatten_cons, List.flatten_nil, Nat.reduceMul, Nat.zero_mul, Nat.mul_one, tailOf, appTo, AV.toOwn, AV.toD, D.scalar, List.all_cons, List.all_nil, rowF, Nat.zero_add, Nat.zero_le, List.getElem?_cons_succ, RV.avL, keepAll, keepOne, Bool.true_eq_false, h, ht, dEs_rowD, hroom, hst]

/-! ### Sizes -/
def szL1 (g sz : Nat) : C := .post
  (.seq (.seq (.post (.r [.mv 12 (.t 5),
      .mv 13 (.t 0),
      .len 14 (.t 13),
      .bin 15 .lss .num (.t 12) (.t 14)]) [.kill [12, 13, 14]])
    (.cond (.t 15)
      (.pre [.kill [15]] (.skip))
      (.pre [.keep [1]] (.ex 0))))
    (.seq (.blk 1 (.seq (.post (.r [.mv 18 (.t 0),
      .mv 19 (.t 5),
      .ia 20 sz (.t 18) (.t 19),
      .ld 21 sz true (.t 20),
      .mv 22 (.t 1),
      .call 23 false (.c (.clo g [])) [(.t 21), (.t 22)],
      .mv 1 (.t 23)]) [.keep [5, 1, 0]])
    (.seq (.post (.r [.mv 24 (.t 1),
      .bin 25 .lss .num (.t 24) (.c (.d (.i .i64 0)))]) [.kill [24]])
    (.cond (.t 25)
      (.pre [.keep []] (.seq (.r [.mv 4 (.c (.d (.i .i64 (-1))))])
      (.ret)))
      (.pre [.kill [25]] (.skip))))))
    (.post (.r [.mv 16 (.t 5),
      .bin 17 .add .num (.t 16) (.c (.d (.i .i64 1))),
      .mv 5 (.t 17)]) [.kill [16, 17]])))
  [.keep [5, 1, 0]]
def szF (lp : C) (a : Nat) : Fn := ⟨2, [.t 4], false,
  .seq (.post (.r [.mv 4 (.c (.d (.i .i64 0)))]) [.kill [4]])
  (.seq (.post (.r [.mv 6 (.t 1),
    .mv 7 (.t 0),
    .len 8 (.t 7),
    .bin 9 .sub .num (.t 6) (.t 8),
    .mv 1 (.t 9)]) [.keep [1, 0]])
  (.seq (.seq (.post (.r [.mv 10 (.t 1),
    .bin 11 .lss .num (.t 10) (.c (.d (.i .i64 0)))]) [.kill [10]])
  (.cond (.t 11)
    (.pre [.keep []] (.seq (.r [.mv 4 (.c (.d (.i .i64 (-1))))])
    (.ret)))
    (.pre [.kill [11]] (.skip))))
  (.seq (.seq (.r [.mv 5 (.c (.d (.i .i64 0)))])
  (.blk 0 (.pre [.keep [5, 1, 0]] (.loop lp))))
  (.seq (.post (.r [.mv a (.t 1),
    .mv 4 (.t a)]) [.keep [4]])
  (.ret)))))⟩
def szF1 (g sz : Nat) : Fn := szF (szL1 g sz) 26
def szL3 : C := .post
  (.seq (.seq (.post (.r [.mv 12 (.t 5),
      .mv 13 (.t 0),
      .len 14 (.t 13),
      .bin 15 .lss .num (.t 12) (.t 14)]) [.kill [12, 13, 14]])
    (.cond (.t 15)
      (.pre [.kill [15]] (.skip))
      (.pre [.keep [1]] (.ex 0))))
    (.seq (.blk 1 (.seq (.post (.r [.mv 18 (.t 1),
      .mv 19 (.t 0),
      .mv 20 (.t 5),
      .ia 21 1 (.t 19) (.t 20),
      .ld 22 1 false (.t 21),
      .lns 23 (.t 22),
      .bin 24 .sub .num (.t 18) (.t 23),
      .mv 1 (.t 24)]) [.keep [5, 1, 0]])
    (.seq (.post (.r [.mv 25 (.t 1),
      .bin 26 .lss .num (.t 25) (.c (.d (.i .i64 0)))]) [.kill [25]])
    (.cond (.t 26)
      (.pre [.keep []] (.seq (.r [.mv 4 (.c (.d (.i .i64 (-1))))])
      (.ret)))
      (.pre [.kill [26]] (.skip))))))
    (.post (.r [.mv 16 (.t 5),
      .bin 17 .add .num (.t 16) (.c (.d (.i .i64 1))),
      .mv 5 (.t 17)]) [.kill [16, 17]])))
  [.keep [5, 1, 0]]
def szF3 : Fn := szF szL3 27
/-- What a size's function does: the rest, or -1. -/
def Sized (r n : Int) (m : Nat) : Prop := r = -1 ∨ (0 ≤ r ∧ r + m = n)
theorem szL1_ok {g sz : Nat} (rows : List (List D)) (hl : rows.length ≤ 9223372036854775807) (hr : ∀ r ∈ rows, r.length = sz ∧ ∀ n : Int, 0 ≤ n → n ≤ 1048576 → ∃ m : Int, evL T E g [.agg r, .one (.i .i64 n)] = some (false, .one (.i .i64 m)) ∧ Sized m n (szDs r)) : ∀ (k i : Nat) (n : Int), i + k = rows.length → 0 ≤ n → n ≤ 1048576 →
    ∃ q, DL (evL T E) (.loop (szL1 g sz)) ⟨[(5, .d (.i .i64 i)), (1, .d (.i .i64 n)), (0, .d (.sl rows))], []⟩ = some q ∧
      ((q.1 = .ex 0 ∧ ∃ m : Int, q.2 = ⟨[(1, .d (.i .i64 m))], []⟩ ∧ 0 ≤ m ∧ m + szRows (rows.drop i) = n) ∨ (q.1 = .ret ∧ q.2 = ⟨[(4, .d (.i .i64 (-1)))], []⟩)) := by
  intro k
  induction k with
  | zero =>
    intro i n h h0 hn
    rw [DL_loop]
    have hlt : ¬ ((i : Int) < (rows.length : Int)) := by omega
    simp only [szL1, entered, argRegs, DA.av, DL_r, DL_skip, DL_seq, DL_cond, condDL_b, DL_blk, DL_ex, DL_ret, DL_pre, DL_post, andThen_n, andThen_ex, andThen_ret, goN_eq, outOf_n, outOf_ret, outOf_ex, krun_nil, krun_cons, kstep, St.set, St.op, St.reg, klook, kput, kdel, killAll, Option.bind_some, Option.map_some, Option.bind_none, Option.map_none, Option.getD_some, ↓reduceIte, Nat.reduceEqDiff, Nat.reduceLT, List.length_map, binV, binI, binS, isSh, asInt', Option.bind_eq_bind, decide_eq_true_eq, St.new, St.unref, St.unlook, St.turn, St.gone, dropAll, AV.refs, AV.refsL, AV.looks, AV.looksL, AV.fr, AV.frL, List.filter_cons, List.filter_nil, Bool.not_false, Bool.not_true, cellsOf, cellOf, AV.cells, kcut, packed, viewOf, viewD, St.arg, St.one, allOf, List.map_cons, List.map_nil, RV.av, ite_bind', ite_map', List.getElem?_map, bind_map', BEq.rfl, List.getElem?_cons_zero, List.set_cons_zero, List.drop_zero, List.take_succ_cons, List.length_cons, List.length_nil, Nat.reduceAdd, Nat.reduceLeDiff, List.drop_succ_cons, List.take_zero, List.nil_append, List.append_nil, List.cons_append, and_self, Bool.false_eq_true, Nat.reduceBEq, and_true, true_and, ended, resV, rvOf, tupled, Bool.or_false, Bool.false_or, Bool.or_true, Bool.true_or, called, Bool.and_true, Bool.true_and, beq_self_eq_true, Int.toNat_natCast, Int.natCast_nonneg, skipped, AV.parts, fillO, chunks, List.replicate_succ, List.replicate_zero, List.flatten_cons, List.flatten_nil, Nat.reduceMul, Nat.zero_mul, Nat.mul_one, tailOf, appTo, AV.toOwn, AV.toD, D.scalar, List.all_cons, List.all_nil, rowF, Nat.zero_add, Nat.zero_le, List.getElem?_cons_succ, RV.avL, keepAll, keepOne, Bool.true_eq_false, hlt]
    refine ⟨_, rfl, .inl ⟨rfl, n, rfl, h0, ?_⟩⟩
    rw [List.drop_eq_nil_of_le (by omega)]; simp [szRows]
  | succ k ih =>
    intro i n h h0 hn
    rw [DL_loop]
    have hil : i < rows.length := by omega
    have hlt : ((i : Int) < (rows.length : Int)) := by omega
    have hi : rows[i]? = some rows[i] := List.getElem?_eq_getElem hil
    obtain ⟨hrl, hcall⟩ := hr rows[i] (List.getElem_mem hil)
    obtain ⟨m, hm, hm2⟩ := hcall n h0 hn
    have hk : rows[i].take sz = rows[i] := List.take_of_length_le (by omega)
    generalize DL (evL T E) (.loop (szL1 g sz)) = G at ih ⊢
    simp only [szL1, entered, argRegs, DA.av, DL_r, DL_skip, DL_seq, DL_cond, condDL_b, DL_blk, DL_ex, DL_ret, DL_pre, DL_post, andThen_n, andThen_ex, andThen_ret, goN_eq, outOf_n, outOf_ret, outOf_ex, krun_nil, krun_cons, kstep, St.set, St.op, St.reg, klook, kput, kdel, killAll, Option.bind_some, Option.map_some, Option.bind_none, Option.map_none, Option.getD_some, ↓reduceIte, Nat.reduceEqDiff, Nat.reduceLT, List.length_map, binV, binI, binS, isSh, asInt', Option.bind_eq_bind, decide_eq_true_eq, St.new, St.unref, St.unlook, St.turn, St.gone, dropAll, AV.refs, AV.refsL, AV.looks, AV.looksL, AV.fr, AV.frL, List.filter_cons, List.filter_nil, Bool.not_false, Bool.not_true, cellsOf, cellOf, AV.cells, kcut, packed, viewOf, viewD, St.arg, St.one, allOf, List.map_cons, List.map_nil, RV.av, ite_bind', ite_map', List.getElem?_map, bind_map', BEq.rfl, List.getElem?_cons_zero, List.set_cons_zero, List.drop_zero, List.take_succ_cons, List.length_cons, List.length_nil, Nat.reduceAdd, Nat.reduceLeDiff, List.drop_succ_cons, List.take_zero, List.nil_append, List.append_nil, List.cons_append, and_self, Bool.false_eq_true, Nat.reduceBEq, and_true, true_and, ended, resV, rvOf, tupled, Bool.or_false, Bool.false_or, Bool.or_true, Bool.true_or, called, Bool.and_true, Bool.true_and, beq_self_eq_true, Int.toNat_natCast, Int.natCast_nonneg, skipped, AV.parts, fillO, chunks, List.replicate_succ, List.replicate_zero, List.flatten_cons, List.flatten_nil, Nat.reduceMul, Nat.zero_mul, Nat.mul_one, tailOf, appTo, AV.toOwn, AV.toD, D.scalar, List.all_cons, List.all_nil, rowF, Nat.zero_add, Nat.zero_le, List.getElem?_cons_succ, RV.avL, keepAll, keepOne, Bool.true_eq_false, hlt, hi, hrl, hk, viewD_none, allOf_one_d, hm, wrap_succ hil hl, frL_rowD, Nat.le_refl]
    by_cases c : m < 0
    · simp only [c, if_true]; exact ⟨_, rfl, .inr ⟨rfl, rfl⟩⟩
    · simp only [c, if_false]
      rcases hm2 with e | ⟨e1, e2⟩
      · omega
      obtain ⟨q, hq, hq2⟩ := ih (i + 1) m (by omega) (by omega) (by omega)
      refine ⟨q, hq, ?_⟩
      rcases hq2 with ⟨q1, m', q2, q3, q4⟩ | q1
      · refine .inl ⟨q1, m', q2, q3, ?_⟩
        rw [szRows_drop hil]; omega
      · exact .inr q1
theorem szL3_ok (rows : List (List D)) (hl : rows.length ≤ 9223372036854775807) (hr : ∀ r ∈ rows, ∃ l : List UInt8, r = [.s l] ∧ l.length ≤ 9223372036854775807) : ∀ (k i : Nat) (n : Int), i + k = rows.length → 0 ≤ n → n ≤ 1048576 →
    ∃ q, DL (evL T E) (.loop szL3) ⟨[(5, .d (.i .i64 i)), (1, .d (.i .i64 n)), (0, .d (.sl rows))], []⟩ = some q ∧
      ((q.1 = .ex 0 ∧ ∃ m : Int, q.2 = ⟨[(1, .d (.i .i64 m))], []⟩ ∧ 0 ≤ m ∧ m + szRows (rows.drop i) = n) ∨ (q.1 = .ret ∧ q.2 = ⟨[(4, .d (.i .i64 (-1)))], []⟩)) := by
  intro k
  induction k with
  | zero =>
    intro i n h h0 hn
    rw [DL_loop]
    have hlt : ¬ ((i : Int) < (rows.length : Int)) := by omega
    simp only [szL3, entered, argRegs, DA.av, DL_r, DL_skip, DL_seq, DL_cond, condDL_b, DL_blk, DL_ex, DL_ret, DL_pre, DL_post, andThen_n, andThen_ex, andThen_ret, goN_eq, outOf_n, outOf_ret, outOf_ex, krun_nil, krun_cons, kstep, St.set, St.op, St.reg, klook, kput, kdel, killAll, Option.bind_some, Option.map_some, Option.bind_none, Option.map_none, Option.getD_some, ↓reduceIte, Nat.reduceEqDiff, Nat.reduceLT, List.length_map, binV, binI, binS, isSh, asInt', Option.bind_eq_bind, decide_eq_true_eq, St.new, St.unref, St.unlook, St.turn, St.gone, dropAll, AV.refs, AV.refsL, AV.looks, AV.looksL, AV.fr, AV.frL, List.filter_cons, List.filter_nil, Bool.not_false, Bool.not_true, cellsOf, cellOf, AV.cells, kcut, packed, viewOf, viewD, St.arg, St.one, allOf, List.map_cons, List.map_nil, RV.av, ite_bind', ite_map', List.getElem?_map, bind_map', BEq.rfl, List.getElem?_cons_zero, List.set_cons_zero, List.drop_zero, List.take_succ_cons, List.length_cons, List.length_nil, Nat.reduceAdd, Nat.reduceLeDiff, List.drop_succ_cons, List.take_zero, List.nil_append, List.append_nil, List.cons_append, and_self, Bool.false_eq_true, Nat.reduceBEq, and_true, true_and, ended, resV, rvOf, tupled, Bool.or_false, Bool.false_or, Bool.or_true, Bool.true_or, called, Bool.and_true, Bool.true_and, beq_self_eq_true, Int.toNat_natCast, Int.natCast_nonneg, skipped, AV.parts, fillO, chunks, List.replicate_succ, List.replicate_zero, List.flatten_cons, List.flatten_nil, Nat.reduceMul, Nat.zero_mul, Nat.mul_one, tailOf, appTo, AV.toOwn, AV.toD, D.scalar, List.all_cons, List.all_nil, rowF, Nat.zero_add, Nat.zero_le, List.getElem?_cons_succ, RV.avL, keepAll, keepOne, Bool.true_eq_false, hlt]
    refine ⟨_, rfl, .inl ⟨rfl, n, rfl, h0, ?_⟩⟩
    rw [List.drop_eq_nil_of_le (by omega)]; simp [szRows]
  | succ k ih =>
    intro i n h h0 hn
    rw [DL_loop]
    have hil : i < rows.length := by omega
    have hlt : ((i : Int) < (rows.length : Int)) := by omega
    obtain ⟨l, hd, hll⟩ := hr rows[i] (List.getElem_mem hil)
    have hi : rows[i]? = some [.s l] := by rw [List.getElem?_eq_getElem hil, hd]
    have hw : IntKind.i64.wrap (n - l.length) = n - l.length := wrap_id (by omega) (by omega)
    generalize DL (evL T E) (.loop szL3) = G at ih ⊢
    simp only [szL3, entered, argRegs, DA.av, DL_r, DL_skip, DL_seq, DL_cond, condDL_b, DL_blk, DL_ex, DL_ret, DL_pre, DL_post, andThen_n, andThen_ex, andThen_ret, goN_eq, outOf_n, outOf_ret, outOf_ex, krun_nil, krun_cons, kstep, St.set, St.op, St.reg, klook, kput, kdel, killAll, Option.bind_some, Option.map_some, Option.bind_none, Option.map_none, Option.getD_some, ↓reduceIte, Nat.reduceEqDiff, Nat.reduceLT, List.length_map, binV, binI, binS, isSh, asInt', Option.bind_eq_bind, decide_eq_true_eq, St.new, St.unref, St.unlook, St.turn, St.gone, dropAll, AV.refs, AV.refsL, AV.looks, AV.looksL, AV.fr, AV.frL, List.filter_cons, List.filter_nil, Bool.not_false, Bool.not_true, cellsOf, cellOf, AV.cells, kcut, packed, viewOf, viewD, St.arg, St.one, allOf, List.map_cons, List.map_nil, RV.av, ite_bind', ite_map', List.getElem?_map, bind_map', BEq.rfl, List.getElem?_cons_zero, List.set_cons_zero, List.drop_zero, List.take_succ_cons, List.length_cons, List.length_nil, Nat.reduceAdd, Nat.reduceLeDiff, List.drop_succ_cons, List.take_zero, List.nil_append, List.append_nil, List.cons_append, and_self, Bool.false_eq_true, Nat.reduceBEq, and_true, true_and, ended, resV, rvOf, tupled, Bool.or_false, Bool.false_or, Bool.or_true, Bool.true_or, called, Bool.and_true, Bool.true_and, beq_self_eq_true, Int.toNat_natCast, Int.natCast_nonneg, skipped, AV.parts, fillO, chunks, List.replicate_succ, List.replicate_zero, List.flatten_cons, List.flatten_nil, Nat.reduceMul, Nat.zero_mul, Nat.mul_one, tailOf, appTo, AV.toOwn, AV.toD, D.scalar, List.all_cons, List.all_nil, rowF, Nat.zero_add, Nat.zero_le, List.getElem?_cons_succ, RV.avL, keepAll, keepOne, Bool.true_eq_false, hlt, hi, wrap_succ hil hl, hw]
    by_cases c : n - (l.length : Int) < 0
    · simp only [c, if_true]; exact ⟨_, rfl, .inr ⟨rfl, rfl⟩⟩
    · simp only [c, if_false]
      obtain ⟨q, hq, hq2⟩ := ih (i + 1) (n - l.length) (by omega) (by omega) (by omega)
      refine ⟨q, hq, ?_⟩
      rcases hq2 with ⟨q1, m', q2, q3, q4⟩ | q1
      · refine .inl ⟨q1, m', q2, q3, ?_⟩
        rw [szRows_drop hil, hd]; simp only [szDs, szD]; omega
      · exact .inr q1
theorem szF_ok {n a : Nat} {lp : C} (ha : a = 26 ∨ a = 27) (hf : T n = some (szF lp a)) (rows : List (List D)) (hl : rows.length ≤ 9223372036854775807)
    (hlp : ∀ (n : Int), 0 ≤ n → n ≤ 1048576 → ∃ q, DL (evL T E) (.loop lp) ⟨[(5, .d (.i .i64 0)), (1, .d (.i .i64 n)), (0, .d (.sl rows))], []⟩ = some q ∧
      ((q.1 = .ex 0 ∧ ∃ m : Int, q.2 = ⟨[(1, .d (.i .i64 m))], []⟩ ∧ 0 ≤ m ∧ m + szRows rows = n) ∨ (q.1 = .ret ∧ q.2 = ⟨[(4, .d (.i .i64 (-1)))], []⟩)))
    (m : Int) (h0 : 0 ≤ m) (hm : m ≤ 1048576) : ∃ r : Int, evL T E n [.one (.sl rows), .one (.i .i64 m)] = some (false, .one (.i .i64 r)) ∧ Sized r m (szD (.sl rows)) := by
  rw [evL_eq T E hf]
  have hw : IntKind.i64.wrap (m - rows.length) = m - rows.length := wrap_id (by omega) (by omega)
  by_cases c : m - (rows.length : Int) < 0
  · simp only [szF, entered, argRegs, DA.av, DL_r, DL_skip, DL_seq, DL_cond, condDL_b, DL_blk, DL_ex, DL_ret, DL_pre, DL_post, andThen_n, andThen_ex, andThen_ret, goN_eq, outOf_n, outOf_ret, outOf_ex, krun_nil, krun_cons, kstep, St.set, St.op, St.reg, klook, kput, kdel, killAll, Option.bind_some, Option.map_some, Option.bind_none, Option.map_none, Option.getD_some, ↓reduceIte, Nat.reduceEqDiff, Nat.reduceLT, List.length_map, binV, binI, binS, isSh, asInt', Option.bind_eq_bind, decide_eq_true_eq, St.new, St.unref, St.unlook, St.turn, St.gone, dropAll, AV.refs, AV.refsL, AV.looks, AV.looksL, AV.fr, AV.frL, List.filter_cons, List.filter_nil, Bool.not_false, Bool.not_true, cellsOf, cellOf, AV.cells, kcut, packed, viewOf, viewD, St.arg, St.one, allOf, List.map_cons, List.map_nil, RV.av, ite_bind', ite_map', List.getElem?_map, bind_map', BEq.rfl, List.getElem?_cons_zero, List.set_cons_zero, List.drop_zero, List.take_succ_cons, List.length_cons, List.length_nil, Nat.reduceAdd, Nat.reduceLeDiff, List.drop_succ_cons, List.take_zero, List.nil_append, List.append_nil, List.cons_append, and_self, Bool.false_eq_true, Nat.reduceBEq, and_true, true_and, ended, resV, rvOf, tupled, Bool.or_false, Bool.false_or, Bool.or_true, Bool.true_or, called, Bool.and_true, Bool.true_and, beq_self_eq_true, Int.toNat_natCast, Int.natCast_nonneg, skipped, AV.parts, fillO, chunks, List.replicate_succ, List.replicate_zero, List.flatten_cons, List.flatten_nil, Nat.reduceMul, Nat.zero_mul, Nat.mul_one, tailOf, appTo, AV.toOwn, AV.toD, D.scalar, List.all_cons, List.all_nil, rowF, Nat.zero_add, Nat.zero_le, List.getElem?_cons_succ, RV.avL, keepAll, keepOne, Bool.true_eq_false, hw, c, if_true]; exact ⟨_, rfl, .inl rfl⟩
  · obtain ⟨⟨e, σ⟩, hq, hq2⟩ := hlp (m - rows.length) (by omega) (by omega)
    rcases ha with rfl | rfl <;> rcases hq2 with ⟨q1, m', q2, q3, q4⟩ | ⟨q1, q2⟩ <;> dsimp only at q1 q2 <;> subst q1 q2 <;> simp only [szF, entered, argRegs, DA.av, DL_r, DL_skip, DL_seq, DL_cond, condDL_b, DL_blk, DL_ex, DL_ret, DL_pre, DL_post, andThen_n, andThen_ex, andThen_ret, goN_eq, outOf_n, outOf_ret, outOf_ex, krun_nil, krun_cons, kstep, St.set, St.op, St.reg, klook, kput, kdel, killAll, Option.bind_some, Option.map_some, Option.bind_none, Option.map_none, Option.getD_some, ↓reduceIte, Nat.reduceEqDiff, Nat.reduceLT, List.length_map, binV, binI, binS, isSh, asInt', Option.bind_eq_bind, decide_eq_true_eq, St.new, St.unref, St.unlook, St.turn, St.gone, dropAll, AV.refs, AV.refsL, AV.looks, AV.looksL, AV.fr, AV.frL, List.filter_cons, List.filter_nil, Bool.not_false, Bool.not_true, cellsOf, cellOf, AV.cells, kcut, packed, viewOf, viewD, St.arg, St.one, allOf, List.map_cons, List.map_nil, RV.av, ite_bind', ite_map', List.getElem?_map, bind_map', BEq.rfl, List.getElem?_cons_zero, List.set_cons_zero, List.drop_zero, List.take_succ_cons, List.length_cons, List.length_nil, Nat.reduceAdd, Nat.reduceLeDiff, List.drop_succ_cons, List.take_zero, List.nil_append, List.append_nil, List.cons_append, and_self, Bool.false_eq_true, Nat.reduceBEq, and_true, true_and, ended, resV, rvOf, tupled, Bool.or_false, Bool.false_or, Bool.or_true, Bool.true_or, called, Bool.and_true, Bool.true_and, beq_self_eq_true, Int.toNat_natCast, Int.natCast_nonneg, skipped, AV.parts, fillO, chunks, List.replicate_succ, List.replicate_zero, List.flatten_cons, List.flatten_nil, Nat.reduceMul, Nat.zero_mul, Nat.mul_one, tailOf, appTo, AV.toOwn, AV.toD, D.scalar, List.all_cons, List.all_nil, rowF, Nat.zero_add, Nat.zero_le, List.getElem?_cons_succ, RV.avL, keepAll, keepOne, Bool.true_eq_false, hw, c, if_false, hq] <;>
      first
        | exact ⟨_, rfl, .inl rfl⟩
        | exact ⟨_, rfl, .inr ⟨q3, by simp only [szD]; omega⟩⟩
theorem szF1_ok {n g sz : Nat} (hf : T n = some (szF1 g sz)) (rows : List (List D)) (hl : rows.length ≤ 9223372036854775807) (hr : ∀ r ∈ rows, r.length = sz ∧ ∀ n : Int, 0 ≤ n → n ≤ 1048576 → ∃ m : Int, evL T E g [.agg r, .one (.i .i64 n)] = some (false, .one (.i .i64 m)) ∧ Sized m n (szDs r))
    (m : Int) (h0 : 0 ≤ m) (hm : m ≤ 1048576) : ∃ r : Int, evL T E n [.one (.sl rows), .one (.i .i64 m)] = some (false, .one (.i .i64 r)) ∧ Sized r m (szD (.sl rows)) :=
  szF_ok (.inl rfl) hf rows hl (fun n h0 hn => by simpa using szL1_ok (g := g) (sz := sz) rows hl hr rows.length 0 n (by omega) h0 hn) m h0 hm
theorem szF3_ok {n : Nat} (hf : T n = some szF3) (rows : List (List D)) (hl : rows.length ≤ 9223372036854775807) (hr : ∀ r ∈ rows, ∃ l : List UInt8, r = [.s l] ∧ l.length ≤ 9223372036854775807)
    (m : Int) (h0 : 0 ≤ m) (hm : m ≤ 1048576) : ∃ r : Int, evL T E n [.one (.sl rows), .one (.i .i64 m)] = some (false, .one (.i .i64 r)) ∧ Sized r m (szD (.sl rows)) :=
  szF_ok (.inr rfl) hf rows hl (fun n h0 hn => by simpa using szL3_ok rows hl hr rows.length 0 n (by omega) h0 hn) m h0 hm

/-! ### Comparisons of a thing with itself -/
def eqL1 (g sz : Nat) : C := .post
  (.seq (.seq (.post (.r [.mv 11 (.t 5),
      .mv 12 (.t 0),
      .len 13 (.t 12),
      .bin 14 .lss .num (.t 11) (.t 13)]) [.kill [11, 12, 13]])
    (.cond (.t 14)
      (.pre [.kill [14]] (.skip))
      (.pre [.keep []] (.ex 0))))
    (.seq (.blk 1 (.seq (.post (.r [.mv 17 (.t 0),
      .mv 18 (.t 5),
      .ia 19 sz (.t 17) (.t 18),
      .ld 20 sz true (.t 19),
      .mv 21 (.t 1),
      .mv 22 (.t 5),
      .ia 23 sz (.t 21) (.t 22),
      .ld 24 sz true (.t 23),
      .call 25 false (.c (.clo g [])) [(.t 20), (.t 24)],
      .not 26 (.t 25)]) [.keep [26, 5, 1, 0]])
    (.cond (.t 26)
      (.pre [.keep []] (.seq (.r [.mv 4 (.c (.d (.b false)))])
      (.ret)))
      (.pre [.kill [26]] (.skip)))))
    (.post (.r [.mv 15 (.t 5),
      .bin 16 .add .num (.t 15) (.c (.d (.i .i64 1))),
      .mv 5 (.t 16)]) [.kill [15, 16]])))
  [.keep [5, 1, 0]]
def eqL3 : C := .post
  (.seq (.seq (.post (.r [.mv 11 (.t 5),
      .mv 12 (.t 0),
      .len 13 (.t 12),
      .bin 14 .lss .num (.t 11) (.t 13)]) [.kill [11, 12, 13]])
    (.cond (.t 14)
      (.pre [.kill [14]] (.skip))
      (.pre [.keep []] (.ex 0))))
    (.seq (.blk 1 (.seq (.post (.r [.mv 17 (.t 0),
      .mv 18 (.t 5),
      .ia 19 1 (.t 17) (.t 18),
      .ld 20 1 false (.t 19),
      .mv 21 (.t 1),
      .mv 22 (.t 5),
      .ia 23 1 (.t 21) (.t 22),
      .ld 24 1 false (.t 23),
      .bin 25 .neq .num (.t 20) (.t 24)]) [.keep [25, 5, 1, 0]])
    (.cond (.t 25)
      (.pre [.keep []] (.seq (.r [.mv 4 (.c (.d (.b false)))])
      (.ret)))
      (.pre [.kill [25]] (.skip)))))
    (.post (.r [.mv 15 (.t 5),
      .bin 16 .add .num (.t 15) (.c (.d (.i .i64 1))),
      .mv 5 (.t 16)]) [.kill [15, 16]])))
  [.keep [5, 1, 0]]
def eqF (lp : C) : Fn := ⟨2, [.t 4], false,
  .seq (.post (.r [.mv 4 (.c (.d (.b false)))]) [.kill [4]])
  (.seq (.seq (.post (.r [.mv 6 (.t 0),
    .len 7 (.t 6),
    .mv 8 (.t 1),
    .len 9 (.t 8),
    .bin 10 .neq .num (.t 7) (.t 9)]) [.keep [10, 1, 0]])
  (.cond (.t 10)
    (.pre [.keep []] (.seq (.r [.mv 4 (.c (.d (.b false)))])
    (.ret)))
    (.pre [.kill [10]] (.skip))))
  (.seq (.seq (.r [.mv 5 (.c (.d (.i .i64 0)))])
  (.blk 0 (.pre [.keep [5, 1, 0]] (.loop lp))))
  (.seq (.r [.mv 4 (.c (.d (.b true)))])
  (.ret))))⟩
def eqF1 (g sz : Nat) : Fn := eqF (eqL1 g sz)
def eqF3 : Fn := eqF eqL3
theorem eqL1_ok {g sz : Nat} (rows : List (List D)) (hl : rows.length ≤ 9223372036854775807) (hr : ∀ r ∈ rows, r.length = sz ∧ evL T E g [.agg r, .agg r] = some (false, .one (.b true))) : ∀ (k i : Nat), i + k = rows.length →
    DL (evL T E) (.loop (eqL1 g sz)) ⟨[(5, .d (.i .i64 i)), (1, .d (.sl rows)), (0, .d (.sl rows))], []⟩ = some (.ex 0, ⟨[], []⟩) := by
  intro k
  induction k with
  | zero =>
    intro i h
    rw [DL_loop]
    have hlt : ¬ ((i : Int) < (rows.length : Int)) := by omega
    simp only [eqL1, entered, argRegs, DA.av, DL_r, DL_skip, DL_seq, DL_cond, condDL_b, DL_blk, DL_ex, DL_ret, DL_pre, DL_post, andThen_n, andThen_ex, andThen_ret, goN_eq, outOf_n, outOf_ret, outOf_ex, krun_nil, krun_cons, kstep, St.set, St.op, St.reg, klook, kput, kdel, killAll, Option.bind_some, Option.map_some, Option.bind_none, Option.map_none, Option.getD_some, ↓reduceIte, Nat.reduceEqDiff, Nat.reduceLT, List.length_map, binV, binI, binS, isSh, asInt', Option.bind_eq_bind, decide_eq_true_eq, St.new, St.unref, St.unlook, St.turn, St.gone, dropAll, AV.refs, AV.refsL, AV.looks, AV.looksL, AV.fr, AV.frL, List.filter_cons, List.filter_nil, Bool.not_false, Bool.not_true, cellsOf, cellOf, AV.cells, kcut, packed, viewOf, viewD, St.arg, St.one, allOf, List.map_cons, List.map_nil, RV.av, ite_bind', ite_map', List.getElem?_map, bind_map', BEq.rfl, List.getElem?_cons_zero, List.set_cons_zero, List.drop_zero, List.take_succ_cons, List.length_cons, List.length_nil, Nat.reduceAdd, Nat.reduceLeDiff, List.drop_succ_cons, List.take_zero, List.nil_append, List.append_nil, List.cons_append, and_self, Bool.false_eq_true, Nat.reduceBEq, and_true, true_and, ended, resV, rvOf, tupled, Bool.or_false, Bool.false_or, Bool.or_true, Bool.true_or, called, Bool.and_true, Bool.true_and, beq_self_eq_true, Int.toNat_natCast, Int.natCast_nonneg, skipped, AV.parts, fillO, chunks, List.replicate_succ, List.replicate_zero, List.flatten_cons, List.flatten_nil, Nat.reduceMul, Nat.zero_mul, Nat.mul_one, tailOf, appTo, AV.toOwn, AV.toD, D.scalar, List.all_cons, List.all_nil, rowF, Nat.zero_add, Nat.zero_le, List.getElem?_cons_succ, RV.avL, keepAll, keepOne, Bool.true_eq_false, hlt]
  | succ k ih =>
    intro i h
    rw [DL_loop]
    have hil : i < rows.length := by omega
    have hlt : ((i : Int) < (rows.length : Int)) := by omega
    have hi : rows[i]? = some rows[i] := List.getElem?_eq_getElem hil
    obtain ⟨hrl, hcall⟩ := hr rows[i] (List.getElem_mem hil)
    have hk : rows[i].take sz = rows[i] := List.take_of_length_le (by omega)
    have e := ih (i + 1) (by omega)
    generalize DL (evL T E) (.loop (eqL1 g sz)) = G at ih e ⊢
    simp only [eqL1, entered, argRegs, DA.av, DL_r, DL_skip, DL_seq, DL_cond, condDL_b, DL_blk, DL_ex, DL_ret, DL_pre, DL_post, andThen_n, andThen_ex, andThen_ret, goN_eq, outOf_n, outOf_ret, outOf_ex, krun_nil, krun_cons, kstep, St.set, St.op, St.reg, klook, kput, kdel, killAll, Option.bind_some, Option.map_some, Option.bind_none, Option.map_none, Option.getD_some, ↓reduceIte, Nat.reduceEqDiff, Nat.reduceLT, List.length_map, binV, binI, binS, isSh, asInt', Option.bind_eq_bind, decide_eq_true_eq, St.new, St.unref, St.unlook, St.turn, St.gone, dropAll, AV.refs, AV.refsL, AV.looks, AV.looksL, AV.fr, AV.frL, List.filter_cons, List.filter_nil, Bool.not_false, Bool.not_true, cellsOf, cellOf, AV.cells, kcut, packed, viewOf, viewD, St.arg, St.one, allOf, List.map_cons, List.map_nil, RV.av, ite_bind', ite_map', List.getElem?_map, bind_map', BEq.rfl, List.getElem?_cons_zero, List.set_cons_zero, List.drop_zero, List.take_succ_cons, List.length_cons, List.length_nil, Nat.reduceAdd, Nat.reduceLeDiff, List.drop_succ_cons, List.take_zero, List.nil_append, List.append_nil, List.cons_append, and_self, Bool.false_eq_true, Nat.reduceBEq, and_true, true_and, ended, resV, rvOf, tupled, Bool.or_false, Bool.false_or, Bool.or_true, Bool.true_or, called, Bool.and_true, Bool.true_and, beq_self_eq_true, Int.toNat_natCast, Int.natCast_nonneg, skipped, AV.parts, fillO, chunks, List.replicate_succ, List.replicate_zero, List.flatten_cons, List.flatten_nil, Nat.reduceMul, Nat.zero_mul, Nat.mul_one, tailOf, appTo, AV.toOwn, AV.toD, D.scalar, List.all_cons, List.all_nil, rowF, Nat.zero_add, Nat.zero_le, List.getElem?_cons_succ, RV.avL, keepAll, keepOne, Bool.true_eq_false, hlt, hi, hrl, hk, viewD_none, allOf_one_d, hcall, wrap_succ hil hl, frL_rowD, Nat.le_refl]
    exact e
theorem eqL3_ok (rows : List (List D)) (hl : rows.length ≤ 9223372036854775807) (hr : ∀ r ∈ rows, (∃ l : List UInt8, r = [.s l]) ∨ ∃ (k : IntKind) (n : Int), r = [.i k n]) : ∀ (k i : Nat), i + k = rows.length →
    DL (evL T E) (.loop eqL3) ⟨[(5, .d (.i .i64 i)), (1, .d (.sl rows)), (0, .d (.sl rows))], []⟩ = some (.ex 0, ⟨[], []⟩) := by
  intro k
  induction k with
  | zero =>
    intro i h
    rw [DL_loop]
    have hlt : ¬ ((i : Int) < (rows.length : Int)) := by omega
    simp only [eqL3, entered, argRegs, DA.av, DL_r, DL_skip, DL_seq, DL_cond, condDL_b, DL_blk, DL_ex, DL_ret, DL_pre, DL_post, andThen_n, andThen_ex, andThen_ret, goN_eq, outOf_n, outOf_ret, outOf_ex, krun_nil, krun_cons, kstep, St.set, St.op, St.reg, klook, kput, kdel, killAll, Option.bind_some, Option.map_some, Option.bind_none, Option.map_none, Option.getD_some, ↓reduceIte, Nat.reduceEqDiff, Nat.reduceLT, List.length_map, binV, binI, binS, isSh, asInt', Option.bind_eq_bind, decide_eq_true_eq, St.new, St.unref, St.unlook, St.turn, St.gone, dropAll, AV.refs, AV.refsL, AV.looks, AV.looksL, AV.fr, AV.frL, List.filter_cons, List.filter_nil, Bool.not_false, Bool.not_true, cellsOf, cellOf, AV.cells, kcut, packed, viewOf, viewD, St.arg, St.one, allOf, List.map_cons, List.map_nil, RV.av, ite_bind', ite_map', List.getElem?_map, bind_map', BEq.rfl, List.getElem?_cons_zero, List.set_cons_zero, List.drop_zero, List.take_succ_cons, List.length_cons, List.length_nil, Nat.reduceAdd, Nat.reduceLeDiff, List.drop_succ_cons, List.take_zero, List.nil_append, List.append_nil, List.cons_append, and_self, Bool.false_eq_true, Nat.reduceBEq, and_true, true_and, ended, resV, rvOf, tupled, Bool.or_false, Bool.false_or, Bool.or_true, Bool.true_or, called, Bool.and_true, Bool.true_and, beq_self_eq_true, Int.toNat_natCast, Int.natCast_nonneg, skipped, AV.parts, fillO, chunks, List.replicate_succ, List.replicate_zero, List.flatten_cons, List.flatten_nil, Nat.reduceMul, Nat.zero_mul, Nat.mul_one, tailOf, appTo, AV.toOwn, AV.toD, D.scalar, List.all_cons, List.all_nil, rowF, Nat.zero_add, Nat.zero_le, List.getElem?_cons_succ, RV.avL, keepAll, keepOne, Bool.true_eq_false, hlt]
  | succ k ih =>
    intro i h
    rw [DL_loop]
    have hil : i < rows.length := by omega
    have hlt : ((i : Int) < (rows.length : Int)) := by omega
    have hi0 : rows[i]? = some rows[i] := List.getElem?_eq_getElem hil
    have e := ih (i + 1) (by omega)
    generalize DL (evL T E) (.loop eqL3) = G at ih e ⊢
    rcases hr rows[i] (List.getElem_mem hil) with ⟨l, hd⟩ | ⟨q, m, hd⟩
    · have hi : rows[i]? = some [.s l] := by rw [hi0, hd]
      simp only [eqL3, entered, argRegs, DA.av, DL_r, DL_skip, DL_seq, DL_cond, condDL_b, DL_blk, DL_ex, DL_ret, DL_pre, DL_post, andThen_n, andThen_ex, andThen_ret, goN_eq, outOf_n, outOf_ret, outOf_ex, krun_nil, krun_cons, kstep, St.set, St.op, St.reg, klook, kput, kdel, killAll, Option.bind_some, Option.map_some, Option.bind_none, Option.map_none, Option.getD_some, ↓reduceIte, Nat.reduceEqDiff, Nat.reduceLT, List.length_map, binV, binI, binS, isSh, asInt', Option.bind_eq_bind, decide_eq_true_eq, St.new, St.unref, St.unlook, St.turn, St.gone, dropAll, AV.refs, AV.refsL, AV.looks, AV.looksL, AV.fr, AV.frL, List.filter_cons, List.filter_nil, Bool.not_false, Bool.not_true, cellsOf, cellOf, AV.cells, kcut, packed, viewOf, viewD, St.arg, St.one, allOf, List.map_cons, List.map_nil, RV.av, ite_bind', ite_map', List.getElem?_map, bind_map', BEq.rfl, List.getElem?_cons_zero, List.set_cons_zero, List.drop_zero, List.take_succ_cons, List.length_cons, List.length_nil, Nat.reduceAdd, Nat.reduceLeDiff, List.drop_succ_cons, List.take_zero, List.nil_append, List.append_nil, List.cons_append, and_self, Bool.false_eq_true, Nat.reduceBEq, and_true, true_and, ended, resV, rvOf, tupled, Bool.or_false, Bool.false_or, Bool.or_true, Bool.true_or, called, Bool.and_true, Bool.true_and, beq_self_eq_true, Int.toNat_natCast, Int.natCast_nonneg, skipped, AV.parts, fillO, chunks, List.replicate_succ, List.replicate_zero, List.flatten_cons, List.flatten_nil, Nat.reduceMul, Nat.zero_mul, Nat.mul_one, tailOf, appTo, AV.toOwn, AV.toD, D.scalar, List.all_cons, List.all_nil, rowF, Nat.zero_add, Nat.zero_le, List.getElem?_cons_succ, RV.avL, keepAll, keepOne, Bool.true_eq_false, hlt, hi, wrap_succ hil hl, ne_eq, not_true, decide_false, decide_true]
      exact e
    · have hi : rows[i]? = some [.i q m] := by rw [hi0, hd]
      simp only [eqL3, entered, argRegs, DA.av, DL_r, DL_skip, DL_seq, DL_cond, condDL_b, DL_blk, DL_ex, DL_ret, DL_pre, DL_post, andThen_n, andThen_ex, andThen_ret, goN_eq, outOf_n, outOf_ret, outOf_ex, krun_nil, krun_cons, kstep, St.set, St.op, St.reg, klook, kput, kdel, killAll, Option.bind_some, Option.map_some, Option.bind_none, Option.map_none, Option.getD_some, ↓reduceIte, Nat.reduceEqDiff, Nat.reduceLT, List.length_map, binV, binI, binS, isSh, asInt', Option.bind_eq_bind, decide_eq_true_eq, St.new, St.unref, St.unlook, St.turn, St.gone, dropAll, AV.refs, AV.refsL, AV.looks, AV.looksL, AV.fr, AV.frL, List.filter_cons, List.filter_nil, Bool.not_false, Bool.not_true, cellsOf, cellOf, AV.cells, kcut, packed, viewOf, viewD, St.arg, St.one, allOf, List.map_cons, List.map_nil, RV.av, ite_bind', ite_map', List.getElem?_map, bind_map', BEq.rfl, List.getElem?_cons_zero, List.set_cons_zero, List.drop_zero, List.take_succ_cons, List.length_cons, List.length_nil, Nat.reduceAdd, Nat.reduceLeDiff, List.drop_succ_cons, List.take_zero, List.nil_append, List.append_nil, List.cons_append, and_self, Bool.false_eq_true, Nat.reduceBEq, and_true, true_and, ended, resV, rvOf, tupled, Bool.or_false, Bool.false_or, Bool.or_true, Bool.true_or, called, Bool.and_true, Bool.true_and, beq_self_eq_true, Int.toNat_natCast, Int.natCast_nonneg, skipped, AV.parts, fillO, chunks, List.replicate_succ, List.replicate_zero, List.flatten_cons, List.flatten_nil, Nat.reduceMul, Nat.zero_mul, Nat.mul_one, tailOf, appTo, AV.toOwn, AV.toD, D.scalar, List.all_cons, List.all_nil, rowF, Nat.zero_add, Nat.zero_le, List.getElem?_cons_succ, RV.avL, keepAll, keepOne, Bool.true_eq_false, hlt, hi, wrap_succ hil hl, ne_eq, not_true, decide_false, decide_true]
      exact e
theorem eqF_ok {n : Nat} {lp : C} (hf : T n = some (eqF lp)) (rows : List (List D))
    (h : DL (evL T E) (.loop lp) ⟨[(5, .d (.i .i64 0)), (1, .d (.sl rows)), (0, .d (.sl rows))], []⟩ = some (.ex 0, ⟨[], []⟩)) :
    evL T E n [.one (.sl rows), .one (.sl rows)] = some (false, .one (.b true)) := by
  rw [evL_eq T E hf]
  simp only [eqF, entered, argRegs, DA.av, DL_r, DL_skip, DL_seq, DL_cond, condDL_b, DL_blk, DL_ex, DL_ret, DL_pre, DL_post, andThen_n, andThen_ex, andThen_ret, goN_eq, outOf_n, outOf_ret, outOf_ex, krun_nil, krun_cons, kstep, St.set, St.op, St.reg, klook, kput, kdel, killAll, Option.bind_some, Option.map_some, Option.bind_none, Option.map_none, Option.getD_some, ↓reduceIte, Nat.reduceEqDiff, Nat.reduceLT, List.length_map, binV, binI, binS, isSh, asInt', Option.bind_eq_bind, decide_eq_true_eq, St.new, St.unref, St.unlook, St.turn, St.gone, dropAll, AV.refs, AV.refsL, AV.looks, AV.looksL, AV.fr, AV.frL, List.filter_cons, List.filter_nil, Bool.not_false, Bool.not_true, cellsOf, cellOf, AV.cells, kcut, packed, viewOf, viewD, St.arg, St.one, allOf, List.map_cons, List.map_nil, RV.av, ite_bind', ite_map', List.getElem?_map, bind_map', BEq.rfl, List.getElem?_cons_zero, List.set_cons_zero, List.drop_zero, List.take_succ_cons, List.length_cons, List.length_nil, Nat.reduceAdd, Nat.reduceLeDiff, List.drop_succ_cons, List.take_zero, List.nil_append, List.append_nil, List.cons_append, and_self, Bool.false_eq_true, Nat.reduceBEq, and_true, true_and, ended, resV, rvOf, tupled, Bool.or_false, Bool.false_or, Bool.or_true, Bool.true_or, called, Bool.and_true, Bool.true_and, beq_self_eq_true, Int.toNat_natCast, Int.natCast_nonneg, skipped, AV.parts, fillO, chunks, List.replicate_succ, List.replicate_zero, List.flatten_cons, List.flatten_nil, Nat.reduceMul, Nat.zero_mul, Nat.mul_one, tailOf, appTo, AV.toOwn, AV.toD, D.scalar, List.all_cons, List.all_nil, rowF, Nat.zero_add, Nat.zero_le, List.getElem?_cons_succ, RV.avL, keepAll, keepOne, Bool.true_eq_false, h, ne_eq, not_true, decide_false, decide_true]
theorem eqF1_ok {n g sz : Nat} (hf : T n = some (eqF1 g sz)) (rows : List (List D)) (hl : rows.length ≤ 9223372036854775807) (hr : ∀ r ∈ rows, r.length = sz ∧ evL T E g [.agg r, .agg r] = some (false, .one (.b true))) :
    evL T E n [.one (.sl rows), .one (.sl rows)] = some (false, .one (.b true)) :=
  eqF_ok hf rows (by simpa using eqL1_ok (g := g) (sz := sz) rows hl hr rows.length 0 (by omega))
theorem eqF3_ok {n : Nat} (hf : T n = some eqF3) (rows : List (List D)) (hl : rows.length ≤ 9223372036854775807) (hr : ∀ r ∈ rows, (∃ l : List UInt8, r = [.s l]) ∨ ∃ (k : IntKind) (n : Int), r = [.i k n]) :
    evL T E n [.one (.sl rows), .one (.sl rows)] = some (false, .one (.b true)) :=
  eqF_ok hf rows (by simpa using eqL3_ok rows hl hr rows.length 0 (by omega))
end
end Go.Proofs.YtmccpbabpnffcaaK
