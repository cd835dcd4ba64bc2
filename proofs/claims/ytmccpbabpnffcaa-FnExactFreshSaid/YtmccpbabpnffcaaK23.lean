/- From a row's arguments, read as data, to what a function is handed; and back from its answer to the row. -/
import Derived.Test.YtmccpbabpnffcaaK22
import Derived.ProofKit
set_option linter.unusedVariables false
set_option linter.unusedSimpArgs false
namespace Go.Proofs.YtmccpbabpnffcaaK
open Go.ChangeShapes Go.WideShapes Go.ChangeAt Go.RowKit

/-- What a cell's type says. -/
inductive CT where
  | i (k : IntKind)
  | b
  | s
  | sl (es : List CT)

mutual
def hasT : CT → D → Prop
  | .i k, .i k' n => k = k' ∧ (Lit.int k n).wf = true
  | .b, .b _ => True
  | .s, .s l => l.length ≤ maxLen
  | .sl es, .sl rows => rows.length ≤ maxLen ∧ ∀ r ∈ rows, hasTs es r
  | _, _ => False
def hasTs : List CT → List D → Prop
  | [], [] => True
  | c :: cs, d :: ds => hasT c d ∧ hasTs cs ds
  | _, _ => False
end
theorem hasTs_len : ∀ {cs : List CT} {ds : List D}, hasTs cs ds → ds.length = cs.length
  | [], [], _ => rfl
  | [], _ :: _, h => by simp only [hasTs] at h
  | _ :: _, [], h => by simp only [hasTs] at h
  | c :: cs, d :: ds, h => by simp only [hasTs] at h; simp [hasTs_len h.2]
theorem hasTs_append : ∀ {cs cs' : List CT} {ds ds' : List D}, hasTs cs ds → hasTs cs' ds' → hasTs (cs ++ cs') (ds ++ ds')
  | [], _, [], _, _, h => h
  | [], _, _ :: _, _, h, _ => by simp only [hasTs] at h
  | _ :: _, _, [], _, h, _ => by simp only [hasTs] at h
  | c :: cs, _, d :: ds, _, h, h' => by
    simp only [hasTs] at h
    simp only [List.cons_append, hasTs]
    exact ⟨h.1, hasTs_append h.2 h'⟩

mutual
/-- The cells of a type. -/
def okT (P : Program) : Nat → TypeId → List CT → Bool
  | 0, _, _ => false
  | k + 1, t, cts => match P.underlying t with
    | some .bool => (match cts with | [.b] => true | _ => false)
    | some (.int q) => (match cts with | [.i q'] => q == q' | _ => false)
    | some .string => (match cts with | [.s] => true | _ => false)
    | some (.slice e) => (match cts with | [.sl es] => P.cellsOf e == es.length && !es.isEmpty && okT P k e es | _ => false)
    | some (.struct fs) => P.cellsOf t == cts.length && okFs P k 0 fs.toList cts
    | _ => false
def okFs (P : Program) : Nat → Nat → List Field → List CT → Bool
  | 0, _, _, _ => false
  | _ + 1, _, [], cts => cts.isEmpty
  | k + 1, off, f :: fs, cts => f.offset == off && decide (P.cellsOf f.type ≤ cts.length) && okT P k f.type (cts.take (P.cellsOf f.type)) && okFs P k (off + P.cellsOf f.type) fs (cts.drop (P.cellsOf f.type))
end

theorem list_of {α : Type} {Q : Nat → α → Prop} : ∀ (n : Nat), (∀ i, i < n → ∃ x, Q i x) → ∃ l : List α, l.length = n ∧ ∀ (i : Nat) (x : α), l[i]? = some x → Q i x
  | 0, _ => ⟨[], rfl, fun i x h => by simp at h⟩
  | n + 1, h => by
    obtain ⟨l, h1, h2⟩ := list_of n (fun i hi => h i (by omega))
    obtain ⟨x, hx⟩ := h n (by omega)
    refine ⟨l ++ [x], by simp [h1], fun i y hy => ?_⟩
    rcases Nat.lt_or_ge i n with q | q
    · rw [List.getElem?_append_left (by omega)] at hy; exact h2 i y hy
    · rw [List.getElem?_append_right (by omega), h1] at hy
      have : i - n = 0 := by
        have := (List.getElem?_eq_some_iff.1 hy).1
        simp at this; omega
      rw [this] at hy
      have e : x = y := by simpa using hy
      have e2 : i = n := by omega
      subst e e2; exact hx

section
variable {H : Type} {enc : TypeId × Value → H} {P : Program} {w : World} {base : Nat} {spare : Nat → Bool} {held : Bool}

/-- Cells that read as these data. -/
def RdL (w : World) (cs : List Value) (ds : List D) : Prop := ds.length = cs.length ∧ ∀ (j : Nat) (v : Value) (x : D), cs[j]? = some v → ds[j]? = some x → Rd w (Old w) v x
theorem RdL.one {v : Value} {x : D} (h : Rd w (Old w) v x) : RdL w [v] [x] := ⟨rfl, fun j v' x' h1 h2 => by
  cases j with
  | zero => simp at h1 h2; subst h1 h2; exact h
  | succ j => simp at h1⟩
theorem RdL.append {cs cs' : List Value} {ds ds' : List D} (h : RdL w cs ds) (h' : RdL w cs' ds') : RdL w (cs ++ cs') (ds ++ ds') := by
  refine ⟨by simp [h.1, h'.1], fun j v x h1 h2 => ?_⟩
  rcases Nat.lt_or_ge j cs.length with q | q
  · rw [List.getElem?_append_left q] at h1
    rw [List.getElem?_append_left (by have := h.1; omega)] at h2
    exact h.2 j v x h1 h2
  · rw [List.getElem?_append_right q] at h1
    rw [List.getElem?_append_right (by have := h.1; omega), h.1] at h2
    exact h'.2 _ v x h1 h2
theorem RdL.regs {cs : List Value} {ds : List D} (h : RdL w cs ds) : RegsOK w (Old w) (fun _ => none) (fun _ _ => False) [] cs (ds.map AV.d) := own_regs ds cs h.1.symm h.2

theorem block_lt {a : Addr} {v : Value} (h : w.cell? a = some v) : a.block < w.heap.size := by
  rcases Nat.lt_or_ge a.block w.heap.size with q | q
  · exact q
  · exfalso
    have hn : w.heap[a.block]? = none := by simp [q]
    unfold World.cell? at h
    rw [hn] at h
    simp at h

theorem trod_rd : ∀ (fuel : Nat), (∀ (t : TypeId) (cs : List Value) (x : DataW H × List MemPlace) (cts : List CT) (k : Nat), DataW.trod enc P w base spare held fuel t cs = some x → okT P k t cts = true → ∃ ds, RdL w cs ds ∧ hasTs cts ds) := by
  intro fuel
  induction fuel with
  | zero => intro t cs x cts k h; simp [DataW.trod] at h
  | succ fuel ih =>
    intro t cs x cts k h hq
    have ihF : ∀ (k : Nat) (fs : List Field) (off : Nat) (cts : List CT) (cs : List Value), okFs P k off fs cts = true → cs.length = off + cts.length →
        (∀ (i : Nat) (f : Field), fs[i]? = some f → ∃ x, DataW.trod enc P w base spare held fuel f.type ((cs.drop f.offset).take (P.cellsOf f.type)) = some x) → ∃ ds, RdL w (cs.drop off) ds ∧ hasTs cts ds := by
      intro k
      induction k with
      | zero => intro fs off cts cs hq; simp [okFs] at hq
      | succ k ihk =>
        intro fs off cts cs hq hlen hf
        cases fs with
        | nil =>
          simp only [okFs, List.isEmpty_iff] at hq
          subst hq
          have : cs.drop off = [] := List.drop_eq_nil_of_le (by simp at hlen; omega)
          rw [this]
          exact ⟨[], ⟨rfl, fun j v x h => by simp at h⟩, by simp only [hasTs]⟩
        | cons f fs =>
          simp only [okFs, Bool.and_eq_true, beq_iff_eq, decide_eq_true_eq] at hq
          obtain ⟨⟨⟨h1, h2⟩, h3⟩, h4⟩ := hq
          obtain ⟨x, hx⟩ := hf 0 f (by simp)
          rw [h1] at hx
          obtain ⟨ds1, r1, t1⟩ := ih _ _ _ _ _ hx h3
          obtain ⟨ds2, r2, t2⟩ := ihk fs (off + P.cellsOf f.type) (cts.drop (P.cellsOf f.type)) cs h4 (by simp; omega) (fun i g hg => hf (i + 1) g (by simpa using hg))
          have e : cs.drop off = (cs.drop off).take (P.cellsOf f.type) ++ cs.drop (off + P.cellsOf f.type) := by
            rw [← List.drop_drop, List.take_append_drop]
          refine ⟨ds1 ++ ds2, ?_, ?_⟩
          · rw [e]; exact r1.append r2
          · have e2 := List.take_append_drop (P.cellsOf f.type) cts
            rw [← e2]; exact hasTs_append t1 t2
    cases k with
    | zero => simp [okT] at hq
    | succ k =>
      simp only [okT] at hq
      split at hq
      · rename_i ht
        split at hq
        · obtain ⟨b, rfl, rfl⟩ := DataW.trod_bool ht h
          exact ⟨[.b b], RdL.one (.b b), by simp [hasTs, hasT]⟩
        · cases hq
      · rename_i q ht
        split at hq
        · simp only [beq_iff_eq] at hq
          subst hq
          obtain ⟨n, rfl, hx, hw⟩ := DataW.trod_int ht h
          exact ⟨[.i _ n], RdL.one (.i _ n), by simp [hasTs, hasT, hw]⟩
        · cases hq
      · rename_i ht
        split at hq
        · obtain ⟨s, rfl, hx, hs⟩ := DataW.trod_string ht h
          have e : (Value.string s) = strV s.data.toList := by simp [strV]
          refine ⟨[.s s.data.toList], by rw [e]; exact RdL.one (.s _), ?_⟩
          simp only [hasTs, hasT, and_true]
          rw [Array.length_toList]
          exact hs
        · cases hq
      · rename_i e ht
        split at hq
        case h_2 => cases hq
        rename_i es
        simp only [Bool.and_eq_true, beq_iff_eq, Bool.not_eq_true', List.isEmpty_eq_false_iff] at hq
        obtain ⟨⟨q1, q2⟩, q3⟩ := hq
        rcases DataW.trod_slice ht h with ⟨rfl, _⟩ | ⟨a, len, cap, elems, rest, n, hn, rfl, _, _, hle, hmax, hlen, hel, _⟩
        · exact ⟨[.sl []], RdL.one (.nil _ _), by simp [hasTs, hasT]⟩
        · have hn : fuel = n := by omega
          subst hn
          have hrow : ∀ i, i < len → ∃ ds : List D, ∃ cs : List Value, cs.length = es.length ∧ (∀ j, j < es.length → w.cell? ((a.add (i * es.length)).add j) = cs[j]?) ∧ RdL w cs ds ∧ hasTs es ds := fun i hi => by
            have hx := hel i hi
            rw [List.getElem?_eq_getElem (by omega)] at hx
            obtain ⟨cs, h1, h2⟩ := Option.bind_eq_some_iff.1 hx
            obtain ⟨_, h3, h4⟩ := World.cells?_some h1
            obtain ⟨ds, r, t⟩ := ih _ _ _ _ _ h2 q3
            rw [q1] at h3 h4
            exact ⟨ds, cs, h3, h4, r, t⟩
          obtain ⟨rows, hr1, hr2⟩ := list_of len hrow
          refine ⟨[.sl rows], ?_, ?_⟩
          · refine RdL.one ?_
            rcases Nat.eq_zero_or_pos len with z | z
            · have : rows = [] := List.eq_nil_of_length_eq_zero (by omega)
              subst z this
              exact .nil _ _
            · have hpos : 0 < es.length := List.length_pos_iff.2 q2
              obtain ⟨ds0, cs0, h3, h4, _, _⟩ := hrow 0 z
              have hc0 := h4 0 hpos
              rw [List.getElem?_eq_getElem (by omega)] at hc0
              have hspot := World.cell?_spot hc0
              obtain ⟨b, off, spot⟩ := a
              have hsp : spot = none := by
                simp only [Addr.add] at hspot
                split at hspot <;> simp_all
              subst hsp
              have hb : b < w.heap.size := by
                have := block_lt hc0
                simp only [add_plain] at this
                exact this
              have hchoose : ∀ i j : Nat, ∃ v : Value, ∀ (cs : List D) (d : D), rows[i]? = some cs → cs[j]? = some d → w.cell? ⟨b, off + i * es.length + j, none⟩ = some v ∧ Rd w (Old w) v d := fun i j => by
                cases hri : rows[i]? with
                | none => exact ⟨default, fun cs d h => by cases h⟩
                | some ds =>
                  cases hdj : ds[j]? with
                  | none => exact ⟨default, fun cs d h h' => by obtain rfl := Option.some.inj h; rw [hdj] at h'; cases h'⟩
                  | some d =>
                    obtain ⟨cs, k1, k2, k3, k4⟩ := hr2 i ds hri
                    have hj : j < es.length := by
                      have := (List.getElem?_eq_some_iff.1 hdj).1
                      rw [k3.1, k1] at this; exact this
                    have hcj := k2 j hj
                    rw [List.getElem?_eq_getElem (by omega)] at hcj
                    refine ⟨cs[j], fun cs' d' h h' => ?_⟩
                    obtain rfl := Option.some.inj h
                    rw [hdj] at h'
                    obtain rfl := Option.some.inj h'
                    refine ⟨?_, k3.2 j _ _ (List.getElem?_eq_getElem (by omega)) hdj⟩
                    simpa only [add_plain] using hcj
              let vs : Nat → Nat → Value := fun i j => Classical.choose (hchoose i j)
              rw [← hr1]
              refine .sl b off es.length cap rows vs hb (by omega) (fun i cs hi => ?_) (fun i cs j d hi hj => ?_) (fun i cs j d hi hj => ?_)
              · obtain ⟨_, _, _, _, k4⟩ := hr2 i cs hi
                exact hasTs_len k4
              · exact (Classical.choose_spec (hchoose i j) cs d hi hj).1
              · exact (Classical.choose_spec (hchoose i j) cs d hi hj).2
          · simp only [hasTs, hasT, and_true]
            refine ⟨by omega, fun r hr => ?_⟩
            obtain ⟨i, hi⟩ := List.getElem?_of_mem hr
            obtain ⟨_, _, _, _, k4⟩ := hr2 i r hi
            exact k4
      · rename_i fs ht
        simp only [Bool.and_eq_true, beq_iff_eq] at hq
        obtain ⟨xs, n, hn, _, hlen, hxs, hf⟩ := DataW.trod_struct ht h
        have hn : fuel = n := by omega
        subst hn
        have := ihF k fs.toList 0 cts cs hq.2 (by omega) (fun i f hi => by
          have hi : fs[i]? = some f := by simpa using hi
          have hlt : i < xs.length := by have := (Array.getElem?_eq_some_iff.1 hi).1; omega
          exact ⟨xs[i], by rw [hf i f hi, List.getElem?_eq_getElem hlt]⟩)
        simpa using this
      · cases hq

/-- An argument of a struct's type. -/
theorem arg_struct {r : Reach} {b0 : Nat} {t : TypeId} {fs : Array Field} (ht : P.underlying t = some (.struct fs)) {v : Value} {d : DataW H} {ps : List MemPlace} (hval : Value.okWide P w r b0 t v) (h : DataW.Trod enc P w base spare held t v d ps) {cts : List CT} {k : Nat} (hq : okT P k t cts = true) :
    ∃ ds, hasTs cts ds ∧ RegOK w (Old w) (fun _ => none) (fun _ _ => False) [] v (DA.agg ds).av := by
  simp only [Value.okWide, ht] at hval
  obtain ⟨cs, rfl, _⟩ := hval
  obtain ⟨fuel, hf⟩ := h
  obtain ⟨ds, h1, h2⟩ := trod_rd fuel t _ _ cts k hf hq
  refine ⟨ds, h2, ?_⟩
  simp only [DA.av, RegOK]
  exact ⟨cs.toList, by simp, h1.regs⟩
/-- An argument of another type. -/
theorem arg_one {r : Reach} {b0 : Nat} {t : TypeId} {c : CT} {v : Value} {d : DataW H} {ps : List MemPlace} (hval : Value.okWide P w r b0 t v) (h : DataW.Trod enc P w base spare held t v d ps) {k : Nat} (hq : okT P k t [c] = true) (hs : ∀ fs, P.underlying t ≠ some (.struct fs)) :
    ∃ x, hasT c x ∧ RegOK w (Old w) (fun _ => none) (fun _ _ => False) [] v (DA.one x).av := by
  obtain ⟨fuel, hf⟩ := h
  obtain ⟨ds, h1, h2⟩ := trod_rd fuel t _ _ [c] k hf hq
  have hlen := hasTs_len h2
  match ds, hlen, h2 with
  | [x], _, h2 =>
    simp only [hasTs, and_true] at h2
    refine ⟨x, h2, ?_⟩
    simp only [DA.av, RegOK]
    have hv : v.cells.toList = [v] := by
      cases v with
      | agg cs =>
        exfalso
        unfold Value.okWide at hval
        cases k with
        | zero => simp [okT] at hq
        | succ k =>
          simp only [okT] at hq
          split at hq
          · rename_i ht; simp [ht, Cell.okWide, Cell.ok] at hval
          · rename_i ht; simp [ht, Cell.okWide, Cell.ok] at hval
          · rename_i ht; simp [ht, Cell.okWide, Cell.ok] at hval
          · rename_i ht; simp [ht, Cell.okWide, Cell.ok] at hval
          · rename_i fs ht; exact hs fs ht
          · cases hq
      | _ => rfl
    have := h1.2 0 v x
    rw [hv] at this
    exact this (by simp) (by simp)

/-- The row's word, where it is true and nothing below has turned. -/
theorem post_true {f : Func} {s : ChangeSpec} {fresh handsOn : Bool} {W W' : World} {args : Array Value} {ds gs : List (DataW H)} {before : List MemPlace} {tb : TypeId}
    (hW : DataW.Whole enc P f.params.toList s.vars false W args.toList ds gs before) (hvars : s.vars = []) (hfn : ∀ ds' : List (DataW H), ds'.length = f.params.size → s.fn H ds' = { results := [.lit (.bool true)], args := ds' })
    (hres : f.resultTypes = #[tb]) (htb : P.underlying tb = some .bool) (hl : laidOutB P = true) (hps : f.params.toList.all (fun t => P.readableRec t && decide (t < P.types.size)) = true) (hb : Below W.heap.size W W') :
    s.post enc P f false fresh handsOn false W args (.bool true) W' := by
  obtain ⟨p, q, hA, hV, rfl, hfz, hnd⟩ := id hW
  rw [hvars] at hV
  obtain ⟨rfl, rfl⟩ := trodVars_none hV
  have hlen : ∀ {ts : List TypeId} {vs : List Value} {ds : List (DataW H)} {ps : List MemPlace}, DataW.TrodAll enc P W 0 (fun _ => true) true ts vs ds ps → ds.length = ts.length := by
    intro ts
    induction ts with
    | nil => intro vs ds ps h; cases vs <;> cases ds <;> simp_all [DataW.TrodAll]
    | cons t ts ih =>
      intro vs ds ps h
      cases vs with
      | nil => simp [DataW.TrodAll] at h
      | cons v vs => cases ds with
        | nil => simp [DataW.TrodAll] at h
        | cons d ds =>
          obtain ⟨p, q, _, h2, _⟩ := h
          simp [ih h2]
  have hfn' := hfn (ds ++ []) (by simp [hlen hA])
  simp only [List.append_nil] at hfn' hW
  have hlt : ∀ x ∈ p, x.block < W.heap.size := fun x hx => by simpa using hW.lt x hx
  have hargs : ∀ {ts : List TypeId} {vs : List Value} {ds : List (DataW H)} {ps : List MemPlace}, ts.all (fun t => P.readableRec t && decide (t < P.types.size)) = true → (∀ x ∈ ps, x.block < W.heap.size) → DataW.TrodAll enc P W 0 (fun _ => true) true ts vs ds ps →
      DataW.TrodAll enc P W' 0 (fun b => decide (b < W.heap.size)) true ts vs ds ps := by
    intro ts
    induction ts with
    | nil => intro vs ds ps _ _ h; cases vs <;> cases ds <;> simp_all [DataW.TrodAll]
    | cons t ts ih =>
      intro vs ds ps ht hlt h
      cases vs with
      | nil => simp [DataW.TrodAll] at h
      | cons v vs => cases ds with
        | nil => simp [DataW.TrodAll] at h
        | cons d ds =>
          obtain ⟨p, q, h1, h2, rfl⟩ := h
          simp only [List.all_cons, Bool.and_eq_true, decide_eq_true_eq] at ht
          exact ⟨p, q, Below.trod hl ht.1.1 ht.1.2 h1 hb (fun x hx => hlt x (by simp [hx])), ih (by simpa using ht.2) (fun x hx => hlt x (by simp [hx])) h2, rfl⟩
  refine ⟨ds, [], p ++ [], [], p, [], by simpa using hW, ?_, ?_, ?_, ?_, fun h => by cases h⟩
  · simp only [List.append_nil, hfn', hres, Value.resultList]
    exact ⟨[], [], ⟨1, by simp [DataW.trod, htb, Value.cells]⟩, rfl, rfl⟩
  · simp only [List.append_nil, hfn']
    exact hargs hps hlt hA
  · simp only [hvars, List.append_nil, hfn']
    rfl
  · exact Below.frame hb _
end
end Go.Proofs.YtmccpbabpnffcaaK
