/- Stores. -/
import Derived.Test.YtniakiefibpgmaaGreatDoorJ11
set_option linter.unusedVariables false
set_option linter.unusedSimpArgs false
namespace Go.Proofs.YtniakiefibpgmaaGreatDoorK
open Go.RowKit

theorem run_storeCells_own {P : Program} (b off : Nat) (T : TypeId) (fr : Nat × Nat) : ∀ (vs : List Value) (i : Nat) (arr : Array Value) (w : World), w.heap[b]? = some (.cells arr T fr) → (∀ o, o < arr.size → ¬ (fr.1 ≤ o ∧ o < fr.2)) →
    off + i + vs.length ≤ arr.size → (∀ u ∈ vs, u.oneCell' = true) →
    ∃ w' arr', (storeCells ⟨b, off, none⟩ vs i).run P w = .ok () w' ∧ w'.heap[b]? = some (.cells arr' T fr) ∧ arr'.size = arr.size ∧
      (∀ k, arr'[k]? = if off + i ≤ k ∧ k < off + i + vs.length then vs[k - (off + i)]? else arr[k]?) ∧
      (∀ x, x ≠ b → w'.heap[x]? = w.heap[x]?) ∧ w'.heap.size = w.heap.size ∧ w'.os = w.os ∧ w'.tape = w.tape ∧ w'.output = w.output := by
  intro vs
  induction vs with
  | nil =>
    intro i arr w hb _ _ _
    refine ⟨w, arr, by simp [storeCells], hb, rfl, fun k => ?_, fun _ _ => rfl, rfl, rfl, rfl, rfl⟩
    rw [if_neg (by simp only [List.length_nil]; omega)]
  | cons v vs ih =>
    intro i arr w hb hf hl h1
    simp only [List.length_cons] at hl
    have hc : w.cell? ⟨b, off + i, none⟩ = some (arr[off + i]'(by omega)) := by
      simp only [World.cell?, hb]
      simp
    have hfr : w.frozen? ⟨b, off + i, none⟩ = false := by
      simp only [World.frozen?, hb]
      have := hf (off + i) (by omega)
      simp only [Bool.and_eq_false_iff, decide_eq_false_iff_not]
      omega
    have hset : (w.setCell ⟨b, off + i, none⟩ v).heap[b]? = some (.cells (arr.setIfInBounds (off + i) v) T fr) := by
      simp only [World.setCell, Array.getElem?_modify]
      simp [hb]
    obtain ⟨w', arr', r1, r2, r3, r4, r5, r6, r7, r8, r9⟩ := ih (i + 1) (arr.setIfInBounds (off + i) v) (w.setCell ⟨b, off + i, none⟩ v) hset (by simpa using hf) (by simp; omega) (fun u hu => h1 u (List.mem_cons_of_mem _ hu))
    refine ⟨w', arr', ?_, r2, by simpa using r3, fun k => ?_, fun x hx => ?_, by simpa using r6, r7, r8, r9⟩
    · simp only [storeCells, Sem.run_bind, add_plain, run_store P w _ v .plain (h1 v (by simp)), hc, hfr, Bool.false_eq_true, if_false, Result.andThen_ok]
      exact r1
    · rw [r4 k]
      simp only [List.length_cons]
      by_cases hk : off + i + 1 ≤ k ∧ k < off + i + 1 + vs.length
      · rw [if_pos (show off + (i + 1) ≤ k ∧ k < off + (i + 1) + vs.length by omega), if_pos (by omega)]
        have : k - (off + i) = (k - (off + (i + 1))) + 1 := by omega
        rw [this, List.getElem?_cons_succ]
      · rw [if_neg (show ¬ (off + (i + 1) ≤ k ∧ k < off + (i + 1) + vs.length) by omega)]
        by_cases he : k = off + i
        · subst he
          rw [if_pos (by omega), Array.getElem?_setIfInBounds, if_pos rfl, if_pos (by omega)]
          simp
        · rw [if_neg (by omega), Array.getElem?_setIfInBounds, if_neg (by omega)]
    · rw [r5 x hx]
      exact Below.heap_setCell _ _ _ _ hx

theorem holeAt_fillH (i j n : Nat) (hs : List (Nat × Nat × Option Nat)) (i' j' : Nat) : holeAt (fillH i j n hs) i' j' = if i' = i ∧ j ≤ j' ∧ j' < j + n then none else holeAt hs i' j' := by
  induction hs with
  | nil => simp [fillH, holeAt]
  | cons q hs ih =>
    obtain ⟨a, b, x⟩ := q
    simp only [fillH]
    split
    · rename_i h
      rw [ih]
      simp only [holeAt]
      split
      · rfl
      · rename_i h2
        rw [if_neg]
        rintro ⟨rfl, rfl⟩
        exact h2 h
    · rename_i h
      simp only [holeAt, ih]
      by_cases e : i' = a ∧ j' = b
      · obtain ⟨rfl, rfl⟩ := e
        simp only [and_self, if_true]
        rw [if_neg h]
      · rw [if_neg e, if_neg e]
theorem cv_fillH (fz : Bool) (k i j n : Nat) (hs : List (Nat × Nat × Option Nat)) (i' j' : Nat) (d : D) (h : ¬ (i' = i ∧ j ≤ j' ∧ j' < j + n)) : cv fz k (fillH i j n hs) i' j' d = cv fz k hs i' j' d := by
  simp only [cv, holeAt_fillH, if_neg h]
theorem take_set_get {α : Type} {l new : List α} {j n q : Nat} {x : α} (hn : new.length = n) (hl : j + n ≤ l.length) (h : (l.take j ++ new ++ l.drop (j + n))[q]? = some x) :
    (j ≤ q ∧ q < j + n ∧ new[q - j]? = some x) ∨ (¬ (j ≤ q ∧ q < j + n) ∧ l[q]? = some x) := by
  by_cases hin : j ≤ q ∧ q < j + n
  · left
    rw [List.append_assoc, List.getElem?_append_right (by simp; omega), List.getElem?_append_left (by simp; omega)] at h
    exact ⟨hin.1, hin.2, by simpa [Nat.min_eq_left (show j ≤ l.length by omega)] using h⟩
  · right
    refine ⟨hin, ?_⟩
    by_cases hlo : q < j
    · rw [List.append_assoc, List.getElem?_append_left (by simp; omega), List.getElem?_take, if_pos hlo] at h
      exact h
    · rw [List.getElem?_append_right (by simp; omega), List.getElem?_drop] at h
      simp only [List.length_append, List.length_take] at h
      rw [show j + n + (q - (min j l.length + new.length)) = q by omega] at h
      exact h
theorem idx_ne {n i i' j' z : Nat} (hj : j' < n) (hz : z < n) (hne : i' ≠ i) : i' * n + j' ≠ i * n + z := by
  intro e
  have : i' = i := by
    have e1 : (i' * n + j') / n = (i * n + z) / n := by rw [e]
    rw [Nat.add_comm (i' * _), Nat.add_comm (i * _), Nat.add_mul_div_right _ _ (by omega), Nat.add_mul_div_right _ _ (by omega), Nat.div_eq_of_lt hj, Nat.div_eq_of_lt hz] at e1
    omega
  exact hne this

section rep
variable {P : Program} {N : Nat} {E : Ent} {loc : Nat → Option (Nat × Nat × Nat)} {So : Nat → Nat → Prop} {Pd : Nat → Prop} {σ σ' : St} {a : Act} {w : World} {X : XF} {o : Oper}

/-- Cells of one row of an object are turned. -/
theorem turn_row (hR : RepW N E loc So Pd σ a w) {o : Nat} {ob ob' : Ob} (hob : klook σ.objs o = some ob) (hz : ob'.sz = ob.sz) (hn : ob'.len = ob.len) {b base cap : Nat} (hloc : loc o = some (b, base, cap))
    {i j sz : Nat} (hi : i < ob.len) (hj : j + sz ≤ ob.sz) {vs : List Value} (hvl : vs.length = sz) {Sf1 : Nat → Nat → Prop} {Pd0 : Nat → Prop} (hpd0 : ∀ x, Pd0 x → Pd x) (hsub1 : ∀ q x, Sf1 q x → Pd x ∧ ¬ Pd0 x ∧ E.mine x ∧ x < w.heap.size) (hdis1 : ∀ q q' x, Sf1 q x → Sf1 q' x → q = q')
    {w' : World} {arr arr' : Array Value} {T : TypeId} {fr : Nat × Nat} (g1 : w.heap[b]? = some (.cells arr T fr)) (r2 : w'.heap[b]? = some (.cells arr' T fr)) (r3 : arr'.size = arr.size)
    (r4 : ∀ k, arr'[k]? = if base + i * ob.sz + j + 0 ≤ k ∧ k < base + i * ob.sz + j + 0 + vs.length then vs[k - (base + i * ob.sz + j + 0)]? else arr[k]?)
    (r5 : ∀ x, x ≠ b → w'.heap[x]? = w.heap[x]?) (r6 : w'.heap.size = w.heap.size) (r7 : w'.os = w.os) (r8 : w'.tape = w.tape) (r9 : w'.output = w.output)
    (hnew : ∀ (i' j' : Nat) (c : CV), ob'.cell i' j' = some c → (i' = i ∧ j ≤ j' ∧ j' < j + sz ∧ ∃ u, vs[j' - j]? = some u ∧ CellOK w (Fz E So Pd w) loc So σ.objs u c (Sf1 (j' - j))) ∨ (¬ (i' = i ∧ j ≤ j' ∧ j' < j + sz) ∧ ob.cell i' j' = some c)) :
    ∃ So' Pd', RepW N E loc So' Pd' (σ.turn o ob') a w' := by
  have hO := hR.objs o ob hob
  obtain ⟨hb, us, Sf, hrow, hsub, hdis, hcl⟩ := hO.some' b base cap hloc
  obtain ⟨arr0, T0, fr0, g10, g2, g3, g4, g5⟩ := hrow
  rw [g1] at g10
  simp only [Option.some.injEq, Obj.cells.injEq] at g10
  obtain ⟨rfl, rfl, rfl⟩ := g10
  refine ⟨_, _, hR.turn hob hloc hz hn (fun i' j' => if i' = i ∧ j ≤ j' ∧ j' < j + sz then vs.getD (j' - j) undef else us i' j')
    (fun i' j' x => if i' = i ∧ j ≤ j' ∧ j' < j + sz then Sf1 (j' - j) x else Sf i' j' x)
    (fun x _ hx => r5 x hx) (by omega) (by rw [r6]; exact (hR.has o b hb).2.2.1) r7 r8 r9 hb
    ⟨arr', T, fr, r2, by rw [r3]; exact g2, by rw [r3, hz]; exact g3, by rw [hn]; exact g4, fun i' j' hi' hj' => ?_⟩ (fun i' j' c hc => ?_) (fun i' j' x hx => ?_) (fun i1 j1 i2 j2 x hx hx' => ?_)⟩
  · rw [hn] at hi'
    rw [hz] at hj' ⊢
    rw [r4]
    simp only [Nat.add_zero]
    by_cases hin : i' = i ∧ j ≤ j' ∧ j' < j + sz
    · obtain ⟨rfl, hin1, hin2⟩ := hin
      rw [if_pos (by omega), if_pos ⟨rfl, hin1, hin2⟩, show base + i' * ob.sz + j' - (base + i' * ob.sz + j) = j' - j by omega, List.getD_eq_getElem?_getD, List.getElem?_eq_getElem (show j' - j < vs.length by omega)]
      rfl
    · rw [if_neg hin, if_neg ?_, g5 i' j' hi' hj']
      intro hin'
      by_cases e : i' = i
      · subst e; exact hin ⟨rfl, by omega, by omega⟩
      · have := idx_ne (z := j + (base + i' * ob.sz + j' - (base + i * ob.sz + j))) hj' (by omega) e
        omega
  · rcases hnew i' j' c hc with ⟨h1, h2, h3, u, h4, h5⟩ | ⟨h1, h2⟩
    · subst h1
      simp only [h2, h3, and_self, if_true, List.getD_eq_getElem?_getD, h4, Option.getD_some]
      exact h5
    · simp only [if_neg h1]
      exact hcl i' j' c h2
  · by_cases hin : i' = i ∧ j ≤ j' ∧ j' < j + sz
    · simp only [hin, and_self, if_true] at hx
      obtain ⟨q1, q2, q3, q4⟩ := hsub1 _ x hx
      refine ⟨fun e => ?_, q4, q3, .inl q1⟩
      subst e
      exact (hR.has o x hb).2.2.2 q1
    · simp only [hin, if_false] at hx
      obtain ⟨q1, q2⟩ := hsub _ _ x hx
      exact ⟨q2, (hR.has o x q1).2.2.1, (hR.has o x q1).2.1, .inr q1⟩
  · by_cases hin : i1 = i ∧ j ≤ j1 ∧ j1 < j + sz <;> by_cases hin' : i2 = i ∧ j ≤ j2 ∧ j2 < j + sz
    · simp only [hin, and_self, if_true] at hx
      simp only [hin', and_self, if_true] at hx'
      have := hdis1 _ _ x hx hx'
      exact ⟨by rw [hin.1, hin'.1], by omega⟩
    · simp only [hin, and_self, if_true] at hx
      simp only [hin', if_false] at hx'
      exact absurd (hsub1 _ x hx).1 (hR.has o x (hsub _ _ x hx').1).2.2.2
    · simp only [hin, if_false] at hx
      simp only [hin', and_self, if_true] at hx'
      exact absurd (hsub1 _ x hx').1 (hR.has o x (hsub _ _ x hx).1).2.2.2
    · simp only [hin, if_false] at hx
      simp only [hin', if_false] at hx'
      exact hdis _ _ _ _ x hx hx'

def okS (P : Program) (o : Oper) : I → Bool
  | .st sz p v => o.dst == none && (match o.op with | .store t q r => okO q p && okO r v && szB P t sz | _ => false)
  | _ => false

theorem ok_st (h : RepW N E loc So Pd σ a w) {sz : Nat} {p v : O} (hq : okS P o (.st sz p v) = true) (hs : kstep X (.st sz p v) σ = some σ') : Outc P o a w (Rep N E σ') := by
  simp only [okS, Bool.and_eq_true, beq_iff_eq] at hq
  obtain ⟨hd, hq⟩ := hq
  split at hq
  · rename_i t q r hop
    simp only [Bool.and_eq_true] at hq
    obtain ⟨⟨h1, h2⟩, h3⟩ := hq
    have hp := h.op h1
    have hx := h.op h2
    simp only [kstep] at hs
    split at hs
    · rename_i o' i j ep
      obtain ⟨ob0, hob0, hs⟩ := Option.bind_eq_some_iff.1 hs
      rw [ep] at hp
      simp only [RegOK] at hp
      obtain ⟨ob', b, base, cap, hob', hloc, hi, hv⟩ := hp
      rw [hob0] at hob'
      obtain rfl := Option.some.inj hob'
      cases ob0 with
      | ls ty fz l0 k0 hs0 =>
        simp only at hs
        obtain ⟨⟨ds, σ1⟩, hc, hs⟩ := Option.bind_eq_some_iff.1 hs
        obtain ⟨ob1, hob1, hs⟩ := Option.bind_eq_some_iff.1 hs
        simp only at hob1
        cases ob1 with
        | fn v => simp at hs
        | ls ty' fz' l k hs1 =>
          simp only at hs
          obtain ⟨x, hxl, hs⟩ := Option.bind_eq_some_iff.1 hs
          by_cases hle : ty' = ty ∧ fz' = fz ∧ ds.length = sz ∧ j + sz ≤ ty'.w
          case neg => rw [if_neg hle] at hs; cases hs
          rw [if_pos hle] at hs
          obtain ⟨y, hy, rfl⟩ := Option.map_eq_some_iff.1 hs
          obtain ⟨rfl, rfl, hdl, hjs⟩ := hle
          obtain ⟨vs, hvs, ⟨So1, Pd1, Sf1, f⟩, hone⟩ := reg_cells hx h hc
          obtain ⟨ob2, hob2, hz2, hn2, hSo⟩ := f.objs o' _ hob1
          rw [hob0] at hob2
          obtain rfl := Option.some.inj hob2
          have hR := f.rep
          obtain ⟨hb, us, Sf, hrow, hsub, hdis, hcl⟩ := (hR.objs o' _ hob1).some' b base cap hloc
          obtain ⟨arr, T, fr, g1, g2, g3, g4, g5⟩ := hrow
          simp only [Ob.sz, Ob.len] at g3 g4 hz2 hn2 hi
          have hvl : vs.length = sz := by rw [← f.len]; exact hdl
          have hmul : i * ty'.w + ty'.w ≤ cap * ty'.w := by rw [← Nat.succ_mul]; exact Nat.mul_le_mul_right _ (by omega)
          obtain ⟨w', arr', r1, r2, r3, r4, r5, r6, r7, r8, r9⟩ := run_storeCells_own (P := P) b (base + i * ty'.w + j) T fr vs 0 arr w g1 g2 (by omega) hone
          have hrun : (execOp a.eval o).run P w = .ok .skip w' := by
            simp only [Ob.sz] at hv
            simp [execOp, hop, hv, Instr.storeAt, Instr.sureAddr, storeVar, hvs, szB_ok h3, hvl, r1]
          refine .skip w' hrun ?_
          rw [hd]
          have hcy := cells_mkT _ _ _ hy
          obtain ⟨So', Pd', hfin⟩ := turn_row hR (o := o') (ob := .ls ty' fz' l k hs1) (ob' := .ls ty' fz' (l.set i y) k (fillH i j sz hs1)) hob1 rfl (by simp [Ob.len]) hloc (i := i) (j := j) (sz := sz) (by simp only [Ob.len]; omega) hjs hvl f.pd f.sub f.dis g1 r2 r3 r4 r5 r6 r7 r8 r9
            (fun i' j' c hcc => by
              simp only [Ob.cell] at hcc ⊢
              obtain ⟨x', hx', hcc⟩ := Option.bind_eq_some_iff.1 hcc
              obtain ⟨d, hd', rfl⟩ := Option.map_eq_some_iff.1 hcc
              rw [List.getElem?_set] at hx'
              by_cases e : i = i'
              · subst e
                rw [if_pos rfl, if_pos (by omega)] at hx'
                obtain rfl := Option.some.inj hx'
                rw [hcy] at hd'
                rcases take_set_get hdl (by rw [cellsT_len]; exact hjs) hd' with ⟨p1, p2, p3⟩ | ⟨p1, p2⟩
                · left
                  have hjl : j' - j < vs.length := by rw [← f.len]; exact get_lt p3
                  refine ⟨rfl, p1, p2, _, List.getElem?_eq_getElem hjl, ?_⟩
                  have hcell := f.cell (j' - j) _ d (List.getElem?_eq_getElem hjl) p3
                  simp only [cv, holeAt_fillH, if_pos (show True ∧ j ≤ j' ∧ j' < j + sz from ⟨trivial, p1, p2⟩), true_and]
                  by_cases hsc : d.scalar = true
                  · rw [if_pos hsc]
                    cases fz' with
                    | true => exact hcell
                    | false => exact scalar_rd (Own.rd hcell) hsc _ _
                  · rw [if_neg hsc]
                    split
                    · trivial
                    · rw [if_pos ⟨p1, p2⟩]
                      cases fz' with
                      | true => exact hcell
                      | false => exact hcell
                · right
                  refine ⟨fun q => p1 q.2, ?_⟩
                  rw [hxl]
                  simp only [Option.bind_some, p2, Option.map_some]
                  rw [cv_fillH _ _ _ _ _ _ _ _ _ (fun q => p1 q.2)]
              · rw [if_neg e] at hx'
                right
                refine ⟨fun q => e q.1.symm, ?_⟩
                rw [hx']
                simp only [Option.bind_some, hd', Option.map_some]
                rw [cv_fillH _ _ _ _ _ _ _ _ _ (fun q => e q.1.symm)])
          exact ⟨_, So', Pd', hfin⟩
      | fn av0 =>
        simp only at hs
        split at hs
        · rename_i f l ev
          by_cases hz : i = 0 ∧ j = 0 ∧ sz = 1 ∧ AV.blindL l = true
          case neg => rw [if_neg hz] at hs; cases hs
          rw [if_pos hz] at hs
          obtain rfl := Option.some.inj hs
          obtain ⟨rfl, rfl, rfl, hbl⟩ := hz
          rw [ev] at hx
          have hx' := hx
          simp only [RegOK] at hx
          obtain ⟨cvs, hcv, _⟩ := hx
          obtain ⟨hb, us, Sf, hrow, hsub, hdis, hcl⟩ := (h.objs o' _ hob0).some' b base cap hloc
          obtain ⟨arr, T, fr, g1, g2, g3, g4, g5⟩ := hrow
          simp only [Ob.sz, Ob.len] at g3 g4
          have hone : (a.eval r).oneCell' = true := by rw [hcv]; rfl
          obtain ⟨w', arr', r1, r2, r3, r4, r5, r6, r7, r8, r9⟩ := run_storeCells_own (P := P) b (base + 0 * 1 + 0) T fr [a.eval r] 0 arr w g1 g2 (by simp; omega) (fun u hu => by simp only [List.mem_singleton] at hu; subst hu; exact hone)
          have hrun : (execOp a.eval o).run P w = .ok .skip w' := by
            simp only [Ob.sz] at hv
            have hvs : (a.eval r).cells = #[a.eval r] := cells_of_one hone
            simp only [Nat.zero_mul, Nat.add_zero] at hv r1
            simp [execOp, hop, hv, Instr.storeAt, Instr.sureAddr, storeVar, hvs, szB_ok h3, r1]
          refine .skip w' hrun ?_
          rw [hd]
          obtain ⟨So', Pd', hfin⟩ := turn_row h (o := o') (ob := .fn av0) (ob' := .fn (.clo f l)) hob0 rfl rfl hloc (i := 0) (j := 0) (sz := 1) hi (by simp [Ob.sz]) (vs := [a.eval r]) rfl (Sf1 := fun _ _ => False) (Pd0 := Pd) (fun x hx => hx) (fun q x hx => hx.elim) (fun q q' x hx => hx.elim) g1 r2 r3 r4 r5 r6 r7 r8 r9
            (fun i' j' c hcc => by
              simp only [Ob.cell] at hcc
              split at hcc
              · rename_i e
                obtain ⟨rfl, rfl⟩ := e
                obtain rfl := Option.some.inj hcc
                exact .inl ⟨rfl, Nat.le_refl _, by omega, _, rfl, by simp only [AV.blind]; exact hbl, hone, hx'⟩
              · cases hcc)
          exact ⟨_, So', Pd', hfin⟩
        · cases hs
    · cases hs
  · cases hq

end rep
end Go.Proofs.YtniakiefibpgmaaGreatDoorK
