/- Stores. -/
import Derived.Test.YtmccpbabpnffcaaK11
set_option linter.unusedVariables false
set_option linter.unusedSimpArgs false
namespace Go.Proofs.YtmccpbabpnffcaaK
open Go.RowKit

theorem run_storeCells_own {P : Program} (b off : Nat) (T : TypeId) (fr : Nat × Nat) : ∀ (vs : List Value) (i : Nat) (arr : Array Value) (w : World), w.heap[b]? = some (.cells arr T fr) → (∀ o, o < arr.size → ¬ (fr.1 ≤ o ∧ o < fr.2)) →
    off + i + vs.length ≤ arr.size → (∀ u ∈ vs, u.oneCell' = true) →
    ∃ w' arr', (storeCells ⟨b, off, none⟩ vs i).run P w = .ok () w' ∧ w'.heap[b]? = some (.cells arr' T fr) ∧ arr'.size = arr.size ∧
      (∀ k, arr'[k]? = if off + i ≤ k ∧ k < off + i + vs.length then vs[k - (off + i)]? else arr[k]?) ∧
      (∀ x, x ≠ b → w'.heap[x]? = w.heap[x]?) ∧ w'.heap.size = w.heap.size ∧ w'.os = w.os ∧ w'.tape = w.tape ∧ w'.output = w.output := by
  intro vs
  induction vs with
  | nil =>
    intro i arr w hb _ _ _
    refine ⟨w, arr, by simp [storeCells], hb, rfl, fun k => ?_, fun _ _ => rfl, rfl, rfl, rfl, rfl⟩
    rw [if_neg (by simp only [List.length_nil]; omega)]
  | cons v vs ih =>
    intro i arr w hb hf hl h1
    simp only [List.length_cons] at hl
    have hc : w.cell? ⟨b, off + i, none⟩ = some (arr[off + i]'(by omega)) := by
      simp only [World.cell?, hb]
      simp
    have hfr : w.frozen? ⟨b, off + i, none⟩ = false := by
      simp only [World.frozen?, hb]
      have := hf (off + i) (by omega)
      simp only [Bool.and_eq_false_iff, decide_eq_false_iff_not]
      omega
    have hset : (w.setCell ⟨b, off + i, none⟩ v).heap[b]? = some (.cells (arr.setIfInBounds (off + i) v) T fr) := by
      simp only [World.setCell, Array.getElem?_modify]
      simp [hb]
    obtain ⟨w', arr', r1, r2, r3, r4, r5, r6, r7, r8, r9⟩ := ih (i + 1) (arr.setIfInBounds (off + i) v) (w.setCell ⟨b, off + i, none⟩ v) hset (by simpa using hf) (by simp; omega) (fun u hu => h1 u (List.mem_cons_of_mem _ hu))
    refine ⟨w', arr', ?_, r2, by simpa using r3, fun k => ?_, fun x hx => ?_, by simpa using r6, r7, r8, r9⟩
    · simp only [storeCells, Sem.run_bind, add_plain, run_store P w _ v .plain (h1 v (by simp)), hc, hfr, Bool.false_eq_true, if_false, Result.andThen_ok]
      exact r1
    · rw [r4 k]
      simp only [List.length_cons]
      by_cases hk : off + i + 1 ≤ k ∧ k < off + i + 1 + vs.length
      · rw [if_pos (show off + (i + 1) ≤ k ∧ k < off + (i + 1) + vs.length by omega), if_pos (by omega)]
        have : k - (off + i) = (k - (off + (i + 1))) + 1 := by omega
        rw [this, List.getElem?_cons_succ]
      · rw [if_neg (show ¬ (off + (i + 1) ≤ k ∧ k < off + (i + 1) + vs.length) by omega)]
        by_cases he : k = off + i
        · subst he
          rw [if_pos (by omega), Array.getElem?_setIfInBounds, if_pos rfl, if_pos (by omega)]
          simp
        · rw [if_neg (by omega), Array.getElem?_setIfInBounds, if_neg (by omega)]
    · rw [r5 x hx]
      exact Below.heap_setCell _ _ _ _ hx

section rep
variable {P : Program} {N : Nat} {w0 : World} {ok0 : Nat → Prop} {loc : Nat → Option (Nat × Nat × Nat)} {So : Nat → Nat → Prop} {Pd : Nat → Prop} {σ σ' : St} {a : Act} {w : World} {X : Nat → List DA → Option (Bool × RV)} {o : Oper}

def okS (P : Program) (o : Oper) : I → Bool
  | .st sz p v => o.dst == none && (match o.op with | .store t q r => okO q p && okO r v && szB P t sz | _ => false)
  | _ => false

theorem ok_st (h : RepW N w0 ok0 loc So Pd σ a w) {sz : Nat} {p v : O} (hq : okS P o (.st sz p v) = true) (hs : kstep X (.st sz p v) σ = some σ') : Outc P o a w (Rep N w0 ok0 σ') := by
  simp only [okS, Bool.and_eq_true, beq_iff_eq] at hq
  obtain ⟨hd, hq⟩ := hq
  split at hq
  · rename_i t q r hop
    simp only [Bool.and_eq_true] at hq
    obtain ⟨⟨h1, h2⟩, h3⟩ := hq
    have hp := h.op h1
    have hx := h.op h2
    simp only [kstep] at hs
    split at hs
    · rename_i o' i j ep
      obtain ⟨⟨cs, σ1⟩, hc, hs⟩ := Option.bind_eq_some_iff.1 hs
      obtain ⟨ob, hob, hs⟩ := Option.bind_eq_some_iff.1 hs
      obtain ⟨old, hold, hs⟩ := Option.bind_eq_some_iff.1 hs
      by_cases hle : cs.length = sz ∧ j + sz ≤ old.length
      case neg => rw [if_neg hle] at hs; cases hs
      rw [if_pos hle] at hs
      obtain rfl := Option.some.inj hs
      obtain ⟨vs, hvs, ⟨So1, Pd1, Sf1, f⟩, hone⟩ := reg_cells hx h hc
      rw [ep] at hp
      simp only [RegOK] at hp
      obtain ⟨ob', b, base, cap, hob', hloc, hi, hv⟩ := hp
      simp only at hob hold hle
      obtain ⟨hob2, hSo⟩ := f.objs o' ob hob
      rw [hob'] at hob2
      obtain rfl := Option.some.inj hob2
      have hR := f.rep
      have hO := hR.objs o' ob' hob
      obtain ⟨hb, us, Sf, hrow, hsub, hdis, hcl⟩ := hO.some' b base cap hloc
      obtain ⟨arr, T, fr, g1, g2, g3, g4, g5⟩ := hrow
      have holdlen : old.length = ob'.sz := hO.size i old hold
      have hvl : vs.length = sz := by rw [← f.len]; exact hle.1
      have hmul : i * ob'.sz + ob'.sz ≤ cap * ob'.sz := by rw [← Nat.succ_mul]; exact Nat.mul_le_mul_right _ (by omega)
      obtain ⟨w', arr', r1, r2, r3, r4, r5, r6, r7, r8, r9⟩ := run_storeCells_own (P := P) b (base + i * ob'.sz + j) T fr vs 0 arr w g1 g2 (by omega) hone
      have hrun : (execOp a.eval o).run P w = .ok .skip w' := by
        simp [execOp, hop, hv, Instr.storeAt, Instr.sureAddr, storeVar, hvs, szB_ok h3, hvl, r1]
      refine .skip w' hrun ?_
      rw [hd]
      -- the object, turned
      have hlt : ∀ i' j', j' < ob'.sz → i' ≠ i → ∀ z, z < ob'.sz → i' * ob'.sz + j' ≠ i * ob'.sz + z := by
        intro i' j' hj' hne z hz e
        have : i' = i := by
          have e1 : (i' * ob'.sz + j') / ob'.sz = (i * ob'.sz + z) / ob'.sz := by rw [e]
          rw [Nat.add_comm (i' * _), Nat.add_comm (i * _), Nat.add_mul_div_right _ _ (by omega), Nat.add_mul_div_right _ _ (by omega), Nat.div_eq_of_lt hj', Nat.div_eq_of_lt hz] at e1
          omega
        exact hne this
      obtain ⟨So', Pd', hfin⟩ := hR.adopt (w' := w') o' b base cap ⟨ob'.sz, ob'.es.set i (old.take j ++ cs ++ old.drop (j + sz))⟩
        (fun i' j' => if i' = i ∧ j ≤ j' ∧ j' < j + sz then vs.getD (j' - j) undef else us i' j')
        (fun i' j' x => if i' = i ∧ j ≤ j' ∧ j' < j + sz then Sf1 (j' - j) x else Sf i' j' x) (σ1.unlook o').regs
        (fun x _ hx => r5 x hx) (by omega) (by rw [r6]; exact (hR.has o' b hb).2.2.1) r7 r8 r9 (.inr (.inr hb)) (hR.has o' b hb).2.1
        ⟨arr', T, fr, r2, by rw [r3]; exact g2, by rw [r3]; exact g3, by simpa using g4, fun i' j' hi' hj' => by
          simp only [List.length_set] at hi'
          simp only at hj'
          rw [r4]
          simp only [Nat.add_zero]
          by_cases hin : i' = i ∧ j ≤ j' ∧ j' < j + sz
          · obtain ⟨rfl, hin1, hin2⟩ := hin
            rw [if_pos (by omega), if_pos ⟨rfl, hin1, hin2⟩, show base + i' * ob'.sz + j' - (base + i' * ob'.sz + j) = j' - j by omega, List.getD_eq_getElem?_getD, List.getElem?_eq_getElem (show j' - j < vs.length by omega)]
            rfl
          · rw [if_neg hin, if_neg ?_, g5 i' j' hi' hj']
            intro hin'
            by_cases e : i' = i
            · subst e; exact hin ⟨rfl, by omega, by omega⟩
            · have := hlt i' j' hj' e (j + (base + i' * ob'.sz + j' - (base + i * ob'.sz + j))) (by omega)
              omega⟩
        (fun i' cs' hi' => by
          rw [List.getElem?_set] at hi'
          by_cases e : i = i'
          · rw [if_pos e] at hi'
            by_cases e2 : i < ob'.es.length
            · rw [if_pos e2] at hi'
              obtain rfl := Option.some.inj hi'
              simp only [List.length_append, List.length_take, List.length_drop]
              omega
            · rw [if_neg e2] at hi'; cases hi'
          · rw [if_neg e] at hi'; exact hO.size i' cs' hi')
        (fun i' cs' j' av hi' hj' => by
          rw [List.getElem?_set] at hi'
          by_cases e : i = i'
          · rw [if_pos e, if_pos hi] at hi'
            obtain rfl := Option.some.inj hi'
            subst e
            by_cases hin : j ≤ j' ∧ j' < j + sz
            · have e2 : cs[j' - j]? = some av := by
                rw [List.append_assoc, List.getElem?_append_right (by simp; omega), List.getElem?_append_left (by simp; omega)] at hj'
                simpa [Nat.min_eq_left (show j ≤ old.length by omega)] using hj'
              have hjl : j' - j < vs.length := by rw [hvl, ← hle.1]; exact getElem?_lt e2
              have := f.cell (j' - j) _ av (List.getElem?_eq_getElem hjl) e2
              simp only [hin, and_self, if_true, true_and, List.getD_eq_getElem?_getD, List.getElem?_eq_getElem hjl, Option.getD_some]
              exact this
            · have e2 : old[j']? = some av := by
                by_cases hlo : j' < j
                · rw [List.append_assoc, List.getElem?_append_left (by simp; omega), List.getElem?_take, if_pos hlo] at hj'
                  exact hj'
                · rw [List.getElem?_append_right (by simp; omega), List.getElem?_drop] at hj'
                  simp only [List.length_append, List.length_take] at hj'
                  rw [show j + sz + (j' - (min j old.length + cs.length)) = j' by omega] at hj'
                  exact hj'
              simp only [hin, and_false, if_false]
              exact hcl i old j' av hold e2
          · rw [if_neg e] at hi'
            have ne : ¬ (i' = i ∧ j ≤ j' ∧ j' < j + sz) := fun q => e q.1.symm
            simp only [ne, if_false]
            exact hcl i' cs' j' av hi' hj')
        (fun i' j' x hx => by
          by_cases hin : i' = i ∧ j ≤ j' ∧ j' < j + sz
          · simp only [hin, and_self, if_true] at hx
            obtain ⟨q1, q2, q3, q4⟩ := f.sub _ x hx
            refine ⟨fun e => ?_, q4, q3, .inl q1⟩
            subst e
            exact (hR.has o' x hb).2.2.2 q1
          · simp only [hin, if_false] at hx
            obtain ⟨q1, q2⟩ := hsub _ _ x hx
            exact ⟨q2, (hR.has o' x q1).2.2.1, (hR.has o' x q1).2.1, .inr q1⟩)
        (fun i1 j1 i2 j2 x hx hx' => by
          by_cases hin : i1 = i ∧ j ≤ j1 ∧ j1 < j + sz <;> by_cases hin' : i2 = i ∧ j ≤ j2 ∧ j2 < j + sz
          · simp only [hin, and_self, if_true] at hx
            simp only [hin', and_self, if_true] at hx'
            have := f.dis _ _ x hx hx'
            exact ⟨by rw [hin.1, hin'.1], by omega⟩
          · simp only [hin, and_self, if_true] at hx
            simp only [hin', if_false] at hx'
            exact absurd (f.sub _ x hx).1 (hR.has o' x (hsub _ _ x hx').1).2.2.2
          · simp only [hin, if_false] at hx
            simp only [hin', and_self, if_true] at hx'
            exact absurd (f.sub _ x hx').1 (hR.has o' x (hsub _ _ x hx).1).2.2.2
          · simp only [hin, if_false] at hx
            simp only [hin', if_false] at hx'
            exact hdis _ _ _ _ x hx hx')
        (fun t v' hk => by
          rcases unlook_regs σ1 o' t v' hk with e | ⟨e1, e2⟩
          · exact .inl e
          · refine .inr ⟨e1, e2, fun _ => ⟨hloc, fun ob2 hob2 => ?_⟩⟩
            rw [hob] at hob2
            obtain rfl := Option.some.inj hob2
            exact ⟨rfl, by simp⟩)
      exact ⟨_, So', Pd', hfin⟩
    · cases hs
  · cases hq

end rep
end Go.Proofs.YtmccpbabpnffcaaK
