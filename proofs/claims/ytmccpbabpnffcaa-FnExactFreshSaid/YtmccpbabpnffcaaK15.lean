/- Appends: that they do what is said. -/
import Derived.Test.YtmccpbabpnffcaaK14
set_option linter.unusedVariables false
set_option linter.unusedSimpArgs false
namespace Go.Proofs.YtmccpbabpnffcaaK
open Go.RowKit

section rep
variable {P : Program} {N : Nat} {w0 : World} {ok0 : Nat → Prop} {loc : Nat → Option (Nat × Nat × Nat)} {So : Nat → Nat → Prop} {Pd : Nat → Prop} {σ σ' : St} {a : Act} {w : World} {X : Nat → List DA → Option (Bool × RV)} {o : Oper}

/-- A state is what its look-ups are. -/
theorem RepW.congr (h : RepW N w0 ok0 loc So Pd σ a w) (σ' : St) (h1 : ∀ o, klook σ'.objs o = klook σ.objs o) (h2 : ∀ t v, klook σ'.regs t = some v → v = .junk ∨ klook σ.regs t = some v) : RepW N w0 ok0 loc So Pd σ' a w :=
  ⟨h.size, h.defers, h.keep, h.ok, fun o x hx => by rw [h1]; exact h.has o x hx, h.dis, h.pdlt, fun o ob ho => h.objs o ob (by rw [← h1]; exact ho), fun t v hk => by
    rcases h2 t v hk with e | e
    · subst e; simp only [RegOK]
    · exact RegOK.mono (fun b hb => ⟨hb, rfl⟩) _ _ (h.regs t v e) (fun o _ => ⟨fun ob hob => ⟨ob, by rw [h1]; exact hob, rfl, Nat.le_refl _⟩, rfl⟩) (fun o _ b hb => ⟨hb, rfl⟩)⟩

theorem new_gone_objs (σ : St) (o : Nat) (ob : Ob) (o2 : Nat) : klook (σ.new o ob).objs o2 = klook ((σ.gone o).new o ob).objs o2 := by
  simp only [St.new, St.gone]
  by_cases e : o2 = o
  · subst e; rw [klook_kput_same, klook_kput_same]
  · rw [klook_kput_ne _ _ e, klook_kput_ne _ _ e, klook_kdel_ne _ e]
theorem new_gone_regs (σ : St) (o : Nat) (ob : Ob) (t : Nat) (v : AV) (hk : klook (σ.new o ob).regs t = some v) : v = .junk ∨ klook ((σ.gone o).new o ob).regs t = some v := by
  rcases unref_regs σ o t v hk with e | ⟨e1, e2⟩
  · exact .inl e
  · right
    have h1 : klook (σ.gone o).regs t = some v := hk
    show klook ((σ.gone o).unref o).regs t = some v
    have : klook ((σ.gone o).unref o).regs t = (klook (σ.gone o).regs t).map (fun v => if v.refs o then AV.junk else v) := by rw [← klook_map]; rfl
    rw [this, h1]
    simp [e2]

theorem first_nil (P : Program) (w : World) (A : Option Addr) (sz c : Nat) : (Builtin.firstCells sz 0 (.slice A 0 c)).run P w = .ok ([] : List Value).toArray w := by
  cases A <;> simp [Builtin.firstCells, loadCells, loadCellsFrom]

theorem ok_app (h : RepW N w0 ok0 loc So Pd σ a w) {d sz bytes : Nat} {x y : O} (hq : okA P N o (.app d sz bytes x y) = true) (hs : kstep X (.app d sz bytes x y) σ = some σ') : Outc P o a w (Rep N w0 ok0 σ') := by
  simp only [okA, Bool.and_eq_true] at hq
  obtain ⟨hd, hq⟩ := hq
  obtain ⟨hd, hn⟩ := dstB_ok hd
  split at hq
  case h_2 => cases hq
  rename_i q r t u hop
  simp only [Bool.and_eq_true] at hq
  obtain ⟨⟨h1, h2⟩, h3⟩ := hq
  obtain ⟨e, i, z, ht, hi, rfl, rfl, hby, hsz, hz, hzs, hu⟩ := app2B_ok h3
  have hx := h.op h1
  have hy := h.op h2
  simp only [kstep] at hs
  obtain ⟨⟨new, σ1⟩, htl, hs⟩ := Option.bind_eq_some_iff.1 hs
  simp only at hs
  by_cases hall : new.all (fun cs => cs.length == i.size) = true
  case neg => rw [if_neg hall] at hs; cases hs
  rw [if_pos hall] at hs
  obtain ⟨So1, Pd1, nv, Sf1, f⟩ := tailOf_ok (P := P) h hy htl hall (by omega)
  simp only at f
  have hnew : ∀ cs ∈ new, cs.length = i.size := fun cs hcs => by have := List.all_eq_true.1 hall cs hcs; simpa using this
  -- how the operation runs
  have hexec : ∀ v w', (Builtin.append_ #[t, u] o.type #[a.eval q, a.eval r]).run P w = .ok v w' → Rep N w0 ok0 σ' (a.put (some d) v) w' → Outc P o a w (Rep N w0 ok0 σ') := fun v w' hr hR => by
    refine .val v w' ?_ (by rw [hd]; exact hR)
    simp only [execOp, hop, resolve, invoke, builtin, Sem.run_bind, Sem.run_pure, Result.andThen_ok, List.map_toArray, List.map_cons, List.map_nil, hr]
  have hfd := f.first w.drew rfl
  have hfw := f.first w rfl
  have hgc : ∀ (n0 c0 : Nat), (n0 + new.length) * i.bytes ≤ 140737488355328 → c0 < n0 + new.length → Builtin.nextslicecap (n0 + new.length) c0 * i.bytes ≤ 281474976710656 := fun n0 c0 hb hc => growslice_fits hc hb
  have hzsize : ∀ m, (Builtin.zeroCells z.cells m).size = m * i.size := fun m => by rw [size_zeroCells, hzs]
  cases hav : σ.op x with
  | nil =>
    rw [hav] at hs hx
    simp only [RegOK] at hx
    simp only [appTo] at hs
    by_cases hb : new.length * i.bytes ≤ 140737488355328
    case neg => rw [if_neg hb] at hs; cases hs
    rw [if_pos hb] at hs
    obtain rfl := Option.some.inj hs
    by_cases h0 : new = []
    · subst h0
      refine hexec (.slice none 0 0) w ?_ ?_
      · rw [hx]
        exact run_app_room ht hi hu f.lenOf hfw none (Nat.le_refl 0)
      · obtain ⟨loc', So', Pd', hR, hl⟩ := unref_junk f.rep d ⟨i.size, []⟩ rfl
        refine ⟨loc', So', Pd', hR.set hn ?_⟩
        simp only [RegOK, St.new]
        exact ⟨_, klook_kput_same _ _ _, by simp, by rw [hl]; exact ⟨rfl, rfl, none, rfl⟩⟩
    · have hpos : 0 < new.length := List.length_pos_iff.2 h0
      have hge := grownCap_ge w (0 + new.length) 0 e
      refine hexec _ _ (by rw [hx]; exact run_app_grow ht hi hz hu f.lenOf hfd none (first_nil P w.drew none i.size 0) (by omega) hby (hgc 0 0 (by rw [Nat.zero_add]; exact hb) (by omega))) ?_
      have := grown_ok f hnew (old := []) (ov := []) (Sf2 := fun _ _ _ => False) f.rep (by simp) (by simp) (fun i cs j av hi => by simp at hi) (fun i j x hx => hx.elim) (fun i j i' j' x hx => hx.elim) (fun x hx => hx) (fun x hx => hx)
        (o' := d) (grownCap w (0 + new.length) 0 e) e (Builtin.zeroCells z.cells (grownCap w (0 + new.length) 0 e - (0 + new.length))) (by simpa using hge) (hzsize _) hn
      simpa using this
  | h o' off n =>
    rw [hav] at hs hx
    simp only [appTo] at hs
    obtain ⟨ob, hob, hs⟩ := Option.bind_eq_some_iff.1 hs
    by_cases hc : off = 0 ∧ ob.sz = i.size ∧ n ≤ ob.es.length ∧ (n + new.length) * i.bytes ≤ 140737488355328
    case neg => rw [if_neg hc] at hs; cases hs
    rw [if_pos hc] at hs
    obtain rfl := Option.some.inj hs
    obtain ⟨rfl, hosz, hnle, hbb⟩ := hc
    obtain ⟨hob0, hSo⟩ := f.objs o' ob hob
    simp only [RegOK] at hx
    obtain ⟨ob', hob', _, hv⟩ := hx
    rw [hob0] at hob'
    obtain rfl := Option.some.inj hob'
    have hO := f.rep.objs o' ob hob
    have htake : (ob.es.take n).length = n := by simp; omega
    cases hloc : loc o' with
    | none =>
      rw [hloc] at hv
      obtain ⟨rfl, _, A, hA⟩ := hv
      by_cases h0 : new = []
      · subst h0
        refine hexec (.slice A 0 0) w ?_ ?_
        · rw [hA, run_app_room ht hi hu f.lenOf hfw A (Nat.le_refl 0)]
          have hnv : nv = [] := List.eq_nil_of_length_eq_zero (by rw [f.len]; simp)
          cases A <;> simp [hnv, storeCells]
        · obtain ⟨loc', So', Pd', hR, hl⟩ := unref_junk f.rep o' ⟨i.size, ob.es.take 0 ++ []⟩ (by simp)
          refine ⟨loc', So', Pd', hR.set hn ?_⟩
          simp only [RegOK, St.new]
          exact ⟨_, klook_kput_same _ _ _, by simp, by rw [hl]; exact ⟨rfl, rfl, A, rfl⟩⟩
      · have hpos : 0 < new.length := List.length_pos_iff.2 h0
        have hge := grownCap_ge w (0 + new.length) 0 e
        refine hexec _ _ (by rw [hA]; exact run_app_grow ht hi hz hu f.lenOf hfd A (first_nil P w.drew A i.size 0) (by omega) hby (hgc 0 0 hbb (by omega))) ?_
        have := grown_ok f hnew (old := []) (ov := []) (Sf2 := fun _ _ _ => False) f.rep (by simp) (by simp) (fun i cs j av hi => by simp at hi) (fun i j x hx => hx.elim) (fun i j i' j' x hx => hx.elim) (fun x hx => hx) (fun x hx => hx)
          (o' := o') (grownCap w (0 + new.length) 0 e) e (Builtin.zeroCells z.cells (grownCap w (0 + new.length) 0 e - (0 + new.length))) (by simpa using hge) (hzsize _) hn
        simpa using this
    | some q3 =>
      obtain ⟨b, base, cap⟩ := q3
      rw [hloc] at hv
      obtain ⟨hcap, A, hA, hAA⟩ := hv
      simp only [Nat.zero_add, Nat.sub_zero, Nat.zero_mul, Nat.add_zero] at hcap hA hAA
      obtain ⟨hb, us, Sf, hrow, hsub, hdis, hcl⟩ := hO.some' b base cap hloc
      obtain ⟨arr, T, fr, g1, g2, g3, g4, g5⟩ := hrow
      rw [hosz] at g3 g5
      have hrowcell : ∀ i' j', i' < ob.es.length → j' < i.size → w.cell? ⟨b, base + i' * i.size + j', none⟩ = some (us i' j') := fun i' j' hi' hj' => by
        simp only [World.cell?, g1]; simpa using g5 i' j' hi' hj'
      by_cases hroom : n + new.length ≤ cap
      · -- in place
        have hplace : ∃ w' arr', (Builtin.append_ #[t, u] o.type #[a.eval q, a.eval r]).run P w = .ok (.slice A (n + new.length) cap) w' ∧ w'.heap[b]? = some (.cells arr' T fr) ∧ arr'.size = arr.size ∧
            (∀ k, arr'[k]? = if base + n * i.size ≤ k ∧ k < base + n * i.size + nv.length then nv[k - (base + n * i.size)]? else arr[k]?) ∧
            (∀ x, x ≠ b → w'.heap[x]? = w.heap[x]?) ∧ w'.heap.size = w.heap.size ∧ w'.os = w.os ∧ w'.tape = w.tape ∧ w'.output = w.output := by
          rw [hA, run_app_room ht hi hu f.lenOf hfw A hroom]
          by_cases h0 : new = []
          · have hnv : nv = [] := List.eq_nil_of_length_eq_zero (by rw [f.len, h0]; simp)
            subst hnv
            refine ⟨w, arr, ?_, g1, rfl, fun k => ?_, fun _ _ => rfl, rfl, rfl, rfl, rfl⟩
            · cases A <;> simp [storeCells]
            · rw [if_neg (by simp only [List.length_nil]; omega)]
          · have hpos : 0 < new.length := List.length_pos_iff.2 h0
            rw [hAA (by omega)]
            have hfit : base + n * i.size + 0 + nv.length ≤ arr.size := by
              rw [f.len, g3, Nat.add_zero, Nat.add_assoc, ← Nat.add_mul]
              exact Nat.add_le_add_left (Nat.mul_le_mul_right _ hroom) _
            obtain ⟨w', arr', r1, r2, r3, r4, r5, r6, r7, r8, r9⟩ := run_storeCells_own (P := P) b (base + n * i.size) T fr nv 0 arr w g1 g2 hfit f.one
            refine ⟨w', arr', ?_, r2, r3, fun k => by simpa using r4 k, r5, r6, r7, r8, r9⟩
            simp only [add_plain, r1, Result.andThen_ok]
        obtain ⟨w', arr', hrun, r2, r3, r4, r5, r6, r7, r8, r9⟩ := hplace
        refine hexec _ w' hrun ?_
        obtain ⟨So', Pd', hfin⟩ := f.rep.adopt (w' := w') o' b base cap ⟨i.size, ob.es.take n ++ new⟩
          (fun i' j' => if i' < n then us i' j' else nv.getD ((i' - n) * i.size + j') undef)
          (fun i' j' x => if i' < n then Sf i' j' x else Sf1 (i' - n) j' x) (σ1.unref o').regs
          (fun x _ hx => r5 x hx) (by omega) (by rw [r6]; exact (f.rep.has o' b hb).2.2.1) r7 r8 r9 (.inr (.inr hb)) (f.rep.has o' b hb).2.1
          ⟨arr', T, fr, r2, by rw [r3]; exact g2, by rw [r3]; exact g3, by simp only [List.length_append, htake]; exact hroom, fun i' j' hi' hj' => by
            simp only [List.length_append, htake] at hi'
            simp only at hj'
            show arr'[base + i' * i.size + j']? = _
            rw [r4]
            by_cases hlo : i' < n
            · have := idx_lt hlo hj'
              rw [if_neg (by omega), if_pos hlo]
              exact g5 i' j' (by omega) hj'
            · have h5 := idx_lt (show i' - n < new.length by omega) hj'
              have h6 : i' * i.size = n * i.size + (i' - n) * i.size := by rw [← Nat.add_mul]; congr 1; omega
              have h7 := f.len
              rw [if_pos (by omega), if_neg hlo, h6, show base + (n * i.size + (i' - n) * i.size) + j' - (base + n * i.size) = (i' - n) * i.size + j' by omega]
              simp [List.getElem?_eq_getElem (show (i' - n) * i.size + j' < nv.length by omega)]⟩
          (fun i' cs hi' => by
            rcases List.mem_append.1 (List.mem_of_getElem? hi') with m | m
            · rw [← hosz]
              obtain ⟨k, hk⟩ := List.mem_iff_getElem?.1 (List.mem_of_mem_take m)
              exact hO.size k cs hk
            · exact hnew cs m)
          (fun i' cs j' av hi' hj' => by
            simp only at hi'
            by_cases hlo : i' < n
            · rw [List.getElem?_append_left (by rw [htake]; exact hlo), List.getElem?_take, if_pos hlo] at hi'
              simp only [hlo, if_true]
              exact hcl i' cs j' av hi' hj'
            · rw [List.getElem?_append_right (by rw [htake]; omega), htake] at hi'
              simp only [hlo, if_false]
              exact f.cell _ cs j' av hi' hj')
          (fun i' j' x hx => by
            by_cases hlo : i' < n
            · simp only [hlo, if_true] at hx
              obtain ⟨q1, q2⟩ := hsub _ _ x hx
              exact ⟨q2, (f.rep.has o' x q1).2.2.1, (f.rep.has o' x q1).2.1, .inr q1⟩
            · simp only [hlo, if_false] at hx
              obtain ⟨q1, q2, q3, q4⟩ := f.sub _ _ x hx
              refine ⟨fun e => ?_, q4, q3, .inl q1⟩
              subst e
              exact (f.rep.has o' x hb).2.2.2 q1)
          (fun i1 j1 i2 j2 x hx hx' => by
            by_cases hlo : i1 < n <;> by_cases hlo' : i2 < n
            · simp only [hlo, hlo', if_true] at hx hx'; exact hdis _ _ _ _ x hx hx'
            · simp only [hlo, hlo', if_true, if_false] at hx hx'; exact absurd (f.sub _ _ x hx').1 (f.rep.has o' x (hsub _ _ x hx).1).2.2.2
            · simp only [hlo, hlo', if_true, if_false] at hx hx'; exact absurd (f.sub _ _ x hx).1 (f.rep.has o' x (hsub _ _ x hx').1).2.2.2
            · simp only [hlo, hlo', if_false] at hx hx'; have := f.dis _ _ _ _ x hx hx'; exact ⟨by omega, this.2⟩)
          (fun t v hk => by
            rcases unref_regs σ1 o' t v hk with e | ⟨e1, e2⟩
            · exact .inl e
            · exact .inr ⟨e1, looks_false_of_refs e2, fun hq => by rw [e2] at hq; cases hq⟩)
        refine ⟨_, So', Pd', (show RepW N w0 ok0 _ So' Pd' (σ1.new o' ⟨i.size, ob.es.take n ++ new⟩) a w' from hfin).set hn ?_⟩
        simp only [RegOK, St.new]
        refine ⟨_, klook_kput_same _ _ _, by simp only [List.length_append, htake]; omega, ?_⟩
        simp only [if_true]
        exact ⟨by omega, A, by simp, fun hp => by simpa using hAA (by omega)⟩
      · -- it grows
        have hge := grownCap_ge w (n + new.length) cap e
        have hov : (Builtin.firstCells i.size n (.slice A n cap)).run P w.drew = .ok (flatV us n i.size).toArray w.drew := by
          by_cases h0 : n = 0
          · subst h0
            have : flatV us 0 i.size = [] := List.eq_nil_of_length_eq_zero (by rw [flatV_len]; simp)
            rw [this]
            exact first_nil P w.drew A i.size cap
          · rw [hAA (by omega)]
            exact run_firstCells_some (P := P) w.drew i.size n ⟨b, base, none⟩ n cap _ (flatV_len _ _ _) (fun k v hk => by rw [add_plain]; exact flatV_cell (fun i' j' hi' hj' => hrowcell i' j' (by omega) hj') hk)
        refine hexec _ _ (by rw [hA]; exact run_app_grow ht hi hz hu f.lenOf hfd A hov hroom hby (hgc n cap hbb (by omega))) ?_
        have hgr := grown_ok f hnew (old := ob.es.take n) (ov := flatV us n i.size) (Sf2 := fun i' j' x => i' < n ∧ j' < i.size ∧ Sf i' j' x) (f.rep.gone o')
          (fun cs hcs => by
            obtain ⟨k, hk⟩ := List.mem_iff_getElem?.1 (List.mem_of_mem_take hcs)
            rw [← hosz]; exact hO.size k cs hk)
          (by rw [flatV_len, htake])
          (fun i' cs j' av hi' hj' => by
            rw [List.getElem?_take] at hi'
            split at hi'
            · rename_i hlo
              have hj2 : j' < i.size := by rw [← hosz, ← hO.size i' cs hi']; exact getElem?_lt hj'
              rw [List.getD_eq_getElem?_getD, flatV_get hlo hj2]
              have c := (hcl i' cs j' av hi' hj').mono (fz' := Fz w0 ok0 (fun o2 x => o2 ≠ o' ∧ So1 o2 x) (fun x => Pd1 x ∨ So1 o' x) w) (fun x hx => ⟨hx.1, hx.2.1, fun o2 hq => hx.2.2.1 o2 hq.2, fun hq => hq.elim hx.2.2.2 (hx.2.2.1 o')⟩) (fun _ _ => rfl) (fun _ _ => rfl)
              cases av <;> simp only [CellOK] at c ⊢ <;> first | exact c | exact c.mono (fun b hb => ⟨hlo, hj2, hb⟩) (fun _ _ => rfl)
            · cases hi')
          (fun i' j' x hx => by
            obtain ⟨q1, q2⟩ := hsub _ _ x hx.2.2
            obtain ⟨p1, p2, p3, p4⟩ := f.rep.has o' x q1
            exact ⟨.inr q1, p4, p2, p3⟩)
          (fun i1 j1 i2 j2 x hx hx' => hdis _ _ _ _ x hx.2.2 hx'.2.2)
          (fun x hx => ⟨hx.1, hx.2.1, fun o2 hq => hx.2.2.1 o2 hq.2, fun hq => hq.elim hx.2.2.2 (hx.2.2.1 o')⟩) (fun x hx => .inl hx)
          (o' := o') (grownCap w (n + new.length) cap e) e (Builtin.zeroCells z.cells (grownCap w (n + new.length) cap e - (n + new.length))) (by rw [htake]; exact hge) (by rw [htake]; exact hzsize _) hn
        rw [htake] at hgr
        obtain ⟨loc', So', Pd', hfin⟩ := hgr
        refine ⟨loc', So', Pd', hfin.congr _ (fun o2 => ?_) (fun t2 v2 hk => ?_)⟩
        · exact new_gone_objs σ1 o' _ o2
        · simp only [St.set] at hk ⊢
          by_cases e2 : t2 = d
          · subst e2; rw [klook_kput_same] at hk ⊢; exact .inr hk
          · rw [klook_kput_ne _ _ e2] at hk ⊢
            exact new_gone_regs σ1 o' _ t2 v2 hk
  | _ => rw [hav] at hs; simp [appTo] at hs

end rep
end Go.Proofs.YtmccpbabpnffcaaK
