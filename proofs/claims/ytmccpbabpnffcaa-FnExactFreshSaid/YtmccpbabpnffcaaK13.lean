/- Appends: the source, the run. -/
import Derived.Test.YtmccpbabpnffcaaK12
import Derived.Lib.ConvBytes
import Derived.Laws.MakeOwn
import Derived.Laws.Append
set_option linter.unusedVariables false
set_option linter.unusedSimpArgs false
namespace Go.Proofs.YtmccpbabpnffcaaK
open Go.RowKit

def flatV (vs : Nat → Nat → Value) (n sz : Nat) : List Value := (List.range (n * sz)).map fun k => vs (k / sz) (k % sz)
theorem flatV_len (vs : Nat → Nat → Value) (n sz : Nat) : (flatV vs n sz).length = n * sz := by simp [flatV]
theorem idx_lt {i j n sz : Nat} (hi : i < n) (hj : j < sz) : i * sz + j < n * sz := by
  have : i * sz + sz ≤ n * sz := by rw [← Nat.succ_mul]; exact Nat.mul_le_mul_right _ hi
  omega
theorem flatV_get {vs : Nat → Nat → Value} {n sz i j : Nat} (hi : i < n) (hj : j < sz) : (flatV vs n sz)[i * sz + j]? = some (vs i j) := by
  have h := idx_lt hi hj
  simp only [flatV, List.getElem?_map, List.getElem?_range h, Option.map_some]
  rw [Nat.add_comm, Nat.add_mul_div_right _ _ (by omega), Nat.div_eq_of_lt hj, Nat.add_mul_mod_self_right, Nat.mod_eq_of_lt hj, Nat.zero_add]
theorem flatV_cell {w : World} {b off n sz : Nat} {vs : Nat → Nat → Value} (h : ∀ i j, i < n → j < sz → w.cell? ⟨b, off + i * sz + j, none⟩ = some (vs i j)) {k : Nat} {v : Value} (hk : (flatV vs n sz)[k]? = some v) : w.cell? ⟨b, off + k, none⟩ = some v := by
  have hlt : k < n * sz := by rw [← flatV_len vs n sz]; exact getElem?_lt hk
  have hsz : 0 < sz := by rcases Nat.eq_zero_or_pos sz with e | e; · subst e; simp at hlt
                          · exact e
  have h1 : k / sz < n := Nat.div_lt_of_lt_mul (by rw [Nat.mul_comm]; exact hlt)
  have h2 := Nat.mod_lt k hsz
  have h3 : k / sz * sz + k % sz = k := by rw [Nat.mul_comm]; exact Nat.div_add_mod k sz
  have h4 := flatV_get (vs := vs) h1 h2
  rw [h3, hk] at h4
  have h5 := h _ _ h1 h2
  rw [Nat.add_assoc, h3] at h5
  rw [h5, h4]

theorem cell_heap {w w2 : World} (h : w2.heap = w.heap) (x : Addr) : w2.cell? x = w.cell? x := by unfold World.cell?; rw [h]
/-- What stands behind in an append. -/
structure SrcFit (P : Program) (N : Nat) (w0 : World) (ok0 : Nat → Prop) (loc : Nat → Option (Nat × Nat × Nat)) (So : Nat → Nat → Prop) (Pd : Nat → Prop) (σ : St) (a : Act) (w : World) (x : Value) (sz : Nat) (new : List (List AV)) (σ' : St) (So' : Nat → Nat → Prop) (Pd' : Nat → Prop) (nv : List Value) (Sf : Nat → Nat → Nat → Prop) : Prop where
  rep : RepW N w0 ok0 loc So' Pd' σ' a w
  len : nv.length = new.length * sz
  lenOf : (Builtin.lenOf x).run P w = .ok new.length w
  first : ∀ w2 : World, w2.heap = w.heap → (Builtin.firstCells sz new.length x).run P w2 = .ok nv.toArray w2
  cell : ∀ (i : Nat) (cs : List AV) (j : Nat) (av : AV), new[i]? = some cs → cs[j]? = some av → CellOK w (Fz w0 ok0 So' Pd' w) (nv.getD (i * sz + j) undef) av (Sf i j)
  one : ∀ u ∈ nv, u.oneCell' = true
  sub : ∀ i j x, Sf i j x → Pd' x ∧ ¬ Pd x ∧ w0.heap.size ≤ x ∧ x < w.heap.size
  dis : ∀ i j i' j' x, Sf i j x → Sf i' j' x → i = i' ∧ j = j'
  objs : ∀ o ob, klook σ'.objs o = some ob → klook σ.objs o = some ob ∧ ∀ x, So o x → So' o x
  regs : ∀ t v, klook σ'.regs t = some v → v = .junk ∨ klook σ.regs t = some v

section rep
variable {P : Program} {N : Nat} {w0 : World} {ok0 : Nat → Prop} {loc : Nat → Option (Nat × Nat × Nat)} {So : Nat → Nat → Prop} {Pd : Nat → Prop} {σ σ' : St} {a : Act} {w : World} {X : Nat → List DA → Option (Bool × RV)} {o : Oper}

theorem src_rd {ok : Nat → Prop} {v : Value} {es : List (List D)} {sz : Nat} (h : Rd w ok v (.sl es)) (hz : ∀ cs ∈ es, cs.length = sz) :
    ∃ nv : List Value, nv.length = es.length * sz ∧ (Builtin.lenOf v).run P w = .ok es.length w ∧ (∀ w2 : World, w2.heap = w.heap → (Builtin.firstCells sz es.length v).run P w2 = .ok nv.toArray w2) ∧
      (∀ (i : Nat) (cs : List D) (j : Nat) (d : D), es[i]? = some cs → cs[j]? = some d → Rd w ok (nv.getD (i * sz + j) undef) d) ∧ (∀ u ∈ nv, u.oneCell' = true) := by
  cases h with
  | nil A c =>
    refine ⟨[], by simp, by simp [Builtin.lenOf], ?_, fun i cs j d hi => by simp at hi, fun u hu => by simp at hu⟩
    intro w2 _
    cases A <;> simp [Builtin.firstCells, loadCells, loadCellsFrom]
  | sl b off sz' c _ vs hb hc hz' hm hr =>
    by_cases h0 : es = []
    · subst h0
      refine ⟨[], by simp, by simp [Builtin.lenOf], fun _ _ => by simp [Builtin.firstCells, loadCells, loadCellsFrom], fun i cs j d hi => by simp at hi, fun u hu => by simp at hu⟩
    · have hsz : sz' = sz := by
        have hp : 0 < es.length := List.length_pos_iff.2 h0
        have e1 := hz' 0 _ (List.getElem?_eq_getElem hp)
        have e2 := hz _ (List.getElem_mem hp)
        omega
      subst hsz
      have hcell : ∀ i j, i < es.length → j < sz' → w.cell? ⟨b, off + i * sz' + j, none⟩ = some (vs i j) := fun i j hi hj => by
        have e := List.getElem?_eq_getElem hi
        have hl := hz' i _ e
        exact hm i _ j _ e (List.getElem?_eq_getElem (show j < es[i].length by omega))
      refine ⟨flatV vs es.length sz', flatV_len _ _ _, by simp [Builtin.lenOf], ?_, fun i cs j d hi hj => ?_, fun u hu => ?_⟩
      · exact fun w2 h2 => run_firstCells_some (P := P) w2 sz' es.length ⟨b, off, none⟩ es.length c _ (flatV_len _ _ _) (fun k v hk => by rw [add_plain, cell_heap h2]; exact flatV_cell hcell hk)
      · have hj' : j < sz' := by rw [← hz' i cs hi]; exact getElem?_lt hj
        rw [List.getD_eq_getElem?_getD, flatV_get (getElem?_lt hi) hj']
        exact hr i cs j d hi hj
      · simp only [flatV, List.mem_map, List.mem_range] at hu
        obtain ⟨k, hk, rfl⟩ := hu
        have hsz : 0 < sz' := by rcases Nat.eq_zero_or_pos sz' with e | e; · subst e; simp at hk
                                 · exact e
        have h1 : k / sz' < es.length := Nat.div_lt_of_lt_mul (by rw [Nat.mul_comm]; exact hk)
        have e := List.getElem?_eq_getElem h1
        have hl := hz' _ _ e
        exact rd_one (hr _ _ _ _ e (List.getElem?_eq_getElem (show k % sz' < es[k / sz'].length by rw [hl]; exact Nat.mod_lt _ hsz)))

theorem rowF_get {es : List (List D)} {i j : Nat} {cs : List AV} {av : AV} (hi : (rowF es)[i]? = some cs) (hj : cs[j]? = some av) : ∃ ds d, es[i]? = some ds ∧ ds[j]? = some d ∧ av = .d d := by
  simp only [rowF, List.getElem?_map] at hi
  obtain ⟨ds, h1, rfl⟩ := Option.map_eq_some_iff.1 hi
  rw [List.getElem?_map] at hj
  obtain ⟨d, h2, rfl⟩ := Option.map_eq_some_iff.1 hj
  exact ⟨ds, d, h1, h2, rfl⟩
theorem rowO_get {es : List (List D)} {i j : Nat} {cs : List AV} {av : AV} (hi : (rowO es)[i]? = some cs) (hj : cs[j]? = some av) : ∃ ds d, es[i]? = some ds ∧ ds[j]? = some d ∧ av = cellOwn d := by
  simp only [rowO, List.getElem?_map] at hi
  obtain ⟨ds, h1, rfl⟩ := Option.map_eq_some_iff.1 hi
  rw [List.getElem?_map] at hj
  obtain ⟨d, h2, rfl⟩ := Option.map_eq_some_iff.1 hj
  exact ⟨ds, d, h1, h2, rfl⟩
theorem rowF_all {es : List (List D)} {sz : Nat} (h : (rowF es).all (fun cs => cs.length == sz) = true) : ∀ cs ∈ es, cs.length = sz := by
  intro cs hcs
  have := List.all_eq_true.1 h (cs.map AV.d) (List.mem_map.2 ⟨cs, hcs, rfl⟩)
  simpa using this
theorem rowO_all {es : List (List D)} {sz : Nat} (h : (rowO es).all (fun cs => cs.length == sz) = true) : ∀ cs ∈ es, cs.length = sz := by
  intro cs hcs
  have := List.all_eq_true.1 h (cs.map cellOwn) (List.mem_map.2 ⟨cs, hcs, rfl⟩)
  simpa using this
theorem cellOwn_ok {fz S : Nat → Prop} {v : Value} {d : D} (h : Own w v d S) : CellOK w fz v (cellOwn d) S := by
  cases d with
  | sl es => exact h
  | _ => exact scalar_rd h.rd rfl _ _

theorem tailOf_ok (h : RepW N w0 ok0 loc So Pd σ a w) {x : Value} {av : AV} {sz : Nat} {q : List (List AV) × St} (hx : RegOK w (Fz w0 ok0 So Pd w) loc So σ.objs x av) (ht : tailOf σ av = some q) (hz : q.1.all (fun cs => cs.length == sz) = true)
    (hsz : sz ≠ 0) : ∃ So' Pd' nv Sf, SrcFit P N w0 ok0 loc So Pd σ a w x sz q.1 q.2 So' Pd' nv Sf := by
  have plain : ∀ (es : List (List D)) (ok : Nat → Prop), q = (rowF es, σ) → Rd w ok x (.sl es) → (∀ v d cs, cs ∈ es → d ∈ cs → Rd w ok v d → Rd w (Fz w0 ok0 So Pd w) v d) → ∃ So' Pd' nv Sf, SrcFit P N w0 ok0 loc So Pd σ a w x sz q.1 q.2 So' Pd' nv Sf := by
    intro es ok e hr hc
    subst e
    obtain ⟨nv, n1, n2, n3, n4, n5⟩ := src_rd (P := P) hr (rowF_all hz)
    have hl : (rowF es).length = es.length := by simp [rowF]
    refine ⟨So, Pd, nv, fun _ _ _ => False, h, by rw [hl]; exact n1, by rw [hl]; exact n2, by rw [hl]; exact n3, fun i cs j av hi hj => ?_, n5, fun i j x hx => hx.elim, fun i j i' j' x hx => hx.elim, fun o ob ho => ⟨ho, fun x hx => hx⟩, fun t v hv => .inr hv⟩
    obtain ⟨ds, d, h1, h2, rfl⟩ := rowF_get hi hj
    exact hc _ _ _ (List.mem_of_getElem? h1) (List.mem_of_getElem? h2) (n4 i ds j d h1 h2)
  cases av with
  | nil =>
    simp only [tailOf, Option.some.injEq] at ht
    simp only [RegOK] at hx
    exact plain [] (fun _ => False) (by rw [← ht]; rfl) (by rw [hx]; exact .nil _ _) (fun v d cs hcs => by simp at hcs)
  | d dd =>
    cases dd with
    | sl es =>
      simp only [tailOf, Option.some.injEq] at ht
      simp only [RegOK] at hx
      exact plain es _ ht.symm hx (fun v d cs _ _ hr => hr)
    | s l =>
      simp only [tailOf, Option.some.injEq] at ht
      have e := reg_s hx
      subst e ht
      have hl : (rowF (ofBytes l)).length = l.length := by simp [rowF, ofBytes]
      have h1 : l = [] ∨ sz = 1 := by
        cases l with
        | nil => exact .inl rfl
        | cons b l => right; have := rowF_all hz [D.i .u8 b.toNat] (by simp [ofBytes]); simpa using this.symm
      refine ⟨So, Pd, l.map fun b => .int .u8 b.toNat, fun _ _ _ => False, h, ?_, ?_, ?_, fun i cs j av hi hj => ?_, fun u hu => ?_, fun i j x hx => hx.elim, fun i j i' j' x hx => hx.elim, fun o ob ho => ⟨ho, fun x hx => hx⟩, fun t v hv => .inr hv⟩
      · rw [hl, List.length_map]
        rcases h1 with e | e
        · subst e; simp
        · rw [e, Nat.mul_one]
      · rw [hl]
        simp [Builtin.lenOf, strV, ← ByteArray.size_data]
      · intro w2 _
        rw [hl]
        simp only [Builtin.firstCells, strV, Sem.run_pure, ByteArray.extract_mk]
        simp
      · obtain ⟨ds, d, q1, q2, rfl⟩ := rowF_get hi hj
        simp only [ofBytes, List.getElem?_map] at q1
        obtain ⟨b, q3, rfl⟩ := Option.map_eq_some_iff.1 q1
        cases j with
        | succ j => simp at q2
        | zero =>
          simp only [List.getElem?_cons_zero, Option.some.injEq] at q2
          subst q2
          have e : sz = 1 := by
            rcases h1 with e | e
            · subst e; simp at q3
            · exact e
          subst e
          simp only [Nat.mul_one, Nat.add_zero, List.getD_eq_getElem?_getD, List.getElem?_map, q3, Option.map_some, Option.getD_some, CellOK]
          exact .i _ _
      · simp only [List.mem_map] at hu
        obtain ⟨b, _, rfl⟩ := hu
        rfl
    | _ => simp [tailOf] at ht
  | vw o' dd =>
    cases dd with
    | sl es =>
      simp only [tailOf] at ht
      by_cases hs : es.all (fun cs => cs.all D.scalar) = true
      · rw [if_pos hs] at ht
        simp only [Option.some.injEq] at ht
        simp only [RegOK] at hx
        refine plain es _ ht.symm hx.2 (fun v d cs hcs hd hr => scalar_rd hr ?_ _ _)
        exact List.all_eq_true.1 (List.all_eq_true.1 hs cs hcs) d hd
      · rw [if_neg hs] at ht; cases ht
    | _ => simp [tailOf] at ht
  | h o' off n =>
    simp only [tailOf] at ht
    obtain ⟨ob, hob, ht⟩ := Option.bind_eq_some_iff.1 ht
    simp only [RegOK] at hx
    obtain ⟨ob', hob', hle, hv⟩ := hx
    rw [hob] at hob'
    obtain rfl := Option.some.inj hob'
    split at ht
    · rename_i es hes
      have hO := h.objs o' ob hob
      have hown : Own w x (.sl es) (So o') := fold_ok hO hle hv hes
      by_cases hs : es.all (fun cs => cs.all D.scalar) = true
      · rw [if_pos hs] at ht
        simp only [Option.some.injEq] at ht
        refine plain es _ ht.symm hown.rd (fun v d cs hcs hd hr => scalar_rd hr ?_ _ _)
        exact List.all_eq_true.1 (List.all_eq_true.1 hs cs hcs) d hd
      · rw [if_neg hs] at ht
        simp only [Option.some.injEq] at ht
        subst ht
        have hl : (rowO es).length = es.length := by simp [rowO]
        have hR := h.gone o'
        have hzz := rowO_all hz
        cases hown with
        | nil A => simp at hs
        | sl _ b off' sz' cap _ vs Sf hS hm hz' hsub hdis hr =>
          have h0 : es ≠ [] := by intro e; subst e; simp at hs
          have hsz : sz' = sz := by
            have hp : 0 < es.length := List.length_pos_iff.2 h0
            have e1 := hz' 0 _ (List.getElem?_eq_getElem hp)
            have e2 := hzz _ (List.getElem_mem hp)
            omega
          subst hsz
          refine ⟨_, _, flatV vs es.length sz', fun i j x => i < es.length ∧ j < sz' ∧ Sf i j x, hR, by rw [hl]; exact flatV_len _ _ _, by rw [hl]; simp [Builtin.lenOf], ?_, fun i cs j av hi hj => ?_, fun u hu => ?_, fun i j x hx => ?_, fun i j i' j' x hx hx' => hdis i j i' j' x hx.2.2 hx'.2.2, fun o2 ob2 ho2 => ?_, fun t v' hk => ?_⟩
          · intro w2 h2
            rw [hl]
            exact run_firstCells_some (P := P) w2 sz' es.length ⟨b, off', none⟩ es.length cap _ (flatV_len _ _ _) (fun k v hk => by rw [add_plain, cell_heap h2]; exact flatV_cell (fun i j hi hj => hm.cell hi hj) hk)
          · obtain ⟨ds, d, q1, q2, rfl⟩ := rowO_get hi hj
            have hj' : j < sz' := by rw [← hz' i ds q1]; exact getElem?_lt q2
            rw [List.getD_eq_getElem?_getD, flatV_get (getElem?_lt q1) hj']
            exact cellOwn_ok ((hr i ds j d q1 q2).mono (fun b hb => ⟨getElem?_lt q1, hj', hb⟩) (fun _ _ => rfl))
          · simp only [flatV, List.mem_map, List.mem_range] at hu
            obtain ⟨k, hk, rfl⟩ := hu
            have h1 : k / sz' < es.length := Nat.div_lt_of_lt_mul (by rw [Nat.mul_comm]; exact hk)
            have e := List.getElem?_eq_getElem h1
            have hl' := hz' _ _ e
            exact own_one (hr _ _ _ _ e (List.getElem?_eq_getElem (show k % sz' < es[k / sz'].length by rw [hl']; exact Nat.mod_lt _ (by omega))))
          · obtain ⟨q1, _⟩ := hsub i j x hx.2.2
            obtain ⟨p1, p2, p3, p4⟩ := h.has o' x q1
            exact ⟨.inr q1, p4, p2, p3⟩
          · simp only [St.gone] at ho2
            have hne : o2 ≠ o' := by intro e; subst e; rw [klook_kdel_same] at ho2; cases ho2
            rw [klook_kdel_ne _ hne] at ho2
            exact ⟨ho2, fun x hx => ⟨hne, hx⟩⟩
          · rcases unref_regs σ o' t v' hk with e | ⟨e, _⟩
            · exact .inl e
            · exact .inr e
    · cases ht
  | _ => simp [tailOf] at ht

end rep
end Go.Proofs.YtmccpbabpnffcaaK
