/- Operations that change no memory: that the abstract machine says what they do. -/
import Derived.Test.YtmccpbabpnffcaaK5
import Derived.Laws.StructEq
set_option linter.unusedVariables false
set_option linter.unusedSimpArgs false
namespace Go.Proofs.YtmccpbabpnffcaaK
open Go.RowKit

section rep
variable {P : Program} {N : Nat} {w0 : World} {ok0 : Nat → Prop} {loc : Nat → Option (Nat × Nat × Nat)} {So : Nat → Nat → Prop} {Pd : Nat → Prop} {σ : St} {a : Act} {w : World}

/-- A value that is told to be so goes into its register. -/
theorem outc_val (h : RepW N w0 ok0 loc So Pd σ a w) {o : Oper} {d : Nat} {v : Value} {av : AV} (hd : o.dst = some d) (hn : d < N)
    (hr : (execOp a.eval o).run P w = .ok (.value v) w) (hv : RegOK w (Fz w0 ok0 So Pd w) loc So σ.objs v av) : Outc P o a w (Rep N w0 ok0 (σ.set d av)) := by
  refine .val v w hr ?_
  rw [hd]
  exact ⟨loc, So, Pd, h.set hn hv⟩

theorem pickV_ok {t : Bool} {x y : AV} {u v : Value} (hx : RegOK w (Fz w0 ok0 So Pd w) loc So σ.objs u x) (hy : RegOK w (Fz w0 ok0 So Pd w) loc So σ.objs v y) :
    RegOK w (Fz w0 ok0 So Pd w) loc So σ.objs (if t then u else v) (pickV t x y) := by
  cases t
  · have : pickV false x y = y := by unfold pickV; split <;> simp
    rw [this]; exact hy
  · have : pickV true x y = x := by unfold pickV; split <;> simp
    rw [this]; exact hx

/-- Cells of an object of ours, one behind the other. -/
theorem views_ok (h : RepW N w0 ok0 loc So Pd σ a w) {o i j sz : Nat} {ob : Ob} {cs l : List AV} {b base cap : Nat} (hob : klook σ.objs o = some ob) (hloc : loc o = some (b, base, cap))
    (hcs : ob.es[i]? = some cs) (hl : kcut cs j sz = some l) :
    ∃ vs : List Value, vs.length = sz ∧ (∀ (q : Nat) (v : Value), vs[q]? = some v → w.cell? ⟨b, base + i * ob.sz + j + q, none⟩ = some v) ∧
      RegsOK w (Fz w0 ok0 So Pd w) loc So σ.objs vs (l.map (viewOf o)) := by
  have hO := h.objs o ob hob
  obtain ⟨hb, vs, Sf, hrow, hs, hd, hc⟩ := hO.some' b base cap hloc
  have hi : i < ob.es.length := by
    rcases Nat.lt_or_ge i ob.es.length with q | q
    · exact q
    · rw [List.getElem?_eq_none q] at hcs; cases hcs
  have hlen := hO.size i cs hcs
  unfold kcut at hl
  by_cases hle : j + sz ≤ cs.length
  case neg => rw [if_neg hle] at hl; cases hl
  rw [if_pos hle] at hl
  obtain rfl := Option.some.inj hl
  have key : ∀ (m k : Nat), k + m ≤ cs.length → RegsOK w (Fz w0 ok0 So Pd w) loc So σ.objs ((List.range m).map fun q => vs i (k + q)) (((cs.drop k).take m).map (viewOf o)) := by
    intro m
    induction m with
    | zero => intro k _; simp only [List.range_zero, List.map_nil, List.take_zero, RegsOK]
    | succ m ih =>
      intro k hk
      have hk' : k < cs.length := by omega
      rw [List.range_succ_eq_map, List.drop_eq_getElem_cons hk', List.take_succ_cons]
      simp only [List.map_cons, List.map_map, RegsOK, Nat.add_zero]
      refine ⟨?_, ?_⟩
      · have hcell := hc i cs k _ hcs (List.getElem?_eq_getElem hk')
        cases hav : cs[k] with
        | d x => rw [hav] at hcell; simpa only [viewOf, RegOK, CellOK] using hcell
        | nil => rw [hav] at hcell; simpa only [viewOf, RegOK, CellOK] using hcell
        | own x =>
          rw [hav] at hcell
          simp only [CellOK] at hcell
          have hrd := hcell.rd
          cases x with
          | sl es =>
            simp only [viewOf, RegOK]
            exact ⟨by rw [hob]; rfl, hrd.mono (fun b hb => (hs i k b hb).1) (fun _ _ => rfl)⟩
          | _ => simp only [viewOf, RegOK]; exact scalar_rd hrd rfl _ _
        | _ => simp only [viewOf, RegOK]
      · have := ih (k + 1) (by omega)
        simpa [Function.comp_def, Nat.add_assoc, Nat.add_comm 1] using this
  refine ⟨(List.range sz).map fun q => vs i (j + q), by simp, fun q v hq => ?_, key sz j hle⟩
  rw [List.getElem?_map] at hq
  obtain ⟨q', hq1, hq2⟩ := Option.map_eq_some_iff.1 hq
  have hq3 : q < sz := by
    rcases Nat.lt_or_ge q sz with z | z
    · exact z
    · rw [List.getElem?_eq_none (by simpa using z)] at hq1; cases hq1
  rw [List.getElem?_range hq3] at hq1
  obtain rfl := Option.some.inj hq1
  subst hq2
  rw [Nat.add_assoc (base + i * ob.sz) j q]
  exact hrow.cell hi (by omega)

/-- Cells behind a pointer that only reads. -/
theorem viewsD_ok {o : Option Nat} {cs l : List D} {b off sz : Nat} {k : Nat}
    (hs : ∀ o', o = some o' → (klook σ.objs o').isSome)
    (vs : Nat → Value) (hc : ∀ (j : Nat) (d : D), cs[j]? = some d → w.cell? ⟨b, off + j, none⟩ = some (vs j) ∧ Rd w (okAt (Fz w0 ok0 So Pd w) So o) (vs j) d)
    (hl : kcut cs k sz = some l) :
    ∃ us : List Value, us.length = sz ∧ (∀ (q : Nat) (v : Value), us[q]? = some v → w.cell? ⟨b, off + (k + q), none⟩ = some v) ∧ RegsOK w (Fz w0 ok0 So Pd w) loc So σ.objs us (l.map (viewD o)) := by
  unfold kcut at hl
  by_cases hle : k + sz ≤ cs.length
  case neg => rw [if_neg hle] at hl; cases hl
  rw [if_pos hle] at hl
  obtain rfl := Option.some.inj hl
  have key : ∀ (m k : Nat), k + m ≤ cs.length → RegsOK w (Fz w0 ok0 So Pd w) loc So σ.objs ((List.range m).map fun q => vs (k + q)) (((cs.drop k).take m).map (viewD o)) := by
    intro m
    induction m with
    | zero => intro k _; simp only [List.range_zero, List.map_nil, List.take_zero, RegsOK]
    | succ m ih =>
      intro k hk
      have hk' : k < cs.length := by omega
      rw [List.range_succ_eq_map, List.drop_eq_getElem_cons hk', List.take_succ_cons]
      simp only [List.map_cons, List.map_map, RegsOK, Nat.add_zero]
      refine ⟨?_, ?_⟩
      · have hcell := (hc k _ (List.getElem?_eq_getElem hk')).2
        cases o with
        | none =>
          simp only [okAt] at hcell
          cases hd : cs[k] <;> rw [hd] at hcell <;> simpa only [viewD, RegOK] using hcell
        | some o' =>
          simp only [okAt] at hcell
          cases hd : cs[k] with
          | sl es => rw [hd] at hcell; simp only [viewD, RegOK]; exact ⟨hs o' rfl, hcell⟩
          | _ => rw [hd] at hcell; simp only [viewD, RegOK]; exact scalar_rd hcell rfl _ _
      · have := ih (k + 1) (by omega)
        simpa [Function.comp_def, Nat.add_assoc, Nat.add_comm 1] using this
  refine ⟨(List.range sz).map fun q => vs (k + q), by simp, fun q v hq => ?_, key sz k hle⟩
  rw [List.getElem?_map] at hq
  obtain ⟨q', hq1, hq2⟩ := Option.map_eq_some_iff.1 hq
  have hq3 : q < sz := by
    rcases Nat.lt_or_ge q sz with z | z
    · exact z
    · rw [List.getElem?_eq_none (by simpa using z)] at hq1; cases hq1
  rw [List.getElem?_range hq3] at hq1
  obtain rfl := Option.some.inj hq1
  subst hq2
  exact (hc _ _ (List.getElem?_eq_getElem (show k + q < cs.length by omega))).1

theorem RegsOK.length {vs : List Value} {l : List AV} {fz : Nat → Prop} {objs : List (Nat × Ob)} (h : RegsOK w fz loc So objs vs l) : vs.length = l.length := by
  induction vs generalizing l with
  | nil => cases l with
    | nil => rfl
    | cons _ _ => simp only [RegsOK] at h
  | cons v vs ih => cases l with
    | nil => simp only [RegsOK] at h
    | cons a l => simp only [RegsOK] at h; simp [ih h.2]
theorem RegsOK.get {vs : List Value} {l : List AV} {fz : Nat → Prop} {objs : List (Nat × Ob)} (h : RegsOK w fz loc So objs vs l) {j : Nat} {av : AV} (hj : l[j]? = some av) : ∃ v, vs[j]? = some v ∧ RegOK w fz loc So objs v av := by
  induction vs generalizing l j with
  | nil => cases l with
    | nil => simp at hj
    | cons _ _ => simp only [RegsOK] at h
  | cons v vs ih => cases l with
    | nil => simp at hj
    | cons a l =>
      simp only [RegsOK] at h
      cases j with
      | zero =>
        have : a = av := by simpa using hj
        subst this
        exact ⟨v, by simp, h.1⟩
      | succ j => exact ih h.2 (by simpa using hj)
theorem RegsOK.take {vs : List Value} {l : List AV} {fz : Nat → Prop} {objs : List (Nat × Ob)} (h : RegsOK w fz loc So objs vs l) (n : Nat) : RegsOK w fz loc So objs (vs.take n) (l.take n) := by
  induction vs generalizing l n with
  | nil => cases l with
    | nil => simp only [List.take_nil, RegsOK]
    | cons _ _ => simp only [RegsOK] at h
  | cons v vs ih => cases l with
    | nil => simp only [RegsOK] at h
    | cons a l =>
      cases n with
      | zero => simp only [List.take_zero, RegsOK]
      | succ n => simp only [RegsOK] at h; simp only [List.take_succ_cons, RegsOK]; exact ⟨h.1, ih h.2 n⟩
theorem RegsOK.drop {vs : List Value} {l : List AV} {fz : Nat → Prop} {objs : List (Nat × Ob)} (h : RegsOK w fz loc So objs vs l) (n : Nat) : RegsOK w fz loc So objs (vs.drop n) (l.drop n) := by
  induction vs generalizing l n with
  | nil => cases l with
    | nil => simp only [List.drop_nil, RegsOK]
    | cons _ _ => simp only [RegsOK] at h
  | cons v vs ih => cases l with
    | nil => simp only [RegsOK] at h
    | cons a l =>
      cases n with
      | zero => simpa only [List.drop_zero] using h
      | succ n => simp only [RegsOK] at h; simp only [List.drop_succ_cons]; exact ih h.2 n
theorem RegsOK.append {vs us : List Value} {l m : List AV} {fz : Nat → Prop} {objs : List (Nat × Ob)} (h : RegsOK w fz loc So objs vs l) (h' : RegsOK w fz loc So objs us m) : RegsOK w fz loc So objs (vs ++ us) (l ++ m) := by
  induction vs generalizing l with
  | nil => cases l with
    | nil => simpa using h'
    | cons _ _ => simp only [RegsOK] at h
  | cons v vs ih => cases l with
    | nil => simp only [RegsOK] at h
    | cons a l => simp only [RegsOK] at h; simp only [List.cons_append, RegsOK]; exact ⟨h.1, ih h.2⟩

theorem packed_ok {ag : Bool} {vs : List Value} {l : List AV} {v : AV} {fz : Nat → Prop} {objs : List (Nat × Ob)} (h : RegsOK w fz loc So objs vs l) (hp : packed ag l = some v) :
    (ag = true ∧ RegOK w fz loc So objs (.agg vs.toArray) v) ∨ (ag = false ∧ ∃ u, vs = [u] ∧ RegOK w fz loc So objs u v) := by
  unfold packed at hp
  cases ag with
  | true =>
    simp only [if_true] at hp
    obtain rfl := Option.some.inj hp
    exact .inl ⟨rfl, by simp only [RegOK]; exact ⟨vs, rfl, h⟩⟩
  | false =>
    simp only [Bool.false_eq_true, if_false] at hp
    match l, hp with
    | [x], hp =>
      simp only [Option.some.injEq] at hp
      subst hp
      match vs, h with
      | [u], h => simp only [RegsOK] at h; exact .inr ⟨rfl, u, rfl, h.1⟩
      | [], h => simp only [RegsOK] at h
      | _ :: _ :: _, h => simp only [RegsOK] at h; exact h.2.elim

/-- A load. -/
theorem run_load_any {t : TypeId} {sz : Nat} {ag : Bool} (hs : szB P t sz = true) (hg : aggB P t ag = true) {b o : Nat} {vs : List Value} {l : List AV} {v : AV} {fz : Nat → Prop} {objs : List (Nat × Ob)} (hl : vs.length = sz)
    (h : ∀ (j : Nat) (v : Value), vs[j]? = some v → w.cell? ⟨b, o + j, none⟩ = some v) (hr : RegsOK w fz loc So objs vs l) (hp : packed ag l = some v) :
    ∃ u, (loadVar t ⟨b, o, none⟩).run P w = .ok u w ∧ RegOK w fz loc So objs u v := by
  rcases packed_ok hr hp with ⟨rfl, h1⟩ | ⟨rfl, u, rfl, h1⟩
  · exact ⟨_, run_loadVar_ag hs hg b o vs hl h, h1⟩
  · exact ⟨u, run_loadVar_one hg b o u (by simpa using h 0 u (by simp)), h1⟩

theorem asInt_ok {v : Value} {av : AV} {n : Int} {fz : Nat → Prop} {objs : List (Nat × Ob)} (h : RegOK w fz loc So objs v av) (hn : asInt' av = some n) : ∃ k, v = .int k n := by
  unfold asInt' at hn
  split at hn
  · rename_i k m
    obtain rfl := Option.some.inj hn
    simp only [RegOK] at h
    cases h
    exact ⟨_, rfl⟩
  · cases hn
end rep

end Go.Proofs.YtmccpbabpnffcaaK
