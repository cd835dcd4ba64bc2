/- Operations that change no memory: that the abstract machine says what they do. -/
import Derived.Test.YtniakiefibpgmaaGreatDoorJ5
import Derived.Laws.StructEq
set_option linter.unusedVariables false
set_option linter.unusedSimpArgs false
namespace Go.Proofs.YtniakiefibpgmaaGreatDoorK
open Go.RowKit

section rep
variable {P : Program} {N : Nat} {E : Ent} {loc : Nat → Option (Nat × Nat × Nat)} {So : Nat → Nat → Prop} {Pd : Nat → Prop} {σ : St} {a : Act} {w : World}

/-- A value that is told to be so goes into its register. -/
theorem outc_val (h : RepW N E loc So Pd σ a w) {o : Oper} {d : Nat} {v : Value} {av : AV} (hd : o.dst = some d) (hn : d < N)
    (hr : (execOp a.eval o).run P w = .ok (.value v) w) (hv : RegOK w (Fz E So Pd w) loc So σ.objs v av) : Outc P o a w (Rep N E (σ.set d av)) := by
  refine .val v w hr ?_
  rw [hd]
  exact ⟨loc, So, Pd, h.set hn hv⟩

theorem pickV_ok {t : Bool} {x y : AV} {u v : Value} (hx : RegOK w (Fz E So Pd w) loc So σ.objs u x) (hy : RegOK w (Fz E So Pd w) loc So σ.objs v y) :
    RegOK w (Fz E So Pd w) loc So σ.objs (if t then u else v) (pickV t x y) := by
  cases t
  · have : pickV false x y = y := by unfold pickV; split <;> simp
    rw [this]; exact hy
  · have : pickV true x y = x := by unfold pickV; split <;> simp
    rw [this]; exact hx

theorem cvs_len (fz : Bool) (k : Nat) (hs : List (Nat × Nat × Option Nat)) (i : Nat) : ∀ (cs : List D) (j : Nat), (cvs fz k hs i j cs).length = cs.length
  | [], _ => rfl
  | _ :: cs, j => by simp only [cvs, List.length_cons, cvs_len fz k hs i cs (j + 1)]
theorem cvs_get (fz : Bool) (k : Nat) (hs : List (Nat × Nat × Option Nat)) (i : Nat) : ∀ (cs : List D) (j q : Nat), (cvs fz k hs i j cs)[q]? = (cs[q]?).map (cv fz k hs i (j + q))
  | [], _, _ => by simp [cvs]
  | c :: cs, j, 0 => by simp [cvs]
  | c :: cs, j, q + 1 => by
    simp only [cvs, List.getElem?_cons_succ, cvs_get fz k hs i cs (j + 1) q]
    rw [Nat.add_assoc, Nat.add_comm 1 q]
theorem ob_cell {t : T} {fz : Bool} {l : List t.den} {k : Nat} {hs : List (Nat × Nat × Option Nat)} {i j : Nat} {x : t.den} {d : D} (hx : l[i]? = some x) (hd : (cellsT t x)[j]? = some d) : (Ob.ls t fz l k hs).cell i j = some (cv fz k hs i j d) := by
  simp only [Ob.cell, hx, Option.bind_some, hd, Option.map_some]
/-- A cell of ours, as it is read. -/
theorem view_ok {o : Nat} {v : Value} {c : CV} {S : Nat → Prop} (hs : (klook σ.objs o).isSome) (hS : ∀ b, S b → So o b) (hc : CellOK w (Fz E So Pd w) loc So σ.objs v c S) : RegOK w (Fz E So Pd w) loc So σ.objs v (viewOf σ o c) := by
  cases c with
  | d x => simp only [viewOf, RegOK]; exact hc
  | own x =>
    have hrd := Own.rd hc
    cases x with
    | sl t l => simp only [viewOf, RegOK]; exact ⟨hs, hrd.mono hS (fun _ _ => rfl)⟩
    | _ => simp only [viewOf, RegOK]; exact scalar_rd hrd rfl _ _
  | lent o2 =>
    obtain ⟨ob, hob, hv⟩ := hc
    simp only [viewOf, hob, RegOK]
    exact ⟨ob, rfl, by omega, hv⟩
  | fn a => simp only [viewOf, RegOK]
  | pb t f x => exact hc.elim
  | junk => simp only [viewOf, RegOK]
theorem kcut_some {α : Type} {l r : List α} {j n : Nat} (h : kcut l j n = some r) : j + n ≤ l.length ∧ r = (l.drop j).take n := by
  unfold kcut at h
  split at h
  · rename_i e; exact ⟨e, (Option.some.inj h).symm⟩
  · cases h
theorem regsOK_of {fz : Nat → Prop} {objs : List (Nat × Ob)} : ∀ (l : List AV) (vs : List Value), vs.length = l.length → (∀ (q : Nat) (v : Value) (a : AV), vs[q]? = some v → l[q]? = some a → RegOK w fz loc So objs v a) → RegsOK w fz loc So objs vs l
  | [], [], _, _ => by simp only [RegsOK]
  | [], _ :: _, h, _ => by simp at h
  | _ :: _, [], h, _ => by simp at h
  | a :: l, v :: vs, h, hq => by
    simp only [RegsOK]
    exact ⟨hq 0 v a rfl rfl, regsOK_of l vs (by simpa using h) (fun q v' a' h1 h2 => hq (q + 1) v' a' (by simpa using h1) (by simpa using h2))⟩
/-- Cells of an object of ours, one behind the other. -/
theorem views_ok (h : RepW N E loc So Pd σ a w) {o i j sz : Nat} {t : T} {fz : Bool} {l : List t.den} {k : Nat} {hs : List (Nat × Nat × Option Nat)} {x : t.den} {cs : List D} {b base cap : Nat} (hob : klook σ.objs o = some (.ls t fz l k hs)) (hloc : loc o = some (b, base, cap))
    (hx : l[i]? = some x) (hl : kcut (cellsT t x) j sz = some cs) :
    ∃ vs : List Value, vs.length = sz ∧ (∀ (q : Nat) (v : Value), vs[q]? = some v → w.cell? ⟨b, base + i * t.w + j + q, none⟩ = some v) ∧
      RegsOK w (Fz E So Pd w) loc So σ.objs vs ((cvs fz k hs i j cs).map (viewOf σ o)) := by
  obtain ⟨hb, vs, Sf, hrow, hsub, hd, hc⟩ := (h.objs o _ hob).some' b base cap hloc
  have hi := get_lt hx
  obtain ⟨hle, rfl⟩ := kcut_some hl
  rw [cellsT_len] at hle
  refine ⟨(List.range sz).map fun q => vs i (j + q), by simp, fun q v hq => ?_, regsOK_of _ _ ?_ (fun q v av h1 h2 => ?_)⟩
  · rw [List.getElem?_map] at hq
    obtain ⟨q', hq1, hq2⟩ := Option.map_eq_some_iff.1 hq
    have hq3 : q < sz := by simpa using get_lt hq1
    rw [List.getElem?_range hq3] at hq1
    obtain rfl := Option.some.inj hq1
    subst hq2
    rw [Nat.add_assoc (base + i * t.w) j q]
    exact hrow.cell hi (show j + q < t.w by omega)
  · simp only [List.length_map, List.length_range, cvs_len, List.length_take, List.length_drop, cellsT_len]; omega
  · rw [List.getElem?_map] at h1 h2
    obtain ⟨q', hq1, hq2⟩ := Option.map_eq_some_iff.1 h1
    have hq3 : q < sz := by simpa using get_lt hq1
    rw [List.getElem?_range hq3] at hq1
    obtain rfl := Option.some.inj hq1
    subst hq2
    obtain ⟨c, hc1, rfl⟩ := Option.map_eq_some_iff.1 h2
    rw [cvs_get] at hc1
    obtain ⟨dd, hdd, rfl⟩ := Option.map_eq_some_iff.1 hc1
    rw [List.getElem?_take, if_pos hq3, List.getElem?_drop] at hdd
    exact view_ok (by rw [hob]; rfl) (fun b hb => (hsub _ _ b hb).1) (hc i (j + q) _ (ob_cell hx hdd))

/-- Cells behind a pointer that only reads. -/
theorem viewsD_ok {o : Option Nat} {cs l : List D} {b off sz : Nat} {k : Nat}
    (hs : ∀ o', o = some o' → (klook σ.objs o').isSome)
    (vs : Nat → Value) (hc : ∀ (j : Nat) (d : D), cs[j]? = some d → w.cell? ⟨b, off + j, none⟩ = some (vs j) ∧ Rd w (okAt (Fz E So Pd w) So o) (vs j) d)
    (hl : kcut cs k sz = some l) :
    ∃ us : List Value, us.length = sz ∧ (∀ (q : Nat) (v : Value), us[q]? = some v → w.cell? ⟨b, off + (k + q), none⟩ = some v) ∧ RegsOK w (Fz E So Pd w) loc So σ.objs us (l.map (viewD o)) := by
  unfold kcut at hl
  by_cases hle : k + sz ≤ cs.length
  case neg => rw [if_neg hle] at hl; cases hl
  rw [if_pos hle] at hl
  obtain rfl := Option.some.inj hl
  have key : ∀ (m k : Nat), k + m ≤ cs.length → RegsOK w (Fz E So Pd w) loc So σ.objs ((List.range m).map fun q => vs (k + q)) (((cs.drop k).take m).map (viewD o)) := by
    intro m
    induction m with
    | zero => intro k _; simp only [List.range_zero, List.map_nil, List.take_zero, RegsOK]
    | succ m ih =>
      intro k hk
      have hk' : k < cs.length := by omega
      rw [List.range_succ_eq_map, List.drop_eq_getElem_cons hk', List.take_succ_cons]
      simp only [List.map_cons, List.map_map, RegsOK, Nat.add_zero]
      refine ⟨?_, ?_⟩
      · have hcell := (hc k _ (List.getElem?_eq_getElem hk')).2
        cases o with
        | none =>
          simp only [okAt] at hcell
          cases hd : cs[k] <;> rw [hd] at hcell <;> simpa only [viewD, RegOK] using hcell
        | some o' =>
          simp only [okAt] at hcell
          cases hd : cs[k] with
          | sl t l => rw [hd] at hcell; simp only [viewD, RegOK]; exact ⟨hs o' rfl, hcell⟩
          | _ => rw [hd] at hcell; simp only [viewD, RegOK]; exact scalar_rd hcell rfl _ _
      · have := ih (k + 1) (by omega)
        simpa [Function.comp_def, Nat.add_assoc, Nat.add_comm 1] using this
  refine ⟨(List.range sz).map fun q => vs (k + q), by simp, fun q v hq => ?_, key sz k hle⟩
  rw [List.getElem?_map] at hq
  obtain ⟨q', hq1, hq2⟩ := Option.map_eq_some_iff.1 hq
  have hq3 : q < sz := by
    rcases Nat.lt_or_ge q sz with z | z
    · exact z
    · rw [List.getElem?_eq_none (by simpa using z)] at hq1; cases hq1
  rw [List.getElem?_range hq3] at hq1
  obtain rfl := Option.some.inj hq1
  subst hq2
  exact (hc _ _ (List.getElem?_eq_getElem (show k + q < cs.length by omega))).1

theorem RegsOK.length {vs : List Value} {l : List AV} {fz : Nat → Prop} {objs : List (Nat × Ob)} (h : RegsOK w fz loc So objs vs l) : vs.length = l.length := by
  induction vs generalizing l with
  | nil => cases l with
    | nil => rfl
    | cons _ _ => simp only [RegsOK] at h
  | cons v vs ih => cases l with
    | nil => simp only [RegsOK] at h
    | cons a l => simp only [RegsOK] at h; simp [ih h.2]
theorem RegsOK.get {vs : List Value} {l : List AV} {fz : Nat → Prop} {objs : List (Nat × Ob)} (h : RegsOK w fz loc So objs vs l) {j : Nat} {av : AV} (hj : l[j]? = some av) : ∃ v, vs[j]? = some v ∧ RegOK w fz loc So objs v av := by
  induction vs generalizing l j with
  | nil => cases l with
    | nil => simp at hj
    | cons _ _ => simp only [RegsOK] at h
  | cons v vs ih => cases l with
    | nil => simp at hj
    | cons a l =>
      simp only [RegsOK] at h
      cases j with
      | zero =>
        have : a = av := by simpa using hj
        subst this
        exact ⟨v, by simp, h.1⟩
      | succ j => exact ih h.2 (by simpa using hj)
theorem RegsOK.take {vs : List Value} {l : List AV} {fz : Nat → Prop} {objs : List (Nat × Ob)} (h : RegsOK w fz loc So objs vs l) (n : Nat) : RegsOK w fz loc So objs (vs.take n) (l.take n) := by
  induction vs generalizing l n with
  | nil => cases l with
    | nil => simp only [List.take_nil, RegsOK]
    | cons _ _ => simp only [RegsOK] at h
  | cons v vs ih => cases l with
    | nil => simp only [RegsOK] at h
    | cons a l =>
      cases n with
      | zero => simp only [List.take_zero, RegsOK]
      | succ n => simp only [RegsOK] at h; simp only [List.take_succ_cons, RegsOK]; exact ⟨h.1, ih h.2 n⟩
theorem RegsOK.drop {vs : List Value} {l : List AV} {fz : Nat → Prop} {objs : List (Nat × Ob)} (h : RegsOK w fz loc So objs vs l) (n : Nat) : RegsOK w fz loc So objs (vs.drop n) (l.drop n) := by
  induction vs generalizing l n with
  | nil => cases l with
    | nil => simp only [List.drop_nil, RegsOK]
    | cons _ _ => simp only [RegsOK] at h
  | cons v vs ih => cases l with
    | nil => simp only [RegsOK] at h
    | cons a l =>
      cases n with
      | zero => simpa only [List.drop_zero] using h
      | succ n => simp only [RegsOK] at h; simp only [List.drop_succ_cons]; exact ih h.2 n
theorem RegsOK.append {vs us : List Value} {l m : List AV} {fz : Nat → Prop} {objs : List (Nat × Ob)} (h : RegsOK w fz loc So objs vs l) (h' : RegsOK w fz loc So objs us m) : RegsOK w fz loc So objs (vs ++ us) (l ++ m) := by
  induction vs generalizing l with
  | nil => cases l with
    | nil => simpa using h'
    | cons _ _ => simp only [RegsOK] at h
  | cons v vs ih => cases l with
    | nil => simp only [RegsOK] at h
    | cons a l => simp only [RegsOK] at h; simp only [List.cons_append, RegsOK]; exact ⟨h.1, ih h.2⟩

theorem packed_ok {ag : Bool} {vs : List Value} {l : List AV} {v : AV} {fz : Nat → Prop} {objs : List (Nat × Ob)} (h : RegsOK w fz loc So objs vs l) (hp : packed ag l = some v) :
    (ag = true ∧ RegOK w fz loc So objs (.agg vs.toArray) v) ∨ (ag = false ∧ ∃ u, vs = [u] ∧ RegOK w fz loc So objs u v) := by
  unfold packed at hp
  cases ag with
  | true =>
    simp only [if_true] at hp
    obtain rfl := Option.some.inj hp
    exact .inl ⟨rfl, by simp only [RegOK]; exact ⟨vs, rfl, h⟩⟩
  | false =>
    simp only [Bool.false_eq_true, if_false] at hp
    match l, hp with
    | [x], hp =>
      simp only [Option.some.injEq] at hp
      subst hp
      match vs, h with
      | [u], h => simp only [RegsOK] at h; exact .inr ⟨rfl, u, rfl, h.1⟩
      | [], h => simp only [RegsOK] at h
      | _ :: _ :: _, h => simp only [RegsOK] at h; exact h.2.elim

/-- A load. -/
theorem run_load_any {t : TypeId} {sz : Nat} {ag : Bool} (hs : szB P t sz = true) (hg : aggB P t ag = true) {b o : Nat} {vs : List Value} {l : List AV} {v : AV} {fz : Nat → Prop} {objs : List (Nat × Ob)} (hl : vs.length = sz)
    (h : ∀ (j : Nat) (v : Value), vs[j]? = some v → w.cell? ⟨b, o + j, none⟩ = some v) (hr : RegsOK w fz loc So objs vs l) (hp : packed ag l = some v) :
    ∃ u, (loadVar t ⟨b, o, none⟩).run P w = .ok u w ∧ RegOK w fz loc So objs u v := by
  rcases packed_ok hr hp with ⟨rfl, h1⟩ | ⟨rfl, u, rfl, h1⟩
  · exact ⟨_, run_loadVar_ag hs hg b o vs hl h, h1⟩
  · exact ⟨u, run_loadVar_one hg b o u (by simpa using h 0 u (by simp)), h1⟩

theorem asInt_ok {v : Value} {av : AV} {n : Int} {fz : Nat → Prop} {objs : List (Nat × Ob)} (h : RegOK w fz loc So objs v av) (hn : asInt' av = some n) : ∃ k, v = .int k n := by
  unfold asInt' at hn
  split at hn
  · rename_i k m
    obtain rfl := Option.some.inj hn
    simp only [RegOK] at h
    cases h
    exact ⟨_, rfl⟩
  · rename_i b
    obtain rfl := Option.some.inj hn
    simp only [RegOK] at h
    cases h
    exact ⟨_, rfl⟩
  · cases hn
end rep

end Go.Proofs.YtniakiefibpgmaaGreatDoorK
