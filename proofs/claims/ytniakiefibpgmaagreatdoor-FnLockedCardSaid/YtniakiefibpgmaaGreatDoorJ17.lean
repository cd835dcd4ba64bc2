/- Contracts: what a function gives back for what it is handed; and calls by them. -/
import Derived.Test.YtniakiefibpgmaaGreatDoorJ16
set_option linter.unusedVariables false
set_option linter.unusedSimpArgs false
namespace Go.Proofs.YtniakiefibpgmaaGreatDoorK
open Go.RowKit

mutual
def RV.cells : RV → List RC
  | .one c => [c]
  | .agg l => l
  | .tup l => RV.cellsL l
def RV.cellsL : List RV → List RC
  | [] => []
  | a :: l => a.cells ++ RV.cellsL l
end
mutual
/-- The cells of what is handed back. -/
def Shape : Value → RV → List Value → Prop
  | v, .one _, vs => vs = [v]
  | v, .agg l, vs => v = .agg vs.toArray ∧ vs.length = l.length
  | v, .tup l, vs => ∃ us : List Value, v = .tuple us.toArray ∧ ShapeL us l vs
def ShapeL : List Value → List RV → List Value → Prop
  | [], [], vs => vs = []
  | u :: us, a :: l, vs => ∃ vs1 vs2, vs = vs1 ++ vs2 ∧ Shape u a vs1 ∧ ShapeL us l vs2
  | _, _, _ => False
end
mutual
theorem shape_len : ∀ (r : RV) (v : Value) (vs : List Value), Shape v r vs → vs.length = r.cells.length
  | .one x, v, vs, hs => by simp only [Shape] at hs; subst hs; rfl
  | .agg l, v, vs, hs => by simp only [Shape] at hs; exact hs.2
  | .tup l, v, vs, hs => by
    simp only [Shape] at hs
    obtain ⟨us, hv, hs⟩ := hs
    exact shapeL_len l us vs hs
theorem shapeL_len : ∀ (l : List RV) (us vs : List Value), ShapeL us l vs → vs.length = (RV.cellsL l).length
  | [], [], vs, hs => by simp only [ShapeL] at hs; subst hs; rfl
  | [], _ :: _, _, hs => by simp only [ShapeL] at hs
  | _ :: _, [], _, hs => by simp only [ShapeL] at hs
  | a :: l, u :: us, vs, hs => by
    simp only [ShapeL] at hs
    obtain ⟨vs1, vs2, rfl, h1, h2⟩ := hs
    simp only [RV.cellsL, List.length_append, shape_len a u vs1 h1, shapeL_len l us vs2 h2]
end

/-- At the entry: the arguments, and the objects that are handed on. -/
structure Entry (w : World) (ok own : Nat → Prop) (loc : Nat → Option (Nat × Nat × Nat)) (So : Nat → Nat → Prop) (as : List AV) (obs : List Ob) (vs : List Value) : Prop where
  okl : ∀ x, ok x → x < w.heap.size ∧ ¬ own x
  ownl : ∀ x, own x → x < w.heap.size
  has : ∀ k x, So k x → own x ∧ k < obs.length
  dis : ∀ k k' x, So k x → So k' x → k = k'
  objs : ∀ (k : Nat) (ob : Ob), obs[k]? = some ob → ob.closed = true ∧ ObjOK w ok loc So (argObjs 0 obs) (loc k) ob (So k)
  regs : RegsOK w ok loc So (argObjs 0 obs) vs as
/-- One cell of what is handed back. -/
def RetC (w : World) (ok S : Nat → Prop) (v : Value) : RC → Prop
  | .fz x => Rd w ok v x
  | .own x => Own w v x S
  | .bx t f x => BoxC w ok S v t f x
/-- At the end. -/
structure Exit' (w w' : World) (ok own : Nat → Prop) (loc : Nat → Option (Nat × Nat × Nat)) (obs : List Ob) (r : List (Option Ob) × RV) (v : Value) (So Sr : Nat → Nat → Prop) (us : List Value) : Prop where
  keep : Keep own w w'
  len : r.1.length = obs.length
  has : ∀ k x, So k x → (own x ∨ w.heap.size ≤ x) ∧ x < w'.heap.size ∧ ∃ ob, r.1[k]? = some (some ob)
  dis : ∀ k k' x, So k x → So k' x → k = k'
  ret : ∀ j x, Sr j x → (own x ∨ w.heap.size ≤ x) ∧ x < w'.heap.size ∧ ∀ k, ¬ So k x
  rdis : ∀ j j' x, Sr j x → Sr j' x → j = j'
  objs : ∀ (k : Nat) (ob : Ob), r.1[k]? = some (some ob) → ∃ ob0, obs[k]? = some ob0 ∧ ob.sz = ob0.sz ∧ ob.len = ob0.len ∧ ob.closed = true ∧
    ObjOK w' (fun x => (ok x ∨ own x ∨ w.heap.size ≤ x) ∧ x < w'.heap.size ∧ (∀ k, ¬ So k x) ∧ ∀ j, ¬ Sr j x) (fun _ => none) (fun _ _ => False) [] (loc k) ob (So k)
  shape : Shape v r.2 us
  cell : ∀ (j : Nat) (u : Value) (c : RC), us[j]? = some u → r.2.cells[j]? = some c → RetC w' (fun x => (ok x ∨ own x ∨ w.heap.size ≤ x) ∧ x < w'.heap.size ∧ (∀ k, ¬ So k x) ∧ ∀ j, ¬ Sr j x) (Sr j) u c

/-- What is known of the package's variables, in blocks below B. -/
structure Globs where
  B : Nat
  G : World → Prop
  stay : ∀ w w', G w → Below B w w' → G w'
/-- Handed these, the function gives that back. -/
def Ctr (P : Program) (gl : Globs) (f : Nat) (as : List AV) (obs : List Ob) (r : List (Option Ob) × RV) : Prop :=
  (∃ fn, P.funcs[f]? = some fn ∧ (fn.name == "runtime.NumGoroutine") = false ∧ fn.body.isNone = false) ∧
  ∀ (w : World) (ok own : Nat → Prop) (loc : Nat → Option (Nat × Nat × Nat)) (So : Nat → Nat → Prop) (vs : List Value), gl.G w → gl.B ≤ w.heap.size → (∀ x, own x → gl.B ≤ x) → Entry w ok own loc So as obs vs →
    Calls P f vs.toArray w fun e w' => ∃ v So' Sr us, e = .returned v ∧ Exit' w w' ok own loc obs r v So' Sr us
/-- The entry is as the contracts want it. -/
def EntOK (gl : Globs) (E : Ent) : Prop := gl.G E.w0 ∧ gl.B ≤ E.w0.heap.size ∧ ∀ x, E.own0 x → gl.B ≤ x

/-- The instruction of a call. -/
def okC1 (N : Nat) (o : Oper) : I → Bool
  | .call d _ _ f args => dstB o N d && (match o.op with | .call ⟨.value g, as, _⟩ => okO g f && okOs as.toList args | _ => false)
  | _ => false

theorem place_get : ∀ {ps : List Nat} {o k : Nat}, place ps o = some k → ps[k]? = some o
  | [], _, _, h => by simp [place] at h
  | a :: l, o, k, h => by
    simp only [place] at h
    split at h
    · rename_i e; subst e; rw [← Option.some.inj h]; rfl
    · obtain ⟨k', h1, rfl⟩ := Option.map_eq_some_iff.1 h
      simpa using place_get h1
theorem place_none : ∀ {ps : List Nat} {o : Nat}, place ps o = none → ∀ k : Nat, ps[k]? ≠ some o
  | [], _, _, k => by simp
  | a :: l, o, h, k => by
    simp only [place] at h
    split at h
    · cases h
    · rename_i e
      cases k with
      | zero => simp only [List.getElem?_cons_zero, ne_eq, Option.some.injEq]; exact fun q => e q.symm
      | succ k => simpa using place_none (Option.map_eq_none_iff.1 h) k
/-- What is handed on. -/
theorem passed_get : ∀ {σ : St} {ps : List Nat} {obs : List Ob}, passed σ ps = some obs → obs.length = ps.length ∧ (∀ (k o : Nat), ps[k]? = some o → ∃ ob, obs[k]? = some ob ∧ klook σ.objs o = some ob ∧ ob.closed = true) ∧ (∀ k k' o : Nat, ps[k]? = some o → ps[k']? = some o → k = k')
  | σ, [], obs, h => by
    simp only [passed, Option.some.injEq] at h
    subst h
    exact ⟨rfl, fun k o h => by simp at h, fun k k' o h => by simp at h⟩
  | σ, p :: ps, obs, h => by
    simp only [passed] at h
    obtain ⟨ob, hob, h⟩ := Option.bind_eq_some_iff.1 h
    split at h
    case isFalse => cases h
    rename_i hc
    simp only [Bool.and_eq_true, beq_iff_eq] at hc
    obtain ⟨l, hl, rfl⟩ := Option.map_eq_some_iff.1 h
    obtain ⟨h1, h2, h3⟩ := passed_get hl
    refine ⟨by simp [h1], fun k o hk => ?_, fun k k' o hk hk' => ?_⟩
    · cases k with
      | zero => simp only [List.getElem?_cons_zero, Option.some.injEq] at hk; subst hk; exact ⟨ob, rfl, hob, hc.1⟩
      | succ k => simpa using h2 k o (by simpa using hk)
    · cases k with
      | zero =>
        simp only [List.getElem?_cons_zero, Option.some.injEq] at hk
        subst hk
        cases k' with
        | zero => rfl
        | succ k' => exact absurd (by simpa using hk') (place_none hc.2 k')
      | succ k =>
        cases k' with
        | zero =>
          simp only [List.getElem?_cons_zero, Option.some.injEq] at hk'
          subst hk'
          exact absurd (by simpa using hk) (place_none hc.2 k)
        | succ k' => rw [h3 k k' o (by simpa using hk) (by simpa using hk')]
theorem klook_snoc {α : Type} {l : List (Nat × α)} {a t : Nat} {v u : α} (h : klook (l ++ [(a, v)]) t = some u) : klook l t = some u ∨ (t = a ∧ u = v) := by
  induction l with
  | nil =>
    simp only [List.nil_append, klook] at h
    split at h
    · rename_i e; exact .inr ⟨e, (Option.some.inj h).symm⟩
    · cases h
  | cons q l ih =>
    obtain ⟨c, x⟩ := q
    simp only [List.cons_append, klook] at h ⊢
    split at h
    · rename_i e; rw [if_pos e]; exact .inl h
    · rename_i e; rw [if_neg e]; exact ih h
theorem klook_app_none {α : Type} {l : List (Nat × α)} {a t : Nat} {v : α} (h : klook l t = none) : klook (l ++ [(a, v)]) t = if t = a then some v else none := by
  induction l with
  | nil => simp [klook]
  | cons q l ih =>
    obtain ⟨c, x⟩ := q
    simp only [List.cons_append, klook] at h ⊢
    split at h
    · cases h
    · rename_i e; rw [if_neg e]; exact ih h
theorem klook_app_some {α : Type} {l r : List (Nat × α)} {t : Nat} {v : α} (h : klook l t = some v) : klook (l ++ r) t = some v := by
  induction l with
  | nil => simp [klook] at h
  | cons q l ih =>
    obtain ⟨c, x⟩ := q
    simp only [List.cons_append, klook] at h ⊢
    split at h
    · rename_i e; rw [if_pos e]; exact h
    · rename_i e; rw [if_neg e]; exact ih h
theorem argObjs_look : ∀ (obs : List Ob) (k t : Nat), klook (argObjs k obs) t = if k ≤ t then obs[t - k]? else none
  | [], k, t => by simp [argObjs, klook]
  | a :: l, k, t => by
    simp only [argObjs]
    have ih := argObjs_look l (k + 1) t
    by_cases h1 : k + 1 ≤ t
    · rw [if_pos h1] at ih
      have e : t - k = (t - (k + 1)) + 1 := by omega
      rw [if_pos (by omega), e, List.getElem?_cons_succ]
      cases hx : l[t - (k + 1)]? with
      | none => rw [hx] at ih; rw [klook_app_none ih, if_neg (by omega)]
      | some x => rw [hx] at ih; exact klook_app_some ih
    · rw [if_neg h1] at ih
      rw [klook_app_none ih]
      by_cases h2 : t = k
      · subst h2; simp
      · rw [if_neg h2, if_neg (by omega)]
theorem argObjs_zero (obs : List Ob) (t : Nat) : klook (argObjs 0 obs) t = obs[t]? := by
  rw [argObjs_look, if_pos (Nat.zero_le _), Nat.sub_zero]

section rep
variable {P : Program} {N : Nat} {E : Ent} {loc : Nat → Option (Nat × Nat × Nat)} {So : Nat → Nat → Prop} {Pd : Nat → Prop} {σ σ' : St} {a : Act} {w : World} {X : XF} {o : Oper}

/-- The blocks of what is handed on. -/
def Own1 (So : Nat → Nat → Prop) (ps : List Nat) (x : Nat) : Prop := ∃ (k o : Nat), ps[k]? = some o ∧ So o x
def loc1 (loc : Nat → Option (Nat × Nat × Nat)) (ps : List Nat) (k : Nat) : Option (Nat × Nat × Nat) := match ps[k]? with | some o => loc o | none => none
def So1 (So : Nat → Nat → Prop) (ps : List Nat) (k x : Nat) : Prop := ∃ o, ps[k]? = some o ∧ So o x
/-- The blocks that are read: all of ours but those, or, of what is frozen, the frozen ones. -/
def Seen (E : Ent) (So : Nat → Nat → Prop) (Pd : Nat → Prop) (w : World) (ps : List Nat) (fr : Bool) (x : Nat) : Prop := if fr then Fz E So Pd w x else x < w.heap.size ∧ ¬ Own1 So ps x
theorem Seen.of_fz {ps : List Nat} {fr : Bool} {x : Nat} (h : Fz E So Pd w x) : Seen E So Pd w ps fr x := by
  cases fr
  · exact ⟨h.2.1, fun ⟨k, o, _, q⟩ => h.2.2.1 o q⟩
  · exact h
theorem Seen.of_so (h : RepW N E loc So Pd σ a w) {ps : List Nat} {o x : Nat} (ho : place ps o = none) (hx : So o x) : Seen E So Pd w ps false x :=
  ⟨(h.has o x hx).2.2.1, fun ⟨k, o', hk, q⟩ => by
    have := h.dis o o' x hx q
    subst this
    exact place_none ho k hk⟩

theorem frPL_get {ps : List Nat} {l : List AV} (h : AV.frPL ps l = true) {j : Nat} {v : AV} (hj : l[j]? = some v) : v.frP ps = true := by
  induction l generalizing j with
  | nil => simp at hj
  | cons a l ih =>
    simp only [AV.frPL, Bool.and_eq_true] at h
    cases j with
    | zero => have e : a = v := by simpa using hj
              subst e; exact h.1
    | succ j => exact ih h.2 (by simpa using hj)
theorem blindL_of {l : List AV} (h : ∀ v ∈ l, v.blind = true) : AV.blindL l = true := by
  induction l with
  | nil => rfl
  | cons a l ih => simp only [AV.blindL, Bool.and_eq_true]; exact ⟨h a (by simp), ih (fun v hv => h v (by simp [hv]))⟩

theorem allOf_args {f : AV → Option AV} {w : World} {fz fz' : Nat → Prop} {loc loc' : Nat → Option (Nat × Nat × Nat)} {So So' : Nat → Nat → Prop} {objs objs' : List (Nat × Ob)} {ps : List Nat} {fr : Bool}
    (hf : ∀ v av av', RegOK w fz loc So objs v av → f av = some av' → (fr = true → av.frP ps = true) → RegOK w fz' loc' So' objs' v av' ∧ av'.blind = true) :
    ∀ (l : List AV) (vs : List Value) (l' : List AV), RegsOK w fz loc So objs vs l → allOf f l = some l' → (fr = true → AV.frPL ps l = true) → RegsOK w fz' loc' So' objs' vs l' ∧ AV.blindL l' = true
  | [], [], l', _, ha, _ => by simp only [allOf, Option.some.injEq] at ha; subst ha; exact ⟨by simp only [RegsOK], rfl⟩
  | [], _ :: _, _, hv, _, _ => by simp only [RegsOK] at hv
  | _ :: _, [], _, hv, _, _ => by simp only [RegsOK] at hv
  | av :: l, v :: vs, l', hv, ha, hfr => by
    simp only [allOf] at ha
    obtain ⟨d, hd, ha⟩ := Option.bind_eq_some_iff.1 ha
    obtain ⟨ds', hds, rfl⟩ := Option.map_eq_some_iff.1 ha
    simp only [RegsOK] at hv
    have hfr' : fr = true → av.frP ps = true ∧ AV.frPL ps l = true := fun e => by simpa only [AV.frPL, Bool.and_eq_true] using hfr e
    obtain ⟨h1, h2⟩ := hf v av d hv.1 hd (fun e => (hfr' e).1)
    obtain ⟨h3, h4⟩ := allOf_args hf l vs ds' hv.2 hds (fun e => (hfr' e).2)
    exact ⟨by simp only [RegsOK]; exact ⟨h1, h3⟩, by simp only [AV.blindL, h2, h4, Bool.and_self]⟩

theorem arg_seen (h : RepW N E loc So Pd σ a w) {ps : List Nat} {obs : List Ob} (hps : passed σ ps = some obs) {fr : Bool} : ∀ (n : Fu) (v : Value) (av av' : AV), RegOK w (Fz E So Pd w) loc So σ.objs v av → σ.arg ps n av = some av' → (fr = true → av.frP ps = true) →
    RegOK w (Seen E So Pd w ps fr) (loc1 loc ps) (So1 So ps) (argObjs 0 obs) v av' ∧ av'.blind = true
  | .z, v, av, av', _, ha, _ => by simp [St.arg] at ha
  | .s n, v, av, av', hv, ha, hf => by
    obtain ⟨hlen, hget, _⟩ := passed_get hps
    have ih := fun v av av' => arg_seen h hps (fr := fr) n v av av'
    simp only [St.arg] at ha
    cases av with
    | d x =>
      simp only [Option.some.injEq] at ha; subst ha
      simp only [RegOK] at hv ⊢
      exact ⟨hv.mono (fun b hb => Seen.of_fz hb) (fun _ _ => rfl), rfl⟩
    | nil t =>
      simp only [Option.some.injEq] at ha; subst ha
      simp only [RegOK] at hv ⊢
      exact ⟨hv, rfl⟩
    | vw o x =>
      simp only at ha
      split at ha
      · rename_i ho
        simp only [Option.some.injEq] at ha; subst ha
        simp only [RegOK] at hv ⊢
        have hfr : fr = false := by cases fr with | false => rfl | true => have := hf rfl; simp [AV.frP] at this
        subst hfr
        exact ⟨hv.2.mono (fun b hb => Seen.of_so h ho hb) (fun _ _ => rfl), rfl⟩
      · cases ha
    | h o off m =>
      simp only at ha
      cases hp : place ps o with
      | some k =>
        rw [hp] at ha
        simp only [Option.some.injEq] at ha; subst ha
        have hk := place_get hp
        obtain ⟨ob, h1, h2, h3⟩ := hget k o hk
        simp only [RegOK] at hv ⊢
        obtain ⟨ob', h4, h5, h6⟩ := hv
        rw [h2] at h4
        obtain rfl := Option.some.inj h4
        exact ⟨⟨ob, by rw [argObjs_zero]; exact h1, h5, by simp only [loc1, hk]; exact h6⟩, rfl⟩
      | none =>
        rw [hp] at ha
        simp only at ha
        obtain ⟨q, hq, rfl⟩ := Option.map_eq_some_iff.1 ha
        obtain ⟨t, f, l, k, hob, hk, rfl⟩ := rowsOf_some hq
        simp only [RegOK] at hv ⊢
        obtain ⟨ob', h4, h5, h6⟩ := hv
        rw [hob] at h4
        obtain rfl := Option.some.inj h4
        have hfr : fr = false := by cases fr with | false => rfl | true => have := hf rfl; simp [AV.frP, hp] at this
        subst hfr
        refine ⟨(read_ok (h.objs o _ hob) hk h5 h6).mono (fun b hb => ?_) (fun _ _ => rfl), rfl⟩
        exact hb.elim (fun q => Seen.of_fz q) (fun q => Seen.of_so h hp q)
    | p o i j =>
      simp only at ha
      cases hp : place ps o with
      | some k =>
        rw [hp] at ha
        simp only [Option.some.injEq] at ha; subst ha
        have hk := place_get hp
        obtain ⟨ob, h1, h2, h3⟩ := hget k o hk
        simp only [RegOK] at hv ⊢
        obtain ⟨ob', b, base, cap, h4, h5, h6, h7⟩ := hv
        rw [h2] at h4
        obtain rfl := Option.some.inj h4
        exact ⟨⟨ob, b, base, cap, by rw [argObjs_zero]; exact h1, by simp only [loc1, hk]; exact h5, h6, h7⟩, rfl⟩
      | none =>
        rw [hp] at ha
        simp only at ha
        obtain ⟨ob, hob, ha2⟩ := Option.bind_eq_some_iff.1 ha
        clear ha
        have hfr : fr = false := by cases fr with | false => rfl | true => have := hf rfl; simp [AV.frP, hp] at this
        simp only [RegOK] at hv
        obtain ⟨ob', b, base, cap, h4, h5, h6, h7⟩ := hv
        rw [hob] at h4
        obtain rfl := Option.some.inj h4
        obtain ⟨hb, vs, Sf, hrow, hsub, hdis, hcl⟩ := (h.objs o _ hob).some' b base cap h5
        cases ob with
        | ls t fz l k hs =>
          simp only at ha2
          obtain ⟨x, hx, ha3⟩ := Option.bind_eq_some_iff.1 ha2
          obtain ⟨cs, hcs, rfl⟩ := Option.map_eq_some_iff.1 ha3
          clear ha2 ha3
          subst hfr
          simp only [Ob.sz, Ob.len] at h6 h7
          simp only [RegOK]
          refine ⟨⟨b, base + i * t.w + j, h7, fun o' e => by simp at e, fun _ => Seen.of_so h hp hb, fun q => vs i (j + q), fun q d hq => ?_⟩, rfl⟩
          unfold rowD at hcs
          obtain ⟨c, h1, h2⟩ := allOf_get hcs hq
          rw [cvs_get] at h1
          obtain ⟨d', h3, rfl⟩ := Option.map_eq_some_iff.1 h1
          rw [List.getElem?_drop] at h3
          have hcell := hcl i (j + q) _ (ob_cell hx h3)
          have hmem := hrow.cell (i := i) (j := j + q) h6 (cells_lt h3)
          simp only [Ob.sz] at hmem
          refine ⟨by rw [Nat.add_assoc (base + i * t.w) j q]; exact hmem, ?_⟩
          simp only [okAt]
          obtain ⟨rfl, hcv⟩ := cv_whole h2
          rcases hcv fz with e | e <;> rw [e] at hcell
          · exact Rd.mono (fun b hb => Seen.of_fz hb) (fun _ _ => rfl) hcell
          · exact (Own.rd hcell).mono (fun b hb => Seen.of_so h hp (hsub _ _ b hb).1) (fun _ _ => rfl)
        | fn u =>
          simp only at ha2
          split at ha2
          case isFalse => cases ha2
          rename_i hij
          obtain ⟨rfl, rfl⟩ := hij
          obtain ⟨u', hu', rfl⟩ := Option.map_eq_some_iff.1 ha2
          obtain ⟨c1, c2, c3⟩ := hcl 0 0 (.fn u) rfl
          obtain ⟨r1, r2⟩ := ih _ _ _ c3 hu' (fun e => by rw [hfr] at e; cases e)
          simp only [Ob.sz, Ob.len, Nat.zero_mul, Nat.add_zero] at h6 h7
          have hmem := hrow.cell (i := 0) (j := 0) h6 (by simp [Ob.sz])
          simp only [Nat.zero_mul, Nat.add_zero] at hmem
          simp only [RegOK]
          exact ⟨⟨b, base, vs 0 0, h7, by rw [hfr]; exact Seen.of_so h hp hb, hmem, r2, r1⟩, by simp only [AV.blind]; exact r2⟩
    | rp o cs =>
      cases o with
      | none =>
        simp only [Option.some.injEq] at ha; subst ha
        simp only [RegOK, okAt] at hv ⊢
        obtain ⟨b, off, q1, q2, q3, vs, q4⟩ := hv
        exact ⟨⟨b, off, q1, fun o' e => by simp at e, fun hne => Seen.of_fz (q3 hne), vs, fun j d hj => ⟨(q4 j d hj).1, (q4 j d hj).2.mono (fun b hb => Seen.of_fz hb) (fun _ _ => rfl)⟩⟩, rfl⟩
      | some o =>
        simp only at ha
        split at ha
        case isFalse => cases ha
        rename_i ho
        simp only [Option.some.injEq] at ha; subst ha
        have hfr : fr = false := by cases fr with | false => rfl | true => have := hf rfl; simp [AV.frP] at this
        subst hfr
        simp only [RegOK, okAt] at hv ⊢
        obtain ⟨b, off, q1, q2, q3, vs, q4⟩ := hv
        exact ⟨⟨b, off, q1, fun o' e => by simp at e, fun hne => Seen.of_so h ho (q3 hne), vs, fun j d hj => ⟨(q4 j d hj).1, (q4 j d hj).2.mono (fun b hb => Seen.of_so h ho hb) (fun _ _ => rfl)⟩⟩, rfl⟩
    | rf u =>
      simp only at ha
      obtain ⟨u', hu', rfl⟩ := Option.map_eq_some_iff.1 ha
      simp only [RegOK] at hv ⊢
      obtain ⟨b, off, x, q1, q2, q3, q4, q5⟩ := hv
      obtain ⟨r1, r2⟩ := ih _ _ _ q5 hu' (fun e => by simpa [AV.frP] using hf e)
      exact ⟨⟨b, off, x, q1, Seen.of_fz q2, q3, r2, r1⟩, by simp only [AV.blind]; exact r2⟩
    | agg l =>
      simp only at ha
      obtain ⟨l', hl', rfl⟩ := Option.map_eq_some_iff.1 ha
      simp only [RegOK] at hv ⊢
      obtain ⟨vs, q1, q2⟩ := hv
      obtain ⟨r1, r2⟩ := allOf_args ih l vs l' q2 hl' (fun e => by simpa [AV.frP] using hf e)
      exact ⟨⟨vs, q1, r1⟩, by simp only [AV.blind]; exact r2⟩
    | clo f l =>
      simp only at ha
      obtain ⟨l', hl', rfl⟩ := Option.map_eq_some_iff.1 ha
      simp only [RegOK] at hv ⊢
      obtain ⟨vs, q1, q2⟩ := hv
      obtain ⟨r1, r2⟩ := allOf_args ih l vs l' q2 hl' (fun e => by simpa [AV.frP] using hf e)
      exact ⟨⟨vs, q1, r1⟩, by simp only [AV.blind]; exact r2⟩
    | tup l => simp at ha
    | junk => simp at ha

end rep
end Go.Proofs.YtniakiefibpgmaaGreatDoorK
