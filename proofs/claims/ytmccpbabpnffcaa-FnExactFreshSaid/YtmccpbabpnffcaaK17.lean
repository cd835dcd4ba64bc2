/- Contracts: what a function gives back for what it is handed; and calls by them. -/
import Derived.Test.YtmccpbabpnffcaaK16
set_option linter.unusedVariables false
set_option linter.unusedSimpArgs false
namespace Go.Proofs.YtmccpbabpnffcaaK
open Go.RowKit

mutual
def RV.cellsD : RV → List D
  | .one x => [x]
  | .agg l => l
  | .tup l => RV.cellsDL l
def RV.cellsDL : List RV → List D
  | [] => []
  | a :: l => a.cellsD ++ RV.cellsDL l
end
mutual
/-- The cells of what is handed back. -/
def Shape : Value → RV → List Value → Prop
  | v, .one _, vs => vs = [v]
  | v, .agg l, vs => v = .agg vs.toArray ∧ vs.length = l.length
  | v, .tup l, vs => ∃ us : List Value, v = .tuple us.toArray ∧ ShapeL us l vs
def ShapeL : List Value → List RV → List Value → Prop
  | [], [], vs => vs = []
  | u :: us, a :: l, vs => ∃ vs1 vs2, vs = vs1 ++ vs2 ∧ Shape u a vs1 ∧ ShapeL us l vs2
  | _, _, _ => False
end

/-- What is handed back reads as this, by such blocks. -/
def RetRd (w : World) (ok : Nat → Prop) (v : Value) (r : RV) : Prop := RegOK w ok (fun _ => none) (fun _ _ => False) [] v r.av
/-- What is handed back is its own, in blocks from lo on. -/
def RetOwn (w : World) (lo : Nat) (v : Value) (r : RV) : Prop :=
  ∃ (vs : List Value) (Sf : Nat → Nat → Prop), Shape v r vs ∧ vs.length = r.cellsD.length ∧
    (∀ (j : Nat) (u : Value) (d : D), vs[j]? = some u → r.cellsD[j]? = some d → Own w u d (Sf j)) ∧
    (∀ j x, Sf j x → lo ≤ x ∧ x < w.heap.size) ∧ (∀ j j' x, Sf j x → Sf j' x → j = j')

/-- Handed these, the function gives that back. -/
def Ctr (P : Program) (f : Nat) (ds : List DA) (r : Bool × RV) : Prop :=
  (∃ fn, P.funcs[f]? = some fn ∧ (fn.name == "runtime.NumGoroutine") = false ∧ fn.body.isNone = false) ∧
  ∀ (w : World) (ok : Nat → Prop) (vs : List Value), (∀ x, ok x → x < w.heap.size) → RegsOK w ok (fun _ => none) (fun _ _ => False) [] vs (DA.avL ds) →
    Calls P f vs.toArray w fun e w' => ∃ v, e = .returned v ∧ Below w.heap.size w w' ∧
      if r.1 then RetOwn w' w.heap.size v r.2 else RetRd w' (fun x => (ok x ∨ w.heap.size ≤ x) ∧ x < w'.heap.size) v r.2

/-- The instruction of a call. -/
def okC1 (N : Nat) (o : Oper) : I → Bool
  | .call d own f args => dstB o N d && !own && (match o.op with | .call ⟨.value g, as, _⟩ => okO g f && okOs as.toList args | _ => false)
  | _ => false

section objs
variable {w : World} {fz : Nat → Prop} {loc loc' : Nat → Option (Nat × Nat × Nat)} {So So' : Nat → Nat → Prop} {objs objs' : List (Nat × Ob)}
mutual
/-- A frozen value looks at no object. -/
theorem fr_norefs : ∀ (av : AV) (o : Nat), av.fr = true → av.refs o = false
  | .d _, _, _ => rfl
  | .nil, _, _ => rfl
  | .rp none _, _, _ => rfl
  | .rp (some _) _, _, h => by simp [AV.fr] at h
  | .agg l, o, h => by simp only [AV.fr, AV.refs] at *; exact frL_norefs l o h
  | .clo _ l, o, h => by simp only [AV.fr, AV.refs] at *; exact frL_norefs l o h
  | .tup _, _, h => by simp [AV.fr] at h
  | .own _, _, h => by simp [AV.fr] at h
  | .vw _ _, _, h => by simp [AV.fr] at h
  | .h _ _ _, _, h => by simp [AV.fr] at h
  | .p _ _ _, _, h => by simp [AV.fr] at h
  | .junk, _, h => by simp [AV.fr] at h
theorem frL_norefs : ∀ (l : List AV) (o : Nat), AV.frL l = true → AV.refsL o l = false
  | [], _, _ => rfl
  | a :: l, o, h => by
    simp only [AV.frL, AV.refsL, Bool.and_eq_true, Bool.or_eq_false_iff] at *
    exact ⟨fr_norefs a o h.1, frL_norefs l o h.2⟩
end
mutual
theorem DA.av_fr : ∀ (a : DA), a.av.fr = true
  | .one _ => rfl
  | .agg l => by simp only [DA.av, AV.fr]; exact frL_d l
  | .ptr _ => rfl
  | .clo _ l => by simp only [DA.av, AV.fr]; exact DA.avL_fr l
theorem DA.avL_fr : ∀ (l : List DA), AV.frL (DA.avL l) = true
  | [] => rfl
  | a :: l => by simp only [DA.avL, AV.frL, Bool.and_eq_true]; exact ⟨a.av_fr, DA.avL_fr l⟩
theorem frL_d : ∀ (l : List D), AV.frL (l.map AV.d) = true
  | [] => rfl
  | a :: l => by simp only [List.map_cons, AV.frL, AV.fr, Bool.true_and]; exact frL_d l
end
/-- What is frozen stays so, whatever the objects are. -/
theorem RegOK.frozen {w' : World} {fz' : Nat → Prop} (h1 : ∀ b, fz b → fz' b ∧ w'.heap[b]? = w.heap[b]?) {v : Value} {av : AV} (h : RegOK w fz loc So objs v av) (hf : av.fr = true) : RegOK w' fz' loc' So' objs' v av :=
  RegOK.mono h1 v av h (fun o ho => by rw [fr_norefs av o hf] at ho; cases ho) (fun o ho => by rw [looks_false_of_refs (fr_norefs av o hf)] at ho; cases ho)
theorem looksL_false_of_refsL {o : Nat} {l : List AV} (h : AV.refsL o l = false) : AV.looksL o l = false := by
  cases hl : AV.looksL o l with
  | false => rfl
  | true => rw [AV.refsL_of_looksL l hl] at h; cases h
theorem RegsOK.frozen {w' : World} {fz' : Nat → Prop} (h1 : ∀ b, fz b → fz' b ∧ w'.heap[b]? = w.heap[b]?) {vs : List Value} {l : List AV} (h : RegsOK w fz loc So objs vs l) (hf : AV.frL l = true) : RegsOK w' fz' loc' So' objs' vs l :=
  RegsOK.mono h1 vs l h (fun o ho => by rw [frL_norefs l o hf] at ho; cases ho) (fun o ho => by rw [looksL_false_of_refsL (frL_norefs l o hf)] at ho; cases ho)
end objs

section rep
variable {P : Program} {N : Nat} {w0 : World} {ok0 : Nat → Prop} {loc : Nat → Option (Nat × Nat × Nat)} {So : Nat → Nat → Prop} {Pd : Nat → Prop} {σ σ' : St} {a : Act} {w : World} {X : Nat → List DA → Option (Bool × RV)} {o : Oper}

/-- The blocks that are read: all of ours, or, of what is frozen, the frozen ones. -/
def Seen (w0 : World) (ok0 : Nat → Prop) (So : Nat → Nat → Prop) (Pd : Nat → Prop) (w : World) (fr : Bool) (x : Nat) : Prop := if fr then Fz w0 ok0 So Pd w x else Old w x
theorem Seen.of_fz {fr : Bool} {x : Nat} (h : Fz w0 ok0 So Pd w x) : Seen w0 ok0 So Pd w fr x := by
  cases fr
  · exact h.2.1
  · exact h
theorem one_seen (h : RepW N w0 ok0 loc So Pd σ a w) {v : Value} {av : AV} {x : D} (hv : RegOK w (Fz w0 ok0 So Pd w) loc So σ.objs v av) (ho : σ.one av = some x) {fr : Bool} (hf : fr = true → av.fr = true) : Rd w (Seen w0 ok0 So Pd w fr) v x := by
  cases fr with
  | false => exact (one_ok h hv ho).mono (fun b hb => hb) (fun _ _ => rfl)
  | true =>
    have hf := hf rfl
    cases av with
    | d y => simp only [St.one, Option.some.injEq] at ho; subst ho; simp only [RegOK] at hv; exact hv.mono (fun b hb => hb) (fun _ _ => rfl)
    | nil => simp only [St.one, Option.some.injEq] at ho; subst ho; simp only [RegOK] at hv; subst hv; exact .nil _ _
    | vw o y => simp [AV.fr] at hf
    | h o off n => simp [AV.fr] at hf
    | _ => simp [St.one] at ho
theorem frL_get {l : List AV} (h : AV.frL l = true) {j : Nat} {v : AV} (hj : l[j]? = some v) : v.fr = true := by
  induction l generalizing j with
  | nil => simp at hj
  | cons a l ih =>
    simp only [AV.frL, Bool.and_eq_true] at h
    cases j with
    | zero => have e : a = v := by simpa using hj
              subst e; exact h.1
    | succ j => exact ih h.2 (by simpa using hj)
theorem ones_seen (h : RepW N w0 ok0 loc So Pd σ a w) {fr : Bool} : ∀ {l : List AV} {vs : List Value} {ds : List D}, RegsOK w (Fz w0 ok0 So Pd w) loc So σ.objs vs l → allOf σ.one l = some ds → (fr = true → AV.frL l = true) →
    RegsOK w (Seen w0 ok0 So Pd w fr) (fun _ => none) (fun _ _ => False) [] vs (ds.map AV.d)
  | [], [], ds, _, ha, _ => by simp only [allOf, Option.some.injEq] at ha; subst ha; simp only [List.map_nil, RegsOK]
  | [], _ :: _, _, hv, _, _ => by simp only [RegsOK] at hv
  | _ :: _, [], _, hv, _, _ => by simp only [RegsOK] at hv
  | av :: l, v :: vs, ds, hv, ha, hf => by
    simp only [allOf] at ha
    obtain ⟨d, hd, ha⟩ := Option.bind_eq_some_iff.1 ha
    obtain ⟨ds', hds, rfl⟩ := Option.map_eq_some_iff.1 ha
    simp only [RegsOK] at hv
    simp only [List.map_cons, RegsOK, RegOK]
    have hf' : fr = true → av.fr = true ∧ AV.frL l = true := fun e => by simpa only [AV.frL, Bool.and_eq_true] using hf e
    exact ⟨one_seen h hv.1 hd (fun e => (hf' e).1), ones_seen h hv.2 hds (fun e => (hf' e).2)⟩

theorem argP_seen (h : RepW N w0 ok0 loc So Pd σ a w) {v : Value} {av : AV} {da : DA} (hv : RegOK w (Fz w0 ok0 So Pd w) loc So σ.objs v av) (ha : σ.argP av = some da) {fr : Bool} (hf : fr = true → av.fr = true) :
    RegOK w (Seen w0 ok0 So Pd w fr) (fun _ => none) (fun _ _ => False) [] v da.av := by
  simp only [St.argP] at ha
  obtain ⟨cs, hcs, rfl⟩ := Option.map_eq_some_iff.1 ha
  cases av with
  | rp o cs' =>
    simp only [St.ptrD, Option.some.injEq] at hcs
    subst hcs
    simp only [RegOK] at hv
    obtain ⟨b, off, rfl, hs, hok, vs, hc⟩ := hv
    have hsub : ∀ x, okAt (Fz w0 ok0 So Pd w) So o x → Seen w0 ok0 So Pd w fr x := by
      intro x hx
      cases o with
      | none => exact Seen.of_fz hx
      | some o =>
        cases fr with
        | false => exact (h.has o x hx).2.2.1
        | true => have := hf rfl; simp [AV.fr] at this
    simp only [DA.av, RegOK]
    refine ⟨b, off, rfl, fun o' e => by simp at e, fun hne => hsub b (hok hne), vs, fun j d hj => ⟨(hc j d hj).1, (hc j d hj).2.mono (fun b hb => ?_) (fun _ _ => rfl)⟩⟩
    exact hsub b hb
  | p o i j =>
    cases fr with
    | true => have := hf rfl; simp [AV.fr] at this
    | false =>
      simp only [St.ptrD] at hcs
      obtain ⟨ob, hob, hcs⟩ := Option.bind_eq_some_iff.1 hcs
      obtain ⟨row, hrow, hcs⟩ := Option.bind_eq_some_iff.1 hcs
      simp only [RegOK] at hv
      obtain ⟨ob', b, base, cap, hob', hloc, hi, rfl⟩ := hv
      rw [hob] at hob'
      obtain rfl := Option.some.inj hob'
      obtain ⟨hb, vs, Sf, hr, hs, hd, hc⟩ := (h.objs o ob hob).some' b base cap hloc
      have hlen := (h.objs o ob hob).size i row hrow
      simp only [DA.av, RegOK]
      refine ⟨b, base + i * ob.sz + j, rfl, fun o' e => by simp at e, fun _ => (h.has o b hb).2.2.1, fun q => vs i (j + q), fun q d hq => ?_⟩
      obtain ⟨av, h1, h2⟩ := allOf_get hcs hq
      rw [List.getElem?_drop] at h1
      have hjq : j + q < ob.sz := by
        rw [← hlen]
        rcases Nat.lt_or_ge (j + q) row.length with z | z
        · exact z
        · rw [List.getElem?_eq_none z] at h1; cases h1
      refine ⟨?_, ?_⟩
      · rw [Nat.add_assoc (base + i * ob.sz) j q]; exact hr.cell hi hjq
      · exact (toD_ok (hc i row (j + q) av hrow h1) h2).mono (fun x hx => hx.elim (fun q => q.2.1) (fun q => (h.has o x (hs _ _ x q).1).2.2.1)) (fun _ _ => rfl)
  | _ => simp [St.ptrD] at hcs

theorem argPs_seen (h : RepW N w0 ok0 loc So Pd σ a w) {fr : Bool} : ∀ {l : List AV} {vs : List Value} {ds : List DA}, RegsOK w (Fz w0 ok0 So Pd w) loc So σ.objs vs l → allOf σ.argP l = some ds → (fr = true → AV.frL l = true) →
    RegsOK w (Seen w0 ok0 So Pd w fr) (fun _ => none) (fun _ _ => False) [] vs (DA.avL ds)
  | [], [], ds, _, ha, _ => by simp only [allOf, Option.some.injEq] at ha; subst ha; simp only [DA.avL, RegsOK]
  | [], _ :: _, _, hv, _, _ => by simp only [RegsOK] at hv
  | _ :: _, [], _, hv, _, _ => by simp only [RegsOK] at hv
  | av :: l, v :: vs, ds, hv, ha, hf => by
    simp only [allOf] at ha
    obtain ⟨d, hd, ha⟩ := Option.bind_eq_some_iff.1 ha
    obtain ⟨ds', hds, rfl⟩ := Option.map_eq_some_iff.1 ha
    simp only [RegsOK] at hv
    simp only [DA.avL, RegsOK]
    have hf' : fr = true → av.fr = true ∧ AV.frL l = true := fun e => by simpa only [AV.frL, Bool.and_eq_true] using hf e
    exact ⟨argP_seen h hv.1 hd (fun e => (hf' e).1), argPs_seen h hv.2 hds (fun e => (hf' e).2)⟩

theorem arg_seen (h : RepW N w0 ok0 loc So Pd σ a w) {v : Value} {av : AV} {da : DA} (hv : RegOK w (Fz w0 ok0 So Pd w) loc So σ.objs v av) (ha : σ.arg av = some da) {fr : Bool} (hf : fr = true → av.fr = true) :
    RegOK w (Seen w0 ok0 So Pd w fr) (fun _ => none) (fun _ _ => False) [] v da.av := by
  cases av with
  | agg l =>
    simp only [St.arg] at ha
    obtain ⟨ds, hds, rfl⟩ := Option.map_eq_some_iff.1 ha
    simp only [RegOK] at hv
    obtain ⟨vs, rfl, hvs⟩ := hv
    simp only [DA.av, RegOK]
    exact ⟨vs, rfl, ones_seen h hvs hds hf⟩
  | rp o cs => exact argP_seen h hv ha hf
  | p o i j => exact argP_seen h hv ha hf
  | clo f l =>
    simp only [St.arg] at ha
    obtain ⟨ds, hds, rfl⟩ := Option.map_eq_some_iff.1 ha
    simp only [RegOK] at hv
    obtain ⟨vs, rfl, hvs⟩ := hv
    simp only [DA.av, RegOK]
    exact ⟨vs, rfl, argPs_seen h hvs hds hf⟩
  | d x =>
    simp only [St.arg, Option.some.injEq] at ha; subst ha
    simp only [DA.av, RegOK]
    exact one_seen h hv rfl hf
  | nil =>
    simp only [St.arg, Option.some.injEq] at ha; subst ha
    simp only [DA.av, RegOK]
    exact one_seen h hv rfl hf
  | vw o x =>
    simp only [St.arg, Option.some.injEq] at ha; subst ha
    simp only [DA.av, RegOK]
    exact one_seen h hv rfl hf
  | h o off n =>
    simp only [St.arg] at ha
    obtain ⟨d, hd, rfl⟩ := Option.map_eq_some_iff.1 ha
    simp only [DA.av, RegOK]
    exact one_seen h hv hd hf
  | own x => simp only [RegOK] at hv
  | tup l => simp [St.arg] at ha
  | junk => simp [St.arg] at ha
theorem args_seen (h : RepW N w0 ok0 loc So Pd σ a w) {fr : Bool} : ∀ {l : List AV} {vs : List Value} {ds : List DA}, RegsOK w (Fz w0 ok0 So Pd w) loc So σ.objs vs l → allOf σ.arg l = some ds → (fr = true → AV.frL l = true) →
    RegsOK w (Seen w0 ok0 So Pd w fr) (fun _ => none) (fun _ _ => False) [] vs (DA.avL ds)
  | [], [], ds, _, ha, _ => by simp only [allOf, Option.some.injEq] at ha; subst ha; simp only [DA.avL, RegsOK]
  | [], _ :: _, _, hv, _, _ => by simp only [RegsOK] at hv
  | _ :: _, [], _, hv, _, _ => by simp only [RegsOK] at hv
  | av :: l, v :: vs, ds, hv, ha, hf => by
    simp only [allOf] at ha
    obtain ⟨d, hd, ha⟩ := Option.bind_eq_some_iff.1 ha
    obtain ⟨ds', hds, rfl⟩ := Option.map_eq_some_iff.1 ha
    simp only [RegsOK] at hv
    simp only [DA.avL, RegsOK]
    have hf' : fr = true → av.fr = true ∧ AV.frL l = true := fun e => by simpa only [AV.frL, Bool.and_eq_true] using hf e
    exact ⟨arg_seen h hv.1 hd (fun e => (hf' e).1), args_seen h hv.2 hds (fun e => (hf' e).2)⟩

/-! ### What comes back, as frozen data -/
theorem own_regs {ok : Nat → Prop} {objs : List (Nat × Ob)} : ∀ (l : List D) (vs : List Value), vs.length = l.length → (∀ (j : Nat) (u : Value) (d : D), vs[j]? = some u → l[j]? = some d → Rd w ok u d) → RegsOK w ok loc So objs vs (l.map AV.d)
  | [], [], _, _ => by simp only [List.map_nil, RegsOK]
  | [], _ :: _, h, _ => by simp at h
  | _ :: _, [], h, _ => by simp at h
  | d :: l, v :: vs, h, hr => by
    simp only [List.map_cons, RegsOK, RegOK]
    exact ⟨hr 0 v d (by simp) (by simp), own_regs l vs (by simpa using h) (fun j u d h1 h2 => hr (j + 1) u d (by simpa using h1) (by simpa using h2))⟩
mutual
theorem shape_regs {ok : Nat → Prop} {objs : List (Nat × Ob)} : ∀ (r : RV) (v : Value) (vs : List Value), Shape v r vs → vs.length = r.cellsD.length → (∀ (j : Nat) (u : Value) (d : D), vs[j]? = some u → r.cellsD[j]? = some d → Rd w ok u d) → RegOK w ok loc So objs v r.av
  | .one x, v, vs, hs, _, hr => by
    simp only [Shape] at hs
    subst hs
    simp only [RV.av, RegOK]
    exact hr 0 v x (by simp) (by simp [RV.cellsD])
  | .agg l, v, vs, hs, hl, hr => by
    simp only [Shape] at hs
    simp only [RV.av, RegOK]
    exact ⟨vs, hs.1, own_regs l vs hs.2 hr⟩
  | .tup l, v, vs, hs, hl, hr => by
    simp only [Shape] at hs
    obtain ⟨us, hv, hs⟩ := hs
    simp only [RV.av, RegOK]
    exact ⟨us, hv, shapeL_regs l us vs hs hl hr⟩
theorem shapeL_regs {ok : Nat → Prop} {objs : List (Nat × Ob)} : ∀ (l : List RV) (us : List Value) (vs : List Value), ShapeL us l vs → vs.length = (RV.cellsDL l).length → (∀ (j : Nat) (u : Value) (d : D), vs[j]? = some u → (RV.cellsDL l)[j]? = some d → Rd w ok u d) → RegsOK w ok loc So objs us (RV.avL l)
  | [], [], vs, _, _, _ => by simp only [RV.avL, RegsOK]
  | [], _ :: _, _, hs, _, _ => by simp only [ShapeL] at hs
  | _ :: _, [], _, hs, _, _ => by simp only [ShapeL] at hs
  | a :: l, u :: us, vs, hs, hl, hr => by
    simp only [ShapeL] at hs
    obtain ⟨vs1, vs2, rfl, h1, h2⟩ := hs
    have hlen1 := shape_len a u vs1 h1
    simp only [RV.cellsDL, List.length_append] at hl hr
    simp only [RV.avL, RegsOK]
    refine ⟨shape_regs a u vs1 h1 hlen1 (fun j u' d q1 q2 => hr j u' d ?_ ?_), shapeL_regs l us vs2 h2 (by omega) (fun j u' d q1 q2 => hr (vs1.length + j) u' d ?_ ?_)⟩
    · have := (List.getElem?_eq_some_iff.1 q1).1
      rw [List.getElem?_append_left this]; exact q1
    · have := (List.getElem?_eq_some_iff.1 q2).1
      rw [List.getElem?_append_left this]; exact q2
    · rw [List.getElem?_append_right (by omega)]; simpa using q1
    · rw [List.getElem?_append_right (by omega), hlen1]; simpa using q2
theorem shape_len : ∀ (r : RV) (v : Value) (vs : List Value), Shape v r vs → vs.length = r.cellsD.length
  | .one x, v, vs, hs => by simp only [Shape] at hs; subst hs; rfl
  | .agg l, v, vs, hs => by simp only [Shape] at hs; exact hs.2
  | .tup l, v, vs, hs => by
    simp only [Shape] at hs
    obtain ⟨us, hv, hs⟩ := hs
    exact shapeL_len l us vs hs
theorem shapeL_len : ∀ (l : List RV) (us vs : List Value), ShapeL us l vs → vs.length = (RV.cellsDL l).length
  | [], [], vs, hs => by simp only [ShapeL] at hs; subst hs; rfl
  | [], _ :: _, _, hs => by simp only [ShapeL] at hs
  | _ :: _, [], _, hs => by simp only [ShapeL] at hs
  | a :: l, u :: us, vs, hs => by
    simp only [ShapeL] at hs
    obtain ⟨vs1, vs2, rfl, h1, h2⟩ := hs
    simp only [RV.cellsDL, List.length_append, shape_len a u vs1 h1, shapeL_len l us vs2 h2]
end

theorem RetOwn.rd {lo : Nat} {v : Value} {r : RV} (h : RetOwn w lo v r) : RetRd w (fun x => lo ≤ x ∧ x < w.heap.size) v r := by
  obtain ⟨vs, Sf, h1, h2, h3, h4, _⟩ := h
  exact shape_regs r v vs h1 h2 fun j u d q1 q2 => (h3 j u d q1 q2).rd.mono (fun x hx => h4 j x hx) (fun _ _ => rfl)

mutual
theorem RV.av_refs : ∀ (r : RV) (o : Nat), r.av.refs o = false
  | .one _, _ => rfl
  | .agg l, o => by simp only [RV.av, AV.refs]; exact frL_norefs _ o (frL_d l)
  | .tup l, o => by simp only [RV.av, AV.refs]; exact RV.avL_refs l o
theorem RV.avL_refs : ∀ (l : List RV) (o : Nat), AV.refsL o (RV.avL l) = false
  | [], _ => rfl
  | a :: l, o => by simp only [RV.avL, AV.refsL, Bool.or_eq_false_iff]; exact ⟨a.av_refs o, RV.avL_refs l o⟩
end
theorem RetRd.reg {ok fz : Nat → Prop} {v : Value} {r : RV} {objs : List (Nat × Ob)} (h : RetRd w ok v r) (h1 : ∀ b, ok b → fz b) : RegOK w fz loc So objs v r.av :=
  RegOK.mono (fun b hb => ⟨h1 b hb, rfl⟩) v r.av h (fun o ho => by rw [r.av_refs o] at ho; cases ho) (fun o ho => by rw [looks_false_of_refs (r.av_refs o)] at ho; cases ho)

theorem ok_call (hX : ∀ f ds r, X f ds = some r → Ctr P f ds r) (h : RepW N w0 ok0 loc So Pd σ a w) {d : Nat} {own : Bool} {f : O} {args : List O} (hq : okC1 N o (.call d own f args) = true) (hs : kstep X (.call d own f args) σ = some σ') : Outc P o a w (Rep N w0 ok0 σ') := by
  simp only [okC1, Bool.and_eq_true, Bool.not_eq_true'] at hq
  obtain ⟨⟨hd, rfl⟩, hq⟩ := hq
  obtain ⟨hd, hn⟩ := dstB_ok hd
  split at hq
  case h_2 => cases hq
  rename_i g as ts hop
  simp only [Bool.and_eq_true] at hq
  have hg := h.op hq.1
  simp only [kstep] at hs
  split at hs
  case h_2 => cases hs
  rename_i f' caps hf
  rw [hf] at hg
  simp only [RegOK] at hg
  obtain ⟨cvs, hgv, hcvs⟩ := hg
  obtain ⟨ds, hds, hs⟩ := Option.bind_eq_some_iff.1 hs
  obtain ⟨r, hr, hs⟩ := Option.bind_eq_some_iff.1 hs
  obtain ⟨⟨fn, hfn, hname, hbody⟩, hctr⟩ := hX _ _ _ hr
  have hall := (h.ops hq.2).append hcvs
  have hlist : (as.map a.eval ++ cvs.toArray) = ((as.toList.map a.eval) ++ cvs).toArray := by
    apply Array.ext'; simp
  have hrun : (execOp a.eval o).run P w = .ok (.enter f' ((as.toList.map a.eval) ++ cvs).toArray) w := by
    rw [← hlist]
    have e1 : ¬ fn.name = "runtime.NumGoroutine" := by simpa using hname
    have e2 : ¬ fn.body = none := by intro e; simp [e] at hbody
    simp [execOp, hop, resolve, hgv, Deferred.ofValue, invoke, callFunc, hfn, e1, e2]
  simp only [called] at hs
  by_cases hc : (r.1 || AV.frL (args.map σ.op ++ caps)) = true
  case neg => rw [if_neg hc] at hs; cases hs
  rw [if_pos hc] at hs
  obtain rfl := Option.some.inj hs
  let fr : Bool := !r.1
  have hfr : fr = true → AV.frL (args.map σ.op ++ caps) = true := fun e => by
    have : r.1 = false := by simpa [fr] using e
    simpa [this] using hc
  have hseen := args_seen h (fr := fr) hall hds hfr
  refine .enter f' _ w hrun ((hctr w (Seen w0 ok0 So Pd w fr) _ (fun x hx => ?_) hseen).mono fun e w' ⟨v, he, hb, hv⟩ => ⟨v, he, ?_⟩)
  · cases hfe : fr with
    | true => rw [hfe] at hx; exact hx.2.1
    | false => rw [hfe] at hx; exact hx
  · rw [hd]
    have hrep := h.below hb
    refine ⟨loc, So, Pd, hrep.set hn ?_⟩
    have hfresh : ∀ x, w.heap.size ≤ x → x < w'.heap.size → Fz w0 ok0 So Pd w' x := fun x h1 h2 =>
      ⟨.inr (Nat.le_trans h.keep.size h1), h2, fun o' hq => by have := (h.has o' x hq).2.2.1; omega, fun hq => by have := h.pdlt x hq; omega⟩
    cases hown : r.1 with
    | true =>
      rw [hown] at hv
      simp only [if_true] at hv
      exact hv.rd.reg fun b hb => hfresh b hb.1 hb.2
    | false =>
      rw [hown] at hv
      simp only [Bool.false_eq_true, if_false] at hv
      refine hv.reg fun b hb' => ?_
      have hfe : fr = true := by simp [fr, hown]
      rcases hb'.1 with q | q
      · rw [hfe] at q; exact Fz.grow hb.size q
      · exact hfresh b q hb'.2

end rep
end Go.Proofs.YtmccpbabpnffcaaK
