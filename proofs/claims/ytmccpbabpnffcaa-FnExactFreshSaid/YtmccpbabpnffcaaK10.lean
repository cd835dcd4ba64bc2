/- What is handed into a cell: an object of ours is folded into a tree. What an argument reads as. -/
import Derived.Test.YtmccpbabpnffcaaK9
set_option linter.unusedVariables false
set_option linter.unusedSimpArgs false
namespace Go.Proofs.YtmccpbabpnffcaaK
open Go.RowKit

theorem allOf_len {α β : Type} {f : α → Option β} : ∀ {l : List α} {r : List β}, allOf f l = some r → r.length = l.length := by
  intro l
  induction l with
  | nil => intro r h; simp only [allOf, Option.some.injEq] at h; subst h; rfl
  | cons a l ih =>
    intro r h
    simp only [allOf] at h
    obtain ⟨b, _, h⟩ := Option.bind_eq_some_iff.1 h
    obtain ⟨r', hr, rfl⟩ := Option.map_eq_some_iff.1 h
    simp [ih hr]
theorem allOf_get {α β : Type} {f : α → Option β} : ∀ {l : List α} {r : List β}, allOf f l = some r → ∀ {i : Nat} {b : β}, r[i]? = some b → ∃ a, l[i]? = some a ∧ f a = some b := by
  intro l
  induction l with
  | nil => intro r h i b hb; simp only [allOf, Option.some.injEq] at h; subst h; simp at hb
  | cons a l ih =>
    intro r h i b hb
    simp only [allOf] at h
    obtain ⟨b', hb', h⟩ := Option.bind_eq_some_iff.1 h
    obtain ⟨r', hr, rfl⟩ := Option.map_eq_some_iff.1 h
    cases i with
    | zero =>
      have : b' = b := by simpa using hb
      subst this
      exact ⟨a, by simp, hb'⟩
    | succ i => exact ih hr (by simpa using hb)

section rep
variable {P : Program} {N : Nat} {w0 : World} {ok0 : Nat → Prop} {loc : Nat → Option (Nat × Nat × Nat)} {So : Nat → Nat → Prop} {Pd : Nat → Prop} {σ σ' : St} {a : Act} {w : World} {X : Nat → List DA → Option (Bool × RV)} {o : Oper}

theorem toOwn_ok {fz : Nat → Prop} {S : Nat → Prop} {v : Value} {av : AV} {d : D} (h : CellOK w fz v av S) (hd : av.toOwn = some d) : Own w v d S := by
  cases av with
  | d x => cases x <;> simp only [AV.toOwn, Option.some.injEq, reduceCtorEq] at hd <;> subst hd <;> exact scalar_own h rfl _ _
  | nil => simp only [AV.toOwn, Option.some.injEq] at hd; subst hd; simp only [CellOK] at h; subst h; exact .nil _ _
  | own x => simp only [AV.toOwn, Option.some.injEq] at hd; subst hd; exact h
  | _ => simp [AV.toOwn] at hd
theorem toD_ok {fz : Nat → Prop} {S : Nat → Prop} {v : Value} {av : AV} {d : D} (h : CellOK w fz v av S) (hd : av.toD = some d) : Rd w (fun x => fz x ∨ S x) v d := by
  cases av with
  | d x => simp only [AV.toD, Option.some.injEq] at hd; subst hd; exact Rd.mono (fun _ h => Or.inl h) (fun _ _ => rfl) h
  | nil => simp only [AV.toD, Option.some.injEq] at hd; subst hd; simp only [CellOK] at h; subst h; exact .nil _ _
  | own x => simp only [AV.toD, Option.some.injEq] at hd; subst hd; exact h.rd.mono (fun _ h => Or.inr h) (fun _ _ => rfl)
  | _ => simp [AV.toD] at hd

theorem sub_get {α : Type} {l : List α} {off n i : Nat} {x : α} (h : ((l.drop off).take n)[i]? = some x) : l[off + i]? = some x ∧ i < n := by
  rw [List.getElem?_take] at h
  split at h
  · rename_i hi; rw [List.getElem?_drop] at h; exact ⟨h, hi⟩
  · cases h

/-- A handle's tree, all of it in the object's blocks. -/
theorem fold_ok {fz : Nat → Prop} {S : Nat → Prop} {l : Option (Nat × Nat × Nat)} {ob : Ob} {off n : Nat} {v : Value} {es : List (List D)} (hO : ObjOK w fz l ob S) (hle : off + n ≤ ob.es.length) (hv : HVal l ob.sz off n v)
    (he : ownEs ((ob.es.drop off).take n) = some es) : Own w v (.sl es) S := by
  have hlen : es.length = n := by have := allOf_len he; rw [this]; simp; omega
  cases l with
  | none =>
    obtain ⟨rfl, rfl, A, rfl⟩ := hv
    have : es = [] := List.eq_nil_of_length_eq_zero hlen
    subst this
    exact .nil _ _
  | some q3 =>
    obtain ⟨b, base, cap⟩ := q3
    obtain ⟨hcap, A, rfl, hA⟩ := hv
    by_cases hz : cap - off = 0
    · have hn : n = 0 := by omega
      subst hn
      have : es = [] := List.eq_nil_of_length_eq_zero hlen
      subst this
      rw [hz]
      exact .nil _ _
    · rw [hA (by omega)]
      obtain ⟨hb, vs, Sf, hrow, hsub, hdis, hc⟩ := hO.some' b base cap rfl
      obtain ⟨arr, T, fr, r1, r2, r3, r4, r5⟩ := hrow
      have := Own.sl (w := w) S b (base + off * ob.sz) ob.sz (cap - off) es (fun i j => vs (off + i) j) (fun i j => Sf (off + i) j) hb
        ⟨arr, T, fr, r1, r2, by rw [r3, Nat.add_assoc, ← Nat.add_mul]; congr 2; omega, by omega, fun i j hi hj => by
          have := r5 (off + i) j (by omega) hj
          rw [Nat.add_mul, ← Nat.add_assoc] at this
          exact this⟩
        (fun i cs hi => by
          obtain ⟨cs', h1, h2⟩ := allOf_get he hi
          rw [allOf_len h2]
          exact hO.size _ _ (sub_get h1).1)
        (fun i j x hx => hsub _ _ x hx)
        (fun i j i' j' x h1 h2 => by have := hdis _ _ _ _ x h1 h2; exact ⟨by omega, this.2⟩)
        (fun i cs j d hi hj => by
          obtain ⟨cs', h1, h2⟩ := allOf_get he hi
          obtain ⟨av, h3, h4⟩ := allOf_get h2 hj
          exact toOwn_ok (hc _ _ _ _ (sub_get h1).1 h3) h4)
      rw [hlen] at this
      exact this

/-- A handle's tree, to be read. -/
theorem read_ok {fz : Nat → Prop} {S : Nat → Prop} {l : Option (Nat × Nat × Nat)} {ob : Ob} {off n : Nat} {v : Value} {es : List (List D)} (hO : ObjOK w fz l ob S) (hle : off + n ≤ ob.es.length) (hv : HVal l ob.sz off n v)
    (he : dEs ((ob.es.drop off).take n) = some es) : Rd w (fun x => fz x ∨ S x) v (.sl es) := by
  have hlen : es.length = n := by have := allOf_len he; rw [this]; simp; omega
  cases l with
  | none =>
    obtain ⟨rfl, rfl, A, rfl⟩ := hv
    have : es = [] := List.eq_nil_of_length_eq_zero hlen
    subst this
    exact .nil _ _
  | some q3 =>
    obtain ⟨b, base, cap⟩ := q3
    obtain ⟨hcap, A, rfl, hA⟩ := hv
    by_cases hz : n = 0
    · subst hz
      have : es = [] := List.eq_nil_of_length_eq_zero hlen
      subst this
      exact .nil _ _
    · rw [hA (by omega)]
      obtain ⟨hb, vs, Sf, hrow, hsub, hdis, hc⟩ := hO.some' b base cap rfl
      have := Rd.sl (w := w) (ok := fun x => fz x ∨ S x) b (base + off * ob.sz) ob.sz (cap - off) es (fun i j => vs (off + i) j) (.inr hb) (by omega)
        (fun i cs hi => by
          obtain ⟨cs', h1, h2⟩ := allOf_get he hi
          rw [allOf_len h2]
          exact hO.size _ _ (sub_get h1).1)
        (fun i cs j d hi hj => by
          obtain ⟨cs', h1, h2⟩ := allOf_get he hi
          have h5 := getElem?_lt hj
          rw [allOf_len h2, hO.size _ _ (sub_get h1).1] at h5
          have := hrow.cell (getElem?_lt (sub_get h1).1) h5
          rw [Nat.add_mul, ← Nat.add_assoc] at this
          exact this)
        (fun i cs j d hi hj => by
          obtain ⟨cs', h1, h2⟩ := allOf_get he hi
          obtain ⟨av, h3, h4⟩ := allOf_get h2 hj
          exact (toD_ok (hc _ _ _ _ (sub_get h1).1 h3) h4).mono (fun x hx => hx.imp id (fun q => (hsub _ _ x q).1)) (fun _ _ => rfl))
      rw [hlen] at this
      exact this

structure CellFit (N : Nat) (w0 : World) (ok0 : Nat → Prop) (loc : Nat → Option (Nat × Nat × Nat)) (So : Nat → Nat → Prop) (Pd : Nat → Prop) (σ : St) (a : Act) (w : World) (vs : List Value) (cs : List AV) (σ' : St) (So' : Nat → Nat → Prop) (Pd' : Nat → Prop) (Sf : Nat → Nat → Prop) : Prop where
  rep : RepW N w0 ok0 loc So' Pd' σ' a w
  len : cs.length = vs.length
  cell : ∀ (j : Nat) (v : Value) (c : AV), vs[j]? = some v → cs[j]? = some c → CellOK w (Fz w0 ok0 So' Pd' w) v c (Sf j)
  sub : ∀ j x, Sf j x → Pd' x ∧ ¬ Pd x ∧ w0.heap.size ≤ x ∧ x < w.heap.size
  dis : ∀ j j' x, Sf j x → Sf j' x → j = j'
  pd : ∀ x, Pd x → Pd' x
  fz : ∀ x, Fz w0 ok0 So Pd w x ↔ Fz w0 ok0 So' Pd' w x
  objs : ∀ o ob, klook σ'.objs o = some ob → klook σ.objs o = some ob ∧ ∀ x, So o x → So' o x
  regs : ∀ t v, klook σ'.regs t = some v → v = .junk ∨ klook σ.regs t = some v

theorem cellOf_ok (h : RepW N w0 ok0 loc So Pd σ a w) {v : Value} {av c : AV} (hv : RegOK w (Fz w0 ok0 So Pd w) loc So σ.objs v av) (hs : cellOf σ av = some (c, σ')) :
    ∃ So' Pd' Sf, CellFit N w0 ok0 loc So Pd σ a w [v] [c] σ' So' Pd' Sf := by
  have same : ∀ (c : AV), CellOK w (Fz w0 ok0 So Pd w) v c (fun _ => False) → ∃ So' Pd' Sf, CellFit N w0 ok0 loc So Pd σ a w [v] [c] σ So' Pd' Sf := fun c hc =>
    ⟨So, Pd, fun _ _ => False, h, rfl, fun j v' c' h1 h2 => by
      cases j with
      | zero => simp only [List.getElem?_cons_zero, Option.some.injEq] at h1 h2; subst h1 h2; exact hc
      | succ j => simp at h1,
      fun j x hx => hx.elim, fun j j' x hx => hx.elim, fun x hx => hx, fun x => Iff.rfl, fun o ob ho => ⟨ho, fun x hx => hx⟩, fun t v ht => .inr ht⟩
  cases av with
  | d x =>
    simp only [cellOf, Option.some.injEq, Prod.mk.injEq] at hs
    obtain ⟨rfl, rfl⟩ := hs
    exact same _ (by simpa only [RegOK, CellOK] using hv)
  | nil =>
    simp only [cellOf, Option.some.injEq, Prod.mk.injEq] at hs
    obtain ⟨rfl, rfl⟩ := hs
    exact same _ (by simpa only [RegOK, CellOK] using hv)
  | h o off n =>
    simp only [cellOf] at hs
    obtain ⟨ob, hob, hs⟩ := Option.bind_eq_some_iff.1 hs
    obtain ⟨es, he, hs⟩ := Option.map_eq_some_iff.1 hs
    simp only [Prod.mk.injEq] at hs
    obtain ⟨rfl, rfl⟩ := hs
    simp only [RegOK] at hv
    obtain ⟨ob', hob', hle, hval⟩ := hv
    rw [hob] at hob'
    obtain rfl := Option.some.inj hob'
    have hown := fold_ok (h.objs o ob hob) hle hval he
    refine ⟨_, _, fun j x => j = 0 ∧ So o x, h.gone o, rfl, fun j v' c' h1 h2 => ?_, fun j x hx => ?_, fun j j' x hx hx' => by rw [hx.1, hx'.1], fun x hx => .inl hx, fun x => ?_, fun o' ob' ho' => ?_, fun t v' ht => ?_⟩
    · cases j with
      | zero =>
        simp only [List.getElem?_cons_zero, Option.some.injEq] at h1 h2
        subst h1 h2
        exact hown.mono (fun b hb => ⟨rfl, hb⟩) (fun _ _ => rfl)
      | succ j => simp at h1
    · obtain ⟨q1, q2, q3, q4⟩ := h.has o x hx.2
      exact ⟨.inr hx.2, q4, q2, q3⟩
    · constructor
      · intro hx
        exact ⟨hx.1, hx.2.1, fun o' hq => hx.2.2.1 o' hq.2, fun hq => hq.elim hx.2.2.2 (hx.2.2.1 o)⟩
      · intro hx
        refine ⟨hx.1, hx.2.1, fun o' hq => ?_, fun hq => hx.2.2.2 (.inl hq)⟩
        by_cases e : o' = o
        · subst e; exact hx.2.2.2 (.inr hq)
        · exact hx.2.2.1 o' ⟨e, hq⟩
    · simp only [St.gone] at ho'
      have hne : o' ≠ o := by intro e; subst e; rw [klook_kdel_same] at ho'; cases ho'
      rw [klook_kdel_ne _ hne] at ho'
      exact ⟨ho', fun x hx => ⟨hne, hx⟩⟩
    · rcases unref_regs σ o t v' ht with e | ⟨e, _⟩
      · exact .inl e
      · exact .inr e
  | _ => simp [cellOf] at hs

theorem cellsOf_ok : ∀ (l : List AV) (vs : List Value) {σ σ' : St} {So : Nat → Nat → Prop} {Pd : Nat → Prop} {cs : List AV}, RepW N w0 ok0 loc So Pd σ a w → vs.length = l.length →
    (∀ (j : Nat) (v : Value) (av : AV), vs[j]? = some v → l[j]? = some av → (∀ o, av.refs o = true → (klook σ.objs o).isSome) → RegOK w (Fz w0 ok0 So Pd w) loc So σ.objs v av) →
    cellsOf l σ = some (cs, σ') → ∃ So' Pd' Sf, CellFit N w0 ok0 loc So Pd σ a w vs cs σ' So' Pd' Sf := by
  intro l
  induction l with
  | nil =>
    intro vs σ σ' So Pd cs h hl _ hs
    simp only [cellsOf, Option.some.injEq, Prod.mk.injEq] at hs
    obtain ⟨rfl, rfl⟩ := hs
    have : vs = [] := List.eq_nil_of_length_eq_zero hl
    subst this
    exact ⟨So, Pd, fun _ _ => False, h, rfl, fun j v c h1 => by simp at h1, fun j x hx => hx.elim, fun j j' x hx => hx.elim, fun x hx => hx, fun x => Iff.rfl, fun o ob ho => ⟨ho, fun x hx => hx⟩, fun t v ht => .inr ht⟩
  | cons av l ih =>
    intro vs σ σ' So Pd cs h hl hv hs
    cases vs with
    | nil => simp at hl
    | cons v vs =>
      simp only [cellsOf] at hs
      obtain ⟨⟨c, σ1⟩, hc, hs⟩ := Option.bind_eq_some_iff.1 hs
      obtain ⟨⟨cs', σ2⟩, hcs, hs⟩ := Option.map_eq_some_iff.1 hs
      simp only [Prod.mk.injEq] at hs
      obtain ⟨rfl, rfl⟩ := hs
      have hr : ∀ o, av.refs o = true → (klook σ.objs o).isSome := by
        intro o ho
        cases av with
        | h o' off n =>
          simp only [AV.refs, beq_iff_eq] at ho
          subst ho
          simp only [cellOf] at hc
          obtain ⟨ob, hob, _⟩ := Option.bind_eq_some_iff.1 hc
          rw [hob]; rfl
        | d x => simp [AV.refs] at ho
        | nil => simp [AV.refs] at ho
        | _ => simp [cellOf] at hc
      obtain ⟨So1, Pd1, S1, f1⟩ := cellOf_ok h (hv 0 v av (by simp) (by simp) hr) hc
      obtain ⟨So2, Pd2, S2, f2⟩ := ih vs f1.rep (by simpa using hl) (fun j v' av' h1 h2 h3 => by
        have hpres : ∀ o, av'.refs o = true → ∃ ob, klook σ1.objs o = some ob ∧ klook σ.objs o = some ob ∧ ∀ x, So o x → So1 o x := fun o ho => by
          obtain ⟨ob, hob⟩ := Option.isSome_iff_exists.1 (h3 o ho)
          exact ⟨ob, hob, f1.objs o ob hob⟩
        have h4 := hv (j + 1) v' av' (by simpa using h1) (by simpa using h2) (fun o ho => by obtain ⟨ob, _, hob, _⟩ := hpres o ho; rw [hob]; rfl)
        refine RegOK.mono (fun b hb => ⟨(f1.fz b).1 hb, rfl⟩) _ _ h4 (fun o ho => ?_) (fun o ho b hb => ?_)
        · obtain ⟨ob, q1, q2, _⟩ := hpres o ho
          exact ⟨fun ob' hob' => by rw [q2] at hob'; obtain rfl := Option.some.inj hob'; exact ⟨ob, q1, rfl, Nat.le_refl _⟩, rfl⟩
        · obtain ⟨ob, q1, q2, q3⟩ := hpres o (AV.refs_of_looks _ ho)
          exact ⟨q3 b hb, rfl⟩) hcs
      refine ⟨So2, Pd2, fun j x => if j = 0 then S1 0 x else S2 (j - 1) x, f2.rep, by simp [f2.len], fun j v' c' h1 h2 => ?_, fun j x hx => ?_, fun j j' x hx hx' => ?_, fun x hx => f2.pd x (f1.pd x hx), fun x => (f1.fz x).trans (f2.fz x), fun o ob ho => ?_, fun t v' ht => ?_⟩
      · cases j with
        | zero =>
          simp only [List.getElem?_cons_zero, Option.some.injEq] at h1 h2
          subst h1 h2
          exact (f1.cell 0 v c (by simp) (by simp)).mono (fun b hb => (f2.fz b).1 hb) (fun _ _ => rfl) (fun _ _ => rfl)
        | succ j => exact f2.cell j v' c' (by simpa using h1) (by simpa using h2)
      · cases j with
        | zero =>
          simp only [if_true] at hx
          obtain ⟨q1, q2, q3, q4⟩ := f1.sub 0 x hx
          exact ⟨f2.pd x q1, q2, q3, q4⟩
        | succ j =>
          simp only [Nat.add_eq_zero_iff, Nat.succ_ne_self, and_false, if_false, Nat.add_sub_cancel] at hx
          obtain ⟨q1, q2, q3, q4⟩ := f2.sub j x hx
          exact ⟨q1, fun hq => q2 (f1.pd x hq), q3, q4⟩
      · cases j with
        | zero =>
          cases j' with
          | zero => rfl
          | succ j' =>
            simp only [if_true, Nat.add_eq_zero_iff, Nat.succ_ne_self, and_false, if_false, Nat.add_sub_cancel] at hx hx'
            exact absurd (f1.sub 0 x hx).1 (f2.sub j' x hx').2.1
        | succ j =>
          cases j' with
          | zero =>
            simp only [if_true, Nat.add_eq_zero_iff, Nat.succ_ne_self, and_false, if_false, Nat.add_sub_cancel] at hx hx'
            exact absurd (f1.sub 0 x hx').1 (f2.sub j x hx).2.1
          | succ j' =>
            simp only [Nat.add_eq_zero_iff, Nat.succ_ne_self, and_false, if_false, Nat.add_sub_cancel] at hx hx'
            rw [f2.dis j j' x hx hx']
      · obtain ⟨q1, q2⟩ := f2.objs o ob ho
        obtain ⟨q3, q4⟩ := f1.objs o ob q1
        exact ⟨q3, fun x hx => q2 x (q4 x hx)⟩
      · rcases f2.regs t v' ht with e | e
        · exact .inl e
        · exact f1.regs t v' e

theorem cellsOf_regs (h : RepW N w0 ok0 loc So Pd σ a w) {l : List AV} {vs : List Value} {cs : List AV} (hv : RegsOK w (Fz w0 ok0 So Pd w) loc So σ.objs vs l) (hs : cellsOf l σ = some (cs, σ')) :
    ∃ So' Pd' Sf, CellFit N w0 ok0 loc So Pd σ a w vs cs σ' So' Pd' Sf :=
  cellsOf_ok l vs h hv.length (fun j v av h1 h2 _ => by
    obtain ⟨v', h3, h4⟩ := hv.get h2
    rw [h1] at h3
    obtain rfl := Option.some.inj h3
    exact h4) hs

end rep
end Go.Proofs.YtmccpbabpnffcaaK
