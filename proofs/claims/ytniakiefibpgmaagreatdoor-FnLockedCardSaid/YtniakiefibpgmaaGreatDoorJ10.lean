/- Rows that are handed over, or read: whole; and cells that are stored. -/
import Derived.Test.YtniakiefibpgmaaGreatDoorJ9
set_option linter.unusedVariables false
set_option linter.unusedSimpArgs false
namespace Go.Proofs.YtniakiefibpgmaaGreatDoorK
open Go.RowKit

theorem allOf_len {α β : Type} {f : α → Option β} : ∀ {l : List α} {r : List β}, allOf f l = some r → r.length = l.length := by
  intro l
  induction l with
  | nil => intro r h; simp only [allOf, Option.some.injEq] at h; subst h; rfl
  | cons a l ih =>
    intro r h
    simp only [allOf] at h
    obtain ⟨b, _, h⟩ := Option.bind_eq_some_iff.1 h
    obtain ⟨r', hr, rfl⟩ := Option.map_eq_some_iff.1 h
    simp [ih hr]
theorem allOf_get {α β : Type} {f : α → Option β} : ∀ {l : List α} {r : List β}, allOf f l = some r → ∀ {i : Nat} {b : β}, r[i]? = some b → ∃ a, l[i]? = some a ∧ f a = some b := by
  intro l
  induction l with
  | nil => intro r h i b hb; simp only [allOf, Option.some.injEq] at h; subst h; simp at hb
  | cons a l ih =>
    intro r h i b hb
    simp only [allOf] at h
    obtain ⟨c, hc, h⟩ := Option.bind_eq_some_iff.1 h
    obtain ⟨r', hr, rfl⟩ := Option.map_eq_some_iff.1 h
    cases i with
    | zero => simp only [List.getElem?_cons_zero, Option.some.injEq] at hb; subst hb; exact ⟨a, by simp, hc⟩
    | succ i => obtain ⟨x, h1, h2⟩ := ih hr (by simpa using hb); exact ⟨x, by simpa using h1, h2⟩

section rep
variable {N : Nat} {E : Ent} {loc : Nat → Option (Nat × Nat × Nat)} {So : Nat → Nat → Prop} {Pd : Nat → Prop} {σ σ' : St} {a : Act} {w : World}

theorem cv_nohole (fz : Bool) {k i : Nat} (j : Nat) (d : D) (h : k ≤ i) : cv fz k [] i j d = if d.scalar then .d d else if fz then .d d else .own d := by
  simp only [cv, holeAt]
  split
  · rfl
  · rw [if_neg (by omega)]

/-- A row that is handed over, as a tree of its own. -/
theorem fold_ok {fz : Nat → Prop} {objs : List (Nat × Ob)} {S : Nat → Prop} {lo : Option (Nat × Nat × Nat)} {t : T} {f : Bool} {l : List t.den} {k off n : Nat} {v : Value}
    (hO : ObjOK w fz loc So objs lo (.ls t f l k []) S) (hk : k ≤ off) (hle : off + n ≤ l.length) (hv : HVal lo t.w off n v) (hf : f = false ∨ t.flat = true) : Own w v (.sl t ((l.drop off).take n)) S := by
  cases lo with
  | none =>
    obtain ⟨rfl, rfl, A, rfl⟩ := hv
    simp only [List.take_zero]
    exact .nil A t _
  | some q =>
    obtain ⟨b, base, cap⟩ := q
    obtain ⟨hcap, A, rfl, hA⟩ := hv
    obtain ⟨hb, vs, Sf, hrow, hsub, hdis, hc⟩ := hO.some' b base cap rfl
    by_cases h0 : cap - off = 0
    · have hn : n = 0 := by omega
      subst hn
      rw [h0]
      simp only [List.take_zero]
      exact .nil A t _
    · have hA := hA (by omega)
      subst hA
      obtain ⟨arr, T, fr, g1, g2, g3, g4, g5⟩ := hrow
      simp only [Ob.sz] at g3 g5
      have hlen : ((l.drop off).take n).length = n := by simp; omega
      have := Own.sl (w := w) S b (base + off * t.w) (cap - off) t ((l.drop off).take n) (fun i j => vs (off + i) j) (fun i j => Sf (off + i) j) hb
        ⟨arr, T, fr, g1, g2, by rw [g3, Nat.add_assoc, ← Nat.add_mul]; congr 2; omega, by rw [hlen]; omega, fun i j hi hj => by
          rw [hlen] at hi
          have := g5 (off + i) j (by simp only [Ob.len]; omega) hj
          rw [Nat.add_mul, ← Nat.add_assoc] at this
          exact this⟩
        (fun i j x hx => hsub _ _ x hx) (fun i j i' j' x hx hx' => by have := hdis _ _ _ _ x hx hx'; omega)
        (fun i x j d hi hj => by
          obtain ⟨hi, _⟩ := sub_get hi
          have hcl := hc (off + i) j _ (ob_cell hi hj)
          rw [cv_nohole f j d (by omega)] at hcl
          by_cases hs : d.scalar = true
          · rw [if_pos hs] at hcl
            exact scalar_own hcl hs _ _
          · rw [if_neg hs] at hcl
            rcases hf with hf | hf
            · subst hf
              simp only [Bool.false_eq_true, if_false] at hcl
              exact hcl
            · exact absurd (cellsT_flat t x hf d (List.mem_of_getElem? hj)) hs)
      rw [hlen] at this
      exact this

/-- A row that is read. -/
theorem read_ok {fz : Nat → Prop} {objs : List (Nat × Ob)} {S : Nat → Prop} {lo : Option (Nat × Nat × Nat)} {t : T} {f : Bool} {l : List t.den} {k off n : Nat} {v : Value}
    (hO : ObjOK w fz loc So objs lo (.ls t f l k []) S) (hk : k ≤ off) (hle : off + n ≤ l.length) (hv : HVal lo t.w off n v) : Rd w (fun x => fz x ∨ S x) v (.sl t ((l.drop off).take n)) := by
  cases lo with
  | none =>
    obtain ⟨rfl, rfl, A, rfl⟩ := hv
    simp only [List.take_zero]
    exact .nil A 0 t
  | some q =>
    obtain ⟨b, base, cap⟩ := q
    obtain ⟨hcap, A, rfl, hA⟩ := hv
    obtain ⟨hb, vs, Sf, hrow, hsub, hdis, hc⟩ := hO.some' b base cap rfl
    by_cases h0 : cap - off = 0
    · have hn : n = 0 := by omega
      subst hn
      simp only [List.take_zero]
      exact .nil A _ t
    · have hA := hA (by omega)
      subst hA
      have hlen : ((l.drop off).take n).length = n := by simp; omega
      have := Rd.sl (w := w) (ok := fun x => fz x ∨ S x) b (base + off * t.w) (cap - off) t ((l.drop off).take n) (fun i j => vs (off + i) j) (.inr hb) (by rw [hlen]; omega)
        (fun i x j d hi hj => by
          obtain ⟨hi, _⟩ := sub_get hi
          have := hrow.cell (i := off + i) (j := j) (get_lt hi) (cells_lt hj)
          simp only [Ob.sz] at this
          rw [Nat.add_mul, ← Nat.add_assoc] at this
          exact this)
        (fun i x j d hi hj => by
          obtain ⟨hi, _⟩ := sub_get hi
          have hcl := hc (off + i) j _ (ob_cell hi hj)
          rw [cv_nohole f j d (by omega)] at hcl
          by_cases hs : d.scalar = true
          · rw [if_pos hs] at hcl
            exact scalar_rd hcl hs _ _
          · rw [if_neg hs] at hcl
            cases f with
            | true =>
              simp only [if_true] at hcl
              exact Rd.mono (fun b hb => .inl hb) (fun _ _ => rfl) hcl
            | false =>
              simp only [Bool.false_eq_true, if_false] at hcl
              exact (Own.rd hcl).mono (fun b hb => .inr (hsub _ _ b hb).1) (fun _ _ => rfl))
      rw [hlen] at this
      exact this

theorem rowsOf_some {o off n : Nat} {q : (t : T) × Bool × List t.den} (h : rowsOf σ o off n = some q) : ∃ t fz l k, klook σ.objs o = some (.ls t fz l k []) ∧ k ≤ off ∧ q = ⟨t, fz, (l.drop off).take n⟩ := by
  unfold rowsOf at h
  obtain ⟨ob, hob, h⟩ := Option.bind_eq_some_iff.1 h
  cases ob with
  | ls t fz l k hs =>
    simp only at h
    split at h
    · rename_i hc
      have hh : hs = [] := by simpa using hc.2
      subst hh
      exact ⟨t, fz, l, k, hob, hc.1, (Option.some.inj h).symm⟩
    · cases h
  | fn v => simp at h

/-- What is stored fits. -/
structure CellFit (N : Nat) (E : Ent) (loc : Nat → Option (Nat × Nat × Nat)) (So : Nat → Nat → Prop) (Pd : Nat → Prop) (σ : St) (a : Act) (w : World) (fz : Bool) (vs : List Value) (ds : List D) (σ' : St) (So' : Nat → Nat → Prop) (Pd' : Nat → Prop) (Sf : Nat → Nat → Prop) : Prop where
  rep : RepW N E loc So' Pd' σ' a w
  len : ds.length = vs.length
  cell : ∀ (j : Nat) (v : Value) (d : D), vs[j]? = some v → ds[j]? = some d → if fz then Rd w (Fz E So' Pd' w) v d else Own w v d (Sf j)
  sub : ∀ j x, Sf j x → Pd' x ∧ ¬ Pd x ∧ E.mine x ∧ x < w.heap.size
  dis : ∀ j j' x, Sf j x → Sf j' x → j = j'
  pd : ∀ x, Pd x → Pd' x
  fz : ∀ x, Fz E So Pd w x → Fz E So' Pd' w x
  objs : ∀ o ob, klook σ'.objs o = some ob → ∃ ob0, klook σ.objs o = some ob0 ∧ ob.sz = ob0.sz ∧ ob.len = ob0.len ∧ ∀ x, So o x → So' o x
  regs : ∀ t v, klook σ'.regs t = some v → v = .junk ∨ klook σ.regs t = some v

theorem cellOf_ok (h : RepW N E loc So Pd σ a w) {fz : Bool} {v : Value} {av : AV} {d : D} (hv : RegOK w (Fz E So Pd w) loc So σ.objs v av) (hs : cellOf fz σ av = some (d, σ')) :
    ∃ So' Pd' Sf, CellFit N E loc So Pd σ a w fz [v] [d] σ' So' Pd' Sf := by
  have same : (if fz then Rd w (Fz E So Pd w) v d else Own w v d (fun _ => False)) → ∃ So' Pd' Sf, CellFit N E loc So Pd σ a w fz [v] [d] σ So' Pd' Sf := fun hc =>
    ⟨So, Pd, fun _ _ => False, h, rfl, fun j v' c' h1 h2 => by
      cases j with
      | zero => simp only [List.getElem?_cons_zero, Option.some.injEq] at h1 h2; subst h1 h2; exact hc
      | succ j => simp at h1,
      fun j x hx => hx.elim, fun j j' x hx => hx.elim, fun x hx => hx, fun x hx => hx, fun o ob ho => ⟨ob, ho, rfl, rfl, fun x hx => hx⟩, fun t v ht => .inr ht⟩
  cases av with
  | d x =>
    simp only [cellOf] at hs
    split at hs
    · rename_i hsc
      simp only [Option.some.injEq, Prod.mk.injEq] at hs
      obtain ⟨rfl, rfl⟩ := hs
      simp only [RegOK] at hv
      refine same ?_
      cases fz with
      | true => exact hv
      | false =>
        simp only [Bool.or_false] at hsc
        exact scalar_own hv hsc _ _
    · cases hs
  | nil t =>
    simp only [cellOf, Option.some.injEq, Prod.mk.injEq] at hs
    obtain ⟨rfl, rfl⟩ := hs
    simp only [RegOK] at hv
    subst hv
    refine same ?_
    cases fz with
    | true => exact .nil _ _ _
    | false => exact .nil _ _ _
  | h o off n =>
    simp only [cellOf] at hs
    obtain ⟨q, hq, hs⟩ := Option.bind_eq_some_iff.1 hs
    obtain ⟨t, f, l, k, hob, hk, rfl⟩ := rowsOf_some hq
    simp only at hs
    split at hs
    · cases hs
    rename_i hcond
    simp only [Option.some.injEq, Prod.mk.injEq] at hs
    obtain ⟨rfl, rfl⟩ := hs
    simp only [RegOK] at hv
    obtain ⟨ob', hob', hle, hval⟩ := hv
    rw [hob] at hob'
    obtain rfl := Option.some.inj hob'
    have hO := h.objs o _ hob
    have hobjs : ∀ o' ob', klook (σ.gone o).objs o' = some ob' → ∃ ob0, klook σ.objs o' = some ob0 ∧ ob'.sz = ob0.sz ∧ ob'.len = ob0.len ∧ ∀ x, So o' x → o' ≠ o ∧ So o' x := fun o' ob' ho' => by
      obtain ⟨hne, ob0, h0, rfl⟩ := gone_objs σ ho'
      exact ⟨ob0, h0, Ob.unref_sz _ _, Ob.unref_len _ _, fun x hx => ⟨hne, hx⟩⟩
    have hregs : ∀ t v, klook (σ.gone o).regs t = some v → v = .junk ∨ klook σ.regs t = some v := fun t v' ht => by
      rcases unref_regs σ o t v' ht with e | ⟨e, _⟩
      · exact .inl e
      · exact .inr e
    cases fz with
    | true =>
      have hrd := read_ok hO hk hle hval
      have hfz : ∀ x, Fz E So Pd w x → Fz E (fun o' x => o' ≠ o ∧ So o' x) Pd w x := fun x hx => ⟨hx.1, hx.2.1, fun o' hq => hx.2.2.1 o' hq.2, hx.2.2.2⟩
      refine ⟨_, _, fun _ _ => False, h.freeze o, rfl, fun j v' c' h1 h2 => ?_, fun j x hx => hx.elim, fun j j' x hx => hx.elim, fun x hx => hx, hfz, hobjs, hregs⟩
      cases j with
      | zero =>
        simp only [List.getElem?_cons_zero, Option.some.injEq] at h1 h2
        subst h1 h2
        simp only [if_true]
        refine hrd.mono (fun b hb => ?_) (fun _ _ => rfl)
        rcases hb with hb | hb
        · exact hfz b hb
        · obtain ⟨q1, q2, q3, q4⟩ := h.has o b hb
          exact ⟨.inr q2, q3, fun o' hq => hq.1 (h.dis o' o b hq.2 hb), q4⟩
      | succ j => simp at h1
    | false =>
      have hf : f = false ∨ t.flat = true := by
        cases f with
        | false => exact .inl rfl
        | true =>
          cases hfl : t.flat with
          | true => exact .inr rfl
          | false => exact absurd ⟨rfl, hfl, rfl⟩ hcond
      have hown := fold_ok hO hk hle hval hf
      refine ⟨_, _, fun j x => j = 0 ∧ So o x, h.gone o, rfl, fun j v' c' h1 h2 => ?_, fun j x hx => ?_, fun j j' x hx hx' => by rw [hx.1, hx'.1], fun x hx => .inl hx, fun x hx => ⟨hx.1, hx.2.1, fun o' hq => hx.2.2.1 o' hq.2, fun hq => hq.elim hx.2.2.2 (hx.2.2.1 o)⟩, hobjs, hregs⟩
      · cases j with
        | zero =>
          simp only [List.getElem?_cons_zero, Option.some.injEq] at h1 h2
          subst h1 h2
          exact hown.mono (fun b hb => ⟨rfl, hb⟩) (fun _ _ => rfl)
        | succ j => simp at h1
      · obtain ⟨q1, q2, q3, q4⟩ := h.has o x hx.2
        exact ⟨.inr hx.2, q4, q2, q3⟩
  | _ => simp [cellOf] at hs

theorem cellOf_refs {fz : Bool} {av : AV} {q : D × St} (hc : cellOf fz σ av = some q) : ∀ o, av.refs o = true → (klook σ.objs o).isSome := by
  intro o ho
  cases av with
  | h o' off n =>
    simp only [AV.refs, beq_iff_eq] at ho
    subst ho
    simp only [cellOf] at hc
    obtain ⟨r, hr, _⟩ := Option.bind_eq_some_iff.1 hc
    obtain ⟨t, f, l, k, hob, _⟩ := rowsOf_some hr
    rw [hob]; rfl
  | d x => simp [AV.refs] at ho
  | nil => simp [AV.refs] at ho
  | _ => simp [cellOf] at hc

theorem cellsOf_ok {fz : Bool} : ∀ (l : List AV) (vs : List Value) {σ σ' : St} {So : Nat → Nat → Prop} {Pd : Nat → Prop} {ds : List D}, RepW N E loc So Pd σ a w → vs.length = l.length →
    (∀ (j : Nat) (v : Value) (av : AV), vs[j]? = some v → l[j]? = some av → (∀ o, av.refs o = true → (klook σ.objs o).isSome) → RegOK w (Fz E So Pd w) loc So σ.objs v av) →
    cellsOf fz l σ = some (ds, σ') → ∃ So' Pd' Sf, CellFit N E loc So Pd σ a w fz vs ds σ' So' Pd' Sf := by
  intro l
  induction l with
  | nil =>
    intro vs σ σ' So Pd cs h hl _ hs
    simp only [cellsOf, Option.some.injEq, Prod.mk.injEq] at hs
    obtain ⟨rfl, rfl⟩ := hs
    have : vs = [] := List.eq_nil_of_length_eq_zero hl
    subst this
    exact ⟨So, Pd, fun _ _ => False, h, rfl, fun j v c h1 => by simp at h1, fun j x hx => hx.elim, fun j j' x hx => hx.elim, fun x hx => hx, fun x hx => hx, fun o ob ho => ⟨ob, ho, rfl, rfl, fun x hx => hx⟩, fun t v ht => .inr ht⟩
  | cons av l ih =>
    intro vs σ σ' So Pd cs h hl hv hs
    cases vs with
    | nil => simp at hl
    | cons v vs =>
      simp only [cellsOf] at hs
      obtain ⟨⟨c, σ1⟩, hc, hs⟩ := Option.bind_eq_some_iff.1 hs
      obtain ⟨⟨cs', σ2⟩, hcs, hs⟩ := Option.map_eq_some_iff.1 hs
      simp only [Prod.mk.injEq] at hs
      obtain ⟨rfl, rfl⟩ := hs
      obtain ⟨So1, Pd1, S1, f1⟩ := cellOf_ok h (hv 0 v av (by simp) (by simp) (cellOf_refs hc)) hc
      obtain ⟨So2, Pd2, S2, f2⟩ := ih vs f1.rep (by simpa using hl) (fun j v' av' h1 h2 h3 => by
        have hpres : ∀ o, av'.refs o = true → ∃ ob ob0, klook σ1.objs o = some ob ∧ klook σ.objs o = some ob0 ∧ ob.sz = ob0.sz ∧ ob.len = ob0.len ∧ ∀ x, So o x → So1 o x := fun o ho => by
          obtain ⟨ob, hob⟩ := Option.isSome_iff_exists.1 (h3 o ho)
          obtain ⟨ob0, q⟩ := f1.objs o ob hob
          exact ⟨ob, ob0, hob, q⟩
        have h4 := hv (j + 1) v' av' (by simpa using h1) (by simpa using h2) (fun o ho => by obtain ⟨ob, ob0, _, q, _⟩ := hpres o ho; rw [q]; rfl)
        refine RegOK.mono (fun b hb => ⟨f1.fz b hb, rfl⟩) _ _ h4 (fun o ho => ?_) (fun o ho b hb => ?_)
        · obtain ⟨ob, ob0, q1, q2, q3, q4, _⟩ := hpres o ho
          exact ⟨fun ob' hob' => by rw [q2] at hob'; obtain rfl := Option.some.inj hob'; exact ⟨ob, q1, q3, q4⟩, rfl⟩
        · obtain ⟨ob, ob0, q1, q2, q3, q4, q5⟩ := hpres o (AV.refs_of_looks _ ho)
          exact ⟨q5 b hb, rfl⟩) hcs
      refine ⟨So2, Pd2, fun j x => if j = 0 then S1 0 x else S2 (j - 1) x, f2.rep, by simp [f2.len], fun j v' c' h1 h2 => ?_, fun j x hx => ?_, fun j j' x hx hx' => ?_, fun x hx => f2.pd x (f1.pd x hx), fun x hx => f2.fz x (f1.fz x hx), fun o ob ho => ?_, fun t v' ht => ?_⟩
      · cases j with
        | zero =>
          simp only [List.getElem?_cons_zero, Option.some.injEq] at h1 h2
          subst h1 h2
          have := f1.cell 0 v c (by simp) (by simp)
          cases fz with
          | true => exact Rd.mono (fun b hb => f2.fz b hb) (fun _ _ => rfl) this
          | false => exact this
        | succ j => exact f2.cell j v' c' (by simpa using h1) (by simpa using h2)
      · cases j with
        | zero =>
          simp only [if_true] at hx
          obtain ⟨q1, q2, q3, q4⟩ := f1.sub 0 x hx
          exact ⟨f2.pd x q1, q2, q3, q4⟩
        | succ j =>
          simp only [Nat.add_eq_zero_iff, Nat.succ_ne_self, and_false, if_false, Nat.add_sub_cancel] at hx
          obtain ⟨q1, q2, q3, q4⟩ := f2.sub j x hx
          exact ⟨q1, fun hq => q2 (f1.pd x hq), q3, q4⟩
      · cases j with
        | zero =>
          cases j' with
          | zero => rfl
          | succ j' =>
            simp only [if_true, Nat.add_eq_zero_iff, Nat.succ_ne_self, and_false, if_false, Nat.add_sub_cancel] at hx hx'
            exact absurd (f1.sub 0 x hx).1 (f2.sub j' x hx').2.1
        | succ j =>
          cases j' with
          | zero =>
            simp only [if_true, Nat.add_eq_zero_iff, Nat.succ_ne_self, and_false, if_false, Nat.add_sub_cancel] at hx hx'
            exact absurd (f1.sub 0 x hx').1 (f2.sub j x hx).2.1
          | succ j' =>
            simp only [Nat.add_eq_zero_iff, Nat.succ_ne_self, and_false, if_false, Nat.add_sub_cancel] at hx hx'
            rw [f2.dis j j' x hx hx']
      · obtain ⟨ob1, q1, q2, q3, q4⟩ := f2.objs o ob ho
        obtain ⟨ob0, p1, p2, p3, p4⟩ := f1.objs o ob1 q1
        exact ⟨ob0, p1, q2.trans p2, q3.trans p3, fun x hx => q4 x (p4 x hx)⟩
      · rcases f2.regs t v' ht with e | e
        · exact .inl e
        · exact f1.regs t v' e

theorem cellsOf_regs (h : RepW N E loc So Pd σ a w) {fz : Bool} {l : List AV} {vs : List Value} {ds : List D} (hv : RegsOK w (Fz E So Pd w) loc So σ.objs vs l) (hs : cellsOf fz l σ = some (ds, σ')) :
    ∃ So' Pd' Sf, CellFit N E loc So Pd σ a w fz vs ds σ' So' Pd' Sf :=
  cellsOf_ok l vs h hv.length (fun j v av h1 h2 _ => by
    obtain ⟨v', h3, h4⟩ := hv.get h2
    rw [h1] at h3
    obtain rfl := Option.some.inj h3
    exact h4) hs

end rep
end Go.Proofs.YtniakiefibpgmaaGreatDoorK
