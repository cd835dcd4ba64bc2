/- Functions: what is reckoned abstractly is what the function gives back. -/
import Derived.Test.YtniakiefibpgmaaGreatDoorJ21
set_option linter.unusedVariables false
set_option linter.unusedSimpArgs false
namespace Go.Proofs.YtniakiefibpgmaaGreatDoorK
open Go.RowKit

def okRes (P : Program) : ResultVar → Res → Bool
  | .tmp t, .t n => t == n
  | .cell t ty, .cell n sz ag => t == n && szB P ty sz && aggB P ty ag
  | _, _ => false
def okRess (P : Program) : List ResultVar → List Res → Bool
  | [], [] => true
  | x :: xs, r :: rs => okRes P x r && okRess P xs rs
  | _, _ => false
def okFn (P : Program) (f : Nat) (fn : Fn) : Bool :=
  match P.funcs[f]? with
  | some g => !(g.name == "runtime.NumGoroutine") && decide (fn.n ≤ g.ntmps) && okRess P g.results.toList fn.res &&
      (match g.body with | some c => okC P g.ntmps fn.body c | none => false)
  | none => false

theorem argRegs_look : ∀ (as : List AV) (k t : Nat) (v : AV), klook (argRegs k as) t = some v → ∃ j, t = k + j ∧ as[j]? = some v
  | [], _, _, _, h => by simp [argRegs, klook] at h
  | a :: l, k, t, v, h => by
    simp only [argRegs] at h
    rcases klook_snoc h with h | ⟨e, rfl⟩
    · obtain ⟨j, h1, h2⟩ := argRegs_look l (k + 1) t v h
      exact ⟨j + 1, by omega, by simpa using h2⟩
    · exact ⟨0, by omega, by simp⟩

theorem retV_flat {fz : Bool} {σ σ' : St} {av : AV} {r : RV} (h : retV fz σ av = some (r, σ')) : retCs fz av.cells σ = some (r.cells, σ') := by
  have one : ∀ {av : AV}, (∀ l, av ≠ .agg l) → retV fz σ av = some (r, σ') → retCs fz [av] σ = some (r.cells, σ') := fun {av} hn h => by
    have e : retV fz σ av = (retC fz σ av).map fun q => (.one q.1, q.2) := by cases av <;> first | rfl | exact absurd rfl (hn _)
    rw [e] at h
    obtain ⟨q, h1, h2⟩ := Option.map_eq_some_iff.1 h
    simp only [Prod.mk.injEq] at h2
    obtain ⟨rfl, rfl⟩ := h2
    simp only [retCs, h1, Option.bind_some, Option.map_some, RV.cells]
  cases av with
  | agg l =>
    simp only [retV] at h
    obtain ⟨q, h1, h2⟩ := Option.map_eq_some_iff.1 h
    simp only [Prod.mk.injEq] at h2
    obtain ⟨rfl, rfl⟩ := h2
    simp only [AV.cells, RV.cells, h1]
  | _ => exact one (by simp) h

section rep
variable {P : Program} {N : Nat} {E : Ent} {loc : Nat → Option (Nat × Nat × Nat)} {So : Nat → Nat → Prop} {Pd : Nat → Prop} {σ σ' : St} {a : Act} {w : World} {X : XF} {gl : Globs}

theorem retV_shape {fz : Bool} {av : AV} {r : RV} (h : retV fz σ av = some (r, σ')) {ok : Nat → Prop} {objs : List (Nat × Ob)} {v : Value} (hv : RegOK w ok loc So objs v av) : ∃ us, Shape v r us ∧ RegsOK w ok loc So objs us av.cells := by
  cases av with
  | agg l =>
    simp only [retV] at h
    obtain ⟨q, h1, h2⟩ := Option.map_eq_some_iff.1 h
    simp only [Prod.mk.injEq] at h2
    obtain ⟨rfl, rfl⟩ := h2
    simp only [RegOK] at hv
    obtain ⟨vs, rfl, hvs⟩ := hv
    refine ⟨vs, ?_, hvs⟩
    simp only [Shape]
    refine ⟨trivial, ?_⟩
    have hl : ∀ (l : List AV) (σ : St) (q : List RC × St), retCs fz l σ = some q → q.1.length = l.length := by
      intro l
      induction l with
      | nil => intro σ q h; simp only [retCs, Option.some.injEq] at h; subst h; rfl
      | cons x l ih =>
        intro σ q h
        simp only [retCs] at h
        obtain ⟨q1, _, h⟩ := Option.bind_eq_some_iff.1 h
        obtain ⟨q2, h2, rfl⟩ := Option.map_eq_some_iff.1 h
        simp [ih _ _ h2]
    rw [hvs.length, hl _ _ _ h1]
  | _ =>
    refine ⟨[v], ?_, by simp only [AV.cells, RegsOK]; exact ⟨hv, trivial⟩⟩
    simp only [retV] at h
    obtain ⟨q, h1, h2⟩ := Option.map_eq_some_iff.1 h
    simp only [Prod.mk.injEq] at h2
    obtain ⟨rfl, rfl⟩ := h2
    simp only [Shape]
/-- What is handed back fits. -/
structure RetFit (N : Nat) (E : Ent) (loc : Nat → Option (Nat × Nat × Nat)) (So : Nat → Nat → Prop) (Pd : Nat → Prop) (σ : St) (a : Act) (w : World) (vs : List Value) (cs : List RC) (σ' : St) (So' : Nat → Nat → Prop) (Pd' : Nat → Prop) (Sf : Nat → Nat → Prop) : Prop where
  rep : RepW N E loc So' Pd' σ' a w
  cell : ∀ (j : Nat) (v : Value) (c : RC), vs[j]? = some v → cs[j]? = some c → RetC w (Fz E So' Pd' w) (Sf j) v c
  sub : ∀ j x, Sf j x → Pd' x ∧ ¬ Pd x ∧ E.mine x ∧ x < w.heap.size
  dis : ∀ j j' x, Sf j x → Sf j' x → j = j'
  pd : ∀ x, Pd x → Pd' x
  fz : ∀ x, Fz E So Pd w x → Fz E So' Pd' w x
  objs : ∀ o ob, klook σ'.objs o = some ob → ∃ ob0, klook σ.objs o = some ob0 ∧ ob.sz = ob0.sz ∧ ob.len = ob0.len ∧ ∀ x, So o x → So' o x

theorem RetFit.of_cell {fz : Bool} {v : Value} {d : D} {So' : Nat → Nat → Prop} {Pd' : Nat → Prop} {Sf : Nat → Nat → Prop} (f : CellFit N E loc So Pd σ a w fz [v] [d] σ' So' Pd' Sf) : RetFit N E loc So Pd σ a w [v] [if fz then .fz d else .own d] σ' So' Pd' Sf := by
  refine ⟨f.rep, fun j v' c h1 h2 => ?_, f.sub, f.dis, f.pd, f.fz, f.objs⟩
  cases j with
  | succ j => simp at h1
  | zero =>
    simp only [List.getElem?_cons_zero, Option.some.injEq] at h1 h2
    subst h1 h2
    have := f.cell 0 v d (by simp) (by simp)
    cases fz <;> exact this
theorem retC_ok (h : RepW N E loc So Pd σ a w) {fz : Bool} {v : Value} {av : AV} {c : RC} (hv : RegOK w (Fz E So Pd w) loc So σ.objs v av) (hs : retC fz σ av = some (c, σ')) : ∃ So' Pd' Sf, RetFit N E loc So Pd σ a w [v] [c] σ' So' Pd' Sf := by
  cases av with
  | d x =>
    simp only [retC, Option.some.injEq, Prod.mk.injEq] at hs
    obtain ⟨rfl, rfl⟩ := hs
    obtain ⟨So', Pd', Sf, f⟩ := cellOf_ok (fz := true) h hv (d := x) (σ' := σ) (by simp [cellOf])
    exact ⟨So', Pd', Sf, RetFit.of_cell f⟩
  | nil t =>
    simp only [retC, Option.some.injEq, Prod.mk.injEq] at hs
    obtain ⟨rfl, rfl⟩ := hs
    obtain ⟨So', Pd', Sf, f⟩ := cellOf_ok (fz := false) h hv (d := .sl t []) (σ' := σ) (by simp [cellOf])
    exact ⟨So', Pd', Sf, RetFit.of_cell f⟩
  | h o off n =>
    simp only [retC] at hs
    obtain ⟨q, hq, hs⟩ := Option.map_eq_some_iff.1 hs
    split at hs
    · simp only [Prod.mk.injEq] at hs
      obtain ⟨rfl, rfl⟩ := hs
      obtain ⟨So', Pd', Sf, f⟩ := cellOf_ok (fz := true) h hv (d := .sl q.1 q.2.2) (σ' := σ.gone o) (by simp [cellOf, hq])
      exact ⟨So', Pd', Sf, RetFit.of_cell f⟩
    · rename_i hc
      simp only [Prod.mk.injEq] at hs
      obtain ⟨rfl, rfl⟩ := hs
      obtain ⟨So', Pd', Sf, f⟩ := cellOf_ok (fz := false) h hv (d := .sl q.1 q.2.2) (σ' := σ.gone o) (by
        simp only [cellOf, hq, Option.bind_some]
        rw [if_neg]
        rintro ⟨e1, e2, _⟩
        exact hc (by simp [e1, e2]))
      exact ⟨So', Pd', Sf, RetFit.of_cell f⟩
  | p o i j =>
    simp only [retC] at hs
    obtain ⟨ob, hob, hs2⟩ := Option.bind_eq_some_iff.1 hs
    clear hs
    cases ob with
    | fn u => simp at hs2
    | ls t f l k hh =>
      simp only at hs2
      split at hs2
      case h_2 => cases hs2
      rename_i x
      by_cases hc : i = 0 ∧ j = 0 ∧ k = 0 ∧ hh.isEmpty = true
      case neg => rw [if_neg hc] at hs2; cases hs2
      rw [if_pos hc] at hs2
      obtain ⟨rfl, rfl, rfl, hh'⟩ := hc
      have hh' : hh = [] := by simpa using hh'
      subst hh'
      obtain ⟨rfl, rfl⟩ := Prod.mk.inj (Option.some.inj hs2)
      simp only [RegOK] at hv
      obtain ⟨ob', b, base, cap, hob', hloc, _, hv⟩ := hv
      rw [hob] at hob'
      obtain rfl := Option.some.inj hob'
      obtain ⟨hb, vs, Sg, hrow, hsub, hdis, hcl⟩ := (h.objs o _ hob).some' b base cap hloc
      have hobjs : ∀ o' ob', klook (σ.gone o).objs o' = some ob' → ∃ ob0, klook σ.objs o' = some ob0 ∧ ob'.sz = ob0.sz ∧ ob'.len = ob0.len ∧ ∀ x, So o' x → o' ≠ o ∧ So o' x := fun o' ob' ho' => by
        obtain ⟨hne, ob0, h0, rfl⟩ := gone_objs σ ho'
        exact ⟨ob0, h0, Ob.unref_sz _ _, Ob.unref_len _ _, fun x hx => ⟨hne, hx⟩⟩
      have hfz : ∀ x, Fz E So Pd w x → Fz E (fun o' x => o' ≠ o ∧ So o' x) (fun x => Pd x ∨ So o x) w x := fun x hx => ⟨hx.1, hx.2.1, fun o' hq => hx.2.2.1 o' hq.2, fun hq => hq.elim hx.2.2.2 (hx.2.2.1 o)⟩
      refine ⟨_, _, fun j x => j = 0 ∧ So o x, h.gone o, fun j v' c' h1 h2 => ?_, fun j x hx => ?_, fun j j' x hx hx' => by rw [hx.1, hx'.1], fun x hx => .inl hx, hfz, hobjs⟩
      · cases j with
        | succ j => simp at h1
        | zero =>
          simp only [List.getElem?_cons_zero, Option.some.injEq] at h1 h2
          subst h1 h2
          simp only [Ob.sz, Ob.len, List.length_cons, List.length_nil, Nat.zero_mul, Nat.add_zero, Nat.zero_add] at hv hrow
          refine ⟨b, base, cap, vs, Sg 0, hv, ⟨rfl, hb⟩, hrow, fun j y hy => ⟨⟨rfl, (hsub 0 j y hy).1⟩, (hsub 0 j y hy).2⟩, fun j j' y hy hy' => (hdis 0 j 0 j' y hy hy').2, fun j d hd => ?_⟩
          have hcell := hcl 0 j _ (ob_cell (show [x][0]? = some x from rfl) hd)
          rw [cv_nohole f j d (Nat.zero_le _)] at hcell
          cases f with
          | true =>
            simp only [if_true] at hcell ⊢
            split at hcell
            · exact Rd.mono hfz (fun _ _ => rfl) hcell
            · exact Rd.mono hfz (fun _ _ => rfl) hcell
          | false =>
            simp only [Bool.false_eq_true, if_false] at hcell ⊢
            split at hcell
            · rename_i hsc; exact scalar_own hcell hsc _ _
            · exact hcell
      · obtain ⟨q1, q2, q3, q4⟩ := h.has o x hx.2
        exact ⟨.inr hx.2, q4, q2, q3⟩
  | _ => simp [retC] at hs
theorem retC_refs {fz : Bool} {av : AV} {q : RC × St} (hc : retC fz σ av = some q) : ∀ o, av.refs o = true → (klook σ.objs o).isSome := by
  intro o ho
  cases av with
  | h o' off n =>
    simp only [AV.refs, beq_iff_eq] at ho
    subst ho
    simp only [retC] at hc
    obtain ⟨r, hr, _⟩ := Option.map_eq_some_iff.1 hc
    obtain ⟨t, f, l, k, hob, _⟩ := rowsOf_some hr
    rw [hob]; rfl
  | p o' i j =>
    simp only [AV.refs, beq_iff_eq] at ho
    subst ho
    simp only [retC] at hc
    obtain ⟨ob, hob, _⟩ := Option.bind_eq_some_iff.1 hc
    rw [hob]; rfl
  | d x => simp [AV.refs] at ho
  | nil => simp [AV.refs] at ho
  | _ => simp [retC] at hc
theorem RetC.mono {ok ok' S S' : Nat → Prop} {v : Value} {c : RC} (h : RetC w ok S v c) (h1 : ∀ b, ok b → ok' b) (h2 : ∀ b, S b → S' b) : RetC w ok' S' v c := by
  cases c with
  | fz x => exact Rd.mono h1 (fun _ _ => rfl) h
  | own x => exact Own.mono h h2 (fun _ _ => rfl)
  | bx t f x => exact BoxC.mono h (fun _ _ => h1) h2

theorem retCs_ok {fz : Bool} : ∀ (l : List AV) (vs : List Value) {σ σ' : St} {So : Nat → Nat → Prop} {Pd : Nat → Prop} {cs : List RC}, RepW N E loc So Pd σ a w → vs.length = l.length →
    (∀ (j : Nat) (v : Value) (av : AV), vs[j]? = some v → l[j]? = some av → (∀ o, av.refs o = true → (klook σ.objs o).isSome) → RegOK w (Fz E So Pd w) loc So σ.objs v av) →
    retCs fz l σ = some (cs, σ') → ∃ So' Pd' Sf, RetFit N E loc So Pd σ a w vs cs σ' So' Pd' Sf := by
  intro l
  induction l with
  | nil =>
    intro vs σ σ' So Pd cs h hl _ hs
    simp only [retCs, Option.some.injEq, Prod.mk.injEq] at hs
    obtain ⟨rfl, rfl⟩ := hs
    have : vs = [] := List.eq_nil_of_length_eq_zero hl
    subst this
    exact ⟨So, Pd, fun _ _ => False, h, fun j v c h1 => by simp at h1, fun j x hx => hx.elim, fun j j' x hx => hx.elim, fun x hx => hx, fun x hx => hx, fun o ob ho => ⟨ob, ho, rfl, rfl, fun x hx => hx⟩⟩
  | cons av l ih =>
    intro vs σ σ' So Pd cs h hl hv hs
    cases vs with
    | nil => simp at hl
    | cons v vs =>
      simp only [retCs] at hs
      obtain ⟨⟨c, σ1⟩, hc, hs2⟩ := Option.bind_eq_some_iff.1 hs
      obtain ⟨⟨cs', σ2⟩, hcs, hs3⟩ := Option.map_eq_some_iff.1 hs2
      clear hs hs2
      simp only [Prod.mk.injEq] at hs3
      obtain ⟨rfl, rfl⟩ := hs3
      obtain ⟨So1, Pd1, S1, f1⟩ := retC_ok h (hv 0 v av (by simp) (by simp) (retC_refs hc)) hc
      obtain ⟨So2, Pd2, S2, f2⟩ := ih vs f1.rep (by simpa using hl) (fun j v' av' h1 h2 h3 => by
        have hpres : ∀ o, av'.refs o = true → ∃ ob ob0, klook σ1.objs o = some ob ∧ klook σ.objs o = some ob0 ∧ ob.sz = ob0.sz ∧ ob.len = ob0.len ∧ ∀ x, So o x → So1 o x := fun o ho => by
          obtain ⟨ob, hob⟩ := Option.isSome_iff_exists.1 (h3 o ho)
          obtain ⟨ob0, q⟩ := f1.objs o ob hob
          exact ⟨ob, ob0, hob, q⟩
        have h4 := hv (j + 1) v' av' (by simpa using h1) (by simpa using h2) (fun o ho => by obtain ⟨ob, ob0, _, q, _⟩ := hpres o ho; rw [q]; rfl)
        refine RegOK.mono (fun b hb => ⟨f1.fz b hb, rfl⟩) _ _ h4 (fun o ho => ?_) (fun o ho b hb => ?_)
        · obtain ⟨ob, ob0, q1, q2, q3, q4, _⟩ := hpres o ho
          exact ⟨fun ob' hob' => by rw [q2] at hob'; obtain rfl := Option.some.inj hob'; exact ⟨ob, q1, q3, q4⟩, rfl⟩
        · obtain ⟨ob, ob0, q1, q2, q3, q4, q5⟩ := hpres o (AV.refs_of_looks _ ho)
          exact ⟨q5 b hb, rfl⟩) hcs
      refine ⟨So2, Pd2, fun j x => if j = 0 then S1 0 x else S2 (j - 1) x, f2.rep, fun j v' c' h1 h2 => ?_, fun j x hx => ?_, fun j j' x hx hx' => ?_, fun x hx => f2.pd x (f1.pd x hx), fun x hx => f2.fz x (f1.fz x hx), fun o ob ho => ?_⟩
      · cases j with
        | zero =>
          simp only [List.getElem?_cons_zero, Option.some.injEq] at h1 h2
          subst h1 h2
          exact (f1.cell 0 v c (by simp) (by simp)).mono f2.fz (fun b hb => by simpa using hb)
        | succ j => exact (f2.cell j v' c' (by simpa using h1) (by simpa using h2)).mono (fun b hb => hb) (fun b hb => by simpa using hb)
      · cases j with
        | zero =>
          simp only [if_true] at hx
          obtain ⟨q1, q2, q3, q4⟩ := f1.sub 0 x hx
          exact ⟨f2.pd x q1, q2, q3, q4⟩
        | succ j =>
          simp only [Nat.add_eq_zero_iff, Nat.succ_ne_self, and_false, if_false, Nat.add_sub_cancel] at hx
          obtain ⟨q1, q2, q3, q4⟩ := f2.sub j x hx
          exact ⟨q1, fun hq => q2 (f1.pd x hq), q3, q4⟩
      · cases j with
        | zero =>
          cases j' with
          | zero => rfl
          | succ j' =>
            simp only [if_true, Nat.add_eq_zero_iff, Nat.succ_ne_self, and_false, if_false, Nat.add_sub_cancel] at hx hx'
            exact absurd (f1.sub 0 x hx).1 (f2.sub j' x hx').2.1
        | succ j =>
          cases j' with
          | zero =>
            simp only [if_true, Nat.add_eq_zero_iff, Nat.succ_ne_self, and_false, if_false, Nat.add_sub_cancel] at hx hx'
            exact absurd (f1.sub 0 x hx').1 (f2.sub j x hx).2.1
          | succ j' =>
            simp only [Nat.add_eq_zero_iff, Nat.succ_ne_self, and_false, if_false, Nat.add_sub_cancel] at hx hx'
            rw [f2.dis j j' x hx hx']
      · obtain ⟨ob1, q1, q2, q3, q4⟩ := f2.objs o ob ho
        obtain ⟨ob0, p1, p2, p3, p4⟩ := f1.objs o ob1 q1
        exact ⟨ob0, p1, q2.trans p2, q3.trans p3, fun x hx => q4 x (p4 x hx)⟩

/-- The entry, as the function knows it. -/
def entOf (w : World) (ok own : Nat → Prop) (loc : Nat → Option (Nat × Nat × Nat)) (obs : List Ob) : Ent := ⟨w, ok, own, loc, fun k => match obs[k]? with | some ob => (ob.sz, ob.len) | none => (0, 0)⟩
theorem entry_ok {ok own : Nat → Prop} {as : List AV} {obs : List Ob} {vs : List Value} (h : Entry w ok own loc So as obs vs) {n : Nat} (hn : as.length ≤ n) :
    Rep n (entOf w ok own loc obs) ⟨argRegs 0 as, argObjs 0 obs⟩ { tmps := vs.toArray ++ Array.replicate (n - vs.toArray.size) undef, defers := [] } w := by
  have hlen : vs.length = as.length := h.regs.length
  have hF : ∀ x, ok x → Fz (entOf w ok own loc obs) So (fun x => own x ∧ ∀ k, ¬ So k x) w x := fun x hx => ⟨.inl hx, (h.okl x hx).1, fun o hq => (h.okl x hx).2 (h.has o x hq).1, fun hq => (h.okl x hx).2 hq.1⟩
  refine ⟨loc, So, fun x => own x ∧ ∀ k, ¬ So k x, ?_⟩
  refine ⟨by simp; omega, rfl, ⟨rfl, rfl, rfl, Nat.le_refl _, fun _ _ _ => rfl⟩, h.okl, h.ownl, fun o x hx => ?_, h.dis, fun x hx => h.ownl x hx.1, fun o ob ho => ?_, fun t v hk => ?_, fun k ob hk ho => ?_⟩
  · obtain ⟨q1, q2⟩ := h.has o x hx
    refine ⟨?_, .inl q1, h.ownl x q1, fun hq => hq.2 o hx⟩
    rw [argObjs_zero, List.getElem?_eq_getElem q2]; rfl
  · rw [argObjs_zero] at ho
    exact (h.objs o ob ho).2.mono (fun b hb => ⟨hF b hb, rfl⟩) (fun b hb => ⟨hb, rfl⟩) (fun o' _ => KeepR.refl _ _ o')
  · obtain ⟨j, h1, h2⟩ := argRegs_look as 0 t v hk
    obtain ⟨u, h3, h4⟩ := h.regs.get h2
    have ht : t = j := by omega
    subst ht
    have hu : (vs.toArray ++ Array.replicate (n - vs.toArray.size) undef).getD t undef = u := by
      have hlt : t < vs.length := (List.getElem?_eq_some_iff.1 h3).1
      rw [Array.getD_eq_getD_getElem?, Array.getElem?_append_left (by simpa using hlt)]
      simp [h3]
    rw [hu]
    exact RegOK.mono (fun b hb => ⟨hF b hb, rfl⟩) _ _ h4 (fun o _ => KeepR.refl _ _ o) (fun o _ b hb => ⟨hb, rfl⟩)
  · rw [argObjs_zero] at ho
    simp only [entOf, ho, and_self]

def packRes : List Value → Value
  | [u] => u
  | us => .tuple us.toArray
def resSem (tmps : Array Value) : ResultVar → Sem Value
  | .tmp t => pure (tmps.getD t undef)
  | .cell a t => do loadVar t (← asAddr (tmps.getD a undef))
theorem RetFit.append {σ1 σ2 : St} {us1 us2 : List Value} {cs1 cs2 : List RC} {So1 So2 : Nat → Nat → Prop} {Pd1 Pd2 : Nat → Prop} {S1 S2 : Nat → Nat → Prop} (hl : cs1.length = us1.length)
    (f1 : RetFit N E loc So Pd σ a w us1 cs1 σ1 So1 Pd1 S1) (f2 : RetFit N E loc So1 Pd1 σ1 a w us2 cs2 σ2 So2 Pd2 S2) :
    RetFit N E loc So Pd σ a w (us1 ++ us2) (cs1 ++ cs2) σ2 So2 Pd2 (fun j x => if j < us1.length then S1 j x else S2 (j - us1.length) x) := by
  refine ⟨f2.rep, fun j v c h1 h2 => ?_, fun j x hx => ?_, fun j j' x hx hx' => ?_, fun x hx => f2.pd x (f1.pd x hx), fun x hx => f2.fz x (f1.fz x hx), fun o ob ho => ?_⟩
  · by_cases hj : j < us1.length
    · rw [List.getElem?_append_left hj] at h1
      rw [List.getElem?_append_left (by omega)] at h2
      exact (f1.cell j v c h1 h2).mono f2.fz (fun b hb => by rw [if_pos hj]; exact hb)
    · rw [List.getElem?_append_right (by omega)] at h1
      rw [List.getElem?_append_right (by omega), hl] at h2
      exact (f2.cell _ v c h1 h2).mono (fun b hb => hb) (fun b hb => by rw [if_neg hj]; exact hb)
  · split at hx
    · obtain ⟨q1, q2, q3, q4⟩ := f1.sub j x hx
      exact ⟨f2.pd x q1, q2, q3, q4⟩
    · obtain ⟨q1, q2, q3, q4⟩ := f2.sub _ x hx
      exact ⟨q1, fun hq => q2 (f1.pd x hq), q3, q4⟩
  · split at hx <;> split at hx'
    · exact f1.dis j j' x hx hx'
    · exact absurd (f1.sub j x hx).1 (f2.sub _ x hx').2.1
    · exact absurd (f1.sub j' x hx').1 (f2.sub _ x hx).2.1
    · have := f2.dis _ _ x hx hx'; omega
  · obtain ⟨ob1, q1, q2, q3, q4⟩ := f2.objs o ob ho
    obtain ⟨ob0, p1, p2, p3, p4⟩ := f1.objs o ob1 q1
    exact ⟨ob0, p1, q2.trans p2, q3.trans p3, fun x hx => q4 x (p4 x hx)⟩
theorem retR_get : ∀ {l : List CV} {r : List RC}, retR l = some r → r.length = l.length ∧ ∀ (j : Nat) (c : RC), r[j]? = some c → (∃ x, l[j]? = some (.d x) ∧ c = .fz x) ∨ ∃ x, l[j]? = some (.own x) ∧ c = .own x
  | [], r, h => by simp only [retR, Option.some.injEq] at h; subst h; exact ⟨rfl, fun j c h => by simp at h⟩
  | v :: l, r, h => by
    cases v with
    | d x =>
      simp only [retR] at h
      obtain ⟨r', h1, rfl⟩ := Option.map_eq_some_iff.1 h
      obtain ⟨q1, q2⟩ := retR_get h1
      refine ⟨by simp [q1], fun j c hc => ?_⟩
      cases j with
      | zero => simp only [List.getElem?_cons_zero, Option.some.injEq] at hc ⊢; exact .inl ⟨x, rfl, hc.symm⟩
      | succ j => simpa using q2 j c (by simpa using hc)
    | own x =>
      simp only [retR] at h
      obtain ⟨r', h1, rfl⟩ := Option.map_eq_some_iff.1 h
      obtain ⟨q1, q2⟩ := retR_get h1
      refine ⟨by simp [q1], fun j c hc => ?_⟩
      cases j with
      | zero => simp only [List.getElem?_cons_zero, Option.some.injEq] at hc ⊢; exact .inr ⟨x, rfl, hc.symm⟩
      | succ j => simpa using q2 j c (by simpa using hc)
    | _ => simp [retR] at h
/-- A result's value. -/
theorem resV_ok (h : RepW N E loc So Pd σ a w) {fz : Bool} {x : ResultVar} {r : Res} (hq : okRes P x r = true) {rv : RV} (hv : resV fz σ r = some (rv, σ')) :
    ∃ u us So' Pd' Sf, (resSem a.tmps x).run P w = .ok u w ∧ Shape u rv us ∧ RetFit N E loc So Pd σ a w us rv.cells σ' So' Pd' Sf := by
  cases x with
  | tmp t =>
    cases r with
    | t n =>
      simp only [okRes, beq_iff_eq] at hq
      subst hq
      simp only [resV] at hv
      obtain ⟨us, hsh, hus⟩ := retV_shape hv (h.reg t)
      obtain ⟨So2, Pd2, Sf, f⟩ := retCs_ok _ us h hus.length (fun j v av q1 q2 _ => by
        obtain ⟨v', h3, h4⟩ := hus.get q2
        rw [q1] at h3
        obtain rfl := Option.some.inj h3
        exact h4) (retV_flat hv)
      exact ⟨a.eval (.tmp t), us, So2, Pd2, Sf, rfl, hsh, f⟩
    | cell => simp [okRes] at hq
  | cell t ty =>
    cases r with
    | t n => simp [okRes] at hq
    | cell n sz ag =>
      simp only [okRes, Bool.and_eq_true, beq_iff_eq] at hq
      obtain ⟨⟨rfl, h2⟩, h3⟩ := hq
      have hp := h.reg t
      simp only [resV] at hv
      split at hv
      case h_2 => cases hv
      rename_i o' i j e
      rw [e] at hp
      simp only [RegOK] at hp
      obtain ⟨ob, b, base, cap, hob, hloc, hi, hval⟩ := hp
      rw [hob] at hv
      simp only [Option.bind_some] at hv
      cases ob with
      | fn v => simp at hv
      | ls ty2 f l k hs2 =>
        simp only at hv
        obtain ⟨y, hy, hv2⟩ := Option.bind_eq_some_iff.1 hv
        obtain ⟨cs, hcs, hv3⟩ := Option.bind_eq_some_iff.1 hv2
        obtain ⟨rs, hrs, hv4⟩ := Option.bind_eq_some_iff.1 hv3
        obtain ⟨r, hr, hv5⟩ := Option.map_eq_some_iff.1 hv4
        simp only [Prod.mk.injEq] at hv5
        obtain ⟨rfl, rfl⟩ := hv5
        clear hv hv2 hv3 hv4
        have hO := h.objs o' _ hob
        obtain ⟨hb, vs, Sf, hrow, hsub, hdis, hcl⟩ := hO.some' b base cap hloc
        simp only [Ob.len, Ob.sz] at hi hval
        unfold kcut at hcs
        split at hcs
        case isFalse => cases hcs
        rename_i hjs
        obtain rfl := Option.some.inj hcs
        rw [cellsT_len] at hjs
        obtain ⟨hlen, hget⟩ := retR_get hrs
        have hlen2 : rs.length = sz := by rw [hlen, cvs_len, List.length_take, List.length_drop, cellsT_len]; omega
        let us : List Value := (List.range sz).map fun q => vs i (j + q)
        have hus : ∀ (q : Nat) (v : Value), us[q]? = some v → q < sz ∧ v = vs i (j + q) := fun q v hq => by
          simp only [us, List.getElem?_map] at hq
          obtain ⟨j', h1, h2⟩ := Option.map_eq_some_iff.1 hq
          have h3 : q < sz := by simpa using get_lt h1
          rw [List.getElem?_range h3] at h1
          obtain rfl := Option.some.inj h1
          exact ⟨h3, h2.symm⟩
        have hread : ∀ (q : Nat) (v : Value), us[q]? = some v → w.cell? ⟨b, base + i * ty2.w + j + q, none⟩ = some v := fun q v hq => by
          obtain ⟨hq2, rfl⟩ := hus q v hq
          have := hrow.cell (i := i) (j := j + q) hi (by simp only [Ob.sz]; omega)
          rw [Nat.add_assoc]; exact this
        have husl : us.length = sz := by simp [us]
        obtain ⟨u, s1, hcells⟩ : ∃ u, (loadVar ty ⟨b, base + i * ty2.w + j, none⟩).run P w = .ok u w ∧ r.cells = rs ∧ Shape u r us := by
          cases ag with
          | true =>
            unfold packR at hr
            simp only [if_true, Option.some.injEq] at hr
            subst hr
            exact ⟨_, run_loadVar_ag h2 h3 _ _ us husl hread, rfl, by simp only [Shape]; exact ⟨trivial, by omega⟩⟩
          | false =>
            unfold packR at hr
            simp only [Bool.false_eq_true, if_false] at hr
            split at hr
            case h_2 => cases hr
            obtain rfl := Option.some.inj hr
            have h1 : us.length = 1 := by rw [husl, ← hlen2]; rfl
            match hue : us, h1 with
            | [v], _ => exact ⟨v, run_loadVar_one h3 _ _ v (by have := hread 0 v rfl; simpa using this), rfl, by simp only [Shape]⟩
        refine ⟨u, us, fun o2 x => o2 ≠ o' ∧ So o2 x, fun x => Pd x ∨ So o' x, fun q x => q < sz ∧ Sf i (j + q) x, ?_, hcells.2, ?_⟩
        · simp only [Act.eval] at hval
          simp only [resSem, Sem.run_bind, hval, asAddr, Sem.run_pure, Result.andThen_ok, s1]
        · rw [hcells.1]
          refine ⟨h.gone o', fun q v c h1 hc => ?_, fun q x hx => ?_, fun q q' x hx hx' => ?_, fun x hx => .inl hx, fun x hx => ⟨hx.1, hx.2.1, fun o2 hq => hx.2.2.1 o2 hq.2, fun hq => hq.elim hx.2.2.2 (hx.2.2.1 o')⟩, fun o2 ob2 ho2 => ?_⟩
          · obtain ⟨hq2, rfl⟩ := hus q v h1
            have key : ∀ (cv0 : CV), (cvs f k hs2 i j (((cellsT ty2 y).drop j).take sz))[q]? = some cv0 → CellOK w (Fz E So Pd w) loc So σ.objs (vs i (j + q)) cv0 (Sf i (j + q)) := fun cv0 h0 => by
              rw [cvs_get] at h0
              obtain ⟨d, h1, rfl⟩ := Option.map_eq_some_iff.1 h0
              rw [List.getElem?_take, if_pos hq2, List.getElem?_drop] at h1
              exact hcl i (j + q) _ (ob_cell hy h1)
            rcases hget q c hc with ⟨x, h1, rfl⟩ | ⟨x, h1, rfl⟩
            · exact Rd.mono (fun b hb => ⟨hb.1, hb.2.1, fun o2 hq => hb.2.2.1 o2 hq.2, fun hq => hq.elim hb.2.2.2 (hb.2.2.1 o')⟩) (fun _ _ => rfl) (key _ h1)
            · exact Own.mono (key _ h1) (fun b hb => ⟨hq2, hb⟩) (fun _ _ => rfl)
          · have h1 := (hsub _ _ x hx.2).1
            obtain ⟨p1, p2, p3, p4⟩ := h.has o' x h1
            exact ⟨.inr h1, p4, p2, p3⟩
          · have := hdis _ _ _ _ x hx.2 hx'.2
            omega
          · obtain ⟨hne, ob0, h0, rfl⟩ := gone_objs σ ho2
            exact ⟨ob0, h0, Ob.unref_sz _ _, Ob.unref_len _ _, fun x hx => ⟨hne, hx⟩⟩

theorem resVs_ok {fz : Bool} : ∀ {xs : List ResultVar} {rs : List Res} {σ σ' : St} {So : Nat → Nat → Prop} {Pd : Nat → Prop} {l : List RV}, RepW N E loc So Pd σ a w → okRess P xs rs = true → resVs fz rs σ = some (l, σ') →
    ∃ (vs us : List Value) (So' : Nat → Nat → Prop) (Pd' : Nat → Prop) (Sf : Nat → Nat → Prop), (xs.mapM (resSem a.tmps)).run P w = .ok vs w ∧ ShapeL vs l us ∧ RetFit N E loc So Pd σ a w us (RV.cellsL l) σ' So' Pd' Sf
  | [], [], σ, σ', So, Pd, l, h, _, hl => by
    simp only [resVs, Option.some.injEq, Prod.mk.injEq] at hl
    obtain ⟨rfl, rfl⟩ := hl
    exact ⟨[], [], So, Pd, fun _ _ => False, by simp, by simp only [ShapeL], h, fun j v c h1 => by simp at h1, fun j x hx => hx.elim, fun j j' x hx => hx.elim, fun x hx => hx, fun x hx => hx, fun o ob ho => ⟨ob, ho, rfl, rfl, fun x hx => hx⟩⟩
  | [], _ :: _, _, _, _, _, _, _, hq, _ => by simp [okRess] at hq
  | _ :: _, [], _, _, _, _, _, _, hq, _ => by simp [okRess] at hq
  | x :: xs, r :: rs, σ, σ', So, Pd, l, h, hq, hl => by
    simp only [okRess, Bool.and_eq_true] at hq
    simp only [resVs] at hl
    obtain ⟨⟨v, σ1⟩, hv, hl2⟩ := Option.bind_eq_some_iff.1 hl
    obtain ⟨⟨l', σ2⟩, hl', hl3⟩ := Option.map_eq_some_iff.1 hl2
    simp only [Prod.mk.injEq] at hl3
    obtain ⟨rfl, rfl⟩ := hl3
    clear hl hl2
    obtain ⟨u, us1, So1, Pd1, S1, h1, h2, f1⟩ := resV_ok h hq.1 hv
    obtain ⟨vs, us2, So2, Pd2, S2, h3, h4, f2⟩ := resVs_ok f1.rep hq.2 hl'
    refine ⟨u :: vs, us1 ++ us2, So2, Pd2, _, ?_, by simp only [ShapeL]; exact ⟨us1, us2, rfl, h2, h4⟩, by simp only [RV.cellsL]; exact RetFit.append (by rw [shape_len _ _ _ h2]) f1 f2⟩
    rw [List.mapM_cons]
    simp only [Sem.run_bind, h1, Result.andThen_ok, h3, Sem.run_pure]

theorem results_run {g : Func} {tmps : Array Value} {us : List Value} (h : (g.results.toList.mapM (resSem tmps)).run P w = .ok us w) :
    (results g tmps).run P w = .ok (packRes us) w := by
  have e : (g.results.mapM (resSem tmps)).run P w = .ok us.toArray w := by
    rw [Array.mapM_eq_mapM_toList, map_eq_pure_bind]
    simp only [Sem.run_bind, h, Result.andThen_ok, Sem.run_pure]
  have e2 : results g tmps = (do let vs ← g.results.mapM (resSem tmps); pure (if h : vs.size = 1 then vs[0] else .tuple vs)) := by
    unfold results
    have : (resSem tmps) = (fun | .tmp t => pure (tmps.getD t undef) | .cell a t => do loadVar t (← asAddr (tmps.getD a undef))) := by funext x; cases x <;> rfl
    rw [this]
    rfl
  rw [e2]
  simp only [Sem.run_bind, e, Result.andThen_ok, Sem.run_pure]
  congr 1
  match us with
  | [] => simp [packRes]
  | [u] => simp [packRes]
  | u :: v :: l => simp [packRes]

theorem backObs_get (σ : St) : ∀ (n k j : Nat), (backObs σ k n)[j]? = if j < n then some (match klook σ.objs (k + j) with | some ob => if ob.closed then some ob else none | none => none) else none
  | 0, k, j => by simp [backObs]
  | n + 1, k, j => by
    cases j with
    | zero => simp [backObs]; rfl
    | succ j =>
      simp only [backObs, List.getElem?_cons_succ, backObs_get σ n (k + 1) j]
      have : k + 1 + j = k + (j + 1) := by omega
      rw [this]
      by_cases h : j < n
      · rw [if_pos h, if_pos (by omega)]
      · rw [if_neg h, if_neg (by omega)]
theorem backObs_len (σ : St) : ∀ (n k : Nat), (backObs σ k n).length = n
  | 0, _ => rfl
  | n + 1, k => by simp [backObs, backObs_len σ n (k + 1)]

theorem fn_ok (hm : P.follows .mixedOrders = true) (hX : ∀ f as obs r, X f as obs = some r → Ctr P gl f as obs r) {k : Nat} {f : Nat} {fn : Fn} (hq : okFn P f fn = true) {as : List AV} {obs : List Ob} {r : List (Option Ob) × RV} (hr : evFn X k fn as obs = some r) : Ctr P gl f as obs r := by
  unfold okFn at hq
  split at hq
  case h_2 => cases hq
  rename_i g hg
  simp only [Bool.and_eq_true, Bool.not_eq_true', decide_eq_true_eq] at hq
  obtain ⟨⟨⟨hname, hn⟩, hres⟩, hbody⟩ := hq
  split at hbody
  case h_2 => cases hbody
  rename_i c hc
  refine ⟨⟨g, hg, hname, by rw [hc]; rfl⟩, fun w ok own loc So vs hG hB hown hent => ?_⟩
  simp only [evFn, entered] at hr
  obtain ⟨σ, hσ, hr2⟩ := Option.bind_eq_some_iff.1 hr
  split at hσ
  case isFalse => cases hσ
  rename_i hlen
  obtain rfl := Option.some.inj hσ
  obtain ⟨⟨e, σ1⟩, hden, hend⟩ := Option.bind_eq_some_iff.1 hr2
  clear hr hr2 hσ
  have hentry := entry_ok hent (n := g.ntmps) (by omega)
  have hE : EntOK gl (entOf w ok own loc obs) := ⟨hG, hB, hown⟩
  refine calls_of_wp hg hc (wp_mono (code_ok hm hX hE k fn.body c hbody hden hentry) fun x a' w' ⟨h1, loc1, So1, Pd1, h2⟩ => ?_)
  subst h1
  have hfin : e ≠ .n → e ≠ .ret → False := by
    intro h1 h2
    cases e with
    | n => exact h1 rfl
    | ret => exact h2 rfl
    | ex id => simp [ended] at hend
  have hend' : (resVs fn.fz fn.res σ1).map (fun r => (backObs r.2 0 obs.length, tupled r.1)) = some r := by
    cases e with
    | n => simpa [ended] using hend
    | ret => simpa [ended] using hend
    | ex id => simp [ended] at hend
  obtain ⟨⟨rs, σ2⟩, hrs, rfl⟩ := Option.map_eq_some_iff.1 hend'
  obtain ⟨vs2, us, So2, Pd2, Sf, hv1, hsh, f2⟩ := resVs_ok h2 hres hrs
  have hrun := results_run hv1
  have hshape : Shape (packRes vs2) (tupled rs) us ∧ (tupled rs).cells = RV.cellsL rs := by
    match vs2, rs, hsh with
    | [], [], h => exact ⟨by simp only [Shape, packRes, tupled]; exact ⟨[], rfl, h⟩, rfl⟩
    | [v], [r], h =>
      simp only [ShapeL] at h
      obtain ⟨u1, u2, rfl, q1, rfl⟩ := h
      exact ⟨by simpa only [tupled, packRes, List.append_nil] using q1, by simp only [tupled, RV.cellsL, List.append_nil]⟩
    | v :: v' :: vs2, r :: r' :: rs, h => exact ⟨by simp only [Shape, packRes, tupled]; exact ⟨_, rfl, h⟩, rfl⟩
    | [], _ :: _, h => simp only [ShapeL] at h
    | _ :: _, [], h => simp only [ShapeL] at h
    | [v], r :: r' :: rs, h => simp only [ShapeL] at h; obtain ⟨_, _, _, _, _⟩ := h; simp_all
    | v :: v' :: vs2, [r], h => simp only [ShapeL] at h; obtain ⟨_, _, _, _, _⟩ := h; simp_all
  have hR := f2.rep
  have hlook : ∀ (k : Nat) (ob : Ob), (backObs σ2 0 obs.length)[k]? = some (some ob) → k < obs.length ∧ klook σ2.objs k = some ob ∧ ob.closed = true := fun k ob hk => by
    rw [backObs_get] at hk
    split at hk
    case isFalse => cases hk
    rename_i hlt
    rw [Nat.zero_add] at hk
    refine ⟨hlt, ?_⟩
    cases ho : klook σ2.objs k with
    | none => rw [ho] at hk; simp at hk
    | some ob' =>
      rw [ho] at hk
      simp only [Option.some.injEq] at hk
      split at hk
      case isFalse => cases hk
      rename_i hcl
      obtain rfl := Option.some.inj hk
      exact ⟨rfl, hcl⟩
  have hok2 : ∀ x, Fz (entOf w ok own loc obs) So2 Pd2 w' x → (ok x ∨ own x ∨ w.heap.size ≤ x) ∧ x < w'.heap.size ∧ (∀ k, ¬ (So2 k x ∧ ∃ ob, (backObs σ2 0 obs.length)[k]? = some (some ob))) ∧ ∀ j, ¬ Sf j x := fun x hx =>
    ⟨hx.1, hx.2.1, fun k hq => hx.2.2.1 k hq.1, fun j hq => hx.2.2.2 (f2.sub j x hq).1⟩
  have hex : Exit' w w' ok own loc obs (backObs σ2 0 obs.length, tupled rs) (packRes vs2) (fun k x => So2 k x ∧ ∃ ob, (backObs σ2 0 obs.length)[k]? = some (some ob)) Sf us := by
    refine ⟨hR.keep, backObs_len _ _ _, fun k x hx => ?_, fun k k' x hx hx' => hR.dis k k' x hx.1 hx'.1, fun j x hx => ?_, f2.dis, fun k ob hk => ?_, hshape.1, fun j u c hu hc => ?_⟩
    · obtain ⟨_, q2, q3, _⟩ := hR.has k x hx.1
      exact ⟨q2, q3, hx.2⟩
    · obtain ⟨q1, _, q3, q4⟩ := f2.sub j x hx
      exact ⟨q3, q4, fun k hq => (hR.has k x hq.1).2.2.2 q1⟩
    · obtain ⟨q1, q2, q3⟩ := hlook k ob hk
      obtain ⟨p1, p2, p3⟩ := hR.pin k ob (by omega) q2
      refine ⟨obs[k], List.getElem?_eq_getElem q1, ?_, ?_, q3, ?_⟩
      · rw [p2]; simp [entOf, List.getElem?_eq_getElem q1]
      · rw [p3]; simp [entOf, List.getElem?_eq_getElem q1]
      · have := hR.objs k ob q2
        rw [p1] at this
        exact this.mono (fun b hb => ⟨hok2 b hb, rfl⟩) (fun b hb => ⟨⟨hb, ob, hk⟩, rfl⟩) (fun o' ho' => by rw [Ob.closed_refs q3] at ho'; cases ho')
    · simp only [hshape.2] at hc
      exact (f2.cell j u c hu hc).mono hok2 (fun b hb => hb)
  have hbp : a'.defers = [] ∧ ∃ v, (results g a'.tmps).run P w' = .ok v w' ∧ ∃ v' So' Sr us, Ending.returned v = .returned v' ∧ Exit' w w' ok own loc obs (backObs σ2 0 obs.length, tupled rs) v' So' Sr us :=
    ⟨h2.defers, _, hrun, _, _, _, _, rfl, hex⟩
  cases e with
  | n => exact hbp
  | ret => exact hbp
  | ex id => exact (hfin (by simp) (by simp)).elim

end rep
end Go.Proofs.YtniakiefibpgmaaGreatDoorK
