/- Functions: what is reckoned abstractly is what the function gives back. -/
import Derived.Test.YtmccpbabpnffcaaK20
set_option linter.unusedVariables false
set_option linter.unusedSimpArgs false
namespace Go.Proofs.YtmccpbabpnffcaaK
open Go.RowKit

def okRes (P : Program) : ResultVar → Res → Bool
  | .tmp t, .t n => t == n
  | .cell t ty, .cell n sz ag => t == n && szB P ty sz && aggB P ty ag
  | _, _ => false
def okRess (P : Program) : List ResultVar → List Res → Bool
  | [], [] => true
  | x :: xs, r :: rs => okRes P x r && okRess P xs rs
  | _, _ => false
def okFn (P : Program) (f : Nat) (fn : Fn) : Bool :=
  match P.funcs[f]? with
  | some g => !(g.name == "runtime.NumGoroutine") && decide (fn.n ≤ g.ntmps) && okRess P g.results.toList fn.res &&
      (match g.body with | some c => okC P g.ntmps fn.body c | none => false)
  | none => false

theorem klook_snoc {α : Type} {l : List (Nat × α)} {a t : Nat} {v u : α} (h : klook (l ++ [(a, v)]) t = some u) : klook l t = some u ∨ (t = a ∧ u = v) := by
  induction l with
  | nil =>
    simp only [List.nil_append, klook] at h
    split at h
    · rename_i e; exact .inr ⟨e, (Option.some.inj h).symm⟩
    · cases h
  | cons q l ih =>
    obtain ⟨c, x⟩ := q
    simp only [List.cons_append, klook] at h ⊢
    split at h
    · rename_i e; rw [if_pos e]; exact .inl h
    · rename_i e; rw [if_neg e]; exact ih h
theorem argRegs_look : ∀ (ds : List DA) (k t : Nat) (v : AV), klook (argRegs k ds) t = some v → ∃ j, t = k + j ∧ (ds[j]?).map DA.av = some v
  | [], _, _, _, h => by simp [argRegs, klook] at h
  | a :: l, k, t, v, h => by
    simp only [argRegs] at h
    rcases klook_snoc h with h | ⟨e, rfl⟩
    · obtain ⟨j, h1, h2⟩ := argRegs_look l (k + 1) t v h
      exact ⟨j + 1, by omega, by simpa using h2⟩
    · exact ⟨0, by omega, by simp⟩
theorem avL_get : ∀ (ds : List DA) (j : Nat), (DA.avL ds)[j]? = (ds[j]?).map DA.av
  | [], j => by simp [DA.avL]
  | a :: l, 0 => by simp [DA.avL]
  | a :: l, j + 1 => by simp only [DA.avL, List.getElem?_cons_succ]; exact avL_get l j
theorem avL_len : ∀ (ds : List DA), (DA.avL ds).length = ds.length
  | [] => rfl
  | a :: l => by simp [DA.avL, avL_len l]

section rep
variable {P : Program} {N : Nat} {w0 : World} {ok0 : Nat → Prop} {loc : Nat → Option (Nat × Nat × Nat)} {So : Nat → Nat → Prop} {Pd : Nat → Prop} {σ σ' : St} {a : Act} {w : World} {X : Nat → List DA → Option (Bool × RV)}

/-- At the entry. -/
theorem entry_ok {ok : Nat → Prop} (hok : ∀ x, ok x → x < w.heap.size) {vs : List Value} {ds : List DA} (h : RegsOK w ok (fun _ => none) (fun _ _ => False) [] vs (DA.avL ds)) {n : Nat} (hn : ds.length ≤ n) :
    Rep n w ok ⟨argRegs 0 ds, []⟩ { tmps := vs.toArray ++ Array.replicate (n - vs.toArray.size) undef, defers := [] } w := by
  have hlen : vs.length = ds.length := by rw [h.length, avL_len]
  refine ⟨fun _ => none, fun _ _ => False, fun _ => False, ?_⟩
  refine ⟨by simp; omega, rfl, ⟨rfl, rfl, rfl, Nat.le_refl _, fun _ _ => rfl⟩, hok, fun o x hx => hx.elim, fun o o' x hx => hx.elim, fun x hx => hx.elim, fun o ob ho => by simp [klook] at ho, fun t v hk => ?_⟩
  obtain ⟨j, h1, h2⟩ := argRegs_look ds 0 t v hk
  have hj : (DA.avL ds)[j]? = some v := by rw [avL_get]; exact h2
  obtain ⟨u, h3, h4⟩ := h.get hj
  have ht : t = j := by omega
  subst ht
  have hu : (vs.toArray ++ Array.replicate (n - vs.toArray.size) undef).getD t undef = u := by
    have hlt : t < vs.length := (List.getElem?_eq_some_iff.1 h3).1
    rw [Array.getD_eq_getD_getElem?, Array.getElem?_append_left (by simpa using hlt)]
    simp [h3]
  rw [hu]
  have hfr : v.fr = true := frL_get (DA.avL_fr ds) hj
  exact h4.frozen (fun b hb => ⟨⟨.inl hb, hok b hb, fun _ hq => hq, fun hq => hq⟩, rfl⟩) hfr

def packRes : List Value → Value
  | [u] => u
  | us => .tuple us.toArray
def resSem (tmps : Array Value) : ResultVar → Sem Value
  | .tmp t => pure (tmps.getD t undef)
  | .cell a t => do loadVar t (← asAddr (tmps.getD a undef))
/-- A result's value. -/
theorem resV_ok (h : RepW N w0 ok0 loc So Pd σ a w) {x : ResultVar} {r : Res} (hq : okRes P x r = true) {v : AV} (hv : resV σ r = some v) :
    ∃ u, (resSem a.tmps x).run P w = .ok u w ∧ RegOK w (Fz w0 ok0 So Pd w) loc So σ.objs u v := by
  cases x with
  | tmp t =>
    cases r with
    | t n =>
      simp only [okRes, beq_iff_eq] at hq
      subst hq
      simp only [resV, Option.some.injEq] at hv
      subst hv
      exact ⟨a.eval (.tmp t), rfl, h.reg t⟩
    | cell => simp [okRes] at hq
  | cell t ty =>
    cases r with
    | t n => simp [okRes] at hq
    | cell n sz ag =>
      simp only [okRes, Bool.and_eq_true, beq_iff_eq] at hq
      obtain ⟨⟨rfl, h2⟩, h3⟩ := hq
      have hp := h.reg t
      simp only [resV] at hv
      split at hv
      case h_2 => cases hv
      rename_i o' i j e
      rw [e] at hp
      simp only [RegOK] at hp
      obtain ⟨ob, b, base, cap, hob, hloc, hi, hval⟩ := hp
      rw [hob] at hv
      simp only [Option.bind_some] at hv
      obtain ⟨cs, hcs, hv⟩ := Option.bind_eq_some_iff.1 hv
      obtain ⟨l, hl, hpk⟩ := Option.bind_eq_some_iff.1 hv
      obtain ⟨vs, q1, q2, q3⟩ := views_ok h hob hloc hcs hl
      obtain ⟨u, r1, r2⟩ := run_load_any (P := P) h2 h3 q1 q2 q3 hpk
      refine ⟨u, ?_, r2⟩
      simp only [Act.eval] at hval
      simp only [resSem, Sem.run_bind, hval, asAddr, Sem.run_pure, Result.andThen_ok, r1]

theorem resVs_ok (h : RepW N w0 ok0 loc So Pd σ a w) : ∀ {xs : List ResultVar} {rs : List Res}, okRess P xs rs = true → ∀ {l : List AV}, allOf (resV σ) rs = some l →
    ∃ us : List Value, (xs.mapM (resSem a.tmps)).run P w = .ok us w ∧ RegsOK w (Fz w0 ok0 So Pd w) loc So σ.objs us l
  | [], [], _, l, hl => by
    simp only [allOf, Option.some.injEq] at hl
    subst hl
    exact ⟨[], by simp, by simp only [RegsOK]⟩
  | [], _ :: _, hq, _, _ => by simp [okRess] at hq
  | _ :: _, [], hq, _, _ => by simp [okRess] at hq
  | x :: xs, r :: rs, hq, l, hl => by
    simp only [okRess, Bool.and_eq_true] at hq
    simp only [allOf] at hl
    obtain ⟨v, hv, hl⟩ := Option.bind_eq_some_iff.1 hl
    obtain ⟨l', hl', rfl⟩ := Option.map_eq_some_iff.1 hl
    obtain ⟨u, h1, h2⟩ := resV_ok h hq.1 hv
    obtain ⟨us, h3, h4⟩ := resVs_ok h hq.2 hl'
    refine ⟨u :: us, ?_, by simp only [RegsOK]; exact ⟨h2, h4⟩⟩
    rw [List.mapM_cons]
    simp only [Sem.run_bind, h1, Result.andThen_ok, h3, Sem.run_pure]

theorem results_run {g : Func} {tmps : Array Value} {us : List Value} (h : (g.results.toList.mapM (resSem tmps)).run P w = .ok us w) :
    (results g tmps).run P w = .ok (packRes us) w := by
  have e : (g.results.mapM (resSem tmps)).run P w = .ok us.toArray w := by
    rw [Array.mapM_eq_mapM_toList, map_eq_pure_bind]
    simp only [Sem.run_bind, h, Result.andThen_ok, Sem.run_pure]
  have e2 : results g tmps = (do let vs ← g.results.mapM (resSem tmps); pure (if h : vs.size = 1 then vs[0] else .tuple vs)) := by
    unfold results
    have : (resSem tmps) = (fun | .tmp t => pure (tmps.getD t undef) | .cell a t => do loadVar t (← asAddr (tmps.getD a undef))) := by funext x; cases x <;> rfl
    rw [this]
    rfl
  rw [e2]
  simp only [Sem.run_bind, e, Result.andThen_ok, Sem.run_pure]
  congr 1
  match us with
  | [] => simp [packRes]
  | [u] => simp [packRes]
  | u :: v :: l => simp [packRes]

/-- What is frozen of a result. -/
def RetRdW (w0 : World) (ok0 : Nat → Prop) (w : World) (x : Nat) : Prop := (ok0 x ∨ w0.heap.size ≤ x) ∧ x < w.heap.size
theorem one_ret (h : RepW N w0 ok0 loc So Pd σ a w) {v : Value} {av : AV} {x : D} (hv : RegOK w (Fz w0 ok0 So Pd w) loc So σ.objs v av) (ho : σ.one av = some x) : Rd w (RetRdW w0 ok0 w) v x := by
  have hfz : ∀ b, Fz w0 ok0 So Pd w b → RetRdW w0 ok0 w b := fun b hb => ⟨hb.1, hb.2.1⟩
  have hso : ∀ o b, So o b → RetRdW w0 ok0 w b := fun o b hb => ⟨.inr (h.has o b hb).2.1, (h.has o b hb).2.2.1⟩
  cases av with
  | d y => simp only [St.one, Option.some.injEq] at ho; subst ho; simp only [RegOK] at hv; exact hv.mono hfz (fun _ _ => rfl)
  | nil => simp only [St.one, Option.some.injEq] at ho; subst ho; simp only [RegOK] at hv; subst hv; exact .nil _ _
  | vw o y => simp only [St.one, Option.some.injEq] at ho; subst ho; simp only [RegOK] at hv; exact hv.2.mono (hso o) (fun _ _ => rfl)
  | h o off n =>
    simp only [St.one] at ho
    obtain ⟨ob, hob, ho⟩ := Option.bind_eq_some_iff.1 ho
    obtain ⟨es, hes, rfl⟩ := Option.map_eq_some_iff.1 ho
    simp only [RegOK] at hv
    obtain ⟨ob', hob', hle, hval⟩ := hv
    rw [hob] at hob'
    obtain rfl := Option.some.inj hob'
    exact (read_ok (h.objs o ob hob) hle hval hes).mono (fun b hb => hb.elim (hfz b) (hso o b)) (fun _ _ => rfl)
  | _ => simp [St.one] at ho
theorem ones_ret (h : RepW N w0 ok0 loc So Pd σ a w) : ∀ {l : List AV} {vs : List Value} {ds : List D}, RegsOK w (Fz w0 ok0 So Pd w) loc So σ.objs vs l → allOf σ.one l = some ds →
    RegsOK w (RetRdW w0 ok0 w) (fun _ => none) (fun _ _ => False) [] vs (ds.map AV.d)
  | [], [], ds, _, ha => by simp only [allOf, Option.some.injEq] at ha; subst ha; simp only [List.map_nil, RegsOK]
  | [], _ :: _, _, hv, _ => by simp only [RegsOK] at hv
  | _ :: _, [], _, hv, _ => by simp only [RegsOK] at hv
  | av :: l, v :: vs, ds, hv, ha => by
    simp only [allOf] at ha
    obtain ⟨d, hd, ha⟩ := Option.bind_eq_some_iff.1 ha
    obtain ⟨ds', hds, rfl⟩ := Option.map_eq_some_iff.1 ha
    simp only [RegsOK] at hv
    simp only [List.map_cons, RegsOK, RegOK]
    exact ⟨one_ret h hv.1 hd, ones_ret h hv.2 hds⟩
theorem rvOf_ok (h : RepW N w0 ok0 loc So Pd σ a w) {v : Value} {av : AV} {r : RV} (hv : RegOK w (Fz w0 ok0 So Pd w) loc So σ.objs v av) (ho : rvOf σ av = some r) : RetRd w (RetRdW w0 ok0 w) v r := by
  unfold RetRd
  cases av with
  | agg l =>
    simp only [rvOf] at ho
    obtain ⟨ds, hds, rfl⟩ := Option.map_eq_some_iff.1 ho
    simp only [RegOK] at hv
    obtain ⟨vs, rfl, hvs⟩ := hv
    simp only [RV.av, RegOK]
    exact ⟨vs, rfl, ones_ret h hvs hds⟩
  | d x => simp only [rvOf, Option.some.injEq] at ho; subst ho; simp only [RV.av, RegOK]; exact one_ret h hv rfl
  | nil => simp only [rvOf, Option.some.injEq] at ho; subst ho; simp only [RV.av, RegOK]; exact one_ret h hv rfl
  | vw o x => simp only [rvOf, Option.some.injEq] at ho; subst ho; simp only [RV.av, RegOK]; exact one_ret h hv rfl
  | h o off n =>
    simp only [rvOf] at ho
    obtain ⟨d, hd, rfl⟩ := Option.map_eq_some_iff.1 ho
    simp only [RV.av, RegOK]
    exact one_ret h hv hd
  | _ => simp [rvOf] at ho
theorem rvOfs_ok (h : RepW N w0 ok0 loc So Pd σ a w) : ∀ {rs : List Res} {us : List Value} {l : List AV} {r : List RV}, allOf (resV σ) rs = some l → RegsOK w (Fz w0 ok0 So Pd w) loc So σ.objs us l → allOf (fun r => (resV σ r).bind (rvOf σ)) rs = some r →
    RegsOK w (RetRdW w0 ok0 w) (fun _ => none) (fun _ _ => False) [] us (RV.avL r)
  | [], us, l, r, hl, hu, hr => by
    simp only [allOf, Option.some.injEq] at hl hr
    subst hl hr
    cases us with
    | nil => simp only [RV.avL, RegsOK]
    | cons _ _ => simp only [RegsOK] at hu
  | x :: rs, us, l, r, hl, hu, hr => by
    simp only [allOf] at hl hr
    obtain ⟨v, hv, hl⟩ := Option.bind_eq_some_iff.1 hl
    obtain ⟨l', hl', rfl⟩ := Option.map_eq_some_iff.1 hl
    obtain ⟨r1, hr1, hr⟩ := Option.bind_eq_some_iff.1 hr
    obtain ⟨r', hr', rfl⟩ := Option.map_eq_some_iff.1 hr
    cases us with
    | nil => simp only [RegsOK] at hu
    | cons u us =>
      simp only [RegsOK] at hu
      rw [hv] at hr1
      simp only [Option.bind_some] at hr1
      simp only [RV.avL, RegsOK]
      exact ⟨rvOf_ok h hu.1 hr1, rvOfs_ok h hl' hu.2 hr'⟩
theorem allOf_bind {α β γ : Type} {f : α → Option β} {g : β → Option γ} : ∀ {l : List α} {r : List γ}, allOf (fun x => (f x).bind g) l = some r → ∃ m, allOf f l = some m
  | [], _, _ => ⟨[], rfl⟩
  | a :: l, r, h => by
    simp only [allOf] at h ⊢
    obtain ⟨c, hc, h⟩ := Option.bind_eq_some_iff.1 h
    obtain ⟨b, hb, _⟩ := Option.bind_eq_some_iff.1 hc
    obtain ⟨r', hr', _⟩ := Option.map_eq_some_iff.1 h
    obtain ⟨m, hm⟩ := allOf_bind hr'
    exact ⟨b :: m, by rw [hb, hm]; rfl⟩

theorem fn_ok (hm : P.follows .mixedOrders = true) (hX : ∀ f ds r, X f ds = some r → Ctr P f ds r) {k : Nat} {f : Nat} {fn : Fn} (hq : okFn P f fn = true) (hown : fn.own = false) {ds : List DA} {r : Bool × RV} (hr : evFn X k fn ds = some r) : Ctr P f ds r := by
  unfold okFn at hq
  split at hq
  case h_2 => cases hq
  rename_i g hg
  simp only [Bool.and_eq_true, Bool.not_eq_true', decide_eq_true_eq] at hq
  obtain ⟨⟨⟨hname, hn⟩, hres⟩, hbody⟩ := hq
  split at hbody
  case h_2 => cases hbody
  rename_i c hc
  refine ⟨⟨g, hg, hname, by rw [hc]; rfl⟩, fun w ok vs hok hvs => ?_⟩
  simp only [evFn, entered] at hr
  obtain ⟨σ, hσ, hr⟩ := Option.bind_eq_some_iff.1 hr
  split at hσ
  case isFalse => cases hσ
  rename_i hlen
  obtain rfl := Option.some.inj hσ
  obtain ⟨⟨e, σ1⟩, hden, hend⟩ := Option.bind_eq_some_iff.1 hr
  have hentry := entry_ok hok hvs (n := g.ntmps) (by omega)
  refine calls_of_wp hg hc (wp_mono (code_ok hm hX k fn.body c hbody hden hentry) fun x a' w' ⟨h1, loc, So, Pd, h2⟩ => ?_)
  subst h1
  have hfin : e ≠ .n → e ≠ .ret → False := by
    intro h1 h2
    cases e with
    | n => exact h1 rfl
    | ret => exact h2 rfl
    | ex id => simp [ended] at hend
  have hend' : (allOf (fun r => (resV σ1 r).bind (rvOf σ1)) fn.res).map (fun l => (false, tupled l)) = some r := by
    cases e with
    | n => simpa [ended, hown] using hend
    | ret => simpa [ended, hown] using hend
    | ex id => simp [ended] at hend
  obtain ⟨rs, hrs, rfl⟩ := Option.map_eq_some_iff.1 hend'
  obtain ⟨l, hl⟩ := allOf_bind hrs
  obtain ⟨us, hus1, hus2⟩ := resVs_ok h2 hres hl
  have hrun := results_run hus1
  have hregs := rvOfs_ok h2 hl hus2 hrs
  have hlen2 : us.length = rs.length := by
    have h5 := hus2.length
    have h6 := allOf_len hl
    have h7 := allOf_len hrs
    omega
  have hret : RetRd w' (RetRdW w ok w') (packRes us) (tupled rs) := by
    unfold RetRd
    match us, rs, hlen2, hregs with
    | [], [], _, h => simp only [tupled, RV.av, RegOK, packRes]; exact ⟨[], rfl, h⟩
    | [u], [r], _, h => simp only [RV.avL, RegsOK] at h; simp only [tupled, packRes]; exact h.1
    | u :: u' :: us, r :: r' :: rs, _, h => simp only [tupled, RV.av, RegOK, packRes]; exact ⟨_, rfl, h⟩
  have hbp : a'.defers = [] ∧ ∃ v, (results g a'.tmps).run P w' = .ok v w' ∧ ∃ v', Ending.returned v = .returned v' ∧ Below w.heap.size w w' ∧
      if (false, tupled rs).1 = true then RetOwn w' w.heap.size v' (false, tupled rs).2 else RetRd w' (fun x => (ok x ∨ w.heap.size ≤ x) ∧ x < w'.heap.size) v' (false, tupled rs).2 :=
    ⟨h2.defers, _, hrun, _, rfl, h2.keep, by rw [if_neg (by simp)]; exact hret⟩
  cases e with
  | n => exact hbp
  | ret => exact hbp
  | ex id => exact (hfin (by simp) (by simp)).elim

end rep
end Go.Proofs.YtmccpbabpnffcaaK
