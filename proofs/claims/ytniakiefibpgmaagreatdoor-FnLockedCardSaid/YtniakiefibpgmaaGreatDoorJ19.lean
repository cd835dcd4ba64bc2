/- Regions: operations one behind the other, guarded or not. -/
import Derived.Test.YtniakiefibpgmaaGreatDoorJ18
import Derived.Tactics
import Derived.Orders
set_option linter.unusedVariables false
set_option linter.unusedSimpArgs false
namespace Go.Proofs.YtniakiefibpgmaaGreatDoorK
open Go.RowKit

def okU (P : Program) (N : Nat) (o : Oper) (i : I) : Bool := okQ P N o i || okM P N o i || okS P o i || okA P N o i || okL P N o i || okN P N o i || okC1 N o i
def okI (P : Program) (N : Nat) (ops : Array Oper) (o : Oper) : I → Bool
  | .gd g want d i => (match o.guard with | some (j, want') => want == want' && (match ops[j]? with | some oj => oj.dst == some g | none => false) | none => false) && o.dst == d && (match d with | some d => decide (d < N) | none => true) && okU P N o i
  | .an _ _ _ _ i => okI P N ops o i
  | i => o.guard.isNone && okU P N o i
def okIs (P : Program) (N : Nat) (ops : Array Oper) : List Oper → List I → Bool
  | [], [] => true
  | o :: os, i :: is => okI P N ops o i && okIs P N ops os is
  | _, _ => false
def ghost : I → Bool
  | .kill _ => true
  | .drop _ => true
  | .keep _ => true
  | .opn _ _ _ => true
  | .frz _ => true
  | .cls _ _ => true
  | .ren _ _ => true
  | _ => false
/-- The same, with words on what is forgotten between. -/
def okGs (P : Program) (N : Nat) (ops : Array Oper) : List Oper → List I → Bool
  | [], [] => true
  | _ :: _, [] => false
  | os, i :: is => if ghost i then okGs P N ops os is else match os with
    | o :: os => okI P N ops o i && okGs P N ops os is
    | [] => false

section rep
variable {P : Program} {N : Nat} {E : Ent} {loc : Nat → Option (Nat × Nat × Nat)} {So : Nat → Nat → Prop} {Pd : Nat → Prop} {σ σ' : St} {a : Act} {w : World} {X : XF} {gl : Globs} {o : Oper}

theorem okU_ok (hX : ∀ f as obs r, X f as obs = some r → Ctr P gl f as obs r) (hE : EntOK gl E) (h : RepW N E loc So Pd σ a w) {i : I} (hq : okU P N o i = true) (hs : kstep X i σ = some σ') : Outc P o a w (Rep N E σ') := by
  simp only [okU, Bool.or_eq_true] at hq
  cases i with
  | mv d x => rcases hq with (((((hq | hq) | hq) | hq) | hq) | hq) | hq <;> first | exact ok_mv h hq hs | simp [okQ, okM, okS, okA, okL, okN, okC1] at hq
  | pick d c x y => rcases hq with (((((hq | hq) | hq) | hq) | hq) | hq) | hq <;> first | exact ok_pick h hq hs | simp [okQ, okM, okS, okA, okL, okN, okC1] at hq
  | al d t fz => rcases hq with (((((hq | hq) | hq) | hq) | hq) | hq) | hq <;> first | exact ok_al h hq hs | simp [okQ, okM, okS, okA, okL, okN, okC1] at hq
  | alf d => rcases hq with (((((hq | hq) | hq) | hq) | hq) | hq) | hq <;> first | exact ok_alf h hq hs | simp [okQ, okM, okS, okA, okL, okN, okC1] at hq
  | bx d t fz x => rcases hq with (((((hq | hq) | hq) | hq) | hq) | hq) | hq <;> first | exact ok_bx h hq hs | simp [okQ, okM, okS, okA, okL, okN, okC1] at hq
  | bxf d x => rcases hq with (((((hq | hq) | hq) | hq) | hq) | hq) | hq <;> first | exact ok_bxf h hq hs | simp [okQ, okM, okS, okA, okL, okN, okC1] at hq
  | bd d z ps => rcases hq with (((((hq | hq) | hq) | hq) | hq) | hq) | hq <;> first | exact ok_bd h hq hs | simp [okQ, okM, okS, okA, okL, okN, okC1] at hq
  | bsz d t n z ps => rcases hq with (((((hq | hq) | hq) | hq) | hq) | hq) | hq <;> first | exact ok_bsz h hq hs | simp [okQ, okM, okS, okA, okL, okN, okC1] at hq
  | bs d t fz n z ps => rcases hq with (((((hq | hq) | hq) | hq) | hq) | hq) | hq <;> first | exact ok_bs h hq hs | simp [okQ, okM, okS, okA, okL, okN, okC1] at hq
  | ld d sz ag p => rcases hq with (((((hq | hq) | hq) | hq) | hq) | hq) | hq <;> first | exact ok_ld h hq hs | simp [okQ, okM, okS, okA, okL, okN, okC1] at hq
  | ldm d p => rcases hq with (((((hq | hq) | hq) | hq) | hq) | hq) | hq <;> first | exact ok_ldm h hq hs | simp [okQ, okM, okS, okA, okL, okN, okC1] at hq
  | ldt d sz ag p => rcases hq with (((((hq | hq) | hq) | hq) | hq) | hq) | hq <;> first | exact ok_ldt h hq hs | simp [okQ, okM, okS, okA, okL, okN, okC1] at hq
  | bxl d t x => rcases hq with (((((hq | hq) | hq) | hq) | hq) | hq) | hq <;> first | exact ok_bxl h hq hs | simp [okQ, okM, okS, okA, okL, okN, okC1] at hq
  | stl sz p v => rcases hq with (((((hq | hq) | hq) | hq) | hq) | hq) | hq <;> first | exact ok_stl h hq hs | simp [okQ, okM, okS, okA, okL, okN, okC1] at hq
  | st sz p v => rcases hq with (((((hq | hq) | hq) | hq) | hq) | hq) | hq <;> first | exact ok_st h hq hs | simp [okQ, okM, okS, okA, okL, okN, okC1] at hq
  | fa d p off => rcases hq with (((((hq | hq) | hq) | hq) | hq) | hq) | hq <;> first | exact ok_fa h hq hs | simp [okQ, okM, okS, okA, okL, okN, okC1] at hq
  | fd d x off sz ag => rcases hq with (((((hq | hq) | hq) | hq) | hq) | hq) | hq <;> first | exact ok_fd h hq hs | simp [okQ, okM, okS, okA, okL, okN, okC1] at hq
  | ia d sz x i => rcases hq with (((((hq | hq) | hq) | hq) | hq) | hq) | hq <;> first | exact ok_ia h hq hs | simp [okQ, okM, okS, okA, okL, okN, okC1] at hq
  | ix d x i => rcases hq with (((((hq | hq) | hq) | hq) | hq) | hq) | hq <;> first | exact ok_ix h hq hs | simp [okQ, okM, okS, okA, okL, okN, okC1] at hq
  | len d x => rcases hq with (((((hq | hq) | hq) | hq) | hq) | hq) | hq <;> first | exact ok_len h hq hs | simp [okQ, okM, okS, okA, okL, okN, okC1] at hq
  | lns d x => rcases hq with (((((hq | hq) | hq) | hq) | hq) | hq) | hq <;> first | exact ok_lns h hq hs | simp [okQ, okM, okS, okA, okL, okN, okC1] at hq
  | app d t fz bytes x y => rcases hq with (((((hq | hq) | hq) | hq) | hq) | hq) | hq <;> first | exact ok_app h hq hs | simp [okQ, okM, okS, okA, okL, okN, okC1] at hq
  | bin d op ty x y => rcases hq with (((((hq | hq) | hq) | hq) | hq) | hq) | hq <;> first | exact ok_bin h hq hs | simp [okQ, okM, okS, okA, okL, okN, okC1] at hq
  | not d x => rcases hq with (((((hq | hq) | hq) | hq) | hq) | hq) | hq <;> first | exact ok_not h hq hs | simp [okQ, okM, okS, okA, okL, okN, okC1] at hq
  | neg d x => rcases hq with (((((hq | hq) | hq) | hq) | hq) | hq) | hq <;> first | exact ok_neg h hq hs | simp [okQ, okM, okS, okA, okL, okN, okC1] at hq
  | cvi d k x => rcases hq with (((((hq | hq) | hq) | hq) | hq) | hq) | hq <;> first | exact ok_cvi h hq hs | simp [okQ, okM, okS, okA, okL, okN, okC1] at hq
  | s2b d x => rcases hq with (((((hq | hq) | hq) | hq) | hq) | hq) | hq <;> first | exact ok_s2b h hq hs | simp [okQ, okM, okS, okA, okL, okN, okC1] at hq
  | b2s d x => rcases hq with (((((hq | hq) | hq) | hq) | hq) | hq) | hq <;> first | exact ok_b2s h hq hs | simp [okQ, okM, okS, okA, okL, okN, okC1] at hq
  | mk d t bytes n => rcases hq with (((((hq | hq) | hq) | hq) | hq) | hq) | hq <;> first | exact ok_mk h hq hs | simp [okQ, okM, okS, okA, okL, okN, okC1] at hq
  | slc d sz x lo hi => rcases hq with (((((hq | hq) | hq) | hq) | hq) | hq) | hq <;> first | exact ok_slc h hq hs | simp [okQ, okM, okS, okA, okL, okN, okC1] at hq
  | ext d x j => rcases hq with (((((hq | hq) | hq) | hq) | hq) | hq) | hq <;> first | exact ok_ext h hq hs | simp [okQ, okM, okS, okA, okL, okN, okC1] at hq
  | nchk d x => rcases hq with (((((hq | hq) | hq) | hq) | hq) | hq) | hq <;> first | exact ok_nchk h hq hs | simp [okQ, okM, okS, okA, okL, okN, okC1] at hq
  | mkf d f caps => rcases hq with (((((hq | hq) | hq) | hq) | hq) | hq) | hq <;> first | exact ok_mkf h hq hs | simp [okQ, okM, okS, okA, okL, okN, okC1] at hq
  | mm d big x y => rcases hq with (((((hq | hq) | hq) | hq) | hq) | hq) | hq <;> first | exact ok_mm h hq hs | simp [okQ, okM, okS, okA, okL, okN, okC1] at hq
  | call d fz ps f args => rcases hq with (((((hq | hq) | hq) | hq) | hq) | hq) | hq <;> first | exact ok_call hX hE h hq hs | simp [okQ, okM, okS, okA, okL, okN] at hq
  | _ => simp [okQ, okM, okS, okA, okL, okN, okC1] at hq

theorem yielded_eq {ops : Array Oper} {a : Act} {j g : Nat} {oj : Oper} (hj : ops[j]? = some oj) (hg : oj.dst = some g) {t : Bool} (hv : a.eval (.tmp g) = .bool t) :
    yielded ops a.tmps j = some t := by
  simp only [yielded, hj, Option.bind_some, hg]
  simp only [Act.eval, Array.getD_eq_getD_getElem?] at hv
  cases ht : a.tmps[g]? with
  | none => rw [ht] at hv; simp [undef] at hv
  | some u => rw [ht] at hv; simp at hv; subst hv; rfl

theorem skip_ok (h : RepW N E loc So Pd σ a w) {d : Option Nat} (hd : ∀ t, d = some t → t < N) : RepW N E loc So Pd (skipped d σ) (a.put d undef) w := by
  cases d with
  | none => exact h
  | some t => exact h.set (hd t rfl) (by simp only [RegOK]; exact ⟨[], rfl, by simp only [RegsOK]⟩)

theorem an_step {A B K L : List Nat} {i : I} (hs : kstep X (.an A B K L i) σ = some σ') : preB A B K L i σ = true ∧ kstep X i σ = some σ' ∧ postB A B K L i σ' = true := by
  simp only [kstep] at hs
  split at hs
  case isFalse => cases hs
  rename_i h1
  obtain ⟨σ1, h2, h3⟩ := Option.bind_eq_some_iff.1 hs
  split at h3
  case isFalse => cases h3
  rename_i h4
  obtain rfl := Option.some.inj h3
  exact ⟨h1, h2, h4⟩

/-- One operation of a region. -/
theorem op_ok (hX : ∀ f as obs r, X f as obs = some r → Ctr P gl f as obs r) (hE : EntOK gl E) {ops : Array Oper} {i : I} (hq : okI P N ops o i = true) (hs : kstep X i σ = some σ') (h : Rep N E σ a w) {K : Act → World → Prop} {Q : Exit → Act → World → Prop}
    (hK : ∀ a' w', Rep N E σ' a' w' → K a' w') : if Region.wanted o (yielded ops a.tmps) = true then o.wp P a w K Q ∨ (o.asks P a w ∧ LetsOut Q) else K (a.put o.dst undef) w := by
  obtain ⟨loc, So, Pd, h⟩ := h
  have go : ∀ {i : I}, okU P N o i = true → kstep X i σ = some σ' → o.wp P a w K Q := fun hu hs => by
    have := (okU_ok hX hE h hu hs).wp Q
    exact Oper.wp_mono hK this
  have plain : ∀ {i : I}, (o.guard.isNone && okU P N o i) = true → kstep X i σ = some σ' → if Region.wanted o (yielded ops a.tmps) = true then o.wp P a w K Q ∨ (o.asks P a w ∧ LetsOut Q) else K (a.put o.dst undef) w := fun hu hs => by
    simp only [Bool.and_eq_true, Option.isNone_iff_eq_none] at hu
    rw [if_pos (by simp [Region.wanted, hu.1])]
    exact .inl (go hu.2 hs)
  induction i with
  | gd g want d i _ =>
    simp only [okI, Bool.and_eq_true, beq_iff_eq] at hq
    obtain ⟨⟨⟨hg, hd⟩, hN⟩, hu⟩ := hq
    split at hg
    case h_2 => cases hg
    rename_i j want' hgu
    simp only [Bool.and_eq_true, beq_iff_eq] at hg
    obtain ⟨rfl, hg⟩ := hg
    split at hg
    case h_2 => cases hg
    rename_i oj hoj
    have hg : oj.dst = some g := by simpa using hg
    have hreg := h.reg g
    have hskip : ∀ t, d = some t → t < N := fun t e => by subst e; simpa using hN
    simp only [kstep] at hs
    split at hs
    · rename_i t ht
      rw [ht] at hreg
      simp only [RegOK] at hreg
      have hy : yielded ops a.tmps j = some t := by
        generalize hv : a.eval (.tmp g) = v at hreg
        cases hreg with
        | b => exact yielded_eq hoj hg hv
      split at hs
      · rename_i e
        rw [if_pos (by simp [Region.wanted, hgu, hy, e])]
        exact .inl (go hu hs)
      · rename_i e
        rw [if_neg (by simp [Region.wanted, hgu, hy, e])]
        obtain rfl := Option.some.inj hs
        exact hK _ _ ⟨loc, So, Pd, by rw [hd]; exact skip_ok h hskip⟩
    · rename_i ht
      rw [ht] at hreg
      simp only [RegOK] at hreg
      obtain ⟨vs, hv, hvs⟩ := hreg
      have hvs' : vs = [] := by cases vs with | nil => rfl | cons _ _ => simp only [RegsOK] at hvs
      subst hvs'
      have hy : yielded ops a.tmps j = none := by
        simp only [yielded, hoj, Option.bind_some, hg]
        simp only [Act.eval, Array.getD_eq_getD_getElem?] at hv
        cases hz : a.tmps[g]? with
        | none => rfl
        | some u => rw [hz] at hv; simp at hv; subst hv; rfl
      rw [if_neg (by simp [Region.wanted, hgu, hy])]
      obtain rfl := Option.some.inj hs
      exact hK _ _ ⟨loc, So, Pd, by rw [hd]; exact skip_ok h hskip⟩
    · cases hs
  | an A B K L i ih => exact ih (by simpa only [okI] using hq) (an_step hs).2.1
  | _ => exact plain (by simpa only [okI] using hq) hs

theorem keepAll_look {α : Type} : ∀ {l : List Nat} {regs : List (Nat × α)} {t : Nat} {v : α}, klook (keepAll l regs) t = some v → klook regs t = some v
  | [], _, _, _, h => by simp [keepAll, klook] at h
  | a :: l, regs, t, v, h => by
    simp only [keepAll] at h
    cases ha : klook regs a with
    | none => rw [ha] at h; exact keepAll_look h
    | some u =>
      rw [ha] at h
      simp only [keepOne, klook] at h
      split at h
      · rename_i e; subst e; rw [ha]; exact h
      · exact keepAll_look h
theorem ghost_ok {is : List I} (hg : is.all ghost = true) : ∀ {σ : St}, krun X is σ = some σ' → Rep N E σ a w → Rep N E σ' a w := by
  induction is with
  | nil => intro σ hs h; simp only [krun, Option.some.injEq] at hs; subst hs; exact h
  | cons i is ih =>
    intro σ hs h
    simp only [List.all_cons, Bool.and_eq_true] at hg
    simp only [krun] at hs
    obtain ⟨σ1, h1, h2⟩ := Option.bind_eq_some_iff.1 hs
    refine ih hg.2 h2 ?_
    obtain ⟨loc, So, Pd, h⟩ := h
    cases i with
    | kill l => simp only [kstep, Option.some.injEq] at h1; subst h1; exact ⟨loc, So, Pd, h.killAll l⟩
    | keep l => simp only [kstep, Option.some.injEq] at h1; subst h1; exact ⟨loc, So, Pd, h.weaken fun t v hk => .inr (keepAll_look hk)⟩
    | drop l =>
      simp only [kstep, Option.some.injEq] at h1; subst h1
      clear hs h2 ih hg
      induction l generalizing σ So Pd with
      | nil => exact ⟨loc, So, Pd, h⟩
      | cons o l ih => exact ih _ _ (h.gone o)
    | frz t => exact ok_frz h h1
    | opn t o fz => exact ok_opn h h1
    | cls o o2 => exact ok_cls h h1
    | ren o o' => exact ok_ren h h1
    | _ => simp [ghost] at hg

/-- A region in the text's order. -/
theorem list_ok (hX : ∀ f as obs r, X f as obs = some r → Ctr P gl f as obs r) (hE : EntOK gl E) {ops : Array Oper} {Q : Exit → Act → World → Prop} (hQ : ∀ a' w', Rep N E σ' a' w' → Q .normal a' w') :
    ∀ (is : List I) (os : List Oper) {σ : St} {a : Act} {w : World}, okGs P N ops os is = true → krun X is σ = some σ' → Rep N E σ a w → wpList P ops Q os a w
  | [], [], σ, a, w, _, hs, h => by
    simp only [krun, Option.some.injEq] at hs
    subst hs
    exact hQ a w h
  | [], _ :: _, _, _, _, hq, _, _ => by simp [okGs] at hq
  | i :: is, os, σ, a, w, hq, hs, h => by
    simp only [krun] at hs
    obtain ⟨σ1, h1, h2⟩ := Option.bind_eq_some_iff.1 hs
    by_cases hg : ghost i = true
    · have hq' : okGs P N ops os is = true := by cases os <;> simpa only [okGs, hg, if_true] using hq
      have hr : krun X [i] σ = some σ1 := by simp only [krun, h1, Option.bind_some]
      exact list_ok hX hE hQ is os hq' h2 (ghost_ok (is := [i]) (by simp [hg]) hr h)
    · cases os with
      | nil => simp [okGs, hg] at hq
      | cons o os =>
        simp only [okGs, hg, Bool.false_eq_true, if_false, Bool.and_eq_true] at hq
        exact op_ok hX hE hq.1 h1 h fun a' w' hr => list_ok hX hE hQ is os hq.2 h2 hr

end rep
end Go.Proofs.YtniakiefibpgmaaGreatDoorK
