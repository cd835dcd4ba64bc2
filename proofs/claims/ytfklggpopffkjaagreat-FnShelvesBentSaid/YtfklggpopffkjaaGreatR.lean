/- The statement FnShelvesBent is true at every input; no condition. -/
import Derived.Test.YtfklggpopffkjaaGreatRows
import Derived.Test.YtfklggpopffkjaaGreatX
set_option linter.unusedVariables false
set_option linter.unusedSimpArgs false
namespace Go.Proofs.YtfklggpopffkjaaGreatK
open Go.ChangeShapes Go.WideShapes Go.ChangeAt Go.RowKit Go.Proofs.YtfklggpopffkjaaGreat
theorem own : ownKnob Tryz.prog.godebug = none := by kernel_rfl
theorem laidOut : laidOutB Tryz.prog = true := by kernel_rfl
theorem mixed : Tryz.prog.follows .mixedOrders = true := by kernel_rfl
theorem tab_ok : tabL.all (fun q => okFn Tryz.prog q.1 q.2) = true := by kernel_rfl
theorem V_ok {f : Nat} {l : List AV} {obs : List Ob} {r : List (Option Ob) × RV} (h : V f l obs = some r) : Ctr Tryz.prog gl0 f l obs r :=
  evL_ok tab extE mixed (fun f fn hf => List.all_eq_true.1 tab_ok (f, fn) (klook_mem hf)) ext_ok h
theorem calls_true {f : Nat} {l : List AV} (h : V f l [] = some ([], .one (.fz (.b true)))) {w : World} (hG : gl0.G w) {vs : List Value} (hv : RegsOK w (Old w) (fun _ => none) (fun _ _ => False) [] vs l) :
    Calls Tryz.prog f vs.toArray w fun e w' => e = .returned (.bool true) ∧ Below w.heap.size w w' :=
  ((V_ok h).2 w (Old w) (fun _ => False) (fun _ => none) (fun _ _ => False) vs hG (gl_size hG) (fun x hx => hx.elim)
    ⟨fun x hx => ⟨hx, fun q => q⟩, fun x hx => hx.elim, fun k x hx => hx.elim, fun k k' x hx => hx.elim, fun k ob hk => by simp at hk, hv⟩).mono fun e w' ⟨v, So, Sr, us, he, ex⟩ => by
    have hs := ex.shape
    simp only [Shape] at hs
    subst hs
    have hr := ex.cell 0 v (.fz (.b true)) rfl rfl
    simp only [RetC] at hr
    cases hr
    exact ⟨he, ex.keep.below (Nat.le_refl _) (fun x hx => hx.elim)⟩
end Go.Proofs.YtfklggpopffkjaaGreatK
namespace Go.Proofs.YtfklggpopffkjaaGreat
open Go.ChangeShapes Go.WideShapes Go.ChangeAt Go.RowKit Go.Proofs.YtfklggpopffkjaaGreatK
set_option maxRecDepth 100000 in
theorem f_lifted (os : Os) (started : os.Started) (H : Type) (enc : TypeId × Value → H) :
    ReturnsInHanded {} Tryz.checked os 5 .any (Rows.fnShelvesBentSpec.pre6 enc Tryz.prog Tryz.f5 Rows.fnShelvesBentRow.domain false) (Rows.fnShelvesBentSpec.post enc Tryz.prog Tryz.f5 false true false false) := by
  refine returnsInHanded_of_change (C := Tryz.checked) own started (by kernel_rfl) Tryz.func5
    (ChangeSpec.witness6 (enc := enc) (C := Tryz.checked) false ⟨#[], #[.slice none 0 0], []⟩ 8 (by kernel_rfl) (by kernel_rfl) (by kernel_rfl) (by kernel_rfl)) ?_
  intro W base args ds gs before hval0 hW hcnd _
  have hval : ∀ (j : Nat) t v, Tryz.f5.params[j]? = some t → args[j]? = some v → Value.okWide Tryz.prog W .any base t v := hval0
  obtain ⟨p, q, hA0, hV, rfl, hfz, hnd⟩ := id hW
  have hA : DataW.TrodAll enc Tryz.prog W 0 (fun _ => true) true Tryz.f5.params.toList args.toList ds p := hA0
  rw [Tryz.params5] at hA hval
  obtain ⟨v0, d0, rfl, rfl, h0⟩ := trodAll_one hA
  obtain ⟨x0, t0, r0⟩ := arg_one (hval 0 37 v0 rfl rfl) h0 (ts := (.sl .u8)) (k := 32) (by kernel_rfl) (by rw [Tryz.underlying37]; intro fs hh; cases hh)
  simp only [cellsT, List.map_cons, List.map_nil, RegsOK, and_true] at r0
  have hG : gl0.G W := trivial
  refine (calls_true (wFnShelvesBent_ok x0 t0) hG (vs := [v0]) (by simp only [RegsOK]; exact ⟨r0, trivial⟩)).mono fun e W' ⟨he, hbel⟩ => ?_
  subst he
  exact ⟨_, rfl, post_true hW rfl (fun ds' h => by
    match ds', h with
    | [y0], _ => rfl) (tb := 4) (by kernel_rfl) Tryz.underlying4 laidOut (by kernel_rfl) hbel⟩
theorem row_holds : Rows.FnShelvesBentSaid :=
  OpenClaim.holds_of_wide 5 Tryz.f5 rfl rfl rfl rfl rfl rfl rfl ⟨rfl, rfl, rfl, rfl, rfl⟩ rfl rfl rfl rfl rfl (by kernel_rfl) Tryz.func5 (by kernel_rfl)
    (of_decide_eq_true (by kernel_rfl)) (by unfold Func.isWrapper; first | (rw [if_pos (by decide +kernel)]; kernel_rfl) | (rw [if_neg (by decide +kernel)]; exact ⟨rfl, rfl⟩))
    (fun os started H enc _ => f_lifted os started H enc)
theorem f_holds : Rows.FnShelvesBentSaid := row_holds
end Go.Proofs.YtfklggpopffkjaaGreat
