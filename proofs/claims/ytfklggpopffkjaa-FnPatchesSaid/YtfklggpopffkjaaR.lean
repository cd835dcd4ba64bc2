/- The statement FnPatches is true at every input; no condition. -/
import Derived.Test.YtfklggpopffkjaaRows
import Derived.Test.YtfklggpopffkjaaX
set_option linter.unusedVariables false
set_option linter.unusedSimpArgs false
namespace Go.Proofs.YtfklggpopffkjaaK
open Go.ChangeShapes Go.WideShapes Go.ChangeAt Go.RowKit Go.Proofs.Ytfklggpopffkjaa
theorem own : ownKnob Try.prog.godebug = none := by kernel_rfl
theorem laidOut : laidOutB Try.prog = true := by kernel_rfl
theorem mixed : Try.prog.follows .mixedOrders = true := by kernel_rfl
theorem tab_ok : tabL.all (fun q => okFn Try.prog q.1 q.2) = true := by kernel_rfl
theorem V_ok {f : Nat} {l : List AV} {obs : List Ob} {r : List (Option Ob) × RV} (h : V f l obs = some r) : Ctr Try.prog gl0 f l obs r :=
  evL_ok tab extE mixed (fun f fn hf => List.all_eq_true.1 tab_ok (f, fn) (klook_mem hf)) ext_ok h
theorem calls_true {f : Nat} {l : List AV} (h : V f l [] = some ([], .one (.fz (.b true)))) {w : World} (hG : gl0.G w) {vs : List Value} (hv : RegsOK w (Old w) (fun _ => none) (fun _ _ => False) [] vs l) :
    Calls Try.prog f vs.toArray w fun e w' => e = .returned (.bool true) ∧ Below w.heap.size w w' :=
  ((V_ok h).2 w (Old w) (fun _ => False) (fun _ => none) (fun _ _ => False) vs hG (gl_size hG) (fun x hx => hx.elim)
    ⟨fun x hx => ⟨hx, fun q => q⟩, fun x hx => hx.elim, fun k x hx => hx.elim, fun k k' x hx => hx.elim, fun k ob hk => by simp at hk, hv⟩).mono fun e w' ⟨v, So, Sr, us, he, ex⟩ => by
    have hs := ex.shape
    simp only [Shape] at hs
    subst hs
    have hr := ex.cell 0 v (.fz (.b true)) rfl rfl
    simp only [RetC] at hr
    cases hr
    exact ⟨he, ex.keep.below (Nat.le_refl _) (fun x hx => hx.elim)⟩
end Go.Proofs.YtfklggpopffkjaaK
namespace Go.Proofs.Ytfklggpopffkjaa
open Go.ChangeShapes Go.WideShapes Go.ChangeAt Go.RowKit Go.Proofs.YtfklggpopffkjaaK
set_option maxRecDepth 100000 in
theorem f_lifted (os : Os) (started : os.Started) (H : Type) (enc : TypeId × Value → H) :
    ReturnsInHanded {} Try.checked os 6 .any (Rows.fnPatchesSpec.pre6 enc Try.prog Try.f6 Rows.fnPatchesRow.domain false) (Rows.fnPatchesSpec.post enc Try.prog Try.f6 false true false false) := by
  refine returnsInHanded_of_change (C := Try.checked) own started (by kernel_rfl) Try.func6
    (ChangeSpec.witness6 (enc := enc) (C := Try.checked) false ⟨#[], #[.slice none 0 0], []⟩ 8 (by kernel_rfl) (by kernel_rfl) (by kernel_rfl) (by kernel_rfl)) ?_
  intro W base args ds gs before hval0 hW hcnd _
  have hval : ∀ (j : Nat) t v, Try.f6.params[j]? = some t → args[j]? = some v → Value.okWide Try.prog W .any base t v := hval0
  obtain ⟨p, q, hA0, hV, rfl, hfz, hnd⟩ := id hW
  have hA : DataW.TrodAll enc Try.prog W 0 (fun _ => true) true Try.f6.params.toList args.toList ds p := hA0
  rw [Try.params6] at hA hval
  obtain ⟨v0, d0, rfl, rfl, h0⟩ := trodAll_one hA
  obtain ⟨x0, t0, r0⟩ := arg_one (hval 0 29 v0 rfl rfl) h0 (ts := (.sl .u8)) (k := 32) (by kernel_rfl) (by rw [Try.underlying29]; intro fs hh; cases hh)
  simp only [cellsT, List.map_cons, List.map_nil, RegsOK, and_true] at r0
  have hG : gl0.G W := trivial
  refine (calls_true (wFnPatches_ok x0 t0) hG (vs := [v0]) (by simp only [RegsOK]; exact ⟨r0, trivial⟩)).mono fun e W' ⟨he, hbel⟩ => ?_
  subst he
  exact ⟨_, rfl, post_true hW rfl (fun ds' h => by
    match ds', h with
    | [y0], _ => rfl) (tb := 4) (by kernel_rfl) Try.underlying4 laidOut (by kernel_rfl) hbel⟩
theorem row_holds : Rows.FnPatchesSaid :=
  OpenClaim.holds_of_wide 6 Try.f6 rfl rfl rfl rfl rfl rfl rfl ⟨rfl, rfl, rfl, rfl, rfl⟩ rfl rfl rfl rfl rfl (by kernel_rfl) Try.func6 (by kernel_rfl)
    (of_decide_eq_true (by kernel_rfl)) (by unfold Func.isWrapper; first | (rw [if_pos (by decide +kernel)]; kernel_rfl) | (rw [if_neg (by decide +kernel)]; exact ⟨rfl, rfl⟩))
    (fun os started H enc _ => f_lifted os started H enc)
theorem f_holds : Rows.FnPatchesSaid := row_holds
end Go.Proofs.Ytfklggpopffkjaa
