/- The program's Safe returns what the reference's Safe returns, for all arguments; no condition. -/
import Derived.Test.YtfklggpopffkjaaGreatDoorRows
import Derived.Test.YtfklggpopffkjaaGreatDoorX
import Derived.Test.YtfklggpopffkjaaGreatDoorCards
import Derived.Test.YtfklggpopffkjaaGreatDoorTie
import Derived.Lay
import Derived.LaidOnce
import Derived.SevenTiedAt
import Derived.Stop.LaidErr
import Derived.Lib.LaidTab
import Derived.MakeChecks
set_option linter.unusedVariables false
set_option linter.unusedSimpArgs false
namespace Go.Proofs.YtfklggpopffkjaaGreatDoorK
open Go.ChangeShapes Go.WideShapes Go.ChangeAt Go.RowKit Go.Proofs.YtfklggpopffkjaaGreatDoor
theorem own : ownKnob Tryz.prog.godebug = none := by kernel_rfl
theorem laidOut : laidOutB Tryz.prog = true := by kernel_rfl
theorem mixed : Tryz.prog.follows .mixedOrders = true := by kernel_rfl
theorem tab_ok : tabL.all (fun q => okFn Tryz.prog q.1 q.2) = true := by kernel_rfl
theorem V_ok {f : Nat} {l : List AV} {obs : List Ob} {r : List (Option Ob) × RV} (h : V f l obs = some r) : Ctr Tryz.prog gl0 f l obs r :=
  evL_ok tab extE mixed (fun f fn hf => List.all_eq_true.1 tab_ok (f, fn) (klook_mem hf)) ext_ok h
theorem calls_true {f : Nat} {l : List AV} (h : V f l [] = some ([], .one (.fz (.b true)))) {w : World} (hG : gl0.G w) {vs : List Value} (hv : RegsOK w (Old w) (fun _ => none) (fun _ _ => False) [] vs l) :
    Calls Tryz.prog f vs.toArray w fun e w' => e = .returned (.bool true) ∧ Below w.heap.size w w' :=
  ((V_ok h).2 w (Old w) (fun _ => False) (fun _ => none) (fun _ _ => False) vs hG (gl_size hG) (fun x hx => hx.elim)
    ⟨fun x hx => ⟨hx, fun q => q⟩, fun x hx => hx.elim, fun k x hx => hx.elim, fun k k' x hx => hx.elim, fun k ob hk => by simp at hk, hv⟩).mono fun e w' ⟨v, So, Sr, us, he, ex⟩ => by
    have hs := ex.shape
    simp only [Shape] at hs
    subst hs
    have hr := ex.cell 0 v (.fz (.b true)) rfl rfl
    simp only [RetC] at hr
    cases hr
    exact ⟨he, ex.keep.below (Nat.le_refl _) (fun x hx => hx.elim)⟩
end Go.Proofs.YtfklggpopffkjaaGreatDoorK
namespace Go.Proofs.YtfklggpopffkjaaGreatDoor
open Go.ChangeShapes Go.WideShapes Go.ChangeAt Go.RowKit Go.Proofs.YtfklggpopffkjaaGreatDoorK
set_option maxRecDepth 100000 in
theorem f_lifted (os : Os) (started : os.Started) (H : Type) (enc : TypeId × Value → H) :
    ReturnsInHanded {} Tryz.checked os 3 .any (fun w args => (Rows.fnExactSafeSpec.pre enc Tryz.prog Tryz.f3 [] false w args ∧ laidMetH Tryz.prog Rows.fnExactSafeRow.laid w) ∧ sizedMet enc Tryz.prog Tryz.f3 (OpenSpec.ofChange Rows.fnExactSafeSpec) false w args) (Rows.fnExactSafeSpec.post enc Tryz.prog Tryz.f3 false true false false) := by
  refine returnsInHanded_of_change_and (C := Tryz.checked) (X := fun w _ => laidMetH Tryz.prog Rows.fnExactSafeRow.laid w) (fun _ _ _ hh h => h.of_heap hh) own started (by kernel_rfl) Tryz.func3
    (ChangeSpec.witness_shaped (enc := enc) (C := Tryz.checked) (os := os) (X := fun w _ => laidMetH Tryz.prog Rows.fnExactSafeRow.laid w) false (World.laidAll Tryz.prog os Rows.fnExactSafeRow.laid) #[.agg #[.slice none 0 0, .slice none 0 0, .int .i64 0, .int .i64 0, .slice none 0 0, .slice none 0 0]] 8 (World.laidAll_os _ _ _)
      (World.shaped_of_ZipB (by kernel_rfl) (by kernel_rfl)) (by kernel_rfl) (by kernel_rfl) (by kernel_rfl)
      (by rw [MakeChecks.laidMetH_plain _ _ _ (by kernel_rfl)]; exact laidMet_laidAll _ (by kernel_rfl) (by kernel_rfl))) ?_
  intro W base args ds gs before hval0 hW _ _ hL _
  have hval : ∀ (j : Nat) t v, Tryz.f3.params[j]? = some t → args[j]? = some v → Value.okWide Tryz.prog W .any base t v := hval0
  obtain ⟨p, q, hA0, hV, rfl, hfz, hnd⟩ := id hW
  have hA : DataW.TrodAll enc Tryz.prog W 0 (fun _ => true) true Tryz.f3.params.toList args.toList ds p := hA0
  rw [Tryz.params3] at hA hval
  obtain ⟨v0, d0, rfl, rfl, h0⟩ := trodAll_one hA
  obtain ⟨x0, t0, r0⟩ := arg_struct (Tryz.underlying26) (hval 0 26 v0 rfl rfl) h0 (ts := TSrv) (k := 32) (by kernel_rfl)
  rw [MakeChecks.laidMetH_plain _ _ _ (by kernel_rfl)] at hL
  have hG : gl0.G W := Lib.tabIs_of_head (e := 207) (t := 224) (n := 20) gPow_eq (by kernel_rfl) Tryz.underlying224 Tryz.underlying207 (by kernel_rfl) (by kernel_rfl) (zs := Lib.pow10Tab) (rest := Rows.fnExactSafeRow.laid.drop 3) (show laidMet Tryz.prog (("internal/strconv.uint64pow10", Lib.tabData .u64 Lib.pow10Tab) :: Rows.fnExactSafeRow.laid.drop 3) W from (laidMet.tail (laidMet.tail (hL))))
  refine (calls_true (wFnExactSafe_ok x0 t0) hG (vs := [v0]) (by simp only [RegsOK]; exact ⟨r0, trivial⟩)).mono fun e W' ⟨he, hbel⟩ => ?_
  subst he
  exact ⟨_, rfl, post_true hW rfl (fun ds' h => by
    match ds', h with
    | [y0], _ => rfl) (tb := 4) (by kernel_rfl) Tryz.underlying4 laidOut (by kernel_rfl) hbel⟩
theorem row_holds : Rows.FnExactSafeSaid :=
  OpenClaim.holds_of_wide 3 Tryz.f3 rfl rfl rfl rfl rfl rfl rfl ⟨rfl, rfl, rfl, rfl, rfl⟩ rfl rfl rfl rfl rfl (by kernel_rfl) Tryz.func3 (by kernel_rfl)
    (of_decide_eq_true (by kernel_rfl)) (by unfold Func.isWrapper; first | (rw [if_pos (by decide +kernel)]; kernel_rfl) | (rw [if_neg (by decide +kernel)]; exact ⟨rfl, rfl⟩))
    (fun os started H enc _ => f_lifted os started H enc)
theorem f_holds : Rows.FnExactSafeCardSaid :=
  Claim7.holds_tied_plain_at .later [] [.data, .data, .data] true (true, "5a6cc73461384e61e11befc93709f79888e1697c1dbb05178e7c9f19500ef267") true row_holds (fun _ h => by cases h) (by kernel_rfl) (fun _ h => by cases h) fnExactSafe_row_tie rfl ⟨rfl, rfl⟩ (by kernel_rfl) rfl
    (fun f fn hf hfn => by
      obtain rfl : f = 3 := Option.some.inj ((show Tryz.prog.funcNamed Rows.fnExactSafeRow.func = some 3 by kernel_rfl).symm.trans hf) |>.symm
      obtain rfl : fn = Tryz.f3 := (Option.some.inj (Tryz.func3.symm.trans hfn)).symm
      exact ⟨by kernel_rfl, fun j t ht => by
        rw [Tryz.params3] at ht
        have hm : t ∈ [26] := by simpa using Array.mem_of_getElem? ht
        have hall : ([26].all fun u => !Tryz.prog.wantsStandIn u) = true := by kernel_rfl
        exact (show Tryz.prog.wantsStandIn t = false by simpa using List.all_eq_true.1 hall t hm)⟩)
    (by kernel_rfl)
end Go.Proofs.YtfklggpopffkjaaGreatDoor
