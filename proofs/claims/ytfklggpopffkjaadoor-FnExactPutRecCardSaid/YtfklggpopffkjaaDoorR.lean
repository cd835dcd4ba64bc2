/- The program's PutRec returns what the reference's PutRec returns, for all arguments; no condition. -/
import Derived.Test.YtfklggpopffkjaaDoorRows
import Derived.Test.YtfklggpopffkjaaDoorX
import Derived.Test.YtfklggpopffkjaaDoorCards
import Derived.Test.YtfklggpopffkjaaDoorTie
import Derived.Lay
import Derived.LaidOnce
import Derived.SevenTiedAt
import Derived.Stop.LaidErr
import Derived.Lib.LaidTab
import Derived.MakeChecks
set_option linter.unusedVariables false
set_option linter.unusedSimpArgs false
namespace Go.Proofs.YtfklggpopffkjaaDoorK
open Go.ChangeShapes Go.WideShapes Go.ChangeAt Go.RowKit Go.Proofs.YtfklggpopffkjaaDoor
theorem own : ownKnob Tryd.prog.godebug = none := by kernel_rfl
theorem laidOut : laidOutB Tryd.prog = true := by kernel_rfl
theorem mixed : Tryd.prog.follows .mixedOrders = true := by kernel_rfl
theorem tab_ok : tabL.all (fun q => okFn Tryd.prog q.1 q.2) = true := by kernel_rfl
theorem V_ok {f : Nat} {l : List AV} {obs : List Ob} {r : List (Option Ob) × RV} (h : V f l obs = some r) : Ctr Tryd.prog gl0 f l obs r :=
  evL_ok tab extE mixed (fun f fn hf => List.all_eq_true.1 tab_ok (f, fn) (klook_mem hf)) ext_ok h
theorem calls_true {f : Nat} {l : List AV} (h : V f l [] = some ([], .one (.fz (.b true)))) {w : World} (hG : gl0.G w) {vs : List Value} (hv : RegsOK w (Old w) (fun _ => none) (fun _ _ => False) [] vs l) :
    Calls Tryd.prog f vs.toArray w fun e w' => e = .returned (.bool true) ∧ Below w.heap.size w w' :=
  ((V_ok h).2 w (Old w) (fun _ => False) (fun _ => none) (fun _ _ => False) vs hG (gl_size hG) (fun x hx => hx.elim)
    ⟨fun x hx => ⟨hx, fun q => q⟩, fun x hx => hx.elim, fun k x hx => hx.elim, fun k k' x hx => hx.elim, fun k ob hk => by simp at hk, hv⟩).mono fun e w' ⟨v, So, Sr, us, he, ex⟩ => by
    have hs := ex.shape
    simp only [Shape] at hs
    subst hs
    have hr := ex.cell 0 v (.fz (.b true)) rfl rfl
    simp only [RetC] at hr
    cases hr
    exact ⟨he, ex.keep.below (Nat.le_refl _) (fun x hx => hx.elim)⟩
end Go.Proofs.YtfklggpopffkjaaDoorK
namespace Go.Proofs.YtfklggpopffkjaaDoor
open Go.ChangeShapes Go.WideShapes Go.ChangeAt Go.RowKit Go.Proofs.YtfklggpopffkjaaDoorK
set_option maxRecDepth 100000 in
theorem f_lifted (os : Os) (started : os.Started) (H : Type) (enc : TypeId × Value → H) :
    ReturnsInHanded {} Tryd.checked os 3 .any (fun w args => (Rows.fnExactPutRecSpec.pre enc Tryd.prog Tryd.f3 [] false w args ∧ laidMetH Tryd.prog Rows.fnExactPutRecRow.laid w) ∧ sizedMet enc Tryd.prog Tryd.f3 (OpenSpec.ofChange Rows.fnExactPutRecSpec) false w args) (Rows.fnExactPutRecSpec.post enc Tryd.prog Tryd.f3 false true false false) := by
  refine returnsInHanded_of_change_and (C := Tryd.checked) (X := fun w _ => laidMetH Tryd.prog Rows.fnExactPutRecRow.laid w) (fun _ _ _ hh h => h.of_heap hh) own started (by kernel_rfl) Tryd.func3
    (ChangeSpec.witness_shaped (enc := enc) (C := Tryd.checked) (os := os) (X := fun w _ => laidMetH Tryd.prog Rows.fnExactPutRecRow.laid w) false (World.laidAll Tryd.prog os Rows.fnExactPutRecRow.laid) #[.slice none 0 0, .agg #[.int .i64 0, .int .i64 0, .string ⟨#[]⟩, .string ⟨#[]⟩, .slice none 0 0, .string ⟨#[]⟩]] 8 (World.laidAll_os _ _ _)
      (World.shaped_of_ZipB (by kernel_rfl) (by kernel_rfl)) (by kernel_rfl) (by kernel_rfl) (by kernel_rfl)
      (by rw [MakeChecks.laidMetH_plain _ _ _ (by kernel_rfl)]; exact laidMet_laidAll _ (by kernel_rfl) (by kernel_rfl))) ?_
  intro W base args ds gs before hval0 hW _ _ hL _
  have hval : ∀ (j : Nat) t v, Tryd.f3.params[j]? = some t → args[j]? = some v → Value.okWide Tryd.prog W .any base t v := hval0
  obtain ⟨p, q, hA0, hV, rfl, hfz, hnd⟩ := id hW
  have hA : DataW.TrodAll enc Tryd.prog W 0 (fun _ => true) true Tryd.f3.params.toList args.toList ds p := hA0
  rw [Tryd.params3] at hA hval
  obtain ⟨v0, v1, d0, d1, p0, p1, rfl, rfl, rfl, h0, h1⟩ := trodAll_two hA
  obtain ⟨x0, t0, r0⟩ := arg_one (hval 0 22 v0 rfl rfl) h0 (ts := (.sl .u8)) (k := 32) (by kernel_rfl) (by rw [Tryd.underlying22]; intro fs hh; cases hh)
  simp only [cellsT, List.map_cons, List.map_nil, RegsOK, and_true] at r0
  obtain ⟨x1, t1, r1⟩ := arg_struct (Tryd.underlying27) (hval 1 27 v1 rfl rfl) h1 (ts := TRec) (k := 32) (by kernel_rfl)
  rw [MakeChecks.laidMetH_plain _ _ _ (by kernel_rfl)] at hL
  have hG : gl0.G W := Lib.tabIs_of_head (e := 73) (t := 81) (n := 20) gPow_eq (by kernel_rfl) Tryd.underlying81 Tryd.underlying73 (by kernel_rfl) (by kernel_rfl) (zs := Lib.pow10Tab) (rest := Rows.fnExactPutRecRow.laid.drop 3) (show laidMet Tryd.prog (("internal/strconv.uint64pow10", Lib.tabData .u64 Lib.pow10Tab) :: Rows.fnExactPutRecRow.laid.drop 3) W from (laidMet.tail (laidMet.tail (hL))))
  refine (calls_true (wFnExactPutRec_ok x0 x1 t0 t1) hG (vs := [v0, v1]) (by simp only [RegsOK]; exact ⟨r0, r1, trivial⟩)).mono fun e W' ⟨he, hbel⟩ => ?_
  subst he
  exact ⟨_, rfl, post_true hW rfl (fun ds' h => by
    match ds', h with
    | [y0, y1], _ => rfl) (tb := 4) (by kernel_rfl) Tryd.underlying4 laidOut (by kernel_rfl) hbel⟩
theorem row_holds : Rows.FnExactPutRecSaid :=
  OpenClaim.holds_of_wide 3 Tryd.f3 rfl rfl rfl rfl rfl rfl rfl ⟨rfl, rfl, rfl, rfl, rfl⟩ rfl rfl rfl rfl rfl (by kernel_rfl) Tryd.func3 (by kernel_rfl)
    (of_decide_eq_true (by kernel_rfl)) (by unfold Func.isWrapper; first | (rw [if_pos (by decide +kernel)]; kernel_rfl) | (rw [if_neg (by decide +kernel)]; exact ⟨rfl, rfl⟩))
    (fun os started H enc _ => f_lifted os started H enc)
theorem f_holds : Rows.FnExactPutRecCardSaid :=
  Claim7.holds_tied_plain_at .later [] [.data, .data, .data, .data, .pinned] true (true, "5562f1bf2c6d44dfbf6ed68e6ad74c5ff0b4c0796edb4b24eddabaa609517199") false row_holds (fun _ h => by cases h) (by kernel_rfl) (fun _ h => by cases h) fnExactPutRec_row_tie rfl ⟨rfl, rfl⟩ (by kernel_rfl) rfl
    (fun f fn hf hfn => by
      obtain rfl : f = 3 := Option.some.inj ((show Tryd.prog.funcNamed Rows.fnExactPutRecRow.func = some 3 by kernel_rfl).symm.trans hf) |>.symm
      obtain rfl : fn = Tryd.f3 := (Option.some.inj (Tryd.func3.symm.trans hfn)).symm
      exact ⟨by kernel_rfl, fun j t ht => by
        rw [Tryd.params3] at ht
        have hm : t ∈ [22, 27] := by simpa using Array.mem_of_getElem? ht
        have hall : ([22, 27].all fun u => !Tryd.prog.wantsStandIn u) = true := by kernel_rfl
        exact (show Tryd.prog.wantsStandIn t = false by simpa using List.all_eq_true.1 hall t hm)⟩)
    (by kernel_rfl)
end Go.Proofs.YtfklggpopffkjaaDoor
