/- The statement FnLocked is true at every input; no condition. -/
import Derived.Test.YtniakiefibpgmaaGreatDoorRows
import Derived.Test.YtniakiefibpgmaaGreatDoorX
import Derived.Test.YtniakiefibpgmaaGreatDoorCards
import Derived.Test.YtniakiefibpgmaaGreatDoorTie
import Derived.Lay
import Derived.LaidOnce
import Derived.SevenTiedAt
import Derived.Stop.LaidErr
import Derived.Lib.LaidTab
import Derived.MakeChecks
import Derived.SizedLaws
import Derived.ShapedOpen
set_option linter.unusedVariables false
set_option linter.unusedSimpArgs false
namespace Go.Proofs.YtniakiefibpgmaaGreatDoorK
open Go.ChangeShapes Go.WideShapes Go.ChangeAt Go.RowKit Go.Proofs.YtniakiefibpgmaaGreatDoor
theorem own : ownKnob Tryz.prog.godebug = none := by kernel_rfl
theorem laidOut : laidOutB Tryz.prog = true := by kernel_rfl
theorem mixed : Tryz.prog.follows .mixedOrders = true := by kernel_rfl
theorem tab_ok : tabL.all (fun q => okFn Tryz.prog q.1 q.2) = true := by kernel_rfl
theorem V_ok {f : Nat} {l : List AV} {obs : List Ob} {r : List (Option Ob) × RV} (h : V f l obs = some r) : Ctr Tryz.prog gl0 f l obs r :=
  evL_ok tab extE mixed (fun f fn hf => List.all_eq_true.1 tab_ok (f, fn) (klook_mem hf)) ext_ok h
theorem calls_true {f : Nat} {l : List AV} (h : V f l [] = some ([], .one (.fz (.b true)))) {w : World} (hG : gl0.G w) {vs : List Value} (hv : RegsOK w (Old w) (fun _ => none) (fun _ _ => False) [] vs l) :
    Calls Tryz.prog f vs.toArray w fun e w' => e = .returned (.bool true) ∧ Below w.heap.size w w' :=
  ((V_ok h).2 w (Old w) (fun _ => False) (fun _ => none) (fun _ _ => False) vs hG (gl_size hG) (fun x hx => hx.elim)
    ⟨fun x hx => ⟨hx, fun q => q⟩, fun x hx => hx.elim, fun k x hx => hx.elim, fun k k' x hx => hx.elim, fun k ob hk => by simp at hk, hv⟩).mono fun e w' ⟨v, So, Sr, us, he, ex⟩ => by
    have hs := ex.shape
    simp only [Shape] at hs
    subst hs
    have hr := ex.cell 0 v (.fz (.b true)) rfl rfl
    simp only [RetC] at hr
    cases hr
    exact ⟨he, ex.keep.below (Nat.le_refl _) (fun x hx => hx.elim)⟩
end Go.Proofs.YtniakiefibpgmaaGreatDoorK
namespace Go.Proofs.YtniakiefibpgmaaGreatDoor
open Go.ChangeShapes Go.WideShapes Go.ChangeAt Go.RowKit Go.Proofs.YtniakiefibpgmaaGreatDoorK
theorem star : "*" ++ "errors.errorString" = "*errors.errorString" := by decide
theorem handed_and_shaped {H : Type} {enc : TypeId × Value → H} {a : Assume} {C : Checked} {os : Os} {f : FuncId} {fn : Func} {s : ChangeSpec} {conds : List PathCond} {apart fresh handsOn again : Bool} {X : World → Array Value → Prop}
    (hX : ∀ (w w' : World) (args : Array Value), w.heap = w'.heap → X w args → X w' args)
    (own : ownKnob C.prog.godebug = none) (started : os.Started) (noInit : C.prog.inits.idxOf? f = none) (hfn : C.prog.funcs[f]? = some fn)
    (witness : ∃ (w : World) (tape : Tape) (i : Input), w.os = os ∧ (w.forCall tape i).Shaped C.prog ∧ i.vars = [] ∧ Input.okWide C.prog (w.forCall tape i) .any w.heap.size f i ∧
      ((s.pre enc C.prog fn conds apart (w.forCall tape i).memory i.args ∧ X (w.forCall tape i).memory i.args) ∧ sizedMet enc C.prog fn (OpenSpec.ofChange s) apart (w.forCall tape i).memory i.args) ∧ a.holds C.prog (lone (Frame.enter C.prog f i.args .normal) [] (w.forCall tape i)))
    (contract : ∀ (W : World) (base : Nat) (args : Array Value) (ds gs : List (DataW H)) (before : List MemPlace),
      (∀ (j : Nat) t v, fn.params[j]? = some t → args[j]? = some v → Value.okWide C.prog W .any base t v) →
      DataW.Whole enc C.prog fn.params.toList s.vars apart W args.toList ds gs before →
      conds.all (PathCond.test C.prog ⟨fn.params.toList, ds, s.plain.varTypes C.prog, gs⟩) = true →
      (DataW.weightsEach C.prog (fn.params.toList ++ s.plain.varTypes C.prog) (ds ++ gs)).all (· ≤ reachBytes) = true → X W args → W.ShapedOpen C.prog →
      a.holds C.prog (lone (Frame.enter C.prog f args .normal) [] W) →
      Calls C.prog f args W fun e W' => ∃ v, e = .returned v ∧ s.post enc C.prog fn apart fresh handsOn again W args v W') :
    ReturnsInHanded a C os f .any (fun w args => (s.pre enc C.prog fn conds apart w args ∧ X w args) ∧ sizedMet enc C.prog fn (OpenSpec.ofChange s) apart w args) (s.post enc C.prog fn apart fresh handsOn again) := by
  refine returnsInHanded_of_calls own started noInit witness ?_
  intro w tape i _ hsh _ hok hpre hholds
  obtain ⟨_, _, _, fn', hfn', _, _, _, _, hval⟩ := hok
  have e : fn' = fn := Option.some.inj (hfn'.symm.trans hfn)
  subst e
  obtain ⟨⟨⟨ds, gs, before, hw, hc⟩, hx⟩, hz⟩ := hpre
  have hw' := DataW.Whole.of_heap (w' := w.forCall tape i) (by rfl) hw
  refine (contract (w.forCall tape i) w.heap.size i.args ds gs before hval hw' hc (hz.weights hw) (hX _ _ _ (by rfl) hx) hsh hholds).mono fun e W' ⟨v, he, hp⟩ => ?_
  subst he
  exact ChangeSpec.post_blind hp
set_option maxRecDepth 100000 in
theorem f_lifted (os : Os) (started : os.Started) (H : Type) (enc : TypeId × Value → H) :
    ReturnsInHanded {} Tryz.checked os 6 .any (fun w args => (Rows.fnLockedSpec.pre enc Tryz.prog Tryz.f6 [] false w args ∧ laidMetH Tryz.prog Rows.fnLockedRow.laid w) ∧ sizedMet enc Tryz.prog Tryz.f6 (OpenSpec.ofChange Rows.fnLockedSpec) false w args) (Rows.fnLockedSpec.post enc Tryz.prog Tryz.f6 false true false false) := by
  refine handed_and_shaped (C := Tryz.checked) (X := fun w _ => laidMetH Tryz.prog Rows.fnLockedRow.laid w) (fun _ _ _ hh h => h.of_heap hh) own started (by kernel_rfl) Tryz.func6
    (ChangeSpec.witness_shaped (enc := enc) (C := Tryz.checked) (os := os) (X := fun w _ => laidMetH Tryz.prog Rows.fnLockedRow.laid w) false (World.laidAll Tryz.prog os Rows.fnLockedRow.laid) #[.slice none 0 0] 8 (World.laidAll_os _ _ _)
      (World.shaped_of_ZipB (by kernel_rfl) (by kernel_rfl)) (by kernel_rfl) (by kernel_rfl) (by kernel_rfl)
      (by rw [MakeChecks.laidMetH_plain _ _ _ (by kernel_rfl)]; exact laidMet_laidAll _ (by kernel_rfl) (by kernel_rfl))) ?_
  intro W base args ds gs before hval0 hW _ _ hL hsh _
  have hval : ∀ (j : Nat) t v, Tryz.f6.params[j]? = some t → args[j]? = some v → Value.okWide Tryz.prog W .any base t v := hval0
  obtain ⟨p, q, hA0, hV, rfl, hfz, hnd⟩ := id hW
  have hA : DataW.TrodAll enc Tryz.prog W 0 (fun _ => true) true Tryz.f6.params.toList args.toList ds p := hA0
  rw [Tryz.params6] at hA hval
  obtain ⟨v0, d0, rfl, rfl, h0⟩ := trodAll_one hA
  obtain ⟨x0, t0, r0⟩ := arg_one (hval 0 22 v0 rfl rfl) h0 (ts := (.sl .u8)) (k := 32) (by kernel_rfl) (by rw [Tryz.underlying22]; intro fs hh; cases hh)
  simp only [cellsT, List.map_cons, List.map_nil, RegsOK, and_true] at r0
  rw [MakeChecks.laidMetH_plain _ _ _ (by kernel_rfl)] at hL
  have g0 : Lib.TabIs Tryz.prog W "internal/strconv.uint64pow10" .u64 Lib.pow10Tab := Lib.tabIs_of_head (e := 221) (t := 276) (n := 20) gPow_eq (by kernel_rfl) Tryz.underlying276 Tryz.underlying221 (by kernel_rfl) (by kernel_rfl) (zs := Lib.pow10Tab) (rest := Rows.fnLockedRow.laid.drop 3) (show laidMet Tryz.prog (("internal/strconv.uint64pow10", Lib.tabData .u64 Lib.pow10Tab) :: Rows.fnLockedRow.laid.drop 3) W from (laidMet.tail (laidMet.tail (hL))))
  have g1 := max_shaped hsh
  have g_syn : CellP IsErr 6 W := by
    have hX : laidMet Tryz.prog (("strconv.ErrSyntax", Rows.laid_strconv_ErrSyntax) :: Rows.fnLockedRow.laid.drop 6) W := (laidMet.tail (laidMet.tail (laidMet.tail (laidMet.tail (laidMet.tail (hL))))))
    unfold Rows.laid_strconv_ErrSyntax at hX
    obtain ⟨a, s, hv, _⟩ := laid_sentinel (g := 6) (ti := 269) hX (by kernel_rfl) (by kernel_rfl) Tryz.underlying269 (fun u hu => typeName_ptr_named (nm := "errors.errorString") (tp := 328) (by rw [star]; kernel_rfl) (by kernel_rfl) (by decide) u (by rw [star]; exact hu)) Tryz.underlying328 Tryz.underlying330 rfl rfl Tryz.underlying9 (by kernel_rfl) (by kernel_rfl)
    exact ⟨_, by simpa using World.var?_cell (show Tryz.prog.globalNamed "strconv.ErrSyntax" = some 6 by kernel_rfl) hv 0, .inr ⟨_, _, rfl⟩⟩
  have g_ran : CellP IsErr 7 W := by
    have hX : laidMet Tryz.prog (("strconv.ErrRange", Rows.laid_strconv_ErrRange) :: Rows.fnLockedRow.laid.drop 5) W := (laidMet.tail (laidMet.tail (laidMet.tail (laidMet.tail (hL)))))
    unfold Rows.laid_strconv_ErrRange at hX
    obtain ⟨a, s, hv, _⟩ := laid_sentinel (g := 7) (ti := 269) hX (by kernel_rfl) (by kernel_rfl) Tryz.underlying269 (fun u hu => typeName_ptr_named (nm := "errors.errorString") (tp := 328) (by rw [star]; kernel_rfl) (by kernel_rfl) (by decide) u (by rw [star]; exact hu)) Tryz.underlying328 Tryz.underlying330 rfl rfl Tryz.underlying9 (by kernel_rfl) (by kernel_rfl)
    exact ⟨_, by simpa using World.var?_cell (show Tryz.prog.globalNamed "strconv.ErrRange" = some 7 by kernel_rfl) hv 0, .inr ⟨_, _, rfl⟩⟩
  have hG : gl0.G W := ⟨g0, g1, g_syn, g_ran, trivial⟩
  refine (calls_true (wFnLocked_ok x0 t0) hG (vs := [v0]) (by simp only [RegsOK]; exact ⟨r0, trivial⟩)).mono fun e W' ⟨he, hbel⟩ => ?_
  subst he
  exact ⟨_, rfl, post_true hW rfl (fun ds' h => by
    match ds', h with
    | [y0], _ => rfl) (tb := 4) (by kernel_rfl) Tryz.underlying4 laidOut (by kernel_rfl) hbel⟩
theorem r_named : Tryz.pinned.checked.prog.funcNamed Rows.fnLockedRow.func = some 6 := by kernel_rfl
theorem r_closed : joinedFacts Tryz.pinned.checked.prog 6 Tryz.f6 Rows.fnLockedSpec Rows.fnLockedRow = true := by kernel_rfl
theorem r_inst : Tryz.f6.isInstance Tryz.pinned.checked.prog Rows.fnLockedRow.origin Rows.fnLockedRow.targs := of_decide_eq_true (by kernel_rfl)
theorem r_wrap : Tryz.f6.isWrapper Tryz.pinned.checked.prog Rows.fnLockedRow.wrapper Rows.fnLockedRow.mainSum := by
  unfold Func.isWrapper; first | (rw [if_pos (by decide +kernel)]; kernel_rfl) | (rw [if_neg (by decide +kernel)]; exact ⟨rfl, rfl⟩)
theorem r_lift (os : Os) (started : os.Started) (H : Type) (enc : TypeId × Value → H) : ReturnsInHanded Rows.fnLockedRow.assume Tryz.pinned.checked os 6 .any (Rows.fnLockedRow.pre enc Tryz.pinned.checked.prog Tryz.f6 (OpenSpec.ofChange Rows.fnLockedSpec)) (Rows.fnLockedSpec.post enc Tryz.pinned.checked.prog Tryz.f6 Rows.fnLockedRow.apart Rows.fnLockedRow.fresh Rows.fnLockedRow.handsOn Rows.fnLockedRow.again) := f_lifted os started H enc
theorem row_holds : Rows.FnLockedSaid :=
  OpenClaim.holds_of_wide 6 Tryz.f6 rfl rfl rfl rfl rfl rfl rfl ⟨rfl, rfl, rfl, rfl, rfl⟩ rfl rfl rfl rfl rfl r_named Tryz.func6 r_closed r_inst r_wrap
    (fun os started H enc _ => r_lift os started H enc)
theorem f_holds : Rows.FnLockedCardSaid :=
  Claim7.holds_tied_plain_at .later [] [.data, .data, .data, .data, .sentinel, .sentinel, .pinned] true (true, "953fbb034abf9c31bb50c9f8aca8c19778de9ea0b13e3033be8e996a36b93d88") true row_holds (fun _ h => by cases h) (by kernel_rfl) (fun _ h => by cases h) fnLocked_row_tie rfl ⟨rfl, rfl⟩ (by kernel_rfl) rfl
    (fun f fn hf hfn => by
      obtain rfl : f = 6 := Option.some.inj ((show Tryz.prog.funcNamed Rows.fnLockedRow.func = some 6 by kernel_rfl).symm.trans hf) |>.symm
      obtain rfl : fn = Tryz.f6 := (Option.some.inj (Tryz.func6.symm.trans hfn)).symm
      exact ⟨by kernel_rfl, fun j t ht => by
        rw [Tryz.params6] at ht
        have hm : t ∈ [22] := by simpa using Array.mem_of_getElem? ht
        have hall : ([22].all fun u => !Tryz.prog.wantsStandIn u) = true := by kernel_rfl
        exact (show Tryz.prog.wantsStandIn t = false by simpa using List.all_eq_true.1 hall t hm)⟩)
    (by kernel_rfl)
end Go.Proofs.YtniakiefibpgmaaGreatDoor
