/- The program Fresh returns what the reference Fresh returns, whatever the two servers; no condition. -/
import Derived.Test.YtmccpbabpnffcaaRows
import Derived.Test.YtmccpbabpnffcaaL4
set_option linter.unusedVariables false
set_option linter.unusedSimpArgs false
namespace Go.Proofs.YtmccpbabpnffcaaK
open Go.ChangeShapes Go.WideShapes Go.ChangeAt Go.RowKit Go.Proofs.Ytmccpbabpnffcaa
theorem own : ownKnob Try.prog.godebug = none := by kernel_rfl
theorem laidOut : laidOutB Try.prog = true := by kernel_rfl
theorem mixed : Try.prog.follows .mixedOrders = true := by kernel_rfl

theorem tab_ok : tabL.all (fun q => okFn Try.prog q.1 q.2 && !q.2.own) = true := by kernel_rfl
theorem klook_mem {α : Type} : ∀ {l : List (Nat × α)} {k : Nat} {v : α}, klook l k = some v → (k, v) ∈ l
  | [], _, _, h => by simp [klook] at h
  | (a, u) :: l, k, v, h => by
    simp only [klook] at h
    split at h
    · rename_i e; subst e; obtain rfl := Option.some.inj h; simp
    · simp [klook_mem h]
theorem V_ok {f : Nat} {ds : List DA} {r : Bool × RV} (h : V f ds = some r) : Ctr Try.prog f ds r :=
  evL_ok tab noE mixed (fun f fn hf => by
    have := List.all_eq_true.1 tab_ok (f, fn) (klook_mem hf)
    simpa using this) (fun f ds r h => by cases h) h
theorem calls_true {f : Nat} {ds : List DA} (h : V f ds = some (false, .one (.b true))) {w : World} {vs : List Value} (hv : RegsOK w (Old w) (fun _ => none) (fun _ _ => False) [] vs (DA.avL ds)) :
    Calls Try.prog f vs.toArray w fun e w' => e = .returned (.bool true) ∧ Below w.heap.size w w' :=
  ((V_ok h).2 w (Old w) vs (fun x hx => hx) hv).mono fun e w' ⟨v, he, hb, hr⟩ => by
    simp only [Bool.false_eq_true, if_false, RetRd, RV.av, RegOK] at hr
    cases hr
    exact ⟨he, hb⟩
end Go.Proofs.YtmccpbabpnffcaaK
namespace Go.Proofs.Ytmccpbabpnffcaa
open Go.ChangeShapes Go.WideShapes Go.ChangeAt Go.RowKit Go.Proofs.YtmccpbabpnffcaaK
set_option maxRecDepth 100000 in
theorem f_lifted (os : Os) (started : os.Started) (H : Type) (enc : TypeId × Value → H) :
    ReturnsInHanded {} Try.checked os 4 .any (Rows.fnExactFreshSpec.pre6 enc Try.prog Try.f4 Rows.fnExactFreshRow.domain false) (Rows.fnExactFreshSpec.post enc Try.prog Try.f4 false true false false) := by
  refine returnsInHanded_of_change (C := Try.checked) own started (by kernel_rfl) Try.func4
    (ChangeSpec.witness6 (enc := enc) (C := Try.checked) false ⟨#[], #[.agg #[.slice none 0 0, .slice none 0 0, .int .i64 0, .int .i64 0, .slice none 0 0, .slice none 0 0], .agg #[.slice none 0 0, .slice none 0 0, .int .i64 0, .int .i64 0, .slice none 0 0, .slice none 0 0]], []⟩ 8 (by kernel_rfl) (by kernel_rfl) (by kernel_rfl) (by kernel_rfl)) ?_
  intro W base args ds gs before hval0 hW hcnd _
  have hval : ∀ (j : Nat) t v, Try.f4.params[j]? = some t → args[j]? = some v → Value.okWide Try.prog W .any base t v := hval0
  obtain ⟨p, q, hA0, hV, rfl, hfz, hnd⟩ := id hW
  have hA : DataW.TrodAll enc Try.prog W 0 (fun _ => true) true Try.f4.params.toList args.toList ds p := hA0
  rw [Try.params4] at hA hval
  obtain ⟨v0, v1, d0, d1, p0, p1, rfl, rfl, rfl, h0, h1⟩ := trodAll_two hA
  obtain ⟨ds0, t0, r0⟩ := arg_struct (Try.underlying37) (hval 0 37 v0 rfl rfl) h0 (cts := ctSrv) (k := 16) (by kernel_rfl)
  obtain ⟨ds1, t1, r1⟩ := arg_struct (Try.underlying37) (hval 1 37 v1 rfl rfl) h1 (cts := ctSrv) (k := 16) (by kernel_rfl)
  refine (calls_true (e4 ds0 ds1 t0 t1) (vs := [v0, v1]) (by simp only [DA.avL, RegsOK]; exact ⟨r0, r1, trivial⟩)).mono fun e W' ⟨he, hbel⟩ => ?_
  subst he
  exact ⟨_, rfl, post_true hW rfl (fun ds' h => by
    match ds', h with
    | [x, y], _ => rfl) (tb := 4) (by kernel_rfl) Try.underlying4 laidOut (by kernel_rfl) hbel⟩
theorem f_holds : Rows.FnExactFreshSaid :=
  OpenClaim.holds_of_wide 4 Try.f4 rfl rfl rfl rfl rfl rfl rfl ⟨rfl, rfl, rfl, rfl, rfl⟩ rfl rfl rfl rfl rfl (by kernel_rfl) Try.func4 (by kernel_rfl)
    (of_decide_eq_true (by kernel_rfl)) (by unfold Func.isWrapper; first | (rw [if_pos (by decide +kernel)]; kernel_rfl) | (rw [if_neg (by decide +kernel)]; exact ⟨rfl, rfl⟩))
    (fun os started H enc _ => f_lifted os started H enc)
end Go.Proofs.Ytmccpbabpnffcaa
