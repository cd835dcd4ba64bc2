/- The program DepthOf returns what the reference DepthOf returns, whatever the request and the depth; no condition. -/
import Derived.Test.YtmccpbabpnffcaaRows
import Derived.Test.YtmccpbabpnffcaaE3b
import Derived.Test.YtmccpbabpnffcaaK23
set_option linter.unusedVariables false
set_option linter.unusedSimpArgs false
namespace Go.Proofs.YtmccpbabpnffcaaK
open Go.ChangeShapes Go.WideShapes Go.ChangeAt Go.RowKit Go.Proofs.Ytmccpbabpnffcaa
theorem own : ownKnob Try.prog.godebug = none := by kernel_rfl
theorem laidOut : laidOutB Try.prog = true := by kernel_rfl
theorem mixed : Try.prog.follows .mixedOrders = true := by kernel_rfl

theorem tab_ok : tabL.all (fun q => okFn Try.prog q.1 q.2 && !q.2.own) = true := by kernel_rfl
theorem klook_mem {α : Type} : ∀ {l : List (Nat × α)} {k : Nat} {v : α}, klook l k = some v → (k, v) ∈ l
  | [], _, _, h => by simp [klook] at h
  | (a, u) :: l, k, v, h => by
    simp only [klook] at h
    split at h
    · rename_i e; subst e; obtain rfl := Option.some.inj h; simp
    · simp [klook_mem h]
theorem V_ok {f : Nat} {ds : List DA} {r : Bool × RV} (h : V f ds = some r) : Ctr Try.prog f ds r :=
  evL_ok tab noE mixed (fun f fn hf => by
    have := List.all_eq_true.1 tab_ok (f, fn) (klook_mem hf)
    simpa using this) (fun f ds r h => by cases h) h
theorem calls_true {f : Nat} {ds : List DA} (h : V f ds = some (false, .one (.b true))) {w : World} {vs : List Value} (hv : RegsOK w (Old w) (fun _ => none) (fun _ _ => False) [] vs (DA.avL ds)) :
    Calls Try.prog f vs.toArray w fun e w' => e = .returned (.bool true) ∧ Below w.heap.size w w' :=
  ((V_ok h).2 w (Old w) vs (fun x hx => hx) hv).mono fun e w' ⟨v, he, hb, hr⟩ => by
    simp only [Bool.false_eq_true, if_false, RetRd, RV.av, RegOK] at hr
    cases hr
    exact ⟨he, hb⟩
abbrev ctReq : List CT := [.s, .s, .sl [.s, .s], .s]
theorem s_of {x : D} (h : hasT .s x) : ∃ l : Tx, x = .s l ∧ l.length ≤ 9223372036854775807 := by
  cases x <;> simp only [hasT] at h
  exact ⟨_, rfl, h⟩
theorem hds_of : ∀ {es : List (List D)}, (∀ r ∈ es, hasTs [.s, .s] r) → ∃ l : List Hd, es = l.map encH ∧ ∀ h ∈ l, h.1.length ≤ 9223372036854775807 ∧ h.2.length ≤ 9223372036854775807
  | [], _ => ⟨[], rfl, fun h hm => by cases hm⟩
  | r :: es, h => by
    obtain ⟨l, rfl, hl⟩ := hds_of (es := es) fun r hr => h r (by simp [hr])
    have h1 := h r (by simp)
    match r, h1 with
    | [x, y], h1 =>
      simp only [hasTs, and_true] at h1
      obtain ⟨a, rfl, ha⟩ := s_of h1.1
      obtain ⟨b, rfl, hb⟩ := s_of h1.2
      refine ⟨(a, b) :: l, rfl, fun h hm => ?_⟩
      rcases List.mem_cons.1 hm with e | e
      · subst e; exact ⟨ha, hb⟩
      · exact hl h e
theorem req_of {ds : List D} (h : hasTs ctReq ds) : ∃ (a b : Tx) (l : List Hd) (c : Tx), ds = Rq a b l c ∧ a.length ≤ 9223372036854775807 ∧ b.length ≤ 9223372036854775807 ∧ l.length ≤ 9223372036854775807 ∧ ∀ h ∈ l, h.1.length ≤ 9223372036854775807 ∧ h.2.length ≤ 9223372036854775807 := by
  match ds, hasTs_len h, h with
  | [x, y, z, u], _, h =>
    simp only [hasTs, and_true] at h
    obtain ⟨h1, h2, h3, h4⟩ := h
    obtain ⟨a, rfl, ha⟩ := s_of h1
    obtain ⟨b, rfl, hb⟩ := s_of h2
    obtain ⟨c, rfl, hc⟩ := s_of h4
    cases z <;> simp only [hasT] at h3
    obtain ⟨l, rfl, hl⟩ := hds_of h3.2
    exact ⟨a, b, l, c, rfl, ha, hb, by simpa [maxLen] using h3.1, hl⟩
end Go.Proofs.YtmccpbabpnffcaaK
namespace Go.Proofs.Ytmccpbabpnffcaa
open Go.ChangeShapes Go.WideShapes Go.ChangeAt Go.RowKit Go.Proofs.YtmccpbabpnffcaaK
set_option maxRecDepth 100000 in
theorem f_lifted (os : Os) (started : os.Started) (H : Type) (enc : TypeId × Value → H) :
    ReturnsInHanded {} Try.checked os 3 .any (Rows.fnExactDepthOfSpec.pre6 enc Try.prog Try.f3 Rows.fnExactDepthOfRow.domain false) (Rows.fnExactDepthOfSpec.post enc Try.prog Try.f3 false true false false) := by
  refine returnsInHanded_of_change (C := Try.checked) own started (by kernel_rfl) Try.func3
    (ChangeSpec.witness6 (enc := enc) (C := Try.checked) false ⟨#[], #[.agg #[.string ⟨#[]⟩, .string ⟨#[]⟩, .slice none 0 0, .string ⟨#[]⟩], .int .i64 0], []⟩ 8 (by kernel_rfl) (by kernel_rfl) (by kernel_rfl) (by kernel_rfl)) ?_
  intro W base args ds gs before hval0 hW hcnd _
  have hval : ∀ (j : Nat) t v, Try.f3.params[j]? = some t → args[j]? = some v → Value.okWide Try.prog W .any base t v := hval0
  obtain ⟨p, q, hA0, hV, rfl, hfz, hnd⟩ := id hW
  have hA : DataW.TrodAll enc Try.prog W 0 (fun _ => true) true Try.f3.params.toList args.toList ds p := hA0
  rw [Try.params3] at hA hval
  obtain ⟨v0, v1, d0, d1, p0, p1, rfl, rfl, rfl, h0, h1⟩ := trodAll_two hA
  obtain ⟨ds0, t0, r0⟩ := arg_struct (Try.underlying24) (hval 0 24 v0 rfl rfl) h0 (cts := ctReq) (k := 12) (by kernel_rfl)
  obtain ⟨x1, t1, r1⟩ := arg_one (c := .i .i64) (hval 1 3 v1 rfl rfl) h1 (k := 12) (by kernel_rfl) (by rw [Try.underlying3]; simp)
  obtain ⟨a, b, l, c, rfl, ha, hb, hl, hs⟩ := req_of t0
  cases x1 <;> simp only [hasT] at t1
  obtain ⟨rfl, _⟩ := t1
  refine (calls_true (e3 a b l c _ ha hb hl hs) (vs := [v0, v1]) (by simp only [DA.avL, RegsOK]; exact ⟨r0, r1, trivial⟩)).mono fun e W' ⟨he, hbel⟩ => ?_
  subst he
  exact ⟨_, rfl, post_true hW rfl (fun ds' h => by
    match ds', h with
    | [x, y], _ => rfl) (tb := 4) (by kernel_rfl) Try.underlying4 laidOut (by kernel_rfl) hbel⟩
theorem f_holds : Rows.FnExactDepthOfSaid :=
  OpenClaim.holds_of_wide 3 Try.f3 rfl rfl rfl rfl rfl rfl rfl ⟨rfl, rfl, rfl, rfl, rfl⟩ rfl rfl rfl rfl rfl (by kernel_rfl) Try.func3 (by kernel_rfl)
    (of_decide_eq_true (by kernel_rfl)) (by unfold Func.isWrapper; first | (rw [if_pos (by decide +kernel)]; kernel_rfl) | (rw [if_neg (by decide +kernel)]; exact ⟨rfl, rfl⟩))
    (fun os started H enc _ => f_lifted os started H enc)
end Go.Proofs.Ytmccpbabpnffcaa
