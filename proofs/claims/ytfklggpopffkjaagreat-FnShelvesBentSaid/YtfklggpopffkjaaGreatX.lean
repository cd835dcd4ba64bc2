/- The library's functions: what is reckoned of them is what they give back. -/
import Derived.Test.YtfklggpopffkjaaGreatF22
import Derived.Test.YtfklggpopffkjaaGreatShelf
set_option linter.unusedVariables false
set_option linter.unusedSimpArgs false
namespace Go.Proofs.YtfklggpopffkjaaGreatK
open Go.RowKit
def gl0 : Globs := ⟨0, fun _ => True, fun _ _ _ _ => trivial⟩
theorem gl_size {w : World} (h : gl0.G w) : gl0.B ≤ w.heap.size := Nat.zero_le _
theorem ext_ctr {f : Nat} {as' : List AV} {x : D} (hfn : ∃ fn, Tryz.prog.funcs[f]? = some fn ∧ (fn.name == "runtime.NumGoroutine") = false ∧ fn.body.isNone = false)
    (h : ∀ (w : World) (ok : Nat → Prop) (loc : Nat → Option (Nat × Nat × Nat)) (So : Nat → Nat → Prop) (vs : List Value), gl0.G w → (∀ b, ok b → b < w.heap.size) → RegsOK w ok loc So [] vs as' → Calls Tryz.prog f vs.toArray w fun e w' => ∃ v, e = .returned v ∧ Below w.heap.size w w' ∧ ∀ ok', Rd w' ok' v x) :
    Ctr Tryz.prog gl0 f as' [] ([], .one (.fz x)) := by
  refine ⟨hfn, fun w ok own loc So vs hG _ _ hent => (h w ok loc So vs hG (fun b hb => (hent.okl b hb).1) hent.regs).mono fun e w' ⟨v, he, hb, hr⟩ => ⟨v, fun _ _ => False, fun _ _ => False, [v], he, ?_⟩⟩
  refine ⟨Keep.of_below hb, rfl, fun k x hx => hx.elim, fun k k' x hx => hx.elim, fun j x hx => hx.elim, fun j j' x hx => hx.elim, fun k ob hk => by simp at hk, by simp only [Shape], fun j u c hu hc => ?_⟩
  cases j with
  | succ j => simp at hu
  | zero =>
    simp only [List.getElem?_cons_zero, Option.some.injEq, RV.cells] at hu hc
    subst hu hc
    exact hr _
theorem rd_s {w : World} {ok : Nat → Prop} {v : Value} {l : List UInt8} (h : Rd w ok v (.s l)) : v = .string ⟨l.toArray⟩ := by
  cases h; rfl
theorem rd_u {w : World} {ok : Nat → Prop} {v : Value} {b : UInt8} (h : Rd w ok v (.u b)) : v = .int .u8 b.toNat := by
  cases h; rfl
theorem regs_two {w : World} {ok : Nat → Prop} {loc : Nat → Option (Nat × Nat × Nat)} {So : Nat → Nat → Prop} {objs : List (Nat × Ob)} {vs : List Value} {a b : D} (h : RegsOK w ok loc So objs vs [.d a, .d b]) : ∃ u v, vs = [u, v] ∧ Rd w ok u a ∧ Rd w ok v b := by
  match vs, h with
  | [u, v], h => simp only [RegsOK, RegOK] at h; exact ⟨u, v, rfl, h.1, h.2.1⟩
  | [], h => simp only [RegsOK] at h
  | [_], h => simp only [RegsOK] at h; exact h.2.elim
  | _ :: _ :: _ :: _, h => simp only [RegsOK] at h; exact h.2.2.elim
theorem indexB : ∀ (l : List UInt8) (c : UInt8), Lib.indexByte l c = if l.contains c then (l.findIdx (· == c) : Int) else -1
  | [], c => rfl
  | b :: l, c => by
    have ih := indexB l c
    simp only [Lib.indexByte, List.contains_cons, List.findIdx_cons]
    by_cases h : b = c
    · subst h; simp
    · have h1 : (b == c) = false := by simpa using h
      have h2 : (c == b) = false := by simpa using Ne.symm h
      rw [ih, h1, h2]
      cases hc : l.contains c <;> simp
theorem x_strings_Contains_c {l : List AV} {r : List (Option Ob) × RV} (h : x_strings_Contains_e l = some r) : Ctr Tryz.prog gl0 x_strings_Contains l [] r := by
  unfold x_strings_Contains_e at h
  split at h
  case h_2 => cases h
  rename_i a c
  obtain rfl := Option.some.inj h
  refine ext_ctr ⟨_, Tryz.func153, by kernel_rfl, by kernel_rfl⟩ (fun w ok loc So vs hG hok hr => ?_)
  obtain ⟨u, v, rfl, h1, h2⟩ := regs_two hr
  obtain rfl := rd_s h1
  obtain rfl := rd_s h2
  refine (Tryz.strings_Contains_one ⟨a.toArray⟩ c w).mono fun e w' ⟨he, hw⟩ => ⟨_, he, by rw [hw]; exact Below.refl _ _, fun ok' => ?_⟩
  have e : decide (0 ≤ Lib.indexByte a c) = a.contains c := by
    rw [indexB]
    cases a.contains c <;> simp
  rw [e]
  exact .b _
theorem ext_ok (f : Nat) (l : List AV) (obs : List Ob) (r : List (Option Ob) × RV) (h : extE f l obs = some r) : Ctr Tryz.prog gl0 f l obs r := by
  unfold extE at h
  split at h
  · by_cases h0 : f = x_strings_Contains
    · rw [if_pos h0] at h; subst h0; exact x_strings_Contains_c h
    rw [if_neg h0] at h
    cases h
  · cases h
end Go.Proofs.YtfklggpopffkjaaGreatK
