/- The library's functions: what is reckoned of them is what they give back. -/
import Derived.Test.YtfklggpopffkjaaDoorF13
import Derived.Test.YtfklggpopffkjaaDoorShelf
import Derived.Shelf.Strings.SlTrimAscii
set_option linter.unusedVariables false
set_option linter.unusedSimpArgs false
namespace Go.Proofs.YtfklggpopffkjaaDoorK
open Go.RowKit
noncomputable def gPow : Nat := (Tryd.prog.globalNamed "internal/strconv.uint64pow10").getD 0
theorem gPow_eq : Tryd.prog.globalNamed "internal/strconv.uint64pow10" = some gPow := by unfold gPow; kernel_rfl
theorem pow_lt {w : World} (h : Lib.TabIs Tryd.prog w "internal/strconv.uint64pow10" .u64 Lib.pow10Tab) : gPow < w.heap.size := by
  unfold Lib.TabIs World.var? at h
  rw [gPow_eq] at h
  simp only [Option.bind_some] at h
  rcases Nat.lt_or_ge gPow w.heap.size with q | q
  · exact q
  · rw [Array.getElem?_eq_none q] at h; cases h
noncomputable def gl0 : Globs := ⟨gPow + 1, fun w => Lib.TabIs Tryd.prog w "internal/strconv.uint64pow10" .u64 Lib.pow10Tab, fun w w' h hb => by
  unfold Lib.TabIs World.var? at h ⊢
  rw [gPow_eq] at h ⊢
  simp only [Option.bind_some] at h ⊢
  rw [hb.block gPow (Nat.lt_succ_self _)]
  exact h⟩
theorem G_pow {w : World} (h : gl0.G w) : Lib.TabIs Tryd.prog w "internal/strconv.uint64pow10" .u64 Lib.pow10Tab := h
theorem gl_size {w : World} (h : gl0.G w) : gl0.B ≤ w.heap.size := pow_lt h
theorem below_gr (w : World) (q : Nat) (os : Array Obj) : Below w.heap.size w (Go.Sort.grow (w.drewN q) os) :=
  ⟨rfl, rfl, rfl, by show w.heap.size ≤ (w.heap ++ os).size; rw [Array.size_append]; exact Nat.le_add_right _ _, fun k hk => by
    show (w.heap ++ os)[k]? = w.heap[k]?
    exact Array.getElem?_append_left hk⟩
theorem ext_ctr {f : Nat} {as' : List AV} {x : D} (hfn : ∃ fn, Tryd.prog.funcs[f]? = some fn ∧ (fn.name == "runtime.NumGoroutine") = false ∧ fn.body.isNone = false)
    (h : ∀ (w : World) (ok : Nat → Prop) (loc : Nat → Option (Nat × Nat × Nat)) (So : Nat → Nat → Prop) (vs : List Value), gl0.G w → (∀ b, ok b → b < w.heap.size) → RegsOK w ok loc So [] vs as' → Calls Tryd.prog f vs.toArray w fun e w' => ∃ v, e = .returned v ∧ Below w.heap.size w w' ∧ ∀ ok', Rd w' ok' v x) :
    Ctr Tryd.prog gl0 f as' [] ([], .one (.fz x)) := by
  refine ⟨hfn, fun w ok own loc So vs hG _ _ hent => (h w ok loc So vs hG (fun b hb => (hent.okl b hb).1) hent.regs).mono fun e w' ⟨v, he, hb, hr⟩ => ⟨v, fun _ _ => False, fun _ _ => False, [v], he, ?_⟩⟩
  refine ⟨Keep.of_below hb, rfl, fun k x hx => hx.elim, fun k k' x hx => hx.elim, fun j x hx => hx.elim, fun j j' x hx => hx.elim, fun k ob hk => by simp at hk, by simp only [Shape], fun j u c hu hc => ?_⟩
  cases j with
  | succ j => simp at hu
  | zero =>
    simp only [List.getElem?_cons_zero, Option.some.injEq, RV.cells] at hu hc
    subst hu hc
    exact hr _
theorem rd_s {w : World} {ok : Nat → Prop} {v : Value} {l : List UInt8} (h : Rd w ok v (.s l)) : v = .string ⟨l.toArray⟩ := by
  cases h; rfl
theorem rd_u {w : World} {ok : Nat → Prop} {v : Value} {b : UInt8} (h : Rd w ok v (.u b)) : v = .int .u8 b.toNat := by
  cases h; rfl
theorem regs_two {w : World} {ok : Nat → Prop} {loc : Nat → Option (Nat × Nat × Nat)} {So : Nat → Nat → Prop} {objs : List (Nat × Ob)} {vs : List Value} {a b : D} (h : RegsOK w ok loc So objs vs [.d a, .d b]) : ∃ u v, vs = [u, v] ∧ Rd w ok u a ∧ Rd w ok v b := by
  match vs, h with
  | [u, v], h => simp only [RegsOK, RegOK] at h; exact ⟨u, v, rfl, h.1, h.2.1⟩
  | [], h => simp only [RegsOK] at h
  | [_], h => simp only [RegsOK] at h; exact h.2.elim
  | _ :: _ :: _ :: _, h => simp only [RegsOK] at h; exact h.2.2.elim
theorem indexB : ∀ (l : List UInt8) (c : UInt8), Lib.indexByte l c = if l.contains c then (l.findIdx (· == c) : Int) else -1
  | [], c => rfl
  | b :: l, c => by
    have ih := indexB l c
    simp only [Lib.indexByte, List.contains_cons, List.findIdx_cons]
    by_cases h : b = c
    · subst h; simp
    · have h1 : (b == c) = false := by simpa using h
      have h2 : (c == b) = false := by simpa using Ne.symm h
      rw [ih, h1, h2]
      cases hc : l.contains c <;> simp
theorem x_strings_Contains_c {l : List AV} {r : List (Option Ob) × RV} (h : x_strings_Contains_e l = some r) : Ctr Tryd.prog gl0 x_strings_Contains l [] r := by
  unfold x_strings_Contains_e at h
  split at h
  case h_2 => cases h
  rename_i a c
  obtain rfl := Option.some.inj h
  refine ext_ctr ⟨_, Tryd.func57, by kernel_rfl, by kernel_rfl⟩ (fun w ok loc So vs hG hok hr => ?_)
  obtain ⟨u, v, rfl, h1, h2⟩ := regs_two hr
  obtain rfl := rd_s h1
  obtain rfl := rd_s h2
  refine (Tryd.strings_Contains_one ⟨a.toArray⟩ c w).mono fun e w' ⟨he, hw⟩ => ⟨_, he, by rw [hw]; exact Below.refl _ _, fun ok' => ?_⟩
  have e : decide (0 ≤ Lib.indexByte a c) = a.contains c := by
    rw [indexB]
    cases a.contains c <;> simp
  rw [e]
  exact .b _
theorem regs_one {w : World} {ok : Nat → Prop} {loc : Nat → Option (Nat × Nat × Nat)} {So : Nat → Nat → Prop} {objs : List (Nat × Ob)} {vs : List Value} {a : D} (h : RegsOK w ok loc So objs vs [.d a]) : ∃ u, vs = [u] ∧ Rd w ok u a := by
  match vs, h with
  | [u], h => simp only [RegsOK, RegOK] at h; exact ⟨u, rfl, h.1⟩
  | [], h => simp only [RegsOK] at h
  | _ :: _ :: _, h => simp only [RegsOK] at h; exact h.2.elim
theorem x_strconv_Itoa_c {l : List AV} {r : List (Option Ob) × RV} (h : x_strconv_Itoa_e l = some r) : Ctr Tryd.prog gl0 x_strconv_Itoa l [] r := by
  unfold x_strconv_Itoa_e at h
  split at h
  case h_2 => cases h
  rename_i n
  split at h
  case isFalse => cases h
  rename_i hc
  obtain rfl := Option.some.inj h
  refine ext_ctr ⟨_, Tryd.func47, by kernel_rfl, by kernel_rfl⟩ (fun w ok loc So vs hG hok hr => ?_)
  obtain ⟨u, rfl, h1⟩ := regs_one hr
  cases h1
  refine (Tryd.strconv_Itoa n (by omega) (by omega) w (G_pow hG)).mono fun e w' ⟨he, k, os, hw⟩ => ⟨_, he, by rw [hw]; exact below_gr w k os, fun ok' => ?_⟩
  rw [Lib.itoa, if_neg (by omega)]
  exact .s _
theorem trimS_eq (s : List UInt8) : Lib.trimS s [32, 9] = trimL (trimR s) := by
  have e : (([32, 9] : List UInt8).contains ·) = blankB := by
    funext b
    simp only [blankB, List.contains_cons, List.contains_nil, Bool.or_false]
  unfold Lib.trimS Lib.trimLeftS Lib.trimRightS trimL trimR trimL
  rw [e]
theorem x_strings_Trim_c {l : List AV} {r : List (Option Ob) × RV} (h : x_strings_Trim_e l = some r) : Ctr Tryd.prog gl0 x_strings_Trim l [] r := by
  unfold x_strings_Trim_e at h
  split at h
  case h_2 => cases h
  rename_i a c
  split at h
  case isFalse => cases h
  rename_i hc
  obtain ⟨rfl, hs⟩ := hc
  obtain rfl := Option.some.inj h
  refine ext_ctr ⟨_, Tryd.func72, by kernel_rfl, by kernel_rfl⟩ (fun w ok loc So vs hG hok hr => ?_)
  obtain ⟨u, v, rfl, h1, h2⟩ := regs_two hr
  obtain rfl := rd_s h1
  obtain rfl := rd_s h2
  refine (Any.strings_Trim_laid Tryd.lays160 (by kernel_rfl) ⟨a.toArray⟩ ⟨([32, 9] : List UInt8).toArray⟩ w (show a.toArray.size ≤ 9223372036854775807 by simpa using hs) (by decide) (ascii_of_all (by decide))).mono fun e w' ⟨he, hw⟩ => ⟨_, he, hw, fun ok' => ?_⟩
  rw [show (⟨a.toArray⟩ : ByteArray).data.toList = a from rfl, show (⟨([32, 9] : List UInt8).toArray⟩ : ByteArray).data.toList = [32, 9] from rfl, trimS_eq]
  exact .s _
theorem ext_ok (f : Nat) (l : List AV) (obs : List Ob) (r : List (Option Ob) × RV) (h : extE f l obs = some r) : Ctr Tryd.prog gl0 f l obs r := by
  unfold extE at h
  split at h
  · by_cases h0 : f = x_strings_Contains
    · rw [if_pos h0] at h; subst h0; exact x_strings_Contains_c h
    rw [if_neg h0] at h
    by_cases h0 : f = x_strconv_Itoa
    · rw [if_pos h0] at h; subst h0; exact x_strconv_Itoa_c h
    rw [if_neg h0] at h
    by_cases h0 : f = x_strings_Trim
    · rw [if_pos h0] at h; subst h0; exact x_strings_Trim_c h
    rw [if_neg h0] at h
    cases h
  · cases h
end Go.Proofs.YtfklggpopffkjaaDoorK
