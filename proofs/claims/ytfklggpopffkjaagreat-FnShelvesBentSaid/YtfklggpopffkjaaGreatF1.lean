/- What the functions come to. -/
import Derived.Test.YtfklggpopffkjaaGreatF0
set_option linter.unusedVariables false
set_option linter.unusedSimpArgs false
namespace Go.Proofs.YtfklggpopffkjaaGreatK
open Go.RowKit
abbrev rB (t : Bool) : Option (List (Option Ob) × RV) := some ([], .one (.fz (.b t)))
abbrev rI (n : Int) : Option (List (Option Ob) × RV) := some ([], .one (.fz (.i .i64 n)))
abbrev rS (s : List UInt8) : Option (List (Option Ob) × RV) := some ([], .one (.fz (.s s)))
abbrev i6 (n : Int) : AV := .d (.i .i64 n)
/-- Comparisons, as they are known to be (with omega). -/
theorem ar : (∀ (a b : Nat), a ≤ b → (a ≤ b) = True) ∧ (∀ (a b : Nat), b < a → (a ≤ b) = False) ∧ (∀ (a b : Nat), a < b → (a < b) = True) ∧ (∀ (a b : Nat), b ≤ a → (a < b) = False) ∧
    (∀ (a b : Int), a ≤ b → (a ≤ b) = True) ∧ (∀ (a b : Int), b < a → (a ≤ b) = False) ∧ (∀ (a b : Int), a < b → (a < b) = True) ∧ (∀ (a b : Int), b ≤ a → (a < b) = False) ∧
    (∀ (n : Int), 0 ≤ n → n ≤ 9223372036854775806 → IntKind.i64.wrap (n + 1) = n + 1) :=
  ⟨fun _ _ => eq_true, fun _ _ h => eq_false (by omega), fun _ _ => eq_true, fun _ _ h => eq_false (by omega), fun _ _ => eq_true, fun _ _ h => eq_false (by omega), fun _ _ => eq_true, fun _ _ h => eq_false (by omega), fun n h1 h2 => wrap_id (by omega) (by omega)⟩
theorem wrI {n : Int} (h1 : -9223372036854775808 ≤ n) (h2 : n ≤ 9223372036854775807) : IntKind.i64.wrap n = n := wrap_id h1 h2
/-- A loop over all. -/
theorem loop_each {X : XF} {c : C} (n : Nat) (st : Nat → St) (q : Ex × St) (hq : q.1 ≠ .n) (h : ∀ i, i < n → DL X c (st i) = some (.n, st (i + 1))) (hx : DL X c (st n) = some q) : DL X (.loop c) (st 0) = some q :=
  loop_rec st (fun _ => some q) (fun i => n - i) (fun i => i ≤ n) (fun i hi => by
    rcases Nat.lt_or_ge i n with h1 | h1
    · exact .inl ⟨i + 1, h i h1, by omega, by omega, rfl⟩
    · obtain rfl : i = n := by omega
      exact .inr ⟨q, hq, hx, rfl⟩) 0 (Nat.zero_le n)
theorem drop_cons {α : Type} {l : List α} {i : Nat} (h : i < l.length) : l.drop i = l[i] :: l.drop (i + 1) := List.drop_eq_getElem_cons h
/-- A loop that looks for one. -/
theorem loop_find {X : XF} {c : C} {α : Type} (l : List α) (p : α → Bool) (st : Nat → St) (qr : Nat → Ex × St) (qx : Ex × St) (hr : ∀ i, (qr i).1 ≠ .n) (hq : qx.1 ≠ .n)
    (h : ∀ i (hi : i < l.length), DL X c (st i) = if p l[i] = true then some (qr i) else some (.n, st (i + 1))) (hx : DL X c (st l.length) = some qx) :
    DL X (.loop c) (st 0) = match l.findIdx? p with | some i => some (qr i) | none => some qx := by
  have key := loop_rec st (fun i => match (l.drop i).findIdx? p with | some k => some (qr (i + k)) | none => some qx) (fun i => l.length - i) (fun i => i ≤ l.length) (fun i hi => by
    rcases Nat.lt_or_ge i l.length with h1 | h1
    · have := h i h1
      rw [drop_cons h1, List.findIdx?_cons]
      cases hp : p l[i]
      · rw [hp, if_neg (by simp)] at this
        refine .inl ⟨i + 1, this, by omega, by omega, ?_⟩
        cases (l.drop (i + 1)).findIdx? p with
        | none => rfl
        | some k => simp only [Bool.false_eq_true, if_false, Option.map_some, show i + 1 + k = i + (k + 1) by omega]
      · rw [hp, if_pos rfl] at this
        exact .inr ⟨qr i, hr i, this, by simp⟩
    · obtain rfl : i = l.length := by omega
      exact .inr ⟨qx, hq, hx, by simp⟩) 0 (Nat.zero_le _)
  simp only [List.drop_zero, Nat.zero_add] at key
  exact key
/-- A loop that looks whether all are so. -/
theorem loop_all {X : XF} {c : C} {α : Type} (l : List α) (p : α → Bool) (st : Nat → St) (qr qx : Ex × St) (hr : qr.1 ≠ .n) (hq : qx.1 ≠ .n)
    (h : ∀ i (hi : i < l.length), DL X c (st i) = if p l[i] = true then some (.n, st (i + 1)) else some qr) (hx : DL X c (st l.length) = some qx) :
    DL X (.loop c) (st 0) = if l.all p = true then some qx else some qr := by
  have key := loop_rec st (fun i => if (l.drop i).all p = true then some qx else some qr) (fun i => l.length - i) (fun i => i ≤ l.length) (fun i hi => by
    rcases Nat.lt_or_ge i l.length with h1 | h1
    · have := h i h1
      rw [drop_cons h1, List.all_cons]
      cases hp : p l[i]
      · rw [hp, if_neg (by simp)] at this
        exact .inr ⟨qr, hr, this, by simp⟩
      · rw [hp, if_pos rfl] at this
        exact .inl ⟨i + 1, this, by omega, by omega, by simp⟩
    · obtain rfl : i = l.length := by omega
      exact .inr ⟨qx, hq, hx, by simp⟩) 0 (Nat.zero_le _)
  simp only [List.drop_zero] at key
  exact key
/-- A loop that gathers: what is gathered of a list behind one element more. -/
theorem take_snoc {α : Type} {l : List α} {i : Nat} (h : i < l.length) : l.take (i + 1) = l.take i ++ [l[i]] := by
  rw [List.take_add_one, List.getElem?_eq_getElem h]; rfl
theorem get_some {α : Type} {l : List α} {i : Nat} (h : i < l.length) : l[i]? = some l[i] := List.getElem?_eq_getElem h
@[simp] theorem natneg (n : Nat) : ((n : Int) < 0) = False := by simp
end Go.Proofs.YtfklggpopffkjaaGreatK
