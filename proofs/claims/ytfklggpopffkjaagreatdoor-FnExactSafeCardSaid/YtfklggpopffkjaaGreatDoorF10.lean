/- What the functions come to. -/
import Derived.Test.YtfklggpopffkjaaGreatDoorF9
set_option linter.unusedVariables false
set_option linter.unusedSimpArgs false
namespace Go.Proofs.YtfklggpopffkjaaGreatDoorK
open Go.RowKit
abbrev lockA (x : LockD) : AV := .agg [i6 x.1, .d (.sl .str x.2.1), .d (.b x.2.2.1), .d (.b x.2.2.2.1), i6 x.2.2.2.2]
def coversB (x : LockD) (p : PathD) : Bool := decide (x.2.1 = p) || x.2.2.1 && underB p x.2.1
theorem iCovers_ok (x : LockD) (p : PathD) (h : x.2.1.length ≤ 9223372036854775807) : V iCovers [lockA x, .d (.sl .str p)] [] = rB (coversB x p) := by
  rw [V_eq (fn := iCovers_m) (by kernel_rfl)]
  obtain ⟨tok, path, deep, sh, unt⟩ := x
  have e1 := iSamePath_ok path p h
  have e2 := iUnder_ok p path h
  unfold coversB
  simp only at e1 e2 ⊢
  generalize decide (path = p) = b1 at e1 ⊢
  generalize underB p path = b2 at e2 ⊢
  cases b1 <;> cases deep <;> simp -implicitDefEqProofs [iCovers_m, e1, e2]
theorem sCovers_ok (x : LockD) (p : PathD) (h : x.2.1.length ≤ 9223372036854775807) : V sCovers [lockA x, .d (.sl .str p)] [] = rB (coversB x p) := by
  rw [V_eq (fn := sCovers_m) (by kernel_rfl)]
  obtain ⟨tok, path, deep, sh, unt⟩ := x
  have e1 := sSamePath_ok path p h
  have e2 := sUnder_ok p path h
  unfold coversB
  simp only at e1 e2 ⊢
  generalize decide (path = p) = b1 at e1 ⊢
  generalize underB p path = b2 at e2 ⊢
  cases b1 <;> cases deep <;> simp -implicitDefEqProofs [sCovers_m, e1, e2]
def hasB (l : List Int) (n : Int) : Bool := l.any fun x => decide (x = n)
theorem findIdx?_any {α : Type} (l : List α) (p : α → Bool) : l.any p = (l.findIdx? p).isSome := by
  induction l with
  | nil => rfl
  | cons a l ih => rw [List.any_cons, List.findIdx?_cons, ih]; cases p a <;> simp
theorem ihasInt_ok (l : List Int) (n : Int) (h : l.length ≤ 9223372036854775807) : V ihasInt [.d (.sl (.int .i64) l), i6 n] [] = rB (hasB l n) := by
  rw [V_eq (fn := ihasInt_m) (by kernel_rfl)]
  have L := loop_find (X := V) (c := ihasInt_l0) l (fun x => decide (x = n)) (fun i : Nat => ⟨[(9, i6 i), (8, i6 l.length), (7, .d (.sl (.int .i64) l)), (1, i6 n)], []⟩) (fun i => (.ret, ⟨[(4, .d (.b true))], []⟩)) (.ex 0, ⟨[], []⟩) (by simp) (by simp)
    (fun i hi => by by_cases c : l[i] = n <;> simp -implicitDefEqProofs [ihasInt_l0, hi, get_some hi, wrap_succ hi h, c])
    (by simp -implicitDefEqProofs [ihasInt_l0])
  unfold hasB; rw [findIdx?_any]
  cases c : l.findIdx? (fun x => decide (x = n)) <;> simp only [c, Int.natCast_zero] at L <;> simp -implicitDefEqProofs [ihasInt_m, L]
theorem sl13Has_ok (l : List Int) (n : Int) (h : l.length ≤ 9223372036854775807) : V sl13Has [.d (.sl (.int .i64) l), i6 n] [] = rB (hasB l n) := by
  rw [V_eq (fn := sl13Has_m) (by kernel_rfl)]
  have L := loop_find (X := V) (c := sl13Has_l0) l (fun x => decide (x = n)) (fun i : Nat => ⟨[(5, i6 i), (1, i6 n), (0, .d (.sl (.int .i64) l))], []⟩) (fun i => (.ret, ⟨[(4, .d (.b true))], []⟩)) (.ex 0, ⟨[], []⟩) (by simp) (by simp)
    (fun i hi => by by_cases c : l[i] = n <;> simp -implicitDefEqProofs [sl13Has_l0, hi, get_some hi, wrap_succ hi h, c])
    (by simp -implicitDefEqProofs [sl13Has_l0])
  unfold hasB; rw [findIdx?_any]
  cases c : l.findIdx? (fun x => decide (x = n)) <;> simp only [c, Int.natCast_zero] at L <;> simp -implicitDefEqProofs [sl13Has_m, L]
/-- Does a lock stand in the way of one who would turn p (deep: all under it)? -/
def touchesB (p : PathD) (deep : Bool) (x : LockD) : Bool := coversB x p || deep && underB x.2.1 p
/-- One round of MayTurn: none: it may not. -/
def mayStep (p : PathD) (deep : Bool) (tokens : List Int) (s : Bool × Bool) (x : LockD) : Option (Bool × Bool) :=
  if touchesB p deep x = true then (if (!x.2.2.2.1 && !hasB tokens x.1) = true then none else some (s.1 || x.2.2.2.1, s.2 || x.2.2.2.1 && hasB tokens x.1)) else some s
def mayGo (p : PathD) (deep : Bool) (tokens : List Int) : Bool × Bool → List LockD → Option (Bool × Bool)
  | s, [] => some s
  | s, x :: l => (mayStep p deep tokens s x).bind fun s => mayGo p deep tokens s l
def mayB (l : List LockD) (p : PathD) (deep : Bool) (tokens : List Int) : Bool := match mayGo p deep tokens (false, false) l with
  | some s => !s.1 || s.2
  | none => false
/-- A loop over a list that carries something, and may leave. -/
theorem loop_carry {X : XF} {c : C} {α β : Type} (l : List α) (f : β → α → Option β) (st : Nat → β → St) (qr : Ex × St) (qx : β → Ex × St) (hr : qr.1 ≠ .n) (hq : ∀ b, (qx b).1 ≠ .n)
    (h : ∀ i b (hi : i < l.length), DL X c (st i b) = match f b l[i] with | some b' => some (.n, st (i + 1) b') | none => some qr) (hx : ∀ b, DL X c (st l.length b) = some (qx b)) (b : β) :
    DL X (.loop c) (st 0 b) = match l.foldlM f b with | some b' => some (qx b') | none => some qr := by
  have key := loop_rec (fun a : Nat × β => st a.1 a.2) (fun a => match (l.drop a.1).foldlM f a.2 with | some b' => some (qx b') | none => some qr) (fun a => l.length - a.1) (fun a => a.1 ≤ l.length) (fun ⟨i, b⟩ hi => by
    simp only at hi ⊢
    rcases Nat.lt_or_ge i l.length with h1 | h1
    · have := h i b h1
      rw [drop_cons h1, List.foldlM_cons]
      cases hf : f b l[i] with
      | none => rw [hf] at this; exact .inr ⟨qr, hr, this, rfl⟩
      | some b' => rw [hf] at this; exact .inl ⟨(i + 1, b'), this, by simp only; omega, by simp only; omega, rfl⟩
    · obtain rfl : i = l.length := by omega
      exact .inr ⟨qx b, hq b, hx b, by simp⟩) (0, b) (Nat.zero_le _)
  simp only [List.drop_zero] at key
  exact key
theorem mayGo_fold (p : PathD) (deep : Bool) (tokens : List Int) : ∀ (l : List LockD) (s : Bool × Bool), l.foldlM (mayStep p deep tokens) s = mayGo p deep tokens s l
  | [], s => rfl
  | x :: l, s => by rw [List.foldlM_cons, mayGo]; cases mayStep p deep tokens s x with
    | none => rfl
    | some s' => exact mayGo_fold p deep tokens l s'
end Go.Proofs.YtfklggpopffkjaaGreatDoorK
