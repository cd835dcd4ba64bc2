/- What the functions come to. -/
import Derived.Test.YtfklggpopffkjaaGreatF3
set_option linter.unusedVariables false
set_option linter.unusedSimpArgs false
namespace Go.Proofs.YtfklggpopffkjaaGreatK
open Go.RowKit
/-- The first of i .. i + k - 1 that is so. -/
def firstFrom (p : Nat → Bool) : Nat → Nat → Option Nat
  | 0, _ => none
  | k + 1, i => if p i = true then some i else firstFrom p k (i + 1)
def firstI (n : Nat) (p : Nat → Bool) : Option Nat := firstFrom p n 0
theorem firstFrom_some {p : Nat → Bool} : ∀ {k i j : Nat}, firstFrom p k i = some j → i ≤ j ∧ j < i + k ∧ p j = true ∧ ∀ x, i ≤ x → x < j → p x = false
  | 0, _, _, h => by simp [firstFrom] at h
  | k + 1, i, j, h => by
    simp only [firstFrom] at h
    split at h
    · rename_i hp; obtain rfl := Option.some.inj h
      exact ⟨Nat.le_refl _, by omega, hp, fun x h1 h2 => by omega⟩
    · rename_i hp
      obtain ⟨h1, h2, h3, h4⟩ := firstFrom_some h
      exact ⟨by omega, by omega, h3, fun x q1 q2 => by
        rcases Nat.eq_or_lt_of_le q1 with e | e
        · subst e; simpa using hp
        · exact h4 x e q2⟩
theorem firstFrom_none {p : Nat → Bool} : ∀ {k i : Nat}, firstFrom p k i = none → ∀ x, i ≤ x → x < i + k → p x = false
  | 0, _, _, x, _, _ => by omega
  | k + 1, i, h, x, q1, q2 => by
    simp only [firstFrom] at h
    split at h
    · cases h
    · rename_i hp
      rcases Nat.eq_or_lt_of_le q1 with e | e
      · subst e; simpa using hp
      · exact firstFrom_none h x e (by omega)
theorem firstFrom_of {p : Nat → Bool} : ∀ {k i : Nat}, (∀ x, i ≤ x → x < i + k → p x = false) → firstFrom p k i = none
  | 0, _, _ => rfl
  | k + 1, i, h => by
    simp only [firstFrom]
    rw [if_neg (by rw [h i (Nat.le_refl _) (by omega)]; simp)]
    exact firstFrom_of fun x q1 q2 => h x (by omega) (by omega)
theorem firstI_some {n : Nat} {p : Nat → Bool} {i : Nat} (h : firstI n p = some i) : i < n ∧ p i = true ∧ ∀ j, j < i → p j = false := by
  obtain ⟨_, h2, h3, h4⟩ := firstFrom_some h
  exact ⟨by omega, h3, fun j hj => h4 j (Nat.zero_le _) hj⟩
theorem firstI_none {n : Nat} {p : Nat → Bool} (h : firstI n p = none) : ∀ i, i < n → p i = false := fun i hi => firstFrom_none h i (Nat.zero_le _) (by omega)
theorem firstI_of {n : Nat} {p : Nat → Bool} (h : ∀ i, i < n → p i = false) : firstI n p = none := firstFrom_of fun x _ q => h x (by omega)
theorem firstI_eq {n : Nat} {p : Nat → Bool} {i : Nat} (hi : i < n) (hp : p i = true) (h : ∀ j, j < i → p j = false) : firstI n p = some i := by
  cases e : firstI n p with
  | none => rw [firstI_none e i hi] at hp; cases hp
  | some j =>
    obtain ⟨q1, q2, q3⟩ := firstI_some e
    rcases Nat.lt_trichotomy i j with l | l | l
    · rw [q3 i l] at hp; cases hp
    · rw [l]
    · rw [h j l] at q2; cases q2
theorem firstI_congr {n : Nat} {p q : Nat → Bool} (h : ∀ i, i < n → p i = q i) : firstI n p = firstI n q := by
  cases e : firstI n q with
  | none => exact firstI_of fun i hi => by rw [h i hi]; exact firstI_none e i hi
  | some j =>
    obtain ⟨q1, q2, q3⟩ := firstI_some e
    exact firstI_eq q1 (by rw [h j q1]; exact q2) fun x hx => by rw [h x (by omega)]; exact q3 x hx
/-- A loop that goes on up to the first that is so. -/
theorem loop_firstI {X : XF} {c : C} (n : Nat) (p : Nat → Bool) (st : Nat → St) (qr : Nat → Ex × St) (qx : Ex × St) (hr : ∀ i, (qr i).1 ≠ .n) (hq : qx.1 ≠ .n)
    (h : ∀ i, i < n → DL X c (st i) = if p i = true then some (qr i) else some (.n, st (i + 1))) (hx : DL X c (st n) = some qx) :
    DL X (.loop c) (st 0) = match firstI n p with | some i => some (qr i) | none => some qx := by
  have key := loop_rec (X := X) (c := c) st (fun i => match firstFrom p (n - i) i with | some k => some (qr k) | none => some qx) (fun i => n - i) (fun i => i ≤ n) (fun i hi => by
    rcases Nat.lt_or_ge i n with h1 | h1
    · have := h i h1
      rw [show n - i = (n - (i + 1)) + 1 by omega]
      simp only [firstFrom]
      cases hp : p i
      · rw [hp, if_neg (by simp)] at this
        exact .inl ⟨i + 1, this, by omega, by omega, by simp⟩
      · rw [hp, if_pos rfl] at this
        exact .inr ⟨qr i, hr i, this, by simp⟩
    · obtain rfl : i = n := by omega
      exact .inr ⟨qx, hq, hx, by simp [firstFrom]⟩) 0 (Nat.zero_le _)
  simp only [Nat.sub_zero] at key
  exact key
/-- Each of a list, with its place. -/
def eachB {α : Type} (f : Nat → α → Bool) (l : List α) : Bool := (firstI l.length fun i => match l[i]? with | some x => !f i x | none => false).isNone
theorem eachB_iff {α : Type} {f : Nat → α → Bool} {l : List α} : eachB f l = true ↔ ∀ i (h : i < l.length), f i l[i] = true := by
  unfold eachB
  rw [Option.isNone_iff_eq_none]
  constructor
  · intro h i hi
    have := firstI_none h i hi
    rw [get_some hi] at this
    simpa using this
  · intro h
    refine firstI_of fun i hi => ?_
    rw [get_some hi]
    simp [h i hi]
theorem loop_eachB {X : XF} {c : C} {α : Type} (l : List α) (f : Nat → α → Bool) (st : Nat → St) (qr qx : Ex × St) (hr : qr.1 ≠ .n) (hq : qx.1 ≠ .n)
    (h : ∀ i (hi : i < l.length), DL X c (st i) = if f i l[i] = true then some (.n, st (i + 1)) else some qr) (hx : DL X c (st l.length) = some qx) :
    DL X (.loop c) (st 0) = if eachB f l = true then some qx else some qr := by
  rw [loop_firstI l.length (fun i => match l[i]? with | some x => !f i x | none => false) st (fun _ => qr) qx (fun _ => hr) hq (fun i hi => by
    rw [h i hi, get_some hi]
    cases hf : f i l[i] <;> simp [hf]) hx]
  unfold eachB
  cases firstI l.length (fun i => match l[i]? with | some x => !f i x | none => false) <;> simp
/-- Is it so with the one ahead? -/
def prevB {α : Type} (r : α → α → Bool) (l : List α) (i : Nat) (x : α) : Bool := if 0 < i then (match l[i - 1]? with | some y => r y x | none => false) else true
theorem prevB_pos {α : Type} {r : α → α → Bool} {l : List α} {i : Nat} {x : α} (h : 0 < i) (hi : i - 1 < l.length) : prevB r l i x = r l[i - 1] x := by
  unfold prevB; rw [if_pos h, get_some hi]
theorem prevB_zero {α : Type} {r : α → α → Bool} {l : List α} {i : Nat} {x : α} (h : ¬ 0 < i) : prevB r l i x = true := by
  unfold prevB; rw [if_neg h]
theorem bytesLess_irrefl : ∀ (x : List UInt8), Op.bytesLess x x = false
  | [] => rfl
  | a :: x => by simp [Op.bytesLess, bytesLess_irrefl x]
theorem take_all {α : Type} {q : List α} {i : Nat} (h : q.length = i) : q.take i = q := by rw [← h]; exact List.take_length
theorem take_len {α : Type} {l : List α} {i : Nat} (h : i ≤ l.length) : (l.take i).length = i := by rw [List.length_take]; omega
theorem take_snoc_all {α : Type} {q : List α} {x : α} {i : Nat} (h : q.length = i) : (q ++ [x]).take (i + 1) = q ++ [x] := List.take_of_length_le (by simp [h])
/-- A fold that may fail. -/
def goM {S α : Type} (f : S → α → Option S) : S → List α → Option S
  | s, [] => some s
  | s, x :: l => (f s x).bind fun s' => goM f s' l
theorem loop_goM {X : XF} {c : C} {α S : Type} (l : List α) (f : S → α → Option S) (P : Nat → S → Prop) (st : Nat → S → St) (qr : Ex × St) (qx : S → Ex × St) (hr : qr.1 ≠ .n) (hq : ∀ s, (qx s).1 ≠ .n)
    (h : ∀ i (hi : i < l.length) s, P i s → DL X c (st i s) = match f s l[i] with | some s' => some (.n, st (i + 1) s') | none => some qr)
    (hP : ∀ i (hi : i < l.length) s s', P i s → f s l[i] = some s' → P (i + 1) s')
    (hx : ∀ s, P l.length s → DL X c (st l.length s) = some (qx s)) (s : S) (h0 : P 0 s) :
    DL X (.loop c) (st 0 s) = match goM f s l with | some s' => some (qx s') | none => some qr := by
  have key := loop_rec (X := X) (c := c) (fun p : Nat × S => st p.1 p.2) (fun p => match goM f p.2 (l.drop p.1) with | some s' => some (qx s') | none => some qr) (fun p => l.length - p.1) (fun p => p.1 ≤ l.length ∧ P p.1 p.2) (fun p hp => by
    obtain ⟨i, s⟩ := p
    obtain ⟨hi, hs⟩ := hp
    simp only at hi hs ⊢
    rcases Nat.lt_or_ge i l.length with h1 | h1
    · have e := h i h1 s hs
      rw [drop_cons h1]
      simp only [goM]
      cases hf : f s l[i] with
      | none =>
        rw [hf] at e
        exact .inr ⟨qr, hr, e, rfl⟩
      | some s' =>
        rw [hf] at e
        exact .inl ⟨(i + 1, s'), e, ⟨h1, hP i h1 s s' hs hf⟩, by simp only; omega, rfl⟩
    · obtain rfl : i = l.length := by omega
      refine .inr ⟨qx s, hq s, hx s hs, ?_⟩
      simp [goM]) (0, s) ⟨Nat.zero_le _, h0⟩
  simpa using key
end Go.Proofs.YtfklggpopffkjaaGreatK
