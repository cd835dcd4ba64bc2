/- What the functions come to. -/
import Derived.Test.YtniakiefibpgmaaGreatDoorF0
set_option linter.unusedVariables false
set_option linter.unusedSimpArgs false
namespace Go.Proofs.YtniakiefibpgmaaGreatDoorK
open Go.RowKit
abbrev rB (t : Bool) : Option (List (Option Ob) × RV) := some ([], .one (.fz (.b t)))
abbrev rI (n : Int) : Option (List (Option Ob) × RV) := some ([], .one (.fz (.i .i64 n)))
abbrev rS (s : List UInt8) : Option (List (Option Ob) × RV) := some ([], .one (.fz (.s s)))
abbrev i6 (n : Int) : AV := .d (.i .i64 n)
/-- Comparisons, as they are known to be (with omega). -/
theorem ar : (∀ (a b : Nat), a ≤ b → (a ≤ b) = True) ∧ (∀ (a b : Nat), b < a → (a ≤ b) = False) ∧ (∀ (a b : Nat), a < b → (a < b) = True) ∧ (∀ (a b : Nat), b ≤ a → (a < b) = False) ∧
    (∀ (a b : Int), a ≤ b → (a ≤ b) = True) ∧ (∀ (a b : Int), b < a → (a ≤ b) = False) ∧ (∀ (a b : Int), a < b → (a < b) = True) ∧ (∀ (a b : Int), b ≤ a → (a < b) = False) ∧
    (∀ (n : Int), 0 ≤ n → n ≤ 9223372036854775806 → IntKind.i64.wrap (n + 1) = n + 1) :=
  ⟨fun _ _ => eq_true, fun _ _ h => eq_false (by omega), fun _ _ => eq_true, fun _ _ h => eq_false (by omega), fun _ _ => eq_true, fun _ _ h => eq_false (by omega), fun _ _ => eq_true, fun _ _ h => eq_false (by omega), fun n h1 h2 => wrap_id (by omega) (by omega)⟩
theorem wrI {n : Int} (h1 : -9223372036854775808 ≤ n) (h2 : n ≤ 9223372036854775807) : IntKind.i64.wrap n = n := wrap_id h1 h2
/-- A loop over all. -/
theorem loop_each {X : XF} {c : C} (n : Nat) (st : Nat → St) (q : Ex × St) (hq : q.1 ≠ .n) (h : ∀ i, i < n → DL X c (st i) = some (.n, st (i + 1))) (hx : DL X c (st n) = some q) : DL X (.loop c) (st 0) = some q :=
  loop_rec st (fun _ => some q) (fun i => n - i) (fun i => i ≤ n) (fun i hi => by
    rcases Nat.lt_or_ge i n with h1 | h1
    · exact .inl ⟨i + 1, h i h1, by omega, by omega, rfl⟩
    · obtain rfl : i = n := by omega
      exact .inr ⟨q, hq, hx, rfl⟩) 0 (Nat.zero_le n)
theorem drop_cons {α : Type} {l : List α} {i : Nat} (h : i < l.length) : l.drop i = l[i] :: l.drop (i + 1) := List.drop_eq_getElem_cons h
/-- A loop that looks for one. -/
theorem loop_find {X : XF} {c : C} {α : Type} (l : List α) (p : α → Bool) (st : Nat → St) (qr : Nat → Ex × St) (qx : Ex × St) (hr : ∀ i, (qr i).1 ≠ .n) (hq : qx.1 ≠ .n)
    (h : ∀ i (hi : i < l.length), DL X c (st i) = if p l[i] = true then some (qr i) else some (.n, st (i + 1))) (hx : DL X c (st l.length) = some qx) :
    DL X (.loop c) (st 0) = match l.findIdx? p with | some i => some (qr i) | none => some qx := by
  have key := loop_rec st (fun i => match (l.drop i).findIdx? p with | some k => some (qr (i + k)) | none => some qx) (fun i => l.length - i) (fun i => i ≤ l.length) (fun i hi => by
    rcases Nat.lt_or_ge i l.length with h1 | h1
    · have := h i h1
      rw [drop_cons h1, List.findIdx?_cons]
      cases hp : p l[i]
      · rw [hp, if_neg (by simp)] at this
        refine .inl ⟨i + 1, this, by omega, by omega, ?_⟩
        cases (l.drop (i + 1)).findIdx? p with
        | none => rfl
        | some k => simp only [Bool.false_eq_true, if_false, Option.map_some, show i + 1 + k = i + (k + 1) by omega]
      · rw [hp, if_pos rfl] at this
        exact .inr ⟨qr i, hr i, this, by simp⟩
    · obtain rfl : i = l.length := by omega
      exact .inr ⟨qx, hq, hx, by simp⟩) 0 (Nat.zero_le _)
  simp only [List.drop_zero, Nat.zero_add] at key
  exact key
/-- A loop that looks whether all are so. -/
theorem loop_all {X : XF} {c : C} {α : Type} (l : List α) (p : α → Bool) (st : Nat → St) (qr qx : Ex × St) (hr : qr.1 ≠ .n) (hq : qx.1 ≠ .n)
    (h : ∀ i (hi : i < l.length), DL X c (st i) = if p l[i] = true then some (.n, st (i + 1)) else some qr) (hx : DL X c (st l.length) = some qx) :
    DL X (.loop c) (st 0) = if l.all p = true then some qx else some qr := by
  have key := loop_rec st (fun i => if (l.drop i).all p = true then some qx else some qr) (fun i => l.length - i) (fun i => i ≤ l.length) (fun i hi => by
    rcases Nat.lt_or_ge i l.length with h1 | h1
    · have := h i h1
      rw [drop_cons h1, List.all_cons]
      cases hp : p l[i]
      · rw [hp, if_neg (by simp)] at this
        exact .inr ⟨qr, hr, this, by simp⟩
      · rw [hp, if_pos rfl] at this
        exact .inl ⟨i + 1, this, by omega, by omega, by simp⟩
    · obtain rfl : i = l.length := by omega
      exact .inr ⟨qx, hq, hx, by simp⟩) 0 (Nat.zero_le _)
  simp only [List.drop_zero] at key
  exact key
/-- A loop that gathers: what is gathered of a list behind one element more. -/
theorem take_snoc {α : Type} {l : List α} {i : Nat} (h : i < l.length) : l.take (i + 1) = l.take i ++ [l[i]] := by
  rw [List.take_add_one, List.getElem?_eq_getElem h]; rfl
theorem get_some {α : Type} {l : List α} {i : Nat} (h : i < l.length) : l[i]? = some l[i] := List.getElem?_eq_getElem h
@[simp] theorem natneg (n : Nat) : ((n : Int) < 0) = False := by simp
theorem mid_get {α : Type} (pre post : List α) (x : α) : (pre ++ x :: post)[pre.length]? = some x := by simp
theorem mid_set {α : Type} (pre post : List α) (x y : α) : (pre ++ x :: post).set pre.length y = pre ++ y :: post := by simp
mutual
def szN : NodeT → Nat
  | .mk a b c k => a.length + b.length + c.length + k.length + szNs k
def szNs : List NodeT → Nat
  | [] => 0
  | n :: l => szN n + szNs l
end
/-- How much a value holds: letters and elements. -/
def szT : (t : T) → t.den → Nat
  | .int _, _ => 0
  | .u8, _ => 0
  | .bool, _ => 0
  | .str, s => s.length
  | .sl t, l => l.length + (l.map (szT t)).sum
  | .pr a b, x => szT a x.1 + szT b x.2
  | .node, n => szN n
def szL (t : T) (l : List t.den) : Nat := (l.map (szT t)).sum
theorem szL_cons (t : T) (x : t.den) (l : List t.den) : szL t (x :: l) = szT t x + szL t l := by simp [szL]
theorem szT_slE (t : T) (l : List t.den) : szT (.sl t) l = l.length + szL t l := rfl
theorem szL_mem {t : T} {l : List t.den} {x : t.den} (h : x ∈ l) : szT t x ≤ szL t l := by
  induction l with
  | nil => simp at h
  | cons a l ih =>
    rw [szL_cons]
    rcases List.mem_cons.1 h with e | e
    · subst e; omega
    · have := ih e; omega
theorem szT_sl {t : T} {l : List t.den} (h : szT (.sl t) l ≤ 1048576) : l.length ≤ 1048576 ∧ ∀ x ∈ l, szT t x ≤ 1048576 := by
  rw [szT_slE] at h
  exact ⟨by omega, fun x hx => by have := szL_mem hx; omega⟩
def Sized (r m : Int) (z : Nat) : Prop := r = -1 ∨ (0 ≤ r ∧ r + z = m)
/-- Its texts and slices are of a length that an int tells. -/
def BndT : (t : T) → t.den → Prop
  | .int _, _ => True
  | .u8, _ => True
  | .bool, _ => True
  | .str, s => s.length ≤ 9223372036854775807
  | .sl t, l => l.length ≤ 9223372036854775807 ∧ ∀ x ∈ l, BndT t x
  | .pr a b, x => BndT a x.1 ∧ BndT b x.2
  | .node, _ => True
theorem OkT.bnd : ∀ (t : T) (x : t.den), OkT t x → BndT t x
  | .int _, _, _ => trivial
  | .u8, _, _ => trivial
  | .bool, _, _ => trivial
  | .str, _, h => Nat.le_trans h (by decide)
  | .sl t, _, h => ⟨Nat.le_trans h.1 (by decide), fun x hx => OkT.bnd t x (h.2 x hx)⟩
  | .pr a b, x, h => ⟨OkT.bnd a x.1 h.1, OkT.bnd b x.2 h.2⟩
  | .node, _, _ => trivial
theorem szT_flat {t : T} (ht : szT t = fun _ => 0) (l : List t.den) : szT (.sl t) l = l.length := by
  rw [szT_slE, szL, ht]
  induction l with
  | nil => rfl
  | cons a l ih => simp at ih ⊢; exact ih
def mtd (k : Nat) (acc : List UInt8) : List UInt8 := if h : k = 0 then acc else mtd (k / 10) (UInt8.ofNat (48 + k % 10) :: acc)
def mtx (k : Nat) : List UInt8 := if k = 0 then [109, 48] else 109 :: mtd k []
def mkFold {α : Type} (f : α → Nat → α × Nat) : List α → Nat → List α × Nat
  | [], k => ([], k)
  | x :: l, k => ((f x k).1 :: (mkFold f l (f x k).2).1, (mkFold f l (f x k).2).2)
mutual
def markN : NodeT → Nat → NodeT × Nat
  | .mk _ _ _ ks, k => (.mk (mtx k) (mtx (k + 1)) (mtx (k + 2)) (markNs ks (k + 3)).1, (markNs ks (k + 3)).2)
def markNs : List NodeT → Nat → List NodeT × Nat
  | [], k => ([], k)
  | n :: l, k => ((markN n k).1 :: (markNs l (markN n k).2).1, (markNs l (markN n k).2).2)
end
/-- A value is marked: from k on, up to what is handed back. -/
def markT : (t : T) → t.den → Nat → t.den × Nat
  | .int _, _, k => ((k : Int), k + 1)
  | .u8, _, k => (UInt8.ofNat k, k + 1)
  | .bool, _, k => (decide (k % 3 = 0), k + 1)
  | .str, _, k => (mtx k, k + 1)
  | .sl t, l, k => mkFold (markT t) l k
  | .pr a b, x, k => (((markT a x.1 k).1, (markT b x.2 (markT a x.1 k).2).1), (markT b x.2 (markT a x.1 k).2).2)
  | .node, n, k => markN n k
theorem markT_cons (t : T) (x : t.den) (l : List t.den) (k : Nat) : markT (.sl t) (x :: l) k = ((markT t x k).1 :: (markT (.sl t) l (markT t x k).2).1, (markT (.sl t) l (markT t x k).2).2) := rfl
theorem markT_nil (t : T) (k : Nat) : markT (.sl t) ([] : List t.den) k = ([], k) := rfl
theorem mkFold_le {α : Type} {f : α → Nat → α × Nat} (h : ∀ x k, k ≤ (f x k).2) : ∀ (l : List α) (k : Nat), k ≤ (mkFold f l k).2
  | [], k => Nat.le_refl k
  | x :: l, k => Nat.le_trans (h x k) (mkFold_le h l _)
mutual
theorem markN_le : ∀ (n : NodeT) (k : Nat), k ≤ (markN n k).2
  | .mk _ _ _ ks, k => by
    have := markNs_le ks (k + 3)
    simp only [markN]; omega
theorem markNs_le : ∀ (l : List NodeT) (k : Nat), k ≤ (markNs l k).2
  | [], k => by simp only [markNs]; exact Nat.le_refl k
  | n :: l, k => by
    have h1 := markN_le n k
    have h2 := markNs_le l (markN n k).2
    simp only [markNs]; omega
end
theorem markT_le : ∀ (t : T) (x : t.den) (k : Nat), k ≤ (markT t x k).2
  | .int _, _, k => Nat.le_succ k
  | .u8, _, k => Nat.le_succ k
  | .bool, _, k => Nat.le_succ k
  | .str, _, k => Nat.le_succ k
  | .sl t, l, k => mkFold_le (markT_le t) l k
  | .pr a b, x, k => Nat.le_trans (markT_le a x.1 k) (markT_le b x.2 _)
  | .node, n, k => markN_le n k
theorem mkFold_len {α : Type} (f : α → Nat → α × Nat) : ∀ (l : List α) (k : Nat), (mkFold f l k).1.length = l.length
  | [], _ => rfl
  | x :: l, k => by simp only [mkFold, List.length_cons, mkFold_len f l]
theorem markL_len (t : T) (l : List t.den) (k : Nat) : (markT (.sl t) l k).1.length = l.length := mkFold_len _ l k
/-- Its slices are of a length that memory has. -/
def BndM : (t : T) → t.den → Prop
  | .sl t, l => l.length ≤ 140737488355328 ∧ ∀ x ∈ l, BndM t x
  | .pr a b, x => BndM a x.1 ∧ BndM b x.2
  | _, _ => True
/-- Sizes. -/
theorem szT_pr (a b : T) (x : (T.pr a b).den) : szT (.pr a b) x = szT a x.1 + szT b x.2 := rfl
theorem szT_str (s : List UInt8) : szT .str s = s.length := rfl
theorem szT_bool (s : Bool) : szT .bool s = 0 := rfl
theorem szT_int (k : IntKind) (s : Int) : szT (.int k) s = 0 := rfl
theorem szG {t : T} {l : List t.den} {i : Nat} (h : i < l.length) : l.length + szT t l[i] ≤ szT (.sl t) l := by
  rw [szT_slE]
  have := szL_mem (List.getElem_mem h)
  omega
theorem szLen {t : T} {l : List t.den} : l.length ≤ szT (.sl t) l := by rw [szT_slE]; omega
theorem BndT_of : ∀ (t : T) (x : t.den), szT t x ≤ 9223372036854775807 → BndT t x
  | .int _, _, _ => trivial
  | .u8, _, _ => trivial
  | .bool, _, _ => trivial
  | .str, _, h => h
  | .sl t, l, h => by
    rw [szT_slE] at h
    exact ⟨by omega, fun x hx => BndT_of t x (by have := szL_mem hx; omega)⟩
  | .pr a b, x, h => by
    simp only [szT] at h
    exact ⟨BndT_of a x.1 (by omega), BndT_of b x.2 (by omega)⟩
  | .node, _, _ => trivial
/-- The first of i .. i + k - 1 that is so. -/
def firstFrom (p : Nat → Bool) : Nat → Nat → Option Nat
  | 0, _ => none
  | k + 1, i => if p i = true then some i else firstFrom p k (i + 1)
def firstI (n : Nat) (p : Nat → Bool) : Option Nat := firstFrom p n 0
theorem firstFrom_some {p : Nat → Bool} : ∀ {k i j : Nat}, firstFrom p k i = some j → i ≤ j ∧ j < i + k ∧ p j = true ∧ ∀ x, i ≤ x → x < j → p x = false
  | 0, _, _, h => by simp [firstFrom] at h
  | k + 1, i, j, h => by
    simp only [firstFrom] at h
    split at h
    · rename_i hp; obtain rfl := Option.some.inj h
      exact ⟨Nat.le_refl _, by omega, hp, fun x h1 h2 => by omega⟩
    · rename_i hp
      obtain ⟨h1, h2, h3, h4⟩ := firstFrom_some h
      exact ⟨by omega, by omega, h3, fun x q1 q2 => by
        rcases Nat.eq_or_lt_of_le q1 with e | e
        · subst e; simpa using hp
        · exact h4 x e q2⟩
theorem firstFrom_none {p : Nat → Bool} : ∀ {k i : Nat}, firstFrom p k i = none → ∀ x, i ≤ x → x < i + k → p x = false
  | 0, _, _, x, _, _ => by omega
  | k + 1, i, h, x, q1, q2 => by
    simp only [firstFrom] at h
    split at h
    · cases h
    · rename_i hp
      rcases Nat.eq_or_lt_of_le q1 with e | e
      · subst e; simpa using hp
      · exact firstFrom_none h x e (by omega)
theorem firstFrom_of {p : Nat → Bool} : ∀ {k i : Nat}, (∀ x, i ≤ x → x < i + k → p x = false) → firstFrom p k i = none
  | 0, _, _ => rfl
  | k + 1, i, h => by
    simp only [firstFrom]
    rw [if_neg (by rw [h i (Nat.le_refl _) (by omega)]; simp)]
    exact firstFrom_of fun x q1 q2 => h x (by omega) (by omega)
theorem firstI_some {n : Nat} {p : Nat → Bool} {i : Nat} (h : firstI n p = some i) : i < n ∧ p i = true ∧ ∀ j, j < i → p j = false := by
  obtain ⟨_, h2, h3, h4⟩ := firstFrom_some h
  exact ⟨by omega, h3, fun j hj => h4 j (Nat.zero_le _) hj⟩
theorem firstI_none {n : Nat} {p : Nat → Bool} (h : firstI n p = none) : ∀ i, i < n → p i = false := fun i hi => firstFrom_none h i (Nat.zero_le _) (by omega)
theorem firstI_of {n : Nat} {p : Nat → Bool} (h : ∀ i, i < n → p i = false) : firstI n p = none := firstFrom_of fun x _ q => h x (by omega)
theorem firstI_eq {n : Nat} {p : Nat → Bool} {i : Nat} (hi : i < n) (hp : p i = true) (h : ∀ j, j < i → p j = false) : firstI n p = some i := by
  cases e : firstI n p with
  | none => rw [firstI_none e i hi] at hp; cases hp
  | some j =>
    obtain ⟨q1, q2, q3⟩ := firstI_some e
    rcases Nat.lt_trichotomy i j with l | l | l
    · rw [q3 i l] at hp; cases hp
    · rw [l]
    · rw [h j l] at q2; cases q2
theorem firstI_congr {n : Nat} {p q : Nat → Bool} (h : ∀ i, i < n → p i = q i) : firstI n p = firstI n q := by
  cases e : firstI n q with
  | none => exact firstI_of fun i hi => by rw [h i hi]; exact firstI_none e i hi
  | some j =>
    obtain ⟨q1, q2, q3⟩ := firstI_some e
    exact firstI_eq q1 (by rw [h j q1]; exact q2) fun x hx => by rw [h x (by omega)]; exact q3 x hx
/-- A loop that goes on up to the first that is so. -/
theorem loop_firstI {X : XF} {c : C} (n : Nat) (p : Nat → Bool) (st : Nat → St) (qr : Nat → Ex × St) (qx : Ex × St) (hr : ∀ i, (qr i).1 ≠ .n) (hq : qx.1 ≠ .n)
    (h : ∀ i, i < n → DL X c (st i) = if p i = true then some (qr i) else some (.n, st (i + 1))) (hx : DL X c (st n) = some qx) :
    DL X (.loop c) (st 0) = match firstI n p with | some i => some (qr i) | none => some qx := by
  have key := loop_rec (X := X) (c := c) st (fun i => match firstFrom p (n - i) i with | some k => some (qr k) | none => some qx) (fun i => n - i) (fun i => i ≤ n) (fun i hi => by
    rcases Nat.lt_or_ge i n with h1 | h1
    · have := h i h1
      rw [show n - i = (n - (i + 1)) + 1 by omega]
      simp only [firstFrom]
      cases hp : p i
      · rw [hp, if_neg (by simp)] at this
        exact .inl ⟨i + 1, this, by omega, by omega, by simp⟩
      · rw [hp, if_pos rfl] at this
        exact .inr ⟨qr i, hr i, this, by simp⟩
    · obtain rfl : i = n := by omega
      exact .inr ⟨qx, hq, hx, by simp [firstFrom]⟩) 0 (Nat.zero_le _)
  simp only [Nat.sub_zero] at key
  exact key
/-- Each of a list, with its place. -/
def eachB {α : Type} (f : Nat → α → Bool) (l : List α) : Bool := (firstI l.length fun i => match l[i]? with | some x => !f i x | none => false).isNone
theorem eachB_iff {α : Type} {f : Nat → α → Bool} {l : List α} : eachB f l = true ↔ ∀ i (h : i < l.length), f i l[i] = true := by
  unfold eachB
  rw [Option.isNone_iff_eq_none]
  constructor
  · intro h i hi
    have := firstI_none h i hi
    rw [get_some hi] at this
    simpa using this
  · intro h
    refine firstI_of fun i hi => ?_
    rw [get_some hi]
    simp [h i hi]
theorem loop_eachB {X : XF} {c : C} {α : Type} (l : List α) (f : Nat → α → Bool) (st : Nat → St) (qr qx : Ex × St) (hr : qr.1 ≠ .n) (hq : qx.1 ≠ .n)
    (h : ∀ i (hi : i < l.length), DL X c (st i) = if f i l[i] = true then some (.n, st (i + 1)) else some qr) (hx : DL X c (st l.length) = some qx) :
    DL X (.loop c) (st 0) = if eachB f l = true then some qx else some qr := by
  rw [loop_firstI l.length (fun i => match l[i]? with | some x => !f i x | none => false) st (fun _ => qr) qx (fun _ => hr) hq (fun i hi => by
    rw [h i hi, get_some hi]
    cases hf : f i l[i] <;> simp [hf]) hx]
  unfold eachB
  cases firstI l.length (fun i => match l[i]? with | some x => !f i x | none => false) <;> simp
/-- Is it so with the one ahead? -/
def prevB {α : Type} (r : α → α → Bool) (l : List α) (i : Nat) (x : α) : Bool := if 0 < i then (match l[i - 1]? with | some y => r y x | none => false) else true
theorem prevB_pos {α : Type} {r : α → α → Bool} {l : List α} {i : Nat} {x : α} (h : 0 < i) (hi : i - 1 < l.length) : prevB r l i x = r l[i - 1] x := by
  unfold prevB; rw [if_pos h, get_some hi]
theorem prevB_zero {α : Type} {r : α → α → Bool} {l : List α} {i : Nat} {x : α} (h : ¬ 0 < i) : prevB r l i x = true := by
  unfold prevB; rw [if_neg h]
theorem bytesLess_irrefl : ∀ (x : List UInt8), Op.bytesLess x x = false
  | [] => rfl
  | a :: x => by simp [Op.bytesLess, bytesLess_irrefl x]
theorem take_all {α : Type} {q : List α} {i : Nat} (h : q.length = i) : q.take i = q := by rw [← h]; exact List.take_length
theorem take_len {α : Type} {l : List α} {i : Nat} (h : i ≤ l.length) : (l.take i).length = i := by rw [List.length_take]; omega
theorem take_snoc_all {α : Type} {q : List α} {x : α} {i : Nat} (h : q.length = i) : (q ++ [x]).take (i + 1) = q ++ [x] := List.take_of_length_le (by simp [h])
/-- A fold that may fail. -/
def goM {S α : Type} (f : S → α → Option S) : S → List α → Option S
  | s, [] => some s
  | s, x :: l => (f s x).bind fun s' => goM f s' l
theorem loop_goM {X : XF} {c : C} {α S : Type} (l : List α) (f : S → α → Option S) (P : Nat → S → Prop) (st : Nat → S → St) (qr : Ex × St) (qx : S → Ex × St) (hr : qr.1 ≠ .n) (hq : ∀ s, (qx s).1 ≠ .n)
    (h : ∀ i (hi : i < l.length) s, P i s → DL X c (st i s) = match f s l[i] with | some s' => some (.n, st (i + 1) s') | none => some qr)
    (hP : ∀ i (hi : i < l.length) s s', P i s → f s l[i] = some s' → P (i + 1) s')
    (hx : ∀ s, P l.length s → DL X c (st l.length s) = some (qx s)) (s : S) (h0 : P 0 s) :
    DL X (.loop c) (st 0 s) = match goM f s l with | some s' => some (qx s') | none => some qr := by
  have key := loop_rec (X := X) (c := c) (fun p : Nat × S => st p.1 p.2) (fun p => match goM f p.2 (l.drop p.1) with | some s' => some (qx s') | none => some qr) (fun p => l.length - p.1) (fun p => p.1 ≤ l.length ∧ P p.1 p.2) (fun p hp => by
    obtain ⟨i, s⟩ := p
    obtain ⟨hi, hs⟩ := hp
    simp only at hi hs ⊢
    rcases Nat.lt_or_ge i l.length with h1 | h1
    · have e := h i h1 s hs
      rw [drop_cons h1]
      simp only [goM]
      cases hf : f s l[i] with
      | none =>
        rw [hf] at e
        exact .inr ⟨qr, hr, e, rfl⟩
      | some s' =>
        rw [hf] at e
        exact .inl ⟨(i + 1, s'), e, ⟨h1, hP i h1 s s' hs hf⟩, by simp only; omega, rfl⟩
    · obtain rfl : i = l.length := by omega
      refine .inr ⟨qx s, hq s, hx s hs, ?_⟩
      simp [goM]) (0, s) ⟨Nat.zero_le _, h0⟩
  simpa using key
theorem loop_ex {X : XF} {c : C} (n : Nat) (I : Nat → St → Prop) (J : Ex → St → Prop)
    (h : ∀ i σ, i < n → I i σ → (∃ σ', DL X c σ = some (.n, σ') ∧ I (i + 1) σ') ∨ (∃ e σ', e ≠ .n ∧ DL X c σ = some (e, σ') ∧ J e σ'))
    (hx : ∀ σ, I n σ → ∃ e σ', e ≠ .n ∧ DL X c σ = some (e, σ') ∧ J e σ') (σ : St) (h0 : I 0 σ) : ∃ e σ', DL X (.loop c) σ = some (e, σ') ∧ J e σ' := by
  have fin : ∀ σ e σ', e ≠ .n → DL X c σ = some (e, σ') → DL X (.loop c) σ = some (e, σ') := by
    intro σ e σ' he h1
    rw [DL_loop, h1]
    cases e with
    | n => exact absurd rfl he
    | ex id => rfl
    | ret => rfl
  have key : ∀ k i σ, i + k = n → I i σ → ∃ e σ', DL X (.loop c) σ = some (e, σ') ∧ J e σ' := by
    intro k
    induction k with
    | zero =>
      intro i σ hi h1
      obtain rfl : i = n := by omega
      obtain ⟨e, σ', he, h2, h3⟩ := hx σ h1
      exact ⟨e, σ', fin σ e σ' he h2, h3⟩
    | succ k ih =>
      intro i σ hi h1
      rcases h i σ (by omega) h1 with ⟨σ', h2, h3⟩ | ⟨e, σ', he, h2, h3⟩
      · obtain ⟨e, σ2, h4, h5⟩ := ih (i + 1) σ' (by omega) h3
        refine ⟨e, σ2, ?_, h5⟩
        rw [DL_loop, h2]
        exact h4
      · exact ⟨e, σ', fin σ e σ' he h2, h3⟩
  exact key n 0 σ (by omega) h0
end Go.Proofs.YtniakiefibpgmaaGreatDoorK
