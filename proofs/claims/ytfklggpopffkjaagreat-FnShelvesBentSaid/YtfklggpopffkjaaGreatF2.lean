/- What the functions come to. -/
import Derived.Test.YtfklggpopffkjaaGreatF1
set_option linter.unusedVariables false
set_option linter.unusedSimpArgs false
namespace Go.Proofs.YtfklggpopffkjaaGreatK
open Go.RowKit
theorem mid_get {α : Type} (pre post : List α) (x : α) : (pre ++ x :: post)[pre.length]? = some x := by simp
theorem mid_set {α : Type} (pre post : List α) (x y : α) : (pre ++ x :: post).set pre.length y = pre ++ y :: post := by simp
mutual
def szN : NodeT → Nat
  | .mk a b c k => a.length + b.length + c.length + k.length + szNs k
def szNs : List NodeT → Nat
  | [] => 0
  | n :: l => szN n + szNs l
end
/-- How much a value holds: letters and elements. -/
def szT : (t : T) → t.den → Nat
  | .int _, _ => 0
  | .u8, _ => 0
  | .bool, _ => 0
  | .str, s => s.length
  | .sl t, l => l.length + (l.map (szT t)).sum
  | .pr a b, x => szT a x.1 + szT b x.2
  | .node, n => szN n
def szL (t : T) (l : List t.den) : Nat := (l.map (szT t)).sum
theorem szL_cons (t : T) (x : t.den) (l : List t.den) : szL t (x :: l) = szT t x + szL t l := by simp [szL]
theorem szT_slE (t : T) (l : List t.den) : szT (.sl t) l = l.length + szL t l := rfl
theorem szL_mem {t : T} {l : List t.den} {x : t.den} (h : x ∈ l) : szT t x ≤ szL t l := by
  induction l with
  | nil => simp at h
  | cons a l ih =>
    rw [szL_cons]
    rcases List.mem_cons.1 h with e | e
    · subst e; omega
    · have := ih e; omega
theorem szT_sl {t : T} {l : List t.den} (h : szT (.sl t) l ≤ 1048576) : l.length ≤ 1048576 ∧ ∀ x ∈ l, szT t x ≤ 1048576 := by
  rw [szT_slE] at h
  exact ⟨by omega, fun x hx => by have := szL_mem hx; omega⟩
def Sized (r m : Int) (z : Nat) : Prop := r = -1 ∨ (0 ≤ r ∧ r + z = m)
/-- Its texts and slices are of a length that an int tells. -/
def BndT : (t : T) → t.den → Prop
  | .int _, _ => True
  | .u8, _ => True
  | .bool, _ => True
  | .str, s => s.length ≤ 9223372036854775807
  | .sl t, l => l.length ≤ 9223372036854775807 ∧ ∀ x ∈ l, BndT t x
  | .pr a b, x => BndT a x.1 ∧ BndT b x.2
  | .node, _ => True
theorem OkT.bnd : ∀ (t : T) (x : t.den), OkT t x → BndT t x
  | .int _, _, _ => trivial
  | .u8, _, _ => trivial
  | .bool, _, _ => trivial
  | .str, _, h => Nat.le_trans h (by decide)
  | .sl t, _, h => ⟨Nat.le_trans h.1 (by decide), fun x hx => OkT.bnd t x (h.2 x hx)⟩
  | .pr a b, x, h => ⟨OkT.bnd a x.1 h.1, OkT.bnd b x.2 h.2⟩
  | .node, _, _ => trivial
theorem szT_flat {t : T} (ht : szT t = fun _ => 0) (l : List t.den) : szT (.sl t) l = l.length := by
  rw [szT_slE, szL, ht]
  induction l with
  | nil => rfl
  | cons a l ih => simp at ih ⊢; exact ih
def mtd (k : Nat) (acc : List UInt8) : List UInt8 := if h : k = 0 then acc else mtd (k / 10) (UInt8.ofNat (48 + k % 10) :: acc)
def mtx (k : Nat) : List UInt8 := if k = 0 then [109, 48] else 109 :: mtd k []
def mkFold {α : Type} (f : α → Nat → α × Nat) : List α → Nat → List α × Nat
  | [], k => ([], k)
  | x :: l, k => ((f x k).1 :: (mkFold f l (f x k).2).1, (mkFold f l (f x k).2).2)
mutual
def markN : NodeT → Nat → NodeT × Nat
  | .mk _ _ _ ks, k => (.mk (mtx k) (mtx (k + 1)) (mtx (k + 2)) (markNs ks (k + 3)).1, (markNs ks (k + 3)).2)
def markNs : List NodeT → Nat → List NodeT × Nat
  | [], k => ([], k)
  | n :: l, k => ((markN n k).1 :: (markNs l (markN n k).2).1, (markNs l (markN n k).2).2)
end
/-- A value is marked: from k on, up to what is handed back. -/
def markT : (t : T) → t.den → Nat → t.den × Nat
  | .int _, _, k => ((k : Int), k + 1)
  | .u8, _, k => (UInt8.ofNat k, k + 1)
  | .bool, _, k => (decide (k % 3 = 0), k + 1)
  | .str, _, k => (mtx k, k + 1)
  | .sl t, l, k => mkFold (markT t) l k
  | .pr a b, x, k => (((markT a x.1 k).1, (markT b x.2 (markT a x.1 k).2).1), (markT b x.2 (markT a x.1 k).2).2)
  | .node, n, k => markN n k
theorem markT_cons (t : T) (x : t.den) (l : List t.den) (k : Nat) : markT (.sl t) (x :: l) k = ((markT t x k).1 :: (markT (.sl t) l (markT t x k).2).1, (markT (.sl t) l (markT t x k).2).2) := rfl
theorem markT_nil (t : T) (k : Nat) : markT (.sl t) ([] : List t.den) k = ([], k) := rfl
theorem mkFold_le {α : Type} {f : α → Nat → α × Nat} (h : ∀ x k, k ≤ (f x k).2) : ∀ (l : List α) (k : Nat), k ≤ (mkFold f l k).2
  | [], k => Nat.le_refl k
  | x :: l, k => Nat.le_trans (h x k) (mkFold_le h l _)
mutual
theorem markN_le : ∀ (n : NodeT) (k : Nat), k ≤ (markN n k).2
  | .mk _ _ _ ks, k => by
    have := markNs_le ks (k + 3)
    simp only [markN]; omega
theorem markNs_le : ∀ (l : List NodeT) (k : Nat), k ≤ (markNs l k).2
  | [], k => by simp only [markNs]; exact Nat.le_refl k
  | n :: l, k => by
    have h1 := markN_le n k
    have h2 := markNs_le l (markN n k).2
    simp only [markNs]; omega
end
theorem markT_le : ∀ (t : T) (x : t.den) (k : Nat), k ≤ (markT t x k).2
  | .int _, _, k => Nat.le_succ k
  | .u8, _, k => Nat.le_succ k
  | .bool, _, k => Nat.le_succ k
  | .str, _, k => Nat.le_succ k
  | .sl t, l, k => mkFold_le (markT_le t) l k
  | .pr a b, x, k => Nat.le_trans (markT_le a x.1 k) (markT_le b x.2 _)
  | .node, n, k => markN_le n k
theorem mkFold_len {α : Type} (f : α → Nat → α × Nat) : ∀ (l : List α) (k : Nat), (mkFold f l k).1.length = l.length
  | [], _ => rfl
  | x :: l, k => by simp only [mkFold, List.length_cons, mkFold_len f l]
theorem markL_len (t : T) (l : List t.den) (k : Nat) : (markT (.sl t) l k).1.length = l.length := mkFold_len _ l k
/-- Its slices are of a length that memory has. -/
def BndM : (t : T) → t.den → Prop
  | .sl t, l => l.length ≤ 140737488355328 ∧ ∀ x ∈ l, BndM t x
  | .pr a b, x => BndM a x.1 ∧ BndM b x.2
  | _, _ => True
end Go.Proofs.YtfklggpopffkjaaGreatK
