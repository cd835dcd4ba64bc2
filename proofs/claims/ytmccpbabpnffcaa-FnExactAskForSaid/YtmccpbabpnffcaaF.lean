/- What the functions come to. -/
import Derived.Test.YtmccpbabpnffcaaM
set_option linter.unusedVariables false
set_option linter.unusedSimpArgs false
namespace Go.Proofs.YtmccpbabpnffcaaK
/- Reckoning with the abstract texts: words for the simplifier, and loops. -/
open Go.RowKit
theorem ite_bind' {α β : Type} (c : Prop) [Decidable c] (a b : Option α) (f : α → Option β) : (if c then a else b).bind f = if c then a.bind f else b.bind f := by split <;> rfl
theorem ite_map' {α β : Type} (c : Prop) [Decidable c] (a b : Option α) (f : α → β) : (if c then a else b).map f = if c then a.map f else b.map f := by split <;> rfl
theorem wrap_id {n : Int} (h1 : -9223372036854775808 ≤ n) (h2 : n ≤ 9223372036854775807) : IntKind.i64.wrap n = n := by
  simp only [IntKind.wrap, IntKind.min, IntKind.max, IntKind.signed, IntKind.bits] at *
  simp
  try omega
theorem wrap_succ {i n : Nat} (h : i < n) (hn : n ≤ 9223372036854775807) : IntKind.i64.wrap ((i : Int) + 1) = (i : Int) + 1 := wrap_id (by omega) (by omega)
theorem wrap_b (x : UInt8) : IntKind.i64.wrap (x.toNat : Int) = (x.toNat : Int) := wrap_id (by omega) (by have := x.toNat_lt; omega)
/-- A loop, by what each round comes to. -/
theorem loop_rec {X : XF} {c : C} {α : Type} (st : α → St) (out : α → Option (Ex × St)) (μ : α → Nat) (inv : α → Prop)
    (h : ∀ a, inv a → (∃ a', DL X c (st a) = some (.n, st a') ∧ inv a' ∧ μ a' < μ a ∧ out a' = out a) ∨ (∃ q : Ex × St, q.1 ≠ .n ∧ DL X c (st a) = some q ∧ out a = some q)) :
    ∀ a, inv a → DL X (.loop c) (st a) = out a := by
  have key : ∀ (n : Nat) (a : α), μ a < n → inv a → DL X (.loop c) (st a) = out a := by
    intro n
    induction n with
    | zero => intro a h1; omega
    | succ n ih =>
      intro a h1 h2
      rw [DL_loop]
      rcases h a h2 with ⟨a', e1, e2, e3, e4⟩ | ⟨q, e1, e2, e3⟩
      · rw [e1]
        simp only [Option.bind_some, andThen]
        rw [ih a' (by omega) e2, e4]
      · obtain ⟨e, σ⟩ := q
        rw [e2, e3]
        cases e with
        | n => exact absurd rfl e1
        | ex id => rfl
        | ret => rfl
  exact fun a ha => key _ a (Nat.lt_succ_self _) ha
attribute [simp] entered argRegs argObjs DL_r DL_skip DL_seq DL_cond condDL_b DL_blk DL_ex DL_ret DL_pre DL_post andThen_n andThen_ex andThen_ret goN_eq outOf_n outOf_ret outOf_ex krun_nil krun_cons kstep St.set St.op St.reg klook kput kdel killAll keepAll keepOne binV binI binU binS binSh binUS isSh asInt' St.new St.unref St.unlook St.turn St.gone St.less dropAll AV.refs AV.refsL AV.looks AV.looksL AV.blind AV.blindL AV.frP AV.frPL Ob.unref unlent Ob.closed place passed backs called obFree RC.free RV.free RV.opened RV.openOne openTup takeL RC.cv St.arg rowsOf rowD cvs cv D.scalar cellsT T.w mkT castL_self ofD T.zero T.flat cellsOf cellOf AV.cells kcut packed viewOf viewD allOf ite_bind' ite_map' ended resV resVs retV retC retCs retR packR backObs tupled skipped AV.parts fillO chunks tailOf appTo pickV bnds holeAt fillH nid lendC lendH lends Ob.sz Ob.len St.rename St.renamed AV.ren AV.renL rn Ob.ren renH lentAt

def tab : Nat → Option Fn := klook tabL
def x_strings_Contains_e : List AV → Option (List (Option Ob) × RV)
  | [.d (.s a), .d (.s [c])] => some ([], .one (.fz (.b (a.contains c))))
  | _ => none
def x_strings_IndexByte_e : List AV → Option (List (Option Ob) × RV)
  | [.d (.s a), .d (.u c)] => some ([], .one (.fz (.i .i64 (if a.contains c then (a.findIdx (· == c) : Int) else -1))))
  | _ => none
def joinB (sep : List UInt8) : List (List UInt8) → List UInt8
  | [] => []
  | [a] => a
  | a :: l => a ++ sep ++ joinB sep l
def x_strings_Join_e : List AV → Option (List (Option Ob) × RV)
  | [.d (.sl .str l), .d (.s sep)] => if l.length ≤ 140737488355328 ∧ (joinB sep l).length ≤ 140737488355328 then some ([], .one (.fz (.s (joinB sep l)))) else none
  | _ => none
def extE : XF := fun f l obs => match obs with
  | [] => if f = x_strings_Contains then x_strings_Contains_e l else if f = x_strings_IndexByte then x_strings_IndexByte_e l else if f = x_strings_Join then x_strings_Join_e l else none
  | _ => none
noncomputable abbrev V : XF := evL tab extE
theorem V_eq {f : Nat} {fn : Fn} (hf : tab f = some fn) (l : List AV) (obs : List Ob) : V f l obs = (entered fn l obs).bind fun σ => (DL V fn.body σ).bind (ended fn obs.length) := evL_eq tab extE hf l obs
theorem mid_get {α : Type} (pre post : List α) (x : α) : (pre ++ x :: post)[pre.length]? = some x := by simp
theorem mid_set {α : Type} (pre post : List α) (x y : α) : (pre ++ x :: post).set pre.length y = pre ++ y :: post := by simp
mutual
def szN : NodeT → Nat
  | .mk a b c k => a.length + b.length + c.length + k.length + szNs k
def szNs : List NodeT → Nat
  | [] => 0
  | n :: l => szN n + szNs l
end
/-- How much a value holds: letters and elements. -/
def szT : (t : T) → t.den → Nat
  | .int _, _ => 0
  | .u8, _ => 0
  | .bool, _ => 0
  | .str, s => s.length
  | .sl t, l => l.length + (l.map (szT t)).sum
  | .pr a b, x => szT a x.1 + szT b x.2
  | .node, n => szN n
def szL (t : T) (l : List t.den) : Nat := (l.map (szT t)).sum
theorem szL_cons (t : T) (x : t.den) (l : List t.den) : szL t (x :: l) = szT t x + szL t l := by simp [szL]
theorem szT_slE (t : T) (l : List t.den) : szT (.sl t) l = l.length + szL t l := rfl
theorem szL_mem {t : T} {l : List t.den} {x : t.den} (h : x ∈ l) : szT t x ≤ szL t l := by
  induction l with
  | nil => simp at h
  | cons a l ih =>
    rw [szL_cons]
    rcases List.mem_cons.1 h with e | e
    · subst e; omega
    · have := ih e; omega
theorem szT_sl {t : T} {l : List t.den} (h : szT (.sl t) l ≤ 1048576) : l.length ≤ 1048576 ∧ ∀ x ∈ l, szT t x ≤ 1048576 := by
  rw [szT_slE] at h
  exact ⟨by omega, fun x hx => by have := szL_mem hx; omega⟩
def Sized (r m : Int) (z : Nat) : Prop := r = -1 ∨ (0 ≤ r ∧ r + z = m)
/-- Its texts and slices are of a length that an int tells. -/
def BndT : (t : T) → t.den → Prop
  | .int _, _ => True
  | .u8, _ => True
  | .bool, _ => True
  | .str, s => s.length ≤ 9223372036854775807
  | .sl t, l => l.length ≤ 9223372036854775807 ∧ ∀ x ∈ l, BndT t x
  | .pr a b, x => BndT a x.1 ∧ BndT b x.2
  | .node, _ => True
theorem OkT.bnd : ∀ (t : T) (x : t.den), OkT t x → BndT t x
  | .int _, _, _ => trivial
  | .u8, _, _ => trivial
  | .bool, _, _ => trivial
  | .str, _, h => Nat.le_trans h (by decide)
  | .sl t, _, h => ⟨Nat.le_trans h.1 (by decide), fun x hx => OkT.bnd t x (h.2 x hx)⟩
  | .pr a b, x, h => ⟨OkT.bnd a x.1 h.1, OkT.bnd b x.2 h.2⟩
  | .node, _, _ => trivial
theorem szT_flat {t : T} (ht : szT t = fun _ => 0) (l : List t.den) : szT (.sl t) l = l.length := by
  rw [szT_slE, szL, ht]
  induction l with
  | nil => rfl
  | cons a l ih => simp at ih ⊢; exact ih
def mtd (k : Nat) (acc : List UInt8) : List UInt8 := if h : k = 0 then acc else mtd (k / 10) (UInt8.ofNat (48 + k % 10) :: acc)
def mtx (k : Nat) : List UInt8 := if k = 0 then [109, 48] else 109 :: mtd k []
def mkFold {α : Type} (f : α → Nat → α × Nat) : List α → Nat → List α × Nat
  | [], k => ([], k)
  | x :: l, k => ((f x k).1 :: (mkFold f l (f x k).2).1, (mkFold f l (f x k).2).2)
mutual
def markN : NodeT → Nat → NodeT × Nat
  | .mk _ _ _ ks, k => (.mk (mtx k) (mtx (k + 1)) (mtx (k + 2)) (markNs ks (k + 3)).1, (markNs ks (k + 3)).2)
def markNs : List NodeT → Nat → List NodeT × Nat
  | [], k => ([], k)
  | n :: l, k => ((markN n k).1 :: (markNs l (markN n k).2).1, (markNs l (markN n k).2).2)
end
/-- A value is marked: from k on, up to what is handed back. -/
def markT : (t : T) → t.den → Nat → t.den × Nat
  | .int _, _, k => ((k : Int), k + 1)
  | .u8, _, k => (UInt8.ofNat k, k + 1)
  | .bool, _, k => (decide (k % 3 = 0), k + 1)
  | .str, _, k => (mtx k, k + 1)
  | .sl t, l, k => mkFold (markT t) l k
  | .pr a b, x, k => (((markT a x.1 k).1, (markT b x.2 (markT a x.1 k).2).1), (markT b x.2 (markT a x.1 k).2).2)
  | .node, n, k => markN n k
theorem markT_cons (t : T) (x : t.den) (l : List t.den) (k : Nat) : markT (.sl t) (x :: l) k = ((markT t x k).1 :: (markT (.sl t) l (markT t x k).2).1, (markT (.sl t) l (markT t x k).2).2) := rfl
theorem markT_nil (t : T) (k : Nat) : markT (.sl t) ([] : List t.den) k = ([], k) := rfl
theorem mkFold_le {α : Type} {f : α → Nat → α × Nat} (h : ∀ x k, k ≤ (f x k).2) : ∀ (l : List α) (k : Nat), k ≤ (mkFold f l k).2
  | [], k => Nat.le_refl k
  | x :: l, k => Nat.le_trans (h x k) (mkFold_le h l _)
mutual
theorem markN_le : ∀ (n : NodeT) (k : Nat), k ≤ (markN n k).2
  | .mk _ _ _ ks, k => by
    have := markNs_le ks (k + 3)
    simp only [markN]; omega
theorem markNs_le : ∀ (l : List NodeT) (k : Nat), k ≤ (markNs l k).2
  | [], k => by simp only [markNs]; exact Nat.le_refl k
  | n :: l, k => by
    have h1 := markN_le n k
    have h2 := markNs_le l (markN n k).2
    simp only [markNs]; omega
end
theorem markT_le : ∀ (t : T) (x : t.den) (k : Nat), k ≤ (markT t x k).2
  | .int _, _, k => Nat.le_succ k
  | .u8, _, k => Nat.le_succ k
  | .bool, _, k => Nat.le_succ k
  | .str, _, k => Nat.le_succ k
  | .sl t, l, k => mkFold_le (markT_le t) l k
  | .pr a b, x, k => Nat.le_trans (markT_le a x.1 k) (markT_le b x.2 _)
  | .node, n, k => markN_le n k
theorem mkFold_len {α : Type} (f : α → Nat → α × Nat) : ∀ (l : List α) (k : Nat), (mkFold f l k).1.length = l.length
  | [], _ => rfl
  | x :: l, k => by simp only [mkFold, List.length_cons, mkFold_len f l]
theorem markL_len (t : T) (l : List t.den) (k : Nat) : (markT (.sl t) l k).1.length = l.length := mkFold_len _ l k
/-- Its slices are of a length that memory has. -/
def BndM : (t : T) → t.den → Prop
  | .sl t, l => l.length ≤ 140737488355328 ∧ ∀ x ∈ l, BndM t x
  | .pr a b, x => BndM a x.1 ∧ BndM b x.2
  | _, _ => True
theorem wmarkText_l : ∀ (k : Nat) (acc : List UInt8), k + acc.length ≤ 4611686018427387904 →
    DL V (.loop wmarkText_l0) ⟨[(3, .d (.s acc)), (0, .d (.i .i64 k))], []⟩ = some (.ex 0, ⟨[(3, .d (.s (mtd k acc)))], []⟩) ∧ (mtd k acc).length ≤ k + acc.length := by
  intro k
  induction k using Nat.strongRecOn with
  | _ k ih =>
    intro acc hb
    rw [DL_loop]
    by_cases h : k = 0
    · subst h
      unfold mtd
      exact ⟨by simp -implicitDefEqProofs [wmarkText_l0], by simp⟩
    · have hpos : (0 : Int) < k := by omega
      obtain ⟨i1, i2⟩ := ih (k / 10) (by omega) (UInt8.ofNat (48 + k % 10) :: acc) (by simp; omega)
      obtain ⟨x, hx⟩ : ∃ x, k % 10 = x := ⟨_, rfl⟩
      obtain ⟨y, hy⟩ : ∃ y, k / 10 = y := ⟨_, rfl⟩
      rw [hx, hy] at i1 i2
      have hun : mtd k acc = mtd y (UInt8.ofNat (48 + x) :: acc) := by rw [mtd, dif_neg h, hx, hy]
      rw [hun]
      have w1 : (k : Int).tmod 10 = x := by rw [Int.tmod_eq_emod_of_nonneg (by omega)]; omega
      have w1' : (k : Int) % 10 = x := by omega
      have w2 : IntKind.i64.wrap (48 + (x : Int)) = 48 + x := wrap_id (by omega) (by omega)
      have w3 : IntKind.i64.wrap ((k : Int) / 10) = y := by rw [show (k : Int) / 10 = y by omega]; exact wrap_id (by omega) (by omega)
      have w4 : ((48 + (x : Int)) % 256).toNat = 48 + x := by omega
      have hb1 : 1 + acc.length ≤ 9223372036854775807 := by omega
      refine ⟨?_, by simp only [List.length_cons] at i2; omega⟩
      generalize DL V (.loop wmarkText_l0) = G at i1 ⊢
      have hpos' : 0 < k := by omega
      simp -implicitDefEqProofs [wmarkText_l0, hpos', w1, w1', w2, w3, w4, hb1, i1, -UInt8.ofNat_add]
theorem wmarkText_ok (k : Nat) (hk : k ≤ 4611686018427387904) : V wmarkText [.d (.i .i64 k)] [] = some ([], .one (.fz (.s (mtx k)))) := by
  rw [V_eq (fn := wmarkText_m) rfl]
  unfold mtx
  by_cases h : k = 0
  · subst h; simp -implicitDefEqProofs [wmarkText_m]
  · obtain ⟨i1, i2⟩ := wmarkText_l k [] (by simp; omega)
    have hpos : ¬ ((k : Int) ≤ 0) := by omega
    generalize mtd k [] = z at i1 i2 ⊢
    simp only [List.length_nil, Nat.add_zero] at i2
    have hb : 1 + z.length ≤ 9223372036854775807 := by omega
    simp -implicitDefEqProofs [wmarkText_m, h, hpos, i1, hb]
theorem u8_mod (k : Nat) : UInt8.ofNat ((k : Int) % 256).toNat = UInt8.ofNat k := by
  have : ((k : Int) % 256).toNat = k % 256 := by omega
  rw [this]
  apply UInt8.toNat_inj.1
  simp
theorem tmod3 (k : Nat) : (k : Int).tmod 3 = ((k % 3 : Nat) : Int) := rfl
def T.wd : T → Nat
  | .sl t => t.wd
  | .pr a b => a.wd + b.wd
  | .node => 4
  | _ => 1
theorem mkFold_bound {α : Type} {f : α → Nat → α × Nat} {W : Nat} {z : α → Nat} (h : ∀ x k, (f x k).2 ≤ k + W * (1 + z x)) : ∀ (l : List α) (k : Nat), (mkFold f l k).2 ≤ k + W * (l.length + (l.map z).sum)
  | [], k => by simp [mkFold]
  | x :: l, k => by
    have h1 := h x k
    have h2 := mkFold_bound h l (f x k).2
    simp only [mkFold, List.length_cons, List.map_cons, List.sum_cons]
    have e : W * (l.length + 1 + (z x + (l.map z).sum)) = W * (1 + z x) + W * (l.length + (l.map z).sum) := by rw [← Nat.mul_add]; congr 1; omega
    omega
mutual
theorem markN_bound : ∀ (n : NodeT) (k : Nat), (markN n k).2 ≤ k + 4 * (1 + szN n)
  | .mk _ _ _ ks, k => by
    have := markNs_bound ks (k + 3)
    simp only [markN, szN]; omega
theorem markNs_bound : ∀ (l : List NodeT) (k : Nat), (markNs l k).2 ≤ k + 4 * (l.length + szNs l)
  | [], k => by simp [markNs]
  | n :: l, k => by
    have h1 := markN_bound n k
    have h2 := markNs_bound l (markN n k).2
    simp only [markNs, szNs, List.length_cons]; omega
end
theorem markT_bound : ∀ (t : T) (x : t.den) (k : Nat), (markT t x k).2 ≤ k + t.wd * (1 + szT t x)
  | .int _, _, k => by simp [markT, T.wd, szT]
  | .u8, _, k => by simp [markT, T.wd, szT]
  | .bool, _, k => by simp [markT, T.wd, szT]
  | .str, s, k => by simp only [markT, T.wd, szT]; omega
  | .sl t, l, k => by
    have := mkFold_bound (f := markT t) (W := t.wd) (z := szT t) (markT_bound t) l k
    have e : t.wd * (1 + szT (.sl t) l) = t.wd + t.wd * (l.length + (l.map (szT t)).sum) := by rw [Nat.mul_add, Nat.mul_one]; rfl
    show (mkFold (markT t) l k).2 ≤ k + t.wd * (1 + szT (.sl t) l)
    omega
  | .pr a b, x, k => by
    have h1 := markT_bound a x.1 k
    have h2 := markT_bound b x.2 (markT a x.1 k).2
    have e1 : a.wd * (1 + szT a x.1) ≤ a.wd * (1 + (szT a x.1 + szT b x.2)) := Nat.mul_le_mul_left _ (by omega)
    have e2 : b.wd * (1 + szT b x.2) ≤ b.wd * (1 + (szT a x.1 + szT b x.2)) := Nat.mul_le_mul_left _ (by omega)
    have e3 : (a.wd + b.wd) * (1 + (szT a x.1 + szT b x.2)) = a.wd * (1 + (szT a x.1 + szT b x.2)) + b.wd * (1 + (szT a x.1 + szT b x.2)) := Nat.add_mul _ _ _
    show (markT b x.2 (markT a x.1 k).2).2 ≤ k + (a.wd + b.wd) * (1 + (szT a x.1 + szT b x.2))
    omega
  | .node, n, k => markN_bound n k
theorem BndM_of : ∀ (t : T) (x : t.den), szT t x ≤ 140737488355328 → BndM t x
  | .int _, _, _ => trivial
  | .u8, _, _ => trivial
  | .bool, _, _ => trivial
  | .str, _, _ => trivial
  | .sl t, l, h => by
    rw [szT_slE] at h
    exact ⟨by omega, fun x hx => BndM_of t x (by have := szL_mem hx; omega)⟩
  | .pr a b, x, h => by
    simp only [szT] at h
    exact ⟨BndM_of a x.1 (by omega), BndM_of b x.2 (by omega)⟩
  | .node, _, _ => trivial
theorem mark_small {t : T} {l : List t.den} {k z : Nat} (hk : k ≤ 2305843009213693952) (hs : szT (.sl t) l ≤ z) (hz : t.wd * (1 + z) ≤ 2305843009213693952) : (markT (.sl t) l k).2 ≤ 4611686018427387904 := by
  have h1 := markT_bound (.sl t) l k
  have h2 : T.wd (.sl t) * (1 + szT (.sl t) l) ≤ t.wd * (1 + z) := Nat.mul_le_mul_left _ (by omega)
  omega
theorem nneg (n : Nat) : ((n : Int) < 0) = False := by simp
theorem mark_take (t : T) (l : List t.den) (k : Nat) : (markT (.sl t) l k).1.take l.length = (markT (.sl t) l k).1 := List.take_of_length_le (by rw [markL_len]; exact Nat.le_refl _)
def plainB (b : UInt8) : Bool := decide (32 ≤ b) && decide (b ≤ 126)
theorem iisSmall_ok (b : UInt8) : V iisSmall [.d (.u b)] [] = some ([], .one (.fz (.b (decide (97 ≤ b) && decide (b ≤ 122))))) := by
  rw [V_eq (fn := iisSmall_m) rfl]
  by_cases h : 97 ≤ b <;> simp -implicitDefEqProofs [iisSmall_m, h]
theorem iisLarge_ok (b : UInt8) : V iisLarge [.d (.u b)] [] = some ([], .one (.fz (.b (decide (65 ≤ b) && decide (b ≤ 90))))) := by
  rw [V_eq (fn := iisLarge_m) rfl]
  by_cases h : 65 ≤ b <;> simp -implicitDefEqProofs [iisLarge_m, h]
theorem iisDigit_ok (b : UInt8) : V iisDigit [.d (.u b)] [] = some ([], .one (.fz (.b (decide (48 ≤ b) && decide (b ≤ 57))))) := by
  rw [V_eq (fn := iisDigit_m) rfl]
  by_cases h : 48 ≤ b <;> simp -implicitDefEqProofs [iisDigit_m, h]
theorem iisPlain_ok (b : UInt8) : V iisPlain [.d (.u b)] [] = some ([], .one (.fz (.b (decide (32 ≤ b) && decide (b ≤ 126))))) := by
  rw [V_eq (fn := iisPlain_m) rfl]
  by_cases h : 32 ≤ b <;> simp -implicitDefEqProofs [iisPlain_m, h]
theorem iin_ok (n a b : Int) : V iin [.d (.i .i64 n), .d (.i .i64 a), .d (.i .i64 b)] [] = some ([], .one (.fz (.b (decide (a ≤ n) && decide (n ≤ b))))) := by
  rw [V_eq (fn := iin_m) rfl]
  by_cases h : a ≤ n <;> simp -implicitDefEqProofs [iin_m, h]
theorem sl1In_ok (n a b : Int) : V sl1In [.d (.i .i64 n), .d (.i .i64 a), .d (.i .i64 b)] [] = some ([], .one (.fz (.b (decide (a ≤ n) && decide (n ≤ b))))) := by
  rw [V_eq (fn := sl1In_m) rfl]
  by_cases h : a ≤ n <;> simp -implicitDefEqProofs [sl1In_m, h]
theorem u8_range (b : UInt8) (x y : Nat) (hx : x < 256) (hy : y < 256) : (decide ((x : Int) ≤ (b.toNat : Int)) && decide ((b.toNat : Int) ≤ (y : Int))) = (decide (UInt8.ofNat x ≤ b) && decide (b ≤ UInt8.ofNat y)) := by
  have e1 : (UInt8.ofNat x).toNat = x := by simp; omega
  have e2 : (UInt8.ofNat y).toNat = y := by simp; omega
  simp only [UInt8.le_iff_toNat_le, e1, e2, Int.ofNat_le]
theorem sl1Small_ok (b : UInt8) : V sl1Small [.d (.u b)] [] = some ([], .one (.fz (.b (decide (97 ≤ b) && decide (b ≤ 122))))) := by
  rw [V_eq (fn := sl1Small_m) rfl]
  simp -implicitDefEqProofs [sl1Small_m, wrap_b, sl1In_ok]
  exact u8_range b 97 122 (by omega) (by omega)
theorem sl1Large_ok (b : UInt8) : V sl1Large [.d (.u b)] [] = some ([], .one (.fz (.b (decide (65 ≤ b) && decide (b ≤ 90))))) := by
  rw [V_eq (fn := sl1Large_m) rfl]
  simp -implicitDefEqProofs [sl1Large_m, wrap_b, sl1In_ok]
  exact u8_range b 65 90 (by omega) (by omega)
theorem sl1Digit_ok (b : UInt8) : V sl1Digit [.d (.u b)] [] = some ([], .one (.fz (.b (decide (48 ≤ b) && decide (b ≤ 57))))) := by
  rw [V_eq (fn := sl1Digit_m) rfl]
  simp -implicitDefEqProofs [sl1Digit_m, wrap_b, sl1In_ok]
  exact u8_range b 48 57 (by omega) (by omega)
theorem iPlain_l (s : List UInt8) (hs : s.length ≤ 9223372036854775807) : ∀ i : Nat, i ≤ s.length →
    DL V (.loop iPlain_l0) ⟨[(3, .d (.i .i64 i)), (0, .d (.s s))], []⟩ = if (s.drop i).all plainB then some (.ex 0, ⟨[], []⟩) else some (.ret, ⟨[(2, .d (.b false))], []⟩) := by
  refine loop_rec (fun i : Nat => (⟨[(3, .d (.i .i64 i)), (0, .d (.s s))], []⟩ : St)) _ (fun i => s.length - i) (fun i => i ≤ s.length) (fun i hi => ?_)
  by_cases h : i < s.length
  · have e : s[i]? = some s[i] := List.getElem?_eq_getElem h
    rw [List.drop_eq_getElem_cons h, List.all_cons]
    cases hp : plainB s[i]
    · refine .inr ⟨(.ret, ⟨[(2, .d (.b false))], []⟩), by simp, ?_, by simp⟩
      simp -implicitDefEqProofs [iPlain_l0, h, e, iisPlain_ok]
      simpa [plainB] using hp
    · refine .inl ⟨i + 1, ?_, by omega, by omega, by simp⟩
      simp -implicitDefEqProofs [iPlain_l0, h, e, iisPlain_ok, wrap_succ h hs]
      simpa [plainB] using hp
  · have : i = s.length := by omega
    subst this
    refine .inr ⟨(.ex 0, ⟨[], []⟩), by simp, ?_, by simp⟩
    simp -implicitDefEqProofs [iPlain_l0]
theorem iPlain_ok (s : List UInt8) (hs : s.length ≤ 9223372036854775807) : V iPlain [.d (.s s)] [] = some ([], .one (.fz (.b (s.all plainB)))) := by
  rw [V_eq (fn := iPlain_m) rfl]
  have := iPlain_l s hs 0 (Nat.zero_le _)
  simp only [List.drop_zero, Int.natCast_zero] at this
  cases h : s.all plainB <;> rw [h] at this <;> simp -implicitDefEqProofs [iPlain_m, this]
theorem sPlain_l (s : List UInt8) (hs : s.length ≤ 9223372036854775807) : ∀ i : Nat, i ≤ s.length →
    DL V (.loop sPlain_l0) ⟨[(3, .d (.i .i64 i)), (0, .d (.s s))], []⟩ = if (s.drop i).all plainB then some (.ex 0, ⟨[], []⟩) else some (.ret, ⟨[(2, .d (.b false))], []⟩) := by
  refine loop_rec (fun i : Nat => (⟨[(3, .d (.i .i64 i)), (0, .d (.s s))], []⟩ : St)) _ (fun i => s.length - i) (fun i => i ≤ s.length) (fun i hi => ?_)
  by_cases h : i < s.length
  · have e : s[i]? = some s[i] := List.getElem?_eq_getElem h
    have e2 := sl1In_ok (s[i].toNat) 32 126
    rw [show (decide ((32 : Int) ≤ (s[i].toNat : Int)) && decide ((s[i].toNat : Int) ≤ 126)) = plainB s[i] from u8_range s[i] 32 126 (by omega) (by omega)] at e2
    rw [List.drop_eq_getElem_cons h, List.all_cons]
    cases hp : plainB s[i] <;> rw [hp] at e2
    · refine .inr ⟨(.ret, ⟨[(2, .d (.b false))], []⟩), by simp, ?_, by simp⟩
      simp -implicitDefEqProofs [sPlain_l0, h, e, wrap_b, e2]
    · refine .inl ⟨i + 1, ?_, by omega, by omega, by simp⟩
      simp -implicitDefEqProofs [sPlain_l0, h, e, wrap_b, e2, wrap_succ h hs]
  · have : i = s.length := by omega
    subst this
    refine .inr ⟨(.ex 0, ⟨[], []⟩), by simp, ?_, by simp⟩
    simp -implicitDefEqProofs [sPlain_l0]
theorem sPlain_ok (s : List UInt8) (hs : s.length ≤ 9223372036854775807) : V sPlain [.d (.s s)] [] = some ([], .one (.fz (.b (s.all plainB)))) := by
  rw [V_eq (fn := sPlain_m) rfl]
  have := sPlain_l s hs 0 (Nat.zero_le _)
  simp only [List.drop_zero, Int.natCast_zero] at this
  cases h : s.all plainB <;> rw [h] at this <;> simp -implicitDefEqProofs [sPlain_m, this]
def nameB (s : List UInt8) : Bool := decide (1 ≤ s.length) && decide (s.length ≤ 8) && s.all plainB && !(s.contains 47) && !decide (s = [46]) && !decide (s = [46, 46])
theorem len_range (n a b : Nat) : (decide ((a : Int) ≤ (n : Int)) && decide ((n : Int) ≤ (b : Int))) = (decide (a ≤ n) && decide (n ≤ b)) := by simp only [Int.ofNat_le]
theorem contains_ok (s : List UInt8) (c : UInt8) : V x_strings_Contains [.d (.s s), .d (.s [c])] [] = some ([], .one (.fz (.b (s.contains c)))) := by
  rw [V, evL_ext tab extE rfl]; rfl
theorem iNameOk_ok (s : List UInt8) (hs : s.length ≤ 9223372036854775807) : V iNameOk [.d (.s s)] [] = some ([], .one (.fz (.b (nameB s)))) := by
  rw [V_eq (fn := iNameOk_m) rfl]
  have e1 := iin_ok s.length 1 8
  have e2 := iPlain_ok s hs
  have e3 := contains_ok s 47
  rw [show (decide ((1 : Int) ≤ (s.length : Int)) && decide ((s.length : Int) ≤ 8)) = (decide (1 ≤ s.length) && decide (s.length ≤ 8)) from len_range s.length 1 8] at e1
  unfold nameB
  generalize (decide (1 ≤ s.length) && decide (s.length ≤ 8)) = t1 at e1 ⊢
  generalize s.all plainB = t2 at e2 ⊢
  generalize s.contains 47 = t3 at e3 ⊢
  obtain ⟨t4, h4⟩ : ∃ t, decide (s = [46]) = t := ⟨_, rfl⟩
  obtain ⟨t5, h5⟩ : ∃ t, decide (s = [46, 46]) = t := ⟨_, rfl⟩
  rw [h4, h5]
  cases t1 <;> cases t2 <;> cases t3 <;> cases t4 <;> simp -implicitDefEqProofs [iNameOk_m, e1, e2, e3, h4, h5]
theorem sNameOk_l (s : List UInt8) (hs : s.length ≤ 9223372036854775807) : ∀ i : Nat, i ≤ s.length →
    DL V (.loop sNameOk_l0) ⟨[(3, .d (.i .i64 i)), (0, .d (.s s))], []⟩ = if (s.drop i).contains 47 then some (.ret, ⟨[(2, .d (.b false))], []⟩) else some (.ex 0, ⟨[(0, .d (.s s))], []⟩) := by
  refine loop_rec (fun i : Nat => (⟨[(3, .d (.i .i64 i)), (0, .d (.s s))], []⟩ : St)) _ (fun i => s.length - i) (fun i => i ≤ s.length) (fun i hi => ?_)
  by_cases h : i < s.length
  · have e : s[i]? = some s[i] := List.getElem?_eq_getElem h
    rw [List.drop_eq_getElem_cons h, List.contains_cons]
    by_cases hp : s[i] = 47
    · refine .inr ⟨(.ret, ⟨[(2, .d (.b false))], []⟩), by simp, ?_, by simp [hp]⟩
      simp -implicitDefEqProofs [sNameOk_l0, h, e, hp]
    · refine .inl ⟨i + 1, ?_, by omega, by omega, by simp [Ne.symm hp]⟩
      simp -implicitDefEqProofs [sNameOk_l0, h, e, hp, wrap_succ h hs]
  · have : i = s.length := by omega
    subst this
    refine .inr ⟨(.ex 0, ⟨[(0, .d (.s s))], []⟩), by simp, ?_, by simp⟩
    simp -implicitDefEqProofs [sNameOk_l0]
theorem sNameOk_ok (s : List UInt8) (hs : s.length ≤ 9223372036854775807) : V sNameOk [.d (.s s)] [] = some ([], .one (.fz (.b (nameB s)))) := by
  rw [V_eq (fn := sNameOk_m) rfl]
  have e0 := sNameOk_l s hs 0 (Nat.zero_le _)
  simp only [List.drop_zero, Int.natCast_zero] at e0
  have e1 := sl1In_ok s.length 1 8
  have e2 := sPlain_ok s hs
  rw [show (decide ((1 : Int) ≤ (s.length : Int)) && decide ((s.length : Int) ≤ 8)) = (decide (1 ≤ s.length) && decide (s.length ≤ 8)) from len_range s.length 1 8] at e1
  unfold nameB
  generalize (decide (1 ≤ s.length) && decide (s.length ≤ 8)) = t1 at e1 ⊢
  generalize s.all plainB = t2 at e2 ⊢
  generalize s.contains 47 = t3 at e0 ⊢
  obtain ⟨t4, h4⟩ : ∃ t, decide (s = [46]) = t := ⟨_, rfl⟩
  obtain ⟨t5, h5⟩ : ∃ t, decide (s = [46, 46]) = t := ⟨_, rfl⟩
  rw [h4, h5]
  cases t3
  · simp only [Bool.false_eq_true, if_false] at e0
    cases t1 <;> cases t2 <;> cases t4 <;> simp -implicitDefEqProofs [sNameOk_m, e0, e1, e2, h4, h5]
  · simp only [if_true] at e0
    simp -implicitDefEqProofs [sNameOk_m, e0]
def pathB (p : List (List UInt8)) : Bool := p.all nameB && decide (p.length ≤ 4)
abbrev OkP (p : List (List UInt8)) : Prop := p.length ≤ 9223372036854775807 ∧ ∀ s ∈ p, s.length ≤ 9223372036854775807
theorem iPathOk_l (p : List (List UInt8)) (hp : OkP p) : ∀ i : Nat, i ≤ p.length →
    DL V (.loop iPathOk_l0) ⟨[(7, .d (.i .i64 i)), (6, .d (.i .i64 p.length)), (5, .d (.sl .str p)), (0, .d (.sl .str p))], []⟩ = if (p.drop i).all nameB then some (.ex 0, ⟨[(0, .d (.sl .str p))], []⟩) else some (.ret, ⟨[(2, .d (.b false))], []⟩) := by
  refine loop_rec (fun i : Nat => (⟨[(7, .d (.i .i64 i)), (6, .d (.i .i64 p.length)), (5, .d (.sl .str p)), (0, .d (.sl .str p))], []⟩ : St)) _ (fun i => p.length - i) (fun i => i ≤ p.length) (fun i hi => ?_)
  by_cases h : i < p.length
  · have e : p[i]? = some p[i] := List.getElem?_eq_getElem h
    have e2 := iNameOk_ok p[i] (hp.2 _ (List.getElem_mem h))
    rw [List.drop_eq_getElem_cons h, List.all_cons]
    cases hn : nameB p[i] <;> rw [hn] at e2
    · refine .inr ⟨(.ret, ⟨[(2, .d (.b false))], []⟩), by simp, ?_, by simp⟩
      simp -implicitDefEqProofs [iPathOk_l0, h, e, e2]
    · refine .inl ⟨i + 1, ?_, by omega, by omega, by simp⟩
      simp -implicitDefEqProofs [iPathOk_l0, h, e, e2, wrap_succ h hp.1]
  · have : i = p.length := by omega
    subst this
    refine .inr ⟨(.ex 0, ⟨[(0, .d (.sl .str p))], []⟩), by simp, ?_, by simp⟩
    simp -implicitDefEqProofs [iPathOk_l0]
theorem iPathOk_ok (p : List (List UInt8)) (hp : OkP p) : V iPathOk [.d (.sl .str p)] [] = some ([], .one (.fz (.b (pathB p)))) := by
  rw [V_eq (fn := iPathOk_m) rfl]
  have := iPathOk_l p hp 0 (Nat.zero_le _)
  simp only [List.drop_zero, Int.natCast_zero] at this
  unfold pathB
  cases h : p.all nameB <;> rw [h] at this <;> simp -implicitDefEqProofs [iPathOk_m, this]
  omega
theorem sPathOk_l (p : List (List UInt8)) (hp : OkP p) : ∀ i : Nat, i ≤ p.length →
    DL V (.loop sPathOk_l0) ⟨[(3, .d (.i .i64 i)), (0, .d (.sl .str p))], []⟩ = if (p.drop i).all nameB then some (.ex 0, ⟨[(0, .d (.sl .str p))], []⟩) else some (.ret, ⟨[(2, .d (.b false))], []⟩) := by
  refine loop_rec (fun i : Nat => (⟨[(3, .d (.i .i64 i)), (0, .d (.sl .str p))], []⟩ : St)) _ (fun i => p.length - i) (fun i => i ≤ p.length) (fun i hi => ?_)
  by_cases h : i < p.length
  · have e : p[i]? = some p[i] := List.getElem?_eq_getElem h
    have e2 := sNameOk_ok p[i] (hp.2 _ (List.getElem_mem h))
    rw [List.drop_eq_getElem_cons h, List.all_cons]
    cases hn : nameB p[i] <;> rw [hn] at e2
    · refine .inr ⟨(.ret, ⟨[(2, .d (.b false))], []⟩), by simp, ?_, by simp⟩
      simp -implicitDefEqProofs [sPathOk_l0, h, e, e2]
    · refine .inl ⟨i + 1, ?_, by omega, by omega, by simp⟩
      simp -implicitDefEqProofs [sPathOk_l0, h, e, e2, wrap_succ h hp.1]
  · have : i = p.length := by omega
    subst this
    refine .inr ⟨(.ex 0, ⟨[(0, .d (.sl .str p))], []⟩), by simp, ?_, by simp⟩
    simp -implicitDefEqProofs [sPathOk_l0]
theorem sPathOk_ok (p : List (List UInt8)) (hp : OkP p) : V sPathOk [.d (.sl .str p)] [] = some ([], .one (.fz (.b (pathB p)))) := by
  rw [V_eq (fn := sPathOk_m) rfl]
  have := sPathOk_l p hp 0 (Nat.zero_le _)
  simp only [List.drop_zero, Int.natCast_zero] at this
  unfold pathB
  cases h : p.all nameB <;> rw [h] at this <;> simp -implicitDefEqProofs [sPathOk_m, this]
  omega
theorem iSamePath_l (p q : List (List UInt8)) (hp : p.length ≤ 9223372036854775807) (hq : p.length = q.length) : ∀ i : Nat, i ≤ p.length →
    DL V (.loop iSamePath_l0) ⟨[(13, .d (.i .i64 i)), (12, .d (.i .i64 p.length)), (1, .d (.sl .str q)), (0, .d (.sl .str p))], []⟩ = if p.drop i = q.drop i then some (.ex 0, ⟨[], []⟩) else some (.ret, ⟨[(4, .d (.b false))], []⟩) := by
  refine loop_rec (fun i : Nat => (⟨[(13, .d (.i .i64 i)), (12, .d (.i .i64 p.length)), (1, .d (.sl .str q)), (0, .d (.sl .str p))], []⟩ : St)) _ (fun i => p.length - i) (fun i => i ≤ p.length) (fun i hi => ?_)
  by_cases h : i < p.length
  · have h' : i < q.length := by omega
    have e : p[i]? = some p[i] := List.getElem?_eq_getElem h
    have e' : q[i]? = some q[i] := List.getElem?_eq_getElem h'
    have hd : (p.drop i = q.drop i) ↔ (p[i] = q[i] ∧ p.drop (i + 1) = q.drop (i + 1)) := by
      rw [List.drop_eq_getElem_cons h, List.drop_eq_getElem_cons h', List.cons.injEq]
    by_cases hn : p[i] = q[i]
    · refine .inl ⟨i + 1, ?_, by omega, by omega, by simp only [hd, hn, true_and]⟩
      simp -implicitDefEqProofs [iSamePath_l0, h, e, e', hn, wrap_succ h hp]
    · refine .inr ⟨(.ret, ⟨[(4, .d (.b false))], []⟩), by simp, ?_, by simp only [hd, hn, false_and, if_false]⟩
      simp -implicitDefEqProofs [iSamePath_l0, h, e, e', hn]
  · have : i = p.length := by omega
    subst this
    refine .inr ⟨(.ex 0, ⟨[], []⟩), by simp, ?_, by simp [hq]⟩
    simp -implicitDefEqProofs [iSamePath_l0]
theorem iSamePath_ok (p q : List (List UInt8)) (hp : p.length ≤ 9223372036854775807) : V iSamePath [.d (.sl .str p), .d (.sl .str q)] [] = some ([], .one (.fz (.b (decide (p = q))))) := by
  rw [V_eq (fn := iSamePath_m) rfl]
  by_cases hq : p.length = q.length
  · have := iSamePath_l p q hp hq 0 (Nat.zero_le _)
    simp only [List.drop_zero, Int.natCast_zero] at this
    have hq' : (p.length : Int) = q.length := by omega
    rw [hq'] at this
    by_cases h : p = q
    · rw [if_pos h] at this; rw [decide_eq_true h]; simp -implicitDefEqProofs [iSamePath_m, this, hq']
    · rw [if_neg h] at this; rw [decide_eq_false h]; simp -implicitDefEqProofs [iSamePath_m, this, hq']
  · have h : p ≠ q := fun e => hq (by rw [e])
    have hq' : ¬ (p.length : Int) = q.length := by omega
    simp -implicitDefEqProofs [iSamePath_m, hq, hq', h]
theorem sSamePath_l (p q : List (List UInt8)) (hp : p.length ≤ 9223372036854775807) (hq : p.length = q.length) : ∀ i : Nat, i ≤ p.length →
    DL V (.loop sSamePath_l0) ⟨[(5, .d (.i .i64 i)), (1, .d (.sl .str q)), (0, .d (.sl .str p))], []⟩ = if p.drop i = q.drop i then some (.ex 0, ⟨[], []⟩) else some (.ret, ⟨[(4, .d (.b false))], []⟩) := by
  refine loop_rec (fun i : Nat => (⟨[(5, .d (.i .i64 i)), (1, .d (.sl .str q)), (0, .d (.sl .str p))], []⟩ : St)) _ (fun i => p.length - i) (fun i => i ≤ p.length) (fun i hi => ?_)
  by_cases h : i < p.length
  · have h' : i < q.length := by omega
    have e : p[i]? = some p[i] := List.getElem?_eq_getElem h
    have e' : q[i]? = some q[i] := List.getElem?_eq_getElem h'
    have hd : (p.drop i = q.drop i) ↔ (p[i] = q[i] ∧ p.drop (i + 1) = q.drop (i + 1)) := by
      rw [List.drop_eq_getElem_cons h, List.drop_eq_getElem_cons h', List.cons.injEq]
    by_cases hn : p[i] = q[i]
    · refine .inl ⟨i + 1, ?_, by omega, by omega, by simp only [hd, hn, true_and]⟩
      simp -implicitDefEqProofs [sSamePath_l0, h, e, e', hn, wrap_succ h hp]
    · refine .inr ⟨(.ret, ⟨[(4, .d (.b false))], []⟩), by simp, ?_, by simp only [hd, hn, false_and, if_false]⟩
      simp -implicitDefEqProofs [sSamePath_l0, h, e, e', hn]
  · have : i = p.length := by omega
    subst this
    refine .inr ⟨(.ex 0, ⟨[], []⟩), by simp, ?_, by simp [hq]⟩
    simp -implicitDefEqProofs [sSamePath_l0]
theorem sSamePath_ok (p q : List (List UInt8)) (hp : p.length ≤ 9223372036854775807) : V sSamePath [.d (.sl .str p), .d (.sl .str q)] [] = some ([], .one (.fz (.b (decide (p = q))))) := by
  rw [V_eq (fn := sSamePath_m) rfl]
  by_cases hq : p.length = q.length
  · have := sSamePath_l p q hp hq 0 (Nat.zero_le _)
    simp only [List.drop_zero, Int.natCast_zero] at this
    have hq' : (p.length : Int) = q.length := by omega
    by_cases h : p = q
    · rw [if_pos h] at this; rw [decide_eq_true h]; simp -implicitDefEqProofs [sSamePath_m, this, hq']
    · rw [if_neg h] at this; rw [decide_eq_false h]; simp -implicitDefEqProofs [sSamePath_m, this, hq']
  · have h : p ≠ q := fun e => hq (by rw [e])
    have hq' : ¬ (p.length : Int) = q.length := by omega
    simp -implicitDefEqProofs [sSamePath_m, hq, hq', h]
def freeB (b : UInt8) : Bool := (decide (97 ≤ b) && decide (b ≤ 122)) || (decide (65 ≤ b) && decide (b ≤ 90)) || (decide (48 ≤ b) && decide (b ≤ 57)) || decide (b = 45) || decide (b = 46) || decide (b = 95) || decide (b = 126)
def hexU (n : Nat) : UInt8 := if n < 10 then UInt8.ofNat (48 + n) else UInt8.ofNat (55 + n)
def quote1 (b : UInt8) : List UInt8 := if freeB b then [b] else [37, hexU (b.toNat / 16), hexU (b.toNat % 16)]
def quoteB (s : List UInt8) : List UInt8 := s.flatMap quote1
theorem quote1_len (b : UInt8) : (quote1 b).length ≤ 3 := by unfold quote1; split <;> simp
theorem quoteB_len (s : List UInt8) : (quoteB s).length ≤ 3 * s.length := by
  induction s with
  | nil => simp [quoteB]
  | cons b s ih =>
    have := quote1_len b
    simp only [quoteB, List.flatMap_cons, List.length_append, List.length_cons] at ih ⊢
    omega
theorem quoteB_take (s : List UInt8) (i : Nat) (h : i < s.length) : quoteB (s.take (i + 1)) = quoteB (s.take i) ++ quote1 s[i] := by
  rw [List.take_add_one, List.getElem?_eq_getElem h]
  simp only [quoteB, Option.toList_some, List.flatMap_append, List.flatMap_cons, List.flatMap_nil, List.append_nil]
theorem sl2Free_ok (b : UInt8) : V sl2Free [.d (.u b)] [] = some ([], .one (.fz (.b (freeB b)))) := by
  rw [V_eq (fn := sl2Free_m) rfl]
  have e1 := sl1Small_ok b
  have e2 := sl1Large_ok b
  have e3 := sl1Digit_ok b
  unfold freeB
  generalize (decide (97 ≤ b) && decide (b ≤ 122)) = t1 at e1 ⊢
  generalize (decide (65 ≤ b) && decide (b ≤ 90)) = t2 at e2 ⊢
  generalize (decide (48 ≤ b) && decide (b ≤ 57)) = t3 at e3 ⊢
  obtain ⟨t4, h4⟩ : ∃ t, decide (b = 45) = t := ⟨_, rfl⟩
  obtain ⟨t5, h5⟩ : ∃ t, decide (b = 46) = t := ⟨_, rfl⟩
  obtain ⟨t6, h6⟩ : ∃ t, decide (b = 95) = t := ⟨_, rfl⟩
  obtain ⟨t7, h7⟩ : ∃ t, decide (b = 126) = t := ⟨_, rfl⟩
  rw [h4, h5, h6, h7]
  cases t1
  · cases t2
    · cases t3
      · cases t4
        · cases t5
          · cases t6 <;> simp -implicitDefEqProofs [sl2Free_m, e1, e2, e3, h4, h5, h6, h7]
          · simp -implicitDefEqProofs [sl2Free_m, e1, e2, e3, h4, h5]
        · simp -implicitDefEqProofs [sl2Free_m, e1, e2, e3, h4]
      · simp -implicitDefEqProofs [sl2Free_m, e1, e2, e3]
    · simp -implicitDefEqProofs [sl2Free_m, e1, e2]
  · simp -implicitDefEqProofs [sl2Free_m, e1]
theorem sl2Digit_ok (n : Nat) (hn : n < 16) : V sl2Digit [.d (.i .i64 n)] [] = some ([], .one (.fz (.u (hexU n)))) := by
  rw [V_eq (fn := sl2Digit_m) rfl]
  have w1 : IntKind.i64.wrap (48 + (n : Int)) = 48 + n := wrap_id (by omega) (by omega)
  have w2 : IntKind.i64.wrap (65 + (n : Int)) = 65 + n := wrap_id (by omega) (by omega)
  have w3 : IntKind.i64.wrap (65 + (n : Int) - 10) = 65 + n - 10 := wrap_id (by omega) (by omega)
  unfold hexU
  by_cases h : n < 10
  · have h' : (n : Int) < 10 := by omega
    have e : ((48 + (n : Int)) % 256).toNat = 48 + n := by omega
    simp -implicitDefEqProofs [sl2Digit_m, h, h', w1, e]
  · have h' : ¬ (n : Int) < 10 := by omega
    have e : ((65 + (n : Int) - 10) % 256).toNat = 55 + n := by omega
    simp -implicitDefEqProofs [sl2Digit_m, h, h', w2, w3, e]
theorem sQuote_l (s : List UInt8) (hs : s.length ≤ 1048576) : ∀ i : Nat, i ≤ s.length →
    DL V (.loop sQuote_l0) ⟨[(4, .d (.i .i64 i)), (3, .h 67 0 (quoteB (s.take i)).length), (0, .d (.s s))], [(67, .ls .u8 false (quoteB (s.take i)) 0 [])]⟩ = some (.ex 0, ⟨[(3, .h 67 0 (quoteB s).length)], [(67, .ls .u8 false (quoteB s) 0 [])]⟩) := by
  refine loop_rec (fun i : Nat => (⟨[(4, .d (.i .i64 i)), (3, .h 67 0 (quoteB (s.take i)).length), (0, .d (.s s))], [(67, .ls .u8 false (quoteB (s.take i)) 0 [])]⟩ : St)) _ (fun i => s.length - i) (fun i => i ≤ s.length) (fun i hi => ?_)
  by_cases h : i < s.length
  · have e : s[i]? = some s[i] := List.getElem?_eq_getElem h
    have hl : (quoteB (s.take i)).length ≤ 3 * i := by have := quoteB_len (s.take i); rw [List.length_take] at this; omega
    have e2 := sl2Free_ok s[i]
    have hlt := s[i].toNat_lt
    obtain ⟨x, hx⟩ : ∃ x, s[i].toNat / 16 = x := ⟨_, rfl⟩
    obtain ⟨y, hy⟩ : ∃ y, s[i].toNat % 16 = y := ⟨_, rfl⟩
    have e3 := sl2Digit_ok x (by omega)
    have e4 := sl2Digit_ok y (by omega)
    have w1 : IntKind.i64.wrap ((s[i].toNat : Int) / 16) = x := by
      rw [show (s[i].toNat : Int) / 16 = x by omega]; exact wrap_id (by omega) (by omega)
    have w2 : (s[i].toNat : Int).tmod 16 = y := by
      rw [Int.tmod_eq_emod_of_nonneg (by omega)]; omega
    have w3 : (s[i].toNat : Int) % 16 = y := by omega
    refine .inl ⟨i + 1, ?_, by omega, by omega, rfl⟩
    rw [quoteB_take s i h]
    generalize quoteB (s.take i) = out at hl ⊢
    unfold quote1
    rw [hx, hy]
    cases hp : freeB s[i] <;> rw [hp] at e2
    · have hb : out.length + 3 ≤ 140737488355328 := by omega
      simp -implicitDefEqProofs [sQuote_l0, h, e, e2, e3, e4, wrap_b, w1, w2, w3, wrap_succ h (by omega : s.length ≤ 9223372036854775807), hb]
    · have hb : out.length + 1 ≤ 140737488355328 := by omega
      simp -implicitDefEqProofs [sQuote_l0, h, e, e2, wrap_succ h (by omega : s.length ≤ 9223372036854775807), hb]
  · have : i = s.length := by omega
    subst this
    refine .inr ⟨(.ex 0, ⟨[(3, .h 67 0 (quoteB s).length)], [(67, .ls .u8 false (quoteB s) 0 [])]⟩), by simp, ?_, rfl⟩
    simp -implicitDefEqProofs [sQuote_l0]
theorem sQuote_ok (s : List UInt8) (hs : s.length ≤ 1048576) : V sQuote [.d (.s s)] [] = some ([], .one (.fz (.s (quoteB s)))) := by
  rw [V_eq (fn := sQuote_m) rfl]
  have := sQuote_l s hs 0 (Nat.zero_le _)
  simp only [List.take_zero, Int.natCast_zero, show quoteB [] = [] from rfl, List.length_nil] at this
  simp -implicitDefEqProofs [sQuote_m, this]
theorem indexByte_ok (s : List UInt8) (c : UInt8) : V x_strings_IndexByte [.d (.s s), .d (.u c)] [] = some ([], .one (.fz (.i .i64 (if s.contains c then (s.findIdx (· == c) : Int) else -1)))) := by
  rw [V, evL_ext tab extE rfl]; rfl
theorem hexTab : ∀ n : Nat, n < 16 → [(48 : UInt8), 49, 50, 51, 52, 53, 54, 55, 56, 57, 65, 66, 67, 68, 69, 70][n]? = some (hexU n) := by decide
theorem shr4 (b : UInt8) : (UInt8.ofNat (b.toNat / 16)).toNat = b.toNat / 16 := by
  have := b.toNat_lt
  rw [UInt8.toNat_ofNat']; omega
theorem and15 (b : UInt8) : (b &&& 15).toNat = b.toNat % 16 := by
  rw [UInt8.toNat_and]
  exact Nat.and_two_pow_sub_one_eq_mod b.toNat 4
theorem iQuote_l (s : List UInt8) (hs : s.length ≤ 1048576) : ∀ i : Nat, i ≤ s.length →
    DL V (.loop iQuote_l0) ⟨[(4, .d (.i .i64 i)), (3, .h 67 0 (quoteB (s.take i)).length), (0, .d (.s s))], [(67, .ls .u8 false (quoteB (s.take i)) 0 [])]⟩ = some (.ex 0, ⟨[(3, .h 67 0 (quoteB s).length)], [(67, .ls .u8 false (quoteB s) 0 [])]⟩) := by
  refine loop_rec (fun i : Nat => (⟨[(4, .d (.i .i64 i)), (3, .h 67 0 (quoteB (s.take i)).length), (0, .d (.s s))], [(67, .ls .u8 false (quoteB (s.take i)) 0 [])]⟩ : St)) _ (fun i => s.length - i) (fun i => i ≤ s.length) (fun i hi => ?_)
  by_cases h : i < s.length
  · have e : s[i]? = some s[i] := List.getElem?_eq_getElem h
    have hl : (quoteB (s.take i)).length ≤ 3 * i := by have := quoteB_len (s.take i); rw [List.length_take] at this; omega
    have hlt := s[i].toNat_lt
    refine .inl ⟨i + 1, ?_, by omega, by omega, rfl⟩
    rw [quoteB_take s i h]
    have e1 := iisSmall_ok s[i]
    have e2 := iisLarge_ok s[i]
    have e3 := iisDigit_ok s[i]
    have e4 := indexByte_ok [45, 46, 95, 126] s[i]
    have hf : freeB s[i] = ((decide (97 ≤ s[i]) && decide (s[i] ≤ 122)) || (decide (65 ≤ s[i]) && decide (s[i] ≤ 90)) || (decide (48 ≤ s[i]) && decide (s[i] ≤ 57)) || [45, 46, 95, 126].contains s[i]) := by
      simp [freeB, Bool.or_assoc]
    have hq : quote1 s[i] = if freeB s[i] then [s[i]] else [37, hexU (s[i].toNat / 16), hexU (s[i].toNat % 16)] := rfl
    rw [hq, hf]
    generalize quoteB (s.take i) = out at hl ⊢
    have h15 := hexTab (s[i].toNat % 16) (by omega)
    have h16 := hexTab (s[i].toNat / 16) (by omega)
    rw [← and15] at h15
    rw [← shr4] at h16
    rw [← and15, ← shr4]
    have hb : out.length + 1 ≤ 140737488355328 := by omega
    have hb3 : out.length + 3 ≤ 140737488355328 := by omega
    have hw := wrap_succ h (by omega : s.length ≤ 9223372036854775807)
    generalize (decide (97 ≤ s[i]) && decide (s[i] ≤ 122)) = t1 at e1 ⊢
    generalize (decide (65 ≤ s[i]) && decide (s[i] ≤ 90)) = t2 at e2 ⊢
    generalize (decide (48 ≤ s[i]) && decide (s[i] ≤ 57)) = t3 at e3 ⊢
    generalize [45, 46, 95, 126].contains s[i] = t4 at e4 ⊢
    cases t1
    · cases t2
      · cases t3
        · cases t4
          · simp -implicitDefEqProofs [iQuote_l0, h, e, e1, e2, e3, e4, hb3, h15, h16, hw, -UInt8.toNat_ofNat', -UInt8.toNat_and]
          · simp -implicitDefEqProofs [iQuote_l0, h, e, e1, e2, e3, e4, hb, hw]
        · simp -implicitDefEqProofs [iQuote_l0, h, e, e1, e2, e3, hb, hw]
      · simp -implicitDefEqProofs [iQuote_l0, h, e, e1, e2, hb, hw]
    · simp -implicitDefEqProofs [iQuote_l0, h, e, e1, hb, hw]
  · have : i = s.length := by omega
    subst this
    refine .inr ⟨(.ex 0, ⟨[(3, .h 67 0 (quoteB s).length)], [(67, .ls .u8 false (quoteB s) 0 [])]⟩), by simp, ?_, rfl⟩
    simp -implicitDefEqProofs [iQuote_l0]
theorem iQuote_ok (s : List UInt8) (hs : s.length ≤ 1048576) : V iQuote [.d (.s s)] [] = some ([], .one (.fz (.s (quoteB s)))) := by
  rw [V_eq (fn := iQuote_m) rfl]
  have := iQuote_l s hs 0 (Nat.zero_le _)
  simp only [List.take_zero, Int.natCast_zero, show quoteB [] = [] from rfl, List.length_nil] at this
  simp -implicitDefEqProofs [iQuote_m, this]
def pathTextB (p : List (List UInt8)) : List UInt8 := if pathB p then (if p = [] then [47] else p.flatMap (fun x => 47 :: quoteB x)) else []
theorem pathB_bounds {p : List (List UInt8)} (h : pathB p = true) : p.length ≤ 4 ∧ ∀ s ∈ p, s.length ≤ 8 := by
  simp only [pathB, Bool.and_eq_true, decide_eq_true_eq, List.all_eq_true] at h
  refine ⟨h.2, fun s hs => ?_⟩
  have := h.1 s hs
  simp only [nameB, Bool.and_eq_true, decide_eq_true_eq] at this
  exact this.1.1.1.1.2
theorem pt_len {p : List (List UInt8)} (h : ∀ s ∈ p, s.length ≤ 8) : (p.flatMap (fun x => 47 :: quoteB x)).length ≤ 25 * p.length := by
  induction p with
  | nil => simp
  | cons a p ih =>
    have h1 := quoteB_len a
    have h2 := h a (by simp)
    have h3 := ih (fun s hs => h s (by simp [hs]))
    simp only [List.flatMap_cons, List.length_append, List.length_cons] at h3 ⊢
    omega
theorem pt_take (p : List (List UInt8)) (i : Nat) (h : i < p.length) : (p.take (i + 1)).flatMap (fun x => 47 :: quoteB x) = (p.take i).flatMap (fun x => 47 :: quoteB x) ++ [47] ++ quoteB p[i] := by
  rw [List.take_add_one, List.getElem?_eq_getElem h]
  simp only [Option.toList_some, List.flatMap_append, List.flatMap_cons, List.flatMap_nil, List.append_nil, List.append_assoc, List.cons_append, List.nil_append]
theorem join_ok (l : List (List UInt8)) (sep : List UInt8) (h1 : l.length ≤ 140737488355328) (h2 : (joinB sep l).length ≤ 140737488355328) : V x_strings_Join [.d (.sl .str l), .d (.s sep)] [] = some ([], .one (.fz (.s (joinB sep l)))) := by
  rw [V, evL_ext tab extE rfl]
  show x_strings_Join_e [.d (.sl .str l), .d (.s sep)] = _
  exact if_pos ⟨h1, h2⟩
theorem join_slash : ∀ (p : List (List UInt8)), p ≠ [] → 47 :: joinB [47] (p.map quoteB) = p.flatMap (fun x => 47 :: quoteB x)
  | [], h => absurd rfl h
  | [a], _ => by simp [joinB]
  | a :: b :: l, _ => by
    have := join_slash (b :: l) (by simp)
    simp only [List.map_cons, List.flatMap_cons] at this ⊢
    rw [← this]
    simp [joinB]
theorem sPathText_l (p : List (List UInt8)) (hp : p.length ≤ 4 ∧ ∀ s ∈ p, s.length ≤ 8) : ∀ i : Nat, i ≤ p.length →
    DL V (.loop sPathText_l0) ⟨[(4, .d (.i .i64 i)), (3, .d (.s ((p.take i).flatMap (fun x => 47 :: quoteB x)))), (0, .d (.sl .str p))], []⟩ = some (.ex 0, ⟨[(3, .d (.s (p.flatMap (fun x => 47 :: quoteB x))))], []⟩) := by
  refine loop_rec (fun i : Nat => (⟨[(4, .d (.i .i64 i)), (3, .d (.s ((p.take i).flatMap (fun x => 47 :: quoteB x)))), (0, .d (.sl .str p))], []⟩ : St)) _ (fun i => p.length - i) (fun i => i ≤ p.length) (fun i hi => ?_)
  by_cases h : i < p.length
  · have e : p[i]? = some p[i] := List.getElem?_eq_getElem h
    have hb := hp.2 p[i] (List.getElem_mem h)
    have e1 := sQuote_ok p[i] (by omega)
    have hq := quoteB_len p[i]
    have hl := pt_len (p := p.take i) (fun s hs => hp.2 s (List.mem_of_mem_take hs))
    rw [List.length_take] at hl
    refine .inl ⟨i + 1, ?_, by omega, by omega, rfl⟩
    rw [pt_take p i h]
    generalize (p.take i).flatMap (fun x => 47 :: quoteB x) = out at hl ⊢
    generalize quoteB p[i] = qq at hq e1 ⊢
    have hb1 : out.length + 1 ≤ 9223372036854775807 := by omega
    have hb2 : out.length + 1 + qq.length ≤ 9223372036854775807 := by omega
    simp -implicitDefEqProofs [sPathText_l0, h, e, e1, hb1, hb2, wrap_succ h (by omega : p.length ≤ 9223372036854775807)]
  · have : i = p.length := by omega
    subst this
    refine .inr ⟨(.ex 0, ⟨[(3, .d (.s (p.flatMap (fun x => 47 :: quoteB x))))], []⟩), by simp, ?_, rfl⟩
    simp -implicitDefEqProofs [sPathText_l0]
theorem sPathText_ok (p : List (List UInt8)) (hp : OkP p) : V sPathText [.d (.sl .str p)] [] = some ([], .one (.fz (.s (pathTextB p)))) := by
  rw [V_eq (fn := sPathText_m) rfl]
  have e1 := sPathOk_ok p hp
  unfold pathTextB
  cases h : pathB p <;> rw [h] at e1
  · simp -implicitDefEqProofs [sPathText_m, e1]
  · have e2 := sPathText_l p (pathB_bounds h) 0 (Nat.zero_le _)
    simp only [List.take_zero, Int.natCast_zero, List.flatMap_nil] at e2
    by_cases hn : p = []
    · have hf : p.flatMap (fun x => 47 :: quoteB x) = [] := by rw [hn]; rfl
      rw [hf] at e2
      rw [if_pos rfl, if_pos hn]
      simp -implicitDefEqProofs [sPathText_m, e1, e2]
    · have hf : ¬ (p.flatMap (fun x => 47 :: quoteB x) = []) := by
        cases p with
        | nil => exact absurd rfl hn
        | cons a l => simp
      generalize p.flatMap (fun x => 47 :: quoteB x) = z at hf e2 ⊢
      rw [if_pos rfl, if_neg hn]
      simp -implicitDefEqProofs [sPathText_m, e1, e2, hf]
theorem iPathText_l (p : List (List UInt8)) (hp : p.length ≤ 4 ∧ ∀ s ∈ p, s.length ≤ 8) : ∀ i : Nat, i ≤ p.length →
    DL V (.loop iPathText_l0) ⟨[(11, .d (.i .i64 i)), (10, .d (.i .i64 p.length)), (9, .d (.sl .str p)), (3, .h 67 0 i)], [(67, .ls .str false ((p.take i).map quoteB) 0 [])]⟩ = some (.ex 0, ⟨[(3, .h 67 0 p.length)], [(67, .ls .str false (p.map quoteB) 0 [])]⟩) := by
  refine loop_rec (fun i : Nat => (⟨[(11, .d (.i .i64 i)), (10, .d (.i .i64 p.length)), (9, .d (.sl .str p)), (3, .h 67 0 i)], [(67, .ls .str false ((p.take i).map quoteB) 0 [])]⟩ : St)) _ (fun i => p.length - i) (fun i => i ≤ p.length) (fun i hi => ?_)
  by_cases h : i < p.length
  · have e : p[i]? = some p[i] := List.getElem?_eq_getElem h
    have hb := hp.2 p[i] (List.getElem_mem h)
    have e1 := iQuote_ok p[i] (by omega)
    refine .inl ⟨i + 1, ?_, by omega, by omega, rfl⟩
    have ht : (p.take (i + 1)).map quoteB = (p.take i).map quoteB ++ [quoteB p[i]] := by
      rw [List.take_add_one, e]; simp only [Option.toList_some, List.map_append, List.map_cons, List.map_nil]
    rw [ht]
    have hl : ((p.take i).map quoteB).length = i := by simp; omega
    generalize (p.take i).map quoteB = out at hl ⊢
    have hb1 : (i + 1) * 16 ≤ 140737488355328 := by omega
    have htk : out.take i = out := List.take_of_length_le (by omega)
    simp -implicitDefEqProofs [iPathText_l0, h, e, e1, hb1, hl, htk, wrap_succ h (by omega : p.length ≤ 9223372036854775807)]
  · have : i = p.length := by omega
    subst this
    refine .inr ⟨(.ex 0, ⟨[(3, .h 67 0 p.length)], [(67, .ls .str false (p.map quoteB) 0 [])]⟩), by simp, ?_, rfl⟩
    simp -implicitDefEqProofs [iPathText_l0]
theorem iPathText_ok (p : List (List UInt8)) (hp : OkP p) : V iPathText [.d (.sl .str p)] [] = some ([], .one (.fz (.s (pathTextB p)))) := by
  rw [V_eq (fn := iPathText_m) rfl]
  have e1 := iPathOk_ok p hp
  unfold pathTextB
  cases h : pathB p <;> rw [h] at e1
  · simp -implicitDefEqProofs [iPathText_m, e1]
  · have hbd := pathB_bounds h
    have e2 := iPathText_l p hbd 0 (Nat.zero_le _)
    simp only [List.take_zero, Int.natCast_zero, List.map_nil] at e2
    have htk : (p.map quoteB).take p.length = p.map quoteB := List.take_of_length_le (by simp)
    have hpt := pt_len hbd.2
    have hjl : (joinB [47] (p.map quoteB)).length ≤ 140737488355328 := by
      by_cases hn : p = []
      · rw [hn]; decide
      · have := congrArg List.length (join_slash p hn)
        simp only [List.length_cons] at this
        omega
    have e3 := join_ok (p.map quoteB) [47] (by simp; omega) hjl
    by_cases hn : p = []
    · have hj : joinB [47] (p.map quoteB) = [] := by rw [hn]; rfl
      rw [hj] at e3
      rw [if_pos rfl, if_pos hn]
      simp -implicitDefEqProofs [iPathText_m, e1, e2, e3, htk]
    · have hj := join_slash p hn
      rw [if_pos rfl, if_neg hn]
      have hlen : (joinB [47] (p.map quoteB)).length + 1 = (p.flatMap (fun x => 47 :: quoteB x)).length := by rw [← hj]; rfl
      rw [← hj]
      have hb : 1 + (joinB [47] (p.map quoteB)).length ≤ 9223372036854775807 := by omega
      generalize joinB [47] (p.map quoteB) = z at e3 hb ⊢
      simp -implicitDefEqProofs [iPathText_m, e1, e2, e3, htk, hb]
theorem wtoStringS_l (l : List (T.den .str)) (h1 : l.length ≤ 1048576) (hz : ∀ x ∈ l, szT .str x ≤ 1048576) : ∀ post pre : List (T.den .str), l = pre ++ post →
    DL V (.loop wtoStringS_l0) ⟨[(4, .d (.i .i64 pre.length)), (3, .h 71 0 l.length), (0, .d (.sl .str l))], [(71, .ls .str false (pre ++ List.replicate post.length (T.zero .str)) 0 [])]⟩ = some (.ex 0, ⟨[(3, .h 71 0 l.length)], [(71, .ls .str false l 0 [])]⟩)
  | [], pre, hl => by
    rw [DL_loop]
    have : l = pre := by simpa using hl
    subst this
    simp -implicitDefEqProofs [wtoStringS_l0]
  | c0 :: post, pre, hl => by
    have ih := wtoStringS_l l h1 hz post (pre ++ [c0]) (by simp [hl])
    have hg : l[pre.length]? = some c0 := by rw [hl]; exact mid_get _ _ _
    have hlt : pre.length < l.length := by rw [hl]; simp
    have hg2 : l[pre.length] = c0 := (List.getElem?_eq_some_iff.1 hg).2
    have hw := wrap_succ hlt (by omega)
    simp only [List.append_assoc, List.cons_append, List.nil_append, List.length_append, List.length_cons, List.length_nil, Int.natCast_add, Int.natCast_one, Nat.zero_add, T.zero] at ih
    rw [DL_loop]
    generalize DL V (.loop wtoStringS_l0) = G at ih ⊢
    simp -implicitDefEqProofs [wtoStringS_l0, hg, hg2, hlt, hw, mid_get, mid_set, List.replicate_succ]
    exact ih
theorem wtoStringS_ok (l : List (T.den .str)) (h : szT (.sl .str) l ≤ 1048576) : V wtoStringS [.d (.sl .str l)] [] = some ([], .one (.own (.sl .str l))) := by
  rw [V_eq (fn := wtoStringS_m) rfl]
  obtain ⟨h1, h2⟩ := szT_sl h
  have e := wtoStringS_l l h1 h2 l [] rfl
  simp only [List.nil_append, List.length_nil, Int.natCast_zero] at e
  have hb : (l.length : Int) * 16 ≤ 140737488355328 := by omega
  simp -implicitDefEqProofs [wtoStringS_m, hb] at e ⊢
  simp -implicitDefEqProofs [e]
theorem wszStringS_l (l : List (T.den .str)) (h1 : l.length ≤ 9223372036854775807) (hb : ∀ x ∈ l, BndT .str x) : ∀ (post pre : List (T.den .str)) (m : Int), l = pre ++ post → 0 ≤ m → m ≤ 1048576 →
    ∃ q : (Ex × St), DL V (.loop wszStringS_l0) ⟨[(5, .d (.i .i64 pre.length)), (1, .d (.i .i64 m)), (0, .d (.sl .str l))], []⟩ = some q ∧ (q = (.ret, ⟨[(4, .d (.i .i64 (-1)))], []⟩) ∨ ∃ r : Int, q = (.ex 0, ⟨[(1, .d (.i .i64 r))], []⟩) ∧ 0 ≤ r ∧ r + (szL .str post : Nat) = m)
  | [], pre, m, hl, h0, hm => by
    rw [DL_loop]
    have : l = pre := by simpa using hl
    subst this
    exact ⟨(.ex 0, ⟨[(1, .d (.i .i64 m))], []⟩), by simp -implicitDefEqProofs [wszStringS_l0], .inr ⟨m, rfl, h0, by simp [szL]⟩⟩
  | c0 :: post, pre, m, hl, h0, hm => by
    have hg : l[pre.length]? = some c0 := by rw [hl]; exact mid_get _ _ _
    have hlt : pre.length < l.length := by rw [hl]; simp
    have hg2 : l[pre.length] = c0 := (List.getElem?_eq_some_iff.1 hg).2
    have hw := wrap_succ hlt h1
    have hw2 : IntKind.i64.wrap (m - (c0.length : Int)) = m - (c0.length : Int) := wrap_id (by have : c0.length ≤ 9223372036854775807 := hb c0 (by rw [hl]; simp); omega) (by omega)
    obtain ⟨r, e1, q⟩ : ∃ r : Int, m - (c0.length : Int) = r ∧ (r < 0 ∨ (0 ≤ r ∧ r + (szT .str c0 : Nat) = m)) := ⟨_, rfl, by simp only [szT]; omega⟩
    rw [e1] at hw2
    have hw3 : IntKind.i64.wrap r = r := hw2
    rw [DL_loop]
    by_cases c : r < 0
    · exact ⟨(.ret, ⟨[(4, .d (.i .i64 (-1)))], []⟩), by simp -implicitDefEqProofs [wszStringS_l0, hg, hg2, hlt, hw, e1, hw3, c], .inl rfl⟩
    · have q : 0 ≤ r ∧ r + (szT .str c0 : Nat) = m := by omega
      obtain ⟨z, i1, i2⟩ := wszStringS_l l h1 hb post (pre ++ [c0]) r (by simp [hl]) q.1 (by omega)
      simp only [List.length_append, List.length_cons, List.length_nil, Int.natCast_add, Int.natCast_one, Nat.zero_add] at i1
      refine ⟨z, by generalize DL V (.loop wszStringS_l0) = G at i1 ⊢; simp -implicitDefEqProofs [wszStringS_l0, hg, hg2, hlt, hw, e1, hw3, c]; exact i1, ?_⟩
      rcases i2 with i2 | ⟨r', i2, i3, i4⟩
      · exact .inl i2
      · exact .inr ⟨r', i2, i3, by rw [szL_cons]; omega⟩
theorem wszStringS_ok (l : List (T.den .str)) (hb : BndT (.sl .str) l) (m : Int) (h0 : 0 ≤ m) (hm : m ≤ 1048576) : ∃ r : Int, V wszStringS [.d (.sl .str l), .d (.i .i64 m)] [] = some ([], .one (.fz (.i .i64 r))) ∧ Sized r m (szT (.sl .str) l) := by
  rw [V_eq (fn := wszStringS_m) rfl]
  have h1 : l.length ≤ 9223372036854775807 := hb.1
  have hw : IntKind.i64.wrap (m - (l.length : Int)) = m - (l.length : Int) := wrap_id (by omega) (by omega)
  by_cases c : m - (l.length : Int) < 0
  · exact ⟨-1, by simp -implicitDefEqProofs [wszStringS_m, hw, c], .inl rfl⟩
  · obtain ⟨z, i1, i2⟩ := wszStringS_l l h1 hb.2 l [] (m - (l.length : Int)) rfl (by omega) (by omega)
    simp only [List.length_nil, Int.natCast_zero] at i1
    rcases i2 with i2 | ⟨r, i2, i3, i4⟩
    · rw [i2] at i1; exact ⟨-1, by simp -implicitDefEqProofs [wszStringS_m, hw, c, i1], .inl rfl⟩
    · rw [i2] at i1; exact ⟨r, by simp -implicitDefEqProofs [wszStringS_m, hw, c, i1], .inr ⟨i3, by simp only [szT_slE]; omega⟩⟩
theorem weqStringS_l (l : List (T.den .str)) (h1 : l.length ≤ 9223372036854775807) (hb : ∀ x ∈ l, BndT .str x) : ∀ post pre : List (T.den .str), l = pre ++ post →
    DL V (.loop weqStringS_l0) ⟨[(5, .d (.i .i64 pre.length)), (1, .d (.sl .str l)), (0, .d (.sl .str l))], []⟩ = some (.ex 0, ⟨[], []⟩)
  | [], pre, hl => by
    rw [DL_loop]
    have : l = pre := by simpa using hl
    subst this
    simp -implicitDefEqProofs [weqStringS_l0]
  | c0 :: post, pre, hl => by
    have ih := weqStringS_l l h1 hb post (pre ++ [c0]) (by simp [hl])
    have hg : l[pre.length]? = some c0 := by rw [hl]; exact mid_get _ _ _
    have hlt : pre.length < l.length := by rw [hl]; simp
    have hg2 : l[pre.length] = c0 := (List.getElem?_eq_some_iff.1 hg).2
    have hw := wrap_succ hlt h1
    simp only [List.length_append, List.length_cons, List.length_nil, Int.natCast_add, Int.natCast_one, Nat.zero_add] at ih
    rw [DL_loop]
    generalize DL V (.loop weqStringS_l0) = G at ih ⊢
    simp -implicitDefEqProofs [weqStringS_l0, hg, hg2, hlt, hw]
    exact ih
theorem weqStringS_ok (l : List (T.den .str)) (hb : BndT (.sl .str) l) : V weqStringS [.d (.sl .str l), .d (.sl .str l)] [] = some ([], .one (.fz (.b true))) := by
  rw [V_eq (fn := weqStringS_m) rfl]
  have e := weqStringS_l l hb.1 hb.2 l [] rfl
  simp only [List.length_nil, Int.natCast_zero] at e
  simp -implicitDefEqProofs [weqStringS_m, e]
theorem wmarkStringS_l (n : Nat) : ∀ (post pre : List (T.den .str)) (k : Nat), n = pre.length + post.length → n ≤ 140737488355328 → (markT (.sl .str) post k).2 ≤ 4611686018427387904 → (∀ x ∈ post, BndM .str x) →
    DL V (.loop wmarkStringS_l0) ⟨[(5, .d (.i .i64 pre.length)), (1, .d (.i .i64 k)), (0, .h 0 0 n)], [(0, .ls .str false (pre ++ post) 0 [])]⟩ = some (.ex 0, ⟨[(1, .d (.i .i64 ((markT (.sl .str) post k).2 : Nat)))], [(0, .ls .str false (pre ++ (markT (.sl .str) post k).1) 0 [])]⟩)
  | [], pre, k, hn, hn2, hk, hB => by
    rw [DL_loop]
    have : n = pre.length := by simpa using hn
    subst this
    simp -implicitDefEqProofs [wmarkStringS_l0, markT, mkFold]
  | c0 :: post, pre, k, hn, hn2, hk, hB => by
    have hlt : pre.length < n := by rw [hn]; simp
    have hw := wrap_succ hlt (by omega)
    change (markT (.sl .str) post (markT .str c0 k).2).2 ≤ 4611686018427387904 at hk
    change _ = some (Ex.ex 0, (⟨[(1, .d (.i .i64 ((markT (.sl .str) post (markT .str c0 k).2).2 : Nat)))], [(0, .ls .str false (pre ++ (markT .str c0 k).1 :: (markT (.sl .str) post (markT .str c0 k).2).1) 0 [])]⟩ : St))
    have hB0 := hB c0 (by simp)
    have hB0 : BndM .str c0 := hB0
    have hmono := markT_le (.sl .str) post (markT .str c0 k).2
    have hm0 := markT_le .str c0 k
    obtain ⟨k0, hk0⟩ : ∃ k0, k + 1 = k0 := ⟨_, rfl⟩
    have hc : (markT .str c0 k).2 = k0 := by subst hk0; rfl
    have hd : (markT .str c0 k).1 = mtx k := by subst hk0; rfl
    have e0 := wmarkText_ok k (by omega)
    have w0 : IntKind.i64.wrap (((k : Nat) : Int) + 1) = (k0 : Int) := by rw [← hk0]; exact wrap_id (by omega) (by omega)
    have ih := wmarkStringS_l n post (pre ++ [(markT .str c0 k).1]) (markT .str c0 k).2 (by simp at hn ⊢; omega) hn2 hk (fun x hx => hB x (by simp [hx]))
    simp only [List.append_assoc, List.cons_append, List.nil_append, List.length_append, List.length_cons, List.length_nil, Int.natCast_add, Int.natCast_one, Nat.zero_add] at ih
    rw [DL_loop]
    rw [hc, hd] at ih ⊢
    generalize DL V (.loop wmarkStringS_l0) = G at ih ⊢
    simp -implicitDefEqProofs [wmarkStringS_l0, hlt, hw, mid_get, mid_set, e0, w0]
    exact ih
theorem wmarkStringS_ok (l : List (T.den .str)) (k : Nat) (h1 : l.length ≤ 140737488355328) (hk : (markT (.sl .str) l k).2 ≤ 4611686018427387904) (hB : ∀ x ∈ l, BndM .str x) : V wmarkStringS [.h 0 0 l.length, .d (.i .i64 k)] [.ls .str false l 0 []] = some ([some (.ls .str false (markT (.sl .str) l k).1 0 [])], .one (.fz (.i .i64 ((markT (.sl .str) l k).2 : Nat)))) := by
  rw [V_eq (fn := wmarkStringS_m) rfl]
  have e := wmarkStringS_l l.length l [] k (by simp) h1 hk hB
  simp only [List.length_nil, Int.natCast_zero, List.nil_append] at e
  simp -implicitDefEqProofs [wmarkStringS_m, e]
theorem wtoPage_ok (c0 : List (T.den .str)) (c1 : List UInt8) (c2 : List UInt8) (h : szT (.sl .str) c0 + c1.length + c2.length ≤ 1048576) : V wtoPage [.agg [.d (.sl .str c0), .d (.s c1), .d (.s c2)]] [] = some ([], .agg [.own (.sl .str c0), .fz (.s c1), .fz (.s c2)]) := by
  rw [V_eq (fn := wtoPage_m) rfl]
  have e0 := wtoStringS_ok c0 (by omega)
  simp -implicitDefEqProofs [wtoPage_m, e0]
theorem weqPage_ok (c0 : List (T.den .str)) (c1 : List UInt8) (c2 : List UInt8) (hb : BndT TPage (c0, (c1, c2))) : V weqPage [.agg [.d (.sl .str c0), .d (.s c1), .d (.s c2)], .agg [.d (.sl .str c0), .d (.s c1), .d (.s c2)]] [] = some ([], .one (.fz (.b true))) := by
  rw [V_eq (fn := weqPage_m) rfl]
  have hb : BndT (.sl .str) c0 ∧ BndT .str c1 ∧ BndT .str c2 := hb
  have e0 := weqStringS_ok c0 hb.1
  simp -implicitDefEqProofs [weqPage_m, e0]
theorem wszPage_ok (c0 : List (T.den .str)) (c1 : List UInt8) (c2 : List UInt8) (hb : BndT TPage (c0, (c1, c2))) (m : Int) (h0 : 0 ≤ m) (hm : m ≤ 1048576) : ∃ r : Int, V wszPage [.agg [.d (.sl .str c0), .d (.s c1), .d (.s c2)], .d (.i .i64 m)] [] = some ([], .one (.fz (.i .i64 r))) ∧ Sized r m (szT (.sl .str) c0 + c1.length + c2.length) := by
  rw [V_eq (fn := wszPage_m) rfl]
  have hb : BndT (.sl .str) c0 ∧ BndT .str c1 ∧ BndT .str c2 := hb
  obtain ⟨r0, e0, q0⟩ := wszStringS_ok c0 hb.1 m (by omega) (by omega)
  by_cases c0x : r0 < 0
  · exact ⟨-1, by simp -implicitDefEqProofs [wszPage_m, e0, c0x], .inl rfl⟩
  have p0 : 0 ≤ r0 ∧ r0 + (szT (.sl .str) c0 : Nat) = m := by rcases q0 with q | q <;> omega
  obtain ⟨r1, q1⟩ : ∃ r : Int, r0 - (c1.length : Int) = r := ⟨_, rfl⟩
  have w1 : IntKind.i64.wrap (r0 - (c1.length : Int)) = r1 := by rw [q1]; exact wrap_id (by have : c1.length ≤ 9223372036854775807 := hb.2.1; omega) (by omega)
  by_cases c1x : r1 < 0
  · exact ⟨-1, by simp -implicitDefEqProofs [wszPage_m, e0, c0x, w1, c1x], .inl rfl⟩
  obtain ⟨r2, q2⟩ : ∃ r : Int, r1 - (c2.length : Int) = r := ⟨_, rfl⟩
  have w2 : IntKind.i64.wrap (r1 - (c2.length : Int)) = r2 := by rw [q2]; exact wrap_id (by have : c2.length ≤ 9223372036854775807 := hb.2.2; omega) (by omega)
  by_cases c2x : r2 < 0
  · exact ⟨-1, by simp -implicitDefEqProofs [wszPage_m, e0, c0x, w1, c1x, w2, c2x], .inl rfl⟩
  exact ⟨r2, by simp -implicitDefEqProofs [wszPage_m, e0, c0x, w1, c1x, w2, c2x], .inr ⟨by omega, by omega⟩⟩
theorem wtoPageS_l (l : List (T.den TPage)) (h1 : l.length ≤ 1048576) (hz : ∀ x ∈ l, szT TPage x ≤ 1048576) : ∀ post pre : List (T.den TPage), l = pre ++ post →
    DL V (.loop wtoPageS_l0) ⟨[(4, .d (.i .i64 pre.length)), (3, .h 71 0 l.length), (0, .d (.sl TPage l))], [(71, .ls TPage false (pre ++ List.replicate post.length (T.zero TPage)) 0 [])]⟩ = some (.ex 0, ⟨[(3, .h 71 0 l.length)], [(71, .ls TPage false l 0 [])]⟩)
  | [], pre, hl => by
    rw [DL_loop]
    have : l = pre := by simpa using hl
    subst this
    simp -implicitDefEqProofs [wtoPageS_l0]
  | (c0, (c1, c2)) :: post, pre, hl => by
    have ih := wtoPageS_l l h1 hz post (pre ++ [(c0, (c1, c2))]) (by simp [hl])
    have hg : l[pre.length]? = some (c0, (c1, c2)) := by rw [hl]; exact mid_get _ _ _
    have hlt : pre.length < l.length := by rw [hl]; simp
    have hg2 : l[pre.length] = (c0, (c1, c2)) := (List.getElem?_eq_some_iff.1 hg).2
    have hw := wrap_succ hlt (by omega)
    have e1 := wtoPage_ok c0 c1 c2 (by have := hz (c0, (c1, c2)) (by rw [hl]; simp); simpa [szT, Nat.add_assoc] using this)
    simp only [List.append_assoc, List.cons_append, List.nil_append, List.length_append, List.length_cons, List.length_nil, Int.natCast_add, Int.natCast_one, Nat.zero_add, T.zero] at ih
    rw [DL_loop]
    generalize DL V (.loop wtoPageS_l0) = G at ih ⊢
    simp -implicitDefEqProofs [wtoPageS_l0, hg, hg2, hlt, hw, mid_get, mid_set, List.replicate_succ, e1]
    exact ih
theorem wtoPageS_ok (l : List (T.den TPage)) (h : szT (.sl TPage) l ≤ 1048576) : V wtoPageS [.d (.sl TPage l)] [] = some ([], .one (.own (.sl TPage l))) := by
  rw [V_eq (fn := wtoPageS_m) rfl]
  obtain ⟨h1, h2⟩ := szT_sl h
  have e := wtoPageS_l l h1 h2 l [] rfl
  simp only [List.nil_append, List.length_nil, Int.natCast_zero] at e
  have hb : (l.length : Int) * 56 ≤ 140737488355328 := by omega
  simp -implicitDefEqProofs [wtoPageS_m, hb] at e ⊢
  simp -implicitDefEqProofs [e]
theorem wszPageS_l (l : List (T.den TPage)) (h1 : l.length ≤ 9223372036854775807) (hb : ∀ x ∈ l, BndT TPage x) : ∀ (post pre : List (T.den TPage)) (m : Int), l = pre ++ post → 0 ≤ m → m ≤ 1048576 →
    ∃ q : (Ex × St), DL V (.loop wszPageS_l0) ⟨[(5, .d (.i .i64 pre.length)), (1, .d (.i .i64 m)), (0, .d (.sl TPage l))], []⟩ = some q ∧ (q = (.ret, ⟨[(4, .d (.i .i64 (-1)))], []⟩) ∨ ∃ r : Int, q = (.ex 0, ⟨[(1, .d (.i .i64 r))], []⟩) ∧ 0 ≤ r ∧ r + (szL TPage post : Nat) = m)
  | [], pre, m, hl, h0, hm => by
    rw [DL_loop]
    have : l = pre := by simpa using hl
    subst this
    exact ⟨(.ex 0, ⟨[(1, .d (.i .i64 m))], []⟩), by simp -implicitDefEqProofs [wszPageS_l0], .inr ⟨m, rfl, h0, by simp [szL]⟩⟩
  | (c0, (c1, c2)) :: post, pre, m, hl, h0, hm => by
    have hg : l[pre.length]? = some (c0, (c1, c2)) := by rw [hl]; exact mid_get _ _ _
    have hlt : pre.length < l.length := by rw [hl]; simp
    have hg2 : l[pre.length] = (c0, (c1, c2)) := (List.getElem?_eq_some_iff.1 hg).2
    have hw := wrap_succ hlt h1
    obtain ⟨r, e1, q0⟩ := wszPage_ok c0 c1 c2 (hb (c0, (c1, c2)) (by rw [hl]; simp)) m h0 hm
    have q : r < 0 ∨ (0 ≤ r ∧ r + (szT TPage (c0, (c1, c2)) : Nat) = m) := by
      rcases q0 with q | q
      · exact .inl (by omega)
      · exact .inr (by simp only [szT, Nat.add_assoc] at *; simpa [Nat.add_assoc] using q)
    rw [DL_loop]
    by_cases c : r < 0
    · exact ⟨(.ret, ⟨[(4, .d (.i .i64 (-1)))], []⟩), by simp -implicitDefEqProofs [wszPageS_l0, hg, hg2, hlt, hw, e1, c], .inl rfl⟩
    · have q : 0 ≤ r ∧ r + (szT TPage (c0, (c1, c2)) : Nat) = m := by omega
      obtain ⟨z, i1, i2⟩ := wszPageS_l l h1 hb post (pre ++ [(c0, (c1, c2))]) r (by simp [hl]) q.1 (by omega)
      simp only [List.length_append, List.length_cons, List.length_nil, Int.natCast_add, Int.natCast_one, Nat.zero_add] at i1
      refine ⟨z, by generalize DL V (.loop wszPageS_l0) = G at i1 ⊢; simp -implicitDefEqProofs [wszPageS_l0, hg, hg2, hlt, hw, e1, c]; exact i1, ?_⟩
      rcases i2 with i2 | ⟨r', i2, i3, i4⟩
      · exact .inl i2
      · exact .inr ⟨r', i2, i3, by rw [szL_cons]; omega⟩
theorem wszPageS_ok (l : List (T.den TPage)) (hb : BndT (.sl TPage) l) (m : Int) (h0 : 0 ≤ m) (hm : m ≤ 1048576) : ∃ r : Int, V wszPageS [.d (.sl TPage l), .d (.i .i64 m)] [] = some ([], .one (.fz (.i .i64 r))) ∧ Sized r m (szT (.sl TPage) l) := by
  rw [V_eq (fn := wszPageS_m) rfl]
  have h1 : l.length ≤ 9223372036854775807 := hb.1
  have hw : IntKind.i64.wrap (m - (l.length : Int)) = m - (l.length : Int) := wrap_id (by omega) (by omega)
  by_cases c : m - (l.length : Int) < 0
  · exact ⟨-1, by simp -implicitDefEqProofs [wszPageS_m, hw, c], .inl rfl⟩
  · obtain ⟨z, i1, i2⟩ := wszPageS_l l h1 hb.2 l [] (m - (l.length : Int)) rfl (by omega) (by omega)
    simp only [List.length_nil, Int.natCast_zero] at i1
    rcases i2 with i2 | ⟨r, i2, i3, i4⟩
    · rw [i2] at i1; exact ⟨-1, by simp -implicitDefEqProofs [wszPageS_m, hw, c, i1], .inl rfl⟩
    · rw [i2] at i1; exact ⟨r, by simp -implicitDefEqProofs [wszPageS_m, hw, c, i1], .inr ⟨i3, by simp only [szT_slE]; omega⟩⟩
theorem weqPageS_l (l : List (T.den TPage)) (h1 : l.length ≤ 9223372036854775807) (hb : ∀ x ∈ l, BndT TPage x) : ∀ post pre : List (T.den TPage), l = pre ++ post →
    DL V (.loop weqPageS_l0) ⟨[(5, .d (.i .i64 pre.length)), (1, .d (.sl TPage l)), (0, .d (.sl TPage l))], []⟩ = some (.ex 0, ⟨[], []⟩)
  | [], pre, hl => by
    rw [DL_loop]
    have : l = pre := by simpa using hl
    subst this
    simp -implicitDefEqProofs [weqPageS_l0]
  | (c0, (c1, c2)) :: post, pre, hl => by
    have ih := weqPageS_l l h1 hb post (pre ++ [(c0, (c1, c2))]) (by simp [hl])
    have hg : l[pre.length]? = some (c0, (c1, c2)) := by rw [hl]; exact mid_get _ _ _
    have hlt : pre.length < l.length := by rw [hl]; simp
    have hg2 : l[pre.length] = (c0, (c1, c2)) := (List.getElem?_eq_some_iff.1 hg).2
    have hw := wrap_succ hlt h1
    have e1 := weqPage_ok c0 c1 c2 (hb (c0, (c1, c2)) (by rw [hl]; simp))
    simp only [List.length_append, List.length_cons, List.length_nil, Int.natCast_add, Int.natCast_one, Nat.zero_add] at ih
    rw [DL_loop]
    generalize DL V (.loop weqPageS_l0) = G at ih ⊢
    simp -implicitDefEqProofs [weqPageS_l0, hg, hg2, hlt, hw, e1]
    exact ih
theorem weqPageS_ok (l : List (T.den TPage)) (hb : BndT (.sl TPage) l) : V weqPageS [.d (.sl TPage l), .d (.sl TPage l)] [] = some ([], .one (.fz (.b true))) := by
  rw [V_eq (fn := weqPageS_m) rfl]
  have e := weqPageS_l l hb.1 hb.2 l [] rfl
  simp only [List.length_nil, Int.natCast_zero] at e
  simp -implicitDefEqProofs [weqPageS_m, e]
theorem wmarkPageS_l (n : Nat) : ∀ (post pre : List (T.den TPage)) (k : Nat), n = pre.length + post.length → n ≤ 140737488355328 → (markT (.sl TPage) post k).2 ≤ 4611686018427387904 → (∀ x ∈ post, BndM TPage x) →
    DL V (.loop wmarkPageS_l0) ⟨[(5, .d (.i .i64 pre.length)), (1, .d (.i .i64 k)), (0, .h 0 0 n)], [(0, .ls TPage false (pre ++ post) 0 [])]⟩ = some (.ex 0, ⟨[(1, .d (.i .i64 ((markT (.sl TPage) post k).2 : Nat)))], [(0, .ls TPage false (pre ++ (markT (.sl TPage) post k).1) 0 [])]⟩)
  | [], pre, k, hn, hn2, hk, hB => by
    rw [DL_loop]
    have : n = pre.length := by simpa using hn
    subst this
    simp -implicitDefEqProofs [wmarkPageS_l0, markT, mkFold]
  | (c0, (c1, c2)) :: post, pre, k, hn, hn2, hk, hB => by
    have hlt : pre.length < n := by rw [hn]; simp
    have hw := wrap_succ hlt (by omega)
    change (markT (.sl TPage) post (markT TPage (c0, (c1, c2)) k).2).2 ≤ 4611686018427387904 at hk
    change _ = some (Ex.ex 0, (⟨[(1, .d (.i .i64 ((markT (.sl TPage) post (markT TPage (c0, (c1, c2)) k).2).2 : Nat)))], [(0, .ls TPage false (pre ++ (markT TPage (c0, (c1, c2)) k).1 :: (markT (.sl TPage) post (markT TPage (c0, (c1, c2)) k).2).1) 0 [])]⟩ : St))
    have hB0 := hB (c0, (c1, c2)) (by simp)
    have hB0 : BndM (.sl .str) c0 ∧ BndM .str c1 ∧ BndM .str c2 := hB0
    have hmono := markT_le (.sl TPage) post (markT TPage (c0, (c1, c2)) k).2
    have hm0 := markT_le TPage (c0, (c1, c2)) k
    obtain ⟨k0, hk0⟩ : ∃ k0, (markT (.sl .str) c0 k).2 = k0 := ⟨_, rfl⟩
    obtain ⟨k1, hk1⟩ : ∃ k1, k0 + 1 = k1 := ⟨_, rfl⟩
    obtain ⟨k2, hk2⟩ : ∃ k2, k1 + 1 = k2 := ⟨_, rfl⟩
    have hc : (markT TPage (c0, (c1, c2)) k).2 = k2 := by subst hk0 hk1 hk2; rfl
    have hd : (markT TPage (c0, (c1, c2)) k).1 = ((markT (.sl .str) c0 k).1, (mtx k0, mtx k1)) := by subst hk0 hk1 hk2; rfl
    have y0 := markT_le (.sl .str) c0 k
    have e0 := wmarkStringS_ok c0 k hB0.1.1 (by omega) hB0.1.2
    rw [hk0] at e0
    have z0 := markL_len .str c0 k
    have e1 := wmarkText_ok k0 (by omega)
    have w1 : IntKind.i64.wrap (((k0 : Nat) : Int) + 1) = (k1 : Int) := by rw [← hk1]; exact wrap_id (by omega) (by omega)
    have e2 := wmarkText_ok k1 (by omega)
    have w2 : IntKind.i64.wrap (((k1 : Nat) : Int) + 1) = (k2 : Int) := by rw [← hk2]; exact wrap_id (by omega) (by omega)
    have ih := wmarkPageS_l n post (pre ++ [(markT TPage (c0, (c1, c2)) k).1]) (markT TPage (c0, (c1, c2)) k).2 (by simp at hn ⊢; omega) hn2 hk (fun x hx => hB x (by simp [hx]))
    simp only [List.append_assoc, List.cons_append, List.nil_append, List.length_append, List.length_cons, List.length_nil, Int.natCast_add, Int.natCast_one, Nat.zero_add] at ih
    rw [DL_loop]
    rw [hc, hd] at ih ⊢
    generalize DL V (.loop wmarkPageS_l0) = G at ih ⊢
    simp -implicitDefEqProofs [wmarkPageS_l0, hlt, hw, mid_get, mid_set, e0, z0, e1, w1, e2, w2]
    exact ih
theorem wmarkPageS_ok (l : List (T.den TPage)) (k : Nat) (h1 : l.length ≤ 140737488355328) (hk : (markT (.sl TPage) l k).2 ≤ 4611686018427387904) (hB : ∀ x ∈ l, BndM TPage x) : V wmarkPageS [.h 0 0 l.length, .d (.i .i64 k)] [.ls TPage false l 0 []] = some ([some (.ls TPage false (markT (.sl TPage) l k).1 0 [])], .one (.fz (.i .i64 ((markT (.sl TPage) l k).2 : Nat)))) := by
  rw [V_eq (fn := wmarkPageS_m) rfl]
  have e := wmarkPageS_l l.length l [] k (by simp) h1 hk hB
  simp only [List.length_nil, Int.natCast_zero, List.nil_append] at e
  simp -implicitDefEqProofs [wmarkPageS_m, e]
theorem wtoCli_ok (c0 : List (T.den TPage)) (h : szT (.sl TPage) c0 ≤ 1048576) : V wtoCli [.agg [.d (.sl TPage c0)]] [] = some ([], .agg [.own (.sl TPage c0)]) := by
  rw [V_eq (fn := wtoCli_m) rfl]
  have e0 := wtoPageS_ok c0 (by omega)
  simp -implicitDefEqProofs [wtoCli_m, e0]
theorem weqCli_ok (c0 : List (T.den TPage)) (hb : BndT TCli c0) : V weqCli [.agg [.d (.sl TPage c0)], .agg [.d (.sl TPage c0)]] [] = some ([], .one (.fz (.b true))) := by
  rw [V_eq (fn := weqCli_m) rfl]
  have hb : BndT (.sl TPage) c0 := hb
  have e0 := weqPageS_ok c0 hb
  simp -implicitDefEqProofs [weqCli_m, e0]
theorem wszCli_ok (c0 : List (T.den TPage)) (hb : BndT TCli c0) (m : Int) (h0 : 0 ≤ m) (hm : m ≤ 1048576) : ∃ r : Int, V wszCli [.agg [.d (.sl TPage c0)], .d (.i .i64 m)] [] = some ([], .one (.fz (.i .i64 r))) ∧ Sized r m (szT (.sl TPage) c0) := by
  rw [V_eq (fn := wszCli_m) rfl]
  have hb : BndT (.sl TPage) c0 := hb
  obtain ⟨r0, e0, q0⟩ := wszPageS_ok c0 hb m (by omega) (by omega)
  by_cases c0x : r0 < 0
  · exact ⟨-1, by simp -implicitDefEqProofs [wszCli_m, e0, c0x], .inl rfl⟩
  have p0 : 0 ≤ r0 ∧ r0 + (szT (.sl TPage) c0 : Nat) = m := by rcases q0 with q | q <;> omega
  exact ⟨r0, by simp -implicitDefEqProofs [wszCli_m, e0, c0x], .inr ⟨by omega, by omega⟩⟩
theorem wmarkCli_ok (c0 : List (T.den TPage)) (k : Nat) (h_c0 : c0.length ≤ 140737488355328) (b_c0 : ∀ x ∈ c0, BndM TPage x) (hk : (markT (.sl TPage) c0 (k)).2 ≤ 4611686018427387904) : V wmarkCli [.agg [.h 0 0 c0.length], .d (.i .i64 k)] [.ls TPage false c0 0 []] = some ([some (.ls TPage false (markT (.sl TPage) c0 (k)).1 0 [])], .one (.fz (.i .i64 ((markT (.sl TPage) c0 (k)).2 : Nat)))) := by
  rw [V_eq (fn := wmarkCli_m) rfl]
  have y_c0 := markT_le (.sl TPage) c0 (k)
  have z_c0 := markL_len TPage c0 (k)
  have e0 := wmarkPageS_ok c0 (k) h_c0 (by omega) b_c0
  simp -implicitDefEqProofs [wmarkCli_m, e0, z_c0]
theorem weqHead_ok (c0 : List UInt8) (c1 : List UInt8) (hb : BndT THead (c0, c1)) : V weqHead [.agg [.d (.s c0), .d (.s c1)], .agg [.d (.s c0), .d (.s c1)]] [] = some ([], .one (.fz (.b true))) := by
  rw [V_eq (fn := weqHead_m) rfl]
  have hb : BndT .str c0 ∧ BndT .str c1 := hb
  simp -implicitDefEqProofs [weqHead_m]
theorem weqHeadS_l (l : List (T.den THead)) (h1 : l.length ≤ 9223372036854775807) (hb : ∀ x ∈ l, BndT THead x) : ∀ post pre : List (T.den THead), l = pre ++ post →
    DL V (.loop weqHeadS_l0) ⟨[(5, .d (.i .i64 pre.length)), (1, .d (.sl THead l)), (0, .d (.sl THead l))], []⟩ = some (.ex 0, ⟨[], []⟩)
  | [], pre, hl => by
    rw [DL_loop]
    have : l = pre := by simpa using hl
    subst this
    simp -implicitDefEqProofs [weqHeadS_l0]
  | (c0, c1) :: post, pre, hl => by
    have ih := weqHeadS_l l h1 hb post (pre ++ [(c0, c1)]) (by simp [hl])
    have hg : l[pre.length]? = some (c0, c1) := by rw [hl]; exact mid_get _ _ _
    have hlt : pre.length < l.length := by rw [hl]; simp
    have hg2 : l[pre.length] = (c0, c1) := (List.getElem?_eq_some_iff.1 hg).2
    have hw := wrap_succ hlt h1
    have e1 := weqHead_ok c0 c1 (hb (c0, c1) (by rw [hl]; simp))
    simp only [List.length_append, List.length_cons, List.length_nil, Int.natCast_add, Int.natCast_one, Nat.zero_add] at ih
    rw [DL_loop]
    generalize DL V (.loop weqHeadS_l0) = G at ih ⊢
    simp -implicitDefEqProofs [weqHeadS_l0, hg, hg2, hlt, hw, e1]
    exact ih
theorem weqHeadS_ok (l : List (T.den THead)) (hb : BndT (.sl THead) l) : V weqHeadS [.d (.sl THead l), .d (.sl THead l)] [] = some ([], .one (.fz (.b true))) := by
  rw [V_eq (fn := weqHeadS_m) rfl]
  have e := weqHeadS_l l hb.1 hb.2 l [] rfl
  simp only [List.length_nil, Int.natCast_zero] at e
  simp -implicitDefEqProofs [weqHeadS_m, e]
theorem wmarkHeadS_l (n : Nat) : ∀ (post pre : List (T.den THead)) (k : Nat), n = pre.length + post.length → n ≤ 140737488355328 → (markT (.sl THead) post k).2 ≤ 4611686018427387904 → (∀ x ∈ post, BndM THead x) →
    DL V (.loop wmarkHeadS_l0) ⟨[(5, .d (.i .i64 pre.length)), (1, .d (.i .i64 k)), (0, .h 0 0 n)], [(0, .ls THead false (pre ++ post) 0 [])]⟩ = some (.ex 0, ⟨[(1, .d (.i .i64 ((markT (.sl THead) post k).2 : Nat)))], [(0, .ls THead false (pre ++ (markT (.sl THead) post k).1) 0 [])]⟩)
  | [], pre, k, hn, hn2, hk, hB => by
    rw [DL_loop]
    have : n = pre.length := by simpa using hn
    subst this
    simp -implicitDefEqProofs [wmarkHeadS_l0, markT, mkFold]
  | (c0, c1) :: post, pre, k, hn, hn2, hk, hB => by
    have hlt : pre.length < n := by rw [hn]; simp
    have hw := wrap_succ hlt (by omega)
    change (markT (.sl THead) post (markT THead (c0, c1) k).2).2 ≤ 4611686018427387904 at hk
    change _ = some (Ex.ex 0, (⟨[(1, .d (.i .i64 ((markT (.sl THead) post (markT THead (c0, c1) k).2).2 : Nat)))], [(0, .ls THead false (pre ++ (markT THead (c0, c1) k).1 :: (markT (.sl THead) post (markT THead (c0, c1) k).2).1) 0 [])]⟩ : St))
    have hB0 := hB (c0, c1) (by simp)
    have hB0 : BndM .str c0 ∧ BndM .str c1 := hB0
    have hmono := markT_le (.sl THead) post (markT THead (c0, c1) k).2
    have hm0 := markT_le THead (c0, c1) k
    obtain ⟨k0, hk0⟩ : ∃ k0, k + 1 = k0 := ⟨_, rfl⟩
    obtain ⟨k1, hk1⟩ : ∃ k1, k0 + 1 = k1 := ⟨_, rfl⟩
    have hc : (markT THead (c0, c1) k).2 = k1 := by subst hk0 hk1; rfl
    have hd : (markT THead (c0, c1) k).1 = (mtx k, mtx k0) := by subst hk0 hk1; rfl
    have e0 := wmarkText_ok k (by omega)
    have w0 : IntKind.i64.wrap (((k : Nat) : Int) + 1) = (k0 : Int) := by rw [← hk0]; exact wrap_id (by omega) (by omega)
    have e1 := wmarkText_ok k0 (by omega)
    have w1 : IntKind.i64.wrap (((k0 : Nat) : Int) + 1) = (k1 : Int) := by rw [← hk1]; exact wrap_id (by omega) (by omega)
    have ih := wmarkHeadS_l n post (pre ++ [(markT THead (c0, c1) k).1]) (markT THead (c0, c1) k).2 (by simp at hn ⊢; omega) hn2 hk (fun x hx => hB x (by simp [hx]))
    simp only [List.append_assoc, List.cons_append, List.nil_append, List.length_append, List.length_cons, List.length_nil, Int.natCast_add, Int.natCast_one, Nat.zero_add] at ih
    rw [DL_loop]
    rw [hc, hd] at ih ⊢
    generalize DL V (.loop wmarkHeadS_l0) = G at ih ⊢
    simp -implicitDefEqProofs [wmarkHeadS_l0, hlt, hw, mid_get, mid_set, e0, w0, e1, w1]
    exact ih
theorem wmarkHeadS_ok (l : List (T.den THead)) (k : Nat) (h1 : l.length ≤ 140737488355328) (hk : (markT (.sl THead) l k).2 ≤ 4611686018427387904) (hB : ∀ x ∈ l, BndM THead x) : V wmarkHeadS [.h 0 0 l.length, .d (.i .i64 k)] [.ls THead false l 0 []] = some ([some (.ls THead false (markT (.sl THead) l k).1 0 [])], .one (.fz (.i .i64 ((markT (.sl THead) l k).2 : Nat)))) := by
  rw [V_eq (fn := wmarkHeadS_m) rfl]
  have e := wmarkHeadS_l l.length l [] k (by simp) h1 hk hB
  simp only [List.length_nil, Int.natCast_zero, List.nil_append] at e
  simp -implicitDefEqProofs [wmarkHeadS_m, e]
theorem wheldHeadS_l (l : List (T.den THead)) (h1 : l.length ≤ 140737488355328) : ∀ (post pre : List (T.den THead)) (k : Nat), l = pre ++ (markT (.sl THead) post k).1 → (markT (.sl THead) post k).2 ≤ 4611686018427387904 → (∀ x ∈ post, BndM THead x) →
    DL V (.loop wheldHeadS_l0) ⟨[(5, .d (.i .i64 pre.length)), (1, .d (.i .i64 k)), (0, .d (.sl THead l))], []⟩ = some (.ex 0, ⟨[(1, .d (.i .i64 ((markT (.sl THead) post k).2 : Nat)))], []⟩)
  | [], pre, k, hl, hk, hB => by
    rw [DL_loop]
    have : l = pre := by simpa [markT, mkFold] using hl
    subst this
    simp -implicitDefEqProofs [wheldHeadS_l0, markT, mkFold]
  | (c0, c1) :: post, pre, k, hl, hk, hB => by
    change l = pre ++ (markT THead (c0, c1) k).1 :: (markT (.sl THead) post (markT THead (c0, c1) k).2).1 at hl
    change (markT (.sl THead) post (markT THead (c0, c1) k).2).2 ≤ 4611686018427387904 at hk
    change _ = some (Ex.ex 0, (⟨[(1, .d (.i .i64 ((markT (.sl THead) post (markT THead (c0, c1) k).2).2 : Nat)))], []⟩ : St))
    have hlt : pre.length < l.length := by rw [hl]; simp
    have hw := wrap_succ hlt (by omega)
    have hmono := markT_le (.sl THead) post (markT THead (c0, c1) k).2
    have hm0 := markT_le THead (c0, c1) k
    have hB0 := hB (c0, c1) (by simp)
    have hg : l[pre.length]? = some (markT THead (c0, c1) k).1 := by rw [hl]; exact mid_get _ _ _
    have hg2 : l[pre.length] = (markT THead (c0, c1) k).1 := (List.getElem?_eq_some_iff.1 hg).2
    have hB0 : BndM .str c0 ∧ BndM .str c1 := hB0
    obtain ⟨k0, hk0⟩ : ∃ k0, k + 1 = k0 := ⟨_, rfl⟩
    obtain ⟨k1, hk1⟩ : ∃ k1, k0 + 1 = k1 := ⟨_, rfl⟩
    have hc : (markT THead (c0, c1) k).2 = k1 := by subst hk0 hk1; rfl
    have hd : (markT THead (c0, c1) k).1 = (mtx k, mtx k0) := by subst hk0 hk1; rfl
    have e0 := wmarkText_ok k (by omega)
    have w0 : IntKind.i64.wrap (((k : Nat) : Int) + 1) = (k0 : Int) := by rw [← hk0]; exact wrap_id (by omega) (by omega)
    have e1 := wmarkText_ok k0 (by omega)
    have w1 : IntKind.i64.wrap (((k0 : Nat) : Int) + 1) = (k1 : Int) := by rw [← hk1]; exact wrap_id (by omega) (by omega)
    have ih := wheldHeadS_l l h1 post (pre ++ [(markT THead (c0, c1) k).1]) (markT THead (c0, c1) k).2 (by simp [hl]) hk (fun x hx => hB x (by simp [hx]))
    simp only [List.length_append, List.length_cons, List.length_nil, Int.natCast_add, Int.natCast_one, Nat.zero_add] at ih
    rw [DL_loop]
    rw [hc] at ih ⊢
    rw [hd] at hg hg2
    generalize DL V (.loop wheldHeadS_l0) = G at ih ⊢
    simp -implicitDefEqProofs [wheldHeadS_l0, hlt, hw, hg, hg2, e0, w0, e1, w1]
    exact ih
theorem wheldHeadS_ok (l : List (T.den THead)) (k : Nat) (h1 : l.length ≤ 140737488355328) (hk : (markT (.sl THead) l k).2 ≤ 4611686018427387904) (hB : ∀ x ∈ l, BndM THead x) : V wheldHeadS [.d (.sl THead (markT (.sl THead) l k).1), .d (.i .i64 k)] [] = some ([], .one (.fz (.i .i64 ((markT (.sl THead) l k).2 : Nat)))) := by
  rw [V_eq (fn := wheldHeadS_m) rfl]
  have hlen := markL_len THead l k
  have e := wheldHeadS_l (markT (.sl THead) l k).1 (by rw [hlen]; exact h1) l [] k (by simp) hk hB
  simp only [List.length_nil, Int.natCast_zero] at e
  simp -implicitDefEqProofs [wheldHeadS_m, e]
theorem weqReq_ok (c0 : List UInt8) (c1 : List UInt8) (c2 : List (T.den THead)) (c3 : List UInt8) (hb : BndT TReq (c0, (c1, (c2, c3)))) : V weqReq [.agg [.d (.s c0), .d (.s c1), .d (.sl THead c2), .d (.s c3)], .agg [.d (.s c0), .d (.s c1), .d (.sl THead c2), .d (.s c3)]] [] = some ([], .one (.fz (.b true))) := by
  rw [V_eq (fn := weqReq_m) rfl]
  have hb : BndT .str c0 ∧ BndT .str c1 ∧ BndT (.sl THead) c2 ∧ BndT .str c3 := hb
  have e2 := weqHeadS_ok c2 hb.2.2.1
  simp -implicitDefEqProofs [weqReq_m, e2]
theorem wmarkReq_ok (c0 : List UInt8) (c1 : List UInt8) (c2 : List (T.den THead)) (c3 : List UInt8) (k : Nat) (h_c2 : c2.length ≤ 140737488355328) (b_c2 : ∀ x ∈ c2, BndM THead x) (hk : (markT (.sl THead) c2 (k)).2 ≤ 4611686018427387904) : V wmarkReq [.agg [.d (.s c0), .d (.s c1), .h 0 0 c2.length, .d (.s c3)], .d (.i .i64 k)] [.ls THead false c2 0 []] = some ([some (.ls THead false (markT (.sl THead) c2 (k)).1 0 [])], .one (.fz (.i .i64 ((markT (.sl THead) c2 (k)).2 : Nat)))) := by
  rw [V_eq (fn := wmarkReq_m) rfl]
  have y_c2 := markT_le (.sl THead) c2 (k)
  have z_c2 := markL_len THead c2 (k)
  have e2 := wmarkHeadS_ok c2 (k) h_c2 (by omega) b_c2
  simp -implicitDefEqProofs [wmarkReq_m, e2, z_c2]
theorem wheldReq_ok (c0 : List UInt8) (c1 : List UInt8) (c2 : List (T.den THead)) (c3 : List UInt8) (k : Nat) (h_c2 : c2.length ≤ 140737488355328) (b_c2 : ∀ x ∈ c2, BndM THead x) (hk : (markT (.sl THead) c2 (k)).2 ≤ 4611686018427387904) : V wheldReq [.agg [.d (.s c0), .d (.s c1), .d (.sl THead (markT (.sl THead) c2 (k)).1), .d (.s c3)], .d (.i .i64 k)] [] = some ([], .one (.fz (.i .i64 ((markT (.sl THead) c2 (k)).2 : Nat)))) := by
  rw [V_eq (fn := wheldReq_m) rfl]
  have y_c2 := markT_le (.sl THead) c2 (k)
  have e2 := wheldHeadS_ok c2 (k) h_c2 (by omega) b_c2
  simp -implicitDefEqProofs [wheldReq_m, e2]
def fdx {α : Type} (Q : α → Bool) : List α → Nat
  | [] => 0
  | a :: l => if Q a then 0 else fdx Q l + 1
theorem fdx_get {α : Type} {Q : α → Bool} : ∀ {l : List α}, l.any Q = true → fdx Q l < l.length ∧ l[fdx Q l]? = l.find? Q
  | [], h => by simp at h
  | a :: l, h => by
    simp only [fdx]
    cases hq : Q a
    · have h' : l.any Q = true := by simpa [hq] using h
      obtain ⟨h1, h2⟩ := fdx_get h'
      simp only [Bool.false_eq_true, if_false, List.length_cons, List.getElem?_cons_succ, List.find?_cons, hq]
      exact ⟨by omega, h2⟩
    · simp [hq]
abbrev PageD := List (List UInt8) × List UInt8 × List UInt8
def atB (p : List (List UInt8)) (x : PageD) : Bool := decide (x.1 = p)
abbrev OkPages (l : List PageD) : Prop := l.length ≤ 9223372036854775807 ∧ ∀ x ∈ l, x.1.length ≤ 9223372036854775807
theorem sl21At_l (l : List PageD) (p : List (List UInt8)) (hl : OkPages l) : ∀ i : Nat, i ≤ l.length →
    DL V (.loop sl21At_l0) ⟨[(5, .d (.i .i64 i)), (2, .p 66 0 0), (1, .d (.sl .str p))], [(66, .ls TCli true [l] 0 [])]⟩ = if (l.drop i).any (atB p) then some (.ret, ⟨[(4, .d (.i .i64 ((i + fdx (atB p) (l.drop i) : Nat) : Int)))], []⟩) else some (.ex 0, ⟨[], []⟩) := by
  refine loop_rec (fun i : Nat => (⟨[(5, .d (.i .i64 i)), (2, .p 66 0 0), (1, .d (.sl .str p))], [(66, .ls TCli true [l] 0 [])]⟩ : St)) _ (fun i => l.length - i) (fun i => i ≤ l.length) (fun i hi => ?_)
  by_cases h : i < l.length
  · have e : l[i]? = some l[i] := List.getElem?_eq_getElem h
    have e1 := sSamePath_ok l[i].1 p (hl.2 _ (List.getElem_mem h))
    have hd : l.drop i = l[i] :: l.drop (i + 1) := List.drop_eq_getElem_cons h
    by_cases hn : l[i].1 = p
    · have ha : atB p l[i] = true := decide_eq_true hn
      rw [decide_eq_true hn] at e1
      refine .inr ⟨(.ret, ⟨[(4, .d (.i .i64 i))], []⟩), by simp, ?_, by simp only [hd, List.any_cons, ha, Bool.true_or, if_true, fdx, Nat.add_zero]⟩
      simp -implicitDefEqProofs [sl21At_l0, h, e, e1]
    · have ha : atB p l[i] = false := decide_eq_false hn
      rw [decide_eq_false hn] at e1
      refine .inl ⟨i + 1, ?_, by omega, by omega, by simp only [hd, List.any_cons, ha, Bool.false_or, fdx, Bool.false_eq_true, if_false, Nat.add_assoc, Nat.add_comm 1]⟩
      simp -implicitDefEqProofs [sl21At_l0, h, e, e1, wrap_succ h hl.1]
  · have : i = l.length := by omega
    subst this
    refine .inr ⟨(.ex 0, ⟨[], []⟩), by simp, ?_, by simp⟩
    simp -implicitDefEqProofs [sl21At_l0]
theorem sl21At_ok (l : List PageD) (p : List (List UInt8)) (hl : OkPages l) : V sl21At [.agg [.d (.sl TPage l)], .d (.sl .str p)] [] = some ([], .one (.fz (.i .i64 (if l.any (atB p) then (fdx (atB p) l : Int) else -1)))) := by
  rw [V_eq (fn := sl21At_m) rfl]
  have e1 := sl21At_l l p hl 0 (Nat.zero_le _)
  simp only [List.drop_zero, Int.natCast_zero, Nat.zero_add] at e1
  cases h : l.any (atB p) <;> rw [h] at e1 <;> simp -implicitDefEqProofs [sl21At_m, e1]
theorem ipageAt_l (l : List PageD) (p : List (List UInt8)) (hl : OkPages l) : ∀ i : Nat, i ≤ l.length →
    DL V (.loop ipageAt_l0) ⟨[(9, .d (.i .i64 i)), (8, .d (.i .i64 l.length)), (7, .d (.sl TPage l)), (1, .d (.sl .str p))], []⟩ = if (l.drop i).any (atB p) then some (.ret, ⟨[(4, .d (.i .i64 ((i + fdx (atB p) (l.drop i) : Nat) : Int)))], []⟩) else some (.ex 0, ⟨[], []⟩) := by
  refine loop_rec (fun i : Nat => (⟨[(9, .d (.i .i64 i)), (8, .d (.i .i64 l.length)), (7, .d (.sl TPage l)), (1, .d (.sl .str p))], []⟩ : St)) _ (fun i => l.length - i) (fun i => i ≤ l.length) (fun i hi => ?_)
  by_cases h : i < l.length
  · have e : l[i]? = some l[i] := List.getElem?_eq_getElem h
    have e1 := iSamePath_ok l[i].1 p (hl.2 _ (List.getElem_mem h))
    have hd : l.drop i = l[i] :: l.drop (i + 1) := List.drop_eq_getElem_cons h
    by_cases hn : l[i].1 = p
    · have ha : atB p l[i] = true := decide_eq_true hn
      rw [decide_eq_true hn] at e1
      refine .inr ⟨(.ret, ⟨[(4, .d (.i .i64 i))], []⟩), by simp, ?_, by simp only [hd, List.any_cons, ha, Bool.true_or, if_true, fdx, Nat.add_zero]⟩
      simp -implicitDefEqProofs [ipageAt_l0, h, e, e1]
    · have ha : atB p l[i] = false := decide_eq_false hn
      rw [decide_eq_false hn] at e1
      refine .inl ⟨i + 1, ?_, by omega, by omega, by simp only [hd, List.any_cons, ha, Bool.false_or, fdx, Bool.false_eq_true, if_false, Nat.add_assoc, Nat.add_comm 1]⟩
      simp -implicitDefEqProofs [ipageAt_l0, h, e, e1, wrap_succ h hl.1]
  · have : i = l.length := by omega
    subst this
    refine .inr ⟨(.ex 0, ⟨[], []⟩), by simp, ?_, by simp⟩
    simp -implicitDefEqProofs [ipageAt_l0]
theorem ipageAt_ok (l : List PageD) (p : List (List UInt8)) (hl : OkPages l) : V ipageAt [.d (.sl TPage l), .d (.sl .str p)] [] = some ([], .one (.fz (.i .i64 (if l.any (atB p) then (fdx (atB p) l : Int) else -1)))) := by
  rw [V_eq (fn := ipageAt_m) rfl]
  have e1 := ipageAt_l l p hl 0 (Nat.zero_le _)
  simp only [List.drop_zero, Int.natCast_zero, Nat.zero_add] at e1
  cases h : l.any (atB p) <;> rw [h] at e1 <;> simp -implicitDefEqProofs [ipageAt_m, e1]
def inmN : List UInt8 := [105, 102, 45, 110, 111, 110, 101, 45, 109, 97, 116, 99, 104]
def askHeads (l : List PageD) (p : List (List UInt8)) : List (List UInt8 × List UInt8) := match l.find? (atB p) with | some x => [(inmN, x.2.1)] | none => []
theorem sAskFor_ok (l : List PageD) (p : List (List UInt8)) (hl : OkPages l) (hp : OkP p) : V sAskFor [.agg [.d (.sl TPage l)], .d (.sl .str p)] [] = some ([], .agg [.fz (.s [71, 69, 84]), .fz (.s (pathTextB p)), .own (.sl THead (askHeads l p)), .fz (.s [])]) := by
  rw [V_eq (fn := sAskFor_m) rfl]
  have e1 := sPathText_ok p hp
  have e2 := sl21At_ok l p hl
  unfold askHeads
  cases h : l.any (atB p) <;> rw [h] at e2
  · have hf : l.find? (atB p) = none := by simpa using h
    simp -implicitDefEqProofs [sAskFor_m, e1, e2, hf]
  · obtain ⟨h1, h2⟩ := fdx_get h
    rw [List.getElem?_eq_getElem h1] at h2
    rw [← h2]
    generalize hk : fdx (atB p) l = k at h1 e2
    simp -implicitDefEqProofs [sAskFor_m, e1, e2, h1, inmN]
theorem iAskFor_ok (l : List PageD) (p : List (List UInt8)) (hl : OkPages l) (hp : OkP p) : V iAskFor [.agg [.d (.sl TPage l)], .d (.sl .str p)] [] = some ([], .agg [.fz (.s [71, 69, 84]), .fz (.s (pathTextB p)), .own (.sl THead (askHeads l p)), .fz (.s [])]) := by
  rw [V_eq (fn := iAskFor_m) rfl]
  have e1 := iPathText_ok p hp
  have e2 := ipageAt_ok l p hl
  unfold askHeads
  cases h : l.any (atB p) <;> rw [h] at e2
  · have hf : l.find? (atB p) = none := by simpa using h
    simp -implicitDefEqProofs [iAskFor_m, e1, e2, hf]
  · obtain ⟨h1, h2⟩ := fdx_get h
    rw [List.getElem?_eq_getElem h1] at h2
    rw [← h2]
    generalize hk : fdx (atB p) l = k at h1 e2
    simp -implicitDefEqProofs [iAskFor_m, e1, e2, h1, inmN]
theorem pathTextB_len (p : List (List UInt8)) : (pathTextB p).length ≤ 100 := by
  unfold pathTextB
  split
  · rename_i h
    have hb := pathB_bounds h
    have := pt_len hb.2
    split
    · simp
    · omega
  · simp
theorem askHeads_sz (l : List PageD) (p : List (List UInt8)) (h : szT (.sl TPage) l ≤ 1048576) : szT (.sl THead) (askHeads l p) ≤ 1048590 := by
  unfold askHeads
  split
  · rename_i x hx
    have hm := (szT_sl h).2 x (List.mem_of_find?_eq_some hx)
    simp only [szT] at hm
    rw [szT_slE]
    simp [szL, szT, inmN]
    omega
  · rw [szT_slE]; simp [szL]
set_option maxHeartbeats 4000000 in
theorem wFnExactAskFor_ok (l : List PageD) (p : List (List UInt8)) (hl : BndT (.sl TPage) l) (hp : BndT (.sl .str) p) : V wFnExactAskFor [.agg [.d (.sl TPage l)], .d (.sl .str p)] [] = some ([], .one (.fz (.b true))) := by
  rw [V_eq (fn := wFnExactAskFor_m) rfl]
  obtain ⟨r1, e1, q1⟩ := wszCli_ok l hl 1048576 (by omega) (by omega)
  by_cases c1 : r1 < 0
  · simp -implicitDefEqProofs [wFnExactAskFor_m, e1, c1]
  have p1 : 0 ≤ r1 ∧ r1 + (szT (.sl TPage) l : Nat) = 1048576 := by rcases q1 with q | q <;> omega
  obtain ⟨r2, e2, q2⟩ := wszStringS_ok p hp r1 (by omega) (by omega)
  by_cases c2 : r2 < 0
  · simp -implicitDefEqProofs [wFnExactAskFor_m, e1, c1, e2, c2]
  have p2 : 0 ≤ r2 ∧ r2 + (szT (.sl .str) p : Nat) = r1 := by rcases q2 with q | q <;> omega
  have hsl : szT (.sl TPage) l ≤ 1048576 := by omega
  have hsp : szT (.sl .str) p ≤ 1048576 := by omega
  have hl1 := szT_sl hsl
  have hOl : OkPages l := ⟨hl.1, fun x hx => (hl.2 x hx).1.1⟩
  have hOp : OkP p := ⟨hp.1, hp.2⟩
  have f1 := wtoCli_ok l hsl
  have f2 := wtoStringS_ok p hsp
  have f3 := sAskFor_ok l p hOl hOp
  have f4 := iAskFor_ok l p hOl hOp
  have hH := askHeads_sz l p hsl
  have hpt := pathTextB_len p
  have hBM := BndM_of (.sl THead) (askHeads l p) (by omega)
  have hBH : BndT (.sl THead) (askHeads l p) := by
    refine ⟨by have := hBM.1; omega, fun x hx => ?_⟩
    have := szL_mem hx
    rw [szT_slE] at hH
    simp only [szT] at this
    exact ⟨show x.1.length ≤ _ by omega, show x.2.length ≤ _ by omega⟩
  have f5 := weqReq_ok [71, 69, 84] (pathTextB p) (askHeads l p) [] ⟨show ([71, 69, 84] : List UInt8).length ≤ 9223372036854775807 by decide, show (pathTextB p).length ≤ _ by omega, hBH, show ([] : List UInt8).length ≤ 9223372036854775807 by decide⟩
  have f6 := weqCli_ok l hl
  have f7 := weqStringS_ok p hp
  have hml := mark_small (t := TPage) (l := l) (k := 1) (by omega) hsl (by decide)
  have f8 := wmarkCli_ok l 1 (by have := hl1.1; omega) (BndM_of (.sl TPage) l (by omega)).2 hml
  have hmp : (markT (.sl .str) p (markT (.sl TPage) l 1).2).2 ≤ 4611686018427387904 := by
    have h1 := markT_bound (.sl TPage) l 1
    have h2 := markT_bound (.sl .str) p (markT (.sl TPage) l 1).2
    have h3 : T.wd (.sl TPage) = 3 := rfl
    have h4 : T.wd (.sl .str) = 1 := rfl
    rw [h3] at h1; rw [h4] at h2
    omega
  have f9 := wmarkStringS_ok p (markT (.sl TPage) l 1).2 (by have := (szT_sl hsp).1; omega) hmp (BndM_of (.sl .str) p (by omega)).2
  have hmh := mark_small (t := THead) (l := askHeads l p) (k := 1) (by omega) hH (by decide)
  have f10 := wmarkReq_ok [71, 69, 84] (pathTextB p) (askHeads l p) [] 1 hBM.1 hBM.2 hmh
  have f11 := wheldReq_ok [71, 69, 84] (pathTextB p) (askHeads l p) [] 1 hBM.1 hBM.2 hmh
  simp only [Int.natCast_one] at f8 f10 f11
  simp -implicitDefEqProofs [wFnExactAskFor_m, e1, c1, e2, c2, f1, f2, f3, f4, f5, f6, f7, f8, f9, f10, f11, nneg]
end Go.Proofs.YtmccpbabpnffcaaK
