/- What the functions come to. -/
import Derived.Test.YtfklggpopffkjaaGreatF18
set_option linter.unusedVariables false
set_option linter.unusedSimpArgs false
namespace Go.Proofs.YtfklggpopffkjaaGreatK
open Go.RowKit
def movedB (a b : PathD) (v : Int) (r : ResD) : ResD := (b ++ r.1.drop a.length, r.2.1, r.2.2.1, v, r.2.2.2.2)
def copyF (a b : PathD) (v : Int) (t : TreeD) (r : ResD) : Option TreeD := if pathB (movedB a b v r).1 = true then some (withB t (movedB a b v r)) else none
def farR (t : TreeD) (a b : PathD) (over : Bool) : Int :=
  if 0 < a.length ∧ findB t a < 0 then 404 else
  if (a = [] ∨ b = []) ∨ (isAtB a b = true ∨ isAtB b a = true) then 403 else
  if 0 ≤ findB t b ∧ over = false then 412 else if collB t b.dropLast = true then 0 else 409
def copiedB (t : TreeD) (a b : PathD) (over : Bool) (v : Int) : TreeD × Int :=
  if farR t a b over ≠ 0 then ([], farR t a b over) else
  match goM (copyF a b v) (withoutB t b) (deepB t a) with
  | none => ([], 409)
  | some n => (n, if 0 ≤ findB t b then 204 else 201)
def copyTreeI (t : TreeD) (a b : PathD) (over : Bool) (v : Int) : TreeD × Int :=
  if formB t v [a, b] ≠ 0 then (t, formB t v [a, b]) else
  let r := copiedB t a b over v
  let c : Int := if r.2 < 400 ∧ 12 < r.1.length then 507 else r.2
  if 400 ≤ c then (t, c) else (r.1, c)
def moveTreeI (t : TreeD) (a b : PathD) (over : Bool) (v : Int) : TreeD × Int :=
  if formB t v [a, b] ≠ 0 then (t, formB t v [a, b]) else
  let r := copiedB t a b over v
  if 400 ≤ r.2 then (t, r.2) else
  if 12 < (withoutB r.1 a).length then (t, 507) else (withoutB r.1 a, r.2)
theorem withB_sz (l : TreeD) (x : ResD) : szT (.sl TRes) (withB l x) = szT (.sl TRes) l + (szT TRes x + 1) := by
  have key : ∀ a b : TreeD, szT (.sl TRes) (a ++ b) = szT (.sl TRes) a + szT (.sl TRes) b := fun a b => by
    have : szL TRes (a ++ b) = szL TRes a + szL TRes b := by simp [szL]
    rw [szT_slE, szT_slE, szT_slE, this, List.length_append]; omega
  have e : l = l.takeWhile (lessAt x) ++ l.dropWhile (lessAt x) := List.takeWhile_append_dropWhile.symm
  have e1 : szT (.sl TRes) (x :: l.dropWhile (lessAt x)) = szT (.sl TRes) (l.dropWhile (lessAt x)) + (szT TRes x + 1) := by
    have : szL TRes (x :: l.dropWhile (lessAt x)) = szT TRes x + szL TRes (l.dropWhile (lessAt x)) := by simp [szL]
    rw [szT_slE, szT_slE, this, List.length_cons]; omega
  have e2 := key (l.takeWhile (lessAt x)) (l.dropWhile (lessAt x))
  rw [← e] at e2
  unfold withB
  rw [key, e1]
  omega
theorem szDrop {t : T} (l : List t.den) (k : Nat) : szT (.sl t) (l.drop k) ≤ szT (.sl t) l := by
  have key : ∀ a b : List t.den, szT (.sl t) (a ++ b) = szT (.sl t) a + szT (.sl t) b := fun a b => by
    have : szL t (a ++ b) = szL t a + szL t b := by simp [szL]
    rw [szT_slE, szT_slE, szT_slE, this, List.length_append]; omega
  have := key (l.take k) (l.drop k)
  rw [List.take_append_drop] at this
  omega
theorem szApp {t : T} (a b : List t.den) : szT (.sl t) (a ++ b) = szT (.sl t) a + szT (.sl t) b := by
  have : szL t (a ++ b) = szL t a + szL t b := by simp [szL]
  rw [szT_slE, szT_slE, szT_slE, this, List.length_append]; omega
theorem movedB_sz (a b : PathD) (v : Int) (r : ResD) : szT TRes (movedB a b v r) ≤ szT TRes r + szT (.sl .str) b := by
  have h1 := szRes r
  have h2 := szRes (movedB a b v r)
  unfold movedB at h2 ⊢
  simp only at h2
  have h3 := szApp (t := .str) b (r.1.drop a.length)
  have h4 := szDrop (t := .str) r.1 a.length
  omega
theorem isAt_len {p q : PathD} (h : isAtB p q = true) : q.length ≤ p.length := by
  unfold isAtB underB at h
  simp only [Bool.or_eq_true, decide_eq_true_eq, Bool.and_eq_true] at h
  rcases h with rfl | h
  · exact Nat.le_refl _
  · omega
theorem copyF_sz {a b : PathD} {v : Int} {s n : TreeD} {r : ResD} (h : copyF a b v s r = some n) : szT (.sl TRes) n ≤ szT (.sl TRes) s + (szT TRes r + szT (.sl .str) b + 1) := by
  unfold copyF at h
  split at h
  · obtain rfl := Option.some.inj h
    rw [withB_sz]
    have := movedB_sz a b v r
    omega
  · cases h
theorem goM_P {S α : Type} (f : S → α → Option S) (l : List α) (P : Nat → S → Prop) (h : ∀ i (hi : i < l.length) s s', P i s → f s l[i] = some s' → P (i + 1) s') : ∀ (s n : S), P 0 s → goM f s l = some n → P l.length n := by
  have key : ∀ (k i : Nat) (s n : S), i + k = l.length → P i s → goM f s (l.drop i) = some n → P l.length n := by
    intro k
    induction k with
    | zero =>
      intro i s n hi hs hg
      obtain rfl : i = l.length := by omega
      rw [List.drop_length] at hg
      obtain rfl := Option.some.inj hg
      exact hs
    | succ k ih =>
      intro i s n hi hs hg
      have h1 : i < l.length := by omega
      rw [drop_cons h1] at hg
      simp only [goM, Option.bind_eq_some_iff] at hg
      obtain ⟨s', h2, h3⟩ := hg
      exact ih (i + 1) s' n (by omega) (h i h1 s s' hs h2) h3
  exact fun s n h0 hg => key l.length 0 s n (by omega) h0 (by simpa using hg)
def copyP (t b : Nat) (l : TreeD) (i : Nat) (s : TreeD) : Prop := szT (.sl TRes) s ≤ t + szT (.sl TRes) (l.take i) + i * (b + 1)
theorem copyP_step {a b : PathD} {v : Int} {t : Nat} {l : TreeD} {i : Nat} (hi : i < l.length) {s n : TreeD} (h : copyP t (szT (.sl .str) b) l i s) (hf : copyF a b v s l[i] = some n) : copyP t (szT (.sl .str) b) l (i + 1) n := by
  unfold copyP at h ⊢
  have h1 := copyF_sz hf
  have h2 := szTake1 (t := TRes) hi
  rw [Nat.succ_mul]
  omega
theorem copyP_le {t b : Nat} {l : TreeD} {i : Nat} {s : TreeD} (h : copyP t b l i s) (hi : i ≤ 12) : szT (.sl TRes) s ≤ t + szT (.sl TRes) l + 12 * (b + 1) := by
  unfold copyP at h
  have h1 := szTake' (t := TRes) (l := l) (i := i)
  have h2 : i * (b + 1) ≤ 12 * (b + 1) := Nat.mul_le_mul_right _ hi
  omega
theorem form_len {t : TreeD} {v : Int} {ps : List PathD} (h : formB t v ps = 0) : t.length ≤ 12 := by
  unfold formB at h
  cases ht : treeB t with
  | false => rw [ht] at h; simp at h
  | true =>
    unfold treeB at ht
    simp only [Bool.and_eq_true, decide_eq_true_eq] at ht
    exact ht.2
theorem copiedB_sz (t : TreeD) (a b : PathD) (over : Bool) (v : Int) (h12 : t.length ≤ 12) : szT (.sl TRes) (copiedB t a b over v).1 ≤ 2 * szT (.sl TRes) t + 12 * (szT (.sl .str) b + 1) := by
  unfold copiedB
  split
  · simp only [szNoRes]; omega
  · have hd12 : (deepB t a).length ≤ 12 := Nat.le_trans (List.length_filter_le _ _) h12
    have hdz : szT (.sl TRes) (deepB t a) ≤ szT (.sl TRes) t := szFilter (t := TRes) _ t
    have hwz : szT (.sl TRes) (withoutB t b) ≤ szT (.sl TRes) t := szFilter (t := TRes) _ t
    cases hg : goM (copyF a b v) (withoutB t b) (deepB t a) with
    | none => simp only [szNoRes]; omega
    | some n =>
      have h1 := goM_P (copyF a b v) (deepB t a) (copyP (szT (.sl TRes) t) (szT (.sl .str) b) (deepB t a)) (fun i hi s s' h hf => copyP_step hi h hf) (withoutB t b) n (by unfold copyP; omega) hg
      have h2 := copyP_le h1 hd12
      simp only
      omega
set_option maxRecDepth 100000 in
set_option maxHeartbeats 2000000 in
theorem icopied_ok (t : TreeD) (a b : PathD) (over : Bool) (v : Int) (ht : szT (.sl TRes) t ≤ 4294967296) (h12 : t.length ≤ 12) (ha : szT (.sl .str) a ≤ 4294967296) (hb : szT (.sl .str) b ≤ 4294967296) :
    V icopied [.d (.sl TRes t), .d (.sl .str a), .d (.sl .str b), .d (.b over), i6 v] [] = treeF (copiedB t a b over v) := by
  rw [V_eq (fn := icopied_m) (by kernel_rfl)]
  have hla := szLen (t := .str) (l := a)
  have hlb := szLen (t := .str) (l := b)
  have e1 := iFindRes_ok t a (by omega)
  have e2 := iFindRes_ok t b (by omega)
  have e3 := iisAt_ok a b (by omega) (by omega)
  have e4 := iisAt_ok b a (by omega) (by omega)
  have e5 := iAbove_ok b (by omega)
  have e6 := iIsColl_ok t b.dropLast (by omega)
  have e7 := iwithout_ok t b (by omega) (by omega)
  have e8 := iDeepOf_ok t a (by omega) (by omega)
  have hd12 : (deepB t a).length ≤ 12 := Nat.le_trans (List.length_filter_le _ _) h12
  have hdz : szT (.sl TRes) (deepB t a) ≤ szT (.sl TRes) t := szFilter (t := TRes) _ t
  have hwz : szT (.sl TRes) (withoutB t b) ≤ szT (.sl TRes) t := szFilter (t := TRes) _ t
  have hal : ∀ r ∈ deepB t a, a.length ≤ r.1.length := fun r hr => isAt_len (List.mem_filter.1 hr).2
  have L : ∀ f : Bool, DL V (.loop icopied_l0) ⟨[(68, i6 0), (67, i6 (deepB t a).length), (66, .h 67064 0 (deepB t a).length), (13, .d (.sl TRes (withoutB t b))), (12, .d (.b f)), (4, i6 v), (2, .d (.sl .str b)), (1, .d (.sl .str a))], [(67064, .ls TRes false (deepB t a) 0 [])]⟩ =
      match goM (copyF a b v) (withoutB t b) (deepB t a) with | some n => some (.ex 1, ⟨[(13, .d (.sl TRes n)), (12, .d (.b f))], []⟩) | none => some (.ret, ⟨[(11, i6 409), (10, .d (.sl TRes []))], []⟩) := by
    intro f
    have := loop_goM (X := V) (c := icopied_l0) (deepB t a) (copyF a b v) (copyP (szT (.sl TRes) t) (szT (.sl .str) b) (deepB t a))
      (fun (i : Nat) (s : TreeD) => ⟨[(68, i6 i), (67, i6 (deepB t a).length), (66, .h 67064 0 (deepB t a).length), (13, .d (.sl TRes s)), (12, .d (.b f)), (4, i6 v), (2, .d (.sl .str b)), (1, .d (.sl .str a))], [(67064, .ls TRes false (deepB t a) i [])]⟩)
      (.ret, ⟨[(11, i6 409), (10, .d (.sl TRes []))], []⟩) (fun n => (.ex 1, ⟨[(13, .d (.sl TRes n)), (12, .d (.b f))], []⟩)) (by simp) (by simp)
      (fun i hi s hP => by
        have hs := copyP_le hP (by omega)
        have hg := szG (t := TRes) hi
        have hgr := szRes (deepB t a)[i]
        have hgl := szLen (t := .str) (l := (deepB t a)[i].1)
        have hle := hal _ (List.getElem_mem hi)
        have hmz := movedB_sz a b v (deepB t a)[i]
        have f1 := icopyPath_ok b (by omega)
        have f2 := iPathOk_ok (movedB a b v (deepB t a)[i]).1 (okP_sz (by
          have := szRes (movedB a b v (deepB t a)[i])
          omega))
        have f3 := iwithRes_ok s (movedB a b v (deepB t a)[i]) (by omega) (by omega)
        unfold copyF
        simp only [resA] at f3
        unfold movedB at f2 f3 ⊢
        simp only at f2 f3 ⊢
        generalize pathB (b ++ List.drop a.length (deepB t a)[i].1) = t1 at f2 ⊢
        generalize withB s (b ++ List.drop a.length (deepB t a)[i].1, (deepB t a)[i].2.1, (deepB t a)[i].2.2.1, v, (deepB t a)[i].2.2.2.2) = n at f3 ⊢
        have tk1 : List.take ((deepB t a)[i].1.length - a.length) (List.drop a.length (deepB t a)[i].1) = List.drop a.length (deepB t a)[i].1 := take_all (by simp)
        have tk2 : List.take (b.length + ((deepB t a)[i].1.length - a.length)) (b ++ List.drop a.length (deepB t a)[i].1) = b ++ List.drop a.length (deepB t a)[i].1 := take_all (by simp)
        have tk3 : ((b.length + ((deepB t a)[i].1.length - a.length)) * 16 ≤ 140737488355328) = True := eq_true (by omega)
        generalize deepB t a = Dl at hi hd12 hle hgl f1 f2 f3 tk1 tk2 tk3 ⊢
        cases t1
        · simp -implicitDefEqProofs [icopied_l0, hi, get_some hi, f1, f2, f3, hle, tk1, tk2, tk3, wrap_succ hi (by omega)]
        · simp -implicitDefEqProofs [icopied_l0, hi, get_some hi, f1, f2, f3, hle, tk1, tk2, tk3, wrap_succ hi (by omega)])
      (fun i hi s s' hP hf => copyP_step hi hP hf)
      (fun s _ => by simp -implicitDefEqProofs [icopied_l0])
      (withoutB t b) (by unfold copyP; omega)
    simp only [Int.natCast_zero] at this
    rw [this]
    cases goM (copyF a b v) (withoutB t b) (deepB t a) <;> rfl
  unfold copiedB farR
  generalize findB t a = fa at e1 ⊢
  generalize findB t b = fb at e2 ⊢
  generalize isAtB a b = t3 at e3 ⊢
  generalize isAtB b a = t4 at e4 ⊢
  generalize collB t b.dropLast = t6 at e6 ⊢
  generalize goM (copyF a b v) (withoutB t b) (deepB t a) = g at L ⊢
  generalize withoutB t b = w at e7 L
  generalize deepB t a = Dl at e8 L
  by_cases hae : a = []
  · subst hae
    simp -implicitDefEqProofs [icopied_m, e2]
  have hal' : 0 < a.length := List.length_pos_iff.2 hae
  have hal2 : ((0 : Int) < (a.length : Int)) = True := eq_true (by omega)
  have hal3 : ((a.length : Int) = 0) = False := eq_false (by omega)
  by_cases h1 : fa < 0
  · simp -implicitDefEqProofs [icopied_m, e1, e2, hal2, hal', h1]
  by_cases hbe : b = []
  · subst hbe
    simp -implicitDefEqProofs [icopied_m, e1, e2, hal2, hal3, hal', h1, hae]
  have hbl : 0 < b.length := List.length_pos_iff.2 hbe
  have hbl3 : ((b.length : Int) = 0) = False := eq_false (by omega)
  by_cases h3 : t3 = true
  · subst h3
    simp -implicitDefEqProofs [icopied_m, e1, e2, e3, hal2, hal3, hal', hbl3, h1, hae, hbe]
  obtain rfl := Bool.eq_false_iff.2 h3
  by_cases h4 : t4 = true
  · subst h4
    simp -implicitDefEqProofs [icopied_m, e1, e2, e3, e4, hal2, hal3, hal', hbl3, h1, hae, hbe]
  obtain rfl := Bool.eq_false_iff.2 h4
  by_cases h5 : 0 ≤ fb
  · cases over
    · simp -implicitDefEqProofs [icopied_m, e1, e2, e3, e4, hal2, hal3, hal', hbl3, h1, hae, hbe, h5]
    cases t6
    · simp -implicitDefEqProofs [icopied_m, e1, e2, e3, e4, e5, e6, hal2, hal3, hal', hbl3, h1, hae, hbe, h5]
    have L := L true
    cases g with
    | none =>
      simp only at L
      simp -implicitDefEqProofs [icopied_m, e1, e2, e3, e4, e5, e6, e7, e8, hal2, hal3, hal', hbl3, h1, hae, hbe, h5, L]
    | some n =>
      simp only at L
      simp -implicitDefEqProofs [icopied_m, e1, e2, e3, e4, e5, e6, e7, e8, hal2, hal3, hal', hbl3, h1, hae, hbe, h5, L]
  · cases t6
    · simp -implicitDefEqProofs [icopied_m, e1, e2, e3, e4, e5, e6, hal2, hal3, hal', hbl3, h1, hae, hbe, h5]
    have L := L false
    cases g with
    | none =>
      simp only at L
      simp -implicitDefEqProofs [icopied_m, e1, e2, e3, e4, e5, e6, e7, e8, hal2, hal3, hal', hbl3, h1, hae, hbe, h5, L]
    | some n =>
      simp only at L
      simp -implicitDefEqProofs [icopied_m, e1, e2, e3, e4, e5, e6, e7, e8, hal2, hal3, hal', hbl3, h1, hae, hbe, h5, L]
theorem iCopyTree_ok (t : TreeD) (a b : PathD) (over : Bool) (v : Int) (ht : szT (.sl TRes) t ≤ 4294967296) (ha : szT (.sl .str) a ≤ 4294967296) (hb : szT (.sl .str) b ≤ 4294967296) :
    V iCopyTree [.d (.sl TRes t), .d (.sl .str a), .d (.sl .str b), .d (.b over), i6 v] [] = treeF (copyTreeI t a b over v) := by
  rw [V_eq (fn := iCopyTree_m) (by kernel_rfl)]
  have e1 := iopForm_ok t v [a, b] (by omega) (by simp) (fun q hq => by
    rcases List.mem_cons.1 hq with rfl | hq
    · omega
    · obtain rfl := List.mem_singleton.1 hq; omega)
  have e2 := icopyTree_ok t (by omega)
  unfold copyTreeI
  by_cases hf : formB t v [a, b] = 0
  · have h12 : t.length ≤ 12 := form_len hf
    have e3 := icopied_ok t a b over v ht h12 ha hb
    rw [hf] at e1 ⊢
    simp only [ne_eq, not_true, if_false]
    generalize copiedB t a b over v = r at e3 ⊢
    obtain ⟨n, c⟩ := r
    simp only
    by_cases h1 : c < 400
    · by_cases h2 : 12 < n.length
      · simp -implicitDefEqProofs [iCopyTree_m, e1, e2, e3, h1, h2, (eq_true (by omega) : ((12 : Int) < (n.length : Int)) = True)]
      · simp -implicitDefEqProofs [iCopyTree_m, e1, e2, e3, h1, h2, (eq_false (by omega) : ((12 : Int) < (n.length : Int)) = False), (eq_false (by omega) : ((400 : Int) ≤ c) = False)]
    · simp -implicitDefEqProofs [iCopyTree_m, e1, e2, e3, h1, (eq_true (by omega) : ((400 : Int) ≤ c) = True)]
  · generalize formB t v [a, b] = f at e1 hf ⊢
    simp -implicitDefEqProofs [iCopyTree_m, e1, e2, hf]
theorem iMoveTree_ok (t : TreeD) (a b : PathD) (over : Bool) (v : Int) (ht : szT (.sl TRes) t ≤ 4294967296) (ha : szT (.sl .str) a ≤ 4294967296) (hb : szT (.sl .str) b ≤ 4294967296) :
    V iMoveTree [.d (.sl TRes t), .d (.sl .str a), .d (.sl .str b), .d (.b over), i6 v] [] = treeF (moveTreeI t a b over v) := by
  rw [V_eq (fn := iMoveTree_m) (by kernel_rfl)]
  have hla := szLen (t := .str) (l := a)
  have e1 := iopForm_ok t v [a, b] (by omega) (by simp) (fun q hq => by
    rcases List.mem_cons.1 hq with rfl | hq
    · omega
    · obtain rfl := List.mem_singleton.1 hq; omega)
  have e2 := icopyTree_ok t (by omega)
  unfold moveTreeI
  by_cases hf : formB t v [a, b] = 0
  · have h12 : t.length ≤ 12 := form_len hf
    have e3 := icopied_ok t a b over v ht h12 ha hb
    have hz := copiedB_sz t a b over v h12
    rw [hf] at e1 ⊢
    simp only [ne_eq, not_true, if_false]
    generalize copiedB t a b over v = r at e3 hz ⊢
    obtain ⟨n, c⟩ := r
    simp only at hz ⊢
    have e4 := iwithout_ok n a (by omega) (by omega)
    generalize withoutB n a = m at e4 ⊢
    by_cases h1 : c < 400
    · by_cases h2 : 12 < m.length
      · simp -implicitDefEqProofs [iMoveTree_m, e1, e2, e3, e4, h2, (eq_true (by omega) : ((12 : Int) < (m.length : Int)) = True), (eq_false (by omega) : ((400 : Int) ≤ c) = False)]
      · simp -implicitDefEqProofs [iMoveTree_m, e1, e2, e3, e4, h2, (eq_false (by omega) : ((12 : Int) < (m.length : Int)) = False), (eq_false (by omega) : ((400 : Int) ≤ c) = False)]
    · simp -implicitDefEqProofs [iMoveTree_m, e1, e2, e3, (eq_true (by omega) : ((400 : Int) ≤ c) = True)]
  · generalize formB t v [a, b] = f at e1 hf ⊢
    simp -implicitDefEqProofs [iMoveTree_m, e1, e2, hf]
end Go.Proofs.YtfklggpopffkjaaGreatK
