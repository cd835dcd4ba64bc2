/- What the functions come to. -/
import Derived.Test.YtfklggpopffkjaaGreatF17
set_option linter.unusedVariables false
set_option linter.unusedSimpArgs false
namespace Go.Proofs.YtfklggpopffkjaaGreatK
open Go.RowKit
def isAtB (p q : PathD) : Bool := decide (p = q) || underB p q
def deepB (t : TreeD) (p : PathD) : TreeD := t.filter fun r => isAtB r.1 p
def withoutB (t : TreeD) (p : PathD) : TreeD := t.filter fun r => !isAtB r.1 p
theorem filter_take {α : Type} {l : List α} {i : Nat} (h : i < l.length) (q : α → Bool) : (l.take (i + 1)).filter q = (l.take i).filter q ++ (if q l[i] = true then [l[i]] else []) := by
  rw [take_snoc h, List.filter_append]
  cases hq : q l[i] <;> simp [hq]
theorem szFilter {t : T} (q : t.den → Bool) : ∀ l : List t.den, szT (.sl t) (l.filter q) ≤ szT (.sl t) l
  | [] => by simp
  | x :: l => by
    have ih := szFilter q l
    rw [List.filter_cons]
    have e2 : szT (.sl t) (x :: l) = szT (.sl t) l + (szT t x + 1) := by
      have : szL t (x :: l) = szT t x + szL t l := by simp [szL]
      rw [szT_slE, szT_slE, List.length_cons]; omega
    split
    · have e1 : szT (.sl t) (x :: l.filter q) = szT (.sl t) (l.filter q) + (szT t x + 1) := by
        have : szL t (x :: l.filter q) = szT t x + szL t (l.filter q) := by simp [szL]
        rw [szT_slE, szT_slE, List.length_cons]; omega
      omega
    · omega
theorem iisAt_ok (p h : PathD) (hp : p.length ≤ 1099511627776) (hh : h.length ≤ 1099511627776) : V iisAt [.d (.sl .str p), .d (.sl .str h)] [] = rB (isAtB p h) := by
  rw [V_eq (fn := iisAt_m) (by kernel_rfl)]
  have e1 := iSamePath_ok p h (by omega)
  have e2 := iUnder_ok p h (by omega)
  unfold isAtB
  generalize decide (p = h) = t1 at e1 ⊢
  generalize underB p h = t2 at e2 ⊢
  cases t1 <;> cases t2 <;> simp -implicitDefEqProofs [iisAt_m, e1, e2]
set_option maxRecDepth 100000 in
theorem iDeepOf_ok (t : TreeD) (p : PathD) (ht : szT (.sl TRes) t ≤ 1099511627776) (hp : p.length ≤ 1099511627776) : V iDeepOf [.d (.sl TRes t), .d (.sl .str p)] [] = some ([], .one (.own (.sl TRes (deepB t p)))) := by
  rw [V_eq (fn := iDeepOf_m) (by kernel_rfl)]
  have hl := szLen (t := TRes) (l := t)
  have L := loop_each (X := V) (c := iDeepOf_l0) t.length (fun i : Nat => ⟨[(10, i6 i), (9, i6 t.length), (8, .d (.sl TRes t)), (5, .h 69 0 (deepB (t.take i) p).length), (1, .d (.sl .str p))], [(69, .ls TRes false (deepB (t.take i) p) 0 [])]⟩) (.ex 0, ⟨[(5, .h 69 0 (deepB t p).length)], [(69, .ls TRes false (deepB t p) 0 [])]⟩) (by simp)
    (fun i hi => by
      have hz := szG (t := TRes) hi
      have hzr := szRes t[i]
      have hzp := szLen (t := .str) (l := t[i].1)
      have e := icopyRes_ok t[i] (by omega)
      have e1 := iisAt_ok t[i].1 p (by omega) hp
      simp only [resA, resR] at e
      have hq : (deepB (t.take i) p).length ≤ 1099511627776 := by
        have h1 : (deepB (t.take i) p).length ≤ (t.take i).length := List.length_filter_le _ _
        have h2 : (t.take i).length ≤ t.length := by rw [List.length_take]; omega
        omega
      have hf : deepB (t.take (i + 1)) p = deepB (t.take i) p ++ (if isAtB t[i].1 p = true then [t[i]] else []) := filter_take hi _
      rw [hf]
      generalize deepB (t.take i) p = q at hq ⊢
      generalize isAtB t[i].1 p = b at e1 ⊢
      cases b
      · simp -implicitDefEqProofs [iDeepOf_l0, hi, get_some hi, e1, wrap_succ hi (by omega)]
      · simp -implicitDefEqProofs [iDeepOf_l0, hi, get_some hi, e, e1, wrap_succ hi (by omega)]
        omega)
    (by rw [List.take_length]; simp -implicitDefEqProofs [iDeepOf_l0])
  simp only [Int.natCast_zero, List.take_zero, show ∀ p, deepB [] p = [] from fun _ => rfl, List.length_nil] at L
  simp -implicitDefEqProofs [iDeepOf_m, L]
set_option maxRecDepth 100000 in
theorem iwithout_ok (t : TreeD) (p : PathD) (ht : szT (.sl TRes) t ≤ 1099511627776) (hp : p.length ≤ 1099511627776) : V iwithout [.d (.sl TRes t), .d (.sl .str p)] [] = some ([], .one (.own (.sl TRes (withoutB t p)))) := by
  rw [V_eq (fn := iwithout_m) (by kernel_rfl)]
  have hl := szLen (t := TRes) (l := t)
  have L := loop_each (X := V) (c := iwithout_l0) t.length (fun i : Nat => ⟨[(10, i6 i), (9, i6 t.length), (8, .d (.sl TRes t)), (5, .h 69 0 (withoutB (t.take i) p).length), (1, .d (.sl .str p))], [(69, .ls TRes false (withoutB (t.take i) p) 0 [])]⟩) (.ex 0, ⟨[(5, .h 69 0 (withoutB t p).length)], [(69, .ls TRes false (withoutB t p) 0 [])]⟩) (by simp)
    (fun i hi => by
      have hz := szG (t := TRes) hi
      have hzr := szRes t[i]
      have hzp := szLen (t := .str) (l := t[i].1)
      have e := icopyRes_ok t[i] (by omega)
      have e1 := iisAt_ok t[i].1 p (by omega) hp
      simp only [resA, resR] at e
      have hq : (withoutB (t.take i) p).length ≤ 1099511627776 := by
        have h1 : (withoutB (t.take i) p).length ≤ (t.take i).length := List.length_filter_le _ _
        have h2 : (t.take i).length ≤ t.length := by rw [List.length_take]; omega
        omega
      have hf : withoutB (t.take (i + 1)) p = withoutB (t.take i) p ++ (if (!isAtB t[i].1 p) = true then [t[i]] else []) := filter_take hi _
      rw [hf]
      generalize withoutB (t.take i) p = q at hq ⊢
      generalize isAtB t[i].1 p = b at e1 ⊢
      cases b
      · simp -implicitDefEqProofs [iwithout_l0, hi, get_some hi, e, e1, wrap_succ hi (by omega)]
        omega
      · simp -implicitDefEqProofs [iwithout_l0, hi, get_some hi, e1, wrap_succ hi (by omega)])
    (by rw [List.take_length]; simp -implicitDefEqProofs [iwithout_l0])
  simp only [Int.natCast_zero, List.take_zero, show ∀ p, withoutB [] p = [] from fun _ => rfl, List.length_nil] at L
  simp -implicitDefEqProofs [iwithout_m, L]
set_option maxRecDepth 100000 in
theorem sDeepOf_ok (t : TreeD) (p : PathD) (ht : szT (.sl TRes) t ≤ 1099511627776) (hp : p.length ≤ 1099511627776) : V sDeepOf [.d (.sl TRes t), .d (.sl .str p)] [] = some ([], .one (.own (.sl TRes (deepB t p)))) := by
  rw [V_eq (fn := sDeepOf_m) (by kernel_rfl)]
  have hl := szLen (t := TRes) (l := t)
  have L := loop_each (X := V) (c := sDeepOf_l0) t.length (fun i : Nat => ⟨[(6, i6 i), (5, .h 69 0 (deepB (t.take i) p).length), (1, .d (.sl .str p)), (0, .d (.sl TRes t))], [(69, .ls TRes false (deepB (t.take i) p) 0 [])]⟩) (.ex 0, ⟨[(5, .h 69 0 (deepB t p).length)], [(69, .ls TRes false (deepB t p) 0 [])]⟩) (by simp)
    (fun i hi => by
      have hz := szG (t := TRes) hi
      have hzr := szRes t[i]
      have hzp := szLen (t := .str) (l := t[i].1)
      have e := sl10Copy_ok t[i] (by omega)
      have e1 := sSamePath_ok t[i].1 p (by omega)
      have e2 := sUnder_ok t[i].1 p (by omega)
      simp only [resA, resR] at e
      have hq : (deepB (t.take i) p).length ≤ 1099511627776 := by
        have h1 : (deepB (t.take i) p).length ≤ (t.take i).length := List.length_filter_le _ _
        have h2 : (t.take i).length ≤ t.length := by rw [List.length_take]; omega
        omega
      have hf : deepB (t.take (i + 1)) p = deepB (t.take i) p ++ (if isAtB t[i].1 p = true then [t[i]] else []) := filter_take hi _
      rw [hf]
      generalize deepB (t.take i) p = q at hq ⊢
      unfold isAtB
      generalize decide (t[i].1 = p) = b at e1 ⊢
      generalize underB t[i].1 p = b2 at e2 ⊢
      cases b <;> cases b2 <;> simp -implicitDefEqProofs [sDeepOf_l0, hi, get_some hi, e, e1, e2, wrap_succ hi (by omega)] <;> omega)
    (by rw [List.take_length]; simp -implicitDefEqProofs [sDeepOf_l0])
  simp only [Int.natCast_zero, List.take_zero, show ∀ p, deepB [] p = [] from fun _ => rfl, List.length_nil] at L
  simp -implicitDefEqProofs [sDeepOf_m, L]
set_option maxRecDepth 100000 in
theorem sl11Without_ok (t : TreeD) (p : PathD) (ht : szT (.sl TRes) t ≤ 1099511627776) (hp : p.length ≤ 1099511627776) : V sl11Without [.d (.sl TRes t), .d (.sl .str p)] [] = some ([], .one (.own (.sl TRes (withoutB t p)))) := by
  rw [V_eq (fn := sl11Without_m) (by kernel_rfl)]
  have hl := szLen (t := TRes) (l := t)
  have L := loop_each (X := V) (c := sl11Without_l0) t.length (fun i : Nat => ⟨[(6, i6 i), (5, .h 69 0 (withoutB (t.take i) p).length), (1, .d (.sl .str p)), (0, .d (.sl TRes t))], [(69, .ls TRes false (withoutB (t.take i) p) 0 [])]⟩) (.ex 0, ⟨[(5, .h 69 0 (withoutB t p).length)], [(69, .ls TRes false (withoutB t p) 0 [])]⟩) (by simp)
    (fun i hi => by
      have hz := szG (t := TRes) hi
      have hzr := szRes t[i]
      have hzp := szLen (t := .str) (l := t[i].1)
      have e := sl10Copy_ok t[i] (by omega)
      have e1 := sSamePath_ok t[i].1 p (by omega)
      have e2 := sUnder_ok t[i].1 p (by omega)
      simp only [resA, resR] at e
      have hq : (withoutB (t.take i) p).length ≤ 1099511627776 := by
        have h1 : (withoutB (t.take i) p).length ≤ (t.take i).length := List.length_filter_le _ _
        have h2 : (t.take i).length ≤ t.length := by rw [List.length_take]; omega
        omega
      have hf : withoutB (t.take (i + 1)) p = withoutB (t.take i) p ++ (if (!isAtB t[i].1 p) = true then [t[i]] else []) := filter_take hi _
      rw [hf]
      generalize withoutB (t.take i) p = q at hq ⊢
      unfold isAtB
      generalize decide (t[i].1 = p) = b at e1 ⊢
      generalize underB t[i].1 p = b2 at e2 ⊢
      cases b <;> cases b2 <;> simp -implicitDefEqProofs [sl11Without_l0, hi, get_some hi, e, e1, e2, wrap_succ hi (by omega)] <;> omega)
    (by rw [List.take_length]; simp -implicitDefEqProofs [sl11Without_l0])
  simp only [Int.natCast_zero, List.take_zero, show ∀ p, withoutB [] p = [] from fun _ => rfl, List.length_nil] at L
  simp -implicitDefEqProofs [sl11Without_m, L]
def lessAt (r : ResD) (q : ResD) : Bool := lessPathB q.1 r.1
def withB (t : TreeD) (r : ResD) : TreeD := t.takeWhile (lessAt r) ++ (r :: t.dropWhile (lessAt r))
theorem iwithRes_ok (t : TreeD) (r : ResD) (ht : szT (.sl TRes) t ≤ 549755813888) (hr : szT TRes r ≤ 549755813888) : V iwithRes [.d (.sl TRes t), resA r] [] = some ([], .one (.fz (.sl TRes (withB t r)))) := by
  rw [V_eq (fn := iwithRes_m) (by kernel_rfl)]
  have hl := szLen (t := TRes) (l := t)
  have hzr := szRes r
  have hzp := szLen (t := .str) (l := r.1)
  have L := loop_firstI (X := V) (c := iwithRes_l0) t.length (fun i => match t[i]? with | some q => !lessAt r q | none => true) (fun i : Nat => ⟨[(5, i6 i), (3, .p 67 0 0), (0, .d (.sl TRes t))], [(67, .ls TRes true [r] 0 [])]⟩)
    (fun i => (.ex 0, ⟨[(5, i6 i), (3, .p 67 0 0), (0, .d (.sl TRes t))], [(67, .ls TRes true [r] 0 [])]⟩)) (.ex 0, ⟨[(5, i6 t.length), (3, .p 67 0 0), (0, .d (.sl TRes t))], [(67, .ls TRes true [r] 0 [])]⟩) (by simp) (by simp)
    (fun i hi => by
      have hz := szG (t := TRes) hi
      have hzr := szRes t[i]
      have hzp2 := szLen (t := .str) (l := t[i].1)
      have e1 := iLessPath_ok t[i].1 r.1 (by omega) (by omega)
      rw [get_some hi]
      unfold lessAt
      simp only
      obtain ⟨x1, x2, x3, x4, x5⟩ := r
      simp only at e1 ⊢
      by_cases hb : lessPathB t[i].1 x1 = true
      · rw [hb] at e1
        rw [if_neg (by simp [hb])]
        simp -implicitDefEqProofs [iwithRes_l0, hi, get_some hi, e1, wrap_succ hi (by omega)]
      · rw [Bool.eq_false_iff.2 hb] at e1
        rw [if_pos (by simp [hb])]
        simp -implicitDefEqProofs [iwithRes_l0, hi, get_some hi, e1, wrap_succ hi (by omega)])
    (by simp -implicitDefEqProofs [iwithRes_l0])
  simp only [Int.natCast_zero] at L
  -- where the place is
  have key : ∀ (l : TreeD), ∃ k, k ≤ l.length ∧ l.takeWhile (lessAt r) = l.take k ∧ l.dropWhile (lessAt r) = l.drop k ∧ (∀ j (h : j < k) (h2 : j < l.length), lessAt r l[j] = true) ∧ (∀ h : k < l.length, lessAt r l[k] = false) := by
    intro l
    induction l with
    | nil => exact ⟨0, Nat.le_refl _, rfl, rfl, by simp, by simp⟩
    | cons q l ih =>
      obtain ⟨k, h1, h2, h3, h4, h5⟩ := ih
      rw [List.takeWhile_cons, List.dropWhile_cons]
      cases hq : lessAt r q with
      | true =>
        refine ⟨k + 1, by simpa using h1, by simp [h2], by simp [h3], ?_, ?_⟩
        · intro j hj hj2
          cases j with
          | zero => simpa using hq
          | succ j => simpa using h4 j (by omega) (by simpa using hj2)
        · intro h
          simpa using h5 (by simpa using h)
      | false => exact ⟨0, Nat.zero_le _, by simp, by simp, by simp, fun _ => by simpa using hq⟩
  obtain ⟨k, h1, h2, h3, h4, h5⟩ := key t
  have hL : DL V (.loop iwithRes_l0) ⟨[(5, i6 0), (3, .p 67 0 0), (0, .d (.sl TRes t))], [(67, .ls TRes true [r] 0 [])]⟩ = some (.ex 0, ⟨[(5, i6 k), (3, .p 67 0 0), (0, .d (.sl TRes t))], [(67, .ls TRes true [r] 0 [])]⟩) := by
    rw [L]
    by_cases hk : k < t.length
    · rw [firstI_eq (i := k) hk (by rw [get_some hk]; simp [h5 hk]) (fun j hj => by rw [get_some (by omega)]; simp [h4 j hj (by omega)])]
    · obtain rfl : k = t.length := by omega
      rw [firstI_of (fun j hj => by rw [get_some hj]; simp [h4 j hj hj])]
  unfold withB
  rw [h2, h3]
  obtain ⟨x1, x2, x3, x4, x5⟩ := r
  have h6 : (t.take k).length = k := take_len h1
  simp -implicitDefEqProofs [iwithRes_m, hL, h1]
  refine ⟨by omega, by omega, by omega, ?_⟩
  have e1 : ∀ (n m : Nat) (a b : TreeD), a.length = n → b.length = m → List.take (n + m) (List.take n a ++ b) = a ++ b := fun n m a b h1 h2 => by
    rw [List.take_of_length_le (Nat.le_of_eq h1), List.take_of_length_le (by simp [h1, h2])]
  rw [take_all h6, e1 (k + 1) (t.length - k) (t.take k ++ [(x1, x2, x3, x4, x5)]) ((t.drop k).take (t.length - k)) (by rw [List.length_append, h6]; rfl) (by simp), (take_all (q := t.drop k) (i := t.length - k) (by simp)), List.append_assoc]
  rfl
/-! The order of paths. -/
theorem bytesLess_cons (a b : UInt8) (x y : List UInt8) : Op.bytesLess (a :: x) (b :: y) = (decide (a < b) || (decide (a = b) && Op.bytesLess x y)) := by
  simp only [Op.bytesLess]
  by_cases h1 : a < b
  · simp [h1]
  · by_cases h2 : a = b
    · subst h2; simp
    · have : b < a := by
        simp only [UInt8.lt_iff_toNat_lt] at h1 ⊢
        have : a.toNat ≠ b.toNat := fun e => h2 (UInt8.toNat_inj.1 e)
        omega
      simp [h1, h2, this]
theorem bytesLess_trans : ∀ {x y z : List UInt8}, Op.bytesLess x y = true → Op.bytesLess y z = true → Op.bytesLess x z = true
  | [], [], _, h, _ => by simp [Op.bytesLess] at h
  | _ :: _, [], _, h, _ => by simp [Op.bytesLess] at h
  | _, _ :: _, [], _, h => by simp [Op.bytesLess] at h
  | [], _ :: _, _ :: _, _, _ => by simp [Op.bytesLess]
  | a :: x, b :: y, c :: z, h1, h2 => by
    rw [bytesLess_cons] at h1 h2 ⊢
    simp only [Bool.or_eq_true, decide_eq_true_eq, Bool.and_eq_true, UInt8.lt_iff_toNat_lt] at h1 h2 ⊢
    rcases h1 with h1 | ⟨rfl, h1⟩
    · rcases h2 with h2 | ⟨rfl, h2⟩
      · left; omega
      · left; exact h1
    · rcases h2 with h2 | ⟨rfl, h2⟩
      · left; exact h2
      · right; exact ⟨rfl, bytesLess_trans h1 h2⟩
theorem bytesLess_tri : ∀ (x y : List UInt8), x = y ∨ Op.bytesLess x y = true ∨ Op.bytesLess y x = true
  | [], [] => .inl rfl
  | [], _ :: _ => .inr (.inl (by simp [Op.bytesLess]))
  | _ :: _, [] => .inr (.inr (by simp [Op.bytesLess]))
  | a :: x, b :: y => by
    rw [bytesLess_cons, bytesLess_cons]
    simp only [Bool.or_eq_true, decide_eq_true_eq, Bool.and_eq_true, UInt8.lt_iff_toNat_lt]
    rcases Nat.lt_trichotomy a.toNat b.toNat with h | h | h
    · exact .inr (.inl (.inl h))
    · obtain rfl := UInt8.toNat_inj.1 h
      rcases bytesLess_tri x y with e | e | e
      · exact .inl (by rw [e])
      · exact .inr (.inl (.inr ⟨rfl, e⟩))
      · exact .inr (.inr (.inr ⟨rfl, e⟩))
    · exact .inr (.inr (.inl h))
def lexP : PathD → PathD → Bool
  | [], [] => false
  | [], _ :: _ => true
  | _ :: _, [] => false
  | x :: a, y :: b => if x = y then lexP a b else Op.bytesLess x y
theorem firstI_succ (n : Nat) (p : Nat → Bool) : firstI (n + 1) p = if p 0 = true then some 0 else (firstI n fun i => p (i + 1)).map (· + 1) := by
  by_cases h0 : p 0 = true
  · rw [if_pos h0]; exact firstI_eq (Nat.succ_pos n) h0 (fun j hj => absurd hj (Nat.not_lt_zero j))
  · rw [if_neg h0]
    cases e : firstI n (fun i => p (i + 1)) with
    | none =>
      refine firstI_of fun i hi => ?_
      cases i with
      | zero => simpa using h0
      | succ i => exact firstI_none e i (by omega)
    | some k =>
      obtain ⟨h1, h2, h3⟩ := firstI_some e
      show firstI (n + 1) p = some (k + 1)
      refine firstI_eq (by omega) h2 (fun j hj => ?_)
      cases j with
      | zero => simpa using h0
      | succ j => exact h3 j (by omega)
theorem lessPath_lex : ∀ (a b : PathD), lessPathB a b = lexP a b
  | [], [] => rfl
  | [], _ :: _ => by simp [lessPathB, diffI, firstI, firstFrom, lexP]
  | _ :: _, [] => by simp [lessPathB, diffI, firstI, firstFrom, lexP]
  | x :: a, y :: b => by
    have ih := lessPath_lex a b
    unfold lessPathB diffI at ih ⊢
    rw [List.length_cons, List.length_cons, show min (a.length + 1) (b.length + 1) = min a.length b.length + 1 by omega, firstI_succ]
    simp only [lexP, List.getElem?_cons_zero, List.getElem?_cons_succ]
    by_cases h : x = y
    · subst h
      simp only [decide_true, Bool.not_true, Bool.false_eq_true, if_false, if_true]
      rw [← ih]
      cases firstI (min a.length b.length) (fun i => !decide (a[i]? = b[i]?)) <;> simp
    · simp [h]
theorem lexP_trans : ∀ {a b c : PathD}, lexP a b = true → lexP b c = true → lexP a c = true
  | [], [], _, h, _ => by simp [lexP] at h
  | _ :: _, [], _, h, _ => by simp [lexP] at h
  | _, _ :: _, [], _, h => by simp [lexP] at h
  | [], _ :: _, _ :: _, _, _ => rfl
  | x :: a, y :: b, z :: c, h1, h2 => by
    simp only [lexP] at h1 h2 ⊢
    by_cases e1 : x = y
    · subst e1
      rw [if_pos rfl] at h1
      by_cases e2 : x = z
      · rw [if_pos e2] at h2 ⊢; exact lexP_trans h1 h2
      · rw [if_neg e2] at h2 ⊢; exact h2
    · rw [if_neg e1] at h1
      by_cases e2 : y = z
      · subst e2; rw [if_neg e1]; exact h1
      · rw [if_neg e2] at h2
        have h3 := bytesLess_trans h1 h2
        by_cases e3 : x = z
        · subst e3; rw [bytesLess_irrefl] at h3; cases h3
        · rw [if_neg e3]; exact h3
theorem lexP_irrefl : ∀ (a : PathD), lexP a a = false
  | [] => rfl
  | x :: a => by simp only [lexP, if_true]; exact lexP_irrefl a
theorem lexP_tri : ∀ (a b : PathD), a = b ∨ lexP a b = true ∨ lexP b a = true
  | [], [] => .inl rfl
  | [], _ :: _ => .inr (.inl rfl)
  | _ :: _, [] => .inr (.inr rfl)
  | x :: a, y :: b => by
    simp only [lexP]
    by_cases e : x = y
    · subst e
      simp only [if_true]
      rcases lexP_tri a b with h | h | h
      · exact .inl (by rw [h])
      · exact .inr (.inl h)
      · exact .inr (.inr h)
    · rw [if_neg e, if_neg (Ne.symm e)]
      rcases bytesLess_tri x y with h | h | h
      · exact absurd h e
      · exact .inr (.inl h)
      · exact .inr (.inr h)
theorem less_trans {a b c : PathD} (h1 : lessPathB a b = true) (h2 : lessPathB b c = true) : lessPathB a c = true := by
  rw [lessPath_lex] at *; exact lexP_trans h1 h2
theorem less_irrefl (a : PathD) : lessPathB a a = false := by rw [lessPath_lex]; exact lexP_irrefl a
theorem less_tri (a b : PathD) : a = b ∨ lessPathB a b = true ∨ lessPathB b a = true := by rw [lessPath_lex, lessPath_lex]; exact lexP_tri a b
theorem less_asymm {a b : PathD} (h : lessPathB a b = true) : lessPathB b a = false := by
  cases e : lessPathB b a with
  | false => rfl
  | true => have := less_trans h e; rw [less_irrefl] at this; cases this
/-- In order, each below the next. -/
def Ord : TreeD → Prop
  | [] => True
  | r :: t => (∀ q ∈ t, lessPathB r.1 q.1 = true) ∧ Ord t
theorem Ord.filter (q : ResD → Bool) : ∀ {t : TreeD}, Ord t → Ord (t.filter q)
  | [], _ => trivial
  | r :: t, h => by
    rw [List.filter_cons]
    split
    · exact ⟨fun x hx => h.1 x (List.mem_filter.1 hx).1, Ord.filter q h.2⟩
    · exact Ord.filter q h.2
theorem ord_of : ∀ {t : TreeD}, (∀ i (hi : i + 1 < t.length), lessPathB t[i].1 t[i + 1].1 = true) → Ord t
  | [], _ => trivial
  | [r], _ => ⟨by simp, trivial⟩
  | r :: q :: t, next => by
    have ih : Ord (q :: t) := ord_of (fun i hi => next (i + 1) (Nat.succ_lt_succ hi))
    refine ⟨?_, ih⟩
    have h0 : lessPathB r.1 q.1 = true := next 0 (by simp)
    intro x hx
    rcases List.mem_cons.1 hx with rfl | hx
    · exact h0
    · exact less_trans h0 (ih.1 x hx)
theorem treeB_ord {t : TreeD} (h : treeB t = true) : Ord t := by
  unfold treeB at h
  rw [Bool.and_eq_true] at h
  have h := eachB_iff.1 h.1
  refine ord_of fun i hi => ?_
  have := h (i + 1) hi
  simp only [Bool.and_eq_true] at this
  have := this.1.2
  rwa [prevB_pos (Nat.succ_pos i) (by omega)] at this
theorem Ord.mem {t : TreeD} (h : Ord t) {p : PathD} {r r' : ResD} (h1 : r ∈ t) (h2 : r' ∈ t) (e1 : r.1 = p) (e2 : r'.1 = p) : r = r' := by
  induction t with
  | nil => cases h1
  | cons x t ih =>
    have bad : ∀ {a b : ResD}, a.1 = p → b.1 = p → lessPathB a.1 b.1 = true → False := fun ea eb hl => by
      rw [ea, eb, less_irrefl] at hl; cases hl
    rcases List.mem_cons.1 h1 with rfl | m1
    · rcases List.mem_cons.1 h2 with rfl | m2
      · rfl
      · exact (bad e1 e2 (h.1 _ m2)).elim
    · rcases List.mem_cons.1 h2 with rfl | m2
      · exact (bad e2 e1 (h.1 _ m1)).elim
      · exact ih h.2 m1 m2
/-- What is put in where nothing is. -/
theorem putFold_eq (r : ResD) : ∀ (t o : TreeD) (b : Bool), (∀ q ∈ t, q.1 ≠ r.1) → t.foldl (putStep r) (b, o) =
    if b = true then (true, o ++ t) else if t.dropWhile (lessAt r) = [] then (false, o ++ t) else (true, o ++ withB t r)
  | [], o, b, _ => by cases b <;> simp
  | q :: t, o, b, h => by
    have hq : q.1 ≠ r.1 := h q (by simp)
    have ht : ∀ q ∈ t, q.1 ≠ r.1 := fun x hx => h x (by simp [hx])
    rw [List.foldl_cons]
    unfold putStep
    simp only [if_neg hq]
    cases b with
    | true =>
      simp only [Bool.not_true, Bool.false_and, Bool.false_eq_true, if_false, Bool.or_false]
      have := putFold_eq r t (o ++ [q]) true ht
      unfold putStep at this
      simp only [if_true] at this ⊢
      rw [this]; simp
    | false =>
      cases hl : lessPathB q.1 r.1 with
      | true =>
        simp only [Bool.not_false, Bool.true_and, Bool.not_true, Bool.false_eq_true, if_false, Bool.or_false]
        have := putFold_eq r t (o ++ [q]) false ht
        unfold putStep at this
        simp only [Bool.false_eq_true, if_false] at this
        rw [this]
        unfold withB
        rw [List.takeWhile_cons, List.dropWhile_cons, show lessAt r q = true from hl]
        simp
      | false =>
        simp only [Bool.not_false, Bool.true_and, if_true, Bool.or_true, Bool.false_eq_true, if_false]
        have := putFold_eq r t (o ++ [r] ++ [q]) true ht
        unfold putStep at this
        simp only [if_true] at this
        rw [this]
        unfold withB
        rw [List.takeWhile_cons, List.dropWhile_cons, show lessAt r q = false from hl]
        simp
theorem putIn_new {t : TreeD} {r : ResD} (h : ∀ q ∈ t, q.1 ≠ r.1) : putInB t r = withB t r := by
  unfold putInB putFold
  rw [putFold_eq r t [] false h]
  simp only [Bool.false_eq_true, if_false, List.nil_append]
  by_cases hd : t.dropWhile (lessAt r) = []
  · rw [if_pos hd]
    unfold withB
    rw [hd]
    have := List.takeWhile_append_dropWhile (p := lessAt r) (l := t)
    rw [hd, List.append_nil] at this
    simp [this]
  · rw [if_neg hd]; simp
def formB (t : TreeD) (v : Int) (ps : List PathD) : Int := if treeB t = true then (if ps.all pathB = true then (if (decide (0 ≤ v) && decide (v ≤ 99999)) = true then 0 else 507) else 400) else 500
abbrev treeF (r : TreeD × Int) : Option (List (Option Ob) × RV) := some ([], .tup [.one (.fz (.sl TRes r.1)), .one (.fz (.i .i64 r.2))])
theorem formB_may (t : TreeD) (v : Int) (p : PathD) : formB t v [p] = mayR t p v := by
  unfold formB mayR; simp
theorem iopForm_ok (t : TreeD) (v : Int) (ps : List PathD) (ht : szT (.sl TRes) t ≤ 1099511627776) (hl : ps.length ≤ 1099511627776) (hp : ∀ p ∈ ps, szT (.sl .str) p ≤ 1099511627776) : V iopForm [.d (.sl TRes t), i6 v, .d (.sl (.sl .str) ps)] [] = rI (formB t v ps) := by
  rw [V_eq (fn := iopForm_m) (by kernel_rfl)]
  have e1 := iTreeOk_ok t ht
  have e2 := iin_ok v 0 99999
  have L := loop_all (X := V) (c := iopForm_l0) ps pathB (fun i : Nat => ⟨[(14, i6 i), (13, i6 ps.length), (12, .d (.sl (.sl .str) ps)), (1, i6 v)], []⟩) (.ret, ⟨[(6, i6 400)], []⟩) (.ex 0, ⟨[(1, i6 v)], []⟩) (by simp) (by simp)
    (fun i hi => by
      have e := iPathOk_ok ps[i] (okP_sz (hp _ (List.getElem_mem hi)))
      generalize pathB ps[i] = b at e ⊢
      cases b <;> simp -implicitDefEqProofs [iopForm_l0, hi, get_some hi, e, wrap_succ hi (by omega)])
    (by simp -implicitDefEqProofs [iopForm_l0])
  simp only [Int.natCast_zero] at L
  unfold formB
  generalize treeB t = t1 at e1 ⊢
  generalize (decide (0 ≤ v) && decide (v ≤ 99999)) = t3 at e2 ⊢
  cases t1
  · simp -implicitDefEqProofs [iopForm_m, e1]
  cases h : ps.all pathB
  · rw [h] at L; simp -implicitDefEqProofs only [Bool.false_eq_true, if_false] at L
    simp -implicitDefEqProofs [iopForm_m, e1, L]
  · rw [h] at L; simp -implicitDefEqProofs only [if_true] at L
    cases t3 <;> simp -implicitDefEqProofs [iopForm_m, e1, e2, L]
theorem putFold_old (r : ResD) : ∀ (t o : TreeD) (i : Nat) (hi : i < t.length), Ord t → t[i].1 = r.1 → t.foldl (putStep r) (false, o) = (true, o ++ t.set i r)
  | [], _, i, hi, _, _ => by simp at hi
  | q :: t, o, 0, hi, ho, he => by
    have he : q.1 = r.1 := he
    have hne : ∀ x ∈ t, x.1 ≠ r.1 := fun x hx e => by
      have := ho.1 x hx
      rw [he, e, less_irrefl] at this; cases this
    rw [List.foldl_cons]
    have h1 : putStep r (false, o) q = (true, o ++ [r]) := by
      unfold putStep
      simp only [he, less_irrefl]
      simp
    rw [h1, putFold_eq r t _ true hne]
    simp
  | q :: t, o, i + 1, hi, ho, he => by
    have hi' : i < t.length := by simpa using hi
    have he' : t[i].1 = r.1 := he
    have hl : lessPathB q.1 r.1 = true := by rw [← he']; exact ho.1 _ (List.getElem_mem hi')
    have hne : q.1 ≠ r.1 := fun e => by rw [e, less_irrefl] at hl; cases hl
    rw [List.foldl_cons]
    have h1 : putStep r (false, o) q = (false, o ++ [q]) := by
      unfold putStep
      simp only [hl, if_neg hne]
      simp
    rw [h1, putFold_old r t _ i hi' ho.2 he']
    simp
theorem putIn_old {t : TreeD} {r : ResD} {i : Nat} (hi : i < t.length) (ho : Ord t) (he : t[i].1 = r.1) : putInB t r = t.set i r := by
  unfold putInB putFold
  rw [putFold_old r t [] i hi ho he]
  simp
theorem find_none {t : TreeD} {p : PathD} (h : t.findIdx? (atP p) = none) : ∀ q ∈ t, q.1 ≠ p := fun q hq e => by
  have := List.findIdx?_eq_none_iff.1 h q hq
  rw [show atP p q = true from decide_eq_true e] at this; cases this
set_option maxRecDepth 100000 in
theorem iwithRes_nil (l : TreeD) (p : PathD) (b : Bool) (s : List UInt8) (n : Int) : V iwithRes [.d (.sl TRes l), .agg [.d (.sl .str p), .d (.b b), .d (.s s), i6 n, .nil TProp]] [] = V iwithRes [.d (.sl TRes l), resA (p, b, s, n, [])] [] := by
  rw [V_eq (fn := iwithRes_m) (by kernel_rfl)]
  rw [V_eq (fn := iwithRes_m) (by kernel_rfl)]
  simp -implicitDefEqProofs [iwithRes_m]
theorem iMakeColl_ok (t : TreeD) (p : PathD) (n : Int) (ht : szT (.sl TRes) t ≤ 274877906944) (hp : szT (.sl .str) p ≤ 274877906944) : V iMakeColl [.d (.sl TRes t), .d (.sl .str p), i6 n] [] = treeF (makeCollB t p n) := by
  rw [V_eq (fn := iMakeColl_m) (by kernel_rfl)]
  have hl := szLen (t := .str) (l := p)
  have hn := szLen (t := TRes) (l := t)
  have e1 := iopForm_ok t n [p] (by omega) (by simp) (fun q hq => by obtain rfl := List.mem_singleton.1 hq; omega)
  rw [formB_may] at e1
  have e2 := iFindRes_ok t p (by omega)
  have e3 := iAbove_ok p (by omega)
  have e4 := iIsColl_ok t p.dropLast (by omega)
  have e5 := icopyTree_ok t (by omega)
  have e6 := iwithRes_ok t (p, true, [], n, []) (by omega) (by rw [szRes]; simp only [List.length_nil]; rw [szNoProp]; omega)
  have e7 := icopyPath_ok p (by omega)
  have hnew : 0 ≤ findB t p ∨ putInB t (p, true, [], n, []) = withB t (p, true, [], n, []) := by
    unfold findB
    cases hf : t.findIdx? (atP p) with
    | some i => left; simp
    | none => right; exact putIn_new (find_none hf)
  unfold makeCollB collR
  generalize mayR t p n = r at e1 ⊢
  generalize findB t p = f at e2 hnew ⊢
  generalize collB t p.dropLast = t4 at e4 ⊢
  rw [← iwithRes_nil] at e6
  by_cases hr : r = 0
  · subst hr
    simp only [ne_eq, not_true, if_false]
    by_cases hp : p = []
    · subst hp
      simp -implicitDefEqProofs [iMakeColl_m, e1, e2, e5]
    have hpl : ((p.length : Int) = 0) = False := eq_false (fun h => hp (List.eq_nil_of_length_eq_zero (by omega)))
    by_cases hf : 0 ≤ f
    · simp -implicitDefEqProofs [iMakeColl_m, e1, e2, e5, hp, hf]
    cases t4
    · simp -implicitDefEqProofs [iMakeColl_m, e1, e2, e3, e4, e5, hp, hf]
    by_cases hc : 12 ≤ t.length
    · simp -implicitDefEqProofs [iMakeColl_m, e1, e2, e3, e4, e5, hp, hf, hc, (eq_true (by omega) : ((12 : Int) ≤ (t.length : Int)) = True)]
    · rw [hnew.resolve_left hf]
      generalize withB t (p, true, [], n, []) = q at e6 ⊢
      simp -implicitDefEqProofs [iMakeColl_m, e1, e2, e3, e4, e5, e6, e7, hp, hf, hc, (eq_false (by omega) : ((12 : Int) ≤ (t.length : Int)) = False)]
  · simp -implicitDefEqProofs [iMakeColl_m, e1, e5, hr]
def removeB (t : TreeD) (p : PathD) : TreeD × Int := if mayR t p 0 ≠ 0 then (t, mayR t p 0) else if p = [] then (t, 403) else if findB t p < 0 then (t, 404) else (withoutB t p, 204)
theorem iRemove_ok (t : TreeD) (p : PathD) (ht : szT (.sl TRes) t ≤ 274877906944) (hp : szT (.sl .str) p ≤ 274877906944) : V iRemove [.d (.sl TRes t), .d (.sl .str p)] [] = treeR (removeB t p) := by
  rw [V_eq (fn := iRemove_m) (by kernel_rfl)]
  have hl := szLen (t := .str) (l := p)
  have e1 := iopForm_ok t 0 [p] (by omega) (by simp) (fun q hq => by obtain rfl := List.mem_singleton.1 hq; omega)
  rw [formB_may] at e1
  have e2 := iFindRes_ok t p (by omega)
  have e3 := iwithout_ok t p (by omega) (by omega)
  have e5 := icopyTree_ok t (by omega)
  unfold removeB
  generalize mayR t p 0 = r at e1 ⊢
  generalize findB t p = f at e2 ⊢
  generalize withoutB t p = q at e3 ⊢
  by_cases hr : r = 0
  · subst hr
    simp only [ne_eq, not_true, if_false]
    by_cases hp : p = []
    · subst hp
      simp -implicitDefEqProofs [iRemove_m, e1, e5]
    by_cases hf : f < 0
    · simp -implicitDefEqProofs [iRemove_m, e1, e2, e5, hp, hf]
    · simp -implicitDefEqProofs [iRemove_m, e1, e2, e3, hp, hf]
  · simp -implicitDefEqProofs [iRemove_m, e1, e5, hr]
theorem sRemove_ok (t : TreeD) (p : PathD) (ht : szT (.sl TRes) t ≤ 274877906944) (hp : szT (.sl .str) p ≤ 274877906944) : V sRemove [.d (.sl TRes t), .d (.sl .str p)] [] = treeR (removeB t p) := by
  rw [V_eq (fn := sRemove_m) (by kernel_rfl)]
  have hl := szLen (t := .str) (l := p)
  have e1 := sl11May_ok t p 0 (by omega) (by omega)
  have e2 := sFindRes_ok t p (by omega)
  have e3 := sl11Without_ok t p (by omega) (by omega)
  have e5 := sl10CopyAll_ok t (by omega)
  unfold removeB
  generalize mayR t p 0 = r at e1 ⊢
  generalize findB t p = f at e2 ⊢
  generalize withoutB t p = q at e3 ⊢
  by_cases hr : r = 0
  · subst hr
    simp only [ne_eq, not_true, if_false]
    by_cases hp : p = []
    · subst hp
      simp -implicitDefEqProofs [sRemove_m, e1, e5]
    by_cases hf : f < 0
    · simp -implicitDefEqProofs [sRemove_m, e1, e2, e5, hp, hf]
    · simp -implicitDefEqProofs [sRemove_m, e1, e2, e3, hp, hf]
  · simp -implicitDefEqProofs [sRemove_m, e1, e5, hr]
theorem mayR_tree {t : TreeD} {p : PathD} {n : Int} (h : mayR t p n = 0) : treeB t = true := by
  unfold mayR at h
  cases ht : treeB t with
  | true => rfl
  | false => rw [ht] at h; simp at h
theorem collB_flag {t : TreeD} {p : PathD} {i : Nat} (hf : t.findIdx? (atP p) = some i) (hi : i < t.length) (hc : collB t p = false) : t[i].2.1 = false := by
  unfold collB at hc
  simp only [hf, get_some hi, Bool.or_eq_false_iff] at hc
  exact hc.2
set_option maxRecDepth 100000 in
theorem iPutFile_ok (t : TreeD) (p : PathD) (s : List UInt8) (n : Int) (ht : szT (.sl TRes) t ≤ 274877906944) (hps : szT (.sl .str) p + s.length + szT (.sl TRes) t ≤ 274877906944) : V iPutFile [.d (.sl TRes t), .d (.sl .str p), .d (.s s), i6 n] [] = treeF (putFileB t p s n) := by
  rw [V_eq (fn := iPutFile_m) (by kernel_rfl)]
  have hl := szLen (t := .str) (l := p)
  have hn := szLen (t := TRes) (l := t)
  have e1 := iopForm_ok t n [p] (by omega) (by simp) (fun q hq => by obtain rfl := List.mem_singleton.1 hq; omega)
  rw [formB_may] at e1
  have e2 := iFindRes_ok t p (by omega)
  have e3 := iAbove_ok p (by omega)
  have e4 := iIsColl_ok t p.dropLast (by omega)
  have e4' := iIsColl_ok t p (by omega)
  have e5 := icopyTree_ok t (by omega)
  have e6 := iwithRes_ok t (p, false, s, n, []) (by omega) (by rw [szRes]; simp only; rw [szNoProp]; omega)
  rw [← iwithRes_nil] at e6
  have e7 := icopyPath_ok p (by omega)
  unfold putFileB fileR
  by_cases hr : ¬ mayR t p n = 0
  · generalize mayR t p n = r at e1 hr ⊢
    simp -implicitDefEqProofs [iPutFile_m, e1, e5, hr]
  have hr := Classical.not_not.1 hr
  have hto := mayR_tree hr
  rw [hr] at e1 ⊢
  simp only [ne_eq, not_true, if_false]
  by_cases h5 : collB t p = true
  · rw [h5] at e4' ⊢
    simp -implicitDefEqProofs [iPutFile_m, e1, e2, e4', e5]
  have h5 := Bool.eq_false_iff.2 h5
  rw [h5] at e4' ⊢
  generalize collB t p.dropLast = t4 at e4 ⊢
  cases t4
  · simp -implicitDefEqProofs [iPutFile_m, e1, e2, e3, e4, e4', e5]
  by_cases hs : 200 < s.length
  · simp -implicitDefEqProofs [iPutFile_m, e1, e2, e3, e4, e4', e5, hs, (eq_true (by omega) : ((200 : Int) < (s.length : Int)) = True)]
  have hs' : ((200 : Int) < (s.length : Int)) = False := eq_false (by omega)
  unfold findB at e2 ⊢
  cases hf : t.findIdx? (atP p) with
  | none =>
    simp only [hf] at e2 ⊢
    by_cases hc : 12 ≤ t.length
    · simp -implicitDefEqProofs [iPutFile_m, e1, e2, e3, e4, e4', e5, hs, hs', hc, (eq_true (by omega) : ((12 : Int) ≤ (t.length : Int)) = True)]
    · rw [putIn_new (find_none hf)]
      simp -implicitDefEqProofs [iPutFile_m, e1, e2, e3, e4, e4', e5, e6, e7, hs, hs', hc, (eq_false (by omega) : ((12 : Int) ≤ (t.length : Int)) = False)]
  | some i =>
    obtain ⟨hi, hq, _⟩ := List.findIdx?_eq_some_iff_getElem.1 hf
    have hq' : t[i].1 = p := of_decide_eq_true hq
    have hfl := collB_flag hf hi h5
    simp only [hf, get_some hi] at e2 ⊢
    rw [putIn_old (r := (p, false, s, n, t[i].2.2.2.2)) hi (treeB_ord hto) hq']
    have hrow : (t[i].1, t[i].2.1, s, n, t[i].2.2.2.2) = ((p, false, s, n, t[i].2.2.2.2) : ResD) := by rw [hq', hfl]
    rw [← hrow]
    simp -implicitDefEqProofs [iPutFile_m, e1, e2, e3, e4, e4', e5, hs, hs', hi, get_some hi]
    exact List.take_of_length_le (by simp)
end Go.Proofs.YtfklggpopffkjaaGreatK
