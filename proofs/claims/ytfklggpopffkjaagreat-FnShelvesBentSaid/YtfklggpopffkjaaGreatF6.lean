/- What the functions come to. -/
import Derived.Test.YtfklggpopffkjaaGreatF5
set_option linter.unusedVariables false
set_option linter.unusedSimpArgs false
namespace Go.Proofs.YtfklggpopffkjaaGreatK
open Go.RowKit
def nameB (s : List UInt8) : Bool := decide (1 ≤ s.length) && decide (s.length ≤ 8) && s.all plainB && !(s.contains 47) && !decide (s = [46]) && !decide (s = [46, 46])
theorem len_range (n a b : Nat) : (decide ((a : Int) ≤ (n : Int)) && decide ((n : Int) ≤ (b : Int))) = (decide (a ≤ n) && decide (n ≤ b)) := by simp only [Int.ofNat_le]
theorem contains_ok (s : List UInt8) (c : UInt8) : V x_strings_Contains [.d (.s s), .d (.s [c])] [] = some ([], .one (.fz (.b (s.contains c)))) := by
  rw [V, evL_ext tab extE (by kernel_rfl)]; rfl
theorem iNameOk_ok (s : List UInt8) (hs : s.length ≤ 9223372036854775807) : V iNameOk [.d (.s s)] [] = some ([], .one (.fz (.b (nameB s)))) := by
  rw [V_eq (fn := iNameOk_m) (by kernel_rfl)]
  have e1 := iin_ok s.length 1 8
  have e2 := iPlain_ok s hs
  have e3 := contains_ok s 47
  rw [show (decide ((1 : Int) ≤ (s.length : Int)) && decide ((s.length : Int) ≤ 8)) = (decide (1 ≤ s.length) && decide (s.length ≤ 8)) from len_range s.length 1 8] at e1
  unfold nameB
  generalize (decide (1 ≤ s.length) && decide (s.length ≤ 8)) = t1 at e1 ⊢
  generalize s.all plainB = t2 at e2 ⊢
  generalize s.contains 47 = t3 at e3 ⊢
  obtain ⟨t4, h4⟩ : ∃ t, decide (s = [46]) = t := ⟨_, rfl⟩
  obtain ⟨t5, h5⟩ : ∃ t, decide (s = [46, 46]) = t := ⟨_, rfl⟩
  rw [h4, h5]
  cases t1 <;> cases t2 <;> cases t3 <;> cases t4 <;> simp -implicitDefEqProofs [iNameOk_m, e1, e2, e3, h4, h5]
theorem sNameOk_l (s : List UInt8) (hs : s.length ≤ 9223372036854775807) : ∀ i : Nat, i ≤ s.length →
    DL V (.loop sNameOk_l0) ⟨[(3, .d (.i .i64 i)), (0, .d (.s s))], []⟩ = if (s.drop i).contains 47 then some (.ret, ⟨[(2, .d (.b false))], []⟩) else some (.ex 0, ⟨[(0, .d (.s s))], []⟩) := by
  refine loop_rec (fun i : Nat => (⟨[(3, .d (.i .i64 i)), (0, .d (.s s))], []⟩ : St)) _ (fun i => s.length - i) (fun i => i ≤ s.length) (fun i hi => ?_)
  by_cases h : i < s.length
  · have e : s[i]? = some s[i] := List.getElem?_eq_getElem h
    rw [List.drop_eq_getElem_cons h, List.contains_cons]
    by_cases hp : s[i] = 47
    · refine .inr ⟨(.ret, ⟨[(2, .d (.b false))], []⟩), by simp, ?_, by simp [hp]⟩
      simp -implicitDefEqProofs [sNameOk_l0, h, e, hp]
    · refine .inl ⟨i + 1, ?_, by omega, by omega, by simp [Ne.symm hp]⟩
      simp -implicitDefEqProofs [sNameOk_l0, h, e, hp, wrap_succ h hs]
  · have : i = s.length := by omega
    subst this
    refine .inr ⟨(.ex 0, ⟨[(0, .d (.s s))], []⟩), by simp, ?_, by simp⟩
    simp -implicitDefEqProofs [sNameOk_l0]
theorem sNameOk_ok (s : List UInt8) (hs : s.length ≤ 9223372036854775807) : V sNameOk [.d (.s s)] [] = some ([], .one (.fz (.b (nameB s)))) := by
  rw [V_eq (fn := sNameOk_m) (by kernel_rfl)]
  have e0 := sNameOk_l s hs 0 (Nat.zero_le _)
  simp only [List.drop_zero, Int.natCast_zero] at e0
  have e1 := sl1In_ok s.length 1 8
  have e2 := sPlain_ok s hs
  rw [show (decide ((1 : Int) ≤ (s.length : Int)) && decide ((s.length : Int) ≤ 8)) = (decide (1 ≤ s.length) && decide (s.length ≤ 8)) from len_range s.length 1 8] at e1
  unfold nameB
  generalize (decide (1 ≤ s.length) && decide (s.length ≤ 8)) = t1 at e1 ⊢
  generalize s.all plainB = t2 at e2 ⊢
  generalize s.contains 47 = t3 at e0 ⊢
  obtain ⟨t4, h4⟩ : ∃ t, decide (s = [46]) = t := ⟨_, rfl⟩
  obtain ⟨t5, h5⟩ : ∃ t, decide (s = [46, 46]) = t := ⟨_, rfl⟩
  rw [h4, h5]
  cases t3
  · simp only [Bool.false_eq_true, if_false] at e0
    cases t1 <;> cases t2 <;> cases t4 <;> simp -implicitDefEqProofs [sNameOk_m, e0, e1, e2, h4, h5]
  · simp only [if_true] at e0
    simp -implicitDefEqProofs [sNameOk_m, e0]
def pathB (p : List (List UInt8)) : Bool := p.all nameB && decide (p.length ≤ 4)
abbrev OkP (p : List (List UInt8)) : Prop := p.length ≤ 9223372036854775807 ∧ ∀ s ∈ p, s.length ≤ 9223372036854775807
theorem iPathOk_l (p : List (List UInt8)) (hp : OkP p) : ∀ i : Nat, i ≤ p.length →
    DL V (.loop iPathOk_l0) ⟨[(7, .d (.i .i64 i)), (6, .d (.i .i64 p.length)), (5, .d (.sl .str p)), (0, .d (.sl .str p))], []⟩ = if (p.drop i).all nameB then some (.ex 0, ⟨[(0, .d (.sl .str p))], []⟩) else some (.ret, ⟨[(2, .d (.b false))], []⟩) := by
  refine loop_rec (fun i : Nat => (⟨[(7, .d (.i .i64 i)), (6, .d (.i .i64 p.length)), (5, .d (.sl .str p)), (0, .d (.sl .str p))], []⟩ : St)) _ (fun i => p.length - i) (fun i => i ≤ p.length) (fun i hi => ?_)
  by_cases h : i < p.length
  · have e : p[i]? = some p[i] := List.getElem?_eq_getElem h
    have e2 := iNameOk_ok p[i] (hp.2 _ (List.getElem_mem h))
    rw [List.drop_eq_getElem_cons h, List.all_cons]
    cases hn : nameB p[i] <;> rw [hn] at e2
    · refine .inr ⟨(.ret, ⟨[(2, .d (.b false))], []⟩), by simp, ?_, by simp⟩
      simp -implicitDefEqProofs [iPathOk_l0, h, e, e2]
    · refine .inl ⟨i + 1, ?_, by omega, by omega, by simp⟩
      simp -implicitDefEqProofs [iPathOk_l0, h, e, e2, wrap_succ h hp.1]
  · have : i = p.length := by omega
    subst this
    refine .inr ⟨(.ex 0, ⟨[(0, .d (.sl .str p))], []⟩), by simp, ?_, by simp⟩
    simp -implicitDefEqProofs [iPathOk_l0]
theorem iPathOk_ok (p : List (List UInt8)) (hp : OkP p) : V iPathOk [.d (.sl .str p)] [] = some ([], .one (.fz (.b (pathB p)))) := by
  rw [V_eq (fn := iPathOk_m) (by kernel_rfl)]
  have := iPathOk_l p hp 0 (Nat.zero_le _)
  simp only [List.drop_zero, Int.natCast_zero] at this
  unfold pathB
  cases h : p.all nameB <;> rw [h] at this <;> simp -implicitDefEqProofs [iPathOk_m, this]
  omega
theorem sPathOk_l (p : List (List UInt8)) (hp : OkP p) : ∀ i : Nat, i ≤ p.length →
    DL V (.loop sPathOk_l0) ⟨[(3, .d (.i .i64 i)), (0, .d (.sl .str p))], []⟩ = if (p.drop i).all nameB then some (.ex 0, ⟨[(0, .d (.sl .str p))], []⟩) else some (.ret, ⟨[(2, .d (.b false))], []⟩) := by
  refine loop_rec (fun i : Nat => (⟨[(3, .d (.i .i64 i)), (0, .d (.sl .str p))], []⟩ : St)) _ (fun i => p.length - i) (fun i => i ≤ p.length) (fun i hi => ?_)
  by_cases h : i < p.length
  · have e : p[i]? = some p[i] := List.getElem?_eq_getElem h
    have e2 := sNameOk_ok p[i] (hp.2 _ (List.getElem_mem h))
    rw [List.drop_eq_getElem_cons h, List.all_cons]
    cases hn : nameB p[i] <;> rw [hn] at e2
    · refine .inr ⟨(.ret, ⟨[(2, .d (.b false))], []⟩), by simp, ?_, by simp⟩
      simp -implicitDefEqProofs [sPathOk_l0, h, e, e2]
    · refine .inl ⟨i + 1, ?_, by omega, by omega, by simp⟩
      simp -implicitDefEqProofs [sPathOk_l0, h, e, e2, wrap_succ h hp.1]
  · have : i = p.length := by omega
    subst this
    refine .inr ⟨(.ex 0, ⟨[(0, .d (.sl .str p))], []⟩), by simp, ?_, by simp⟩
    simp -implicitDefEqProofs [sPathOk_l0]
theorem sPathOk_ok (p : List (List UInt8)) (hp : OkP p) : V sPathOk [.d (.sl .str p)] [] = some ([], .one (.fz (.b (pathB p)))) := by
  rw [V_eq (fn := sPathOk_m) (by kernel_rfl)]
  have := sPathOk_l p hp 0 (Nat.zero_le _)
  simp only [List.drop_zero, Int.natCast_zero] at this
  unfold pathB
  cases h : p.all nameB <;> rw [h] at this <;> simp -implicitDefEqProofs [sPathOk_m, this]
  omega
theorem iSamePath_l (p q : List (List UInt8)) (hp : p.length ≤ 9223372036854775807) (hq : p.length = q.length) : ∀ i : Nat, i ≤ p.length →
    DL V (.loop iSamePath_l0) ⟨[(13, .d (.i .i64 i)), (12, .d (.i .i64 p.length)), (1, .d (.sl .str q)), (0, .d (.sl .str p))], []⟩ = if p.drop i = q.drop i then some (.ex 0, ⟨[], []⟩) else some (.ret, ⟨[(4, .d (.b false))], []⟩) := by
  refine loop_rec (fun i : Nat => (⟨[(13, .d (.i .i64 i)), (12, .d (.i .i64 p.length)), (1, .d (.sl .str q)), (0, .d (.sl .str p))], []⟩ : St)) _ (fun i => p.length - i) (fun i => i ≤ p.length) (fun i hi => ?_)
  by_cases h : i < p.length
  · have h' : i < q.length := by omega
    have e : p[i]? = some p[i] := List.getElem?_eq_getElem h
    have e' : q[i]? = some q[i] := List.getElem?_eq_getElem h'
    have hd : (p.drop i = q.drop i) ↔ (p[i] = q[i] ∧ p.drop (i + 1) = q.drop (i + 1)) := by
      rw [List.drop_eq_getElem_cons h, List.drop_eq_getElem_cons h', List.cons.injEq]
    by_cases hn : p[i] = q[i]
    · refine .inl ⟨i + 1, ?_, by omega, by omega, by simp only [hd, hn, true_and]⟩
      simp -implicitDefEqProofs [iSamePath_l0, h, e, e', hn, wrap_succ h hp]
    · refine .inr ⟨(.ret, ⟨[(4, .d (.b false))], []⟩), by simp, ?_, by simp only [hd, hn, false_and, if_false]⟩
      simp -implicitDefEqProofs [iSamePath_l0, h, e, e', hn]
  · have : i = p.length := by omega
    subst this
    refine .inr ⟨(.ex 0, ⟨[], []⟩), by simp, ?_, by simp [hq]⟩
    simp -implicitDefEqProofs [iSamePath_l0]
theorem iSamePath_ok (p q : List (List UInt8)) (hp : p.length ≤ 9223372036854775807) : V iSamePath [.d (.sl .str p), .d (.sl .str q)] [] = some ([], .one (.fz (.b (decide (p = q))))) := by
  rw [V_eq (fn := iSamePath_m) (by kernel_rfl)]
  by_cases hq : p.length = q.length
  · have := iSamePath_l p q hp hq 0 (Nat.zero_le _)
    simp only [List.drop_zero, Int.natCast_zero] at this
    have hq' : (p.length : Int) = q.length := by omega
    rw [hq'] at this
    by_cases h : p = q
    · rw [if_pos h] at this; rw [decide_eq_true h]; simp -implicitDefEqProofs [iSamePath_m, this, hq']
    · rw [if_neg h] at this; rw [decide_eq_false h]; simp -implicitDefEqProofs [iSamePath_m, this, hq']
  · have h : p ≠ q := fun e => hq (by rw [e])
    have hq' : ¬ (p.length : Int) = q.length := by omega
    simp -implicitDefEqProofs [iSamePath_m, hq, hq', h]
theorem sSamePath_l (p q : List (List UInt8)) (hp : p.length ≤ 9223372036854775807) (hq : p.length = q.length) : ∀ i : Nat, i ≤ p.length →
    DL V (.loop sSamePath_l0) ⟨[(5, .d (.i .i64 i)), (1, .d (.sl .str q)), (0, .d (.sl .str p))], []⟩ = if p.drop i = q.drop i then some (.ex 0, ⟨[], []⟩) else some (.ret, ⟨[(4, .d (.b false))], []⟩) := by
  refine loop_rec (fun i : Nat => (⟨[(5, .d (.i .i64 i)), (1, .d (.sl .str q)), (0, .d (.sl .str p))], []⟩ : St)) _ (fun i => p.length - i) (fun i => i ≤ p.length) (fun i hi => ?_)
  by_cases h : i < p.length
  · have h' : i < q.length := by omega
    have e : p[i]? = some p[i] := List.getElem?_eq_getElem h
    have e' : q[i]? = some q[i] := List.getElem?_eq_getElem h'
    have hd : (p.drop i = q.drop i) ↔ (p[i] = q[i] ∧ p.drop (i + 1) = q.drop (i + 1)) := by
      rw [List.drop_eq_getElem_cons h, List.drop_eq_getElem_cons h', List.cons.injEq]
    by_cases hn : p[i] = q[i]
    · refine .inl ⟨i + 1, ?_, by omega, by omega, by simp only [hd, hn, true_and]⟩
      simp -implicitDefEqProofs [sSamePath_l0, h, e, e', hn, wrap_succ h hp]
    · refine .inr ⟨(.ret, ⟨[(4, .d (.b false))], []⟩), by simp, ?_, by simp only [hd, hn, false_and, if_false]⟩
      simp -implicitDefEqProofs [sSamePath_l0, h, e, e', hn]
  · have : i = p.length := by omega
    subst this
    refine .inr ⟨(.ex 0, ⟨[], []⟩), by simp, ?_, by simp [hq]⟩
    simp -implicitDefEqProofs [sSamePath_l0]
theorem sSamePath_ok (p q : List (List UInt8)) (hp : p.length ≤ 9223372036854775807) : V sSamePath [.d (.sl .str p), .d (.sl .str q)] [] = some ([], .one (.fz (.b (decide (p = q))))) := by
  rw [V_eq (fn := sSamePath_m) (by kernel_rfl)]
  by_cases hq : p.length = q.length
  · have := sSamePath_l p q hp hq 0 (Nat.zero_le _)
    simp only [List.drop_zero, Int.natCast_zero] at this
    have hq' : (p.length : Int) = q.length := by omega
    by_cases h : p = q
    · rw [if_pos h] at this; rw [decide_eq_true h]; simp -implicitDefEqProofs [sSamePath_m, this, hq']
    · rw [if_neg h] at this; rw [decide_eq_false h]; simp -implicitDefEqProofs [sSamePath_m, this, hq']
  · have h : p ≠ q := fun e => hq (by rw [e])
    have hq' : ¬ (p.length : Int) = q.length := by omega
    simp -implicitDefEqProofs [sSamePath_m, hq, hq', h]
def freeB (b : UInt8) : Bool := (decide (97 ≤ b) && decide (b ≤ 122)) || (decide (65 ≤ b) && decide (b ≤ 90)) || (decide (48 ≤ b) && decide (b ≤ 57)) || decide (b = 45) || decide (b = 46) || decide (b = 95) || decide (b = 126)
def hexU (n : Nat) : UInt8 := if n < 10 then UInt8.ofNat (48 + n) else UInt8.ofNat (55 + n)
def quote1 (b : UInt8) : List UInt8 := if freeB b then [b] else [37, hexU (b.toNat / 16), hexU (b.toNat % 16)]
def quoteB (s : List UInt8) : List UInt8 := s.flatMap quote1
theorem quote1_len (b : UInt8) : (quote1 b).length ≤ 3 := by unfold quote1; split <;> simp
theorem quoteB_len (s : List UInt8) : (quoteB s).length ≤ 3 * s.length := by
  induction s with
  | nil => simp [quoteB]
  | cons b s ih =>
    have := quote1_len b
    simp only [quoteB, List.flatMap_cons, List.length_append, List.length_cons] at ih ⊢
    omega
theorem quoteB_take (s : List UInt8) (i : Nat) (h : i < s.length) : quoteB (s.take (i + 1)) = quoteB (s.take i) ++ quote1 s[i] := by
  rw [List.take_add_one, List.getElem?_eq_getElem h]
  simp only [quoteB, Option.toList_some, List.flatMap_append, List.flatMap_cons, List.flatMap_nil, List.append_nil]
def pathTextB (p : List (List UInt8)) : List UInt8 := if pathB p then (if p = [] then [47] else p.flatMap (fun x => 47 :: quoteB x)) else []
theorem pathB_bounds {p : List (List UInt8)} (h : pathB p = true) : p.length ≤ 4 ∧ ∀ s ∈ p, s.length ≤ 8 := by
  simp only [pathB, Bool.and_eq_true, decide_eq_true_eq, List.all_eq_true] at h
  refine ⟨h.2, fun s hs => ?_⟩
  have := h.1 s hs
  simp only [nameB, Bool.and_eq_true, decide_eq_true_eq] at this
  exact this.1.1.1.1.2
theorem pt_len {p : List (List UInt8)} (h : ∀ s ∈ p, s.length ≤ 8) : (p.flatMap (fun x => 47 :: quoteB x)).length ≤ 25 * p.length := by
  induction p with
  | nil => simp
  | cons a p ih =>
    have h1 := quoteB_len a
    have h2 := h a (by simp)
    have h3 := ih (fun s hs => h s (by simp [hs]))
    simp only [List.flatMap_cons, List.length_append, List.length_cons] at h3 ⊢
    omega
theorem pt_take (p : List (List UInt8)) (i : Nat) (h : i < p.length) : (p.take (i + 1)).flatMap (fun x => 47 :: quoteB x) = (p.take i).flatMap (fun x => 47 :: quoteB x) ++ [47] ++ quoteB p[i] := by
  rw [List.take_add_one, List.getElem?_eq_getElem h]
  simp only [Option.toList_some, List.flatMap_append, List.flatMap_cons, List.flatMap_nil, List.append_nil, List.append_assoc, List.cons_append, List.nil_append]
abbrev decB (k : Nat) : List UInt8 := Lib.decDigits k
def numB (n : Int) : List UInt8 := Lib.decDigits n.toNat
theorem decB_small {k : Nat} (h : k < 10) : Lib.decDigits k = [UInt8.ofNat (48 + k)] := by rw [Lib.decDigits, dif_pos h]
theorem decB_big {k : Nat} (h : ¬ k < 10) : Lib.decDigits k = Lib.decDigits (k / 10) ++ [UInt8.ofNat (48 + k % 10)] := by rw [Lib.decDigits, dif_neg h]
theorem decB_len : ∀ (n k : Nat), k < 10 ^ (n + 1) → (Lib.decDigits k).length ≤ n + 1
  | 0, k, h => by rw [decB_small (by simpa using h)]; simp
  | n + 1, k, h => by
    by_cases h1 : k < 10
    · rw [decB_small h1]; simp
    · rw [decB_big h1]
      have := decB_len n (k / 10) (by rw [Nat.pow_succ] at h; omega)
      simp; omega
theorem decB_len20 (k : Nat) (h : k ≤ 9223372036854775807) : (Lib.decDigits k).length ≤ 20 := decB_len 19 k (Nat.lt_of_le_of_lt h (by decide))
theorem numB_len (n : Int) (h : n ≤ 9223372036854775807) : (numB n).length ≤ 20 := by
  have : n.toNat ≤ 9223372036854775807 := by omega
  exact decB_len20 _ this
theorem sNumText_l : ∀ (k : Nat) (acc : List UInt8), k ≤ 9223372036854775807 → acc.length + k / 10 + 1 ≤ 9223372036854775807 →
    DL V (.loop sNumText_l0) ⟨[(3, .d (.s acc)), (0, i6 k)], []⟩ = some (.ex 0, ⟨[(3, .d (.s (if k < 10 then acc else Lib.decDigits (k / 10) ++ acc)))], []⟩) := by
  intro k
  induction k using Nat.strongRecOn with
  | _ k ih =>
    intro acc hk hb
    rw [DL_loop]
    by_cases h : k < 10
    · rw [if_pos h]
      have hd : decide ((9 : Int) < (k : Int)) = false := decide_eq_false (by omega)
      simp -implicitDefEqProofs only [sNumText_l0, hd]
      simp -implicitDefEqProofs [hd]
    · rw [if_neg h]
      obtain ⟨y, hy⟩ : ∃ y, k / 10 = y := ⟨_, rfl⟩
      obtain ⟨x, hx⟩ : ∃ x, y % 10 = x := ⟨_, rfl⟩
      have i1 := ih y (by omega) (UInt8.ofNat (48 + x) :: acc) (by omega) (by simp; omega)
      have w1 : (y : Int).tmod 10 = x := by rw [Int.tmod_eq_emod_of_nonneg (by omega)]; omega
      have w3 : IntKind.i64.wrap ((k : Int) / 10) = y := by rw [show (k : Int) / 10 = y by omega]; exact wrI (by omega) (by omega)
      have w2 : IntKind.i64.wrap (48 + (x : Int)) = 48 + x := wrI (by omega) (by omega)
      have w4 : ((48 + (x : Int)) % 256).toNat = 48 + x := by omega
      have w5 : (y : Int) % 10 = x := by omega
      have e : (if y < 10 then UInt8.ofNat (48 + x) :: acc else Lib.decDigits (y / 10) ++ UInt8.ofNat (48 + x) :: acc) = Lib.decDigits y ++ acc := by
        split
        · rename_i h1; rw [decB_small h1]; obtain rfl : x = y := by omega
          rfl
        · rename_i h1; rw [decB_big h1, hx]; simp
      rw [e] at i1
      rw [hy]
      have hb1 : 1 + acc.length ≤ 9223372036854775807 := by omega
      generalize DL V (.loop sNumText_l0) = G at i1 ⊢
      simp -implicitDefEqProofs [sNumText_l0, (by omega : (9 : Int) < k), (by omega : ¬ (k : Int) ≤ 9), w1, w5, w2, w3, w4, hb1, i1, -UInt8.ofNat_add]
theorem sNumText_ok (n : Int) (h : n ≤ 9223372036854775807) : V sNumText [i6 n] [] = rS (numB n) := by
  rw [V_eq (fn := sNumText_m) (by kernel_rfl)]
  obtain ⟨k, hk⟩ : ∃ k : Nat, n.toNat = k := ⟨_, rfl⟩
  obtain ⟨x, hx⟩ : ∃ x, k % 10 = x := ⟨_, rfl⟩
  have hk2 : k ≤ 9223372036854775807 := by omega
  have L := sNumText_l k [UInt8.ofNat (48 + x)] hk2 (by simp only [List.length_cons, List.length_nil]; omega)
  have e : (if k < 10 then [UInt8.ofNat (48 + x)] else Lib.decDigits (k / 10) ++ [UInt8.ofNat (48 + x)]) = numB n := by
    unfold numB; rw [hk]
    split
    · rename_i h1; rw [decB_small h1]; obtain rfl : x = k := by omega
      rfl
    · rename_i h1; rw [decB_big h1, hx]
  rw [e] at L
  have w2 : IntKind.i64.wrap (48 + (x : Int)) = 48 + x := wrI (by omega) (by omega)
  have w4 : ((48 + (x : Int)) % 256).toNat = 48 + x := by omega
  by_cases hn : n < 0
  · obtain rfl : k = 0 := by omega
    obtain rfl : x = 0 := by omega
    have w6 : IntKind.i64.wrap 48 = 48 := wrI (by decide) (by decide)
    simp only [Int.natCast_zero] at L
    simp -implicitDefEqProofs [sNumText_m, hn, w6] at L ⊢
    simp -implicitDefEqProofs [L]
  · obtain rfl : n = k := by omega
    have w1 : (k : Int).tmod 10 = x := by rw [Int.tmod_eq_emod_of_nonneg (by omega)]; omega
    have w5 : (k : Int) % 10 = x := by omega
    simp -implicitDefEqProofs [sNumText_m, (by omega : ¬ (k : Int) < 0), (by omega : (0 : Int) ≤ k), w1, w5, w2, w4, L, -UInt8.ofNat_add]
def tagB (n : Int) : List UInt8 := 34 :: 118 :: (numB n ++ [34])
theorem tagB_len (n : Int) (h : n ≤ 9223372036854775807) : (tagB n).length ≤ 23 := by have := numB_len n h; simp [tagB]; omega
abbrev PathD := List (List UInt8)
abbrev PropD := List UInt8 × List UInt8 × List UInt8
abbrev ResD := List (List UInt8) × Bool × List UInt8 × Int × List PropD
abbrev LockD := Int × List (List UInt8) × Bool × Bool × Int
abbrev SrvD := List ResD × List LockD × Int × Int × List Int × List Int
def atP (p : PathD) (r : ResD) : Bool := decide (r.1 = p)
def findB (t : List ResD) (p : PathD) : Int := match t.findIdx? (atP p) with | some i => i | none => -1
theorem fi_lt {α : Type} {l : List α} {p : α → Bool} {i : Nat} (h : l.findIdx? p = some i) : i < l.length := by
  have := List.findIdx?_eq_some_iff_findIdx_eq.1 h; omega
theorem fi_at {α : Type} {l : List α} {p : α → Bool} {i : Nat} (h : l.findIdx? p = some i) (hi : i < l.length) : p l[i] = true := by
  obtain ⟨_, h1, _⟩ := List.findIdx?_eq_some_iff_getElem.1 h
  exact h1
theorem iFindRes_ok (t : List ResD) (p : PathD) (ht : szT (.sl TRes) t ≤ 1099511627776) : V iFindRes [.d (.sl TRes t), .d (.sl .str p)] [] = rI (findB t p) := by
  rw [V_eq (fn := iFindRes_m) (by kernel_rfl)]
  have hl := szLen (t := TRes) (l := t)
  have L := loop_find (X := V) (c := iFindRes_l0) t (atP p) (fun i : Nat => ⟨[(9, i6 i), (8, i6 t.length), (7, .d (.sl TRes t)), (1, .d (.sl .str p))], []⟩) (fun i => (.ret, ⟨[(4, i6 i)], []⟩)) (.ex 0, ⟨[], []⟩) (by simp) (by simp)
    (fun i hi => by
      have hx := szG (t := TRes) hi
      have hy := szLen (t := .str) (l := t[i].1)
      simp only [szT_pr] at hx
      simp -implicitDefEqProofs [iFindRes_l0, hi, get_some hi, iSamePath_ok t[i].1 p (by omega), wrap_succ hi (by omega), atP])
    (by simp -implicitDefEqProofs [iFindRes_l0])
  cases h : t.findIdx? (atP p) <;> simp only [h, Int.natCast_zero] at L <;> simp -implicitDefEqProofs [iFindRes_m, L, findB, h]
theorem sFindRes_ok (t : List ResD) (p : PathD) (ht : szT (.sl TRes) t ≤ 1099511627776) : V sFindRes [.d (.sl TRes t), .d (.sl .str p)] [] = rI (findB t p) := by
  rw [V_eq (fn := sFindRes_m) (by kernel_rfl)]
  have hl := szLen (t := TRes) (l := t)
  have L := loop_find (X := V) (c := sFindRes_l0) t (atP p) (fun i : Nat => ⟨[(5, i6 i), (1, .d (.sl .str p)), (0, .d (.sl TRes t))], []⟩) (fun i => (.ret, ⟨[(4, i6 i)], []⟩)) (.ex 0, ⟨[], []⟩) (by simp) (by simp)
    (fun i hi => by
      have hx := szG (t := TRes) hi
      have hy := szLen (t := .str) (l := t[i].1)
      simp only [szT_pr] at hx
      simp -implicitDefEqProofs [sFindRes_l0, hi, get_some hi, sSamePath_ok t[i].1 p (by omega), wrap_succ hi (by omega), atP])
    (by simp -implicitDefEqProofs [sFindRes_l0])
  cases h : t.findIdx? (atP p) <;> simp only [h, Int.natCast_zero] at L <;> simp -implicitDefEqProofs [sFindRes_m, L, findB, h]
end Go.Proofs.YtfklggpopffkjaaGreatK
