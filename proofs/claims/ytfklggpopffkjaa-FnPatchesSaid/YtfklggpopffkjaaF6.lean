/- What the functions come to. -/
import Derived.Test.YtfklggpopffkjaaF5
set_option linter.unusedVariables false
set_option linter.unusedSimpArgs false
namespace Go.Proofs.YtfklggpopffkjaaK
open Go.RowKit
def nameB (s : List UInt8) : Bool := decide (1 ≤ s.length) && decide (s.length ≤ 8) && s.all plainB && !(s.contains 47) && !decide (s = [46]) && !decide (s = [46, 46])
theorem len_range (n a b : Nat) : (decide ((a : Int) ≤ (n : Int)) && decide ((n : Int) ≤ (b : Int))) = (decide (a ≤ n) && decide (n ≤ b)) := by simp only [Int.ofNat_le]
theorem contains_ok (s : List UInt8) (c : UInt8) : V x_strings_Contains [.d (.s s), .d (.s [c])] [] = some ([], .one (.fz (.b (s.contains c)))) := by
  rw [V, evL_ext tab extE (by kernel_rfl)]; rfl
theorem iNameOk_ok (s : List UInt8) (hs : s.length ≤ 9223372036854775807) : V iNameOk [.d (.s s)] [] = some ([], .one (.fz (.b (nameB s)))) := by
  rw [V_eq (fn := iNameOk_m) (by kernel_rfl)]
  have e1 := iin_ok s.length 1 8
  have e2 := iPlain_ok s hs
  have e3 := contains_ok s 47
  rw [show (decide ((1 : Int) ≤ (s.length : Int)) && decide ((s.length : Int) ≤ 8)) = (decide (1 ≤ s.length) && decide (s.length ≤ 8)) from len_range s.length 1 8] at e1
  unfold nameB
  generalize (decide (1 ≤ s.length) && decide (s.length ≤ 8)) = t1 at e1 ⊢
  generalize s.all plainB = t2 at e2 ⊢
  generalize s.contains 47 = t3 at e3 ⊢
  obtain ⟨t4, h4⟩ : ∃ t, decide (s = [46]) = t := ⟨_, rfl⟩
  obtain ⟨t5, h5⟩ : ∃ t, decide (s = [46, 46]) = t := ⟨_, rfl⟩
  rw [h4, h5]
  cases t1 <;> cases t2 <;> cases t3 <;> cases t4 <;> simp -implicitDefEqProofs [iNameOk_m, e1, e2, e3, h4, h5]
theorem sNameOk_l (s : List UInt8) (hs : s.length ≤ 9223372036854775807) : ∀ i : Nat, i ≤ s.length →
    DL V (.loop sNameOk_l0) ⟨[(3, .d (.i .i64 i)), (0, .d (.s s))], []⟩ = if (s.drop i).contains 47 then some (.ret, ⟨[(2, .d (.b false))], []⟩) else some (.ex 0, ⟨[(0, .d (.s s))], []⟩) := by
  refine loop_rec (fun i : Nat => (⟨[(3, .d (.i .i64 i)), (0, .d (.s s))], []⟩ : St)) _ (fun i => s.length - i) (fun i => i ≤ s.length) (fun i hi => ?_)
  by_cases h : i < s.length
  · have e : s[i]? = some s[i] := List.getElem?_eq_getElem h
    rw [List.drop_eq_getElem_cons h, List.contains_cons]
    by_cases hp : s[i] = 47
    · refine .inr ⟨(.ret, ⟨[(2, .d (.b false))], []⟩), by simp, ?_, by simp [hp]⟩
      simp -implicitDefEqProofs [sNameOk_l0, h, e, hp]
    · refine .inl ⟨i + 1, ?_, by omega, by omega, by simp [Ne.symm hp]⟩
      simp -implicitDefEqProofs [sNameOk_l0, h, e, hp, wrap_succ h hs]
  · have : i = s.length := by omega
    subst this
    refine .inr ⟨(.ex 0, ⟨[(0, .d (.s s))], []⟩), by simp, ?_, by simp⟩
    simp -implicitDefEqProofs [sNameOk_l0]
theorem sNameOk_ok (s : List UInt8) (hs : s.length ≤ 9223372036854775807) : V sNameOk [.d (.s s)] [] = some ([], .one (.fz (.b (nameB s)))) := by
  rw [V_eq (fn := sNameOk_m) (by kernel_rfl)]
  have e0 := sNameOk_l s hs 0 (Nat.zero_le _)
  simp only [List.drop_zero, Int.natCast_zero] at e0
  have e1 := sl1In_ok s.length 1 8
  have e2 := sPlain_ok s hs
  rw [show (decide ((1 : Int) ≤ (s.length : Int)) && decide ((s.length : Int) ≤ 8)) = (decide (1 ≤ s.length) && decide (s.length ≤ 8)) from len_range s.length 1 8] at e1
  unfold nameB
  generalize (decide (1 ≤ s.length) && decide (s.length ≤ 8)) = t1 at e1 ⊢
  generalize s.all plainB = t2 at e2 ⊢
  generalize s.contains 47 = t3 at e0 ⊢
  obtain ⟨t4, h4⟩ : ∃ t, decide (s = [46]) = t := ⟨_, rfl⟩
  obtain ⟨t5, h5⟩ : ∃ t, decide (s = [46, 46]) = t := ⟨_, rfl⟩
  rw [h4, h5]
  cases t3
  · simp only [Bool.false_eq_true, if_false] at e0
    cases t1 <;> cases t2 <;> cases t4 <;> simp -implicitDefEqProofs [sNameOk_m, e0, e1, e2, h4, h5]
  · simp only [if_true] at e0
    simp -implicitDefEqProofs [sNameOk_m, e0]
def pathB (p : List (List UInt8)) : Bool := p.all nameB && decide (p.length ≤ 4)
abbrev OkP (p : List (List UInt8)) : Prop := p.length ≤ 9223372036854775807 ∧ ∀ s ∈ p, s.length ≤ 9223372036854775807
theorem iPathOk_l (p : List (List UInt8)) (hp : OkP p) : ∀ i : Nat, i ≤ p.length →
    DL V (.loop iPathOk_l0) ⟨[(7, .d (.i .i64 i)), (6, .d (.i .i64 p.length)), (5, .d (.sl .str p)), (0, .d (.sl .str p))], []⟩ = if (p.drop i).all nameB then some (.ex 0, ⟨[(0, .d (.sl .str p))], []⟩) else some (.ret, ⟨[(2, .d (.b false))], []⟩) := by
  refine loop_rec (fun i : Nat => (⟨[(7, .d (.i .i64 i)), (6, .d (.i .i64 p.length)), (5, .d (.sl .str p)), (0, .d (.sl .str p))], []⟩ : St)) _ (fun i => p.length - i) (fun i => i ≤ p.length) (fun i hi => ?_)
  by_cases h : i < p.length
  · have e : p[i]? = some p[i] := List.getElem?_eq_getElem h
    have e2 := iNameOk_ok p[i] (hp.2 _ (List.getElem_mem h))
    rw [List.drop_eq_getElem_cons h, List.all_cons]
    cases hn : nameB p[i] <;> rw [hn] at e2
    · refine .inr ⟨(.ret, ⟨[(2, .d (.b false))], []⟩), by simp, ?_, by simp⟩
      simp -implicitDefEqProofs [iPathOk_l0, h, e, e2]
    · refine .inl ⟨i + 1, ?_, by omega, by omega, by simp⟩
      simp -implicitDefEqProofs [iPathOk_l0, h, e, e2, wrap_succ h hp.1]
  · have : i = p.length := by omega
    subst this
    refine .inr ⟨(.ex 0, ⟨[(0, .d (.sl .str p))], []⟩), by simp, ?_, by simp⟩
    simp -implicitDefEqProofs [iPathOk_l0]
theorem iPathOk_ok (p : List (List UInt8)) (hp : OkP p) : V iPathOk [.d (.sl .str p)] [] = some ([], .one (.fz (.b (pathB p)))) := by
  rw [V_eq (fn := iPathOk_m) (by kernel_rfl)]
  have := iPathOk_l p hp 0 (Nat.zero_le _)
  simp only [List.drop_zero, Int.natCast_zero] at this
  unfold pathB
  cases h : p.all nameB <;> rw [h] at this <;> simp -implicitDefEqProofs [iPathOk_m, this]
  omega
theorem sPathOk_l (p : List (List UInt8)) (hp : OkP p) : ∀ i : Nat, i ≤ p.length →
    DL V (.loop sPathOk_l0) ⟨[(3, .d (.i .i64 i)), (0, .d (.sl .str p))], []⟩ = if (p.drop i).all nameB then some (.ex 0, ⟨[(0, .d (.sl .str p))], []⟩) else some (.ret, ⟨[(2, .d (.b false))], []⟩) := by
  refine loop_rec (fun i : Nat => (⟨[(3, .d (.i .i64 i)), (0, .d (.sl .str p))], []⟩ : St)) _ (fun i => p.length - i) (fun i => i ≤ p.length) (fun i hi => ?_)
  by_cases h : i < p.length
  · have e : p[i]? = some p[i] := List.getElem?_eq_getElem h
    have e2 := sNameOk_ok p[i] (hp.2 _ (List.getElem_mem h))
    rw [List.drop_eq_getElem_cons h, List.all_cons]
    cases hn : nameB p[i] <;> rw [hn] at e2
    · refine .inr ⟨(.ret, ⟨[(2, .d (.b false))], []⟩), by simp, ?_, by simp⟩
      simp -implicitDefEqProofs [sPathOk_l0, h, e, e2]
    · refine .inl ⟨i + 1, ?_, by omega, by omega, by simp⟩
      simp -implicitDefEqProofs [sPathOk_l0, h, e, e2, wrap_succ h hp.1]
  · have : i = p.length := by omega
    subst this
    refine .inr ⟨(.ex 0, ⟨[(0, .d (.sl .str p))], []⟩), by simp, ?_, by simp⟩
    simp -implicitDefEqProofs [sPathOk_l0]
theorem sPathOk_ok (p : List (List UInt8)) (hp : OkP p) : V sPathOk [.d (.sl .str p)] [] = some ([], .one (.fz (.b (pathB p)))) := by
  rw [V_eq (fn := sPathOk_m) (by kernel_rfl)]
  have := sPathOk_l p hp 0 (Nat.zero_le _)
  simp only [List.drop_zero, Int.natCast_zero] at this
  unfold pathB
  cases h : p.all nameB <;> rw [h] at this <;> simp -implicitDefEqProofs [sPathOk_m, this]
  omega
theorem iSamePath_l (p q : List (List UInt8)) (hp : p.length ≤ 9223372036854775807) (hq : p.length = q.length) : ∀ i : Nat, i ≤ p.length →
    DL V (.loop iSamePath_l0) ⟨[(13, .d (.i .i64 i)), (12, .d (.i .i64 p.length)), (1, .d (.sl .str q)), (0, .d (.sl .str p))], []⟩ = if p.drop i = q.drop i then some (.ex 0, ⟨[], []⟩) else some (.ret, ⟨[(4, .d (.b false))], []⟩) := by
  refine loop_rec (fun i : Nat => (⟨[(13, .d (.i .i64 i)), (12, .d (.i .i64 p.length)), (1, .d (.sl .str q)), (0, .d (.sl .str p))], []⟩ : St)) _ (fun i => p.length - i) (fun i => i ≤ p.length) (fun i hi => ?_)
  by_cases h : i < p.length
  · have h' : i < q.length := by omega
    have e : p[i]? = some p[i] := List.getElem?_eq_getElem h
    have e' : q[i]? = some q[i] := List.getElem?_eq_getElem h'
    have hd : (p.drop i = q.drop i) ↔ (p[i] = q[i] ∧ p.drop (i + 1) = q.drop (i + 1)) := by
      rw [List.drop_eq_getElem_cons h, List.drop_eq_getElem_cons h', List.cons.injEq]
    by_cases hn : p[i] = q[i]
    · refine .inl ⟨i + 1, ?_, by omega, by omega, by simp only [hd, hn, true_and]⟩
      simp -implicitDefEqProofs [iSamePath_l0, h, e, e', hn, wrap_succ h hp]
    · refine .inr ⟨(.ret, ⟨[(4, .d (.b false))], []⟩), by simp, ?_, by simp only [hd, hn, false_and, if_false]⟩
      simp -implicitDefEqProofs [iSamePath_l0, h, e, e', hn]
  · have : i = p.length := by omega
    subst this
    refine .inr ⟨(.ex 0, ⟨[], []⟩), by simp, ?_, by simp [hq]⟩
    simp -implicitDefEqProofs [iSamePath_l0]
theorem iSamePath_ok (p q : List (List UInt8)) (hp : p.length ≤ 9223372036854775807) : V iSamePath [.d (.sl .str p), .d (.sl .str q)] [] = some ([], .one (.fz (.b (decide (p = q))))) := by
  rw [V_eq (fn := iSamePath_m) (by kernel_rfl)]
  by_cases hq : p.length = q.length
  · have := iSamePath_l p q hp hq 0 (Nat.zero_le _)
    simp only [List.drop_zero, Int.natCast_zero] at this
    have hq' : (p.length : Int) = q.length := by omega
    rw [hq'] at this
    by_cases h : p = q
    · rw [if_pos h] at this; rw [decide_eq_true h]; simp -implicitDefEqProofs [iSamePath_m, this, hq']
    · rw [if_neg h] at this; rw [decide_eq_false h]; simp -implicitDefEqProofs [iSamePath_m, this, hq']
  · have h : p ≠ q := fun e => hq (by rw [e])
    have hq' : ¬ (p.length : Int) = q.length := by omega
    simp -implicitDefEqProofs [iSamePath_m, hq, hq', h]
theorem sSamePath_l (p q : List (List UInt8)) (hp : p.length ≤ 9223372036854775807) (hq : p.length = q.length) : ∀ i : Nat, i ≤ p.length →
    DL V (.loop sSamePath_l0) ⟨[(5, .d (.i .i64 i)), (1, .d (.sl .str q)), (0, .d (.sl .str p))], []⟩ = if p.drop i = q.drop i then some (.ex 0, ⟨[], []⟩) else some (.ret, ⟨[(4, .d (.b false))], []⟩) := by
  refine loop_rec (fun i : Nat => (⟨[(5, .d (.i .i64 i)), (1, .d (.sl .str q)), (0, .d (.sl .str p))], []⟩ : St)) _ (fun i => p.length - i) (fun i => i ≤ p.length) (fun i hi => ?_)
  by_cases h : i < p.length
  · have h' : i < q.length := by omega
    have e : p[i]? = some p[i] := List.getElem?_eq_getElem h
    have e' : q[i]? = some q[i] := List.getElem?_eq_getElem h'
    have hd : (p.drop i = q.drop i) ↔ (p[i] = q[i] ∧ p.drop (i + 1) = q.drop (i + 1)) := by
      rw [List.drop_eq_getElem_cons h, List.drop_eq_getElem_cons h', List.cons.injEq]
    by_cases hn : p[i] = q[i]
    · refine .inl ⟨i + 1, ?_, by omega, by omega, by simp only [hd, hn, true_and]⟩
      simp -implicitDefEqProofs [sSamePath_l0, h, e, e', hn, wrap_succ h hp]
    · refine .inr ⟨(.ret, ⟨[(4, .d (.b false))], []⟩), by simp, ?_, by simp only [hd, hn, false_and, if_false]⟩
      simp -implicitDefEqProofs [sSamePath_l0, h, e, e', hn]
  · have : i = p.length := by omega
    subst this
    refine .inr ⟨(.ex 0, ⟨[], []⟩), by simp, ?_, by simp [hq]⟩
    simp -implicitDefEqProofs [sSamePath_l0]
theorem sSamePath_ok (p q : List (List UInt8)) (hp : p.length ≤ 9223372036854775807) : V sSamePath [.d (.sl .str p), .d (.sl .str q)] [] = some ([], .one (.fz (.b (decide (p = q))))) := by
  rw [V_eq (fn := sSamePath_m) (by kernel_rfl)]
  by_cases hq : p.length = q.length
  · have := sSamePath_l p q hp hq 0 (Nat.zero_le _)
    simp only [List.drop_zero, Int.natCast_zero] at this
    have hq' : (p.length : Int) = q.length := by omega
    by_cases h : p = q
    · rw [if_pos h] at this; rw [decide_eq_true h]; simp -implicitDefEqProofs [sSamePath_m, this, hq']
    · rw [if_neg h] at this; rw [decide_eq_false h]; simp -implicitDefEqProofs [sSamePath_m, this, hq']
  · have h : p ≠ q := fun e => hq (by rw [e])
    have hq' : ¬ (p.length : Int) = q.length := by omega
    simp -implicitDefEqProofs [sSamePath_m, hq, hq', h]
def freeB (b : UInt8) : Bool := (decide (97 ≤ b) && decide (b ≤ 122)) || (decide (65 ≤ b) && decide (b ≤ 90)) || (decide (48 ≤ b) && decide (b ≤ 57)) || decide (b = 45) || decide (b = 46) || decide (b = 95) || decide (b = 126)
def hexU (n : Nat) : UInt8 := if n < 10 then UInt8.ofNat (48 + n) else UInt8.ofNat (55 + n)
def quote1 (b : UInt8) : List UInt8 := if freeB b then [b] else [37, hexU (b.toNat / 16), hexU (b.toNat % 16)]
def quoteB (s : List UInt8) : List UInt8 := s.flatMap quote1
theorem quote1_len (b : UInt8) : (quote1 b).length ≤ 3 := by unfold quote1; split <;> simp
theorem quoteB_len (s : List UInt8) : (quoteB s).length ≤ 3 * s.length := by
  induction s with
  | nil => simp [quoteB]
  | cons b s ih =>
    have := quote1_len b
    simp only [quoteB, List.flatMap_cons, List.length_append, List.length_cons] at ih ⊢
    omega
theorem quoteB_take (s : List UInt8) (i : Nat) (h : i < s.length) : quoteB (s.take (i + 1)) = quoteB (s.take i) ++ quote1 s[i] := by
  rw [List.take_add_one, List.getElem?_eq_getElem h]
  simp only [quoteB, Option.toList_some, List.flatMap_append, List.flatMap_cons, List.flatMap_nil, List.append_nil]
def pathTextB (p : List (List UInt8)) : List UInt8 := if pathB p then (if p = [] then [47] else p.flatMap (fun x => 47 :: quoteB x)) else []
theorem pathB_bounds {p : List (List UInt8)} (h : pathB p = true) : p.length ≤ 4 ∧ ∀ s ∈ p, s.length ≤ 8 := by
  simp only [pathB, Bool.and_eq_true, decide_eq_true_eq, List.all_eq_true] at h
  refine ⟨h.2, fun s hs => ?_⟩
  have := h.1 s hs
  simp only [nameB, Bool.and_eq_true, decide_eq_true_eq] at this
  exact this.1.1.1.1.2
theorem pt_len {p : List (List UInt8)} (h : ∀ s ∈ p, s.length ≤ 8) : (p.flatMap (fun x => 47 :: quoteB x)).length ≤ 25 * p.length := by
  induction p with
  | nil => simp
  | cons a p ih =>
    have h1 := quoteB_len a
    have h2 := h a (by simp)
    have h3 := ih (fun s hs => h s (by simp [hs]))
    simp only [List.flatMap_cons, List.length_append, List.length_cons] at h3 ⊢
    omega
theorem pt_take (p : List (List UInt8)) (i : Nat) (h : i < p.length) : (p.take (i + 1)).flatMap (fun x => 47 :: quoteB x) = (p.take i).flatMap (fun x => 47 :: quoteB x) ++ [47] ++ quoteB p[i] := by
  rw [List.take_add_one, List.getElem?_eq_getElem h]
  simp only [Option.toList_some, List.flatMap_append, List.flatMap_cons, List.flatMap_nil, List.append_nil, List.append_assoc, List.cons_append, List.nil_append]
end Go.Proofs.YtfklggpopffkjaaK
