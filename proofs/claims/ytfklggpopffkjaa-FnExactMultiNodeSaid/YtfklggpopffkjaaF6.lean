/- What the functions come to. -/
import Derived.Test.YtfklggpopffkjaaF5
set_option linter.unusedVariables false
set_option linter.unusedSimpArgs false
namespace Go.Proofs.YtfklggpopffkjaaK
open Go.RowKit
def nameB (s : List UInt8) : Bool := decide (1 ≤ s.length) && decide (s.length ≤ 8) && s.all plainB && !(s.contains 47) && !decide (s = [46]) && !decide (s = [46, 46])
theorem len_range (n a b : Nat) : (decide ((a : Int) ≤ (n : Int)) && decide ((n : Int) ≤ (b : Int))) = (decide (a ≤ n) && decide (n ≤ b)) := by simp only [Int.ofNat_le]
theorem contains_ok (s : List UInt8) (c : UInt8) : V x_strings_Contains [.d (.s s), .d (.s [c])] [] = some ([], .one (.fz (.b (s.contains c)))) := by
  rw [V, evL_ext tab extE (by kernel_rfl)]; rfl
theorem iNameOk_ok (s : List UInt8) (hs : s.length ≤ 9223372036854775807) : V iNameOk [.d (.s s)] [] = some ([], .one (.fz (.b (nameB s)))) := by
  rw [V_eq (fn := iNameOk_m) (by kernel_rfl)]
  have e1 := iin_ok s.length 1 8
  have e2 := iPlain_ok s hs
  have e3 := contains_ok s 47
  rw [show (decide ((1 : Int) ≤ (s.length : Int)) && decide ((s.length : Int) ≤ 8)) = (decide (1 ≤ s.length) && decide (s.length ≤ 8)) from len_range s.length 1 8] at e1
  unfold nameB
  generalize (decide (1 ≤ s.length) && decide (s.length ≤ 8)) = t1 at e1 ⊢
  generalize s.all plainB = t2 at e2 ⊢
  generalize s.contains 47 = t3 at e3 ⊢
  obtain ⟨t4, h4⟩ : ∃ t, decide (s = [46]) = t := ⟨_, rfl⟩
  obtain ⟨t5, h5⟩ : ∃ t, decide (s = [46, 46]) = t := ⟨_, rfl⟩
  rw [h4, h5]
  cases t1 <;> cases t2 <;> cases t3 <;> cases t4 <;> simp -implicitDefEqProofs [iNameOk_m, e1, e2, e3, h4, h5]
theorem sNameOk_l (s : List UInt8) (hs : s.length ≤ 9223372036854775807) : ∀ i : Nat, i ≤ s.length →
    DL V (.loop sNameOk_l0) ⟨[(3, .d (.i .i64 i)), (0, .d (.s s))], []⟩ = if (s.drop i).contains 47 then some (.ret, ⟨[(2, .d (.b false))], []⟩) else some (.ex 0, ⟨[(0, .d (.s s))], []⟩) := by
  refine loop_rec (fun i : Nat => (⟨[(3, .d (.i .i64 i)), (0, .d (.s s))], []⟩ : St)) _ (fun i => s.length - i) (fun i => i ≤ s.length) (fun i hi => ?_)
  by_cases h : i < s.length
  · have e : s[i]? = some s[i] := List.getElem?_eq_getElem h
    rw [List.drop_eq_getElem_cons h, List.contains_cons]
    by_cases hp : s[i] = 47
    · refine .inr ⟨(.ret, ⟨[(2, .d (.b false))], []⟩), by simp, ?_, by simp [hp]⟩
      simp -implicitDefEqProofs [sNameOk_l0, h, e, hp]
    · refine .inl ⟨i + 1, ?_, by omega, by omega, by simp [Ne.symm hp]⟩
      simp -implicitDefEqProofs [sNameOk_l0, h, e, hp, wrap_succ h hs]
  · have : i = s.length := by omega
    subst this
    refine .inr ⟨(.ex 0, ⟨[(0, .d (.s s))], []⟩), by simp, ?_, by simp⟩
    simp -implicitDefEqProofs [sNameOk_l0]
theorem sNameOk_ok (s : List UInt8) (hs : s.length ≤ 9223372036854775807) : V sNameOk [.d (.s s)] [] = some ([], .one (.fz (.b (nameB s)))) := by
  rw [V_eq (fn := sNameOk_m) (by kernel_rfl)]
  have e0 := sNameOk_l s hs 0 (Nat.zero_le _)
  simp only [List.drop_zero, Int.natCast_zero] at e0
  have e1 := sl1In_ok s.length 1 8
  have e2 := sPlain_ok s hs
  rw [show (decide ((1 : Int) ≤ (s.length : Int)) && decide ((s.length : Int) ≤ 8)) = (decide (1 ≤ s.length) && decide (s.length ≤ 8)) from len_range s.length 1 8] at e1
  unfold nameB
  generalize (decide (1 ≤ s.length) && decide (s.length ≤ 8)) = t1 at e1 ⊢
  generalize s.all plainB = t2 at e2 ⊢
  generalize s.contains 47 = t3 at e0 ⊢
  obtain ⟨t4, h4⟩ : ∃ t, decide (s = [46]) = t := ⟨_, rfl⟩
  obtain ⟨t5, h5⟩ : ∃ t, decide (s = [46, 46]) = t := ⟨_, rfl⟩
  rw [h4, h5]
  cases t3
  · simp only [Bool.false_eq_true, if_false] at e0
    cases t1 <;> cases t2 <;> cases t4 <;> simp -implicitDefEqProofs [sNameOk_m, e0, e1, e2, h4, h5]
  · simp only [if_true] at e0
    simp -implicitDefEqProofs [sNameOk_m, e0]
def pathB (p : List (List UInt8)) : Bool := p.all nameB && decide (p.length ≤ 4)
abbrev OkP (p : List (List UInt8)) : Prop := p.length ≤ 9223372036854775807 ∧ ∀ s ∈ p, s.length ≤ 9223372036854775807
theorem iPathOk_l (p : List (List UInt8)) (hp : OkP p) : ∀ i : Nat, i ≤ p.length →
    DL V (.loop iPathOk_l0) ⟨[(7, .d (.i .i64 i)), (6, .d (.i .i64 p.length)), (5, .d (.sl .str p)), (0, .d (.sl .str p))], []⟩ = if (p.drop i).all nameB then some (.ex 0, ⟨[(0, .d (.sl .str p))], []⟩) else some (.ret, ⟨[(2, .d (.b false))], []⟩) := by
  refine loop_rec (fun i : Nat => (⟨[(7, .d (.i .i64 i)), (6, .d (.i .i64 p.length)), (5, .d (.sl .str p)), (0, .d (.sl .str p))], []⟩ : St)) _ (fun i => p.length - i) (fun i => i ≤ p.length) (fun i hi => ?_)
  by_cases h : i < p.length
  · have e : p[i]? = some p[i] := List.getElem?_eq_getElem h
    have e2 := iNameOk_ok p[i] (hp.2 _ (List.getElem_mem h))
    rw [List.drop_eq_getElem_cons h, List.all_cons]
    cases hn : nameB p[i] <;> rw [hn] at e2
    · refine .inr ⟨(.ret, ⟨[(2, .d (.b false))], []⟩), by simp, ?_, by simp⟩
      simp -implicitDefEqProofs [iPathOk_l0, h, e, e2]
    · refine .inl ⟨i + 1, ?_, by omega, by omega, by simp⟩
      simp -implicitDefEqProofs [iPathOk_l0, h, e, e2, wrap_succ h hp.1]
  · have : i = p.length := by omega
    subst this
    refine .inr ⟨(.ex 0, ⟨[(0, .d (.sl .str p))], []⟩), by simp, ?_, by simp⟩
    simp -implicitDefEqProofs [iPathOk_l0]
theorem iPathOk_ok (p : List (List UInt8)) (hp : OkP p) : V iPathOk [.d (.sl .str p)] [] = some ([], .one (.fz (.b (pathB p)))) := by
  rw [V_eq (fn := iPathOk_m) (by kernel_rfl)]
  have := iPathOk_l p hp 0 (Nat.zero_le _)
  simp only [List.drop_zero, Int.natCast_zero] at this
  unfold pathB
  cases h : p.all nameB <;> rw [h] at this <;> simp -implicitDefEqProofs [iPathOk_m, this]
  omega
theorem sPathOk_l (p : List (List UInt8)) (hp : OkP p) : ∀ i : Nat, i ≤ p.length →
    DL V (.loop sPathOk_l0) ⟨[(3, .d (.i .i64 i)), (0, .d (.sl .str p))], []⟩ = if (p.drop i).all nameB then some (.ex 0, ⟨[(0, .d (.sl .str p))], []⟩) else some (.ret, ⟨[(2, .d (.b false))], []⟩) := by
  refine loop_rec (fun i : Nat => (⟨[(3, .d (.i .i64 i)), (0, .d (.sl .str p))], []⟩ : St)) _ (fun i => p.length - i) (fun i => i ≤ p.length) (fun i hi => ?_)
  by_cases h : i < p.length
  · have e : p[i]? = some p[i] := List.getElem?_eq_getElem h
    have e2 := sNameOk_ok p[i] (hp.2 _ (List.getElem_mem h))
    rw [List.drop_eq_getElem_cons h, List.all_cons]
    cases hn : nameB p[i] <;> rw [hn] at e2
    · refine .inr ⟨(.ret, ⟨[(2, .d (.b false))], []⟩), by simp, ?_, by simp⟩
      simp -implicitDefEqProofs [sPathOk_l0, h, e, e2]
    · refine .inl ⟨i + 1, ?_, by omega, by omega, by simp⟩
      simp -implicitDefEqProofs [sPathOk_l0, h, e, e2, wrap_succ h hp.1]
  · have : i = p.length := by omega
    subst this
    refine .inr ⟨(.ex 0, ⟨[(0, .d (.sl .str p))], []⟩), by simp, ?_, by simp⟩
    simp -implicitDefEqProofs [sPathOk_l0]
theorem sPathOk_ok (p : List (List UInt8)) (hp : OkP p) : V sPathOk [.d (.sl .str p)] [] = some ([], .one (.fz (.b (pathB p)))) := by
  rw [V_eq (fn := sPathOk_m) (by kernel_rfl)]
  have := sPathOk_l p hp 0 (Nat.zero_le _)
  simp only [List.drop_zero, Int.natCast_zero] at this
  unfold pathB
  cases h : p.all nameB <;> rw [h] at this <;> simp -implicitDefEqProofs [sPathOk_m, this]
  omega
def freeB (b : UInt8) : Bool := (decide (97 ≤ b) && decide (b ≤ 122)) || (decide (65 ≤ b) && decide (b ≤ 90)) || (decide (48 ≤ b) && decide (b ≤ 57)) || decide (b = 45) || decide (b = 46) || decide (b = 95) || decide (b = 126)
def hexU (n : Nat) : UInt8 := if n < 10 then UInt8.ofNat (48 + n) else UInt8.ofNat (55 + n)
def quote1 (b : UInt8) : List UInt8 := if freeB b then [b] else [37, hexU (b.toNat / 16), hexU (b.toNat % 16)]
def quoteB (s : List UInt8) : List UInt8 := s.flatMap quote1
theorem quote1_len (b : UInt8) : (quote1 b).length ≤ 3 := by unfold quote1; split <;> simp
theorem quoteB_len (s : List UInt8) : (quoteB s).length ≤ 3 * s.length := by
  induction s with
  | nil => simp [quoteB]
  | cons b s ih =>
    have := quote1_len b
    simp only [quoteB, List.flatMap_cons, List.length_append, List.length_cons] at ih ⊢
    omega
theorem quoteB_take (s : List UInt8) (i : Nat) (h : i < s.length) : quoteB (s.take (i + 1)) = quoteB (s.take i) ++ quote1 s[i] := by
  rw [List.take_add_one, List.getElem?_eq_getElem h]
  simp only [quoteB, Option.toList_some, List.flatMap_append, List.flatMap_cons, List.flatMap_nil, List.append_nil]
theorem sl2Free_ok (b : UInt8) : V sl2Free [.d (.u b)] [] = some ([], .one (.fz (.b (freeB b)))) := by
  rw [V_eq (fn := sl2Free_m) (by kernel_rfl)]
  have e1 := sl1Small_ok b
  have e2 := sl1Large_ok b
  have e3 := sl1Digit_ok b
  unfold freeB
  generalize (decide (97 ≤ b) && decide (b ≤ 122)) = t1 at e1 ⊢
  generalize (decide (65 ≤ b) && decide (b ≤ 90)) = t2 at e2 ⊢
  generalize (decide (48 ≤ b) && decide (b ≤ 57)) = t3 at e3 ⊢
  obtain ⟨t4, h4⟩ : ∃ t, decide (b = 45) = t := ⟨_, rfl⟩
  obtain ⟨t5, h5⟩ : ∃ t, decide (b = 46) = t := ⟨_, rfl⟩
  obtain ⟨t6, h6⟩ : ∃ t, decide (b = 95) = t := ⟨_, rfl⟩
  obtain ⟨t7, h7⟩ : ∃ t, decide (b = 126) = t := ⟨_, rfl⟩
  rw [h4, h5, h6, h7]
  cases t1
  · cases t2
    · cases t3
      · cases t4
        · cases t5
          · cases t6 <;> simp -implicitDefEqProofs [sl2Free_m, e1, e2, e3, h4, h5, h6, h7]
          · simp -implicitDefEqProofs [sl2Free_m, e1, e2, e3, h4, h5]
        · simp -implicitDefEqProofs [sl2Free_m, e1, e2, e3, h4]
      · simp -implicitDefEqProofs [sl2Free_m, e1, e2, e3]
    · simp -implicitDefEqProofs [sl2Free_m, e1, e2]
  · simp -implicitDefEqProofs [sl2Free_m, e1]
theorem sl2Digit_ok (n : Nat) (hn : n < 16) : V sl2Digit [.d (.i .i64 n)] [] = some ([], .one (.fz (.u (hexU n)))) := by
  rw [V_eq (fn := sl2Digit_m) (by kernel_rfl)]
  have w1 : IntKind.i64.wrap (48 + (n : Int)) = 48 + n := wrap_id (by omega) (by omega)
  have w2 : IntKind.i64.wrap (65 + (n : Int)) = 65 + n := wrap_id (by omega) (by omega)
  have w3 : IntKind.i64.wrap (65 + (n : Int) - 10) = 65 + n - 10 := wrap_id (by omega) (by omega)
  unfold hexU
  by_cases h : n < 10
  · have h' : (n : Int) < 10 := by omega
    have e : ((48 + (n : Int)) % 256).toNat = 48 + n := by omega
    simp -implicitDefEqProofs [sl2Digit_m, h, h', w1, e]
  · have h' : ¬ (n : Int) < 10 := by omega
    have e : ((65 + (n : Int) - 10) % 256).toNat = 55 + n := by omega
    simp -implicitDefEqProofs [sl2Digit_m, h, h', w2, w3, e]
theorem sQuote_l (s : List UInt8) (hs : s.length ≤ 1048576) : ∀ i : Nat, i ≤ s.length →
    DL V (.loop sQuote_l0) ⟨[(4, .d (.i .i64 i)), (3, .h 67 0 (quoteB (s.take i)).length), (0, .d (.s s))], [(67, .ls .u8 false (quoteB (s.take i)) 0 [])]⟩ = some (.ex 0, ⟨[(3, .h 67 0 (quoteB s).length)], [(67, .ls .u8 false (quoteB s) 0 [])]⟩) := by
  refine loop_rec (fun i : Nat => (⟨[(4, .d (.i .i64 i)), (3, .h 67 0 (quoteB (s.take i)).length), (0, .d (.s s))], [(67, .ls .u8 false (quoteB (s.take i)) 0 [])]⟩ : St)) _ (fun i => s.length - i) (fun i => i ≤ s.length) (fun i hi => ?_)
  by_cases h : i < s.length
  · have e : s[i]? = some s[i] := List.getElem?_eq_getElem h
    have hl : (quoteB (s.take i)).length ≤ 3 * i := by have := quoteB_len (s.take i); rw [List.length_take] at this; omega
    have e2 := sl2Free_ok s[i]
    have hlt := s[i].toNat_lt
    obtain ⟨x, hx⟩ : ∃ x, s[i].toNat / 16 = x := ⟨_, rfl⟩
    obtain ⟨y, hy⟩ : ∃ y, s[i].toNat % 16 = y := ⟨_, rfl⟩
    have e3 := sl2Digit_ok x (by omega)
    have e4 := sl2Digit_ok y (by omega)
    have w1 : IntKind.i64.wrap ((s[i].toNat : Int) / 16) = x := by
      rw [show (s[i].toNat : Int) / 16 = x by omega]; exact wrap_id (by omega) (by omega)
    have w2 : (s[i].toNat : Int).tmod 16 = y := by
      rw [Int.tmod_eq_emod_of_nonneg (by omega)]; omega
    have w3 : (s[i].toNat : Int) % 16 = y := by omega
    refine .inl ⟨i + 1, ?_, by omega, by omega, rfl⟩
    rw [quoteB_take s i h]
    generalize quoteB (s.take i) = out at hl ⊢
    unfold quote1
    rw [hx, hy]
    cases hp : freeB s[i] <;> rw [hp] at e2
    · have hb : out.length + 3 ≤ 140737488355328 := by omega
      simp -implicitDefEqProofs [sQuote_l0, h, e, e2, e3, e4, wrap_b, w1, w2, w3, wrap_succ h (by omega : s.length ≤ 9223372036854775807), hb]
    · have hb : out.length + 1 ≤ 140737488355328 := by omega
      simp -implicitDefEqProofs [sQuote_l0, h, e, e2, wrap_succ h (by omega : s.length ≤ 9223372036854775807), hb]
  · have : i = s.length := by omega
    subst this
    refine .inr ⟨(.ex 0, ⟨[(3, .h 67 0 (quoteB s).length)], [(67, .ls .u8 false (quoteB s) 0 [])]⟩), by simp, ?_, rfl⟩
    simp -implicitDefEqProofs [sQuote_l0]
theorem sQuote_ok (s : List UInt8) (hs : s.length ≤ 1048576) : V sQuote [.d (.s s)] [] = some ([], .one (.fz (.s (quoteB s)))) := by
  rw [V_eq (fn := sQuote_m) (by kernel_rfl)]
  have := sQuote_l s hs 0 (Nat.zero_le _)
  simp only [List.take_zero, Int.natCast_zero, show quoteB [] = [] from rfl, List.length_nil] at this
  simp -implicitDefEqProofs [sQuote_m, this]
theorem indexByte_ok (s : List UInt8) (c : UInt8) : V x_strings_IndexByte [.d (.s s), .d (.u c)] [] = some ([], .one (.fz (.i .i64 (if s.contains c then (s.findIdx (· == c) : Int) else -1)))) := by
  rw [V, evL_ext tab extE (by kernel_rfl)]; rfl
theorem hexTab : ∀ n : Nat, n < 16 → [(48 : UInt8), 49, 50, 51, 52, 53, 54, 55, 56, 57, 65, 66, 67, 68, 69, 70][n]? = some (hexU n) := by decide
theorem shr4 (b : UInt8) : (UInt8.ofNat (b.toNat / 16)).toNat = b.toNat / 16 := by
  have := b.toNat_lt
  rw [UInt8.toNat_ofNat']; omega
theorem and15 (b : UInt8) : (b &&& 15).toNat = b.toNat % 16 := by
  rw [UInt8.toNat_and]
  exact Nat.and_two_pow_sub_one_eq_mod b.toNat 4
theorem iQuote_l (s : List UInt8) (hs : s.length ≤ 1048576) : ∀ i : Nat, i ≤ s.length →
    DL V (.loop iQuote_l0) ⟨[(4, .d (.i .i64 i)), (3, .h 67 0 (quoteB (s.take i)).length), (0, .d (.s s))], [(67, .ls .u8 false (quoteB (s.take i)) 0 [])]⟩ = some (.ex 0, ⟨[(3, .h 67 0 (quoteB s).length)], [(67, .ls .u8 false (quoteB s) 0 [])]⟩) := by
  refine loop_rec (fun i : Nat => (⟨[(4, .d (.i .i64 i)), (3, .h 67 0 (quoteB (s.take i)).length), (0, .d (.s s))], [(67, .ls .u8 false (quoteB (s.take i)) 0 [])]⟩ : St)) _ (fun i => s.length - i) (fun i => i ≤ s.length) (fun i hi => ?_)
  by_cases h : i < s.length
  · have e : s[i]? = some s[i] := List.getElem?_eq_getElem h
    have hl : (quoteB (s.take i)).length ≤ 3 * i := by have := quoteB_len (s.take i); rw [List.length_take] at this; omega
    have hlt := s[i].toNat_lt
    refine .inl ⟨i + 1, ?_, by omega, by omega, rfl⟩
    rw [quoteB_take s i h]
    have e1 := iisSmall_ok s[i]
    have e2 := iisLarge_ok s[i]
    have e3 := iisDigit_ok s[i]
    have e4 := indexByte_ok [45, 46, 95, 126] s[i]
    have hf : freeB s[i] = ((decide (97 ≤ s[i]) && decide (s[i] ≤ 122)) || (decide (65 ≤ s[i]) && decide (s[i] ≤ 90)) || (decide (48 ≤ s[i]) && decide (s[i] ≤ 57)) || [45, 46, 95, 126].contains s[i]) := by
      simp [freeB, Bool.or_assoc]
    have hq : quote1 s[i] = if freeB s[i] then [s[i]] else [37, hexU (s[i].toNat / 16), hexU (s[i].toNat % 16)] := rfl
    rw [hq, hf]
    generalize quoteB (s.take i) = out at hl ⊢
    have h15 := hexTab (s[i].toNat % 16) (by omega)
    have h16 := hexTab (s[i].toNat / 16) (by omega)
    rw [← and15] at h15
    rw [← shr4] at h16
    rw [← and15, ← shr4]
    have hb : out.length + 1 ≤ 140737488355328 := by omega
    have hb3 : out.length + 3 ≤ 140737488355328 := by omega
    have hw := wrap_succ h (by omega : s.length ≤ 9223372036854775807)
    generalize (decide (97 ≤ s[i]) && decide (s[i] ≤ 122)) = t1 at e1 ⊢
    generalize (decide (65 ≤ s[i]) && decide (s[i] ≤ 90)) = t2 at e2 ⊢
    generalize (decide (48 ≤ s[i]) && decide (s[i] ≤ 57)) = t3 at e3 ⊢
    generalize [45, 46, 95, 126].contains s[i] = t4 at e4 ⊢
    cases t1
    · cases t2
      · cases t3
        · cases t4
          · simp -implicitDefEqProofs [iQuote_l0, h, e, e1, e2, e3, e4, hb3, h15, h16, hw, -UInt8.toNat_ofNat', -UInt8.toNat_and]
          · simp -implicitDefEqProofs [iQuote_l0, h, e, e1, e2, e3, e4, hb, hw]
        · simp -implicitDefEqProofs [iQuote_l0, h, e, e1, e2, e3, hb, hw]
      · simp -implicitDefEqProofs [iQuote_l0, h, e, e1, e2, hb, hw]
    · simp -implicitDefEqProofs [iQuote_l0, h, e, e1, hb, hw]
  · have : i = s.length := by omega
    subst this
    refine .inr ⟨(.ex 0, ⟨[(3, .h 67 0 (quoteB s).length)], [(67, .ls .u8 false (quoteB s) 0 [])]⟩), by simp, ?_, rfl⟩
    simp -implicitDefEqProofs [iQuote_l0]
theorem iQuote_ok (s : List UInt8) (hs : s.length ≤ 1048576) : V iQuote [.d (.s s)] [] = some ([], .one (.fz (.s (quoteB s)))) := by
  rw [V_eq (fn := iQuote_m) (by kernel_rfl)]
  have := iQuote_l s hs 0 (Nat.zero_le _)
  simp only [List.take_zero, Int.natCast_zero, show quoteB [] = [] from rfl, List.length_nil] at this
  simp -implicitDefEqProofs [iQuote_m, this]
def pathTextB (p : List (List UInt8)) : List UInt8 := if pathB p then (if p = [] then [47] else p.flatMap (fun x => 47 :: quoteB x)) else []
theorem pathB_bounds {p : List (List UInt8)} (h : pathB p = true) : p.length ≤ 4 ∧ ∀ s ∈ p, s.length ≤ 8 := by
  simp only [pathB, Bool.and_eq_true, decide_eq_true_eq, List.all_eq_true] at h
  refine ⟨h.2, fun s hs => ?_⟩
  have := h.1 s hs
  simp only [nameB, Bool.and_eq_true, decide_eq_true_eq] at this
  exact this.1.1.1.1.2
theorem pt_len {p : List (List UInt8)} (h : ∀ s ∈ p, s.length ≤ 8) : (p.flatMap (fun x => 47 :: quoteB x)).length ≤ 25 * p.length := by
  induction p with
  | nil => simp
  | cons a p ih =>
    have h1 := quoteB_len a
    have h2 := h a (by simp)
    have h3 := ih (fun s hs => h s (by simp [hs]))
    simp only [List.flatMap_cons, List.length_append, List.length_cons] at h3 ⊢
    omega
theorem pt_take (p : List (List UInt8)) (i : Nat) (h : i < p.length) : (p.take (i + 1)).flatMap (fun x => 47 :: quoteB x) = (p.take i).flatMap (fun x => 47 :: quoteB x) ++ [47] ++ quoteB p[i] := by
  rw [List.take_add_one, List.getElem?_eq_getElem h]
  simp only [Option.toList_some, List.flatMap_append, List.flatMap_cons, List.flatMap_nil, List.append_nil, List.append_assoc, List.cons_append, List.nil_append]
theorem join_ok (l : List (List UInt8)) (sep : List UInt8) (h1 : l.length ≤ 140737488355328) (h2 : (joinB sep l).length ≤ 140737488355328) : V x_strings_Join [.d (.sl .str l), .d (.s sep)] [] = some ([], .one (.fz (.s (joinB sep l)))) := by
  rw [V, evL_ext tab extE (by kernel_rfl)]
  show x_strings_Join_e [.d (.sl .str l), .d (.s sep)] = _
  exact if_pos ⟨h1, h2⟩
theorem join_slash : ∀ (p : List (List UInt8)), p ≠ [] → 47 :: joinB [47] (p.map quoteB) = p.flatMap (fun x => 47 :: quoteB x)
  | [], h => absurd rfl h
  | [a], _ => by simp [joinB]
  | a :: b :: l, _ => by
    have := join_slash (b :: l) (by simp)
    simp only [List.map_cons, List.flatMap_cons] at this ⊢
    rw [← this]
    simp [joinB]
theorem sPathText_l (p : List (List UInt8)) (hp : p.length ≤ 4 ∧ ∀ s ∈ p, s.length ≤ 8) : ∀ i : Nat, i ≤ p.length →
    DL V (.loop sPathText_l0) ⟨[(4, .d (.i .i64 i)), (3, .d (.s ((p.take i).flatMap (fun x => 47 :: quoteB x)))), (0, .d (.sl .str p))], []⟩ = some (.ex 0, ⟨[(3, .d (.s (p.flatMap (fun x => 47 :: quoteB x))))], []⟩) := by
  refine loop_rec (fun i : Nat => (⟨[(4, .d (.i .i64 i)), (3, .d (.s ((p.take i).flatMap (fun x => 47 :: quoteB x)))), (0, .d (.sl .str p))], []⟩ : St)) _ (fun i => p.length - i) (fun i => i ≤ p.length) (fun i hi => ?_)
  by_cases h : i < p.length
  · have e : p[i]? = some p[i] := List.getElem?_eq_getElem h
    have hb := hp.2 p[i] (List.getElem_mem h)
    have e1 := sQuote_ok p[i] (by omega)
    have hq := quoteB_len p[i]
    have hl := pt_len (p := p.take i) (fun s hs => hp.2 s (List.mem_of_mem_take hs))
    rw [List.length_take] at hl
    refine .inl ⟨i + 1, ?_, by omega, by omega, rfl⟩
    rw [pt_take p i h]
    generalize (p.take i).flatMap (fun x => 47 :: quoteB x) = out at hl ⊢
    generalize quoteB p[i] = qq at hq e1 ⊢
    have hb1 : out.length + 1 ≤ 9223372036854775807 := by omega
    have hb2 : out.length + 1 + qq.length ≤ 9223372036854775807 := by omega
    simp -implicitDefEqProofs [sPathText_l0, h, e, e1, hb1, hb2, wrap_succ h (by omega : p.length ≤ 9223372036854775807)]
  · have : i = p.length := by omega
    subst this
    refine .inr ⟨(.ex 0, ⟨[(3, .d (.s (p.flatMap (fun x => 47 :: quoteB x))))], []⟩), by simp, ?_, rfl⟩
    simp -implicitDefEqProofs [sPathText_l0]
theorem sPathText_ok (p : List (List UInt8)) (hp : OkP p) : V sPathText [.d (.sl .str p)] [] = some ([], .one (.fz (.s (pathTextB p)))) := by
  rw [V_eq (fn := sPathText_m) (by kernel_rfl)]
  have e1 := sPathOk_ok p hp
  unfold pathTextB
  cases h : pathB p <;> rw [h] at e1
  · simp -implicitDefEqProofs [sPathText_m, e1]
  · have e2 := sPathText_l p (pathB_bounds h) 0 (Nat.zero_le _)
    simp only [List.take_zero, Int.natCast_zero, List.flatMap_nil] at e2
    by_cases hn : p = []
    · have hf : p.flatMap (fun x => 47 :: quoteB x) = [] := by rw [hn]; rfl
      rw [hf] at e2
      rw [if_pos rfl, if_pos hn]
      simp -implicitDefEqProofs [sPathText_m, e1, e2]
    · have hf : ¬ (p.flatMap (fun x => 47 :: quoteB x) = []) := by
        cases p with
        | nil => exact absurd rfl hn
        | cons a l => simp
      generalize p.flatMap (fun x => 47 :: quoteB x) = z at hf e2 ⊢
      rw [if_pos rfl, if_neg hn]
      simp -implicitDefEqProofs [sPathText_m, e1, e2, hf]
theorem iPathText_l (p : List (List UInt8)) (hp : p.length ≤ 4 ∧ ∀ s ∈ p, s.length ≤ 8) : ∀ i : Nat, i ≤ p.length →
    DL V (.loop iPathText_l0) ⟨[(11, .d (.i .i64 i)), (10, .d (.i .i64 p.length)), (9, .d (.sl .str p)), (3, .h 67 0 i)], [(67, .ls .str false ((p.take i).map quoteB) 0 [])]⟩ = some (.ex 0, ⟨[(3, .h 67 0 p.length)], [(67, .ls .str false (p.map quoteB) 0 [])]⟩) := by
  refine loop_rec (fun i : Nat => (⟨[(11, .d (.i .i64 i)), (10, .d (.i .i64 p.length)), (9, .d (.sl .str p)), (3, .h 67 0 i)], [(67, .ls .str false ((p.take i).map quoteB) 0 [])]⟩ : St)) _ (fun i => p.length - i) (fun i => i ≤ p.length) (fun i hi => ?_)
  by_cases h : i < p.length
  · have e : p[i]? = some p[i] := List.getElem?_eq_getElem h
    have hb := hp.2 p[i] (List.getElem_mem h)
    have e1 := iQuote_ok p[i] (by omega)
    refine .inl ⟨i + 1, ?_, by omega, by omega, rfl⟩
    have ht : (p.take (i + 1)).map quoteB = (p.take i).map quoteB ++ [quoteB p[i]] := by
      rw [List.take_add_one, e]; simp only [Option.toList_some, List.map_append, List.map_cons, List.map_nil]
    rw [ht]
    have hl : ((p.take i).map quoteB).length = i := by simp; omega
    generalize (p.take i).map quoteB = out at hl ⊢
    have hb1 : (i + 1) * 16 ≤ 140737488355328 := by omega
    have htk : out.take i = out := List.take_of_length_le (by omega)
    simp -implicitDefEqProofs [iPathText_l0, h, e, e1, hb1, hl, htk, wrap_succ h (by omega : p.length ≤ 9223372036854775807)]
  · have : i = p.length := by omega
    subst this
    refine .inr ⟨(.ex 0, ⟨[(3, .h 67 0 p.length)], [(67, .ls .str false (p.map quoteB) 0 [])]⟩), by simp, ?_, rfl⟩
    simp -implicitDefEqProofs [iPathText_l0]
theorem iPathText_ok (p : List (List UInt8)) (hp : OkP p) : V iPathText [.d (.sl .str p)] [] = some ([], .one (.fz (.s (pathTextB p)))) := by
  rw [V_eq (fn := iPathText_m) (by kernel_rfl)]
  have e1 := iPathOk_ok p hp
  unfold pathTextB
  cases h : pathB p <;> rw [h] at e1
  · simp -implicitDefEqProofs [iPathText_m, e1]
  · have hbd := pathB_bounds h
    have e2 := iPathText_l p hbd 0 (Nat.zero_le _)
    simp only [List.take_zero, Int.natCast_zero, List.map_nil] at e2
    have htk : (p.map quoteB).take p.length = p.map quoteB := List.take_of_length_le (by simp)
    have hpt := pt_len hbd.2
    have hjl : (joinB [47] (p.map quoteB)).length ≤ 140737488355328 := by
      by_cases hn : p = []
      · rw [hn]; decide
      · have := congrArg List.length (join_slash p hn)
        simp only [List.length_cons] at this
        omega
    have e3 := join_ok (p.map quoteB) [47] (by simp; omega) hjl
    by_cases hn : p = []
    · have hj : joinB [47] (p.map quoteB) = [] := by rw [hn]; rfl
      rw [hj] at e3
      rw [if_pos rfl, if_pos hn]
      simp -implicitDefEqProofs [iPathText_m, e1, e2, e3, htk]
    · have hj := join_slash p hn
      rw [if_pos rfl, if_neg hn]
      have hlen : (joinB [47] (p.map quoteB)).length + 1 = (p.flatMap (fun x => 47 :: quoteB x)).length := by rw [← hj]; rfl
      rw [← hj]
      have hb : 1 + (joinB [47] (p.map quoteB)).length ≤ 9223372036854775807 := by omega
      generalize joinB [47] (p.map quoteB) = z at e3 hb ⊢
      simp -implicitDefEqProofs [iPathText_m, e1, e2, e3, htk, hb]
end Go.Proofs.YtfklggpopffkjaaK
