/- What the functions come to. -/
import Derived.Test.YtniakiefibpgmaaGreatDoorF1
set_option linter.unusedVariables false
set_option linter.unusedSimpArgs false
namespace Go.Proofs.YtniakiefibpgmaaGreatDoorK
open Go.RowKit
def plainB (b : UInt8) : Bool := decide (32 ≤ b) && decide (b ≤ 126)
theorem iisSmall_ok (b : UInt8) : V iisSmall [.d (.u b)] [] = some ([], .one (.fz (.b (decide (97 ≤ b) && decide (b ≤ 122))))) := by
  rw [V_eq (fn := iisSmall_m) (by kernel_rfl)]
  by_cases h : 97 ≤ b <;> simp -implicitDefEqProofs [iisSmall_m, h]
theorem iisLarge_ok (b : UInt8) : V iisLarge [.d (.u b)] [] = some ([], .one (.fz (.b (decide (65 ≤ b) && decide (b ≤ 90))))) := by
  rw [V_eq (fn := iisLarge_m) (by kernel_rfl)]
  by_cases h : 65 ≤ b <;> simp -implicitDefEqProofs [iisLarge_m, h]
theorem iisDigit_ok (b : UInt8) : V iisDigit [.d (.u b)] [] = some ([], .one (.fz (.b (decide (48 ≤ b) && decide (b ≤ 57))))) := by
  rw [V_eq (fn := iisDigit_m) (by kernel_rfl)]
  by_cases h : 48 ≤ b <;> simp -implicitDefEqProofs [iisDigit_m, h]
theorem iisPlain_ok (b : UInt8) : V iisPlain [.d (.u b)] [] = some ([], .one (.fz (.b (decide (32 ≤ b) && decide (b ≤ 126))))) := by
  rw [V_eq (fn := iisPlain_m) (by kernel_rfl)]
  by_cases h : 32 ≤ b <;> simp -implicitDefEqProofs [iisPlain_m, h]
theorem iin_ok (n a b : Int) : V iin [.d (.i .i64 n), .d (.i .i64 a), .d (.i .i64 b)] [] = some ([], .one (.fz (.b (decide (a ≤ n) && decide (n ≤ b))))) := by
  rw [V_eq (fn := iin_m) (by kernel_rfl)]
  by_cases h : a ≤ n <;> simp -implicitDefEqProofs [iin_m, h]
theorem u8_range (b : UInt8) (x y : Nat) (hx : x < 256) (hy : y < 256) : (decide ((x : Int) ≤ (b.toNat : Int)) && decide ((b.toNat : Int) ≤ (y : Int))) = (decide (UInt8.ofNat x ≤ b) && decide (b ≤ UInt8.ofNat y)) := by
  have e1 : (UInt8.ofNat x).toNat = x := by simp; omega
  have e2 : (UInt8.ofNat y).toNat = y := by simp; omega
  simp only [UInt8.le_iff_toNat_le, e1, e2, Int.ofNat_le]
theorem iPlain_l (s : List UInt8) (hs : s.length ≤ 9223372036854775807) : ∀ i : Nat, i ≤ s.length →
    DL V (.loop iPlain_l0) ⟨[(3, .d (.i .i64 i)), (0, .d (.s s))], []⟩ = if (s.drop i).all plainB then some (.ex 0, ⟨[], []⟩) else some (.ret, ⟨[(2, .d (.b false))], []⟩) := by
  refine loop_rec (fun i : Nat => (⟨[(3, .d (.i .i64 i)), (0, .d (.s s))], []⟩ : St)) _ (fun i => s.length - i) (fun i => i ≤ s.length) (fun i hi => ?_)
  by_cases h : i < s.length
  · have e : s[i]? = some s[i] := List.getElem?_eq_getElem h
    rw [List.drop_eq_getElem_cons h, List.all_cons]
    cases hp : plainB s[i]
    · refine .inr ⟨(.ret, ⟨[(2, .d (.b false))], []⟩), by simp, ?_, by simp⟩
      simp -implicitDefEqProofs [iPlain_l0, h, e, iisPlain_ok]
      simpa [plainB] using hp
    · refine .inl ⟨i + 1, ?_, by omega, by omega, by simp⟩
      simp -implicitDefEqProofs [iPlain_l0, h, e, iisPlain_ok, wrap_succ h hs]
      simpa [plainB] using hp
  · have : i = s.length := by omega
    subst this
    refine .inr ⟨(.ex 0, ⟨[], []⟩), by simp, ?_, by simp⟩
    simp -implicitDefEqProofs [iPlain_l0]
theorem iPlain_ok (s : List UInt8) (hs : s.length ≤ 9223372036854775807) : V iPlain [.d (.s s)] [] = some ([], .one (.fz (.b (s.all plainB)))) := by
  rw [V_eq (fn := iPlain_m) (by kernel_rfl)]
  have := iPlain_l s hs 0 (Nat.zero_le _)
  simp only [List.drop_zero, Int.natCast_zero] at this
  cases h : s.all plainB <;> rw [h] at this <;> simp -implicitDefEqProofs [iPlain_m, this]
def nameB (s : List UInt8) : Bool := decide (1 ≤ s.length) && decide (s.length ≤ 8) && s.all plainB && !(s.contains 47) && !decide (s = [46]) && !decide (s = [46, 46])
theorem len_range (n a b : Nat) : (decide ((a : Int) ≤ (n : Int)) && decide ((n : Int) ≤ (b : Int))) = (decide (a ≤ n) && decide (n ≤ b)) := by simp only [Int.ofNat_le]
theorem contains_ok (s : List UInt8) (c : UInt8) : V x_strings_Contains [.d (.s s), .d (.s [c])] [] = some ([], .one (.fz (.b (s.contains c)))) := by
  rw [V, evL_ext tab extE (by kernel_rfl)]; rfl
theorem iNameOk_ok (s : List UInt8) (hs : s.length ≤ 9223372036854775807) : V iNameOk [.d (.s s)] [] = some ([], .one (.fz (.b (nameB s)))) := by
  rw [V_eq (fn := iNameOk_m) (by kernel_rfl)]
  have e1 := iin_ok s.length 1 8
  have e2 := iPlain_ok s hs
  have e3 := contains_ok s 47
  rw [show (decide ((1 : Int) ≤ (s.length : Int)) && decide ((s.length : Int) ≤ 8)) = (decide (1 ≤ s.length) && decide (s.length ≤ 8)) from len_range s.length 1 8] at e1
  unfold nameB
  generalize (decide (1 ≤ s.length) && decide (s.length ≤ 8)) = t1 at e1 ⊢
  generalize s.all plainB = t2 at e2 ⊢
  generalize s.contains 47 = t3 at e3 ⊢
  obtain ⟨t4, h4⟩ : ∃ t, decide (s = [46]) = t := ⟨_, rfl⟩
  obtain ⟨t5, h5⟩ : ∃ t, decide (s = [46, 46]) = t := ⟨_, rfl⟩
  rw [h4, h5]
  cases t1 <;> cases t2 <;> cases t3 <;> cases t4 <;> simp -implicitDefEqProofs [iNameOk_m, e1, e2, e3, h4, h5]
def pathB (p : List (List UInt8)) : Bool := p.all nameB && decide (p.length ≤ 4)
abbrev OkP (p : List (List UInt8)) : Prop := p.length ≤ 9223372036854775807 ∧ ∀ s ∈ p, s.length ≤ 9223372036854775807
theorem iPathOk_l (p : List (List UInt8)) (hp : OkP p) : ∀ i : Nat, i ≤ p.length →
    DL V (.loop iPathOk_l0) ⟨[(7, .d (.i .i64 i)), (6, .d (.i .i64 p.length)), (5, .d (.sl .str p)), (0, .d (.sl .str p))], []⟩ = if (p.drop i).all nameB then some (.ex 0, ⟨[(0, .d (.sl .str p))], []⟩) else some (.ret, ⟨[(2, .d (.b false))], []⟩) := by
  refine loop_rec (fun i : Nat => (⟨[(7, .d (.i .i64 i)), (6, .d (.i .i64 p.length)), (5, .d (.sl .str p)), (0, .d (.sl .str p))], []⟩ : St)) _ (fun i => p.length - i) (fun i => i ≤ p.length) (fun i hi => ?_)
  by_cases h : i < p.length
  · have e : p[i]? = some p[i] := List.getElem?_eq_getElem h
    have e2 := iNameOk_ok p[i] (hp.2 _ (List.getElem_mem h))
    rw [List.drop_eq_getElem_cons h, List.all_cons]
    cases hn : nameB p[i] <;> rw [hn] at e2
    · refine .inr ⟨(.ret, ⟨[(2, .d (.b false))], []⟩), by simp, ?_, by simp⟩
      simp -implicitDefEqProofs [iPathOk_l0, h, e, e2]
    · refine .inl ⟨i + 1, ?_, by omega, by omega, by simp⟩
      simp -implicitDefEqProofs [iPathOk_l0, h, e, e2, wrap_succ h hp.1]
  · have : i = p.length := by omega
    subst this
    refine .inr ⟨(.ex 0, ⟨[(0, .d (.sl .str p))], []⟩), by simp, ?_, by simp⟩
    simp -implicitDefEqProofs [iPathOk_l0]
theorem iPathOk_ok (p : List (List UInt8)) (hp : OkP p) : V iPathOk [.d (.sl .str p)] [] = some ([], .one (.fz (.b (pathB p)))) := by
  rw [V_eq (fn := iPathOk_m) (by kernel_rfl)]
  have := iPathOk_l p hp 0 (Nat.zero_le _)
  simp only [List.drop_zero, Int.natCast_zero] at this
  unfold pathB
  cases h : p.all nameB <;> rw [h] at this <;> simp -implicitDefEqProofs [iPathOk_m, this]
  omega
theorem iSamePath_l (p q : List (List UInt8)) (hp : p.length ≤ 9223372036854775807) (hq : p.length = q.length) : ∀ i : Nat, i ≤ p.length →
    DL V (.loop iSamePath_l0) ⟨[(13, .d (.i .i64 i)), (12, .d (.i .i64 p.length)), (1, .d (.sl .str q)), (0, .d (.sl .str p))], []⟩ = if p.drop i = q.drop i then some (.ex 0, ⟨[], []⟩) else some (.ret, ⟨[(4, .d (.b false))], []⟩) := by
  refine loop_rec (fun i : Nat => (⟨[(13, .d (.i .i64 i)), (12, .d (.i .i64 p.length)), (1, .d (.sl .str q)), (0, .d (.sl .str p))], []⟩ : St)) _ (fun i => p.length - i) (fun i => i ≤ p.length) (fun i hi => ?_)
  by_cases h : i < p.length
  · have h' : i < q.length := by omega
    have e : p[i]? = some p[i] := List.getElem?_eq_getElem h
    have e' : q[i]? = some q[i] := List.getElem?_eq_getElem h'
    have hd : (p.drop i = q.drop i) ↔ (p[i] = q[i] ∧ p.drop (i + 1) = q.drop (i + 1)) := by
      rw [List.drop_eq_getElem_cons h, List.drop_eq_getElem_cons h', List.cons.injEq]
    by_cases hn : p[i] = q[i]
    · refine .inl ⟨i + 1, ?_, by omega, by omega, by simp only [hd, hn, true_and]⟩
      simp -implicitDefEqProofs [iSamePath_l0, h, e, e', hn, wrap_succ h hp]
    · refine .inr ⟨(.ret, ⟨[(4, .d (.b false))], []⟩), by simp, ?_, by simp only [hd, hn, false_and, if_false]⟩
      simp -implicitDefEqProofs [iSamePath_l0, h, e, e', hn]
  · have : i = p.length := by omega
    subst this
    refine .inr ⟨(.ex 0, ⟨[], []⟩), by simp, ?_, by simp [hq]⟩
    simp -implicitDefEqProofs [iSamePath_l0]
theorem iSamePath_ok (p q : List (List UInt8)) (hp : p.length ≤ 9223372036854775807) : V iSamePath [.d (.sl .str p), .d (.sl .str q)] [] = some ([], .one (.fz (.b (decide (p = q))))) := by
  rw [V_eq (fn := iSamePath_m) (by kernel_rfl)]
  by_cases hq : p.length = q.length
  · have := iSamePath_l p q hp hq 0 (Nat.zero_le _)
    simp only [List.drop_zero, Int.natCast_zero] at this
    have hq' : (p.length : Int) = q.length := by omega
    rw [hq'] at this
    by_cases h : p = q
    · rw [if_pos h] at this; rw [decide_eq_true h]; simp -implicitDefEqProofs [iSamePath_m, this, hq']
    · rw [if_neg h] at this; rw [decide_eq_false h]; simp -implicitDefEqProofs [iSamePath_m, this, hq']
  · have h : p ≠ q := fun e => hq (by rw [e])
    have hq' : ¬ (p.length : Int) = q.length := by omega
    simp -implicitDefEqProofs [iSamePath_m, hq, hq', h]
def freeB (b : UInt8) : Bool := (decide (97 ≤ b) && decide (b ≤ 122)) || (decide (65 ≤ b) && decide (b ≤ 90)) || (decide (48 ≤ b) && decide (b ≤ 57)) || decide (b = 45) || decide (b = 46) || decide (b = 95) || decide (b = 126)
def hexU (n : Nat) : UInt8 := if n < 10 then UInt8.ofNat (48 + n) else UInt8.ofNat (55 + n)
def quote1 (b : UInt8) : List UInt8 := if freeB b then [b] else [37, hexU (b.toNat / 16), hexU (b.toNat % 16)]
def quoteB (s : List UInt8) : List UInt8 := s.flatMap quote1
theorem quote1_len (b : UInt8) : (quote1 b).length ≤ 3 := by unfold quote1; split <;> simp
theorem quoteB_len (s : List UInt8) : (quoteB s).length ≤ 3 * s.length := by
  induction s with
  | nil => simp [quoteB]
  | cons b s ih =>
    have := quote1_len b
    simp only [quoteB, List.flatMap_cons, List.length_append, List.length_cons] at ih ⊢
    omega
theorem quoteB_take (s : List UInt8) (i : Nat) (h : i < s.length) : quoteB (s.take (i + 1)) = quoteB (s.take i) ++ quote1 s[i] := by
  rw [List.take_add_one, List.getElem?_eq_getElem h]
  simp only [quoteB, Option.toList_some, List.flatMap_append, List.flatMap_cons, List.flatMap_nil, List.append_nil]
theorem indexByte_ok (s : List UInt8) (c : UInt8) : V x_strings_IndexByte [.d (.s s), .d (.u c)] [] = some ([], .one (.fz (.i .i64 (if s.contains c then (s.findIdx (· == c) : Int) else -1)))) := by
  rw [V, evL_ext tab extE (by kernel_rfl)]; rfl
theorem hexTab : ∀ n : Nat, n < 16 → [(48 : UInt8), 49, 50, 51, 52, 53, 54, 55, 56, 57, 65, 66, 67, 68, 69, 70][n]? = some (hexU n) := by decide
theorem shr4 (b : UInt8) : (UInt8.ofNat (b.toNat / 16)).toNat = b.toNat / 16 := by
  have := b.toNat_lt
  rw [UInt8.toNat_ofNat']; omega
theorem and15 (b : UInt8) : (b &&& 15).toNat = b.toNat % 16 := by
  rw [UInt8.toNat_and]
  exact Nat.and_two_pow_sub_one_eq_mod b.toNat 4
theorem iQuote_l (s : List UInt8) (hs : s.length ≤ 1048576) : ∀ i : Nat, i ≤ s.length →
    DL V (.loop iQuote_l0) ⟨[(4, .d (.i .i64 i)), (3, .h 67 0 (quoteB (s.take i)).length), (0, .d (.s s))], [(67, .ls .u8 false (quoteB (s.take i)) 0 [])]⟩ = some (.ex 0, ⟨[(3, .h 67 0 (quoteB s).length)], [(67, .ls .u8 false (quoteB s) 0 [])]⟩) := by
  refine loop_rec (fun i : Nat => (⟨[(4, .d (.i .i64 i)), (3, .h 67 0 (quoteB (s.take i)).length), (0, .d (.s s))], [(67, .ls .u8 false (quoteB (s.take i)) 0 [])]⟩ : St)) _ (fun i => s.length - i) (fun i => i ≤ s.length) (fun i hi => ?_)
  by_cases h : i < s.length
  · have e : s[i]? = some s[i] := List.getElem?_eq_getElem h
    have hl : (quoteB (s.take i)).length ≤ 3 * i := by have := quoteB_len (s.take i); rw [List.length_take] at this; omega
    have hlt := s[i].toNat_lt
    refine .inl ⟨i + 1, ?_, by omega, by omega, rfl⟩
    rw [quoteB_take s i h]
    have e1 := iisSmall_ok s[i]
    have e2 := iisLarge_ok s[i]
    have e3 := iisDigit_ok s[i]
    have e4 := indexByte_ok [45, 46, 95, 126] s[i]
    have hf : freeB s[i] = ((decide (97 ≤ s[i]) && decide (s[i] ≤ 122)) || (decide (65 ≤ s[i]) && decide (s[i] ≤ 90)) || (decide (48 ≤ s[i]) && decide (s[i] ≤ 57)) || [45, 46, 95, 126].contains s[i]) := by
      simp [freeB, Bool.or_assoc]
    have hq : quote1 s[i] = if freeB s[i] then [s[i]] else [37, hexU (s[i].toNat / 16), hexU (s[i].toNat % 16)] := rfl
    rw [hq, hf]
    generalize quoteB (s.take i) = out at hl ⊢
    have h15 := hexTab (s[i].toNat % 16) (by omega)
    have h16 := hexTab (s[i].toNat / 16) (by omega)
    rw [← and15] at h15
    rw [← shr4] at h16
    rw [← and15, ← shr4]
    have hb : out.length + 1 ≤ 140737488355328 := by omega
    have hb3 : out.length + 3 ≤ 140737488355328 := by omega
    have hw := wrap_succ h (by omega : s.length ≤ 9223372036854775807)
    generalize (decide (97 ≤ s[i]) && decide (s[i] ≤ 122)) = t1 at e1 ⊢
    generalize (decide (65 ≤ s[i]) && decide (s[i] ≤ 90)) = t2 at e2 ⊢
    generalize (decide (48 ≤ s[i]) && decide (s[i] ≤ 57)) = t3 at e3 ⊢
    generalize [45, 46, 95, 126].contains s[i] = t4 at e4 ⊢
    cases t1
    · cases t2
      · cases t3
        · cases t4
          · simp -implicitDefEqProofs [iQuote_l0, h, e, e1, e2, e3, e4, hb3, h15, h16, hw, -UInt8.toNat_ofNat', -UInt8.toNat_and]
          · simp -implicitDefEqProofs [iQuote_l0, h, e, e1, e2, e3, e4, hb, hw]
        · simp -implicitDefEqProofs [iQuote_l0, h, e, e1, e2, e3, hb, hw]
      · simp -implicitDefEqProofs [iQuote_l0, h, e, e1, e2, hb, hw]
    · simp -implicitDefEqProofs [iQuote_l0, h, e, e1, hb, hw]
  · have : i = s.length := by omega
    subst this
    refine .inr ⟨(.ex 0, ⟨[(3, .h 67 0 (quoteB s).length)], [(67, .ls .u8 false (quoteB s) 0 [])]⟩), by simp, ?_, rfl⟩
    simp -implicitDefEqProofs [iQuote_l0]
theorem iQuote_ok (s : List UInt8) (hs : s.length ≤ 1048576) : V iQuote [.d (.s s)] [] = some ([], .one (.fz (.s (quoteB s)))) := by
  rw [V_eq (fn := iQuote_m) (by kernel_rfl)]
  have := iQuote_l s hs 0 (Nat.zero_le _)
  simp only [List.take_zero, Int.natCast_zero, show quoteB [] = [] from rfl, List.length_nil] at this
  simp -implicitDefEqProofs [iQuote_m, this]
def pathTextB (p : List (List UInt8)) : List UInt8 := if pathB p then (if p = [] then [47] else p.flatMap (fun x => 47 :: quoteB x)) else []
theorem pathB_bounds {p : List (List UInt8)} (h : pathB p = true) : p.length ≤ 4 ∧ ∀ s ∈ p, s.length ≤ 8 := by
  simp only [pathB, Bool.and_eq_true, decide_eq_true_eq, List.all_eq_true] at h
  refine ⟨h.2, fun s hs => ?_⟩
  have := h.1 s hs
  simp only [nameB, Bool.and_eq_true, decide_eq_true_eq] at this
  exact this.1.1.1.1.2
theorem pt_len {p : List (List UInt8)} (h : ∀ s ∈ p, s.length ≤ 8) : (p.flatMap (fun x => 47 :: quoteB x)).length ≤ 25 * p.length := by
  induction p with
  | nil => simp
  | cons a p ih =>
    have h1 := quoteB_len a
    have h2 := h a (by simp)
    have h3 := ih (fun s hs => h s (by simp [hs]))
    simp only [List.flatMap_cons, List.length_append, List.length_cons] at h3 ⊢
    omega
theorem pt_take (p : List (List UInt8)) (i : Nat) (h : i < p.length) : (p.take (i + 1)).flatMap (fun x => 47 :: quoteB x) = (p.take i).flatMap (fun x => 47 :: quoteB x) ++ [47] ++ quoteB p[i] := by
  rw [List.take_add_one, List.getElem?_eq_getElem h]
  simp only [Option.toList_some, List.flatMap_append, List.flatMap_cons, List.flatMap_nil, List.append_nil, List.append_assoc, List.cons_append, List.nil_append]
theorem join_ok (l : List (List UInt8)) (sep : List UInt8) (h1 : l.length ≤ 140737488355328) (h2 : (joinB sep l).length ≤ 140737488355328) : V x_strings_Join [.d (.sl .str l), .d (.s sep)] [] = some ([], .one (.fz (.s (joinB sep l)))) := by
  rw [V, evL_ext tab extE (by kernel_rfl)]
  show x_strings_Join_e [.d (.sl .str l), .d (.s sep)] = _
  exact if_pos ⟨h1, h2⟩
theorem join_slash : ∀ (p : List (List UInt8)), p ≠ [] → 47 :: joinB [47] (p.map quoteB) = p.flatMap (fun x => 47 :: quoteB x)
  | [], h => absurd rfl h
  | [a], _ => by simp [joinB]
  | a :: b :: l, _ => by
    have := join_slash (b :: l) (by simp)
    simp only [List.map_cons, List.flatMap_cons] at this ⊢
    rw [← this]
    simp [joinB]
theorem iPathText_l (p : List (List UInt8)) (hp : p.length ≤ 4 ∧ ∀ s ∈ p, s.length ≤ 8) : ∀ i : Nat, i ≤ p.length →
    DL V (.loop iPathText_l0) ⟨[(11, .d (.i .i64 i)), (10, .d (.i .i64 p.length)), (9, .d (.sl .str p)), (3, .h 67 0 i)], [(67, .ls .str false ((p.take i).map quoteB) 0 [])]⟩ = some (.ex 0, ⟨[(3, .h 67 0 p.length)], [(67, .ls .str false (p.map quoteB) 0 [])]⟩) := by
  refine loop_rec (fun i : Nat => (⟨[(11, .d (.i .i64 i)), (10, .d (.i .i64 p.length)), (9, .d (.sl .str p)), (3, .h 67 0 i)], [(67, .ls .str false ((p.take i).map quoteB) 0 [])]⟩ : St)) _ (fun i => p.length - i) (fun i => i ≤ p.length) (fun i hi => ?_)
  by_cases h : i < p.length
  · have e : p[i]? = some p[i] := List.getElem?_eq_getElem h
    have hb := hp.2 p[i] (List.getElem_mem h)
    have e1 := iQuote_ok p[i] (by omega)
    refine .inl ⟨i + 1, ?_, by omega, by omega, rfl⟩
    have ht : (p.take (i + 1)).map quoteB = (p.take i).map quoteB ++ [quoteB p[i]] := by
      rw [List.take_add_one, e]; simp only [Option.toList_some, List.map_append, List.map_cons, List.map_nil]
    rw [ht]
    have hl : ((p.take i).map quoteB).length = i := by simp; omega
    generalize (p.take i).map quoteB = out at hl ⊢
    have hb1 : (i + 1) * 16 ≤ 140737488355328 := by omega
    have htk : out.take i = out := List.take_of_length_le (by omega)
    simp -implicitDefEqProofs [iPathText_l0, h, e, e1, hb1, hl, htk, wrap_succ h (by omega : p.length ≤ 9223372036854775807)]
  · have : i = p.length := by omega
    subst this
    refine .inr ⟨(.ex 0, ⟨[(3, .h 67 0 p.length)], [(67, .ls .str false (p.map quoteB) 0 [])]⟩), by simp, ?_, rfl⟩
    simp -implicitDefEqProofs [iPathText_l0]
theorem iPathText_ok (p : List (List UInt8)) (hp : OkP p) : V iPathText [.d (.sl .str p)] [] = some ([], .one (.fz (.s (pathTextB p)))) := by
  rw [V_eq (fn := iPathText_m) (by kernel_rfl)]
  have e1 := iPathOk_ok p hp
  unfold pathTextB
  cases h : pathB p <;> rw [h] at e1
  · simp -implicitDefEqProofs [iPathText_m, e1]
  · have hbd := pathB_bounds h
    have e2 := iPathText_l p hbd 0 (Nat.zero_le _)
    simp only [List.take_zero, Int.natCast_zero, List.map_nil] at e2
    have htk : (p.map quoteB).take p.length = p.map quoteB := List.take_of_length_le (by simp)
    have hpt := pt_len hbd.2
    have hjl : (joinB [47] (p.map quoteB)).length ≤ 140737488355328 := by
      by_cases hn : p = []
      · rw [hn]; decide
      · have := congrArg List.length (join_slash p hn)
        simp only [List.length_cons] at this
        omega
    have e3 := join_ok (p.map quoteB) [47] (by simp; omega) hjl
    by_cases hn : p = []
    · have hj : joinB [47] (p.map quoteB) = [] := by rw [hn]; rfl
      rw [hj] at e3
      rw [if_pos rfl, if_pos hn]
      simp -implicitDefEqProofs [iPathText_m, e1, e2, e3, htk]
    · have hj := join_slash p hn
      rw [if_pos rfl, if_neg hn]
      have hlen : (joinB [47] (p.map quoteB)).length + 1 = (p.flatMap (fun x => 47 :: quoteB x)).length := by rw [← hj]; rfl
      rw [← hj]
      have hb : 1 + (joinB [47] (p.map quoteB)).length ≤ 9223372036854775807 := by omega
      generalize joinB [47] (p.map quoteB) = z at e3 hb ⊢
      simp -implicitDefEqProofs [iPathText_m, e1, e2, e3, htk, hb]
abbrev decB (k : Nat) : List UInt8 := Lib.decDigits k
def numB (n : Int) : List UInt8 := Lib.decDigits n.toNat
theorem decB_small {k : Nat} (h : k < 10) : Lib.decDigits k = [UInt8.ofNat (48 + k)] := by rw [Lib.decDigits, dif_pos h]
theorem decB_big {k : Nat} (h : ¬ k < 10) : Lib.decDigits k = Lib.decDigits (k / 10) ++ [UInt8.ofNat (48 + k % 10)] := by rw [Lib.decDigits, dif_neg h]
theorem decB_len : ∀ (n k : Nat), k < 10 ^ (n + 1) → (Lib.decDigits k).length ≤ n + 1
  | 0, k, h => by rw [decB_small (by simpa using h)]; simp
  | n + 1, k, h => by
    by_cases h1 : k < 10
    · rw [decB_small h1]; simp
    · rw [decB_big h1]
      have := decB_len n (k / 10) (by rw [Nat.pow_succ] at h; omega)
      simp; omega
theorem decB_len20 (k : Nat) (h : k ≤ 9223372036854775807) : (Lib.decDigits k).length ≤ 20 := decB_len 19 k (Nat.lt_of_le_of_lt h (by decide))
theorem numB_len (n : Int) (h : n ≤ 9223372036854775807) : (numB n).length ≤ 20 := by
  have : n.toNat ≤ 9223372036854775807 := by omega
  exact decB_len20 _ this
theorem itoa_ok (n : Int) (h : 0 ≤ n) (h2 : n ≤ 9223372036854775807) : V x_strconv_Itoa [i6 n] [] = rS (Lib.decDigits n.toNat) := by
  rw [V, evL_ext tab extE (by kernel_rfl)]; show x_strconv_Itoa_e [.d (.i .i64 n)] = _
  exact if_pos ⟨h, h2⟩
theorem iNumText_ok (n : Int) (h : n ≤ 9223372036854775807) : V iNumText [i6 n] [] = rS (numB n) := by
  rw [V_eq (fn := iNumText_m) (by kernel_rfl)]
  have e := itoa_ok (max n 0) (by omega) (by omega)
  rw [show (max n 0).toNat = n.toNat by omega] at e
  simp -implicitDefEqProofs [iNumText_m, numB, e]
def tagB (n : Int) : List UInt8 := 34 :: 118 :: (numB n ++ [34])
theorem tagB_len (n : Int) (h : n ≤ 9223372036854775807) : (tagB n).length ≤ 23 := by have := numB_len n h; simp [tagB]; omega
theorem iTagText_ok (n : Int) (h : n ≤ 9223372036854775807) : V iTagText [i6 n] [] = rS (tagB n) := by
  rw [V_eq (fn := iTagText_m) (by kernel_rfl)]
  have := numB_len n h
  have e := iNumText_ok n h
  simp -implicitDefEqProofs [iTagText_m, e, tagB, (by omega : 2 + (numB n).length ≤ 9223372036854775807), (by omega : (numB n).length ≤ 9223372036854775804)]
end Go.Proofs.YtniakiefibpgmaaGreatDoorK
