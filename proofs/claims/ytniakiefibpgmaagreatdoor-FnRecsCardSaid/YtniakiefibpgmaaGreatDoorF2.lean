/- What the functions come to. -/
import Derived.Test.YtniakiefibpgmaaGreatDoorF1
set_option linter.unusedVariables false
set_option linter.unusedSimpArgs false
namespace Go.Proofs.YtniakiefibpgmaaGreatDoorK
open Go.RowKit
def plainB (b : UInt8) : Bool := decide (32 ≤ b) && decide (b ≤ 126)
theorem iisSmall_ok (b : UInt8) : V iisSmall [.d (.u b)] [] = some ([], .one (.fz (.b (decide (97 ≤ b) && decide (b ≤ 122))))) := by
  rw [V_eq (fn := iisSmall_m) (by kernel_rfl)]
  by_cases h : 97 ≤ b <;> simp -implicitDefEqProofs [iisSmall_m, h]
theorem iisLarge_ok (b : UInt8) : V iisLarge [.d (.u b)] [] = some ([], .one (.fz (.b (decide (65 ≤ b) && decide (b ≤ 90))))) := by
  rw [V_eq (fn := iisLarge_m) (by kernel_rfl)]
  by_cases h : 65 ≤ b <;> simp -implicitDefEqProofs [iisLarge_m, h]
theorem iisDigit_ok (b : UInt8) : V iisDigit [.d (.u b)] [] = some ([], .one (.fz (.b (decide (48 ≤ b) && decide (b ≤ 57))))) := by
  rw [V_eq (fn := iisDigit_m) (by kernel_rfl)]
  by_cases h : 48 ≤ b <;> simp -implicitDefEqProofs [iisDigit_m, h]
theorem iisPlain_ok (b : UInt8) : V iisPlain [.d (.u b)] [] = some ([], .one (.fz (.b (decide (32 ≤ b) && decide (b ≤ 126))))) := by
  rw [V_eq (fn := iisPlain_m) (by kernel_rfl)]
  by_cases h : 32 ≤ b <;> simp -implicitDefEqProofs [iisPlain_m, h]
theorem iin_ok (n a b : Int) : V iin [.d (.i .i64 n), .d (.i .i64 a), .d (.i .i64 b)] [] = some ([], .one (.fz (.b (decide (a ≤ n) && decide (n ≤ b))))) := by
  rw [V_eq (fn := iin_m) (by kernel_rfl)]
  by_cases h : a ≤ n <;> simp -implicitDefEqProofs [iin_m, h]
theorem sl1In_ok (n a b : Int) : V sl1In [.d (.i .i64 n), .d (.i .i64 a), .d (.i .i64 b)] [] = some ([], .one (.fz (.b (decide (a ≤ n) && decide (n ≤ b))))) := by
  rw [V_eq (fn := sl1In_m) (by kernel_rfl)]
  by_cases h : a ≤ n <;> simp -implicitDefEqProofs [sl1In_m, h]
theorem u8_range (b : UInt8) (x y : Nat) (hx : x < 256) (hy : y < 256) : (decide ((x : Int) ≤ (b.toNat : Int)) && decide ((b.toNat : Int) ≤ (y : Int))) = (decide (UInt8.ofNat x ≤ b) && decide (b ≤ UInt8.ofNat y)) := by
  have e1 : (UInt8.ofNat x).toNat = x := by simp; omega
  have e2 : (UInt8.ofNat y).toNat = y := by simp; omega
  simp only [UInt8.le_iff_toNat_le, e1, e2, Int.ofNat_le]
theorem sl1Small_ok (b : UInt8) : V sl1Small [.d (.u b)] [] = some ([], .one (.fz (.b (decide (97 ≤ b) && decide (b ≤ 122))))) := by
  rw [V_eq (fn := sl1Small_m) (by kernel_rfl)]
  simp -implicitDefEqProofs [sl1Small_m, wrap_b, sl1In_ok]
  exact u8_range b 97 122 (by omega) (by omega)
theorem sl1Large_ok (b : UInt8) : V sl1Large [.d (.u b)] [] = some ([], .one (.fz (.b (decide (65 ≤ b) && decide (b ≤ 90))))) := by
  rw [V_eq (fn := sl1Large_m) (by kernel_rfl)]
  simp -implicitDefEqProofs [sl1Large_m, wrap_b, sl1In_ok]
  exact u8_range b 65 90 (by omega) (by omega)
theorem sl1Digit_ok (b : UInt8) : V sl1Digit [.d (.u b)] [] = some ([], .one (.fz (.b (decide (48 ≤ b) && decide (b ≤ 57))))) := by
  rw [V_eq (fn := sl1Digit_m) (by kernel_rfl)]
  simp -implicitDefEqProofs [sl1Digit_m, wrap_b, sl1In_ok]
  exact u8_range b 48 57 (by omega) (by omega)
theorem iPlain_l (s : List UInt8) (hs : s.length ≤ 9223372036854775807) : ∀ i : Nat, i ≤ s.length →
    DL V (.loop iPlain_l0) ⟨[(3, .d (.i .i64 i)), (0, .d (.s s))], []⟩ = if (s.drop i).all plainB then some (.ex 0, ⟨[], []⟩) else some (.ret, ⟨[(2, .d (.b false))], []⟩) := by
  refine loop_rec (fun i : Nat => (⟨[(3, .d (.i .i64 i)), (0, .d (.s s))], []⟩ : St)) _ (fun i => s.length - i) (fun i => i ≤ s.length) (fun i hi => ?_)
  by_cases h : i < s.length
  · have e : s[i]? = some s[i] := List.getElem?_eq_getElem h
    rw [List.drop_eq_getElem_cons h, List.all_cons]
    cases hp : plainB s[i]
    · refine .inr ⟨(.ret, ⟨[(2, .d (.b false))], []⟩), by simp, ?_, by simp⟩
      simp -implicitDefEqProofs [iPlain_l0, h, e, iisPlain_ok]
      simpa [plainB] using hp
    · refine .inl ⟨i + 1, ?_, by omega, by omega, by simp⟩
      simp -implicitDefEqProofs [iPlain_l0, h, e, iisPlain_ok, wrap_succ h hs]
      simpa [plainB] using hp
  · have : i = s.length := by omega
    subst this
    refine .inr ⟨(.ex 0, ⟨[], []⟩), by simp, ?_, by simp⟩
    simp -implicitDefEqProofs [iPlain_l0]
theorem iPlain_ok (s : List UInt8) (hs : s.length ≤ 9223372036854775807) : V iPlain [.d (.s s)] [] = some ([], .one (.fz (.b (s.all plainB)))) := by
  rw [V_eq (fn := iPlain_m) (by kernel_rfl)]
  have := iPlain_l s hs 0 (Nat.zero_le _)
  simp only [List.drop_zero, Int.natCast_zero] at this
  cases h : s.all plainB <;> rw [h] at this <;> simp -implicitDefEqProofs [iPlain_m, this]
theorem sPlain_l (s : List UInt8) (hs : s.length ≤ 9223372036854775807) : ∀ i : Nat, i ≤ s.length →
    DL V (.loop sPlain_l0) ⟨[(3, .d (.i .i64 i)), (0, .d (.s s))], []⟩ = if (s.drop i).all plainB then some (.ex 0, ⟨[], []⟩) else some (.ret, ⟨[(2, .d (.b false))], []⟩) := by
  refine loop_rec (fun i : Nat => (⟨[(3, .d (.i .i64 i)), (0, .d (.s s))], []⟩ : St)) _ (fun i => s.length - i) (fun i => i ≤ s.length) (fun i hi => ?_)
  by_cases h : i < s.length
  · have e : s[i]? = some s[i] := List.getElem?_eq_getElem h
    have e2 := sl1In_ok (s[i].toNat) 32 126
    rw [show (decide ((32 : Int) ≤ (s[i].toNat : Int)) && decide ((s[i].toNat : Int) ≤ 126)) = plainB s[i] from u8_range s[i] 32 126 (by omega) (by omega)] at e2
    rw [List.drop_eq_getElem_cons h, List.all_cons]
    cases hp : plainB s[i] <;> rw [hp] at e2
    · refine .inr ⟨(.ret, ⟨[(2, .d (.b false))], []⟩), by simp, ?_, by simp⟩
      simp -implicitDefEqProofs [sPlain_l0, h, e, wrap_b, e2]
    · refine .inl ⟨i + 1, ?_, by omega, by omega, by simp⟩
      simp -implicitDefEqProofs [sPlain_l0, h, e, wrap_b, e2, wrap_succ h hs]
  · have : i = s.length := by omega
    subst this
    refine .inr ⟨(.ex 0, ⟨[], []⟩), by simp, ?_, by simp⟩
    simp -implicitDefEqProofs [sPlain_l0]
theorem sPlain_ok (s : List UInt8) (hs : s.length ≤ 9223372036854775807) : V sPlain [.d (.s s)] [] = some ([], .one (.fz (.b (s.all plainB)))) := by
  rw [V_eq (fn := sPlain_m) (by kernel_rfl)]
  have := sPlain_l s hs 0 (Nat.zero_le _)
  simp only [List.drop_zero, Int.natCast_zero] at this
  cases h : s.all plainB <;> rw [h] at this <;> simp -implicitDefEqProofs [sPlain_m, this]
def nameB (s : List UInt8) : Bool := decide (1 ≤ s.length) && decide (s.length ≤ 8) && s.all plainB && !(s.contains 47) && !decide (s = [46]) && !decide (s = [46, 46])
theorem len_range (n a b : Nat) : (decide ((a : Int) ≤ (n : Int)) && decide ((n : Int) ≤ (b : Int))) = (decide (a ≤ n) && decide (n ≤ b)) := by simp only [Int.ofNat_le]
theorem contains_ok (s : List UInt8) (c : UInt8) : V x_strings_Contains [.d (.s s), .d (.s [c])] [] = some ([], .one (.fz (.b (s.contains c)))) := by
  rw [V, evL_ext tab extE (by kernel_rfl)]; rfl
def pathB (p : List (List UInt8)) : Bool := p.all nameB && decide (p.length ≤ 4)
abbrev OkP (p : List (List UInt8)) : Prop := p.length ≤ 9223372036854775807 ∧ ∀ s ∈ p, s.length ≤ 9223372036854775807
def freeB (b : UInt8) : Bool := (decide (97 ≤ b) && decide (b ≤ 122)) || (decide (65 ≤ b) && decide (b ≤ 90)) || (decide (48 ≤ b) && decide (b ≤ 57)) || decide (b = 45) || decide (b = 46) || decide (b = 95) || decide (b = 126)
def hexU (n : Nat) : UInt8 := if n < 10 then UInt8.ofNat (48 + n) else UInt8.ofNat (55 + n)
def quote1 (b : UInt8) : List UInt8 := if freeB b then [b] else [37, hexU (b.toNat / 16), hexU (b.toNat % 16)]
def quoteB (s : List UInt8) : List UInt8 := s.flatMap quote1
theorem quote1_len (b : UInt8) : (quote1 b).length ≤ 3 := by unfold quote1; split <;> simp
theorem quoteB_len (s : List UInt8) : (quoteB s).length ≤ 3 * s.length := by
  induction s with
  | nil => simp [quoteB]
  | cons b s ih =>
    have := quote1_len b
    simp only [quoteB, List.flatMap_cons, List.length_append, List.length_cons] at ih ⊢
    omega
theorem quoteB_take (s : List UInt8) (i : Nat) (h : i < s.length) : quoteB (s.take (i + 1)) = quoteB (s.take i) ++ quote1 s[i] := by
  rw [List.take_add_one, List.getElem?_eq_getElem h]
  simp only [quoteB, Option.toList_some, List.flatMap_append, List.flatMap_cons, List.flatMap_nil, List.append_nil]
def pathTextB (p : List (List UInt8)) : List UInt8 := if pathB p then (if p = [] then [47] else p.flatMap (fun x => 47 :: quoteB x)) else []
theorem pathB_bounds {p : List (List UInt8)} (h : pathB p = true) : p.length ≤ 4 ∧ ∀ s ∈ p, s.length ≤ 8 := by
  simp only [pathB, Bool.and_eq_true, decide_eq_true_eq, List.all_eq_true] at h
  refine ⟨h.2, fun s hs => ?_⟩
  have := h.1 s hs
  simp only [nameB, Bool.and_eq_true, decide_eq_true_eq] at this
  exact this.1.1.1.1.2
theorem pt_len {p : List (List UInt8)} (h : ∀ s ∈ p, s.length ≤ 8) : (p.flatMap (fun x => 47 :: quoteB x)).length ≤ 25 * p.length := by
  induction p with
  | nil => simp
  | cons a p ih =>
    have h1 := quoteB_len a
    have h2 := h a (by simp)
    have h3 := ih (fun s hs => h s (by simp [hs]))
    simp only [List.flatMap_cons, List.length_append, List.length_cons] at h3 ⊢
    omega
theorem pt_take (p : List (List UInt8)) (i : Nat) (h : i < p.length) : (p.take (i + 1)).flatMap (fun x => 47 :: quoteB x) = (p.take i).flatMap (fun x => 47 :: quoteB x) ++ [47] ++ quoteB p[i] := by
  rw [List.take_add_one, List.getElem?_eq_getElem h]
  simp only [Option.toList_some, List.flatMap_append, List.flatMap_cons, List.flatMap_nil, List.append_nil, List.append_assoc, List.cons_append, List.nil_append]
abbrev decB (k : Nat) : List UInt8 := Lib.decDigits k
def numB (n : Int) : List UInt8 := Lib.decDigits n.toNat
theorem decB_small {k : Nat} (h : k < 10) : Lib.decDigits k = [UInt8.ofNat (48 + k)] := by rw [Lib.decDigits, dif_pos h]
theorem decB_big {k : Nat} (h : ¬ k < 10) : Lib.decDigits k = Lib.decDigits (k / 10) ++ [UInt8.ofNat (48 + k % 10)] := by rw [Lib.decDigits, dif_neg h]
theorem decB_len : ∀ (n k : Nat), k < 10 ^ (n + 1) → (Lib.decDigits k).length ≤ n + 1
  | 0, k, h => by rw [decB_small (by simpa using h)]; simp
  | n + 1, k, h => by
    by_cases h1 : k < 10
    · rw [decB_small h1]; simp
    · rw [decB_big h1]
      have := decB_len n (k / 10) (by rw [Nat.pow_succ] at h; omega)
      simp; omega
theorem decB_len20 (k : Nat) (h : k ≤ 9223372036854775807) : (Lib.decDigits k).length ≤ 20 := decB_len 19 k (Nat.lt_of_le_of_lt h (by decide))
theorem numB_len (n : Int) (h : n ≤ 9223372036854775807) : (numB n).length ≤ 20 := by
  have : n.toNat ≤ 9223372036854775807 := by omega
  exact decB_len20 _ this
theorem itoa_ok (n : Int) (h : 0 ≤ n) (h2 : n ≤ 9223372036854775807) : V x_strconv_Itoa [i6 n] [] = rS (Lib.decDigits n.toNat) := by
  rw [V, evL_ext tab extE (by kernel_rfl)]; show x_strconv_Itoa_e [.d (.i .i64 n)] = _
  exact if_pos ⟨h, h2⟩
theorem iNumText_ok (n : Int) (h : n ≤ 9223372036854775807) : V iNumText [i6 n] [] = rS (numB n) := by
  rw [V_eq (fn := iNumText_m) (by kernel_rfl)]
  have e := itoa_ok (max n 0) (by omega) (by omega)
  rw [show (max n 0).toNat = n.toNat by omega] at e
  simp -implicitDefEqProofs [iNumText_m, numB, e]
theorem sNumText_l : ∀ (k : Nat) (acc : List UInt8), k ≤ 9223372036854775807 → acc.length + k / 10 + 1 ≤ 9223372036854775807 →
    DL V (.loop sNumText_l0) ⟨[(3, .d (.s acc)), (0, i6 k)], []⟩ = some (.ex 0, ⟨[(3, .d (.s (if k < 10 then acc else Lib.decDigits (k / 10) ++ acc)))], []⟩) := by
  intro k
  induction k using Nat.strongRecOn with
  | _ k ih =>
    intro acc hk hb
    rw [DL_loop]
    by_cases h : k < 10
    · rw [if_pos h]
      have hd : decide ((9 : Int) < (k : Int)) = false := decide_eq_false (by omega)
      simp -implicitDefEqProofs only [sNumText_l0, hd]
      simp -implicitDefEqProofs [hd]
    · rw [if_neg h]
      obtain ⟨y, hy⟩ : ∃ y, k / 10 = y := ⟨_, rfl⟩
      obtain ⟨x, hx⟩ : ∃ x, y % 10 = x := ⟨_, rfl⟩
      have i1 := ih y (by omega) (UInt8.ofNat (48 + x) :: acc) (by omega) (by simp; omega)
      have w1 : (y : Int).tmod 10 = x := by rw [Int.tmod_eq_emod_of_nonneg (by omega)]; omega
      have w3 : IntKind.i64.wrap ((k : Int) / 10) = y := by rw [show (k : Int) / 10 = y by omega]; exact wrI (by omega) (by omega)
      have w2 : IntKind.i64.wrap (48 + (x : Int)) = 48 + x := wrI (by omega) (by omega)
      have w4 : ((48 + (x : Int)) % 256).toNat = 48 + x := by omega
      have w5 : (y : Int) % 10 = x := by omega
      have e : (if y < 10 then UInt8.ofNat (48 + x) :: acc else Lib.decDigits (y / 10) ++ UInt8.ofNat (48 + x) :: acc) = Lib.decDigits y ++ acc := by
        split
        · rename_i h1; rw [decB_small h1]; obtain rfl : x = y := by omega
          rfl
        · rename_i h1; rw [decB_big h1, hx]; simp
      rw [e] at i1
      rw [hy]
      have hb1 : 1 + acc.length ≤ 9223372036854775807 := by omega
      generalize DL V (.loop sNumText_l0) = G at i1 ⊢
      simp -implicitDefEqProofs [sNumText_l0, (by omega : (9 : Int) < k), (by omega : ¬ (k : Int) ≤ 9), w1, w5, w2, w3, w4, hb1, i1, -UInt8.ofNat_add]
theorem sNumText_ok (n : Int) (h : n ≤ 9223372036854775807) : V sNumText [i6 n] [] = rS (numB n) := by
  rw [V_eq (fn := sNumText_m) (by kernel_rfl)]
  obtain ⟨k, hk⟩ : ∃ k : Nat, n.toNat = k := ⟨_, rfl⟩
  obtain ⟨x, hx⟩ : ∃ x, k % 10 = x := ⟨_, rfl⟩
  have hk2 : k ≤ 9223372036854775807 := by omega
  have L := sNumText_l k [UInt8.ofNat (48 + x)] hk2 (by simp only [List.length_cons, List.length_nil]; omega)
  have e : (if k < 10 then [UInt8.ofNat (48 + x)] else Lib.decDigits (k / 10) ++ [UInt8.ofNat (48 + x)]) = numB n := by
    unfold numB; rw [hk]
    split
    · rename_i h1; rw [decB_small h1]; obtain rfl : x = k := by omega
      rfl
    · rename_i h1; rw [decB_big h1, hx]
  rw [e] at L
  have w2 : IntKind.i64.wrap (48 + (x : Int)) = 48 + x := wrI (by omega) (by omega)
  have w4 : ((48 + (x : Int)) % 256).toNat = 48 + x := by omega
  by_cases hn : n < 0
  · obtain rfl : k = 0 := by omega
    obtain rfl : x = 0 := by omega
    have w6 : IntKind.i64.wrap 48 = 48 := wrI (by decide) (by decide)
    simp only [Int.natCast_zero] at L
    simp -implicitDefEqProofs [sNumText_m, hn, w6] at L ⊢
    simp -implicitDefEqProofs [L]
  · obtain rfl : n = k := by omega
    have w1 : (k : Int).tmod 10 = x := by rw [Int.tmod_eq_emod_of_nonneg (by omega)]; omega
    have w5 : (k : Int) % 10 = x := by omega
    simp -implicitDefEqProofs [sNumText_m, (by omega : ¬ (k : Int) < 0), (by omega : (0 : Int) ≤ k), w1, w5, w2, w4, L, -UInt8.ofNat_add]
def tagB (n : Int) : List UInt8 := 34 :: 118 :: (numB n ++ [34])
theorem tagB_len (n : Int) (h : n ≤ 9223372036854775807) : (tagB n).length ≤ 23 := by have := numB_len n h; simp [tagB]; omega
abbrev PathD := List (List UInt8)
abbrev PropD := List UInt8 × List UInt8 × List UInt8
abbrev ResD := List (List UInt8) × Bool × List UInt8 × Int × List PropD
abbrev LockD := Int × List (List UInt8) × Bool × Bool × Int
abbrev SrvD := List ResD × List LockD × Int × Int × List Int × List Int
def atP (p : PathD) (r : ResD) : Bool := decide (r.1 = p)
def findB (t : List ResD) (p : PathD) : Int := match t.findIdx? (atP p) with | some i => i | none => -1
theorem fi_lt {α : Type} {l : List α} {p : α → Bool} {i : Nat} (h : l.findIdx? p = some i) : i < l.length := by
  have := List.findIdx?_eq_some_iff_findIdx_eq.1 h; omega
theorem fi_at {α : Type} {l : List α} {p : α → Bool} {i : Nat} (h : l.findIdx? p = some i) (hi : i < l.length) : p l[i] = true := by
  obtain ⟨_, h1, _⟩ := List.findIdx?_eq_some_iff_getElem.1 h
  exact h1
theorem okP_sz {p : PathD} (h : szT (.sl .str) p ≤ 1099511627776) : OkP p := by
  have := szLen (t := .str) (l := p)
  refine ⟨by omega, fun s hs => ?_⟩
  rw [szT_slE] at h
  have := szL_mem (t := .str) hs
  simp only [szT_str] at this
  omega
def underB (p h : PathD) : Bool := decide (h.length < p.length) && decide (p.take h.length = h)
def smallC (i : Nat) (b : UInt8) : Bool := (decide (97 ≤ b) && decide (b ≤ 122)) || (!decide (i = 0) && ((decide (48 ≤ b) && decide (b ≤ 57)) || decide (b = 45)))
def smallB (s : List UInt8) : Bool := eachB smallC s && (decide (1 ≤ s.length) && decide (s.length ≤ 20))
theorem iSmallName_ok (s : List UInt8) (hs : s.length ≤ 9223372036854775807) : V iSmallName [.d (.s s)] [] = rB (smallB s) := by
  rw [V_eq (fn := iSmallName_m) (by kernel_rfl)]
  have L := loop_eachB (X := V) (c := iSmallName_l0) s smallC (fun i : Nat => ⟨[(3, i6 i), (0, .d (.s s))], []⟩) (.ret, ⟨[(2, .d (.b false))], []⟩) (.ex 0, ⟨[(0, .d (.s s))], []⟩) (by simp) (by simp)
    (fun i hi => by
      have e1 := iisSmall_ok s[i]
      have e2 := iisDigit_ok s[i]
      unfold smallC
      generalize (decide (97 ≤ s[i]) && decide (s[i] ≤ 122)) = t1 at e1 ⊢
      generalize (decide (48 ≤ s[i]) && decide (s[i] ≤ 57)) = t2 at e2 ⊢
      obtain ⟨t3, h3⟩ : ∃ t, decide (i = 0) = t := ⟨_, rfl⟩
      obtain ⟨t4, h4⟩ : ∃ t, decide (s[i] = 45) = t := ⟨_, rfl⟩
      rw [h3, h4]
      cases t1 <;> cases t3 <;> cases t2 <;> cases t4 <;> simp -implicitDefEqProofs [iSmallName_l0, hi, get_some hi, e1, e2, h3, h4, wrap_succ hi hs])
    (by simp -implicitDefEqProofs [iSmallName_l0])
  have e := iin_ok s.length 1 20
  rw [show (decide ((1 : Int) ≤ (s.length : Int)) && decide ((s.length : Int) ≤ 20)) = (decide (1 ≤ s.length) && decide (s.length ≤ 20)) from len_range s.length 1 20] at e
  simp only [Int.natCast_zero] at L
  unfold smallB
  cases h : eachB smallC s <;> rw [h] at L <;> simp -implicitDefEqProofs only [Bool.false_eq_true, if_true, if_false] at L <;> simp -implicitDefEqProofs [iSmallName_m, L, e]
theorem sSmallName_ok (s : List UInt8) (hs : s.length ≤ 9223372036854775807) : V sSmallName [.d (.s s)] [] = rB (smallB s) := by
  rw [V_eq (fn := sSmallName_m) (by kernel_rfl)]
  have L := loop_eachB (X := V) (c := sSmallName_l0) s smallC (fun i : Nat => ⟨[(3, i6 i), (0, .d (.s s))], []⟩) (.ret, ⟨[(2, .d (.b false))], []⟩) (.ex 0, ⟨[(0, .d (.s s))], []⟩) (by simp) (by simp)
    (fun i hi => by
      have e1 := sl1Small_ok s[i]
      have e2 := sl1Digit_ok s[i]
      unfold smallC
      generalize (decide (97 ≤ s[i]) && decide (s[i] ≤ 122)) = t1 at e1 ⊢
      generalize (decide (48 ≤ s[i]) && decide (s[i] ≤ 57)) = t2 at e2 ⊢
      obtain ⟨t3, h3⟩ : ∃ t, decide (i = 0) = t := ⟨_, rfl⟩
      obtain ⟨t4, h4⟩ : ∃ t, decide (s[i] = 45) = t := ⟨_, rfl⟩
      rw [h3, h4]
      cases t1 <;> cases t3 <;> cases t2 <;> cases t4 <;> simp -implicitDefEqProofs [sSmallName_l0, hi, get_some hi, e1, e2, h3, h4, wrap_succ hi hs])
    (by simp -implicitDefEqProofs [sSmallName_l0])
  have e := sl1In_ok s.length 1 20
  rw [show (decide ((1 : Int) ≤ (s.length : Int)) && decide ((s.length : Int) ≤ 20)) = (decide (1 ≤ s.length) && decide (s.length ≤ 20)) from len_range s.length 1 20] at e
  simp only [Int.natCast_zero] at L
  unfold smallB
  cases h : eachB smallC s <;> rw [h] at L <;> simp -implicitDefEqProofs only [Bool.false_eq_true, if_true, if_false] at L <;> simp -implicitDefEqProofs [sSmallName_m, L, e]
abbrev propA (p : PropD) : AV := .agg [.d (.s p.1), .d (.s p.2.1), .d (.s p.2.2)]
def propB (p : PropD) : Bool := decide (p.1.length ≤ 20) && p.1.all plainB && smallB p.2.1 && decide (p.2.2.length ≤ 20) && p.2.2.all plainB
def lessPropB (a b : PropD) : Bool := if a.1 = b.1 then Op.bytesLess a.2.1 b.2.1 else Op.bytesLess a.1 b.1
def propsB (l : List PropD) : Bool := eachB (fun i p => propB p && prevB lessPropB l i p) l && decide (l.length ≤ 4)
abbrev szP (p : PropD) : Nat := p.1.length + (p.2.1.length + p.2.2.length)
def diffI (a b : PathD) : Option Nat := firstI (min a.length b.length) fun i => !decide (a[i]? = b[i]?)
def lessPathB (a b : PathD) : Bool := match diffI a b with | some i => Op.bytesLess (a.getD i []) (b.getD i []) | none => decide (a.length < b.length)
theorem diffI_lt {a b : PathD} {i : Nat} (h : diffI a b = some i) : i < a.length ∧ i < b.length := by have := (firstI_some h).1; omega
def collB (t : List ResD) (p : PathD) : Bool := decide (p = []) || match t.findIdx? (atP p) with | some i => (match t[i]? with | some r => r.2.1 | none => false) | none => false
end Go.Proofs.YtniakiefibpgmaaGreatDoorK
