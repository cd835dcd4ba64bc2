/- What the functions come to. -/
import Derived.Test.YtniakiefibpgmaaGreatDoorF6
set_option linter.unusedVariables false
set_option linter.unusedSimpArgs false
namespace Go.Proofs.YtniakiefibpgmaaGreatDoorK
open Go.RowKit
theorem index_ok (s c : List UInt8) (h : s.length < 4294967281) : V x_strings_Index [.d (.s s), .d (.s c)] [] = rI (idxI c s) := by
  rw [V, evL_ext tab extE (by kernel_rfl)]; show x_strings_Index_e [.d (.s s), .d (.s c)] = _
  exact if_pos h
theorem split_ok (s c : List UInt8) (h : s.length < 4294967281) : V x_strings_Split [.d (.s s), .d (.s c)] [] = (splitB c s).map fun l => ([], .one (.fz (.sl .str l))) := by
  rw [V, evL_ext tab extE (by kernel_rfl)]; show x_strings_Split_e [.d (.s s), .d (.s c)] = _
  exact if_pos h
theorem cut_ok (s c : List UInt8) (h : s.length < 4294967281) : V x_strings_Cut [.d (.s s), .d (.s c)] [] = some ([], .tup [.one (.fz (.s (cutB c s).1)), .one (.fz (.s (cutB c s).2.1)), .one (.fz (.b (cutB c s).2.2))]) := by
  rw [V, evL_ext tab extE (by kernel_rfl)]; show x_strings_Cut_e [.d (.s s), .d (.s c)] = _
  exact if_pos h
theorem atoi_ok (s : List UInt8) (h : s.length ≤ 281474976710656) : V x_strconv_Atoi [.d (.s s)] [] = some (match Lib.atoiAll s with
    | .ok n => ([], .tup [.one (.fz (.i .i64 n)), .one (.fz (.e true))])
    | .range => ([], .tup [.one (.fz (.i .i64 (Lib.atoiSat s))), .one (.fz (.e false))])
    | _ => ([], .tup [.one (.fz (.i .i64 0)), .one (.fz (.e false))])) := by
  rw [V, evL_ext tab extE (by kernel_rfl)]; show x_strconv_Atoi_e [.d (.s s)] = _
  exact if_pos h
theorem atoi_le {s : List UInt8} {n : Int} (h : Lib.atoiAll s = .ok n) : -9223372036854775808 ≤ n ∧ n ≤ 9223372036854775807 := by
  unfold Lib.atoiAll at h
  split at h
  · cases h
  · simp only at h
    split at h
    · cases h
    · cases h
    · split at h
      · cases h
      · split at h
        · cases h
        · rename_i h1 h2
          injection h with h
          subst h
          split
          · rename_i h3; have : ¬ 9223372036854775808 < _ := fun e => h2 ⟨h3, e⟩; omega
          · rename_i h3; have : ¬ 9223372036854775808 ≤ _ := fun e => h1 ⟨h3, e⟩; omega
theorem iParseNum_ok (s : List UInt8) (most : Int) (h : s.length ≤ 1099511627776) : V iParseNum [.d (.s s), i6 most] [] = numR (parseB s most) := by
  rw [V_eq (fn := iParseNum_m) (by kernel_rfl)]
  have e1 := atoi_ok s (by omega)
  rw [← parse_law]
  rcases ha : Lib.atoiAll s with n | _ | _
  rotate_left
  · rw [ha] at e1; simp only at e1; simp -implicitDefEqProofs [iParseNum_m, e1]
  · rw [ha] at e1; simp only at e1; simp -implicitDefEqProofs [iParseNum_m, e1]
  · rw [ha] at e1; simp only at e1
    have hn := atoi_le ha
    have e2 := iNumText_ok n hn.2
    simp only
    by_cases h1 : n < 0
    · simp -implicitDefEqProofs [iParseNum_m, e1, h1]
    by_cases h2 : most < n
    · simp -implicitDefEqProofs [iParseNum_m, e1, h1, h2]
    by_cases h3 : 7 < s.length
    · simp -implicitDefEqProofs [iParseNum_m, e1, h1, h2, h3, (eq_true (by omega) : ((7 : Int) < (s.length : Int)) = True)]
    generalize numB n = q at e2 ⊢
    by_cases h4 : q = s
    · simp -implicitDefEqProofs [iParseNum_m, e1, e2, h1, h2, h3, h4, (eq_false (by omega) : ((7 : Int) < (s.length : Int)) = False)]
    · simp -implicitDefEqProofs [iParseNum_m, e1, e2, h1, h2, h3, h4, (eq_false (by omega) : ((7 : Int) < (s.length : Int)) = False)]
theorem valN_bd : ∀ (n : Nat) (s : List UInt8), s.length = n → valN s + 23 ≤ 23 * 10 ^ n
  | 0, s, h => by obtain rfl := List.eq_nil_of_length_eq_zero h; simp [valN]
  | n + 1, s, h => by
    rcases List.eq_nil_or_concat s with e | ⟨q, c, e⟩
    · subst e; simp at h
    · rw [List.concat_eq_append] at e
      subst e
      have := valN_bd n q (by simpa using h)
      have hc := c.toNat_lt
      rw [valN_snoc, Nat.pow_succ]
      omega
theorem valN_take (s : List UInt8) (i : Nat) (h : i ≤ 8) : valN (s.take i) ≤ 2300000000 := by
  have h1 := valN_bd _ (s.take i) rfl
  have h2 : 10 ^ (s.take i).length ≤ 10 ^ 8 := Nat.pow_le_pow_right (by decide) (by rw [List.length_take]; omega)
  omega
theorem sParseNum_ok (s : List UInt8) (most : Int) (h : s.length ≤ 1099511627776) : V sParseNum [.d (.s s), i6 most] [] = numR (parseB s most) := by
  rw [V_eq (fn := sParseNum_m) (by kernel_rfl)]
  have L := loop_firstI (X := V) (c := sParseNum_l0) (min s.length 8) (fun i => match s[i]? with | some b => !digB b | none => false) (fun i : Nat => ⟨[(7, i6 i), (6, i6 (valN (s.take i))), (1, i6 most), (0, .d (.s s))], []⟩) (fun _ => (.ret, ⟨[(5, .d (.b false)), (4, i6 0)], []⟩)) (.ex 0, ⟨[(6, i6 (valN (s.take (min s.length 8)))), (1, i6 most), (0, .d (.s s))], []⟩) (by simp) (by simp)
    (fun i hi => by
      have hi' : i < s.length := by omega
      have e := sl1Digit_ok s[i]
      have hb := valN_take s i (by omega)
      have hb2 := valN_take s (i + 1) (by omega)
      rw [take_snoc hi', valN_snoc] at hb2 ⊢
      rw [get_some hi']
      simp only
      generalize valN (s.take i) = v at hb hb2 ⊢
      rw [show (decide (48 ≤ s[i]) && decide (s[i] ≤ 57)) = digB s[i] from rfl] at e
      rcases Bool.eq_false_or_eq_true (digB s[i]) with hd | hd
      case inr =>
        rw [hd] at e
        simp -implicitDefEqProofs [sParseNum_l0, hd, hi', get_some hi', e, (eq_true (by omega) : ((i : Int) < 8) = True)]
      case inl =>
        rw [hd] at e
        have hd' := digB_iff.1 hd
        have hs : ((s[i] - 48).toNat : Int) = ((s[i].toNat - 48 : Nat) : Int) := by
          rw [UInt8.toNat_sub_of_le _ _ (UInt8.le_iff_toNat_le.2 (by simpa using hd'.1))]; rfl
        have w1 : IntKind.i64.wrap ((v : Int) * 10) = (v : Int) * 10 := wrI (by omega) (by omega)
        have w2 : IntKind.i64.wrap ((v : Int) * 10 + ((s[i].toNat - 48 : Nat) : Int)) = (v : Int) * 10 + ((s[i].toNat - 48 : Nat) : Int) := wrI (by omega) (by omega)
        have w3 : IntKind.i64.wrap ((s[i].toNat - 48 : Nat) : Int) = ((s[i].toNat - 48 : Nat) : Int) := wrI (by omega) (by omega)
        simp -implicitDefEqProofs [sParseNum_l0, hd, hi', get_some hi', e, (eq_true (by omega) : ((i : Int) < 8) = True), hs, w1, w2, w3, wrap_succ hi' (by omega)])
    (by
      rcases Nat.lt_or_ge s.length 8 with h8 | h8
      · rw [Nat.min_eq_left (by omega)]
        simp -implicitDefEqProofs [sParseNum_l0]
      · rw [Nat.min_eq_right h8]
        by_cases h9 : 8 < s.length
        · simp -implicitDefEqProofs [sParseNum_l0, h9, (eq_true (by omega) : ((8 : Int) < (s.length : Int)) = True)]
        · simp -implicitDefEqProofs [sParseNum_l0, h9, (eq_false (by omega) : ((8 : Int) < (s.length : Int)) = False)])
  simp only [Int.natCast_zero, List.take_zero, show valN [] = 0 from rfl] at L
  have e2 := sl1In_ok s.length 1 7
  rw [show (decide ((1 : Int) ≤ (s.length : Int)) && decide ((s.length : Int) ≤ 7)) = (decide (1 ≤ s.length) && decide (s.length ≤ 7)) from len_range s.length 1 7] at e2
  cases hf : firstI (min s.length 8) (fun i => match s[i]? with | some b => !digB b | none => false) with
  | some i =>
    rw [hf] at L
    simp only at L
    obtain ⟨h1, h2, _⟩ := firstI_some hf
    rw [get_some (by omega)] at h2
    have : s.all digB = false := by
      rw [Bool.eq_false_iff]
      intro e
      have := List.all_eq_true.1 e _ (List.getElem_mem (by omega : i < s.length))
      simp [this] at h2
    have hp : parseB s most = (0, false) := by unfold parseB; rw [this]; simp
    rw [hp]
    simp -implicitDefEqProofs [sParseNum_m, L]
  | none =>
    rw [hf] at L
    simp only at L
    rcases Nat.lt_or_ge 7 s.length with h8 | h8
    · have hp : parseB s most = (0, false) := by unfold parseB; rw [decide_eq_false (by omega : ¬ s.length ≤ 7)]; simp
      rw [hp]
      rw [decide_eq_false (by omega : ¬ s.length ≤ 7), Bool.and_false] at e2
      generalize valN (s.take (min s.length 8)) = v at L
      simp -implicitDefEqProofs [sParseNum_m, L, e2]
    · rw [Nat.min_eq_left (by omega), List.take_length] at L
      have hall : s.all digB = true := by
        rw [List.all_eq_true]
        intro b hb
        obtain ⟨i, hi, rfl⟩ := List.mem_iff_getElem.1 hb
        have := firstI_none hf i (by omega)
        rw [get_some hi] at this
        simpa using this
      rw [decide_eq_true h8, Bool.and_true] at e2
      unfold parseB
      rw [hall, decide_eq_true h8, Bool.and_true, Bool.and_true]
      cases s with
      | nil => simp -implicitDefEqProofs at e2; simp -implicitDefEqProofs [sParseNum_m, L, e2]
      | cons c r =>
        have h1 : decide (1 ≤ (c :: r).length) = true := by simp
        rw [h1] at e2 ⊢
        rw [Bool.true_and]
        generalize valN (c :: r) = v at L ⊢
        have h0 : (0 : Int) < (r.length : Int) + 1 := by omega
        simp only [List.head?_cons, Option.some.injEq, List.length_cons, Int.natCast_add, Int.natCast_one] at e2 L ⊢
        by_cases h2 : 1 < r.length + 1
        · by_cases h3 : c = 48
          · subst h3
            simp -implicitDefEqProofs [sParseNum_m, L, e2, h2, (eq_true (by omega) : ((1 : Int) < (r.length : Int) + 1) = True)]
          · by_cases h4 : most < v
            · have h5 : ((v : Int) ≤ most) = False := eq_false (by omega)
              simp -implicitDefEqProofs [sParseNum_m, L, e2, h2, h3, h4, h5, (eq_true (by omega) : ((1 : Int) < (r.length : Int) + 1) = True)]
            · have h5 : ((v : Int) ≤ most) = True := eq_true (by omega)
              simp -implicitDefEqProofs [sParseNum_m, L, e2, h2, h3, h4, h5, (eq_true (by omega) : ((1 : Int) < (r.length : Int) + 1) = True)]
        · by_cases h4 : most < v
          · have h5 : ((v : Int) ≤ most) = False := eq_false (by omega)
            simp -implicitDefEqProofs [sParseNum_m, L, e2, h2, h4, h5, (eq_false (by omega) : ((1 : Int) < (r.length : Int) + 1) = False)]
          · have h5 : ((v : Int) ≤ most) = True := eq_true (by omega)
            simp -implicitDefEqProofs [sParseNum_m, L, e2, h2, h4, h5, (eq_false (by omega) : ((1 : Int) < (r.length : Int) + 1) = False)]
def hendI (b : List UInt8) : Int := match idxN crlf2 (b.take 400) with | some k => (k : Int) + 4 | none => -1
theorem iHeadEnd_ok (b : List UInt8) (h : b.length ≤ 1099511627776) : V iHeadEnd [.d (.sl .u8 b)] [] = rI (hendI b) := by
  rw [V_eq (fn := iHeadEnd_m) (by kernel_rfl)]
  have hl : (b.take 400).length ≤ 400 := by rw [List.length_take]; omega
  have e := index_ok (b.take 400) [13, 10, 13, 10] (by omega)
  have key : b.take (min (b.length : Int) 400).toNat = b.take 400 := by
    rcases Nat.lt_or_ge b.length 400 with h1 | h1
    · rw [show (min (b.length : Int) 400).toNat = b.length by omega, List.take_length, List.take_of_length_le (by omega)]
    · rw [show (min (b.length : Int) 400).toNat = 400 by omega]
  unfold hendI
  unfold idxI at e
  cases hi : idxN [13, 10, 13, 10] (b.take 400) with
  | none =>
    rw [hi] at e
    simp -implicitDefEqProofs [iHeadEnd_m, key, e]
    omega
  | some k =>
    rw [hi] at e
    have := idxN_lt (by decide) hi
    simp at this
    simp -implicitDefEqProofs [iHeadEnd_m, key, e, (wrI (by omega) (by omega) : IntKind.i64.wrap ((k : Int) + 4) = (k : Int) + 4)]
    omega
theorem sHeadEnd_ok (b : List UInt8) (h : b.length ≤ 1099511627776) : V sHeadEnd [.d (.sl .u8 b)] [] = rI (hendI b) := by
  rw [V_eq (fn := sHeadEnd_m) (by kernel_rfl)]
  have hl : (b.take 400).length = min 400 b.length := List.length_take
  have L := loop_firstI (X := V) (c := sHeadEnd_l0) ((b.take 400).length + 1 - 4) (fun i => decide (((b.take 400).drop i).take 4 = crlf2)) (fun i : Nat => ⟨[(3, i6 i), (0, .d (.sl .u8 b))], []⟩) (fun i => (.ret, ⟨[(2, i6 ((i : Int) + 4))], []⟩)) (.ex 0, ⟨[], []⟩) (by simp) (by simp)
    (fun i hi => by
      have hk : ((b.take 400).drop i).take 4 = (b.drop i).take 4 := by
        rw [List.drop_take, List.take_take, Nat.min_eq_left (by omega)]
      rw [hk]
      have w3 : IntKind.i64.wrap ((i : Int) + 3) = (i : Int) + 3 := wrI (by omega) (by omega)
      have w4 : IntKind.i64.wrap ((i : Int) + 4) = (i : Int) + 4 := wrI (by omega) (by omega)
      have w1 : IntKind.i64.wrap ((i : Int) + 1) = (i : Int) + 1 := wrI (by omega) (by omega)
      have s1 : ((i : Int) + 4 - (i : Int)).toNat = 4 := by omega
      have s2 : ((i : Int) + 4).toNat - i = 4 := by omega
      have s3 : ((i : Int) + 4).toNat = i + 4 := by omega
      have hd : (b.take (i + 4)).drop i = (b.drop i).take 4 := by rw [List.drop_take]; simp
      by_cases hc : (b.drop i).take 4 = crlf2
      · simp -implicitDefEqProofs [sHeadEnd_l0, w3, w4, w1, s1, s2, s3, hd, hc, (eq_true (by omega) : ((i : Int) + 3 < (b.length : Int)) = True), (eq_true (by omega) : ((i : Int) + 3 < 400) = True), (eq_true (by omega) : ((i : Int) + 4 ≤ (b.length : Int)) = True), (eq_true (by omega) : ((i : Int) ≤ (i : Int) + 4) = True)]
      · simp -implicitDefEqProofs [sHeadEnd_l0, w3, w4, w1, s1, s2, s3, hd, hc, (eq_true (by omega) : ((i : Int) + 3 < (b.length : Int)) = True), (eq_true (by omega) : ((i : Int) + 3 < 400) = True), (eq_true (by omega) : ((i : Int) + 4 ≤ (b.length : Int)) = True), (eq_true (by omega) : ((i : Int) ≤ (i : Int) + 4) = True)])
    (by
      rw [hl]
      have w3 : IntKind.i64.wrap (((min 400 b.length + 1 - 4 : Nat) : Int) + 3) = ((min 400 b.length + 1 - 4 : Nat) : Int) + 3 := wrI (by omega) (by omega)
      generalize hn : min 400 b.length + 1 - 4 = n at w3 ⊢
      by_cases h1 : (n : Int) + 3 < (b.length : Int)
      · simp -implicitDefEqProofs [sHeadEnd_l0, w3, h1, (eq_false (by omega) : ((n : Int) + 3 < 400) = False)]
      · simp -implicitDefEqProofs [sHeadEnd_l0, w3, h1])
  simp only [Int.natCast_zero] at L
  unfold hendI
  rw [idxN_firstI (by decide), show crlf2.length = 4 from rfl]
  cases hi : firstI ((b.take 400).length + 1 - 4) (fun i => decide (((b.take 400).drop i).take 4 = crlf2)) with
  | none => rw [hi] at L; simp -implicitDefEqProofs [sHeadEnd_m, L]
  | some k => rw [hi] at L; simp -implicitDefEqProofs [sHeadEnd_m, L]
abbrev strsR (l : List (List UInt8)) : Option (List (Option Ob) × RV) := some ([], .one (.own (.sl .str l)))
theorem piece_snoc {s : List UInt8} {f i : Nat} (hf : f ≤ i) (hi : i < s.length) : (s.take (i + 1)).drop f = (s.take i).drop f ++ [s[i]] := by
  rw [take_snoc hi, List.drop_append_of_le_length (by rw [List.length_take]; omega)]
theorem piece_nil {s : List UInt8} {i : Nat} : (s.take i).drop i = [] := List.drop_of_length_le (by rw [List.length_take]; omega)
def spR (c : UInt8) (s : List UInt8) (i f : Nat) (o : List (List UInt8)) : List (List UInt8) := if i ≤ s.length then o ++ ((s.take i).drop f ++ (splC c (s.drop i)).1) :: (splC c (s.drop i)).2 else o
theorem sl2Split_ok (s : List UInt8) (c : UInt8) (h : s.length ≤ 1099511627776) : V sl2Split [.d (.s s), .d (.u c)] [] = strsR (splitC c s) := by
  rw [V_eq (fn := sl2Split_m) (by kernel_rfl)]
  have L := loop_rec (X := V) (c := sl2Split_l0) (fun a : Nat × Nat × List (List UInt8) => ⟨[(7, i6 a.1), (6, i6 a.2.1), (5, .h 69 0 a.2.2.length), (1, .d (.u c)), (0, .d (.s s))], [(69, .ls .str false a.2.2 0 [])]⟩)
    (fun a => some (.ex 0, ⟨[(5, .h 69 0 (spR c s a.1 a.2.1 a.2.2).length)], [(69, .ls .str false (spR c s a.1 a.2.1 a.2.2) 0 [])]⟩)) (fun a => s.length + 1 - a.1) (fun a => a.2.1 ≤ a.1 ∧ a.1 ≤ s.length + 1 ∧ a.2.2.length ≤ a.1) (fun a ha => by
      obtain ⟨i, f, o⟩ := a
      simp only at ha ⊢
      obtain ⟨h1, h2, h3⟩ := ha
      have w1 : IntKind.i64.wrap ((i : Int) + 1) = (i : Int) + 1 := wrI (by omega) (by omega)
      rcases Nat.lt_or_ge s.length i with g1 | g1
      · refine .inr ⟨_, by simp, ?_, rfl⟩
        unfold spR
        rw [if_neg (by omega)]
        simp -implicitDefEqProofs [sl2Split_l0, (eq_false (by omega) : ((i : Int) ≤ (s.length : Int)) = False)]
      · have g1' : ((i : Int) ≤ (s.length : Int)) = True := eq_true (by omega)
        rcases Nat.eq_or_lt_of_le g1 with g2 | g2
        · subst g2
          refine .inl ⟨(s.length + 1, s.length + 1, o ++ [s.drop f]), ?_, by simp only [List.length_append, List.length_cons, List.length_nil]; omega, by simp only; omega, ?_⟩
          · simp -implicitDefEqProofs [sl2Split_l0, w1, h1, take_snoc_all rfl]
            first | omega | (refine ⟨by omega, ?_⟩; first | rw [List.drop_take] | exact List.take_of_length_le (by simp))
          · unfold spR
            simp only
            rw [if_neg (by omega), if_pos (by omega), show s.drop s.length = [] by simp]
            simp [splC]
        · have g2' : ((i : Int) = (s.length : Int)) = False := eq_false (by omega)
          by_cases hc : s[i] = c
          · refine .inl ⟨(i + 1, i + 1, o ++ [(s.take i).drop f]), ?_, by simp only [List.length_append, List.length_cons, List.length_nil]; omega, by simp only; omega, ?_⟩
            · simp -implicitDefEqProofs [sl2Split_l0, g1', g2, g2', get_some g2, hc, w1, h1, take_snoc_all rfl]
              first | omega | (refine ⟨by omega, ?_⟩; first | rw [List.drop_take] | exact List.take_of_length_le (by simp))
            · unfold spR
              simp only
              rw [if_pos (by omega), if_pos (by omega), drop_cons g2, splC, if_pos hc, piece_nil]
              simp
          · refine .inl ⟨(i + 1, f, o), ?_, by simp only; omega, by simp only; omega, ?_⟩
            · simp -implicitDefEqProofs [sl2Split_l0, g1', g2, g2', get_some g2, hc, w1, h1]
            · unfold spR
              simp only
              rw [if_pos (by omega), if_pos (by omega), drop_cons g2, splC, if_neg hc, piece_snoc h1 g2]
              simp) (0, 0, []) ⟨Nat.le_refl _, by omega, by simp⟩
  have e : spR c s 0 0 [] = splitC c s := by simp [spR, splitC]
  simp only [e, Int.natCast_zero, List.length_nil] at L
  simp -implicitDefEqProofs [sl2Split_m, L, take_all rfl]
theorem lnC_step {b : UInt8} {x : List UInt8} (h : ¬ (b = 13 ∧ x.head? = some 10)) : lnC (b :: x) = (b :: (lnC x).1, (lnC x).2) := by
  cases x with
  | nil => rfl
  | cons d r => rw [lnC, if_neg (by simpa using h)]
def lnR (s : List UInt8) (i f : Nat) (o : List (List UInt8)) : List (List UInt8) := if i ≤ s.length then o ++ ((s.take i).drop f ++ (lnC (s.drop i)).1) :: (lnC (s.drop i)).2 else o
theorem sl3Lines_ok (s : List UInt8) (h : s.length ≤ 1099511627776) : V sl3Lines [.d (.s s)] [] = strsR (linesB s) := by
  rw [V_eq (fn := sl3Lines_m) (by kernel_rfl)]
  have L := loop_rec (X := V) (c := sl3Lines_l0) (fun a : Nat × Nat × List (List UInt8) => ⟨[(5, i6 a.1), (4, i6 a.2.1), (3, .h 67 0 a.2.2.length), (0, .d (.s s))], [(67, .ls .str false a.2.2 0 [])]⟩)
    (fun a => some (.ex 0, ⟨[(3, .h 67 0 (lnR s a.1 a.2.1 a.2.2).length)], [(67, .ls .str false (lnR s a.1 a.2.1 a.2.2) 0 [])]⟩)) (fun a => s.length + 1 - a.1) (fun a => a.2.1 ≤ s.length ∧ (a.1 ≤ s.length → a.2.1 ≤ a.1) ∧ a.1 ≤ s.length + 1 ∧ a.2.2.length ≤ a.1) (fun a ha => by
      obtain ⟨i, f, o⟩ := a
      simp only at ha ⊢
      obtain ⟨h0, h1, h2, h3⟩ := ha
      have w1 : IntKind.i64.wrap ((i : Int) + 1) = (i : Int) + 1 := wrI (by omega) (by omega)
      have w2 : IntKind.i64.wrap ((i : Int) + 2) = (i : Int) + 2 := wrI (by omega) (by omega)
      have w3 : IntKind.i64.wrap ((i : Int) + 1 + 1) = (i : Int) + 2 := by rw [show (i : Int) + 1 + 1 = (i : Int) + 2 by omega]; exact w2
      have n1 : ((i : Int) + 1).toNat = i + 1 := by omega
      have n0 : (0 : Int) ≤ (i : Int) + 1 := by omega
      rcases Nat.lt_or_ge s.length i with g1 | g1
      · refine .inr ⟨_, by simp, ?_, rfl⟩
        unfold lnR
        rw [if_neg (by omega)]
        simp -implicitDefEqProofs [sl3Lines_l0, (eq_false (by omega) : ((i : Int) ≤ (s.length : Int)) = False)]
      · have hfi := h1 g1
        have g1' : ((i : Int) ≤ (s.length : Int)) = True := eq_true (by omega)
        rcases Nat.eq_or_lt_of_le g1 with g2 | g2
        · subst g2
          refine .inl ⟨(s.length + 1, f, o ++ [s.drop f]), ?_, by simp only [List.length_append, List.length_cons, List.length_nil]; omega, by simp only; omega, ?_⟩
          · simp -implicitDefEqProofs [sl3Lines_l0, w1, h0, take_snoc_all rfl]
            first | omega | (refine ⟨by omega, ?_⟩; first | rw [List.drop_take] | exact List.take_of_length_le (by simp))
          · unfold lnR
            simp only
            rw [if_neg (by omega), if_pos (by omega), show s.drop s.length = [] by simp, show s.take s.length = s by simp]
            simp [lnC]
        · have g2' : ((i : Int) = (s.length : Int)) = False := eq_false (by omega)
          by_cases hc : s[i] = 13 ∧ (s.drop (i + 1)).head? = some 10
          · obtain ⟨c1, c2⟩ := hc
            have g3 : i + 1 < s.length := by
              rcases Nat.lt_or_ge (i + 1) s.length with q | q
              · exact q
              · rw [List.drop_of_length_le q] at c2; cases c2
            rw [drop_cons g3, List.head?_cons, Option.some.injEq] at c2
            refine .inl ⟨(i + 2, i + 2, o ++ [(s.take i).drop f]), ?_, by simp only [List.length_append, List.length_cons, List.length_nil]; omega, by simp only; omega, ?_⟩
            · simp -implicitDefEqProofs [sl3Lines_l0, g1', g2, g2', get_some g2, get_some g3, n1, c1, c2, w1, w2, w3, n0, hfi, take_snoc_all rfl, (eq_true (by omega) : ((i : Int) + 1 < (s.length : Int)) = True)]
              first | omega | (refine ⟨by omega, ?_⟩; first | rw [List.drop_take] | exact List.take_of_length_le (by simp))
            · unfold lnR
              simp only
              rw [if_pos (by omega), if_pos (by omega), drop_cons g2, drop_cons g3, lnC, if_pos ⟨c1, c2⟩, piece_nil]
              simp
          · refine .inl ⟨(i + 1, f, o), ?_, by simp only; omega, by simp only; omega, ?_⟩
            · by_cases c1 : s[i] = 13
              · rcases Nat.lt_or_ge (i + 1) s.length with g3 | g3
                · have c2 : s[i + 1] ≠ 10 := fun e => hc ⟨c1, by rw [drop_cons g3, e]; rfl⟩
                  simp -implicitDefEqProofs [sl3Lines_l0, g1', g2, g2', get_some g2, get_some g3, n1, c1, c2, w1, n0, (eq_true (by omega) : ((i : Int) + 1 < (s.length : Int)) = True)]
                · simp -implicitDefEqProofs [sl3Lines_l0, g1', g2, g2', get_some g2, c1, w1, (eq_false (by omega) : ((i : Int) + 1 < (s.length : Int)) = False)]
              · rcases Nat.lt_or_ge (i + 1) s.length with g3 | g3
                · simp -implicitDefEqProofs [sl3Lines_l0, g1', g2, g2', get_some g2, c1, w1, (eq_true (by omega) : ((i : Int) + 1 < (s.length : Int)) = True)]
                · simp -implicitDefEqProofs [sl3Lines_l0, g1', g2, g2', get_some g2, c1, w1, (eq_false (by omega) : ((i : Int) + 1 < (s.length : Int)) = False)]
            · unfold lnR
              simp only
              rw [if_pos (by omega), if_pos (by omega), drop_cons g2, lnC_step hc, piece_snoc hfi g2]
              simp) (0, 0, []) ⟨Nat.zero_le _, fun _ => Nat.zero_le _, Nat.zero_le _, Nat.zero_le _⟩
  have e : lnR s 0 0 [] = linesB s := by simp [lnR, linesB]
  simp only [e, Int.natCast_zero, List.length_nil] at L
  simp -implicitDefEqProofs [sl3Lines_m, L, take_all rfl]
end Go.Proofs.YtniakiefibpgmaaGreatDoorK
