/- What the functions come to. -/
import Derived.Test.YtniakiefibpgmaaGreatDoorF3
set_option linter.unusedVariables false
set_option linter.unusedSimpArgs false
namespace Go.Proofs.YtniakiefibpgmaaGreatDoorK
open Go.RowKit
theorem idxN_lt {sep : List UInt8} (hs : sep ≠ []) : ∀ {s : List UInt8} {i : Nat}, idxN sep s = some i → i + sep.length ≤ s.length
  | [], i, h => by
    cases sep with
    | nil => exact absurd rfl hs
    | cons a q => simp [idxN] at h
  | b :: l, i, h => by
    unfold idxN at h
    split at h
    · rename_i hp
      obtain rfl := Option.some.inj h
      have := (List.isPrefixOf_iff_prefix.1 hp).length_le
      omega
    · obtain ⟨j, hj, rfl⟩ := Option.map_eq_some_iff.1 h
      have := idxN_lt hs hj
      simp only [List.length_cons]; omega
theorem pre_take {sep s : List UInt8} : sep.isPrefixOf s = true ↔ s.take sep.length = sep := by
  rw [List.isPrefixOf_iff_prefix, List.prefix_iff_eq_take, eq_comm]
theorem idxN_some {sep : List UInt8} (hs : sep ≠ []) : ∀ {s : List UInt8} {i : Nat}, idxN sep s = some i → (s.drop i).take sep.length = sep ∧ ∀ j, j < i → (s.drop j).take sep.length ≠ sep
  | [], i, h => by
    cases sep with
    | nil => exact absurd rfl hs
    | cons a q => simp [idxN] at h
  | b :: l, i, h => by
    unfold idxN at h
    split at h
    · rename_i hp
      obtain rfl := Option.some.inj h
      exact ⟨pre_take.1 hp, fun j hj => by omega⟩
    · rename_i hp
      obtain ⟨j, hj, rfl⟩ := Option.map_eq_some_iff.1 h
      obtain ⟨h1, h2⟩ := idxN_some hs hj
      refine ⟨by simpa using h1, fun x hx => ?_⟩
      cases x with
      | zero => exact fun e => hp (pre_take.2 (by simpa using e))
      | succ x => simpa using h2 x (by omega)
theorem idxN_none {sep : List UInt8} (hs : sep ≠ []) : ∀ {s : List UInt8}, idxN sep s = none → ∀ j, (s.drop j).take sep.length ≠ sep
  | [], h, j => by simpa using hs
  | b :: l, h, j => by
    unfold idxN at h
    split at h
    · cases h
    · rename_i hp
      have h' : idxN sep l = none := by simpa using h
      cases j with
      | zero => exact fun e => hp (pre_take.2 (by simpa using e))
      | succ x => simpa using idxN_none hs h' x
theorem idxN_firstI {sep : List UInt8} (hs : sep ≠ []) (s : List UInt8) : idxN sep s = firstI (s.length + 1 - sep.length) (fun i => decide ((s.drop i).take sep.length = sep)) := by
  cases h : idxN sep s with
  | none => exact (firstI_of fun i hi => by simpa using idxN_none hs h i).symm
  | some i =>
    obtain ⟨h1, h2⟩ := idxN_some hs h
    have := idxN_lt hs h
    exact (firstI_eq (by omega) (by simpa using h1) fun j hj => by simpa using h2 j hj).symm
theorem idxN_one (c : UInt8) : ∀ s : List UInt8, idxN [c] s = s.findIdx? (· == c)
  | [] => rfl
  | b :: l => by
    rw [List.findIdx?_cons, ← idxN_one c l, idxN, show ([c] : List UInt8).isPrefixOf (b :: l) = (b == c) by simp [List.isPrefixOf, Bool.beq_comm]]
theorem idxN_cons1 (c b : UInt8) (l : List UInt8) : idxN [c] (b :: l) = if b = c then some 0 else (idxN [c] l).map (· + 1) := by
  rw [idxN_one, idxN_one, List.findIdx?_cons]
  by_cases h : b = c
  · simp [h]
  · simp [h]
theorem splC_none (c : UInt8) : ∀ s : List UInt8, idxN [c] s = none → splC c s = (s, [])
  | [], _ => rfl
  | b :: l, h => by
    rw [idxN_cons1] at h
    split at h
    · cases h
    · rename_i hb
      unfold splC
      rw [if_neg hb, splC_none c l (by simpa using h)]
theorem splC_some (c : UInt8) : ∀ (s : List UInt8) (i : Nat), idxN [c] s = some i → splC c s = (s.take i, splitC c (s.drop (i + 1)))
  | [], i, h => by simp [idxN] at h
  | b :: l, i, h => by
    rw [idxN_cons1] at h
    unfold splC
    split at h
    · rename_i hb
      obtain rfl := Option.some.inj h
      rw [if_pos hb]; rfl
    · rename_i hb
      obtain ⟨j, hj, rfl⟩ := Option.map_eq_some_iff.1 h
      rw [if_neg hb, splC_some c l j hj]
      simp
theorem idxN_cons2 (b d : UInt8) (r : List UInt8) : idxN crlf (b :: d :: r) = if b = 13 ∧ d = 10 then some 0 else (idxN crlf (d :: r)).map (· + 1) := by
  rw [idxN]
  by_cases h : b = 13 ∧ d = 10
  · rw [if_pos h, if_pos (by obtain ⟨rfl, rfl⟩ := h; rfl)]
  · rw [if_neg h, if_neg (by simp [List.isPrefixOf]; exact fun e e' => h ⟨e.symm, e'.symm⟩)]
theorem lnC_none : ∀ s : List UInt8, idxN crlf s = none → lnC s = (s, [])
  | [], _ => rfl
  | [b], _ => rfl
  | b :: d :: r, h => by
    rw [idxN_cons2] at h
    split at h
    · cases h
    · rename_i hb
      rw [lnC, if_neg hb, lnC_none (d :: r) (by simpa using h)]
theorem lnC_some : ∀ (s : List UInt8) (i : Nat), idxN crlf s = some i → lnC s = (s.take i, linesB (s.drop (i + 2)))
  | [], i, h => by simp [idxN] at h
  | [b], i, h => by simp [idxN, List.isPrefixOf] at h
  | b :: d :: r, i, h => by
    rw [idxN_cons2] at h
    split at h
    · rename_i hb
      obtain rfl := Option.some.inj h
      rw [lnC, if_pos hb]; rfl
    · rename_i hb
      obtain ⟨j, hj, rfl⟩ := Option.map_eq_some_iff.1 h
      rw [lnC, if_neg hb, lnC_some (d :: r) j hj]
      simp
/-- Numbers. -/
def digB (b : UInt8) : Bool := decide (48 ≤ b) && decide (b ≤ 57)
def valN (s : List UInt8) : Nat := s.foldl (fun n b => n * 10 + (b.toNat - 48)) 0
def parseB (s : List UInt8) (most : Int) : Int × Bool := if ((decide (1 ≤ s.length) && decide (s.length ≤ 7)) && s.all digB && !(decide (1 < s.length) && decide (s.head? = some 48)) && decide ((valN s : Int) ≤ most)) = true then ((valN s : Int), true) else (0, false)
theorem digB_iff {b : UInt8} : digB b = true ↔ 48 ≤ b.toNat ∧ b.toNat ≤ 57 := by
  simp [digB, UInt8.le_iff_toNat_le]
theorem valN_snoc (s : List UInt8) (b : UInt8) : valN (s ++ [b]) = valN s * 10 + (b.toNat - 48) := by simp [valN]
theorem valN_lt : ∀ (n : Nat) (s : List UInt8), s.length = n → s.all digB = true → valN s < 10 ^ n
  | 0, s, h, _ => by obtain rfl := List.eq_nil_of_length_eq_zero h; simp [valN]
  | n + 1, s, h, hd => by
    rcases List.eq_nil_or_concat s with e | ⟨q, c, e⟩
    · subst e; simp at h
    · rw [List.concat_eq_append] at e
      subst e
      rw [List.all_append] at hd
      simp only [List.all_cons, List.all_nil, Bool.and_true, Bool.and_eq_true] at hd
      have := valN_lt n q (by simpa using h) hd.1
      have h2 := digB_iff.1 hd.2
      rw [valN_snoc, Nat.pow_succ]
      omega
theorem dec_head : ∀ (n k : Nat), k < 10 ^ (n + 1) → 0 < k → (Lib.decDigits k).head? ≠ some 48
  | 0, k, h, h0 => by
    rw [decB_small (by simpa using h)]
    simp only [List.head?_cons, ne_eq, Option.some.injEq]
    intro e
    have := congrArg UInt8.toNat e
    simp only [UInt8.toNat_ofNat'] at this
    have h' : k < 10 := by simpa using h
    simp at this
    omega
  | n + 1, k, h, h0 => by
    by_cases h1 : k < 10
    · rw [decB_small h1]
      simp only [List.head?_cons, ne_eq, Option.some.injEq]
      intro e
      have := congrArg UInt8.toNat e
      simp only [UInt8.toNat_ofNat'] at this
      simp at this
      omega
    · rw [decB_big h1]
      have ih := dec_head n (k / 10) (by rw [Nat.pow_succ] at h; omega) (by omega)
      rw [List.head?_append]
      cases hq : (Lib.decDigits (k / 10)).head? with
      | none => exact absurd (List.head?_eq_none_iff.1 hq) (by rw [Lib.decDigits]; split <;> simp)
      | some x => rw [hq] at ih; simpa using ih
theorem dec_dig : ∀ (n k : Nat), k < 10 ^ (n + 1) → (Lib.decDigits k).all digB = true ∧ valN (Lib.decDigits k) = k ∧ 1 ≤ (Lib.decDigits k).length
  | 0, k, h => by
    have h' : k < 10 := by simpa using h
    rw [decB_small h']
    have e : (UInt8.ofNat (48 + k)).toNat = 48 + k := by simp; omega
    refine ⟨?_, ?_, by simp⟩
    · simp only [List.all_cons, List.all_nil, Bool.and_true]; exact digB_iff.2 (by omega)
    · simp only [valN, List.foldl_cons, List.foldl_nil]; omega
  | n + 1, k, h => by
    by_cases h1 : k < 10
    · rw [decB_small h1]
      have e : (UInt8.ofNat (48 + k)).toNat = 48 + k := by simp; omega
      refine ⟨?_, ?_, by simp⟩
      · simp only [List.all_cons, List.all_nil, Bool.and_true]; exact digB_iff.2 (by omega)
      · simp only [valN, List.foldl_cons, List.foldl_nil]; omega
    · rw [decB_big h1]
      obtain ⟨i1, i2, i3⟩ := dec_dig n (k / 10) (by rw [Nat.pow_succ] at h; omega)
      have e : (UInt8.ofNat (48 + k % 10)).toNat = 48 + k % 10 := by simp; omega
      refine ⟨?_, ?_, by simp⟩
      · rw [List.all_append, i1]; simp only [List.all_cons, List.all_nil, Bool.and_true, Bool.true_and]; exact digB_iff.2 (by omega)
      · rw [valN_snoc, i2]; omega
/-- A text of digits without a nought ahead is the numeral of its worth. -/
theorem dec_val : ∀ (n : Nat) (s : List UInt8), s.length = n + 1 → s.all digB = true → (1 < s.length → s.head? ≠ some 48) → Lib.decDigits (valN s) = s
  | 0, s, h, hd, _ => by
    match s, h with
    | [b], _ =>
      have := digB_iff.1 (by simpa using hd)
      rw [show valN [b] = b.toNat - 48 by simp [valN], decB_small (by omega), show 48 + (b.toNat - 48) = b.toNat by omega]
      simp
  | n + 1, s, h, hd, hz => by
    rcases List.eq_nil_or_concat s with e | ⟨q, c, e⟩
    · subst e; simp at h
    · rw [List.concat_eq_append] at e
      subst e
      have hq : q.length = n + 1 := by simpa using h
      rw [List.all_append] at hd
      simp only [List.all_cons, List.all_nil, Bool.and_true, Bool.and_eq_true] at hd
      have h2 := digB_iff.1 hd.2
      match q, hq with
      | a :: q', hq =>
        have ha : a ≠ 48 := by simpa using hz (by simp)
        have ih := dec_val n (a :: q') hq hd.1 (fun _ => by simpa using ha)
        have hpos : 0 < valN (a :: q') := by
          rcases Nat.eq_zero_or_pos (valN (a :: q')) with e0 | e0
          · rw [e0, decB_small (by omega)] at ih
            exact absurd ((List.cons.inj ih).1.symm) (by simpa using ha)
          · exact e0
        rw [valN_snoc, decB_big (by omega), show (valN (a :: q') * 10 + (c.toNat - 48)) / 10 = valN (a :: q') by omega, ih, show 48 + (valN (a :: q') * 10 + (c.toNat - 48)) % 10 = c.toNat by omega]
        simp
/-- What Atoi reads of digits. -/
theorem atoi_dig : ∀ (s : List UInt8) (acc : Nat), s.all digB = true → (acc + 1) * 10 ^ s.length ≤ 100000000 → Lib.parseUint10 acc s = .ok (s.foldl (fun n b => n * 10 + (b.toNat - 48)) acc)
  | [], acc, _, _ => rfl
  | b :: r, acc, hd, hb => by
    simp only [List.all_cons, Bool.and_eq_true] at hd
    have h2 := digB_iff.1 hd.1
    have hp : 1 ≤ 10 ^ r.length := Nat.one_le_pow _ _ (by decide)
    rw [List.length_cons, Nat.pow_succ] at hb
    have h3 : (acc + 1) * 10 ≤ 100000000 := by
      have : (acc + 1) * 10 * 1 ≤ (acc + 1) * 10 * 10 ^ r.length := Nat.mul_le_mul_left _ hp
      have e : (acc + 1) * (10 ^ r.length * 10) = (acc + 1) * 10 * 10 ^ r.length := by rw [Nat.mul_comm (10 ^ r.length) 10, Nat.mul_assoc]
      omega
    rw [Lib.parseUint10, if_pos h2, if_neg (by omega), if_neg (by omega)]
    rw [atoi_dig r _ hd.2 (by
      have e : (acc + 1) * (10 ^ r.length * 10) = (acc + 1) * 10 * 10 ^ r.length := by rw [Nat.mul_comm (10 ^ r.length) 10, Nat.mul_assoc]
      have : (acc * 10 + (b.toNat - 48) + 1) * 10 ^ r.length ≤ (acc + 1) * 10 * 10 ^ r.length := Nat.mul_le_mul_right _ (by omega)
      omega)]
    rfl
/-- A number that is read by Atoi and is written so is read by digits; and the other way about. -/
theorem parse_law (s : List UInt8) (most : Int) : (match Lib.atoiAll s with
    | .ok n => if n < 0 ∨ most < n ∨ 7 < s.length ∨ numB n ≠ s then ((0, false) : Int × Bool) else (n, true)
    | _ => (0, false)) = parseB s most := by
  by_cases hc : ((decide (1 ≤ s.length) && decide (s.length ≤ 7)) && s.all digB && !(decide (1 < s.length) && decide (s.head? = some 48))) = true
  · have hc' := hc
    simp only [Bool.and_eq_true, decide_eq_true_eq, Bool.not_eq_true', Bool.and_eq_false_iff, decide_eq_false_iff_not] at hc'
    obtain ⟨⟨⟨h1, h7⟩, hd⟩, hz⟩ := hc'
    have hl := valN_lt _ s rfl hd
    have hb : valN s < 10000000 := Nat.lt_of_lt_of_le hl (Nat.pow_le_pow_right (by decide) h7)
    have hv := dec_val (s.length - 1) s (by omega) hd (fun h => hz.resolve_left (by omega))
    match s, h1 with
    | c :: r, _ =>
      have hcd := digB_iff.1 (by simpa using (List.all_eq_true.1 hd c (List.mem_cons_self ..)))
      have ha : Lib.atoiAll (c :: r) = .ok (valN (c :: r) : Int) := by
        unfold Lib.atoiAll
        simp only
        rw [if_neg (by omega)]
        unfold Lib.parseMag
        rw [if_neg (by simp), atoi_dig (c :: r) 0 hd (by
          have : 10 ^ (c :: r).length ≤ 10 ^ 7 := Nat.pow_le_pow_right (by decide) h7
          omega)]
        simp only
        rw [show List.foldl (fun n (b : UInt8) => n * 10 + (b.toNat - 48)) 0 (c :: r) = valN (c :: r) from rfl]
        rw [if_neg (by omega), if_neg (by omega), if_neg (by omega)]
      rw [ha]
      simp only
      unfold parseB
      rw [hc, Bool.true_and]
      have hn : numB (valN (c :: r) : Int) = c :: r := by unfold numB; rw [Int.toNat_natCast]; exact hv
      by_cases hm : (valN (c :: r) : Int) ≤ most
      · rw [if_neg (by rw [hn]; intro h; rcases h with h | h | h | h
                       · omega
                       · omega
                       · omega
                       · exact h rfl), if_pos (by simpa using hm)]
      · rw [if_pos (by right; left; omega), if_neg (by simpa using hm)]
  · have hp : parseB s most = (0, false) := by
      unfold parseB
      rw [if_neg (by rw [Bool.eq_false_iff.2 hc]; simp)]
    rw [hp]
    split
    · rename_i n hn
      split
      · rfl
      · rename_i h
        refine absurd ?_ hc
        have h0 : ¬ n < 0 := fun e => h (.inl e)
        have h7 : ¬ 7 < s.length := fun e => h (.inr (.inr (.inl e)))
        have hs : numB n = s := Classical.byContradiction fun e => h (.inr (.inr (.inr e)))
        unfold numB at hs
        have hk : n.toNat < 10 ^ (n.toNat + 1) := Nat.lt_trans (Nat.lt_succ_self _) (Nat.lt_pow_self (by decide))
        obtain ⟨d1, d2, d3⟩ := dec_dig n.toNat n.toNat hk
        rw [hs] at d1 d2 d3
        have d4 : 1 < s.length → s.head? ≠ some 48 := fun hl => by
          rw [← hs]
          refine dec_head n.toNat n.toNat hk (Nat.pos_of_ne_zero fun e => ?_)
          rw [e, decB_small (by decide)] at hs
          rw [← hs] at hl
          simp at hl
        simp only [Bool.and_eq_true, decide_eq_true_eq, Bool.not_eq_true', Bool.and_eq_false_iff, decide_eq_false_iff_not]
        refine ⟨⟨⟨d3, by omega⟩, d1⟩, ?_⟩
        by_cases hl : 1 < s.length
        · exact .inr (d4 hl)
        · exact .inl hl
    · rfl
end Go.Proofs.YtniakiefibpgmaaGreatDoorK
