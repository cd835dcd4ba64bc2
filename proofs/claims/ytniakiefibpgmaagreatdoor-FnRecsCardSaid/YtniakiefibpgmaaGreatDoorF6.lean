/- What the functions come to. -/
import Derived.Test.YtniakiefibpgmaaGreatDoorF5
set_option linter.unusedVariables false
set_option linter.unusedSimpArgs false
namespace Go.Proofs.YtniakiefibpgmaaGreatDoorK
open Go.RowKit
theorem idxN_lt {sep : List UInt8} (hs : sep ≠ []) : ∀ {s : List UInt8} {i : Nat}, idxN sep s = some i → i + sep.length ≤ s.length
  | [], i, h => by
    cases sep with
    | nil => exact absurd rfl hs
    | cons a q => simp [idxN] at h
  | b :: l, i, h => by
    unfold idxN at h
    split at h
    · rename_i hp
      obtain rfl := Option.some.inj h
      have := (List.isPrefixOf_iff_prefix.1 hp).length_le
      omega
    · obtain ⟨j, hj, rfl⟩ := Option.map_eq_some_iff.1 h
      have := idxN_lt hs hj
      simp only [List.length_cons]; omega
theorem pre_take {sep s : List UInt8} : sep.isPrefixOf s = true ↔ s.take sep.length = sep := by
  rw [List.isPrefixOf_iff_prefix, List.prefix_iff_eq_take, eq_comm]
theorem idxN_some {sep : List UInt8} (hs : sep ≠ []) : ∀ {s : List UInt8} {i : Nat}, idxN sep s = some i → (s.drop i).take sep.length = sep ∧ ∀ j, j < i → (s.drop j).take sep.length ≠ sep
  | [], i, h => by
    cases sep with
    | nil => exact absurd rfl hs
    | cons a q => simp [idxN] at h
  | b :: l, i, h => by
    unfold idxN at h
    split at h
    · rename_i hp
      obtain rfl := Option.some.inj h
      exact ⟨pre_take.1 hp, fun j hj => by omega⟩
    · rename_i hp
      obtain ⟨j, hj, rfl⟩ := Option.map_eq_some_iff.1 h
      obtain ⟨h1, h2⟩ := idxN_some hs hj
      refine ⟨by simpa using h1, fun x hx => ?_⟩
      cases x with
      | zero => exact fun e => hp (pre_take.2 (by simpa using e))
      | succ x => simpa using h2 x (by omega)
theorem idxN_none {sep : List UInt8} (hs : sep ≠ []) : ∀ {s : List UInt8}, idxN sep s = none → ∀ j, (s.drop j).take sep.length ≠ sep
  | [], h, j => by simpa using hs
  | b :: l, h, j => by
    unfold idxN at h
    split at h
    · cases h
    · rename_i hp
      have h' : idxN sep l = none := by simpa using h
      cases j with
      | zero => exact fun e => hp (pre_take.2 (by simpa using e))
      | succ x => simpa using idxN_none hs h' x
theorem idxN_firstI {sep : List UInt8} (hs : sep ≠ []) (s : List UInt8) : idxN sep s = firstI (s.length + 1 - sep.length) (fun i => decide ((s.drop i).take sep.length = sep)) := by
  cases h : idxN sep s with
  | none => exact (firstI_of fun i hi => by simpa using idxN_none hs h i).symm
  | some i =>
    obtain ⟨h1, h2⟩ := idxN_some hs h
    have := idxN_lt hs h
    exact (firstI_eq (by omega) (by simpa using h1) fun j hj => by simpa using h2 j hj).symm
theorem idxN_one (c : UInt8) : ∀ s : List UInt8, idxN [c] s = s.findIdx? (· == c)
  | [] => rfl
  | b :: l => by
    rw [List.findIdx?_cons, ← idxN_one c l, idxN, show ([c] : List UInt8).isPrefixOf (b :: l) = (b == c) by simp [List.isPrefixOf, Bool.beq_comm]]
theorem idxN_cons1 (c b : UInt8) (l : List UInt8) : idxN [c] (b :: l) = if b = c then some 0 else (idxN [c] l).map (· + 1) := by
  rw [idxN_one, idxN_one, List.findIdx?_cons]
  by_cases h : b = c
  · simp [h]
  · simp [h]
theorem splC_none (c : UInt8) : ∀ s : List UInt8, idxN [c] s = none → splC c s = (s, [])
  | [], _ => rfl
  | b :: l, h => by
    rw [idxN_cons1] at h
    split at h
    · cases h
    · rename_i hb
      unfold splC
      rw [if_neg hb, splC_none c l (by simpa using h)]
theorem splC_some (c : UInt8) : ∀ (s : List UInt8) (i : Nat), idxN [c] s = some i → splC c s = (s.take i, splitC c (s.drop (i + 1)))
  | [], i, h => by simp [idxN] at h
  | b :: l, i, h => by
    rw [idxN_cons1] at h
    unfold splC
    split at h
    · rename_i hb
      obtain rfl := Option.some.inj h
      rw [if_pos hb]; rfl
    · rename_i hb
      obtain ⟨j, hj, rfl⟩ := Option.map_eq_some_iff.1 h
      rw [if_neg hb, splC_some c l j hj]
      simp
theorem idxN_cons2 (b d : UInt8) (r : List UInt8) : idxN crlf (b :: d :: r) = if b = 13 ∧ d = 10 then some 0 else (idxN crlf (d :: r)).map (· + 1) := by
  rw [idxN]
  by_cases h : b = 13 ∧ d = 10
  · rw [if_pos h, if_pos (by obtain ⟨rfl, rfl⟩ := h; rfl)]
  · rw [if_neg h, if_neg (by simp [List.isPrefixOf]; exact fun e e' => h ⟨e.symm, e'.symm⟩)]
theorem lnC_none : ∀ s : List UInt8, idxN crlf s = none → lnC s = (s, [])
  | [], _ => rfl
  | [b], _ => rfl
  | b :: d :: r, h => by
    rw [idxN_cons2] at h
    split at h
    · cases h
    · rename_i hb
      rw [lnC, if_neg hb, lnC_none (d :: r) (by simpa using h)]
theorem lnC_some : ∀ (s : List UInt8) (i : Nat), idxN crlf s = some i → lnC s = (s.take i, linesB (s.drop (i + 2)))
  | [], i, h => by simp [idxN] at h
  | [b], i, h => by simp [idxN, List.isPrefixOf] at h
  | b :: d :: r, i, h => by
    rw [idxN_cons2] at h
    split at h
    · rename_i hb
      obtain rfl := Option.some.inj h
      rw [lnC, if_pos hb]; rfl
    · rename_i hb
      obtain ⟨j, hj, rfl⟩ := Option.map_eq_some_iff.1 h
      rw [lnC, if_neg hb, lnC_some (d :: r) j hj]
      simp
/-- Numbers. -/
def digB (b : UInt8) : Bool := decide (48 ≤ b) && decide (b ≤ 57)
def valN (s : List UInt8) : Nat := s.foldl (fun n b => n * 10 + (b.toNat - 48)) 0
def parseB (s : List UInt8) (most : Int) : Int × Bool := if ((decide (1 ≤ s.length) && decide (s.length ≤ 7)) && s.all digB && !(decide (1 < s.length) && decide (s.head? = some 48)) && decide ((valN s : Int) ≤ most)) = true then ((valN s : Int), true) else (0, false)
theorem digB_iff {b : UInt8} : digB b = true ↔ 48 ≤ b.toNat ∧ b.toNat ≤ 57 := by
  simp [digB, UInt8.le_iff_toNat_le]
theorem valN_snoc (s : List UInt8) (b : UInt8) : valN (s ++ [b]) = valN s * 10 + (b.toNat - 48) := by simp [valN]
theorem valN_lt : ∀ (n : Nat) (s : List UInt8), s.length = n → s.all digB = true → valN s < 10 ^ n
  | 0, s, h, _ => by obtain rfl := List.eq_nil_of_length_eq_zero h; simp [valN]
  | n + 1, s, h, hd => by
    rcases List.eq_nil_or_concat s with e | ⟨q, c, e⟩
    · subst e; simp at h
    · rw [List.concat_eq_append] at e
      subst e
      rw [List.all_append] at hd
      simp only [List.all_cons, List.all_nil, Bool.and_true, Bool.and_eq_true] at hd
      have := valN_lt n q (by simpa using h) hd.1
      have h2 := digB_iff.1 hd.2
      rw [valN_snoc, Nat.pow_succ]
      omega
theorem dec_head : ∀ (n k : Nat), k < 10 ^ (n + 1) → 0 < k → (Lib.decDigits k).head? ≠ some 48
  | 0, k, h, h0 => by
    rw [decB_small (by simpa using h)]
    simp only [List.head?_cons, ne_eq, Option.some.injEq]
    intro e
    have := congrArg UInt8.toNat e
    simp only [UInt8.toNat_ofNat'] at this
    have h' : k < 10 := by simpa using h
    simp at this
    omega
  | n + 1, k, h, h0 => by
    by_cases h1 : k < 10
    · rw [decB_small h1]
      simp only [List.head?_cons, ne_eq, Option.some.injEq]
      intro e
      have := congrArg UInt8.toNat e
      simp only [UInt8.toNat_ofNat'] at this
      simp at this
      omega
    · rw [decB_big h1]
      have ih := dec_head n (k / 10) (by rw [Nat.pow_succ] at h; omega) (by omega)
      rw [List.head?_append]
      cases hq : (Lib.decDigits (k / 10)).head? with
      | none => exact absurd (List.head?_eq_none_iff.1 hq) (by rw [Lib.decDigits]; split <;> simp)
      | some x => rw [hq] at ih; simpa using ih
theorem dec_dig : ∀ (n k : Nat), k < 10 ^ (n + 1) → (Lib.decDigits k).all digB = true ∧ valN (Lib.decDigits k) = k ∧ 1 ≤ (Lib.decDigits k).length
  | 0, k, h => by
    have h' : k < 10 := by simpa using h
    rw [decB_small h']
    have e : (UInt8.ofNat (48 + k)).toNat = 48 + k := by simp; omega
    refine ⟨?_, ?_, by simp⟩
    · simp only [List.all_cons, List.all_nil, Bool.and_true]; exact digB_iff.2 (by omega)
    · simp only [valN, List.foldl_cons, List.foldl_nil]; omega
  | n + 1, k, h => by
    by_cases h1 : k < 10
    · rw [decB_small h1]
      have e : (UInt8.ofNat (48 + k)).toNat = 48 + k := by simp; omega
      refine ⟨?_, ?_, by simp⟩
      · simp only [List.all_cons, List.all_nil, Bool.and_true]; exact digB_iff.2 (by omega)
      · simp only [valN, List.foldl_cons, List.foldl_nil]; omega
    · rw [decB_big h1]
      obtain ⟨i1, i2, i3⟩ := dec_dig n (k / 10) (by rw [Nat.pow_succ] at h; omega)
      have e : (UInt8.ofNat (48 + k % 10)).toNat = 48 + k % 10 := by simp; omega
      refine ⟨?_, ?_, by simp⟩
      · rw [List.all_append, i1]; simp only [List.all_cons, List.all_nil, Bool.and_true, Bool.true_and]; exact digB_iff.2 (by omega)
      · rw [valN_snoc, i2]; omega
/-- A text of digits without a nought ahead is the numeral of its worth. -/
theorem dec_val : ∀ (n : Nat) (s : List UInt8), s.length = n + 1 → s.all digB = true → (1 < s.length → s.head? ≠ some 48) → Lib.decDigits (valN s) = s
  | 0, s, h, hd, _ => by
    match s, h with
    | [b], _ =>
      have := digB_iff.1 (by simpa using hd)
      rw [show valN [b] = b.toNat - 48 by simp [valN], decB_small (by omega), show 48 + (b.toNat - 48) = b.toNat by omega]
      simp
  | n + 1, s, h, hd, hz => by
    rcases List.eq_nil_or_concat s with e | ⟨q, c, e⟩
    · subst e; simp at h
    · rw [List.concat_eq_append] at e
      subst e
      have hq : q.length = n + 1 := by simpa using h
      rw [List.all_append] at hd
      simp only [List.all_cons, List.all_nil, Bool.and_true, Bool.and_eq_true] at hd
      have h2 := digB_iff.1 hd.2
      match q, hq with
      | a :: q', hq =>
        have ha : a ≠ 48 := by simpa using hz (by simp)
        have ih := dec_val n (a :: q') hq hd.1 (fun _ => by simpa using ha)
        have hpos : 0 < valN (a :: q') := by
          rcases Nat.eq_zero_or_pos (valN (a :: q')) with e0 | e0
          · rw [e0, decB_small (by omega)] at ih
            exact absurd ((List.cons.inj ih).1.symm) (by simpa using ha)
          · exact e0
        rw [valN_snoc, decB_big (by omega), show (valN (a :: q') * 10 + (c.toNat - 48)) / 10 = valN (a :: q') by omega, ih, show 48 + (valN (a :: q') * 10 + (c.toNat - 48)) % 10 = c.toNat by omega]
        simp
/-- What Atoi reads of digits. -/
theorem atoi_dig : ∀ (s : List UInt8) (acc : Nat), s.all digB = true → (acc + 1) * 10 ^ s.length ≤ 100000000 → Lib.parseUint10 acc s = .ok (s.foldl (fun n b => n * 10 + (b.toNat - 48)) acc)
  | [], acc, _, _ => rfl
  | b :: r, acc, hd, hb => by
    simp only [List.all_cons, Bool.and_eq_true] at hd
    have h2 := digB_iff.1 hd.1
    have hp : 1 ≤ 10 ^ r.length := Nat.one_le_pow _ _ (by decide)
    rw [List.length_cons, Nat.pow_succ] at hb
    have h3 : (acc + 1) * 10 ≤ 100000000 := by
      have : (acc + 1) * 10 * 1 ≤ (acc + 1) * 10 * 10 ^ r.length := Nat.mul_le_mul_left _ hp
      have e : (acc + 1) * (10 ^ r.length * 10) = (acc + 1) * 10 * 10 ^ r.length := by rw [Nat.mul_comm (10 ^ r.length) 10, Nat.mul_assoc]
      omega
    rw [Lib.parseUint10, if_pos h2, if_neg (by omega), if_neg (by omega)]
    rw [atoi_dig r _ hd.2 (by
      have e : (acc + 1) * (10 ^ r.length * 10) = (acc + 1) * 10 * 10 ^ r.length := by rw [Nat.mul_comm (10 ^ r.length) 10, Nat.mul_assoc]
      have : (acc * 10 + (b.toNat - 48) + 1) * 10 ^ r.length ≤ (acc + 1) * 10 * 10 ^ r.length := Nat.mul_le_mul_right _ (by omega)
      omega)]
    rfl
/-- A number that is read by Atoi and is written so is read by digits; and the other way about. -/
theorem parse_law (s : List UInt8) (most : Int) : (match Lib.atoiAll s with
    | .ok n => if n < 0 ∨ most < n ∨ 7 < s.length ∨ numB n ≠ s then ((0, false) : Int × Bool) else (n, true)
    | _ => (0, false)) = parseB s most := by
  by_cases hc : ((decide (1 ≤ s.length) && decide (s.length ≤ 7)) && s.all digB && !(decide (1 < s.length) && decide (s.head? = some 48))) = true
  · have hc' := hc
    simp only [Bool.and_eq_true, decide_eq_true_eq, Bool.not_eq_true', Bool.and_eq_false_iff, decide_eq_false_iff_not] at hc'
    obtain ⟨⟨⟨h1, h7⟩, hd⟩, hz⟩ := hc'
    have hl := valN_lt _ s rfl hd
    have hb : valN s < 10000000 := Nat.lt_of_lt_of_le hl (Nat.pow_le_pow_right (by decide) h7)
    have hv := dec_val (s.length - 1) s (by omega) hd (fun h => hz.resolve_left (by omega))
    match s, h1 with
    | c :: r, _ =>
      have hcd := digB_iff.1 (by simpa using (List.all_eq_true.1 hd c (List.mem_cons_self ..)))
      have ha : Lib.atoiAll (c :: r) = .ok (valN (c :: r) : Int) := by
        unfold Lib.atoiAll
        simp only
        rw [if_neg (by omega)]
        unfold Lib.parseMag
        rw [if_neg (by simp), atoi_dig (c :: r) 0 hd (by
          have : 10 ^ (c :: r).length ≤ 10 ^ 7 := Nat.pow_le_pow_right (by decide) h7
          omega)]
        simp only
        rw [show List.foldl (fun n (b : UInt8) => n * 10 + (b.toNat - 48)) 0 (c :: r) = valN (c :: r) from rfl]
        rw [if_neg (by omega), if_neg (by omega), if_neg (by omega)]
      rw [ha]
      simp only
      unfold parseB
      rw [hc, Bool.true_and]
      have hn : numB (valN (c :: r) : Int) = c :: r := by unfold numB; rw [Int.toNat_natCast]; exact hv
      by_cases hm : (valN (c :: r) : Int) ≤ most
      · rw [if_neg (by rw [hn]; intro h; rcases h with h | h | h | h
                       · omega
                       · omega
                       · omega
                       · exact h rfl), if_pos (by simpa using hm)]
      · rw [if_pos (by right; left; omega), if_neg (by simpa using hm)]
  · have hp : parseB s most = (0, false) := by
      unfold parseB
      rw [if_neg (by rw [Bool.eq_false_iff.2 hc]; simp)]
    rw [hp]
    split
    · rename_i n hn
      split
      · rfl
      · rename_i h
        refine absurd ?_ hc
        have h0 : ¬ n < 0 := fun e => h (.inl e)
        have h7 : ¬ 7 < s.length := fun e => h (.inr (.inr (.inl e)))
        have hs : numB n = s := Classical.byContradiction fun e => h (.inr (.inr (.inr e)))
        unfold numB at hs
        have hk : n.toNat < 10 ^ (n.toNat + 1) := Nat.lt_trans (Nat.lt_succ_self _) (Nat.lt_pow_self (by decide))
        obtain ⟨d1, d2, d3⟩ := dec_dig n.toNat n.toNat hk
        rw [hs] at d1 d2 d3
        have d4 : 1 < s.length → s.head? ≠ some 48 := fun hl => by
          rw [← hs]
          refine dec_head n.toNat n.toNat hk (Nat.pos_of_ne_zero fun e => ?_)
          rw [e, decB_small (by decide)] at hs
          rw [← hs] at hl
          simp at hl
        simp only [Bool.and_eq_true, decide_eq_true_eq, Bool.not_eq_true', Bool.and_eq_false_iff, decide_eq_false_iff_not]
        refine ⟨⟨⟨d3, by omega⟩, d1⟩, ?_⟩
        by_cases hl : 1 < s.length
        · exact .inr (d4 hl)
        · exact .inl hl
    · rfl
abbrev chunkedT : List UInt8 := [99, 104, 117, 110, 107, 101, 100]
abbrev httpT : List UInt8 := [72, 84, 84, 80, 47, 49, 46, 49]
/-- A line of a head. -/
def lineHd (s : List UInt8) : Option HeadD := match idxN [58] s with
  | none => none
  | some i => if (smallB (lowerB (s.take i)) && valB (trimL (trimR (s.drop (i + 1))))) = true then some (lowerB (s.take i), trimL (trimR (s.drop (i + 1)))) else none
/-- What is known of a head: as the program keeps it, and as the reference does. -/
structure HdS where
  hs : List HeadD
  cod : List UInt8
  ch : Bool
  len : Int
  sz : Bool
  bad : Bool
structure SdS where
  hs : List HeadD
  size : Int
  told : Nat
  codes : List Int
def iSp (h : HdS) (n v : List UInt8) : HdS :=
  if (h.ch || h.sz) = true then { h with bad := true }
  else if n = codingN then { h with ch := true, cod := v }
  else { h with sz := true, len := (parseB v 9999999).1, bad := h.bad || !(parseB v 9999999).2 }
def iLn (h : HdS) (s : List UInt8) : HdS := match lineHd s with
  | none => { h with bad := true }
  | some (n, v) => if n = lengthN ∨ n = codingN then iSp h n v else { h with hs := h.hs ++ [(n, v)] }
def sLn (f : SdS) (s : List UInt8) : Option SdS := match lineHd s with
  | none => none
  | some (n, v) =>
    if n = lengthN then if (parseB v 9999999).2 = true then some { f with size := (parseB v 9999999).1, told := f.told + 1 } else none
    else if n = codingN then some { f with size := -1, told := f.told + 1, codes := if lowerB v = chunkedT then f.codes else f.codes ++ [501] }
    else some { f with hs := f.hs ++ [(n, v)], codes := if 8 < f.hs.length + 1 then f.codes ++ [431] else f.codes }
def iFin (h : HdS) : Int := if h.bad = true then 400 else if 8 < h.hs.length then 431 else if h.ch = true ∧ lowerB h.cod ≠ chunkedT then 501 else if 200 < h.len then 413 else 0
def leastB (l : List Int) : Int := if 431 ∈ l then 431 else if 501 ∈ l then 501 else if 413 ∈ l then 413 else 0
def sFin : Option SdS → Int
  | none => 400
  | some g => if 1 < g.told then 400 else leastB (if 200 < g.size then g.codes ++ [413] else g.codes)
abbrev hd0 : HdS := ⟨[], [], false, 0, false, false⟩
abbrev sd0 : SdS := ⟨[], 0, 0, []⟩
theorem parseB_bd (s : List UInt8) (m : Int) : 0 ≤ (parseB s m).1 ∧ (parseB s m).1 ≤ 9999999 := by
  unfold parseB
  split
  · rename_i h
    simp only [Bool.and_eq_true, decide_eq_true_eq] at h
    have := valN_lt _ s rfl h.1.1.2
    have h2 : 10 ^ s.length ≤ 10 ^ 7 := Nat.pow_le_pow_right (by decide) h.1.1.1.2
    simp only
    omega
  · simp
/-- Both know the same. -/
def RelG (h : HdS) (g : SdS) : Prop :=
  g.hs = h.hs ∧ (431 ∈ g.codes ↔ 8 < h.hs.length) ∧ (501 ∈ g.codes ↔ (h.ch = true ∧ lowerB h.cod ≠ chunkedT)) ∧ 413 ∉ g.codes ∧
  ((h.ch = false ∧ h.sz = false ∧ g.told = 0 ∧ g.size = 0 ∧ h.len = 0) ∨ (h.ch = false ∧ h.sz = true ∧ g.told = 1 ∧ g.size = h.len) ∨ (h.ch = true ∧ h.sz = false ∧ g.told = 1 ∧ g.size = -1 ∧ h.len = 0))
def Rel (h : HdS) (f : Option SdS) : Prop := (h.bad = true ∧ ∀ g, f = some g → 2 ≤ g.told) ∨ (h.bad = false ∧ ∃ g, f = some g ∧ RelG h g)
theorem sLn_told {g g' : SdS} {s : List UInt8} (h : sLn g s = some g') : g.told ≤ g'.told := by
  unfold sLn at h
  split at h
  · cases h
  · split at h
    · split at h
      · obtain rfl := Option.some.inj h; exact Nat.le_succ _
      · cases h
    · split at h
      · obtain rfl := Option.some.inj h; exact Nat.le_succ _
      · obtain rfl := Option.some.inj h; exact Nat.le_refl _
theorem iLn_bad {h : HdS} (hb : h.bad = true) (s : List UInt8) : (iLn h s).bad = true := by
  unfold iLn iSp
  split
  · rfl
  · split
    · split
      · rfl
      · split
        · exact hb
        · simp [hb]
    · exact hb
theorem rel_step {h : HdS} {g : SdS} (s : List UInt8) (hb : h.bad = false) (r : RelG h g) : Rel (iLn h s) (sLn g s) := by
  obtain ⟨r1, r2, r3, r4, r5⟩ := r
  unfold iLn sLn
  cases hl : lineHd s with
  | none => exact .inl ⟨rfl, fun g e => by cases e⟩
  | some q =>
    obtain ⟨n, v⟩ := q
    simp only
    by_cases h1 : n = lengthN
    · subst h1
      rw [if_pos (.inl rfl), if_pos rfl]
      unfold iSp
      by_cases hc : (h.ch || h.sz) = true
      · rw [if_pos hc]
        refine .inl ⟨rfl, fun g' e => ?_⟩
        split at e
        · obtain rfl := Option.some.inj e
          rcases r5 with ⟨a, b, _⟩ | ⟨a, b, c, _⟩ | ⟨a, b, c, _⟩
          · rw [a, b] at hc; cases hc
          · simp only; omega
          · simp only; omega
        · cases e
      · rw [if_neg hc, if_neg (by decide)]
        simp only [Bool.or_eq_true, not_or, Bool.not_eq_true] at hc
        cases hp : (parseB v 9999999).2
        · refine .inl ⟨by simp, fun g' e => ?_⟩
          rw [if_neg (by simp)] at e; cases e
        · refine .inr ⟨by simp [hb], _, if_pos rfl, r1, r2, ?_, r4, .inr (.inl ⟨hc.1, rfl, ?_, rfl⟩)⟩
          · simpa [hc.1] using r3
          · rcases r5 with ⟨a, b, c, _⟩ | ⟨a, b, c, _⟩ | ⟨a, b, c, _⟩
            · simp only; omega
            · rw [hc.2] at b; cases b
            · rw [hc.1] at a; cases a
    · by_cases h2 : n = codingN
      · subst h2
        rw [if_pos (.inr rfl), if_neg h1, if_pos rfl]
        unfold iSp
        by_cases hc : (h.ch || h.sz) = true
        · rw [if_pos hc]
          refine .inl ⟨rfl, fun g' e => ?_⟩
          obtain rfl := Option.some.inj e
          rcases r5 with ⟨a, b, _⟩ | ⟨a, b, c, _⟩ | ⟨a, b, c, _⟩
          · rw [a, b] at hc; cases hc
          · simp only; omega
          · simp only; omega
        · rw [if_neg hc, if_pos rfl]
          simp only [Bool.or_eq_true, not_or, Bool.not_eq_true] at hc
          have c0 : 501 ∉ g.codes := fun e => by have := (r3.1 e).1; rw [hc.1] at this; cases this
          refine .inr ⟨hb, _, rfl, r1, ?_, ?_, ?_, ?_⟩
          · simp only; split
            · exact r2
            · simpa using r2
          · simp only; split
            · rename_i hx; simp [hx, c0]
            · rename_i hx; simp [hx]
          · simp only; split
            · exact r4
            · simpa using r4
          · rcases r5 with ⟨a, b, c, _, d⟩ | ⟨a, b, c, _⟩ | ⟨a, b, c, _⟩
            · exact .inr (.inr ⟨rfl, b, by simp only; omega, rfl, d⟩)
            · rw [hc.2] at b; cases b
            · rw [hc.1] at a; cases a
      · rw [if_neg (by simp [h1, h2]), if_neg h1, if_neg h2]
        refine .inr ⟨hb, _, rfl, by simp only [r1], ?_, ?_, ?_, r5⟩
        · simp only [List.length_append, List.length_cons, List.length_nil, r1]
          split
          · rename_i hx; simp; omega
          · rename_i hx; rw [r2]; omega
        · simp only; split
          · simpa using r3
          · exact r3
        · simp only; split
          · simpa using r4
          · exact r4
theorem foldl_bad : ∀ (l : List (List UInt8)) (h : HdS), h.bad = true → (l.foldl iLn h).bad = true
  | [], _, hb => hb
  | s :: l, h, hb => foldl_bad l (iLn h s) (iLn_bad hb s)
theorem goM_told : ∀ (l : List (List UInt8)) (f g : SdS), 2 ≤ f.told → goM sLn f l = some g → 2 ≤ g.told
  | [], f, g, h, e => by obtain rfl := Option.some.inj e; exact h
  | s :: l, f, g, h, e => by
    simp only [goM] at e
    obtain ⟨f', h1, h2⟩ := Option.bind_eq_some_iff.1 e
    exact goM_told l f' g (by have := sLn_told h1; omega) h2
theorem rel_all : ∀ (l : List (List UInt8)) (h : HdS) (g : SdS), h.bad = false → RelG h g → Rel (l.foldl iLn h) (goM sLn g l)
  | [], h, g, hb, r => .inr ⟨hb, g, rfl, r⟩
  | s :: l, h, g, hb, r => by
    simp only [List.foldl_cons, goM]
    rcases rel_step s hb r with ⟨h1, h2⟩ | ⟨h1, g', h2, h3⟩
    · refine .inl ⟨foldl_bad l _ h1, fun g' e => ?_⟩
      obtain ⟨f', h3, h4⟩ := Option.bind_eq_some_iff.1 e
      exact goM_told l f' g' (h2 f' h3) h4
    · rw [h2]
      exact rel_all l _ g' h1 h3
theorem rel0 : RelG hd0 sd0 := ⟨rfl, by simp, by simp, by simp, .inl ⟨rfl, rfl, rfl, rfl, rfl⟩⟩
theorem fin_eq {h : HdS} {f : Option SdS} (r : Rel h f) : iFin h = sFin f := by
  unfold iFin sFin
  rcases r with ⟨h1, h2⟩ | ⟨h1, g, rfl, r1, r2, r3, r4, r5⟩
  · rw [if_pos h1]
    cases f with
    | none => rfl
    | some g => simp only; rw [if_pos (by have := h2 g rfl; omega)]
  · rw [if_neg (by rw [h1]; simp)]
    simp only
    have ht : ¬ 1 < g.told := by rcases r5 with ⟨_, _, c, _⟩ | ⟨_, _, c, _⟩ | ⟨_, _, c, _⟩ <;> omega
    rw [if_neg ht]
    have e1 : (431 : Int) ∈ (if 200 < g.size then g.codes ++ [413] else g.codes) ↔ 8 < h.hs.length := by
      rw [← r2]; split <;> simp
    have e2 : (501 : Int) ∈ (if 200 < g.size then g.codes ++ [413] else g.codes) ↔ (h.ch = true ∧ lowerB h.cod ≠ chunkedT) := by
      rw [← r3]; split <;> simp
    have e3 : (413 : Int) ∈ (if 200 < g.size then g.codes ++ [413] else g.codes) ↔ 200 < g.size := by
      split
      · rename_i hx; simp [hx]
      · rename_i hx; simp [hx, r4]
    have e4 : 200 < g.size ↔ 200 < h.len := by
      rcases r5 with ⟨_, _, _, c, d⟩ | ⟨_, _, _, c⟩ | ⟨_, _, _, c, d⟩
      · rw [c, d]
      · rw [c]
      · rw [c, d]; simp
    generalize (if 200 < g.size then g.codes ++ [413] else g.codes) = L at e1 e2 e3 ⊢
    unfold leastB
    simp only [e1, e2, e3, e4]
/-- What stands ahead of a body. -/
def headB0 (s : List UInt8) : Option (List UInt8 × List UInt8) := match splitC 32 (lnC s).1 with
  | [m, p, v] => if v = httpT ∧ lineB m p = true then some (m, p) else none
  | _ => none
def foldB (s : List UInt8) : HdS := (lnC s).2.foldl iLn hd0
def codeB (s : List UInt8) : Int := match headB0 s with | none => 400 | some _ => iFin (foldB s)
/-- Pieces. -/
def endB : List UInt8 → Int × List UInt8
  | [] => (1, [])
  | b :: r => if b = 13 then (match r with | [] => (1, []) | d :: q => if d = 10 then (0, q) else (400, d :: q)) else (400, b :: r)
def sizeB (s : List UInt8) : Int × Int × List UInt8 := match idxN [13] s with
  | none => (if s = [] then 1 else if (hexB s).2 = true then 1 else 400, (hexB s).1, s)
  | some k => if (hexB (s.take k)).2 = true then ((endB (s.drop k)).1, (hexB (s.take k)).1, (endB (s.drop k)).2) else (400, (hexB (s.take k)).1, s)
def chunksF : Nat → List UInt8 → List UInt8 → List UInt8 × List UInt8 × Int
  | 0, _, _ => ([], [], 400)
  | f + 1, s, body =>
    let x := sizeB s
    if x.1 ≠ 0 then ([], [], x.1)
    else if 200 < (body.length : Int) + x.2.1 then ([], [], 413)
    else if (x.2.2.length : Int) < x.2.1 then ([], [], 1)
    else let y := endB (x.2.2.drop x.2.1.toNat)
      if y.1 ≠ 0 then ([], [], y.1)
      else if x.2.1 = 0 then (body, y.2, 0)
      else chunksF f y.2 (body ++ x.2.2.take x.2.1.toNat)
def chunksB (s : List UInt8) : List UInt8 × List UInt8 × Int := chunksF (s.length + 1) s []
abbrev zR : ReqD := ([], [], [], [])
/-- A request that is read: what it is, the place behind it, a code. -/
def getReqB (b : List UInt8) : ReqD × Int × Int :=
  match idxN crlf2 (b.take 400) with
  | none => (zR, 0, if 400 < b.length then 431 else 1)
  | some k =>
    match headB0 (b.take k) with
    | none => (zR, 0, 400)
    | some q =>
      if iFin (foldB (b.take k)) ≠ 0 then (zR, 0, iFin (foldB (b.take k)))
      else if (foldB (b.take k)).ch = true then
        if (chunksB (b.drop (k + 4))).2.2 ≠ 0 then (zR, 0, (chunksB (b.drop (k + 4))).2.2)
        else ((q.1, q.2, (foldB (b.take k)).hs, (chunksB (b.drop (k + 4))).1), (b.length : Int) - (chunksB (b.drop (k + 4))).2.1.length, 0)
      else if (b.length : Int) < ((k + 4 : Nat) : Int) + (foldB (b.take k)).len then (zR, 0, 1)
      else ((q.1, q.2, (foldB (b.take k)).hs, (b.drop (k + 4)).take (foldB (b.take k)).len.toNat), ((k + 4 : Nat) : Int) + (foldB (b.take k)).len, 0)
theorem lnC_cons {b : UInt8} (hb : b ≠ 13) (x : List UInt8) : lnC (b :: x) = (b :: (lnC x).1, (lnC x).2) := by
  cases x with
  | nil => rfl
  | cons d r => rw [lnC, if_neg (fun h => hb h.1)]
theorem lnC_app : ∀ (l x : List UInt8), (∀ b ∈ l, b ≠ 13) → lnC (l ++ x) = (l ++ (lnC x).1, (lnC x).2)
  | [], _, _ => rfl
  | b :: l, x, h => by
    rw [List.cons_append, lnC_cons (h b (List.mem_cons_self ..)), lnC_app l x fun c hc => h c (List.mem_cons_of_mem _ hc)]; rfl
theorem lines_join : ∀ (ls : List (List UInt8)) (l0 : List UInt8), (∀ b ∈ l0, b ≠ 13) → (∀ l ∈ ls, ∀ b ∈ l, b ≠ 13) → lnC (l0 ++ ls.flatMap fun l => 13 :: 10 :: l) = (l0, ls)
  | [], l0, h0, _ => by rw [List.flatMap_nil, lnC_app l0 [] h0]; simp [lnC]
  | l :: ls, l0, h0, h => by
    rw [lnC_app l0 _ h0, List.flatMap_cons, List.cons_append, List.cons_append, lnC, if_pos ⟨rfl, rfl⟩, lines_join ls l (h l (List.mem_cons_self ..)) fun x hx => h x (List.mem_cons_of_mem _ hx)]
    simp
theorem idxN_ne {a b : UInt8} {q : List UInt8} (h : b ≠ a) (x : List UInt8) : idxN (a :: q) (b :: x) = (idxN (a :: q) x).map (· + 1) := by
  rw [idxN, if_neg (by simp [List.isPrefixOf]; exact fun e => absurd e.symm h)]
theorem idxN_app {a : UInt8} {q : List UInt8} (x : List UInt8) : ∀ l : List UInt8, (∀ b ∈ l, b ≠ a) → idxN (a :: q) (l ++ x) = (idxN (a :: q) x).map (· + l.length)
  | [], _ => by simp
  | b :: l, h => by
    rw [List.cons_append, idxN_ne (h b (List.mem_cons_self ..)), idxN_app x l fun c hc => h c (List.mem_cons_of_mem _ hc)]
    cases idxN (a :: q) x with
    | none => rfl
    | some i => simp; omega
theorem idx_lines (rest : List UInt8) : ∀ (ls : List (List UInt8)) (l0 : List UInt8), (∀ b ∈ l0, b ≠ 13) → (∀ l ∈ ls, l ≠ [] ∧ ∀ b ∈ l, b ≠ 13) →
    idxN crlf2 (l0 ++ ((ls.flatMap fun l => 13 :: 10 :: l) ++ (crlf2 ++ rest))) = some (l0.length + (ls.flatMap fun l => 13 :: 10 :: l).length)
  | [], l0, h0, _ => by
    rw [idxN_app _ l0 h0, List.flatMap_nil, List.nil_append, List.cons_append, idxN, if_pos (by simp [List.isPrefixOf])]
    simp
  | l :: ls, l0, h0, h => by
    obtain ⟨h1, h2⟩ := h l (List.mem_cons_self ..)
    have ih := idx_lines rest ls l h2 fun x hx => h x (List.mem_cons_of_mem _ hx)
    rw [idxN_app _ l0 h0, List.flatMap_cons, List.cons_append, List.cons_append, List.cons_append, List.cons_append, List.append_assoc]
    match l, h1 with
    | c :: l', _ =>
      have hc : c ≠ 13 := h2 c (List.mem_cons_self ..)
      rw [List.cons_append] at ih ⊢
      rw [idxN, if_neg (by simp [List.isPrefixOf]; exact fun e => absurd e.symm hc), idxN_ne (by decide), ih]
      simp; omega
theorem crlf_turn : ∀ ls : List (List UInt8), (13 :: 10 :: ls.flatMap fun l => l ++ [13, 10]) = (ls.flatMap fun l => 13 :: 10 :: l) ++ [13, 10]
  | [] => rfl
  | l :: ls => by
    have ih := crlf_turn ls
    rw [List.flatMap_cons, List.flatMap_cons]
    simp only [List.append_assoc, List.cons_append, List.nil_append] at ih ⊢
    rw [← ih]
abbrev hline (h : HeadD) : List UInt8 := h.1 ++ (58 :: 32 :: h.2)
theorem headText_lines (l : List HeadD) : headTextB l = (l.map hline).flatMap fun l => l ++ [13, 10] := by
  unfold headTextB
  rw [List.flatMap_map]
  congr 1
  funext h
  simp [hline]
theorem putText_eq (r : ReqD) (el : List (List UInt8)) :
    putText r (el.flatMap fun l => l ++ [13, 10]) = (r.1 ++ (32 :: (r.2.1 ++ 32 :: httpT))) ++ (((r.2.2.1.map hline ++ el).flatMap fun l => 13 :: 10 :: l) ++ crlf2) := by
  have := crlf_turn (r.2.2.1.map hline ++ el)
  rw [List.flatMap_append, ← headText_lines] at this
  simp only [putText, restB, List.cons_append, List.nil_append, List.append_assoc] at this ⊢
  have e : (13 :: 10 :: (headTextB r.2.2.1 ++ ((el.flatMap fun l => l ++ [13, 10]) ++ [13, 10]))) = ((r.2.2.1.map hline ++ el).flatMap fun l => 13 :: 10 :: l) ++ [13, 10, 13, 10] := by
    have := congrArg (· ++ [13, 10]) this
    simpa using this
  rw [e]
theorem splC_app {c : UInt8} : ∀ (l x : List UInt8), (∀ b ∈ l, b ≠ c) → splC c (l ++ x) = (l ++ (splC c x).1, (splC c x).2)
  | [], _, _ => rfl
  | b :: l, x, h => by
    rw [List.cons_append, splC, if_neg (h b (List.mem_cons_self ..)), splC_app l x fun d hd => h d (List.mem_cons_of_mem _ hd)]; rfl
theorem small_bytes {s : List UInt8} (h : smallB s = true) : ∀ b ∈ s, 45 ≤ b.toNat ∧ (b.toNat ≤ 57 ∨ 97 ≤ b.toNat) ∧ b.toNat ≤ 122 ∧ b.toNat ≠ 58 := by
  unfold smallB at h
  rw [Bool.and_eq_true] at h
  intro b hb
  obtain ⟨i, hi, rfl⟩ := List.mem_iff_getElem.1 hb
  have := (eachB_iff.1 h.1) i hi
  unfold smallC at this
  simp [UInt8.le_iff_toNat_le, ← UInt8.toNat_inj] at this
  omega
theorem lower_id {s : List UInt8} (h : smallB s = true) : lowerB s = s := by
  unfold lowerB
  conv => rhs; rw [← List.map_id s]
  refine List.map_congr_left fun b hb => ?_
  have := small_bytes h b hb
  unfold lowB
  rw [if_neg (by simp [UInt8.le_iff_toNat_le]; omega)]; rfl
theorem val_parts {v : List UInt8} (h : valB v = true) : v.length ≤ 60 ∧ (∀ b ∈ v, 32 ≤ b.toNat ∧ b.toNat ≤ 126) ∧ trimL (trimR v) = v := by
  unfold valB at h
  simp only [Bool.and_eq_true, decide_eq_true_eq, List.all_eq_true] at h
  refine ⟨h.1.1, fun b hb => ?_, h.2⟩
  have := h.1.2 b hb
  simpa [plainB, UInt8.le_iff_toNat_le] using this
theorem lineHd_of {n v : List UInt8} (hn : smallB n = true) (hv : valB v = true) : lineHd (n ++ (58 :: 32 :: v)) = some (n, v) := by
  have hb := small_bytes hn
  have e : idxN [58] (n ++ (58 :: 32 :: v)) = some n.length := by
    rw [idxN_app _ n fun b h e => by have := hb b h; subst e; simp at this]
    simp [idxN, List.isPrefixOf]
  obtain ⟨_, _, ht⟩ := val_parts hv
  have t : trimL (trimR (32 :: v)) = v := by
    rw [trimLR, trimL_cons, if_pos (by rfl), ← trimLR, ht]
  unfold lineHd
  rw [e]
  simp only
  rw [List.take_left, show (n ++ (58 :: 32 :: v)).drop (n.length + 1) = 32 :: v by rw [List.drop_append, List.drop_of_length_le (by omega)]; simp, t, lower_id hn, hn, hv]
  rfl
theorem fold_heads (h0 : HdS) : ∀ l : List HeadD, l.all headB = true → (l.map hline).foldl iLn h0 = { h0 with hs := h0.hs ++ l }
  | [], _ => by simp
  | x :: l, h => by
    simp only [List.all_cons, Bool.and_eq_true] at h
    obtain ⟨hx, hl⟩ := h
    unfold headB at hx
    simp only [Bool.and_eq_true, Bool.not_eq_true', decide_eq_false_iff_not] at hx
    obtain ⟨⟨⟨a, b⟩, c⟩, d⟩ := hx
    rw [List.map_cons, List.foldl_cons]
    have e : iLn h0 (hline x) = { h0 with hs := h0.hs ++ [x] } := by
      unfold iLn hline
      rw [lineHd_of a b]
      simp only
      rw [if_neg (by simp [c, d])]
    rw [e, fold_heads _ l hl]
    simp
theorem dec_plain (n : Nat) (hn : n ≤ 9999999) : (∀ b ∈ Lib.decDigits n, 48 ≤ b.toNat ∧ b.toNat ≤ 57) ∧ 1 ≤ (Lib.decDigits n).length ∧ (Lib.decDigits n).length ≤ 7 ∧ valN (Lib.decDigits n) = n := by
  obtain ⟨h1, h2, h3⟩ := dec_dig 6 n (by omega)
  have h4 := decB_len 6 n (by omega)
  exact ⟨fun b hb => digB_iff.1 (List.all_eq_true.1 h1 b hb), h3, h4, h2⟩
theorem trim_id {v : List UInt8} (h : ∀ b ∈ v, blankB b = false) : trimL (trimR v) = v := by
  have key : ∀ l : List UInt8, (∀ b ∈ l, blankB b = false) → trimL l = l := fun l hl => by
    cases l with
    | nil => rfl
    | cons b l => rw [trimL_cons, if_neg (by rw [hl b (List.mem_cons_self ..)]; simp)]
  unfold trimR
  rw [key v.reverse fun b hb => h b (List.mem_reverse.1 hb), List.reverse_reverse, key v h]
theorem dec_val_ok (n : Nat) (hn : n ≤ 9999999) : valB (Lib.decDigits n) = true := by
  obtain ⟨h1, h2, h3, h4⟩ := dec_plain n hn
  unfold valB
  simp only [Bool.and_eq_true, decide_eq_true_eq, List.all_eq_true]
  refine ⟨⟨by omega, fun b hb => ?_⟩, trim_id fun b hb => ?_⟩
  · have := h1 b hb
    simp [plainB, UInt8.le_iff_toNat_le]; omega
  · have := h1 b hb
    have a1 : b ≠ 32 := fun e => by subst e; simp at this
    have a2 : b ≠ 9 := fun e => by subst e; simp at this
    simp [blankB, a1, a2]
theorem dec_parse (n : Nat) (hn : n ≤ 9999999) : parseB (Lib.decDigits n) 9999999 = ((n : Int), true) := by
  obtain ⟨h1, h2, h3, h4⟩ := dec_plain n hn
  unfold parseB
  rw [h4, if_pos]
  simp only [Bool.and_eq_true, decide_eq_true_eq, Bool.not_eq_true', Bool.and_eq_false_iff, decide_eq_false_iff_not, List.all_eq_true]
  refine ⟨⟨⟨⟨h2, h3⟩, fun b hb => digB_iff.2 (h1 b hb)⟩, ?_⟩, by omega⟩
  rcases Nat.eq_zero_or_pos n with e | e
  · subst e; left; rw [decB_small (by decide)]; simp
  · right; exact dec_head 6 n (by omega) e
theorem line_bytes {m p : List UInt8} (h : lineB m p = true) : (∀ b ∈ m, b ≠ 13 ∧ b ≠ 32) ∧ (∀ b ∈ p, b ≠ 13 ∧ b ≠ 32) := by
  unfold lineB at h
  simp only [Bool.and_eq_true, List.all_eq_true, Bool.not_eq_true', decide_eq_true_eq] at h
  obtain ⟨⟨⟨⟨h1, _⟩, _⟩, h2⟩, h3⟩ := h
  refine ⟨fun b hb => ?_, fun b hb => ?_⟩
  · have := h1 b hb
    simp [largeB, UInt8.le_iff_toNat_le] at this
    exact ⟨fun e => by subst e; simp at this, fun e => by subst e; simp at this⟩
  · have := h2 b hb
    simp [plainB, UInt8.le_iff_toNat_le] at this
    refine ⟨fun e => by subst e; simp at this, fun e => ?_⟩
    subst e
    simp at h3
    exact h3 hb
/-- What is put is read again, whole. -/
theorem get_put (r : ReqD) (hr : putReqB r ≠ []) : getReqB (putReqB r) = (r, ((putReqB r).length : Int), 0) := by
  obtain ⟨m, p, hs, bd⟩ := r
  obtain ⟨el, hel, hne⟩ : ∃ el : List (List UInt8), extraB bd = el.flatMap (fun l => l ++ [13, 10]) ∧ el = if bd = [] then [] else [hline (lengthN, Lib.decDigits bd.length)] := by
    refine ⟨_, ?_, rfl⟩
    unfold extraB lenTextB numB
    split
    · rfl
    · simp [hline]
  have hp : putReqB (m, p, hs, bd) = if reqB (m, p, hs, bd) = true ∧ (putText (m, p, hs, bd) (extraB bd)).length ≤ 400 then putText (m, p, hs, bd) (extraB bd) ++ bd else [] := rfl
  by_cases hc : reqB (m, p, hs, bd) = true ∧ (putText (m, p, hs, bd) (extraB bd)).length ≤ 400
  case neg => rw [hp, if_neg hc] at hr; exact absurd rfl hr
  rw [if_pos hc] at hp
  obtain ⟨hq, hl⟩ := hc
  unfold reqB headsB at hq
  simp only [Bool.and_eq_true, decide_eq_true_eq] at hq
  obtain ⟨⟨q1, q2, q3⟩, q4⟩ := hq
  obtain ⟨b1, b2⟩ := line_bytes q1
  rw [hel, putText_eq] at hp hl
  simp only at hp hl
  have hL0 : ∀ b ∈ m ++ (32 :: (p ++ 32 :: httpT)), b ≠ 13 := by
    have h5 : ∀ b ∈ httpT, b ≠ 13 := by decide
    intro b hb
    rcases List.mem_append.1 hb with h | h
    · exact (b1 b h).1
    rcases List.mem_cons.1 h with h | h
    · subst h; decide
    rcases List.mem_append.1 h with h | h
    · exact (b2 b h).1
    rcases List.mem_cons.1 h with h | h
    · subst h; decide
    · exact h5 b h
  have hel1 : ∀ l ∈ el, l = hline (lengthN, Lib.decDigits bd.length) := by
    intro l hl
    rw [hne] at hl
    split at hl
    · cases hl
    · simpa using hl
  have hhd : ∀ h : HeadD, smallB h.1 = true → valB h.2 = true → hline h ≠ [] ∧ ∀ b ∈ hline h, b ≠ 13 := by
    intro h h1 h2
    refine ⟨by simp [hline], fun b hb => ?_⟩
    simp only [hline, List.mem_append, List.mem_cons] at hb
    rcases hb with hb | hb | hb | hb
    · have := small_bytes h1 b hb; exact fun e => by subst e; simp at this
    · subst hb; decide
    · subst hb; decide
    · have := (val_parts h2).2.1 b hb; exact fun e => by subst e; simp at this
  have hlen : valB (Lib.decDigits bd.length) = true := dec_val_ok _ (by omega)
  have hLs : ∀ l ∈ hs.map hline ++ el, l ≠ [] ∧ ∀ b ∈ l, b ≠ 13 := by
    intro l hl
    rcases List.mem_append.1 hl with h | h
    · obtain ⟨x, hx, rfl⟩ := List.mem_map.1 h
      have := List.all_eq_true.1 q2 x hx
      unfold headB at this
      simp only [Bool.and_eq_true] at this
      exact hhd x this.1.1.1 this.1.1.2
    · rw [hel1 l h]
      exact hhd _ (show smallB lengthN = true by decide) hlen
  generalize hJ : (m ++ (32 :: (p ++ 32 :: httpT))) ++ ((hs.map hline ++ el).flatMap fun l => 13 :: 10 :: l) = J at *
  have hp2 : putReqB (m, p, hs, bd) = J ++ (crlf2 ++ bd) := by rw [hp, ← hJ]; simp only [List.append_assoc]
  have hJl : J.length + 4 ≤ 400 := by
    rw [← hJ]
    simp only [List.length_append, List.length_cons, List.length_nil] at hl ⊢
    omega
  have hi' : ∀ rest, idxN crlf2 (J ++ (crlf2 ++ rest)) = some J.length := fun rest => by
    rw [← hJ, List.append_assoc, List.length_append]; exact idx_lines rest (hs.map hline ++ el) (m ++ (32 :: (p ++ 32 :: httpT))) hL0 hLs
  have hk : idxN crlf2 ((putReqB (m, p, hs, bd)).take 400) = some J.length := by
    rw [hp2, ← List.append_assoc, List.take_append, List.take_of_length_le (by simp; omega), List.append_assoc]
    exact hi' _
  have ht : (putReqB (m, p, hs, bd)).take J.length = J := by rw [hp2, List.take_left]
  have hd : (putReqB (m, p, hs, bd)).drop (J.length + 4) = bd := by
    rw [hp2, ← List.append_assoc, show J.length + 4 = (J ++ crlf2).length by simp, List.drop_left]
  have hln : lnC J = (m ++ (32 :: (p ++ 32 :: httpT)), hs.map hline ++ el) := by
    rw [← hJ]
    exact lines_join _ _ hL0 fun l hl => (hLs l hl).2
  have hh : headB0 J = some (m, p) := by
    unfold headB0 splitC
    rw [hln]
    simp only
    rw [splC_app m _ fun b hb => (b1 b hb).2, splC, if_pos rfl, splC_app p _ fun b hb => (b2 b hb).2, splC, if_pos rfl, show splC 32 httpT = (httpT, []) from by decide]
    simp [q1]
  have hf : foldB J = ⟨hs, [], false, (bd.length : Int), !decide (bd = []), false⟩ := by
    unfold foldB
    rw [hln]
    simp only
    rw [List.foldl_append, fold_heads hd0 hs q2, hne]
    by_cases hb : bd = []
    · subst hb; simp
    · rw [if_neg hb, List.foldl_cons, List.foldl_nil]
      unfold iLn
      rw [lineHd_of (show smallB lengthN = true by decide) hlen]
      simp only
      rw [if_pos (by simp)]
      unfold iSp
      rw [if_neg (by simp), if_neg (by decide), dec_parse _ (by omega)]
      simp [hb]
  unfold getReqB
  rw [hk]
  simp only
  rw [ht, hh]
  simp only
  rw [hf]
  have hi : iFin ⟨hs, [], false, (bd.length : Int), !decide (bd = []), false⟩ = 0 := by
    unfold iFin
    rw [if_neg (by simp), if_neg (by simpa using q3), if_neg (by simp), if_neg (by simp only; omega)]
  rw [hi, hd]
  have hlen2 : (putReqB (m, p, hs, bd)).length = J.length + 4 + bd.length := by rw [hp2]; simp; omega
  rw [hlen2]
  simp
end Go.Proofs.YtniakiefibpgmaaGreatDoorK
