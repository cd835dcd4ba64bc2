/- What the functions come to. -/
import Derived.Test.YtniakiefibpgmaaGreatDoorF8
set_option linter.unusedVariables false
set_option linter.unusedSimpArgs false
namespace Go.Proofs.YtniakiefibpgmaaGreatDoorK
open Go.RowKit
abbrev ChT := T.den Tchunks
abbrev chO (r : ChT) : Ob := .ls Tchunks false [r] 0 []
theorem endB_suf (s : List UInt8) : (endB s).2 <:+ s := by
  unfold endB
  split
  · exact List.suffix_refl _
  · split
    · split
      · exact List.suffix_cons _ _
      · split
        · exact (List.suffix_cons _ _).trans (List.suffix_cons _ _)
        · exact List.suffix_cons _ _
    · exact List.suffix_refl _
theorem endB_len {s : List UInt8} (h : (endB s).1 = 0) : (endB s).2.length + 2 = s.length := by
  unfold endB at h ⊢
  split at h
  · cases h
  · split at h
    · split at h
      · cases h
      · rename_i hb _ _ _
        split at h
        · rename_i hd; simp [hb, hd]
        · cases h
    · cases h
theorem goM_hexP : ∀ (l : List UInt8) (i : Nat) (v n : Int), hexP i v → goM hexF v l = some n → hexP (i + l.length) n
  | [], i, v, n, h, e => by obtain rfl := Option.some.inj e; exact h
  | b :: l, i, v, n, h, e => by
    simp only [goM] at e
    obtain ⟨v', h1, h2⟩ := Option.bind_eq_some_iff.1 e
    have := goM_hexP l (i + 1) v' n (hexP_step h h1) h2
    rw [List.length_cons, show i + (l.length + 1) = i + 1 + l.length by omega]; exact this
theorem hexB_bd (s : List UInt8) : 0 ≤ (hexB s).1 ∧ (hexB s).1 ≤ 1048576 := by
  unfold hexB
  split
  · rename_i hl
    cases hg : goM hexF 0 s with
    | none => simp
    | some v =>
      have := goM_hexP s 0 0 v ⟨by omega, by simp⟩ hg
      rw [Nat.zero_add] at this
      exact hexP_le this (by omega)
  · simp
theorem sizeB_suf (s : List UInt8) : (sizeB s).2.2 <:+ s := by
  unfold sizeB
  split
  · exact List.suffix_refl _
  · split
    · exact (endB_suf _).trans (List.drop_suffix _ _)
    · exact List.suffix_refl _
theorem sizeB_len {s : List UInt8} (h : (sizeB s).1 = 0) : (sizeB s).2.2.length + 2 ≤ s.length := by
  unfold sizeB at h ⊢
  split at h
  · exfalso
    simp only at h
    split at h
    · cases h
    · split at h <;> cases h
  · rename_i k hk
    split at h
    · rename_i ht
      rw [if_pos ht]
      have := endB_len h
      simp only [List.length_drop] at this ⊢
      omega
    · cases h
theorem sizeB_n (s : List UInt8) : 0 ≤ (sizeB s).2.1 ∧ (sizeB s).2.1 ≤ 1048576 := by
  unfold sizeB
  split
  · exact hexB_bd _
  · split
    · exact hexB_bd _
    · exact hexB_bd _
abbrev noR : RV := .tup []
theorem ichunks_end_ok (s : List UInt8) (h : s.length ≤ 1099511627776) : V ichunks_end [.p 0 0 0] [chO (s, 0)] = some ([some (chO ((endB s).2, (endB s).1))], noR) := by
  rw [V_eq (fn := ichunks_end_m) (by kernel_rfl)]
  have L2 : ∀ (q : List UInt8) (c : Int), DL V (.loop ichunks_end_l0) ⟨[(2, i6 2), (0, .p 0 0 0)], [(0, chO (q, c))]⟩ = some (.ex 0, ⟨[], [(0, chO (q, c))]⟩) := fun q c => by
    rw [DL_loop]
    generalize DL V (.loop ichunks_end_l0) = G
    simp -implicitDefEqProofs [ichunks_end_l0]
  have Lc : ∀ (q : List UInt8) (c : Int), c ≠ 0 → DL V (.loop ichunks_end_l0) ⟨[(2, i6 1), (0, .p 0 0 0)], [(0, chO (q, c))]⟩ = some (.ex 0, ⟨[], [(0, chO (q, c))]⟩) := fun q c hc => by
    rw [DL_loop]
    generalize DL V (.loop ichunks_end_l0) = G
    simp -implicitDefEqProofs [ichunks_end_l0, hc]
  have w1 : IntKind.i64.wrap (0 + 1) = 1 := by decide
  have w2 : IntKind.i64.wrap (1 + 1) = 2 := by decide
  have w3 : IntKind.i64.wrap 1 = 1 := by decide
  have w4 : IntKind.i64.wrap 2 = 2 := by decide
  have L1 : ∀ (q : List UInt8), q.length ≤ 1099511627776 → DL V (.loop ichunks_end_l0) ⟨[(2, i6 1), (0, .p 0 0 0)], [(0, chO (q, 0))]⟩ = some (.ex 0, ⟨[], [(0, chO (match q with | [] => ([], 1) | d :: r => if d = 10 then (r, 0) else (d :: r, 400)))]⟩) := fun q hq => by
    rw [DL_loop]
    generalize DL V (.loop ichunks_end_l0) = G at L2 ⊢
    cases q with
    | nil => simp -implicitDefEqProofs [ichunks_end_l0, w2, w4, L2]
    | cons d r =>
      simp only [List.length_cons] at hq
      have h0 : (1 : Int) ≤ (r.length : Int) + 1 := by omega
      have h1 : (0 : Int) < (r.length : Int) + 1 := by omega
      by_cases hd : d = 10
      · simp -implicitDefEqProofs [ichunks_end_l0, w2, w4, L2, hd, h0, h1]
      · simp -implicitDefEqProofs [ichunks_end_l0, w2, w4, L2, hd, h0, h1]
  have L0 : DL V (.loop ichunks_end_l0) ⟨[(2, i6 0), (0, .p 0 0 0)], [(0, chO (s, 0))]⟩ = some (.ex 0, ⟨[], [(0, chO ((endB s).2, (endB s).1))]⟩) := by
    rw [DL_loop]
    generalize DL V (.loop ichunks_end_l0) = G at L1 Lc ⊢
    unfold endB
    cases s with
    | nil => simp -implicitDefEqProofs [ichunks_end_l0, w1, w3, Lc]
    | cons d r =>
      simp only [List.length_cons] at h
      have h0 : (1 : Int) ≤ (r.length : Int) + 1 := by omega
      have h1 : (0 : Int) < (r.length : Int) + 1 := by omega
      have e := L1 r (by omega)
      by_cases hd : d = 13
      · cases r with
        | nil => simp -implicitDefEqProofs [ichunks_end_l0, w1, w3, e, hd]
        | cons x q =>
          simp only [List.length_cons, Int.natCast_add, Int.natCast_one] at h h0 h1
          simp only at e
          have tq : ∀ x : UInt8, List.take (((q.length : Int) + 1 + 1).toNat - 1) (x :: q) = x :: q := fun x => List.take_of_length_le (by simp only [List.length_cons]; omega)
          by_cases hx : x = 10
          · subst hx; rw [if_pos rfl] at e; simp -implicitDefEqProofs [ichunks_end_l0, w1, w3, e, hd, h0, h1, tq]
          · rw [if_neg hx] at e; simp -implicitDefEqProofs [ichunks_end_l0, w1, w3, e, hd, h0, h1, hx, tq]
      · simp -implicitDefEqProofs [ichunks_end_l0, w1, w3, Lc, hd, h0, h1]
  simp -implicitDefEqProofs [ichunks_end_m, L0]
theorem ichunks_size_ok (s : List UInt8) (h : s.length < 4294967281) : V ichunks_size [.p 0 0 0] [chO (s, 0)] = some ([some (chO ((sizeB s).2.2, (sizeB s).1))], .one (.fz (.i .i64 (sizeB s).2.1))) := by
  rw [V_eq (fn := ichunks_size_m) (by kernel_rfl)]
  have e0 := cut_ok s [13] h
  unfold cutB at e0
  unfold sizeB
  cases hi : idxN [13] s with
  | none =>
    rw [hi] at e0
    simp only at e0 ⊢
    have e1 := iParseHex_ok s (by omega)
    generalize hexB s = x at e1 ⊢
    obtain ⟨n, t⟩ := x
    by_cases hs : s = []
    · subst hs
      simp -implicitDefEqProofs [ichunks_size_m, e0, e1]
    · cases t <;> simp -implicitDefEqProofs [ichunks_size_m, e0, e1, hs]
  | some k =>
    rw [hi] at e0
    simp only at e0 ⊢
    have hk := idxN_lt (by decide) hi
    simp only [List.length_cons, List.length_nil] at hk
    have e1 := iParseHex_ok (s.take k) (by rw [List.length_take]; omega)
    have e2 := ichunks_end_ok (s.drop k) (by rw [List.length_drop]; omega)
    have hl : (s.take k).length = k := by rw [List.length_take]; omega
    have dt : (s.drop k).take (s.length - k) = s.drop k := List.take_of_length_le (by simp)
    generalize s.take k = u at e0 e1 hl ⊢
    generalize hexB u = x at e1 ⊢
    obtain ⟨n, t⟩ := x
    subst hl
    generalize endB (s.drop u.length) = y at e2 ⊢
    obtain ⟨y1, y2⟩ := y
    cases t
    · simp -implicitDefEqProofs [ichunks_size_m, e0, e1]
    · simp -implicitDefEqProofs [ichunks_size_m, e0, e1, e2, dt, (eq_true (by omega) : ((u.length : Int) ≤ (s.length : Int)) = True)]
/-- What is told of pieces that were read. -/
def chN (b : List UInt8) (x : List UInt8 × List UInt8 × Int) : List UInt8 × Int × Int := if x.2.2 = 0 then (x.1, (b.length : Int) - x.2.1.length, 0) else ([], 0, x.2.2)
def getChunksB (b : List UInt8) (a : Int) : List UInt8 × Int × Int := if 0 ≤ a ∧ a ≤ b.length then chN b (chunksB (b.drop a.toNat)) else ([], 0, 400)
abbrev ch3 (x : List UInt8 × Int × Int) : Option (List (Option Ob) × RV) := some ([], .tup [.one (.fz (.s x.1)), .one (.fz (.i .i64 x.2.1)), .one (.fz (.i .i64 x.2.2))])
theorem iGetChunks_ok (b : List UInt8) (a : Int) (h : b.length < 4294967281) : V iGetChunks [.d (.sl .u8 b), i6 a] [] = ch3 (getChunksB b a) := by
  rw [V_eq (fn := iGetChunks_m) (by kernel_rfl)]
  have e1 := iin_ok a 0 b.length
  unfold getChunksB
  by_cases ha : 0 ≤ a ∧ a ≤ b.length
  · obtain ⟨k, rfl⟩ : ∃ k : Nat, a = k := ⟨a.toNat, by omega⟩
    have hk : k ≤ b.length := by omega
    rw [if_pos ha, decide_eq_true ha.1, decide_eq_true ha.2] at *
    have L := loop_rec (X := V) (c := iGetChunks_l0) (fun q : Nat × List UInt8 × List UInt8 => ⟨[(8, .d (.s q.2.2)), (7, .p 84 0 0), (0, .d (.sl .u8 b))], [(84, chO (q.2.1, 0))]⟩)
      (fun q => some (.ret, ⟨[(6, i6 (chN b (chunksF q.1 q.2.1 q.2.2)).2.2), (5, i6 (chN b (chunksF q.1 q.2.1 q.2.2)).2.1), (4, .d (.s (chN b (chunksF q.1 q.2.1 q.2.2)).1))], []⟩)) (fun q => q.1) (fun q => q.2.1.length < q.1 ∧ q.2.1.length ≤ b.length ∧ q.2.2.length ≤ 200) (fun q hq => by
        obtain ⟨f, s, body⟩ := q
        obtain ⟨h1, h2, h3⟩ := hq
        simp only at h1 h2 h3 ⊢
        obtain ⟨f, rfl⟩ : ∃ g, f = g + 1 := ⟨f - 1, by omega⟩
        have e2 := ichunks_size_ok s (by omega)
        have g1 := sizeB_n s
        have g2 := @sizeB_len s
        have g3 := (sizeB_suf s).length_le
        rw [chunksF]
        generalize sizeB s = x at e2 g1 g2 g3 ⊢
        obtain ⟨c, n, r⟩ := x
        simp only at e2 g1 g2 g3 ⊢
        by_cases hc : c = 0
        case neg =>
          rw [if_pos hc]
          refine .inr ⟨_, by simp, ?_, rfl⟩
          unfold chN
          rw [if_neg hc]
          simp -implicitDefEqProofs [iGetChunks_l0, e2, hc]
        subst hc
        rw [if_neg (by simp)]
        obtain ⟨n, rfl⟩ : ∃ k : Nat, n = k := ⟨n.toNat, by omega⟩
        have w1 : IntKind.i64.wrap ((body.length : Int) + (n : Int)) = (body.length : Int) + (n : Int) := wrI (by omega) (by omega)
        by_cases hb : 200 < (body.length : Int) + n
        · rw [if_pos hb]
          refine .inr ⟨_, by simp, ?_, rfl⟩
          unfold chN
          simp -implicitDefEqProofs [iGetChunks_l0, e2, w1, hb]
        rw [if_neg hb]
        by_cases hr : (r.length : Int) < n
        · rw [if_pos hr]
          refine .inr ⟨_, by simp, ?_, rfl⟩
          unfold chN
          simp -implicitDefEqProofs [iGetChunks_l0, e2, w1, hb, hr]
        rw [if_neg hr, Int.toNat_natCast]
        have hz : (0 : Int) = 0 → r.length + 2 ≤ s.length := g2
        have hr' : n ≤ r.length := by omega
        have e3 := ichunks_end_ok (r.drop n) (by rw [List.length_drop]; omega)
        have g4 := (endB_suf (r.drop n)).length_le
        have dt : (r.drop n).take (r.length - n) = r.drop n := List.take_of_length_le (by simp)
        have ht : (r.take n).length = n := by rw [List.length_take]; omega
        rw [List.length_drop] at g4
        generalize endB (r.drop n) = y at e3 g4 ⊢
        obtain ⟨c2, r2⟩ := y
        simp only at e3 g4 ⊢
        by_cases hc2 : c2 = 0
        case neg =>
          rw [if_pos hc2]
          refine .inr ⟨_, by simp, ?_, rfl⟩
          unfold chN
          rw [if_neg hc2]
          simp -implicitDefEqProofs [iGetChunks_l0, e2, e3, w1, hb, hr, hr', dt, hc2, (eq_true (by omega) : ((n : Int) ≤ (r.length : Int)) = True)]
          try omega
        subst hc2
        rw [if_neg (by simp)]
        have w2 : IntKind.i64.wrap ((b.length : Int) - (r2.length : Int)) = (b.length : Int) - (r2.length : Int) := wrI (by omega) (by omega)
        by_cases hn : (n : Int) = 0
        · rw [if_pos hn]
          obtain rfl : n = 0 := by omega
          refine .inr ⟨_, by simp, ?_, rfl⟩
          unfold chN
          rw [if_pos rfl]
          simp only [List.drop_zero] at e3
          have hb' : ((200 : Int) < (body.length : Int)) = False := eq_false (by omega)
          have w5 : IntKind.i64.wrap (body.length : Int) = (body.length : Int) := wrI (by omega) (by omega)
          simp -implicitDefEqProofs [iGetChunks_l0, e2, e3, w1, w2, w5, hb', (by omega : body.length ≤ 9223372036854775807)]
        · rw [if_neg hn]
          refine .inl ⟨(f, r2, body ++ r.take n), ?_, ⟨by have := hz rfl; simp only; omega, by simp only; omega, by simp only [List.length_append, ht]; omega⟩, by simp, rfl⟩
          simp -implicitDefEqProofs [iGetChunks_l0, e2, e3, w1, hb, hr, hr', dt, hn, (by omega : n ≠ 0), (eq_true (by omega) : ((n : Int) ≤ (r.length : Int)) = True)]
          try omega) ((b.drop k).length + 1, b.drop k, []) ⟨Nat.lt_succ_self _, by simp, by simp⟩
    unfold chunksB
    rw [Int.toNat_natCast]
    have dt : (b.drop k).take (b.length - k) = b.drop k := List.take_of_length_le (by simp)
    generalize chN b (chunksF ((b.drop k).length + 1) (b.drop k) []) = x at L ⊢
    simp -implicitDefEqProofs [iGetChunks_m, e1, L, dt, hk]
  · rw [if_neg ha]
    have : (decide (0 ≤ a) && decide (a ≤ (b.length : Int))) = false := by
      rw [Bool.eq_false_iff]; simpa using ha
    rw [this] at e1
    simp -implicitDefEqProofs [iGetChunks_m, e1]
theorem idxN_none1 {c : UInt8} {s : List UInt8} (h : idxN [c] s = none) (i : Nat) (hi : i < s.length) : s[i] ≠ c := by
  rw [idxN_one] at h
  simpa using List.findIdx?_eq_none_iff.1 h _ (List.getElem_mem hi)
theorem idxN_some1 {c : UInt8} {s : List UInt8} {k : Nat} (h : idxN [c] s = some k) : ∃ hk : k < s.length, s[k] = c ∧ ∀ i (hi : i < k), s[i]'(by omega) ≠ c := by
  rw [idxN_one] at h
  obtain ⟨h1, h2, h3⟩ := List.findIdx?_eq_some_iff_getElem.1 h
  exact ⟨h1, by simpa using h2, fun i hi => by simpa using h3 i hi⟩
theorem hexB_long {s : List UInt8} (h : 4 < s.length) : (hexB s).2 = false := by
  unfold hexB; rw [if_neg (by omega)]
/-- A piece's length and the place behind its line. -/
def pzN (b : List UInt8) (k : Nat) : Int × Int × Int := if (sizeB (b.drop k)).1 = 0 then ((sizeB (b.drop k)).2.1, (b.length : Int) - (sizeB (b.drop k)).2.2.length, 0) else (0, 0, (sizeB (b.drop k)).1)
abbrev i3R (x : Int × Int × Int) : Option (List (Option Ob) × RV) := some ([], .tup [.one (.fz (.i .i64 x.1)), .one (.fz (.i .i64 x.2.1)), .one (.fz (.i .i64 x.2.2))])
set_option maxHeartbeats 1000000 in
theorem sl4Size_ok (b : List UInt8) (k : Nat) (h : b.length ≤ 1099511627776) (hk : k ≤ b.length) : V sl4Size [.d (.sl .u8 b), i6 k] [] = i3R (pzN b k) := by
  rw [V_eq (fn := sl4Size_m) (by kernel_rfl)]
  have hsl : (b.drop k).length = b.length - k := List.length_drop
  have hget : ∀ i (hi : i < (b.drop k).length), b[k + i]? = some ((b.drop k)[i]) := fun i hi => by rw [List.getElem_drop]; exact get_some (by omega)
  have hgev : ∀ i (hi : i < (b.drop k).length) (hj : k + i < b.length), b[k + i] = (b.drop k)[i] := fun i hi hj => by rw [List.getElem_drop]
  unfold pzN
  generalize hs : b.drop k = s at hsl hget hgev ⊢
  have w5 : IntKind.i64.wrap ((k : Int) + 5) = (k : Int) + 5 := wrI (by omega) (by omega)
  have L := loop_firstI (X := V) (c := sl4Size_l0) (min s.length 5) (fun i => match s[i]? with | some x => decide (x = 13) | none => false) (fun i : Nat => ⟨[(7, i6 ((k + i : Nat) : Int)), (1, i6 k), (0, .d (.sl .u8 b))], []⟩) (fun i => (.ex 0, ⟨[(7, i6 ((k + i : Nat) : Int)), (1, i6 k), (0, .d (.sl .u8 b))], []⟩)) (.ex 0, ⟨[(7, i6 ((k + min s.length 5 : Nat) : Int)), (1, i6 k), (0, .d (.sl .u8 b))], []⟩) (by simp) (by simp)
    (fun i hi => by
      have hi' : i < s.length := by omega
      have g1 := hget i hi'
      have hlt : k + i < b.length := by omega
      have hlt5 : ((k + i : Nat) : Int) < (k : Int) + 5 := by omega
      have w1 : IntKind.i64.wrap (((k + i : Nat) : Int) + 1) = ((k + (i + 1) : Nat) : Int) := by rw [wrI (by omega) (by omega)]; omega
      have g2 : ∀ (hj : k + i < b.length), b[k + i] = s[i] := hgev i hi'
      rw [get_some hi']
      simp only
      generalize s[i] = x at g1 g2 ⊢
      generalize k + i = j at g1 g2 hlt hlt5 w1 ⊢
      generalize k + (i + 1) = j' at w1 ⊢
      by_cases hx : x = 13
      · simp -implicitDefEqProofs [sl4Size_l0, w5, hlt, hlt5, g1, g2, hx]
      · simp -implicitDefEqProofs [sl4Size_l0, w5, hlt, hlt5, g1, g2, hx, w1])
    (by
      rcases Nat.lt_or_ge s.length 5 with h5 | h5
      · rw [Nat.min_eq_left (by omega), show k + s.length = b.length by omega]
        simp -implicitDefEqProofs [sl4Size_l0, w5]
      · rw [Nat.min_eq_right h5]
        have hn : (((k + 5 : Nat) : Int) < (k : Int) + 5) = False := eq_false (by omega)
        by_cases h6 : ((k + 5 : Nat) : Int) < (b.length : Int)
        · generalize ((k + 5 : Nat) : Int) = j at hn h6 ⊢
          simp -implicitDefEqProofs [sl4Size_l0, w5, hn, h6]
        · generalize ((k + 5 : Nat) : Int) = j at hn h6 ⊢
          simp -implicitDefEqProofs [sl4Size_l0, w5, hn, h6])
  simp only [Nat.add_zero] at L
  have dts : ∀ i, (s.take i) = (b.take (k + i)).drop k := fun i => by rw [← hs, List.drop_take, Nat.add_sub_cancel_left]
  unfold sizeB
  cases hi : idxN [13] s with
  | none =>
    have hf : firstI (min s.length 5) (fun i => match s[i]? with | some x => decide (x = 13) | none => false) = none := firstI_of fun i hi' => by
      rw [get_some (by omega)]; simpa using idxN_none1 hi i (by omega)
    rw [hf] at L
    simp only at L ⊢
    rcases Nat.lt_or_ge s.length 5 with h5 | h5
    · rw [Nat.min_eq_left (by omega), show k + s.length = b.length by omega] at L
      have e1 := sParseHex_ok s (by omega)
      have q1 : ((b.length : Int) = (k : Int) + 5) = False := eq_false (by omega)
      have w1 : IntKind.i64.wrap ((b.length : Int) + 1) = (b.length : Int) + 1 := wrI (by omega) (by omega)
      have q2 : ((b.length : Int) ≤ (b.length : Int) + 1) = True := eq_true (by omega)
      by_cases hz : s = []
      · subst hz
        have hk' : k = b.length := by simp at hsl; omega
        subst hk'
        simp -implicitDefEqProofs [sl4Size_m, L, q1, q2, w1, w5]
      · have hp : 1 ≤ s.length := List.length_pos_iff.2 hz
        have q3 : ((k : Int) < (b.length : Int)) = True := eq_true (by omega)
        have q4 : ((k : Int) ≤ (b.length : Int)) = True := eq_true (by omega)
        have d1 : s.take (b.length - k) = s := List.take_of_length_le (by omega)
        generalize hexB s = x at e1 ⊢
        obtain ⟨n, t⟩ := x
        cases t
        · simp -implicitDefEqProofs [sl4Size_m, L, q1, q2, q3, q4, w1, w5, hs, d1, e1, hz]
        · simp -implicitDefEqProofs [sl4Size_m, L, q1, q2, q3, q4, w1, w5, hs, d1, e1, hz]
    · rw [Nat.min_eq_right h5] at L
      have q1 : (((k + 5 : Nat) : Int) = (k : Int) + 5) = True := eq_true (by omega)
      have hz : s ≠ [] := fun e => by subst e; simp at h5
      rw [hexB_long (by omega : 4 < s.length)]
      generalize ((k + 5 : Nat) : Int) = j at L q1
      simp -implicitDefEqProofs [sl4Size_m, L, q1, w5, hz]
  | some i =>
    obtain ⟨h1, h2, h3⟩ := idxN_some1 hi
    simp only
    rcases Nat.lt_or_ge i 5 with h5 | h5
    · have hf : firstI (min s.length 5) (fun i => match s[i]? with | some x => decide (x = 13) | none => false) = some i := firstI_eq (by omega) (by rw [get_some h1]; simpa using h2) fun j hj => by
        rw [get_some (by omega)]; simpa using h3 j hj
      rw [hf] at L
      simp only at L
      have e1 := sParseHex_ok (s.take i) (by rw [List.length_take]; omega)
      have q1 : (((k + i : Nat) : Int) = (k : Int) + 5) = False := eq_false (by omega)
      have q2 : (((k + i : Nat) : Int) < (b.length : Int)) = True := eq_true (by omega)
      have q3 : (((k + i : Nat) : Int) ≤ (b.length : Int)) = True := eq_true (by omega)
      have q4 : ((k : Int) ≤ ((k + i : Nat) : Int)) = True := eq_true (by omega)
      have w1 : IntKind.i64.wrap (((k + i : Nat) : Int) + 1) = ((k + i : Nat) : Int) + 1 := wrI (by omega) (by omega)
      have w2 : IntKind.i64.wrap (((k + i : Nat) : Int) + 2) = ((k + i : Nat) : Int) + 2 := wrI (by omega) (by omega)
      have d1 := (dts i).symm
      have d2 : (b.drop k).take (k + i - k) = s.take i := by rw [hs, Nat.add_sub_cancel_left]
      have d3 : s.drop i = 13 :: s.drop (i + 1) := by rw [drop_cons h1, h2]
      have n1 : (((k + i : Nat) : Int) + 1).toNat = k + i + 1 := by omega
      have n0 : ((0 : Int) ≤ ((k + i : Nat) : Int) + 1) = True := eq_true (by omega)
      rw [d3]
      generalize hexB (s.take i) = x at e1 ⊢
      obtain ⟨n, t⟩ := x
      rcases Nat.lt_or_ge (i + 1) s.length with h6 | h6
      · have g1 : b[k + i + 1]? = some s[i + 1] := by have := hget (i + 1) h6; rwa [← Nat.add_assoc] at this
        have q5 : (((k + i : Nat) : Int) + 1 < (b.length : Int)) = True := eq_true (by omega)
        have q6 : ((b.length : Int) ≤ ((k + i : Nat) : Int) + 1) = False := eq_false (by omega)
        have hlt : k + i + 1 < b.length := by omega
        have g2 : ∀ (hj : k + i + 1 < b.length), b[k + i + 1] = s[i + 1] := fun hj => hgev (i + 1) h6 (by omega)
        rw [drop_cons h6]
        unfold endB
        simp only [if_true]
        have hrest : ((k + i : Nat) : Int) + 2 = (b.length : Int) - ((s.drop (i + 1 + 1)).length : Int) := by rw [List.length_drop]; omega
        generalize s.drop (i + 1 + 1) = r at hrest ⊢
        have w2' : IntKind.i64.wrap (((k + i : Nat) : Int) + 2) = (b.length : Int) - (r.length : Int) := by rw [w2, hrest]
        generalize s[i + 1] = y at g1 g2 ⊢
        generalize s.take i = u at e1 d1 d2
        generalize hj : k + i = j at L q1 q2 q3 q4 q5 q6 w1 w2' d1 d2 n0 n1 g1 g2 hlt
        cases t
        · simp -implicitDefEqProofs [sl4Size_m, L, q1, q2, q3, q4, w1, w5, d1, d2, e1]
        · by_cases hy : y = 10
          · simp -implicitDefEqProofs [sl4Size_m, L, q1, q2, q3, q4, q5, q6, w1, w2', w5, d1, d2, e1, n0, n1, g1, g2, hlt, hy]
          · simp -implicitDefEqProofs [sl4Size_m, L, q1, q2, q3, q4, q5, q6, w1, w2', w5, d1, d2, e1, n0, n1, g1, g2, hlt, hy]
      · rw [List.drop_of_length_le h6, endB]
        simp only [if_true]
        have q6 : ((b.length : Int) ≤ ((k + i : Nat) : Int) + 1) = True := eq_true (by omega)
        generalize s.take i = u at e1 d1 d2
        generalize hj : k + i = j at L q1 q2 q3 q4 q6 w1 w2 d1 d2 n0 n1
        cases t
        · simp -implicitDefEqProofs [sl4Size_m, L, q1, q2, q3, q4, w1, w5, d1, d2, e1]
        · simp -implicitDefEqProofs [sl4Size_m, L, q1, q2, q3, q4, q6, w1, w2, w5, d1, d2, e1, n0, n1]
    · have hf : firstI (min s.length 5) (fun i => match s[i]? with | some x => decide (x = 13) | none => false) = none := firstI_of fun j hj => by
        rw [get_some (by omega)]; simpa using h3 j (by omega)
      rw [hf] at L
      simp only at L
      rw [Nat.min_eq_right (by omega)] at L
      have q1 : (((k + 5 : Nat) : Int) = (k : Int) + 5) = True := eq_true (by omega)
      rw [hexB_long (by rw [List.length_take]; omega : 4 < (s.take i).length)]
      generalize ((k + 5 : Nat) : Int) = j at L q1
      simp -implicitDefEqProofs [sl4Size_m, L, q1, w5]
theorem sl4End_ok (b : List UInt8) (k : Nat) (h : b.length ≤ 1099511627776) (hk : k ≤ b.length) : V sl4End [.d (.sl .u8 b), i6 k] [] = rI (endB (b.drop k)).1 := by
  rw [V_eq (fn := sl4End_m) (by kernel_rfl)]
  have w1 : IntKind.i64.wrap ((k : Int) + 1) = (k : Int) + 1 := wrI (by omega) (by omega)
  rcases Nat.lt_or_ge k b.length with h1 | h1
  · rw [drop_cons h1]
    unfold endB
    simp only
    have q1 : ((b.length : Int) ≤ (k : Int)) = False := eq_false (by omega)
    have n1 : ((k : Int) + 1).toNat = k + 1 := by omega
    have n0 : ((0 : Int) ≤ (k : Int) + 1) = True := eq_true (by omega)
    by_cases hb : b[k] = 13
    · rw [if_pos hb]
      rcases Nat.lt_or_ge (k + 1) b.length with h2 | h2
      · rw [drop_cons h2]
        simp only
        have q2 : ((b.length : Int) ≤ (k : Int) + 1) = False := eq_false (by omega)
        have q3 : ((k : Int) + 1 < (b.length : Int)) = True := eq_true (by omega)
        by_cases hc : b[k + 1] = 10
        · simp -implicitDefEqProofs [sl4End_m, q1, q2, q3, w1, n0, n1, h1, h2, get_some h1, get_some h2, hb, hc]
        · simp -implicitDefEqProofs [sl4End_m, q1, q2, q3, w1, n0, n1, h1, h2, get_some h1, get_some h2, hb, hc]
      · rw [List.drop_of_length_le h2]
        have q2 : ((b.length : Int) ≤ (k : Int) + 1) = True := eq_true (by omega)
        simp -implicitDefEqProofs [sl4End_m, q1, q2, w1, h1, get_some h1, hb]
    · rw [if_neg hb]
      simp -implicitDefEqProofs [sl4End_m, q1, h1, get_some h1, hb]
  · rw [List.drop_of_length_le h1]
    have q1 : ((b.length : Int) ≤ (k : Int)) = True := eq_true (by omega)
    simp -implicitDefEqProofs [sl4End_m, q1, endB]
end Go.Proofs.YtniakiefibpgmaaGreatDoorK
