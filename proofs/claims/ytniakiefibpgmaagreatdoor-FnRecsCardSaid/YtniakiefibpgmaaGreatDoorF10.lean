/- What the functions come to. -/
import Derived.Test.YtniakiefibpgmaaGreatDoorF9
set_option linter.unusedVariables false
set_option linter.unusedSimpArgs false
namespace Go.Proofs.YtniakiefibpgmaaGreatDoorK
open Go.RowKit
set_option maxHeartbeats 1000000 in
theorem sGetChunks_ok (b : List UInt8) (a : Int) (h : b.length ≤ 1099511627776) : V sGetChunks [.d (.sl .u8 b), i6 a] [] = ch3 (getChunksB b a) := by
  rw [V_eq (fn := sGetChunks_m) (by kernel_rfl)]
  have e1 := sl1In_ok a 0 b.length
  unfold getChunksB
  by_cases ha : 0 ≤ a ∧ a ≤ b.length
  · obtain ⟨k, rfl⟩ : ∃ k : Nat, a = k := ⟨a.toNat, by omega⟩
    have hk : k ≤ b.length := by omega
    rw [if_pos ha, decide_eq_true ha.1, decide_eq_true ha.2] at *
    have L := loop_rec (X := V) (c := sGetChunks_l0) (fun q : Nat × Nat × List UInt8 => ⟨[(7, .d (.s q.2.2)), (1, i6 q.2.1), (0, .d (.sl .u8 b))], []⟩)
      (fun q => some (.ret, ⟨[(6, i6 (chN b (chunksF q.1 (b.drop q.2.1) q.2.2)).2.2), (5, i6 (chN b (chunksF q.1 (b.drop q.2.1) q.2.2)).2.1), (4, .d (.s (chN b (chunksF q.1 (b.drop q.2.1) q.2.2)).1))], []⟩)) (fun q => q.1) (fun q => b.length - q.2.1 < q.1 ∧ q.2.1 ≤ b.length ∧ q.2.2.length ≤ 200) (fun q hq => by
        obtain ⟨f, k, body⟩ := q
        obtain ⟨h1, h2, h3⟩ := hq
        simp only at h1 h2 h3 ⊢
        obtain ⟨f, rfl⟩ : ∃ g, f = g + 1 := ⟨f - 1, by omega⟩
        have hbd : ((body.length : Int) ≤ 200) = True := eq_true (by omega)
        have e2 := sl4Size_ok b k h h2
        have g1 := sizeB_n (b.drop k)
        have g2 := @sizeB_len (b.drop k)
        have g3 := (sizeB_suf (b.drop k)).trans (List.drop_suffix k b)
        unfold pzN at e2
        rw [chunksF]
        rw [List.length_drop] at g2
        generalize sizeB (b.drop k) = x at e2 g1 g2 g3 ⊢
        obtain ⟨c, n, r⟩ := x
        simp only at e2 g1 g2 g3 ⊢
        have hrl := g3.length_le
        have hrd : b.drop (b.length - r.length) = r := (List.suffix_iff_eq_drop.1 g3).symm
        by_cases hc : c = 0
        case neg =>
          rw [if_pos hc]
          rw [if_neg hc] at e2
          refine .inr ⟨_, by simp, ?_, rfl⟩
          unfold chN
          rw [if_neg hc]
          simp -implicitDefEqProofs [sGetChunks_l0, hbd, e2, hc]
        subst hc
        rw [if_neg (by simp)]
        rw [if_pos rfl] at e2
        have g2' : r.length + 2 ≤ b.length - k := g2 rfl
        obtain ⟨n, rfl⟩ : ∃ k : Nat, n = k := ⟨n.toNat, by omega⟩
        obtain ⟨j, hj⟩ : ∃ j, j = b.length - r.length := ⟨_, rfl⟩
        have hj' : (b.length : Int) - (r.length : Int) = (j : Int) := by omega
        rw [hj'] at e2
        rw [← hj] at hrd
        have w0 : IntKind.i64.wrap ((b.length : Int) - (j : Int)) = (r.length : Int) := by rw [wrI (by omega) (by omega)]; omega
        have w1 : IntKind.i64.wrap ((body.length : Int) + (n : Int)) = (body.length : Int) + (n : Int) := wrI (by omega) (by omega)
        by_cases hb : 200 < (body.length : Int) + n
        · rw [if_pos hb]
          refine .inr ⟨_, by simp, ?_, rfl⟩
          unfold chN
          simp -implicitDefEqProofs [sGetChunks_l0, hbd, e2, w1, hb]
        rw [if_neg hb]
        by_cases hr : (r.length : Int) < n
        · rw [if_pos hr]
          refine .inr ⟨_, by simp, ?_, rfl⟩
          unfold chN
          simp -implicitDefEqProofs [sGetChunks_l0, hbd, e2, w0, w1, hb, hr]
        rw [if_neg hr, Int.toNat_natCast]
        have hr' : n ≤ r.length := by omega
        have hjn : j + n ≤ b.length := by omega
        have e3 := sl4End_ok b (j + n) h hjn
        rw [← List.drop_drop, hrd] at e3
        have w3 : IntKind.i64.wrap ((j : Int) + (n : Int)) = ((j + n : Nat) : Int) := by rw [wrI (by omega) (by omega)]; omega
        have w4 : IntKind.i64.wrap (((j + n : Nat) : Int) + 2) = ((j + n + 2 : Nat) : Int) := by rw [wrI (by omega) (by omega)]; omega
        have d1 : (b.take (j + n)).drop j = r.take n := by rw [List.drop_take, hrd, Nat.add_sub_cancel_left]
        have d2 : r.take (j + n - j) = r.take n := by rw [Nat.add_sub_cancel_left]
        have ht : (r.take n).length = n := by rw [List.length_take]; omega
        have q1 : ((j : Int) ≤ ((j + n : Nat) : Int)) = True := eq_true (by omega)
        have q2 : (((j + n : Nat) : Int) ≤ (b.length : Int)) = True := eq_true (by omega)
        have g5 := @endB_len (r.drop n)
        have g6 := (endB_suf (r.drop n)).trans ((List.drop_suffix n r).trans g3)
        rw [List.length_drop] at g5
        generalize endB (r.drop n) = y at e3 g5 g6 ⊢
        obtain ⟨c2, r2⟩ := y
        simp only at e3 g5 g6 ⊢
        generalize hu : r.take n = u at ht d1 d2 ⊢
        generalize hjj : j + n = jn at e3 w3 w4 d1 d2 q1 q2 hjn
        have hbl : body.length + u.length ≤ 9223372036854775807 := by omega
        by_cases hc2 : c2 = 0
        case neg =>
          rw [if_pos hc2]
          refine .inr ⟨_, by simp, ?_, rfl⟩
          unfold chN
          rw [if_neg hc2]
          simp -implicitDefEqProofs [sGetChunks_l0, hbd, e2, e3, w0, w1, w3, w4, hb, hr, d1, d2, hrd, q1, q2, hc2, hbl]
        subst hc2
        rw [if_neg (by simp)]
        have g5' : r2.length + 2 = r.length - n := g5 rfl
        have hr2 : b.drop (jn + 2) = r2 := by
          rw [List.suffix_iff_eq_drop.1 g6]
          congr 1; omega
        have w4' : ((jn + 2 : Nat) : Int) = (b.length : Int) - (r2.length : Int) := by omega
        by_cases hn : (n : Int) = 0
        · rw [if_pos hn]
          obtain rfl : n = 0 := by omega
          refine .inr ⟨_, by simp, ?_, rfl⟩
          unfold chN
          rw [if_pos rfl]
          simp only
          obtain rfl : u = [] := List.eq_nil_of_length_eq_zero ht
          obtain rfl : jn = j := by omega
          have hb' : ((200 : Int) < (body.length : Int)) = False := eq_false (by omega)
          have w5 : IntKind.i64.wrap (body.length : Int) = (body.length : Int) := wrI (by omega) (by omega)
          have w6 : IntKind.i64.wrap (jn : Int) = (jn : Int) := wrI (by omega) (by omega)
          rw [← w4']
          simp -implicitDefEqProofs [sGetChunks_l0, hbd, e2, e3, w0, w1, w4, w5, w6, hb', d1, hrd, q2]
          omega
        · rw [if_neg hn]
          have hnn : n ≠ 0 := by omega
          refine .inl ⟨(f, jn + 2, body ++ u), ?_, ⟨by simp only; omega, by simp only; omega, by simp only [List.length_append]; omega⟩, by simp, by simp only [hr2]⟩
          simp -implicitDefEqProofs [sGetChunks_l0, hbd, e2, e3, w0, w1, w3, w4, hb, hr, d1, d2, hrd, q1, q2, hn, hnn, hbl]) ((b.drop k).length + 1, k, []) ⟨by simp only [List.length_drop]; omega, hk, by simp⟩
    unfold chunksB
    rw [Int.toNat_natCast]
    generalize chN b (chunksF ((b.drop k).length + 1) (b.drop k) []) = x at L ⊢
    simp -implicitDefEqProofs [sGetChunks_m, e1, L]
  · rw [if_neg ha]
    have : (decide (0 ≤ a) && decide (a ≤ (b.length : Int))) = false := by
      rw [Bool.eq_false_iff]; simpa using ha
    rw [this] at e1
    simp -implicitDefEqProofs [sGetChunks_m, e1]
abbrev RhT := T.den TreqHead
abbrev rhO (r : RhT) : Ob := .ls TreqHead false [r] 0 []
abbrev rhV (m p b : List UInt8) (h : HdS) : RhT := ((m, p, h.hs, b), h.cod, h.ch, h.len, h.sz, h.bad)
theorem ireqHead_special_ok (m p b : List UInt8) (h : HdS) (n v : List UInt8) (hv : v.length ≤ 1099511627776) : V ireqHead_special [.p 0 0 0, .d (.s n), .d (.s v)] [rhO (rhV m p b h)] = some ([some (rhO (rhV m p b (iSp h n v)))], noR) := by
  rw [V_eq (fn := ireqHead_special_m) (by kernel_rfl)]
  have e1 := iParseNum_ok v 9999999 hv
  obtain ⟨hs, cod, ch, len, sz, bad⟩ := h
  unfold iSp
  simp only
  generalize parseB v 9999999 = x at e1 ⊢
  obtain ⟨x1, x2⟩ := x
  cases ch
  · cases sz
    · by_cases hn : n = codingN
      · simp -implicitDefEqProofs [ireqHead_special_m, hn]
      · cases bad <;> cases x2 <;> simp -implicitDefEqProofs [ireqHead_special_m, hn, e1]
    · simp -implicitDefEqProofs [ireqHead_special_m]
  · simp -implicitDefEqProofs [ireqHead_special_m]
theorem ireqHead_line_ok (m p b : List UInt8) (h : HdS) (s : List UInt8) (hs : s.length < 4294967281) (hl : h.hs.length ≤ 1099511627776) : V ireqHead_line [.p 0 0 0, .d (.s s)] [rhO (rhV m p b h)] = some ([some (rhO (rhV m p b (iLn h s)))], noR) := by
  rw [V_eq (fn := ireqHead_line_m) (by kernel_rfl)]
  have e0 := cut_ok s [58] hs
  unfold cutB at e0
  unfold iLn lineHd
  cases hi : idxN [58] s with
  | none =>
    rw [hi] at e0
    simp only at e0 ⊢
    have e1 := iLower_ok s (by omega)
    have e2 := iTrim_ok [] (by simp)
    simp -implicitDefEqProofs [ireqHead_line_m, e0, e1, e2]
  | some i =>
    rw [hi] at e0
    simp only [List.length_cons, List.length_nil, Nat.zero_add] at e0 ⊢
    have hlt := idxN_lt (by decide) hi
    simp only [List.length_cons, List.length_nil] at hlt
    have e1 := iLower_ok (s.take i) (by rw [List.length_take]; omega)
    have e2 := iTrim_ok (s.drop (i + 1)) (by rw [List.length_drop]; omega)
    have k1 : (lowerB (s.take i)).length ≤ 1099511627776 := by unfold lowerB; rw [List.length_map, List.length_take]; omega
    have k2 : (trimL (trimR (s.drop (i + 1)))).length ≤ 1099511627776 := by have := Nat.le_trans (trimL_le _) (trimR_le (s.drop (i + 1))); rw [List.length_drop] at this; omega
    generalize lowerB (s.take i) = n at e1 k1 ⊢
    generalize trimL (trimR (s.drop (i + 1))) = v at e2 k2 ⊢
    have e3 := iSmallName_ok n (by omega)
    have e4 := ivalOk_ok v (by omega)
    cases t1 : smallB n
    · rw [t1] at e3
      simp -implicitDefEqProofs [ireqHead_line_m, e0, e1, e2, e3]
    cases t2 : valB v
    · rw [t1] at e3; rw [t2] at e4
      simp -implicitDefEqProofs [ireqHead_line_m, e0, e1, e2, e3, e4]
    rw [t1] at e3; rw [t2] at e4
    simp only [Bool.and_self, if_true]
    have e5 := ireqHead_special_ok m p b h n v k2
    by_cases h1 : n = lengthN
    · subst h1
      generalize iSp h lengthN v = y at e5 ⊢
      obtain ⟨y1, y2, y3, y4, y5, y6⟩ := y
      obtain ⟨z1, z2, z3, z4, z5, z6⟩ := h
      simp -implicitDefEqProofs [ireqHead_line_m, e0, e1, e2, e3, e4, e5]
    by_cases h2 : n = codingN
    · subst h2
      generalize iSp h codingN v = y at e5 ⊢
      obtain ⟨y1, y2, y3, y4, y5, y6⟩ := y
      obtain ⟨z1, z2, z3, z4, z5, z6⟩ := h
      simp -implicitDefEqProofs [ireqHead_line_m, e0, e1, e2, e3, e4, e5]
    · obtain ⟨z1, z2, z3, z4, z5, z6⟩ := h
      simp only at hl
      simp -implicitDefEqProofs [ireqHead_line_m, e0, e1, e2, e3, e4, h1, h2, take_snoc_all rfl]
      omega
theorem iLn_bd (h : HdS) (s : List UInt8) : (iLn h s).hs.length ≤ h.hs.length + 1 ∧ (iLn h s).cod.length ≤ max h.cod.length s.length := by
  unfold iLn iSp
  cases hl : lineHd s with
  | none => exact ⟨Nat.le_succ _, Nat.le_max_left _ _⟩
  | some q =>
    obtain ⟨n, v⟩ := q
    simp only
    have hv : v.length ≤ s.length := by
      unfold lineHd at hl
      cases hi : idxN [58] s with
      | none => rw [hi] at hl; cases hl
      | some i =>
        rw [hi] at hl
        simp only at hl
        split at hl
        · injection hl with hl; injection hl with _ hl
          have := Nat.le_trans (trimL_le _) (trimR_le (s.drop (i + 1)))
          rw [hl, List.length_drop] at this; omega
        · cases hl
    split
    · split
      · exact ⟨Nat.le_succ _, Nat.le_max_left _ _⟩
      · split
        · exact ⟨Nat.le_succ _, by simp only; omega⟩
        · exact ⟨Nat.le_succ _, Nat.le_max_left _ _⟩
    · exact ⟨by simp, Nat.le_max_left _ _⟩
theorem foldl_bd (M : Nat) : ∀ (l : List (List UInt8)) (h : HdS), (∀ x ∈ l, x.length ≤ M) → h.cod.length ≤ M → (l.foldl iLn h).hs.length ≤ h.hs.length + l.length ∧ (l.foldl iLn h).cod.length ≤ M
  | [], h, _, hc => ⟨by simp, hc⟩
  | x :: l, h, hx, hc => by
    have h1 := iLn_bd h x
    have h2 := hx x (List.mem_cons_self ..)
    have ih := foldl_bd M l (iLn h x) (fun y hy => hx y (List.mem_cons_of_mem _ hy)) (by omega)
    simp only [List.foldl_cons, List.length_cons]
    exact ⟨by omega, ih.2⟩
abbrev hdR (r : RhT) (c : Int) : Option (List (Option Ob) × RV) := some ([], .tup [.agg [.fz (.s r.1.1), .fz (.s r.1.2.1), .own (.sl THead r.1.2.2.1), .fz (.s r.1.2.2.2), .fz (.s r.2.1), .fz (.b r.2.2.1), .fz (.i .i64 r.2.2.2.1), .fz (.b r.2.2.2.2.1), .fz (.b r.2.2.2.2.2)], .one (.fz (.i .i64 c))])
def hdRow (s : List UInt8) : RhT := match headB0 s with | none => rhV [] [] [] hd0 | some q => rhV q.1 q.2 [] (foldB s)
theorem ireadHead_ok (s : List UInt8) (h : s.length ≤ 1000000000) : V ireadHead [.d (.s s)] [] = hdR (hdRow s) (codeB s) := by
  rw [V_eq (fn := ireadHead_m) (by kernel_rfl)]
  have e0 := split_ok s [13, 10] (by omega)
  obtain ⟨hl0, hl1, hl2⟩ := lnC_len s
  have e1 := split_ok (lnC s).1 [32] (by omega)
  have hm := fun l (hl : l ∈ splitC 32 (lnC s).1) => splitC_mem hl
  unfold hdRow codeB foldB headB0
  simp only [splitB, Option.map_some] at e0 e1
  unfold linesB at e0
  have hfb := foldl_bd s.length (lnC s).2 hd0 hl1 (by simp)
  simp only [List.length_nil, Nat.zero_add] at hfb
  generalize (lnC s).2 = ls at e0 hl1 hl2 hfb ⊢
  generalize (lnC s).1 = l0 at e0 e1 hl0 hm ⊢
  generalize splitC 32 l0 = q at e1 hm ⊢
  by_cases h3 : q.length = 3
  · match q, h3 with
    | [m, p, v], _ =>
      have e2 := ilineOk_ok m p (by have := hm m (by simp); omega) (by have := hm p (by simp); omega)
      simp only
      by_cases hv : v = httpT
      case neg =>
        rw [if_neg (fun e => hv e.1)]
        simp -implicitDefEqProofs [ireadHead_m, e0, e1, hv]
      subst hv
      cases hlb : lineB m p with
      | false =>
        rw [hlb] at e2
        rw [if_neg (by simp)]
        simp -implicitDefEqProofs [ireadHead_m, e0, e1, e2]
      | true =>
        rw [hlb] at e2
        rw [if_pos ⟨rfl, rfl⟩]
        simp only
        have L := loop_each (X := V) (c := ireadHead_l0) ls.length (fun i : Nat => ⟨[(48, i6 i), (47, i6 ls.length), (46, .d (.sl .str ls)), (6, .p 70 0 0), (2, .p 66 0 0)], [(70, rhO (rhV m p [] ((ls.take i).foldl iLn hd0))), (66, rhO (rhV [] [] [] hd0))]⟩) (.ex 0, ⟨[(6, .p 70 0 0), (2, .p 66 0 0)], [(70, rhO (rhV m p [] (ls.foldl iLn hd0))), (66, rhO (rhV [] [] [] hd0))]⟩) (by simp)
          (fun i hi => by
            have hb := (foldl_bd s.length (ls.take i) hd0 (fun x hx => hl1 x (List.mem_of_mem_take hx)) (by simp)).1
            have hli := hl1 ls[i] (List.getElem_mem hi)
            rw [take_snoc hi, List.foldl_append, List.foldl_cons, List.foldl_nil]
            rw [List.length_take] at hb
            simp only [List.length_nil] at hb
            generalize (ls.take i).foldl iLn hd0 = g at hb ⊢
            have e := ireqHead_line_ok m p [] g ls[i] (by omega) (by omega)
            simp -implicitDefEqProofs [ireadHead_l0, hi, get_some hi, e, wrap_succ hi (by omega)])
          (by rw [List.take_length]; simp -implicitDefEqProofs [ireadHead_l0])
        simp only [Int.natCast_zero, List.take_zero, List.foldl_nil] at L
        generalize ls.foldl iLn hd0 = g at L hfb ⊢
        have e3 := iLower_ok g.cod (by omega)
        obtain ⟨hs, cod, ch, len, sz, bad⟩ := g
        simp only at e3 hfb
        have q0 : (1 : Int) ≤ (ls.length : Int) + 1 := by omega
        unfold iFin
        simp only
        cases bad
        case true => simp -implicitDefEqProofs [ireadHead_m, e0, e1, e2, q0, L]
        by_cases h8 : 8 < hs.length
        · simp -implicitDefEqProofs [ireadHead_m, e0, e1, e2, q0, L, h8, (eq_true (by omega) : ((8 : Int) < (hs.length : Int)) = True)]
        generalize lowerB cod = y at e3 ⊢
        have h8' : ((8 : Int) < (hs.length : Int)) = False := eq_false (by omega)
        cases ch
        · by_cases h200 : 200 < len
          · simp -implicitDefEqProofs [ireadHead_m, e0, e1, e2, q0, L, h8, h8', h200]
          · simp -implicitDefEqProofs [ireadHead_m, e0, e1, e2, q0, L, h8, h8', h200]
        · by_cases hy : y = chunkedT
          · by_cases h200 : 200 < len
            · simp -implicitDefEqProofs [ireadHead_m, e0, e1, e2, e3, q0, L, h8, h8', h200, hy]
            · simp -implicitDefEqProofs [ireadHead_m, e0, e1, e2, e3, q0, L, h8, h8', h200, hy]
          · simp -implicitDefEqProofs [ireadHead_m, e0, e1, e2, e3, q0, L, h8, h8', hy]
  · have h3' : ((q.length : Int) = 3) = False := eq_false (by omega)
    rcases q with _ | ⟨m, _ | ⟨p, _ | ⟨v, _ | ⟨w, l⟩⟩⟩⟩
    · simp -implicitDefEqProofs [ireadHead_m, e0, e1]
    · simp -implicitDefEqProofs [ireadHead_m, e0, e1]
    · simp -implicitDefEqProofs [ireadHead_m, e0, e1]
    · simp at h3
    · have h4 : ((l.length : Int) + 1 + 1 + 1 + 1 = 3) = False := eq_false (by omega)
      simp -implicitDefEqProofs [ireadHead_m, e0, e1, h4]
theorem fold_len : ∀ (l : List (List UInt8)) (h : HdS), 0 ≤ h.len → 0 ≤ (l.foldl iLn h).len
  | [], _, h => h
  | x :: l, g, h => by
    refine fold_len l (iLn g x) ?_
    unfold iLn iSp
    split
    · exact h
    · split
      · split
        · exact h
        · split
          · exact h
          · exact (parseB_bd _ _).1
      · exact h
theorem codeB_ok {s : List UInt8} (h : codeB s = 0) : ∃ m p, headB0 s = some (m, p) ∧ iFin (foldB s) = 0 ∧ (foldB s).bad = false ∧ 0 ≤ (foldB s).len ∧ (foldB s).len ≤ 200 := by
  unfold codeB at h
  cases hq : headB0 s with
  | none => rw [hq] at h; cases h
  | some q =>
    rw [hq] at h
    simp only at h
    refine ⟨q.1, q.2, rfl, h, ?_⟩
    have h0 : 0 ≤ (foldB s).len := fold_len _ _ (by simp)
    unfold iFin at h
    split at h
    · cases h
    · rename_i hb
      split at h
      · cases h
      · split at h
        · cases h
        · split at h
          · cases h
          · exact ⟨by simpa using hb, h0, by omega⟩
abbrev reqR (q : ReqD × Int × Int) : Option (List (Option Ob) × RV) := some ([], .tup [.agg [.fz (.s q.1.1), .fz (.s q.1.2.1), .own (.sl THead q.1.2.2.1), .fz (.s q.1.2.2.2)], .one (.fz (.i .i64 q.2.1)), .one (.fz (.i .i64 q.2.2))])
theorem getReqB_none {b : List UInt8} (h : idxN crlf2 (b.take 400) = none) : getReqB b = (zR, 0, if 400 < b.length then 431 else 1) := by unfold getReqB; rw [h]
theorem getReqB_bad {b : List UInt8} {k : Nat} (h : idxN crlf2 (b.take 400) = some k) (hc : codeB (b.take k) ≠ 0) : getReqB b = (zR, 0, codeB (b.take k)) := by
  unfold getReqB
  rw [h]
  unfold codeB at hc ⊢
  simp only
  cases hq : headB0 (b.take k) with
  | none => rfl
  | some q => rw [hq] at hc; simp only at hc ⊢; rw [if_pos hc]
theorem getReqB_ok {b : List UInt8} {k : Nat} {m p : List UInt8} (h : idxN crlf2 (b.take 400) = some k) (h1 : headB0 (b.take k) = some (m, p)) (h2 : iFin (foldB (b.take k)) = 0) :
    getReqB b = if (foldB (b.take k)).ch = true then
        if (chunksB (b.drop (k + 4))).2.2 ≠ 0 then (zR, 0, (chunksB (b.drop (k + 4))).2.2)
        else ((m, p, (foldB (b.take k)).hs, (chunksB (b.drop (k + 4))).1), (b.length : Int) - (chunksB (b.drop (k + 4))).2.1.length, 0)
      else if (b.length : Int) < ((k + 4 : Nat) : Int) + (foldB (b.take k)).len then (zR, 0, 1)
      else ((m, p, (foldB (b.take k)).hs, (b.drop (k + 4)).take (foldB (b.take k)).len.toNat), ((k + 4 : Nat) : Int) + (foldB (b.take k)).len, 0) := by
  unfold getReqB
  rw [h]
  simp only
  rw [h1]
  simp only
  rw [if_neg (by simp [h2])]
set_option maxHeartbeats 1000000 in
theorem iGetReq_ok (b : List UInt8) (h : b.length ≤ 1000000000) : V iGetReq [.d (.sl .u8 b)] [] = reqR (getReqB b) := by
  rw [V_eq (fn := iGetReq_m) (by kernel_rfl)]
  have e0 := iHeadEnd_ok b (by omega)
  unfold hendI at e0
  cases hi : idxN crlf2 (b.take 400) with
  | none =>
    rw [hi] at e0
    rw [getReqB_none hi]
    simp only at e0 ⊢
    by_cases h4 : 400 < b.length
    · simp -implicitDefEqProofs [iGetReq_m, e0, h4, (eq_true (by omega) : ((400 : Int) < (b.length : Int)) = True)]
    · simp -implicitDefEqProofs [iGetReq_m, e0, h4, (eq_false (by omega) : ((400 : Int) < (b.length : Int)) = False)]
  | some k =>
    rw [hi] at e0
    simp only at e0
    have hk := idxN_lt (by decide) hi
    simp only [List.length_cons, List.length_nil, List.length_take] at hk
    have e1 := ireadHead_ok (b.take k) (by rw [List.length_take]; omega)
    have w4 : IntKind.i64.wrap ((k : Int) + 4 - 4) = (k : Int) := by rw [wrI (by omega) (by omega)]; omega
    have w5 : IntKind.i64.wrap (k : Int) = (k : Int) := wrI (by omega) (by omega)
    have s4 : (k : Int) + 4 - 4 = (k : Int) := by omega
    have q0 : ((k : Int) + 4 < 0) = False := eq_false (by omega)
    have q1 : ((k : Int) ≤ (b.length : Int)) = True := eq_true (by omega)
    have q2 : k ≤ b.length := by omega
    by_cases hc : codeB (b.take k) = 0
    case neg =>
      rw [getReqB_bad hi hc]
      generalize codeB (b.take k) = c at e1 hc ⊢
      generalize hdRow (b.take k) = r at e1
      obtain ⟨⟨r1, r2, r3, r4⟩, r5, r6, r7, r8, r9⟩ := r
      simp -implicitDefEqProofs [iGetReq_m, e0, e1, w4, w5, s4, q0, q1, q2, hc]
    · obtain ⟨m, p, hh, hf, _, hl0, hl1⟩ := codeB_ok hc
      rw [getReqB_ok hi hh hf]
      have e2 := iGetChunks_ok b ((k + 4 : Nat) : Int) (by omega)
      unfold getChunksB at e2
      rw [if_pos ⟨by omega, by omega⟩, Int.toNat_natCast] at e2
      unfold hdRow at e1
      rw [hh, hc] at e1
      simp only at e1
      have hcc : ((k + 4 : Nat) : Int) = (k : Int) + 4 := by omega
      have dt : (b.drop (k + 4)).take (b.length - (k + 4)) = b.drop (k + 4) := List.take_of_length_le (by simp)
      generalize foldB (b.take k) = g at e1 hl0 hl1 ⊢
      obtain ⟨hs, cod, ch, len, sz, bad⟩ := g
      simp only at hl0 hl1 e1 ⊢
      obtain ⟨n, rfl⟩ : ∃ n : Nat, len = n := ⟨len.toNat, by omega⟩
      have w1 : IntKind.i64.wrap ((k : Int) + 4 + (n : Int)) = (k : Int) + 4 + (n : Int) := wrI (by omega) (by omega)
      rw [hcc] at e2 ⊢
      cases ch
      · simp only [Bool.false_eq_true, if_false]
        by_cases hn : (b.length : Int) < (k : Int) + 4 + (n : Int)
        · rw [if_pos hn]
          simp -implicitDefEqProofs [iGetReq_m, e0, e1, w1, w4, w5, s4, q0, q1, q2, hn]
        · rw [if_neg hn, Int.toNat_natCast]
          have q3 : ((0 : Int) ≤ (k : Int) + 4) = True := eq_true (by omega)
          have q4 : ((k : Int) + 4 ≤ (k : Int) + 4 + (n : Int)) = True := eq_true (by omega)
          have q5 : ((k : Int) + 4 + (n : Int) ≤ (b.length : Int)) = True := eq_true (by omega)
          have n1 : ((k : Int) + 4).toNat = k + 4 := by omega
          have n2 : ((k : Int) + 4 + (n : Int)).toNat = k + 4 + n := by omega
          have d1 : (b.take (k + 4 + n)).drop (k + 4) = (b.drop (k + 4)).take n := by rw [List.drop_take, Nat.add_sub_cancel_left]
          have d2 : (b.drop (k + 4)).take (k + 4 + n - (k + 4)) = (b.drop (k + 4)).take n := by rw [Nat.add_sub_cancel_left]
          simp -implicitDefEqProofs [iGetReq_m, e0, e1, w1, w4, w5, s4, q0, q1, q2, q3, q4, q5, n1, n2, d1, d2, hn]
      · simp only [if_true]
        unfold chN at e2
        generalize chunksB (b.drop (k + 4)) = x at e2 ⊢
        obtain ⟨x1, x2, x3⟩ := x
        simp only at e2 ⊢
        by_cases hx : x3 = 0
        · subst hx
          rw [if_pos rfl] at e2
          rw [if_neg (by simp)]
          simp -implicitDefEqProofs [iGetReq_m, e0, e1, e2, w1, w4, w5, s4, q0, q1, q2]
        · rw [if_neg hx] at e2
          rw [if_pos hx]
          simp -implicitDefEqProofs [iGetReq_m, e0, e1, e2, w1, w4, w5, s4, q0, q1, q2, hx]
abbrev reqRf (q : ReqD × Int × Int) : Option (List (Option Ob) × RV) := some ([], .tup [.agg [.fz (.s q.1.1), .fz (.s q.1.2.1), .fz (.sl THead q.1.2.2.1), .fz (.s q.1.2.2.2)], .one (.fz (.i .i64 q.2.1)), .one (.fz (.i .i64 q.2.2))])
set_option maxHeartbeats 1000000 in
theorem sGetReq_ok (b : List UInt8) (h : b.length ≤ 1000000000) : V sGetReq [.d (.sl .u8 b)] [] = reqRf (getReqB b) := by
  rw [V_eq (fn := sGetReq_m) (by kernel_rfl)]
  have e0 := sHeadEnd_ok b (by omega)
  unfold hendI at e0
  cases hi : idxN crlf2 (b.take 400) with
  | none =>
    rw [hi] at e0
    rw [getReqB_none hi]
    simp only at e0 ⊢
    by_cases h4 : 400 < b.length
    · simp -implicitDefEqProofs [sGetReq_m, e0, h4, (eq_false (by omega) : ((b.length : Int) ≤ 400) = False)]
    · simp -implicitDefEqProofs [sGetReq_m, e0, h4, (eq_true (by omega) : ((b.length : Int) ≤ 400) = True)]
  | some k =>
    rw [hi] at e0
    simp only at e0
    have hk := idxN_lt (by decide) hi
    simp only [List.length_cons, List.length_nil, List.length_take] at hk
    obtain ⟨row, e1, hrow⟩ := sl3Read_ok (b.take k) (by rw [List.length_take]; omega)
    simp only [frV, Int.natCast_zero] at e1
    have w4 : IntKind.i64.wrap ((k : Int) + 4 - 4) = (k : Int) := by rw [wrI (by omega) (by omega)]; omega
    have w5 : IntKind.i64.wrap (k : Int) = (k : Int) := wrI (by omega) (by omega)
    have s4 : (k : Int) + 4 - 4 = (k : Int) := by omega
    have q0 : ((k : Int) + 4 < 0) = False := eq_false (by omega)
    have q1 : ((k : Int) ≤ (b.length : Int)) = True := eq_true (by omega)
    have q2 : k ≤ b.length := by omega
    by_cases hc : codeB (b.take k) = 0
    case neg =>
      rw [getReqB_bad hi hc]
      generalize codeB (b.take k) = c at e1 hc ⊢
      obtain ⟨⟨r1, r2, r3, r4⟩, r5, r6, r7⟩ := row
      simp -implicitDefEqProofs [sGetReq_m, e0, e1, w4, w5, s4, q0, q1, q2, hc]
    · obtain ⟨m', p', g, cs, hh, hg, rfl⟩ := hrow hc
      obtain ⟨m, p, hh', hf, hbad, hl0, hl1⟩ := codeB_ok hc
      rw [hh] at hh'
      obtain ⟨rfl, rfl⟩ : m' = m ∧ p' = p := by injection hh' with e; injection e with e e'; exact ⟨e, e'⟩
      rw [getReqB_ok hi hh hf]
      rw [hc] at e1
      have e2 := sGetChunks_ok b ((k + 4 : Nat) : Int) (by omega)
      unfold getChunksB at e2
      rw [if_pos ⟨by omega, by omega⟩, Int.toNat_natCast] at e2
      have hrel := rel_all (lnC (b.take k)).2 hd0 sd0 rfl rel0
      rw [hg] at hrel
      change Rel (foldB (b.take k)) (some g) at hrel
      rcases hrel with ⟨hb1, _⟩ | ⟨_, g', hg', r1, _, _, _, r5⟩
      · rw [hbad] at hb1; cases hb1
      obtain rfl : g = g' := Option.some.inj hg'
      have hcc : ((k + 4 : Nat) : Int) = (k : Int) + 4 := by omega
      generalize foldB (b.take k) = y at hl0 hl1 r1 r5 ⊢
      obtain ⟨hs, cod, ch, len, sz, bad⟩ := y
      obtain ⟨ghs, gsize, gtold, gcs⟩ := g
      simp only at hl0 hl1 r1 r5 e1 ⊢
      subst r1
      obtain ⟨n, rfl⟩ : ∃ n : Nat, len = n := ⟨len.toNat, by omega⟩
      rw [hcc] at e2 ⊢
      have w0 : IntKind.i64.wrap ((b.length : Int) - ((k : Int) + 4)) = (b.length : Int) - ((k : Int) + 4) := wrI (by omega) (by omega)
      cases ch
      · obtain rfl : gsize = n := by
          rcases r5 with ⟨_, _, _, a, c⟩ | ⟨_, _, _, a⟩ | ⟨a, _⟩
          · omega
          · exact a
          · cases a
        simp only [Bool.false_eq_true, if_false]
        have w1 : IntKind.i64.wrap ((k : Int) + 4 + (n : Int)) = (k : Int) + 4 + (n : Int) := wrI (by omega) (by omega)
        have z0 : ((n : Int) < 0) = False := eq_false (by omega)
        by_cases hn : (b.length : Int) < (k : Int) + 4 + (n : Int)
        · rw [if_pos hn]
          have hn' : ((b.length : Int) - ((k : Int) + 4) < (n : Int)) = True := eq_true (by omega)
          simp -implicitDefEqProofs [sGetReq_m, e0, e1, w0, w4, w5, s4, q0, q1, q2, hn', z0]
        · rw [if_neg hn, Int.toNat_natCast]
          have hn' : ((b.length : Int) - ((k : Int) + 4) < (n : Int)) = False := eq_false (by omega)
          have q3 : ((0 : Int) ≤ (k : Int) + 4) = True := eq_true (by omega)
          have q4 : ((k : Int) + 4 ≤ (k : Int) + 4 + (n : Int)) = True := eq_true (by omega)
          have q5 : ((k : Int) + 4 + (n : Int) ≤ (b.length : Int)) = True := eq_true (by omega)
          have n1 : ((k : Int) + 4).toNat = k + 4 := by omega
          have n2 : ((k : Int) + 4 + (n : Int)).toNat = k + 4 + n := by omega
          have d1 : (b.take (k + 4 + n)).drop (k + 4) = (b.drop (k + 4)).take n := by rw [List.drop_take, Nat.add_sub_cancel_left]
          have d2 : (b.drop (k + 4)).take (k + 4 + n - (k + 4)) = (b.drop (k + 4)).take n := by rw [Nat.add_sub_cancel_left]
          simp -implicitDefEqProofs [sGetReq_m, e0, e1, w0, w1, w4, w5, s4, q0, q1, q2, q3, q4, q5, n1, n2, d1, d2, hn', z0]
      · obtain rfl : gsize = -1 := by
          rcases r5 with ⟨a, _⟩ | ⟨a, _⟩ | ⟨_, _, _, a, _⟩
          · cases a
          · cases a
          · exact a
        simp only [if_true]
        unfold chN at e2
        generalize chunksB (b.drop (k + 4)) = x at e2 ⊢
        obtain ⟨x1, x2, x3⟩ := x
        simp only at e2 ⊢
        by_cases hx : x3 = 0
        · subst hx
          rw [if_pos rfl] at e2
          rw [if_neg (by simp)]
          simp -implicitDefEqProofs [sGetReq_m, e0, e1, e2, w0, w4, w5, s4, q0, q1, q2]
        · rw [if_neg hx] at e2
          rw [if_pos hx]
          simp -implicitDefEqProofs [sGetReq_m, e0, e1, e2, w0, w4, w5, s4, q0, q1, q2, hx]
end Go.Proofs.YtniakiefibpgmaaGreatDoorK
