/- What the functions come to. -/
import Derived.Test.YtniakiefibpgmaaGreatDoorF15
set_option linter.unusedVariables false
set_option linter.unusedSimpArgs false
namespace Go.Proofs.YtniakiefibpgmaaGreatDoorK
open Go.RowKit
theorem isameHeads_refl (l : List HeadD) (hl : szT (.sl THead) l ≤ 1099511627776) : V isameHeads [.d (.sl THead l), .d (.sl THead l)] [] = rB true := by
  rw [V_eq (fn := isameHeads_m) (by kernel_rfl)]
  have hn := szLen (t := THead) (l := l)
  have L := loop_each (X := V) (c := isameHeads_l0) l.length (fun i : Nat => ⟨[(13, i6 i), (12, i6 l.length), (1, .d (.sl THead l)), (0, .d (.sl THead l))], []⟩) (.ex 0, ⟨[], []⟩) (by simp)
    (fun i hi => by simp -implicitDefEqProofs [isameHeads_l0, hi, get_some hi, eqL, eqD, wrap_succ hi (by omega)])
    (by simp -implicitDefEqProofs [isameHeads_l0])
  simp only [Int.natCast_zero] at L
  simp -implicitDefEqProofs [isameHeads_m, L]
theorem iSameReq_refl (r : ReqD) (h : szR r ≤ 1099511627776) : V iSameReq [reqA r, reqA r] [] = rB true := by
  rw [V_eq (fn := iSameReq_m) (by kernel_rfl)]
  obtain ⟨m, p, hs, bd⟩ := r
  simp only [szR] at h
  have e := isameHeads_refl hs (by omega)
  simp -implicitDefEqProofs [iSameReq_m, e]
theorem rec_slice {c : List UInt8} {a : Int} (h : (getRecB c a).2.2 = true) : ∃ k e : Nat, a = (k : Int) ∧ (getRecB c a).2.1 = (e : Int) ∧ k ≤ e ∧ e ≤ c.length ∧ recB (getRecB c a).1 = (c.take e).drop k := by
  have ha : 0 ≤ a := by
    unfold getRecB at h
    split at h
    · rename_i hc; exact hc.1
    · cases h
  obtain ⟨k, rfl⟩ : ∃ k : Nat, a = k := ⟨a.toNat, by omega⟩
  unfold getRecB at h ⊢
  split at h
  case isFalse => cases h
  rename_i hc
  rw [if_pos hc]
  rw [Int.toNat_natCast] at h ⊢
  split at h
  case h_2 => cases h
  rename_i h0 h1 h2 h3 h4 h5 h6 t hd
  have htl : t.length + 7 = c.length - k := by have := congrArg List.length hd; simp only [List.length_drop, List.length_cons] at this; omega
  simp only at h ⊢
  split at h
  case isTrue => cases h
  rename_i hb
  rw [if_neg hb]
  split at h
  case isFalse => cases h
  rename_i hx
  rw [if_pos hx]
  have hne : t.take (256 * h0.toNat + h1.toNat - 5) ≠ [] := getReq_nil hx.1
  refine ⟨k, k + 2 + (256 * h0.toNat + h1.toNat), rfl, by simp only; omega, by omega, by omega, ?_⟩
  simp only
  have hlaw := (rec_law h0 h1 h2 h3 h4 h5 h6 (t.take (256 * h0.toNat + h1.toNat - 5)) (getReqB (t.take (256 * h0.toNat + h1.toNat - 5))).1 (by rw [List.length_take]; omega) hne _ _ rfl rfl).2 ⟨hx.2.1, hx.2.2.1, hx.2.2.2⟩
  rw [hlaw, List.drop_take, hd, show k + 2 + (256 * h0.toNat + h1.toNat) - k = (256 * h0.toNat + h1.toNat - 5) + 7 by omega]
  simp only [List.take_succ_cons]
theorem of_mod (m : Nat) : (UInt8.ofNat ((m : Int) % 256).toNat).toNat = m % 256 := by
  have : ((m : Int) % 256).toNat = m % 256 := by omega
  rw [this]; simp
theorem put_len (r : ReqD) : (putReqB r).length ≤ 600 := by
  obtain ⟨m, p, hs, bd⟩ := r
  show (if reqB (m, p, hs, bd) = true ∧ (putText (m, p, hs, bd) (extraB bd)).length ≤ 400 then putText (m, p, hs, bd) (extraB bd) ++ bd else []).length ≤ 600
  split
  · rename_i h
    have := h.1
    unfold reqB at this
    simp only [Bool.and_eq_true, decide_eq_true_eq] at this
    rw [List.length_append]
    have := h.2
    omega
  · simp
theorem rec_parts {n k : Int} {r : ReqD} (h : recB (n, k, r) ≠ []) : ∃ h0 h1 h2 h3 h4 h5 h6 : UInt8, recB (n, k, r) = h0 :: h1 :: h2 :: h3 :: h4 :: h5 :: h6 :: putReqB r ∧ putReqB r ≠ [] ∧
    256 * h0.toNat + h1.toNat = (putReqB r).length + 5 ∧ ((65536 * h2.toNat + 256 * h3.toNat + h4.toNat : Nat) : Int) = n ∧ ((256 * h5.toNat + h6.toNat : Nat) : Int) = k ∧ n ≤ 9999999 ∧ k ≤ 9999 := by
  have hc : ((decide (0 ≤ n) && decide (n ≤ 9999999)) && (decide (0 ≤ k) && decide (k ≤ 9999)) && !decide (putReqB r = [])) = true := by
    unfold recB at h
    by_cases hc : ((decide (0 ≤ n) && decide (n ≤ 9999999)) && (decide (0 ≤ k) && decide (k ≤ 9999)) && !decide (putReqB r = [])) = true
    · exact hc
    · rw [if_neg hc] at h; exact absurd rfl h
  have he : recB (n, k, r) = recText (n, k, r) (putReqB r).length ++ putReqB r := by unfold recB; rw [if_pos hc]
  simp only [Bool.and_eq_true, decide_eq_true_eq, Bool.not_eq_true', decide_eq_false_iff_not] at hc
  obtain ⟨⟨⟨n1, n2⟩, k1, k2⟩, hp⟩ := hc
  obtain ⟨N, rfl⟩ : ∃ N : Nat, n = N := ⟨n.toNat, by omega⟩
  obtain ⟨K, rfl⟩ : ∃ K : Nat, k = K := ⟨k.toNat, by omega⟩
  have hL := put_len r
  rw [he]
  generalize putReqB r = P at hp hL ⊢
  have w : IntKind.i64.wrap ((P.length : Int) + 5) = ((P.length + 5 : Nat) : Int) := by rw [wrI (by omega) (by omega)]; omega
  have hb : IntKind.i64.bits = 64 := rfl
  unfold recText
  rw [w, fdiv_of, fdiv_of, fdiv_of, fdiv_of]
  simp only [hb, show (2 : Nat) ^ min 8 64 = 256 from rfl, show (2 : Nat) ^ min 16 64 = 65536 from rfl]
  refine ⟨_, _, _, _, _, _, _, rfl, hp, ?_, ?_, ?_, by omega, by omega⟩
  · rw [of_mod, of_mod]; omega
  · rw [of_mod, of_mod, of_mod]; omega
  · rw [of_mod, of_mod]; omega
/-- What is put behind bytes is read there. -/
theorem get_rec (b : List UInt8) {n k : Int} {r : ReqD} (h : recB (n, k, r) ≠ []) : getRecB (b ++ recB (n, k, r)) (b.length : Int) = ((n, k, r), ((b ++ recB (n, k, r)).length : Int), true) := by
  obtain ⟨h0, h1, h2, h3, h4, h5, h6, he, hp, e1, e2, e3, n2, k2⟩ := rec_parts h
  have hg := get_put r hp
  rw [he]
  generalize hP : putReqB r = P at he hp e1 hg ⊢
  unfold getRecB
  rw [if_pos (by simp only [List.length_append, List.length_cons]; omega), Int.toNat_natCast, List.drop_left]
  simp only
  rw [if_neg (by omega), e1, show P.length + 5 - 5 = P.length by omega, List.take_length, hg]
  simp only [e2, e3]
  rw [if_pos ⟨by trivial, hP, n2, k2⟩]
  simp only [List.length_append, List.length_cons]
  congr 2
  omega
theorem get_cut (b : List UInt8) {n k : Int} {r : ReqD} (h : recB (n, k, r) ≠ []) : (getRecB ((b ++ recB (n, k, r)).take ((b ++ recB (n, k, r)).length - 1)) (b.length : Int)) = (zRec, 0, false) := by
  obtain ⟨h0, h1, h2, h3, h4, h5, h6, he, hp, e1, e2, e3, n2, k2⟩ := rec_parts h
  have hP := List.length_pos_iff.2 hp
  rw [he]
  generalize putReqB r = P at he hp e1 hP
  have hd : ((b ++ h0 :: h1 :: h2 :: h3 :: h4 :: h5 :: h6 :: P).take ((b ++ h0 :: h1 :: h2 :: h3 :: h4 :: h5 :: h6 :: P).length - 1)).drop b.length = h0 :: h1 :: h2 :: h3 :: h4 :: h5 :: h6 :: P.take (P.length - 1) := by
    rw [List.drop_take, List.drop_left, show (b ++ h0 :: h1 :: h2 :: h3 :: h4 :: h5 :: h6 :: P).length - 1 - b.length = (P.length - 1) + 7 by simp only [List.length_append, List.length_cons]; omega]
    simp only [List.take_succ_cons]
  unfold getRecB
  rw [if_pos (by simp only [List.length_take, List.length_append, List.length_cons]; omega), Int.toNat_natCast, hd]
  simp only
  rw [if_pos (by rw [List.length_take]; omega)]
set_option maxHeartbeats 8000000 in
set_option maxRecDepth 100000 in
theorem wFnRecs_ok (code : List UInt8) (hO : OkT (.sl .u8) code) : V wFnRecs [.d (.sl .u8 code)] [] = rB true := by
  rw [V_eq (fn := wFnRecs_m) (by kernel_rfl)]
  have e0 := wbig_ok code
  by_cases hb : 1048576 < code.length
  · rw [decide_eq_true hb] at e0
    simp -implicitDefEqProofs [wFnRecs_m, e0]
  rw [decide_eq_false hb] at e0
  obtain ⟨b, n, k, r, ⟨hbl, hn, hk, hr⟩, e1⟩ := sDrawPutRec_x code (by omega)
  obtain ⟨c, i, ⟨hcl, hi1, hi2⟩, e2⟩ := sDrawGetRec_x code (by omega)
  have f1 := iPutRec_ok b (n, k, r) (by omega) (by simp only; omega)
  have s1 := sPutRec_ok b (n, k, r) (by omega) (by simp only; omega)
  have g1 := iGetRec_ok c i (by omega) ⟨by omega, by omega⟩
  have g2 := sGetRec_ok c i (by omega) ⟨by omega, by omega⟩
  have hy := rec_sz c i
  have hsl := @rec_slice c i
  have f2 := iPutRec_ok [] (getRecB c i).1 (by simp) (by omega)
  have hRl : (recB (n, k, r)).length ≤ 1000500 := recB_len2 n k r (by omega)
  have h3 := iSameReq_refl r (by omega)
  -- what is read of the drawn bytes
  generalize getRecB c i = y at g1 g2 hy hsl f2
  obtain ⟨⟨yn, yk, ym, yp, yl, yb⟩, nx, t⟩ := y
  simp only at g1 g2 hsl f2
  obtain ⟨m, p, hs, bd⟩ := r
  simp only [recA, reqA] at f1 s1 f2 h3
  have hmid : t = true → ∃ k' e' : Nat, i = (k' : Int) ∧ nx = (e' : Int) ∧ ((k' : Int) ≤ (e' : Int)) ∧ ((e' : Int) ≤ (c.length : Int)) ∧ (c.take e').drop k' = recB (yn, yk, ym, yp, yl, yb) ∧ (c.drop k').take (e' - k') = recB (yn, yk, ym, yp, yl, yb) := fun ht => by
    obtain ⟨k', e', a1, a2, a3, a4, a5⟩ := hsl ht
    exact ⟨k', e', a1, a2, by omega, by omega, a5.symm, by rw [a5, List.drop_take]⟩
  rw [List.nil_append] at f2
  generalize recB (yn, yk, ym, yp, yl, yb) = ry at f2 hmid
  by_cases hR : recB (n, k, m, p, hs, bd) = []
  · rw [hR, List.append_nil] at f1 s1
    cases t
    · simp -implicitDefEqProofs [wFnRecs_m, e0, e1, e2, f1, s1, g1, g2]
    · obtain ⟨k', e', rfl, rfl, a3, a4, a5, a6⟩ := hmid rfl
      simp -implicitDefEqProofs [wFnRecs_m, e0, e1, e2, f1, s1, g1, g2, f2, a3, a4, a5, a6]
  · have k1 := get_rec b hR
    have k2 := get_cut b hR
    have hne := List.length_pos_iff.2 hR
    have hpl : (b ++ recB (n, k, m, p, hs, bd)).length = b.length + (recB (n, k, m, p, hs, bd)).length := List.length_append
    generalize recB (n, k, m, p, hs, bd) = R at f1 s1 hRl hR k1 k2 hne hpl
    generalize b ++ R = pp at f1 s1 k1 k2 hpl
    obtain ⟨l1, hl1⟩ : ∃ l, l = pp.length - 1 := ⟨_, rfl⟩
    have g3 := iGetRec_ok pp b.length (by omega) ⟨by omega, by omega⟩
    have g4 := iGetRec_ok (pp.take (pp.length - 1)) b.length (by rw [List.length_take]; omega) ⟨by omega, by omega⟩
    rw [k1] at g3
    rw [k2] at g4
    rw [← hl1] at g4
    have w1 : IntKind.i64.wrap ((pp.length : Int) - 1) = (l1 : Int) := by rw [wrI (by omega) (by omega)]; omega
    have q1 : ((l1 : Int) ≤ (pp.length : Int)) = True := eq_true (by omega)
    have q1' : l1 ≤ pp.length := by omega
    have q2 : ((pp.length : Int) = (b.length : Int)) = False := eq_false (by omega)
    have q2' : (pp.length = b.length) = False := eq_false (by omega)
    try simp only at g3 g4
    cases t
    · simp -implicitDefEqProofs [wFnRecs_m, e0, e1, e2, f1, s1, g1, g2, g3, g4, h3, w1, q1, q1', q2, q2']
    · obtain ⟨k', e', rfl, rfl, a3, a4, a5, a6⟩ := hmid rfl
      simp -implicitDefEqProofs [wFnRecs_m, e0, e1, e2, f1, s1, g1, g2, g3, g4, f2, h3, w1, q1, q1', q2, q2', a3, a4, a5, a6]
end Go.Proofs.YtniakiefibpgmaaGreatDoorK
