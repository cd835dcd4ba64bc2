/- What the functions come to. -/
import Derived.Test.YtniakiefibpgmaaGreatDoorF12
set_option linter.unusedVariables false
set_option linter.unusedSimpArgs false
namespace Go.Proofs.YtniakiefibpgmaaGreatDoorK
open Go.RowKit
theorem rec_next {b : List UInt8} {k : Nat} (h : (getRecB b (k : Int)).2.2 = true) : ∃ e : Nat, (getRecB b (k : Int)).2.1 = (e : Int) ∧ k + 7 ≤ e ∧ e ≤ b.length ∧ k + szR (getRecB b (k : Int)).1.2.2 + 7 ≤ e := by
  unfold getRecB at h ⊢
  split at h
  case isFalse => cases h
  rename_i hc
  rw [if_pos hc]
  rw [Int.toNat_natCast] at h ⊢
  split at h
  case h_2 => cases h
  rename_i h0 h1 h2 h3 h4 h5 h6 t hd
  have htl : t.length + 7 = b.length - k := by have := congrArg List.length hd; simp only [List.length_drop, List.length_cons] at this; omega
  simp only at h ⊢
  split at h
  case isTrue => cases h
  rename_i hb
  rw [if_neg hb]
  split at h
  case isFalse => cases h
  rename_i hx
  rw [if_pos hx]
  have hne : t.take (256 * h0.toNat + h1.toNat - 5) ≠ [] := getReq_nil hx.1
  have hs := put_sz (getReqB (t.take (256 * h0.toNat + h1.toNat - 5))).1 (by rw [hx.2.1]; exact hne)
  rw [hx.2.1, List.length_take] at hs
  refine ⟨k + 2 + (256 * h0.toNat + h1.toNat), by simp only; omega, by omega, by omega, by simp only; omega⟩
theorem rec_sz (b : List UInt8) (a : Int) : szR (getRecB b a).1.2.2 ≤ b.length := by
  by_cases h : (getRecB b a).2.2 = true
  · have ha : 0 ≤ a := by
      unfold getRecB at h
      split at h
      · rename_i hc; exact hc.1
      · cases h
    obtain ⟨k, rfl⟩ : ∃ k : Nat, a = k := ⟨a.toNat, by omega⟩
    obtain ⟨e, _, _, h3, h4⟩ := rec_next h
    omega
  · have z : szR zRec.2.2 = 0 := by simp [szR, szT_slE, szL]
    have key : (getRecB b a).1 = zRec := by
      unfold getRecB at h ⊢
      split
      · rename_i hc
        rw [if_pos hc] at h
        split at h
        · simp only at h ⊢
          split
          · rfl
          · rename_i hb
            rw [if_neg hb] at h
            split
            · rename_i hx; rw [if_pos hx] at h; exact absurd rfl h
            · rfl
        · rfl
      · rfl
    rw [key, z]; exact Nat.zero_le _
def recsF (b : List UInt8) : Nat → Nat → List RecD × Nat
  | 0, k => ([], k)
  | f + 1, k => if (getRecB b (k : Int)).2.2 = true then ((getRecB b (k : Int)).1 :: (recsF b f (getRecB b (k : Int)).2.1.toNat).1, (recsF b f (getRecB b (k : Int)).2.1.toNat).2) else ([], k)
def recsB (b : List UInt8) : List RecD × Nat := recsF b (b.length + 1) 0
theorem byMarks2 (l : List UInt8) (hz : l.length ≤ 4194304) :
    ∃ (d : List UInt8) (m : Nat), d.length = l.length ∧ m ≤ 2305843009213693952 ∧ V wmarkByteS [.h 0 0 l.length, i6 1] [.ls .u8 false l 0 []] = some ([some (.ls .u8 false d 0 [])], .one (.fz (.i .i64 m))) := by
  have hs : szT (.sl .u8) l ≤ 4194304 := by rw [szT_flat rfl]; omega
  have b0 := BndM_of (.sl .u8) l (by omega)
  have k0 := markT_bound (.sl .u8) l 1
  simp [T.wd] at k0
  have e2 := wmarkByteS_ok l 1 b0.1 (by omega) b0.2
  simp only [Int.natCast_one] at e2
  exact ⟨_, _, markL_len _ _ _, by omega, e2⟩
theorem recMarks2 (n k : Int) (m p : List UInt8) (l : List (T.den THead)) (b : List UInt8) (hz : szT (.sl THead) l ≤ 4194304) :
    ∃ (d : List (T.den THead)) (y : Nat), d.length = l.length ∧ y ≤ 2305843009213693952 ∧ V wmarkRec [.agg [i6 n, i6 k, .d (.s m), .d (.s p), .h 0 0 l.length, .d (.s b)], i6 1] [.ls THead false l 0 []] = some ([some (.ls THead false d 0 [])], .one (.fz (.i .i64 y))) ∧
      V wheldRec [.agg [i6 n, i6 k, .d (.s m), .d (.s p), .d (.sl THead d), .d (.s b)], i6 1] [] = rI y := by
  have b0 := BndM_of (.sl THead) l (by omega)
  have k0 := markT_bound (.sl THead) l 1
  simp [T.wd] at k0
  have e2 := wmarkRec_ok n k m p l b 1 b0.1 b0.2 (by omega)
  have e3 := wheldRec_ok n k m p l b 1 b0.1 b0.2 (by omega)
  simp only [Int.natCast_one] at e2 e3
  exact ⟨_, _, markL_len _ _ _, by omega, e2, e3⟩
set_option maxHeartbeats 2000000 in
set_option maxRecDepth 100000 in
theorem wFnExactGetRec_ok (b : List UInt8) (a : Int) (hA : OkT (.sl .u8) b) (hI : OkT (.int .i64) a) : V wFnExactGetRec [.d (.sl .u8 b), i6 a] [] = rB true := by
  rw [V_eq (fn := wFnExactGetRec_m) (by kernel_rfl)]
  have hb := OkT.bnd (.sl .u8) b hA
  have ha : -9223372036854775808 ≤ a ∧ a ≤ 9223372036854775807 := by
    have := hI
    simp only [OkT, Lit.wf, IntKind.min, IntKind.max, IntKind.signed, IntKind.bits] at this
    simp at this
    omega
  by_cases hl : 1048576 < b.length
  · simp -implicitDefEqProofs [wFnExactGetRec_m, (eq_true (by omega) : ((1048576 : Int) < (b.length : Int)) = True)]
  have hl' : ((1048576 : Int) < (b.length : Int)) = False := eq_false (by omega)
  have g1 := wtoByteS_ok b (by rw [szT_flat rfl]; omega)
  have g2 := weqByteS_ok b hb
  have f1 := iGetRec_ok b a (by omega) ha
  have f2 := sGetRec_ok b a (by omega) ha
  have hsz := rec_sz b a
  generalize getRecB b a = x at f1 f2 hsz
  obtain ⟨⟨n, k, m, p, l, bd⟩, nx, t⟩ := x
  simp only [szR] at f1 f2 hsz
  have hz : m.length + p.length + szT (.sl THead) l + bd.length ≤ 1048576 := by omega
  have hbt : BndT TRec (n, k, m, p, l, bd) := BndT_of TRec _ (by
    show szT (.int .i64) n + (szT (.int .i64) k + (szT .str m + (szT .str p + (szT (.sl THead) l + szT .str bd)))) ≤ _
    simp only [szT_int, szT_str]; omega)
  have f4 := weqRec_ok n k m p l bd hbt
  obtain ⟨d, y, l0, hy, k1⟩ := byMarks2 b (by omega)
  obtain ⟨c, z, l1, hz1, k2, k3⟩ := recMarks2 n k m p l bd (by omega)
  have y0 : ((y : Int) < 0) = False := eq_false (by omega)
  have z0 : ((z : Int) < 0) = False := eq_false (by omega)
  cases t <;> simp -implicitDefEqProofs [wFnExactGetRec_m, hl', g1, g2, f1, f2, f4, k1, k2, k3, l0, l1, take_all]
end Go.Proofs.YtniakiefibpgmaaGreatDoorK
