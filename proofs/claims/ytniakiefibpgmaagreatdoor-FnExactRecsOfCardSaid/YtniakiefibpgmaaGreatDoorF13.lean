/- What the functions come to. -/
import Derived.Test.YtniakiefibpgmaaGreatDoorF12
set_option linter.unusedVariables false
set_option linter.unusedSimpArgs false
namespace Go.Proofs.YtniakiefibpgmaaGreatDoorK
open Go.RowKit
theorem rec_next {b : List UInt8} {k : Nat} (h : (getRecB b (k : Int)).2.2 = true) : ∃ e : Nat, (getRecB b (k : Int)).2.1 = (e : Int) ∧ k + 7 ≤ e ∧ e ≤ b.length ∧ k + szR (getRecB b (k : Int)).1.2.2 + 7 ≤ e := by
  unfold getRecB at h ⊢
  split at h
  case isFalse => cases h
  rename_i hc
  rw [if_pos hc]
  rw [Int.toNat_natCast] at h ⊢
  split at h
  case h_2 => cases h
  rename_i h0 h1 h2 h3 h4 h5 h6 t hd
  have htl : t.length + 7 = b.length - k := by have := congrArg List.length hd; simp only [List.length_drop, List.length_cons] at this; omega
  simp only at h ⊢
  split at h
  case isTrue => cases h
  rename_i hb
  rw [if_neg hb]
  split at h
  case isFalse => cases h
  rename_i hx
  rw [if_pos hx]
  have hne : t.take (256 * h0.toNat + h1.toNat - 5) ≠ [] := getReq_nil hx.1
  have hs := put_sz (getReqB (t.take (256 * h0.toNat + h1.toNat - 5))).1 (by rw [hx.2.1]; exact hne)
  rw [hx.2.1, List.length_take] at hs
  refine ⟨k + 2 + (256 * h0.toNat + h1.toNat), by simp only; omega, by omega, by omega, by simp only; omega⟩
theorem rec_sz (b : List UInt8) (a : Int) : szR (getRecB b a).1.2.2 ≤ b.length := by
  by_cases h : (getRecB b a).2.2 = true
  · have ha : 0 ≤ a := by
      unfold getRecB at h
      split at h
      · rename_i hc; exact hc.1
      · cases h
    obtain ⟨k, rfl⟩ : ∃ k : Nat, a = k := ⟨a.toNat, by omega⟩
    obtain ⟨e, _, _, h3, h4⟩ := rec_next h
    omega
  · have z : szR zRec.2.2 = 0 := by simp [szR, szT_slE, szL]
    have key : (getRecB b a).1 = zRec := by
      unfold getRecB at h ⊢
      split
      · rename_i hc
        rw [if_pos hc] at h
        split at h
        · simp only at h ⊢
          split
          · rfl
          · rename_i hb
            rw [if_neg hb] at h
            split
            · rename_i hx; rw [if_pos hx] at h; exact absurd rfl h
            · rfl
        · rfl
      · rfl
    rw [key, z]; exact Nat.zero_le _
def recsF (b : List UInt8) : Nat → Nat → List RecD × Nat
  | 0, k => ([], k)
  | f + 1, k => if (getRecB b (k : Int)).2.2 = true then ((getRecB b (k : Int)).1 :: (recsF b f (getRecB b (k : Int)).2.1.toNat).1, (recsF b f (getRecB b (k : Int)).2.1.toNat).2) else ([], k)
def recsB (b : List UInt8) : List RecD × Nat := recsF b (b.length + 1) 0
theorem irecsOf_ok (b : List UInt8) (h : b.length ≤ 1000000000) : V irecsOf [.d (.sl .u8 b)] [] = some ([], .tup [.one (.own (.sl TRec (recsB b).1)), .one (.fz (.i .i64 (recsB b).2))]) := by
  rw [V_eq (fn := irecsOf_m) (by kernel_rfl)]
  have L := loop_rec (X := V) (c := irecsOf_l0) (fun q : Nat × Nat × List RecD => ⟨[(5, i6 q.2.1), (4, .h 68 0 q.2.2.length), (0, .d (.sl .u8 b))], [(68, .ls TRec false q.2.2 0 [])]⟩)
    (fun q => some (.ret, ⟨[(3, i6 (recsF b q.1 q.2.1).2), (2, .h 66 0 (q.2.2 ++ (recsF b q.1 q.2.1).1).length)], [(66, .ls TRec false (q.2.2 ++ (recsF b q.1 q.2.1).1) 0 [])]⟩)) (fun q => q.1) (fun q => b.length - q.2.1 < q.1 ∧ q.2.1 ≤ b.length ∧ q.2.2.length ≤ q.2.1) (fun q hq => by
      obtain ⟨f, k, l⟩ := q
      obtain ⟨h1, h2, h3⟩ := hq
      simp only at h1 h2 h3 ⊢
      obtain ⟨f, rfl⟩ : ∃ g, f = g + 1 := ⟨f - 1, by omega⟩
      have e := iGetRec_ok b k h ⟨by omega, by omega⟩
      have hn := @rec_next b k
      rw [recsF]
      generalize getRecB b (k : Int) = x at e hn ⊢
      obtain ⟨⟨n, d, m, p, hs, bd⟩, nx, t⟩ := x
      simp only at e hn ⊢
      cases t
      · refine .inr ⟨_, by simp, ?_, rfl⟩
        simp -implicitDefEqProofs [irecsOf_l0, e]
      · obtain ⟨e', rfl, g1, g2, g3⟩ := hn rfl
        refine .inl ⟨(f, e', l ++ [(n, d, m, p, hs, bd)]), ?_, ⟨by simp only; omega, g2, by simp only [List.length_append, List.length_cons, List.length_nil]; omega⟩, by simp, by simp⟩
        simp -implicitDefEqProofs [irecsOf_l0, e, take_snoc_all rfl]
        omega) (b.length + 1, 0, []) ⟨by simp, Nat.zero_le _, by simp⟩
  simp only [Int.natCast_zero, List.nil_append, List.length_nil] at L
  unfold recsB
  generalize recsF b (b.length + 1) 0 = x at L ⊢
  obtain ⟨x1, x2⟩ := x
  simp -implicitDefEqProofs [irecsOf_m, L, take_all rfl]
theorem sl19Recs_ok (b : List UInt8) (h : b.length ≤ 1000000000) : V sl19Recs [.d (.sl .u8 b)] [] = some ([], .tup [.one (.fz (.sl TRec (recsB b).1)), .one (.fz (.i .i64 (recsB b).2))]) := by
  rw [V_eq (fn := sl19Recs_m) (by kernel_rfl)]
  have L := loop_rec (X := V) (c := sl19Recs_l0) (fun q : Nat × Nat × List RecD => ⟨[(5, i6 q.2.1), (4, .h 68 0 q.2.2.length), (0, .d (.sl .u8 b))], [(68, .ls TRec true q.2.2 0 [])]⟩)
    (fun q => some (.ret, ⟨[(3, i6 (recsF b q.1 q.2.1).2), (2, .d (.sl TRec (q.2.2 ++ (recsF b q.1 q.2.1).1)))], []⟩)) (fun q => q.1) (fun q => b.length - q.2.1 < q.1 ∧ q.2.1 ≤ b.length ∧ q.2.2.length ≤ q.2.1) (fun q hq => by
      obtain ⟨f, k, l⟩ := q
      obtain ⟨h1, h2, h3⟩ := hq
      simp only at h1 h2 h3 ⊢
      obtain ⟨f, rfl⟩ : ∃ g, f = g + 1 := ⟨f - 1, by omega⟩
      have e := sGetRec_ok b k h ⟨by omega, by omega⟩
      have hn := @rec_next b k
      rw [recsF]
      generalize getRecB b (k : Int) = x at e hn ⊢
      obtain ⟨⟨n, d, m, p, hs, bd⟩, nx, t⟩ := x
      simp only at e hn ⊢
      cases t
      · refine .inr ⟨_, by simp, ?_, rfl⟩
        simp -implicitDefEqProofs [sl19Recs_l0, e, take_all rfl]
      · obtain ⟨e', rfl, g1, g2, g3⟩ := hn rfl
        refine .inl ⟨(f, e', l ++ [(n, d, m, p, hs, bd)]), ?_, ⟨by simp only; omega, g2, by simp only [List.length_append, List.length_cons, List.length_nil]; omega⟩, by simp, by simp⟩
        simp -implicitDefEqProofs [sl19Recs_l0, e, take_snoc_all rfl]
        omega) (b.length + 1, 0, []) ⟨by simp, Nat.zero_le _, by simp⟩
  simp only [Int.natCast_zero, List.nil_append, List.length_nil] at L
  unfold recsB
  generalize recsF b (b.length + 1) 0 = x at L ⊢
  obtain ⟨x1, x2⟩ := x
  simp -implicitDefEqProofs [sl19Recs_m, L, take_all rfl]
theorem iRecsOf_ok (b : List UInt8) (h : b.length ≤ 1000000000) : V iRecsOf [.d (.sl .u8 b)] [] = some ([], .one (.own (.sl TRec (recsB b).1))) := by
  rw [V_eq (fn := iRecsOf_m) (by kernel_rfl)]
  have e := irecsOf_ok b h
  simp -implicitDefEqProofs [iRecsOf_m, e, take_all rfl]
theorem sRecsOf_ok (b : List UInt8) (h : b.length ≤ 1000000000) : V sRecsOf [.d (.sl .u8 b)] [] = some ([], .one (.fz (.sl TRec (recsB b).1))) := by
  rw [V_eq (fn := sRecsOf_m) (by kernel_rfl)]
  have e := sl19Recs_ok b h
  simp -implicitDefEqProofs [sRecsOf_m, e, take_all rfl]
theorem byMarks2 (l : List UInt8) (hz : l.length ≤ 4194304) :
    ∃ (d : List UInt8) (m : Nat), d.length = l.length ∧ m ≤ 2305843009213693952 ∧ V wmarkByteS [.h 0 0 l.length, i6 1] [.ls .u8 false l 0 []] = some ([some (.ls .u8 false d 0 [])], .one (.fz (.i .i64 m))) := by
  have hs : szT (.sl .u8) l ≤ 4194304 := by rw [szT_flat rfl]; omega
  have b0 := BndM_of (.sl .u8) l (by omega)
  have k0 := markT_bound (.sl .u8) l 1
  simp [T.wd] at k0
  have e2 := wmarkByteS_ok l 1 b0.1 (by omega) b0.2
  simp only [Int.natCast_one] at e2
  exact ⟨_, _, markL_len _ _ _, by omega, e2⟩
theorem recsMarks (l : List (T.den TRec)) (hz : szT (.sl TRec) l ≤ 4194304) :
    ∃ (d : List (T.den TRec)) (y : Nat), d.length = l.length ∧ y ≤ 2305843009213693952 ∧ V wmarkRecS [.h 0 0 l.length, i6 1] [.ls TRec false l 0 []] = some ([some (.ls TRec false d 0 [])], .one (.fz (.i .i64 y))) ∧
      V wheldRecS [.d (.sl TRec d), i6 1] [] = rI y := by
  have b0 := BndM_of (.sl TRec) l (by omega)
  have k0 := markT_bound (.sl TRec) l 1
  simp [T.wd] at k0
  have e2 := wmarkRecS_ok l 1 b0.1 (by omega) b0.2
  have e3 := wheldRecS_ok l 1 b0.1 (by omega) b0.2
  simp only [Int.natCast_one] at e2 e3
  exact ⟨_, _, markL_len _ _ _, by omega, e2, e3⟩
theorem szRec (r : RecD) : szT TRec r = szR r.2.2 := by
  obtain ⟨n, k, m, p, l, b⟩ := r
  show szT (.int .i64) n + (szT (.int .i64) k + (szT .str m + (szT .str p + (szT (.sl THead) l + szT .str b)))) = _
  simp only [szT_int, szT_str, szR]; omega
theorem recsF_sz (b : List UInt8) : ∀ (f k : Nat), k ≤ b.length → szT (.sl TRec) (recsF b f k).1 ≤ b.length - k
  | 0, k, _ => by simp [recsF, szT_slE, szL]
  | f + 1, k, hk => by
    unfold recsF
    split
    · rename_i h
      obtain ⟨e, h1, h2, h3, h4⟩ := rec_next h
      rw [h1, Int.toNat_natCast]
      have ih := recsF_sz b f e h3
      have e1 : szT (.sl TRec) ((getRecB b (k : Int)).1 :: (recsF b f e).1) = szT (.sl TRec) (recsF b f e).1 + 1 + szR (getRecB b (k : Int)).1.2.2 := by
        rw [szT_slE, szT_slE, List.length_cons]
        have : szL TRec ((getRecB b (k : Int)).1 :: (recsF b f e).1) = szT TRec (getRecB b (k : Int)).1 + szL TRec (recsF b f e).1 := szL_cons TRec _ _
        rw [this, szRec]; omega
      simp only
      rw [e1]
      omega
    · simp [szT_slE, szL]
set_option maxHeartbeats 2000000 in
set_option maxRecDepth 100000 in
theorem wFnExactRecsOf_ok (b : List UInt8) (hA : OkT (.sl .u8) b) : V wFnExactRecsOf [.d (.sl .u8 b)] [] = rB true := by
  rw [V_eq (fn := wFnExactRecsOf_m) (by kernel_rfl)]
  have hb := OkT.bnd (.sl .u8) b hA
  by_cases hl : 1048576 < b.length
  · simp -implicitDefEqProofs [wFnExactRecsOf_m, (eq_true (by omega) : ((1048576 : Int) < (b.length : Int)) = True)]
  have hl' : ((1048576 : Int) < (b.length : Int)) = False := eq_false (by omega)
  have g1 := wtoByteS_ok b (by rw [szT_flat rfl]; omega)
  have g2 := weqByteS_ok b hb
  have f1 := iRecsOf_ok b (by omega)
  have f2 := sRecsOf_ok b (by omega)
  have hsz := recsF_sz b (b.length + 1) 0 (Nat.zero_le _)
  change szT (.sl TRec) (recsB b).1 ≤ _ at hsz
  generalize (recsB b).1 = l at f1 f2 hsz
  have hbt := BndT_of (.sl TRec) l (by omega)
  have f4 := weqRecS_ok l hbt
  obtain ⟨d, y, l0, hy, k1⟩ := byMarks2 b (by omega)
  obtain ⟨c, z, l1, hz1, k2, k3⟩ := recsMarks l (by omega)
  simp -implicitDefEqProofs [wFnExactRecsOf_m, hl', g1, g2, f1, f2, f4, k1, k2, k3, l0, l1, take_all]
end Go.Proofs.YtniakiefibpgmaaGreatDoorK
