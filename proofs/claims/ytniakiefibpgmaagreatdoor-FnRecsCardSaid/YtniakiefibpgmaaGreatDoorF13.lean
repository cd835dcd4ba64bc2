/- What the functions come to. -/
import Derived.Test.YtniakiefibpgmaaGreatDoorF12
set_option linter.unusedVariables false
set_option linter.unusedSimpArgs false
namespace Go.Proofs.YtniakiefibpgmaaGreatDoorK
open Go.RowKit
theorem rec_next {b : List UInt8} {k : Nat} (h : (getRecB b (k : Int)).2.2 = true) : ∃ e : Nat, (getRecB b (k : Int)).2.1 = (e : Int) ∧ k + 7 ≤ e ∧ e ≤ b.length ∧ k + szR (getRecB b (k : Int)).1.2.2 + 7 ≤ e := by
  unfold getRecB at h ⊢
  split at h
  case isFalse => cases h
  rename_i hc
  rw [if_pos hc]
  rw [Int.toNat_natCast] at h ⊢
  split at h
  case h_2 => cases h
  rename_i h0 h1 h2 h3 h4 h5 h6 t hd
  have htl : t.length + 7 = b.length - k := by have := congrArg List.length hd; simp only [List.length_drop, List.length_cons] at this; omega
  simp only at h ⊢
  split at h
  case isTrue => cases h
  rename_i hb
  rw [if_neg hb]
  split at h
  case isFalse => cases h
  rename_i hx
  rw [if_pos hx]
  have hne : t.take (256 * h0.toNat + h1.toNat - 5) ≠ [] := getReq_nil hx.1
  have hs := put_sz (getReqB (t.take (256 * h0.toNat + h1.toNat - 5))).1 (by rw [hx.2.1]; exact hne)
  rw [hx.2.1, List.length_take] at hs
  refine ⟨k + 2 + (256 * h0.toNat + h1.toNat), by simp only; omega, by omega, by omega, by simp only; omega⟩
theorem rec_sz (b : List UInt8) (a : Int) : szR (getRecB b a).1.2.2 ≤ b.length := by
  by_cases h : (getRecB b a).2.2 = true
  · have ha : 0 ≤ a := by
      unfold getRecB at h
      split at h
      · rename_i hc; exact hc.1
      · cases h
    obtain ⟨k, rfl⟩ : ∃ k : Nat, a = k := ⟨a.toNat, by omega⟩
    obtain ⟨e, _, _, h3, h4⟩ := rec_next h
    omega
  · have z : szR zRec.2.2 = 0 := by simp [szR, szT_slE, szL]
    have key : (getRecB b a).1 = zRec := by
      unfold getRecB at h ⊢
      split
      · rename_i hc
        rw [if_pos hc] at h
        split at h
        · simp only at h ⊢
          split
          · rfl
          · rename_i hb
            rw [if_neg hb] at h
            split
            · rename_i hx; rw [if_pos hx] at h; exact absurd rfl h
            · rfl
        · rfl
      · rfl
    rw [key, z]; exact Nat.zero_le _
def recsF (b : List UInt8) : Nat → Nat → List RecD × Nat
  | 0, k => ([], k)
  | f + 1, k => if (getRecB b (k : Int)).2.2 = true then ((getRecB b (k : Int)).1 :: (recsF b f (getRecB b (k : Int)).2.1.toNat).1, (recsF b f (getRecB b (k : Int)).2.1.toNat).2) else ([], k)
def recsB (b : List UInt8) : List RecD × Nat := recsF b (b.length + 1) 0
end Go.Proofs.YtniakiefibpgmaaGreatDoorK
