/- What the functions come to. -/
import Derived.Test.YtniakiefibpgmaaGreatDoorF11
set_option linter.unusedVariables false
set_option linter.unusedSimpArgs false
namespace Go.Proofs.YtniakiefibpgmaaGreatDoorK
open Go.RowKit
theorem or_add (i m y : Nat) (hy : y < 2 ^ i) (hx : 2 ^ i * m + y < 4611686018427387904) : IntKind.i64.wrap (((2 ^ i * m) % 2 ^ IntKind.i64.bits ||| y % 2 ^ IntKind.i64.bits : Nat) : Int) = ((2 ^ i * m + y : Nat) : Int) := by
  have hb : (2 : Nat) ^ IntKind.i64.bits = 18446744073709551616 := rfl
  rw [hb, Nat.mod_eq_of_lt (by omega), Nat.mod_eq_of_lt (by omega), ← Nat.two_pow_add_eq_or_of_lt hy, wrI (by omega) (by omega)]
abbrev recRf (x : RecD × Int × Bool) : Option (List (Option Ob) × RV) := some ([], .tup [.agg [.fz (.i .i64 x.1.1), .fz (.i .i64 x.1.2.1), .fz (.s x.1.2.2.1), .fz (.s x.1.2.2.2.1), .fz (.sl THead x.1.2.2.2.2.1), .fz (.s x.1.2.2.2.2.2)], .one (.fz (.i .i64 x.2.1)), .one (.fz (.b x.2.2))])
set_option maxHeartbeats 4000000 in
set_option maxRecDepth 100000 in
theorem sGetRec_ok (b : List UInt8) (a : Int) (h : b.length ≤ 1000000000) (ha : -9223372036854775808 ≤ a ∧ a ≤ 9223372036854775807) : V sGetRec [.d (.sl .u8 b), i6 a] [] = recRf (getRecB b a) := by
  rw [V_eq (fn := sGetRec_m) (by kernel_rfl)]
  have e1 := sl1In_ok a 0 ((b.length : Int) - 2)
  have w7 : IntKind.i64.wrap ((b.length : Int) - 2) = (b.length : Int) - 2 := wrI (by omega) (by omega)
  by_cases hc0 : 0 ≤ a ∧ a + 2 ≤ b.length
  case neg =>
    have ht : (decide ((0 : Int) ≤ a) && decide (a ≤ (b.length : Int) - 2)) = false := by rw [Bool.eq_false_iff]; simp; omega
    rw [ht] at e1
    unfold getRecB
    rw [if_neg (by omega)]
    simp -implicitDefEqProofs [sGetRec_m, e1, w7]
  have ht : (decide ((0 : Int) ≤ a) && decide (a ≤ (b.length : Int) - 2)) = true := by simp; omega
  rw [ht] at e1
  obtain ⟨k, rfl⟩ : ∃ k : Nat, a = k := ⟨a.toNat, by omega⟩
  have hk1 : k < b.length := by omega
  obtain ⟨j, hj⟩ : ∃ j, j = k + 1 := ⟨_, rfl⟩
  have hj1 : j < b.length := by omega
  have w1 : IntKind.i64.wrap ((k : Int) + 1) = (j : Int) := by rw [wrI (by omega) (by omega)]; omega
  have w3 : IntKind.i64.wrap ((b.length : Int) - (k : Int)) = (b.length : Int) - (k : Int) := wrI (by omega) (by omega)
  have w4 : IntKind.i64.wrap ((b.length : Int) - (k : Int) - 2) = (b.length : Int) - (k : Int) - 2 := wrI (by omega) (by omega)
  have hbits : (2 : Int) ^ min 8 IntKind.i64.bits = 256 := rfl
  have hbits2 : (2 : Int) ^ min 16 IntKind.i64.bits = 65536 := rfl
  have g0 : b[k]? = some b[k] := get_some hk1
  have g1 : b[j]? = some b[j] := get_some hj1
  have hd2 : b.drop k = b[k] :: b[j] :: b.drop (k + 2) := by subst hj; rw [drop_cons hk1, drop_cons hj1]
  by_cases hc : k + 7 ≤ b.length
  case neg =>
    unfold getRecB
    rw [if_neg (by omega)]
    generalize b[k] = h0 at g0
    generalize b[j] = h1 at g1
    have v0 : ∀ q : k < b.length, b[k] = h0 := fun q => by rw [List.getElem?_eq_getElem q] at g0; exact Option.some.inj g0
    have v1 : ∀ q : j < b.length, b[j] = h1 := fun q => by rw [List.getElem?_eq_getElem q] at g1; exact Option.some.inj g1
    have b0 := h0.toNat_lt; have b1 := h1.toNat_lt
    obtain ⟨n, hn⟩ : ∃ n, n = 2 ^ 8 * h0.toNat + h1.toNat := ⟨_, rfl⟩
    obtain ⟨x0, hx0⟩ : ∃ n, n = 2 ^ 8 * h0.toNat := ⟨_, rfl⟩
    have s0 : IntKind.i64.wrap ((h0.toNat : Int) * 2 ^ min 8 IntKind.i64.bits) = (x0 : Int) := by rw [hbits, wrI (by omega) (by omega)]; omega
    have o1 : IntKind.i64.wrap ((x0 % 2 ^ IntKind.i64.bits ||| h1.toNat % 2 ^ IntKind.i64.bits : Nat) : Int) = (n : Int) := by rw [hx0, or_add 8 _ _ (by omega) (by omega), hn]
    by_cases hn5 : (n : Int) < 5
    · simp -implicitDefEqProofs [sGetRec_m, e1, w7, wrap_b, hk1, g0, v0, w1, w3, w4, g1, v1, hj1, s0, o1, hn5]
    · simp -implicitDefEqProofs [sGetRec_m, e1, w7, wrap_b, hk1, g0, v0, w1, w3, w4, g1, v1, hj1, s0, o1, hn5, (eq_true (by omega) : ((b.length : Int) - (k : Int) - 2 < (n : Int)) = True)]
  unfold getRecB
  rw [if_pos (by omega), Int.toNat_natCast]
  obtain ⟨h0, h1, h2, h3, h4, h5, h6, t, hd⟩ := seven (l := b.drop k) (by rw [List.length_drop]; omega)
  have htl : t.length + 7 = b.length - k := by have := congrArg List.length hd; simp only [List.length_drop, List.length_cons] at this; omega
  rw [hd] at hd2
  simp only [List.cons.injEq] at hd2
  obtain ⟨hb0, hb1, d8⟩ := hd2
  rw [← hb0] at g0
  rw [← hb1] at g1
  rw [hd]
  simp only
  have v0 : ∀ q : k < b.length, b[k] = h0 := fun q => hb0.symm
  have v1 : ∀ q : j < b.length, b[j] = h1 := fun q => hb1.symm
  clear hb0 hb1
  have b0 := h0.toNat_lt; have b1 := h1.toNat_lt; have b2 := h2.toNat_lt; have b3 := h3.toNat_lt; have b4 := h4.toNat_lt; have b5 := h5.toNat_lt; have b6 := h6.toNat_lt
  obtain ⟨n, hn⟩ : ∃ n, n = 256 * h0.toNat + h1.toNat := ⟨_, rfl⟩
  obtain ⟨now, hnow⟩ : ∃ n, n = 65536 * h2.toNat + 256 * h3.toNat + h4.toNat := ⟨_, rfl⟩
  obtain ⟨dr, hdr⟩ : ∃ n, n = 256 * h5.toNat + h6.toNat := ⟨_, rfl⟩
  rw [← hn, ← hnow, ← hdr]
  obtain ⟨x0, hx0⟩ : ∃ n, n = 2 ^ 8 * h0.toNat := ⟨_, rfl⟩
  obtain ⟨e2, he2⟩ : ∃ n, n = k + 2 := ⟨_, rfl⟩
  obtain ⟨e, he⟩ : ∃ e, e = k + 2 + n := ⟨_, rfl⟩
  obtain ⟨y2, hy2⟩ : ∃ n, n = 2 ^ 16 * h2.toNat := ⟨_, rfl⟩
  obtain ⟨y3, hy3⟩ : ∃ n, n = 256 * h3.toNat := ⟨_, rfl⟩
  obtain ⟨y4, hy4⟩ : ∃ n, n = 2 ^ 8 * (256 * h2.toNat + h3.toNat) := ⟨_, rfl⟩
  obtain ⟨z5, hz5⟩ : ∃ n, n = 2 ^ 8 * h5.toNat := ⟨_, rfl⟩
  have w2 : IntKind.i64.wrap ((k : Int) + 2) = (e2 : Int) := by rw [wrI (by omega) (by omega)]; omega
  have s0 : IntKind.i64.wrap ((h0.toNat : Int) * 2 ^ min 8 IntKind.i64.bits) = (x0 : Int) := by rw [hbits, wrI (by omega) (by omega)]; omega
  have o1 : IntKind.i64.wrap ((x0 % 2 ^ IntKind.i64.bits ||| h1.toNat % 2 ^ IntKind.i64.bits : Nat) : Int) = (n : Int) := by rw [hx0, or_add 8 _ _ (by omega) (by omega), hn]
  have a2 : IntKind.i64.wrap ((e2 : Int) + (n : Int)) = (e : Int) := by rw [wrI (by omega) (by omega)]; omega
  have s2 : IntKind.i64.wrap ((h2.toNat : Int) * 2 ^ min 16 IntKind.i64.bits) = (y2 : Int) := by rw [hbits2, wrI (by omega) (by omega)]; omega
  have s3 : IntKind.i64.wrap ((h3.toNat : Int) * 2 ^ min 8 IntKind.i64.bits) = (y3 : Int) := by rw [hbits, wrI (by omega) (by omega)]; omega
  have o2 : IntKind.i64.wrap ((y2 % 2 ^ IntKind.i64.bits ||| y3 % 2 ^ IntKind.i64.bits : Nat) : Int) = (y4 : Int) := by rw [hy2, or_add 16 _ _ (by omega) (by omega)]; omega
  have o3 : IntKind.i64.wrap ((y4 % 2 ^ IntKind.i64.bits ||| h4.toNat % 2 ^ IntKind.i64.bits : Nat) : Int) = (now : Int) := by rw [hy4, or_add 8 _ _ (by omega) (by omega)]; omega
  have s5 : IntKind.i64.wrap ((h5.toNat : Int) * 2 ^ min 8 IntKind.i64.bits) = (z5 : Int) := by rw [hbits, wrI (by omega) (by omega)]; omega
  have o5 : IntKind.i64.wrap ((z5 % 2 ^ IntKind.i64.bits ||| h6.toNat % 2 ^ IntKind.i64.bits : Nat) : Int) = (dr : Int) := by rw [hz5, or_add 8 _ _ (by omega) (by omega)]; omega
  by_cases hb : n < 5 ∨ t.length + 5 < n
  · rw [if_pos hb]
    by_cases hn5 : (n : Int) < 5
    · simp -implicitDefEqProofs [sGetRec_m, e1, w7, wrap_b, hk1, g0, v0, w1, w3, w4, g1, v1, hj1, s0, o1, hn5]
    · simp -implicitDefEqProofs [sGetRec_m, e1, w7, wrap_b, hk1, g0, v0, w1, w3, w4, g1, v1, hj1, s0, o1, hn5, (eq_true (by omega) : ((b.length : Int) - (k : Int) - 2 < (n : Int)) = True)]
  rw [if_neg hb]
  have r0 : ((n : Int) < 5) = False := eq_false (by omega)
  have r1 : ((b.length : Int) - (k : Int) - 2 < (n : Int)) = False := eq_false (by omega)
  have r3 : ((e2 : Int) ≤ (e : Int)) = True := eq_true (by omega)
  have r4 : ((e : Int) ≤ (b.length : Int)) = True := eq_true (by omega)
  rw [← he2] at d8
  obtain ⟨p, hp⟩ : ∃ p, p = t.take (n - 5) := ⟨_, rfl⟩
  have hpl : p.length + 5 = n := by rw [hp, List.length_take]; omega
  have d2 : (h2 :: h3 :: h4 :: h5 :: h6 :: t).take (e - e2) = h2 :: h3 :: h4 :: h5 :: h6 :: p := by
    rw [show e - e2 = (n - 5) + 5 by omega]; simp only [List.take_succ_cons, hp]
  have d1 : (b.take e).drop e2 = h2 :: h3 :: h4 :: h5 :: h6 :: p := by rw [List.drop_take, ← d8, d2]
  have n5 : IntKind.i64.wrap ((n : Int) - 5) = (p.length : Int) := by rw [wrI (by omega) (by omega)]; omega
  have dp : p.take (((p.length : Int) + 1 + 1 + 1 + 1 + 1).toNat - 5) = p := List.take_of_length_le (by omega)
  have r6 : ((5 : Int) ≤ (p.length : Int) + 1 + 1 + 1 + 1 + 1) = True := eq_true (by omega)
  rw [← hp]
  have f1 := sGetReq_ok p (by omega)
  have hsz := getReqB_sz p
  have hgp : ∀ r nx, getReqB p = (r, nx, 0) → putReqB r = p → nx = (p.length : Int) := fun r nx e1 e2 => by
    have hne : p ≠ [] := getReq_nil (by rw [e1])
    have := get_put r (by rw [e2]; exact hne)
    rw [e2, e1] at this
    injection this with _ this
    injection this
  generalize getReqB p = q at f1 hsz hgp ⊢
  obtain ⟨r, nx, code⟩ := q
  simp only at f1 hsz ⊢
  have f2 := sPutReq_ok r (by omega)
  have f3 := sl1In_ok now 0 9999999
  have f4 := sl1In_ok dr 0 9999
  have hev : (k : Int) + 2 + (n : Int) = (e : Int) := by omega
  rw [hev]
  by_cases hcode : code = 0
  case neg =>
    rw [if_neg (fun x => hcode x.1)]
    obtain ⟨m, pp, hs, bd⟩ := r
    simp -implicitDefEqProofs [sGetRec_m, e1, w7, wrap_b, hk1, g0, v0, w1, w3, w4, g1, v1, hj1, s0, o1, r0, r1, r3, r4, r6, w2, a2, d1, d2, ← d8, dp, s2, s3, o2, o3, s5, o5, f1, hcode]
  subst hcode
  have hgp' := hgp r nx rfl
  obtain ⟨m, pp, hs, bd⟩ := r
  simp only [reqA] at f2
  generalize putReqB (m, pp, hs, bd) = pr at f2 hgp' ⊢
  by_cases hnx : nx = (p.length : Int)
  case neg =>
    rw [if_neg (fun x => hnx (hgp' x.2.1))]
    simp -implicitDefEqProofs [sGetRec_m, e1, w7, wrap_b, hk1, g0, v0, w1, w3, w4, g1, v1, hj1, s0, o1, r0, r1, r3, r4, r6, w2, a2, d1, d2, ← d8, dp, s2, s3, o2, o3, s5, o5, f1, n5, hnx]
  subst hnx
  by_cases hpr : pr = p
  case neg =>
    rw [if_neg (fun x => hpr x.2.1)]
    simp -implicitDefEqProofs [sGetRec_m, e1, w7, wrap_b, hk1, g0, v0, w1, w3, w4, g1, v1, hj1, s0, o1, r0, r1, r3, r4, r6, w2, a2, d1, d2, ← d8, dp, s2, s3, o2, o3, s5, o5, f1, f2, n5, hpr]
  subst hpr
  rw [show (decide ((0 : Int) ≤ (now : Int)) && decide ((now : Int) ≤ 9999999)) = decide ((now : Int) ≤ 9999999) by simp] at f3
  rw [show (decide ((0 : Int) ≤ (dr : Int)) && decide ((dr : Int) ≤ 9999)) = decide ((dr : Int) ≤ 9999) by simp] at f4
  by_cases hN : (now : Int) ≤ 9999999
  case neg =>
    rw [if_neg (fun x => hN x.2.2.1)]
    rw [decide_eq_false hN] at f3
    simp -implicitDefEqProofs [sGetRec_m, e1, w7, wrap_b, hk1, g0, v0, w1, w3, w4, g1, v1, hj1, s0, o1, r0, r1, r3, r4, r6, w2, a2, d1, d2, ← d8, dp, s2, s3, o2, o3, s5, o5, f1, f2, f3, n5]
  rw [decide_eq_true hN] at f3
  by_cases hD : (dr : Int) ≤ 9999
  case neg =>
    rw [if_neg (fun x => hD x.2.2.2)]
    rw [decide_eq_false hD] at f4
    simp -implicitDefEqProofs [sGetRec_m, e1, w7, wrap_b, hk1, g0, v0, w1, w3, w4, g1, v1, hj1, s0, o1, r0, r1, r3, r4, r6, w2, a2, d1, d2, ← d8, dp, s2, s3, o2, o3, s5, o5, f1, f2, f3, f4, n5]
  rw [decide_eq_true hD] at f4
  rw [if_pos ⟨rfl, rfl, hN, hD⟩]
  simp -implicitDefEqProofs [sGetRec_m, e1, w7, wrap_b, hk1, g0, v0, w1, w3, w4, g1, v1, hj1, s0, o1, r0, r1, r3, r4, r6, w2, a2, d1, d2, ← d8, dp, s2, s3, o2, o3, s5, o5, f1, f2, f3, f4, n5]
end Go.Proofs.YtniakiefibpgmaaGreatDoorK
