/- What the functions come to. -/
import Derived.Test.YtfklggpopffkjaaF6
set_option linter.unusedVariables false
set_option linter.unusedSimpArgs false
namespace Go.Proofs.YtfklggpopffkjaaK
open Go.RowKit
abbrev decB (k : Nat) : List UInt8 := Lib.decDigits k
def numB (n : Int) : List UInt8 := Lib.decDigits n.toNat
theorem decB_small {k : Nat} (h : k < 10) : Lib.decDigits k = [UInt8.ofNat (48 + k)] := by rw [Lib.decDigits, dif_pos h]
theorem decB_big {k : Nat} (h : ¬ k < 10) : Lib.decDigits k = Lib.decDigits (k / 10) ++ [UInt8.ofNat (48 + k % 10)] := by rw [Lib.decDigits, dif_neg h]
theorem decB_len : ∀ (n k : Nat), k < 10 ^ (n + 1) → (Lib.decDigits k).length ≤ n + 1
  | 0, k, h => by rw [decB_small (by simpa using h)]; simp
  | n + 1, k, h => by
    by_cases h1 : k < 10
    · rw [decB_small h1]; simp
    · rw [decB_big h1]
      have := decB_len n (k / 10) (by rw [Nat.pow_succ] at h; omega)
      simp; omega
theorem decB_len20 (k : Nat) (h : k ≤ 9223372036854775807) : (Lib.decDigits k).length ≤ 20 := decB_len 19 k (Nat.lt_of_le_of_lt h (by decide))
theorem numB_len (n : Int) (h : n ≤ 9223372036854775807) : (numB n).length ≤ 20 := by
  have : n.toNat ≤ 9223372036854775807 := by omega
  exact decB_len20 _ this
theorem sNumText_l : ∀ (k : Nat) (acc : List UInt8), k ≤ 9223372036854775807 → acc.length + k / 10 + 1 ≤ 9223372036854775807 →
    DL V (.loop sNumText_l0) ⟨[(3, .d (.s acc)), (0, i6 k)], []⟩ = some (.ex 0, ⟨[(3, .d (.s (if k < 10 then acc else Lib.decDigits (k / 10) ++ acc)))], []⟩) := by
  intro k
  induction k using Nat.strongRecOn with
  | _ k ih =>
    intro acc hk hb
    rw [DL_loop]
    by_cases h : k < 10
    · rw [if_pos h]
      have hd : decide ((9 : Int) < (k : Int)) = false := decide_eq_false (by omega)
      simp -implicitDefEqProofs only [sNumText_l0, hd]
      simp -implicitDefEqProofs [hd]
    · rw [if_neg h]
      obtain ⟨y, hy⟩ : ∃ y, k / 10 = y := ⟨_, rfl⟩
      obtain ⟨x, hx⟩ : ∃ x, y % 10 = x := ⟨_, rfl⟩
      have i1 := ih y (by omega) (UInt8.ofNat (48 + x) :: acc) (by omega) (by simp; omega)
      have w1 : (y : Int).tmod 10 = x := by rw [Int.tmod_eq_emod_of_nonneg (by omega)]; omega
      have w3 : IntKind.i64.wrap ((k : Int) / 10) = y := by rw [show (k : Int) / 10 = y by omega]; exact wrI (by omega) (by omega)
      have w2 : IntKind.i64.wrap (48 + (x : Int)) = 48 + x := wrI (by omega) (by omega)
      have w4 : ((48 + (x : Int)) % 256).toNat = 48 + x := by omega
      have w5 : (y : Int) % 10 = x := by omega
      have e : (if y < 10 then UInt8.ofNat (48 + x) :: acc else Lib.decDigits (y / 10) ++ UInt8.ofNat (48 + x) :: acc) = Lib.decDigits y ++ acc := by
        split
        · rename_i h1; rw [decB_small h1]; obtain rfl : x = y := by omega
          rfl
        · rename_i h1; rw [decB_big h1, hx]; simp
      rw [e] at i1
      rw [hy]
      have hb1 : 1 + acc.length ≤ 9223372036854775807 := by omega
      generalize DL V (.loop sNumText_l0) = G at i1 ⊢
      simp -implicitDefEqProofs [sNumText_l0, (by omega : (9 : Int) < k), (by omega : ¬ (k : Int) ≤ 9), w1, w5, w2, w3, w4, hb1, i1, -UInt8.ofNat_add]
theorem sNumText_ok (n : Int) (h : n ≤ 9223372036854775807) : V sNumText [i6 n] [] = rS (numB n) := by
  rw [V_eq (fn := sNumText_m) (by kernel_rfl)]
  obtain ⟨k, hk⟩ : ∃ k : Nat, n.toNat = k := ⟨_, rfl⟩
  obtain ⟨x, hx⟩ : ∃ x, k % 10 = x := ⟨_, rfl⟩
  have hk2 : k ≤ 9223372036854775807 := by omega
  have L := sNumText_l k [UInt8.ofNat (48 + x)] hk2 (by simp only [List.length_cons, List.length_nil]; omega)
  have e : (if k < 10 then [UInt8.ofNat (48 + x)] else Lib.decDigits (k / 10) ++ [UInt8.ofNat (48 + x)]) = numB n := by
    unfold numB; rw [hk]
    split
    · rename_i h1; rw [decB_small h1]; obtain rfl : x = k := by omega
      rfl
    · rename_i h1; rw [decB_big h1, hx]
  rw [e] at L
  have w2 : IntKind.i64.wrap (48 + (x : Int)) = 48 + x := wrI (by omega) (by omega)
  have w4 : ((48 + (x : Int)) % 256).toNat = 48 + x := by omega
  by_cases hn : n < 0
  · obtain rfl : k = 0 := by omega
    obtain rfl : x = 0 := by omega
    have w6 : IntKind.i64.wrap 48 = 48 := wrI (by decide) (by decide)
    simp only [Int.natCast_zero] at L
    simp -implicitDefEqProofs [sNumText_m, hn, w6] at L ⊢
    simp -implicitDefEqProofs [L]
  · obtain rfl : n = k := by omega
    have w1 : (k : Int).tmod 10 = x := by rw [Int.tmod_eq_emod_of_nonneg (by omega)]; omega
    have w5 : (k : Int) % 10 = x := by omega
    simp -implicitDefEqProofs [sNumText_m, (by omega : ¬ (k : Int) < 0), (by omega : (0 : Int) ≤ k), w1, w5, w2, w4, L, -UInt8.ofNat_add]
def tagB (n : Int) : List UInt8 := 34 :: 118 :: (numB n ++ [34])
theorem tagB_len (n : Int) (h : n ≤ 9223372036854775807) : (tagB n).length ≤ 23 := by have := numB_len n h; simp [tagB]; omega
end Go.Proofs.YtfklggpopffkjaaK
