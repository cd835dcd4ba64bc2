/- What the functions come to. -/
import Derived.Test.YtfklggpopffkjaaGreatF6
set_option linter.unusedVariables false
set_option linter.unusedSimpArgs false
namespace Go.Proofs.YtfklggpopffkjaaGreatK
open Go.RowKit
abbrev decB (k : Nat) : List UInt8 := Lib.decDigits k
def numB (n : Int) : List UInt8 := Lib.decDigits n.toNat
theorem decB_small {k : Nat} (h : k < 10) : Lib.decDigits k = [UInt8.ofNat (48 + k)] := by rw [Lib.decDigits, dif_pos h]
theorem decB_big {k : Nat} (h : ¬ k < 10) : Lib.decDigits k = Lib.decDigits (k / 10) ++ [UInt8.ofNat (48 + k % 10)] := by rw [Lib.decDigits, dif_neg h]
theorem decB_len : ∀ (n k : Nat), k < 10 ^ (n + 1) → (Lib.decDigits k).length ≤ n + 1
  | 0, k, h => by rw [decB_small (by simpa using h)]; simp
  | n + 1, k, h => by
    by_cases h1 : k < 10
    · rw [decB_small h1]; simp
    · rw [decB_big h1]
      have := decB_len n (k / 10) (by rw [Nat.pow_succ] at h; omega)
      simp; omega
theorem decB_len20 (k : Nat) (h : k ≤ 9223372036854775807) : (Lib.decDigits k).length ≤ 20 := decB_len 19 k (Nat.lt_of_le_of_lt h (by decide))
theorem numB_len (n : Int) (h : n ≤ 9223372036854775807) : (numB n).length ≤ 20 := by
  have : n.toNat ≤ 9223372036854775807 := by omega
  exact decB_len20 _ this
def tagB (n : Int) : List UInt8 := 34 :: 118 :: (numB n ++ [34])
theorem tagB_len (n : Int) (h : n ≤ 9223372036854775807) : (tagB n).length ≤ 23 := by have := numB_len n h; simp [tagB]; omega
end Go.Proofs.YtfklggpopffkjaaGreatK
