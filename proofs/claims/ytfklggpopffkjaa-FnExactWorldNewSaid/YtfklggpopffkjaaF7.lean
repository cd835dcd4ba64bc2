/- What the functions come to. -/
import Derived.Test.YtfklggpopffkjaaF6
set_option linter.unusedVariables false
set_option linter.unusedSimpArgs false
namespace Go.Proofs.YtfklggpopffkjaaK
open Go.RowKit
abbrev WireD := List UInt8 × Int
abbrev WorldD := SrvD × List WireD × List (List UInt8) × List (List UInt8) × List UInt8 × Int
/-- What a world's cells are, handed back. -/
abbrev worldR (w : WorldD) : RV := .agg [.own (.sl TRes w.1.1), .own (.sl TLock w.1.2.1), .fz (.i .i64 w.1.2.2.1), .fz (.i .i64 w.1.2.2.2.1), .own (.sl (.int .i64) w.1.2.2.2.2.1), .own (.sl (.int .i64) w.1.2.2.2.2.2), .own (.sl TWire w.2.1), .own (.sl (.sl .u8) w.2.2.1), .own (.sl (.sl .u8) w.2.2.2.1), .own (.sl .u8 w.2.2.2.2.1), .fz (.i .i64 w.2.2.2.2.2)]
/-- A world of n wires. -/
def newW (n : Nat) : WorldD := (([], [], 0, 1, [], []), List.replicate n ([], 0), List.replicate n [], List.replicate n [], [], 0)
def noW : WorldD := (([], [], 0, 0, [], []), [], [], [], [], 0)
def worldNewB (n : Int) : WorldD := if 1 ≤ n ∧ n ≤ 4 then newW n.toNat else noW
theorem sSrvNew_ok : V sSrvNew [] [] = some ([], .agg [.own (.sl TRes []), .own (.sl TLock []), .fz (.i .i64 0), .fz (.i .i64 1), .own (.sl (.int .i64) []), .own (.sl (.int .i64) [])]) := by
  rw [V_eq (fn := sSrvNew_m) (by kernel_rfl)]
  simp -implicitDefEqProofs [sSrvNew_m]
theorem iSrvNew_ok : V iSrvNew [] [] = some ([], .agg [.own (.sl TRes []), .own (.sl TLock []), .fz (.i .i64 0), .fz (.i .i64 1), .own (.sl (.int .i64) []), .own (.sl (.int .i64) [])]) := by
  rw [V_eq (fn := iSrvNew_m) (by kernel_rfl)]
  simp -implicitDefEqProofs [iSrvNew_m]
theorem iWorldNew_ok (n : Int) : V iWorldNew [i6 n] [] = some ([], worldR (worldNewB n)) := by
  rw [V_eq (fn := iWorldNew_m) (by kernel_rfl)]
  have e1 := iin_ok n 1 4
  have e2 := iSrvNew_ok
  unfold worldNewB
  by_cases h : 1 ≤ n ∧ n ≤ 4
  · obtain rfl | rfl | rfl | rfl : n = 1 ∨ n = 2 ∨ n = 3 ∨ n = 4 := by omega
    all_goals simp -implicitDefEqProofs [iWorldNew_m, e1, e2, newW]
  · rw [if_neg h]
    have g : (decide (1 ≤ n) && decide (n ≤ 4)) = false := by simpa using h
    rw [g] at e1
    simp -implicitDefEqProofs [iWorldNew_m, e1, noW]
theorem sWorldNew_ok (n : Int) : V sWorldNew [i6 n] [] = some ([], worldR (worldNewB n)) := by
  rw [V_eq (fn := sWorldNew_m) (by kernel_rfl)]
  have e1 := sl1In_ok n 1 4
  have e2 := sSrvNew_ok
  unfold worldNewB
  by_cases h : 1 ≤ n ∧ n ≤ 4
  · have L := loop_each (X := V) (c := sWorldNew_l0) n.toNat (fun i : Nat => ⟨[(4, i6 i), (3, .p 67 0 0), (2, .p 66 0 0), (0, i6 n)], [(67, .ls TWorld false [newW i] 0 []), (66, .ls TWorld false [noW] 0 [])]⟩) (.ex 0, ⟨[(3, .p 67 0 0), (2, .p 66 0 0)], [(67, .ls TWorld false [newW n.toNat] 0 []), (66, .ls TWorld false [noW] 0 [])]⟩) (by simp)
      (fun i hi => by
        have hn : (i : Int) < n := by omega
        have hw := wrI (n := (i : Int) + 1) (by omega) (by omega)
        have h1 : (i + 1) * 32 ≤ 140737488355328 := by omega
        have h2 : (i + 1) * 24 ≤ 140737488355328 := by omega
        simp -implicitDefEqProofs [sWorldNew_l0, hn, hw, h1, h2, newW, List.replicate_succ']
        exact ⟨List.take_of_length_le (by simp), List.take_of_length_le (by simp)⟩)
      (by
        have hn : ¬ ((n.toNat : Int) < n) := by omega
        have hm : n ≤ max n 0 := by omega
        simp -implicitDefEqProofs [sWorldNew_l0, hn, hm])
    have g : (decide (1 ≤ n) && decide (n ≤ 4)) = true := by simpa using h
    rw [g] at e1
    rw [if_pos h]
    simp only [Int.natCast_zero, newW, noW, List.replicate_zero] at L
    simp -implicitDefEqProofs [sWorldNew_m, e1, e2, L, newW]
  · rw [if_neg h]
    have g : (decide (1 ≤ n) && decide (n ≤ 4)) = false := by simpa using h
    rw [g] at e1
    simp -implicitDefEqProofs [sWorldNew_m, e1, noW]
end Go.Proofs.YtfklggpopffkjaaK
