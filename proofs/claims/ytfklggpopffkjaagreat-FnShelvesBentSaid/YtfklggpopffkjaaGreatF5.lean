/- What the functions come to. -/
import Derived.Test.YtfklggpopffkjaaGreatF4
set_option linter.unusedVariables false
set_option linter.unusedSimpArgs false
namespace Go.Proofs.YtfklggpopffkjaaGreatK
open Go.RowKit
def plainB (b : UInt8) : Bool := decide (32 ≤ b) && decide (b ≤ 126)
theorem iisSmall_ok (b : UInt8) : V iisSmall [.d (.u b)] [] = some ([], .one (.fz (.b (decide (97 ≤ b) && decide (b ≤ 122))))) := by
  rw [V_eq (fn := iisSmall_m) (by kernel_rfl)]
  by_cases h : 97 ≤ b <;> simp -implicitDefEqProofs [iisSmall_m, h]
theorem iisDigit_ok (b : UInt8) : V iisDigit [.d (.u b)] [] = some ([], .one (.fz (.b (decide (48 ≤ b) && decide (b ≤ 57))))) := by
  rw [V_eq (fn := iisDigit_m) (by kernel_rfl)]
  by_cases h : 48 ≤ b <;> simp -implicitDefEqProofs [iisDigit_m, h]
theorem iisPlain_ok (b : UInt8) : V iisPlain [.d (.u b)] [] = some ([], .one (.fz (.b (decide (32 ≤ b) && decide (b ≤ 126))))) := by
  rw [V_eq (fn := iisPlain_m) (by kernel_rfl)]
  by_cases h : 32 ≤ b <;> simp -implicitDefEqProofs [iisPlain_m, h]
theorem iin_ok (n a b : Int) : V iin [.d (.i .i64 n), .d (.i .i64 a), .d (.i .i64 b)] [] = some ([], .one (.fz (.b (decide (a ≤ n) && decide (n ≤ b))))) := by
  rw [V_eq (fn := iin_m) (by kernel_rfl)]
  by_cases h : a ≤ n <;> simp -implicitDefEqProofs [iin_m, h]
theorem sl1In_ok (n a b : Int) : V sl1In [.d (.i .i64 n), .d (.i .i64 a), .d (.i .i64 b)] [] = some ([], .one (.fz (.b (decide (a ≤ n) && decide (n ≤ b))))) := by
  rw [V_eq (fn := sl1In_m) (by kernel_rfl)]
  by_cases h : a ≤ n <;> simp -implicitDefEqProofs [sl1In_m, h]
theorem u8_range (b : UInt8) (x y : Nat) (hx : x < 256) (hy : y < 256) : (decide ((x : Int) ≤ (b.toNat : Int)) && decide ((b.toNat : Int) ≤ (y : Int))) = (decide (UInt8.ofNat x ≤ b) && decide (b ≤ UInt8.ofNat y)) := by
  have e1 : (UInt8.ofNat x).toNat = x := by simp; omega
  have e2 : (UInt8.ofNat y).toNat = y := by simp; omega
  simp only [UInt8.le_iff_toNat_le, e1, e2, Int.ofNat_le]
theorem sl1Small_ok (b : UInt8) : V sl1Small [.d (.u b)] [] = some ([], .one (.fz (.b (decide (97 ≤ b) && decide (b ≤ 122))))) := by
  rw [V_eq (fn := sl1Small_m) (by kernel_rfl)]
  simp -implicitDefEqProofs [sl1Small_m, wrap_b, sl1In_ok]
  exact u8_range b 97 122 (by omega) (by omega)
theorem sl1Digit_ok (b : UInt8) : V sl1Digit [.d (.u b)] [] = some ([], .one (.fz (.b (decide (48 ≤ b) && decide (b ≤ 57))))) := by
  rw [V_eq (fn := sl1Digit_m) (by kernel_rfl)]
  simp -implicitDefEqProofs [sl1Digit_m, wrap_b, sl1In_ok]
  exact u8_range b 48 57 (by omega) (by omega)
theorem iPlain_l (s : List UInt8) (hs : s.length ≤ 9223372036854775807) : ∀ i : Nat, i ≤ s.length →
    DL V (.loop iPlain_l0) ⟨[(3, .d (.i .i64 i)), (0, .d (.s s))], []⟩ = if (s.drop i).all plainB then some (.ex 0, ⟨[], []⟩) else some (.ret, ⟨[(2, .d (.b false))], []⟩) := by
  refine loop_rec (fun i : Nat => (⟨[(3, .d (.i .i64 i)), (0, .d (.s s))], []⟩ : St)) _ (fun i => s.length - i) (fun i => i ≤ s.length) (fun i hi => ?_)
  by_cases h : i < s.length
  · have e : s[i]? = some s[i] := List.getElem?_eq_getElem h
    rw [List.drop_eq_getElem_cons h, List.all_cons]
    cases hp : plainB s[i]
    · refine .inr ⟨(.ret, ⟨[(2, .d (.b false))], []⟩), by simp, ?_, by simp⟩
      simp -implicitDefEqProofs [iPlain_l0, h, e, iisPlain_ok]
      simpa [plainB] using hp
    · refine .inl ⟨i + 1, ?_, by omega, by omega, by simp⟩
      simp -implicitDefEqProofs [iPlain_l0, h, e, iisPlain_ok, wrap_succ h hs]
      simpa [plainB] using hp
  · have : i = s.length := by omega
    subst this
    refine .inr ⟨(.ex 0, ⟨[], []⟩), by simp, ?_, by simp⟩
    simp -implicitDefEqProofs [iPlain_l0]
theorem iPlain_ok (s : List UInt8) (hs : s.length ≤ 9223372036854775807) : V iPlain [.d (.s s)] [] = some ([], .one (.fz (.b (s.all plainB)))) := by
  rw [V_eq (fn := iPlain_m) (by kernel_rfl)]
  have := iPlain_l s hs 0 (Nat.zero_le _)
  simp only [List.drop_zero, Int.natCast_zero] at this
  cases h : s.all plainB <;> rw [h] at this <;> simp -implicitDefEqProofs [iPlain_m, this]
theorem sPlain_l (s : List UInt8) (hs : s.length ≤ 9223372036854775807) : ∀ i : Nat, i ≤ s.length →
    DL V (.loop sPlain_l0) ⟨[(3, .d (.i .i64 i)), (0, .d (.s s))], []⟩ = if (s.drop i).all plainB then some (.ex 0, ⟨[], []⟩) else some (.ret, ⟨[(2, .d (.b false))], []⟩) := by
  refine loop_rec (fun i : Nat => (⟨[(3, .d (.i .i64 i)), (0, .d (.s s))], []⟩ : St)) _ (fun i => s.length - i) (fun i => i ≤ s.length) (fun i hi => ?_)
  by_cases h : i < s.length
  · have e : s[i]? = some s[i] := List.getElem?_eq_getElem h
    have e2 := sl1In_ok (s[i].toNat) 32 126
    rw [show (decide ((32 : Int) ≤ (s[i].toNat : Int)) && decide ((s[i].toNat : Int) ≤ 126)) = plainB s[i] from u8_range s[i] 32 126 (by omega) (by omega)] at e2
    rw [List.drop_eq_getElem_cons h, List.all_cons]
    cases hp : plainB s[i] <;> rw [hp] at e2
    · refine .inr ⟨(.ret, ⟨[(2, .d (.b false))], []⟩), by simp, ?_, by simp⟩
      simp -implicitDefEqProofs [sPlain_l0, h, e, wrap_b, e2]
    · refine .inl ⟨i + 1, ?_, by omega, by omega, by simp⟩
      simp -implicitDefEqProofs [sPlain_l0, h, e, wrap_b, e2, wrap_succ h hs]
  · have : i = s.length := by omega
    subst this
    refine .inr ⟨(.ex 0, ⟨[], []⟩), by simp, ?_, by simp⟩
    simp -implicitDefEqProofs [sPlain_l0]
theorem sPlain_ok (s : List UInt8) (hs : s.length ≤ 9223372036854775807) : V sPlain [.d (.s s)] [] = some ([], .one (.fz (.b (s.all plainB)))) := by
  rw [V_eq (fn := sPlain_m) (by kernel_rfl)]
  have := sPlain_l s hs 0 (Nat.zero_le _)
  simp only [List.drop_zero, Int.natCast_zero] at this
  cases h : s.all plainB <;> rw [h] at this <;> simp -implicitDefEqProofs [sPlain_m, this]
end Go.Proofs.YtfklggpopffkjaaGreatK
