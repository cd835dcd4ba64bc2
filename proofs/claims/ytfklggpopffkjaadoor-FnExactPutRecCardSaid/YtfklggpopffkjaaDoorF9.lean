/- What the functions come to. -/
import Derived.Test.YtfklggpopffkjaaDoorF8
set_option linter.unusedVariables false
set_option linter.unusedSimpArgs false
namespace Go.Proofs.YtfklggpopffkjaaDoorK
open Go.RowKit
def smallC (i : Nat) (b : UInt8) : Bool := (decide (97 ≤ b) && decide (b ≤ 122)) || (!decide (i = 0) && ((decide (48 ≤ b) && decide (b ≤ 57)) || decide (b = 45)))
def smallB (s : List UInt8) : Bool := eachB smallC s && (decide (1 ≤ s.length) && decide (s.length ≤ 20))
theorem iSmallName_ok (s : List UInt8) (hs : s.length ≤ 9223372036854775807) : V iSmallName [.d (.s s)] [] = rB (smallB s) := by
  rw [V_eq (fn := iSmallName_m) (by kernel_rfl)]
  have L := loop_eachB (X := V) (c := iSmallName_l0) s smallC (fun i : Nat => ⟨[(3, i6 i), (0, .d (.s s))], []⟩) (.ret, ⟨[(2, .d (.b false))], []⟩) (.ex 0, ⟨[(0, .d (.s s))], []⟩) (by simp) (by simp)
    (fun i hi => by
      have e1 := iisSmall_ok s[i]
      have e2 := iisDigit_ok s[i]
      unfold smallC
      generalize (decide (97 ≤ s[i]) && decide (s[i] ≤ 122)) = t1 at e1 ⊢
      generalize (decide (48 ≤ s[i]) && decide (s[i] ≤ 57)) = t2 at e2 ⊢
      obtain ⟨t3, h3⟩ : ∃ t, decide (i = 0) = t := ⟨_, rfl⟩
      obtain ⟨t4, h4⟩ : ∃ t, decide (s[i] = 45) = t := ⟨_, rfl⟩
      rw [h3, h4]
      cases t1 <;> cases t3 <;> cases t2 <;> cases t4 <;> simp -implicitDefEqProofs [iSmallName_l0, hi, get_some hi, e1, e2, h3, h4, wrap_succ hi hs])
    (by simp -implicitDefEqProofs [iSmallName_l0])
  have e := iin_ok s.length 1 20
  rw [show (decide ((1 : Int) ≤ (s.length : Int)) && decide ((s.length : Int) ≤ 20)) = (decide (1 ≤ s.length) && decide (s.length ≤ 20)) from len_range s.length 1 20] at e
  simp only [Int.natCast_zero] at L
  unfold smallB
  cases h : eachB smallC s <;> rw [h] at L <;> simp -implicitDefEqProofs only [Bool.false_eq_true, if_true, if_false] at L <;> simp -implicitDefEqProofs [iSmallName_m, L, e]
theorem sSmallName_ok (s : List UInt8) (hs : s.length ≤ 9223372036854775807) : V sSmallName [.d (.s s)] [] = rB (smallB s) := by
  rw [V_eq (fn := sSmallName_m) (by kernel_rfl)]
  have L := loop_eachB (X := V) (c := sSmallName_l0) s smallC (fun i : Nat => ⟨[(3, i6 i), (0, .d (.s s))], []⟩) (.ret, ⟨[(2, .d (.b false))], []⟩) (.ex 0, ⟨[(0, .d (.s s))], []⟩) (by simp) (by simp)
    (fun i hi => by
      have e1 := sl1Small_ok s[i]
      have e2 := sl1Digit_ok s[i]
      unfold smallC
      generalize (decide (97 ≤ s[i]) && decide (s[i] ≤ 122)) = t1 at e1 ⊢
      generalize (decide (48 ≤ s[i]) && decide (s[i] ≤ 57)) = t2 at e2 ⊢
      obtain ⟨t3, h3⟩ : ∃ t, decide (i = 0) = t := ⟨_, rfl⟩
      obtain ⟨t4, h4⟩ : ∃ t, decide (s[i] = 45) = t := ⟨_, rfl⟩
      rw [h3, h4]
      cases t1 <;> cases t3 <;> cases t2 <;> cases t4 <;> simp -implicitDefEqProofs [sSmallName_l0, hi, get_some hi, e1, e2, h3, h4, wrap_succ hi hs])
    (by simp -implicitDefEqProofs [sSmallName_l0])
  have e := sl1In_ok s.length 1 20
  rw [show (decide ((1 : Int) ≤ (s.length : Int)) && decide ((s.length : Int) ≤ 20)) = (decide (1 ≤ s.length) && decide (s.length ≤ 20)) from len_range s.length 1 20] at e
  simp only [Int.natCast_zero] at L
  unfold smallB
  cases h : eachB smallC s <;> rw [h] at L <;> simp -implicitDefEqProofs only [Bool.false_eq_true, if_true, if_false] at L <;> simp -implicitDefEqProofs [sSmallName_m, L, e]
abbrev propA (p : PropD) : AV := .agg [.d (.s p.1), .d (.s p.2.1), .d (.s p.2.2)]
def propB (p : PropD) : Bool := decide (p.1.length ≤ 20) && p.1.all plainB && smallB p.2.1 && decide (p.2.2.length ≤ 20) && p.2.2.all plainB
def lessPropB (a b : PropD) : Bool := if a.1 = b.1 then Op.bytesLess a.2.1 b.2.1 else Op.bytesLess a.1 b.1
def propsB (l : List PropD) : Bool := eachB (fun i p => propB p && prevB lessPropB l i p) l && decide (l.length ≤ 4)
abbrev szP (p : PropD) : Nat := p.1.length + (p.2.1.length + p.2.2.length)
def diffI (a b : PathD) : Option Nat := firstI (min a.length b.length) fun i => !decide (a[i]? = b[i]?)
def lessPathB (a b : PathD) : Bool := match diffI a b with | some i => Op.bytesLess (a.getD i []) (b.getD i []) | none => decide (a.length < b.length)
theorem diffI_lt {a b : PathD} {i : Nat} (h : diffI a b = some i) : i < a.length ∧ i < b.length := by have := (firstI_some h).1; omega
def collB (t : List ResD) (p : PathD) : Bool := decide (p = []) || match t.findIdx? (atP p) with | some i => (match t[i]? with | some r => r.2.1 | none => false) | none => false
end Go.Proofs.YtfklggpopffkjaaDoorK
