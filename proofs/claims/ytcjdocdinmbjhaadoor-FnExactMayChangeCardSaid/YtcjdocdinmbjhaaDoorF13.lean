/- What the functions come to. -/
import Derived.Test.YtcjdocdinmbjhaaDoorF12
set_option linter.unusedVariables false
set_option linter.unusedSimpArgs false
namespace Go.Proofs.YtcjdocdinmbjhaaDoorK
open Go.RowKit
abbrev AskD := PathD × PathD × Bool × Bool × List Int × Int
abbrev askA (a : AskD) : AV := .agg [.d (.sl .str a.1), .d (.sl .str a.2.1), .d (.b a.2.2.1), .d (.b a.2.2.2.1), .d (.sl (.int .i64) a.2.2.2.2.1), i6 a.2.2.2.2.2]
abbrev askC (a : AskD) : List D := [.sl .str a.1, .sl .str a.2.1, .b a.2.2.1, .b a.2.2.2.1, .sl (.int .i64) a.2.2.2.2.1, .i .i64 a.2.2.2.2.2]
abbrev srvC (s : SrvD) : List D := [.sl TRes s.1, .sl TLock s.2.1, .i .i64 s.2.2.1, .i .i64 s.2.2.2.1, .sl (.int .i64) s.2.2.2.2.1, .sl (.int .i64) s.2.2.2.2.2]
/-- May a path be turned, and what it is on? -/
def bothB (l : List LockD) (p : PathD) (deep : Bool) (tk : List Int) : Bool := mayB l p deep tk && mayB l p.dropLast false tk
/-- May it be done? -/
def changeB (s : SrvD) (m : List UInt8) (a : AskD) : Bool :=
  if m = [80, 85, 84] then mayB s.2.1 a.1 false a.2.2.2.2.1 && ((tagAt s.1 a.1).isSome || mayB s.2.1 a.1.dropLast false a.2.2.2.2.1)
  else if m = [77, 75, 67, 79, 76] then bothB s.2.1 a.1 false a.2.2.2.2.1
  else if m = [80, 82, 79, 80, 80, 65, 84, 67, 72] then mayB s.2.1 a.1 false a.2.2.2.2.1
  else if m = [68, 69, 76, 69, 84, 69] then bothB s.2.1 a.1 true a.2.2.2.2.1
  else if m = [77, 79, 86, 69] then bothB s.2.1 a.1 true a.2.2.2.2.1 && bothB s.2.1 a.2.1 true a.2.2.2.2.1
  else if m = [67, 79, 80, 89] then bothB s.2.1 a.2.1 true a.2.2.2.2.1
  else true
/-- What the arguments keep to. -/
structure AskOk (s : SrvD) (a : AskD) : Prop where
  t : szT (.sl TRes) s.1 ≤ 1099511627776
  l : szT (.sl TLock) s.2.1 ≤ 1099511627776
  v : verB s.1
  p : a.1.length ≤ 1099511627776
  q : a.2.1.length ≤ 1099511627776
  k : a.2.2.2.2.1.length ≤ 9223372036854775807
theorem dl_len {α : Type} {p : List α} {n : Nat} (h : p.length ≤ n) : p.dropLast.length ≤ n := by rw [List.length_dropLast]; omega
theorem sl16Both_ok (s : SrvD) (p : PathD) (deep : Bool) (tk : List Int) (hl : szT (.sl TLock) s.2.1 ≤ 1099511627776) (hp : p.length ≤ 1099511627776) (ht : tk.length ≤ 9223372036854775807) :
    V sl16Both [srvA s, .d (.sl .str p), .d (.b deep), .d (.sl (.int .i64) tk)] [] = rB (bothB s.2.1 p deep tk) := by
  rw [V_eq (fn := sl16Both_m) (by kernel_rfl)]
  have e1 := sMayTurn_ok s.2.1 p deep tk hl (by omega) ht
  have e2 := sMayTurn_ok s.2.1 p.dropLast false tk hl (dl_len (by omega)) ht
  have e3 := sAbove_ok p hp
  unfold bothB
  generalize mayB s.2.1 p deep tk = b1 at e1 ⊢
  generalize mayB s.2.1 p.dropLast false tk = b2 at e2 ⊢
  cases b1 <;> simp -implicitDefEqProofs [sl16Both_m, e1, e2, e3]
theorem sMayChange_ok (s : SrvD) (m : List UInt8) (a : AskD) (h : AskOk s a) : V sMayChange [srvA s, .d (.s m), askA a] [] = rB (changeB s m a) := by
  rw [V_eq (fn := sMayChange_m) (by kernel_rfl)]
  obtain ⟨ht, hl, hv, hp, hq, hk⟩ := h
  have e0 := sTagAt_ok s a.1 ht hv
  have e1 := sl16Both_ok s a.1 false a.2.2.2.2.1 hl hp hk
  have e2 := sl16Both_ok s a.1 true a.2.2.2.2.1 hl hp hk
  have e3 := sl16Both_ok s a.2.1 true a.2.2.2.2.1 hl hq hk
  have e4 := sMayTurn_ok s.2.1 a.1 false a.2.2.2.2.1 hl (by omega) hk
  obtain ⟨t, l, n1, n2, d1, d2⟩ := s
  obtain ⟨p, q, dp, ov, tk, code⟩ := a
  simp only at e0 e1 e2 e3 e4 ⊢
  unfold changeB
  simp only
  cases ht : tagAt t p with
  | none =>
    rw [ht] at e0
    by_cases c1 : m = [80, 85, 84]
    · subst c1
      simp -implicitDefEqProofs [sMayChange_m, e0, tagR, e1, bothB]
    by_cases c2 : m = [77, 75, 67, 79, 76]
    · subst c2; simp -implicitDefEqProofs [sMayChange_m, e0, tagR, e1]
    by_cases c3 : m = [80, 82, 79, 80, 80, 65, 84, 67, 72]
    · subst c3; simp -implicitDefEqProofs [sMayChange_m, e0, tagR, e4]
    by_cases c4 : m = [68, 69, 76, 69, 84, 69]
    · subst c4; simp -implicitDefEqProofs [sMayChange_m, e0, tagR, e2]
    by_cases c5 : m = [77, 79, 86, 69]
    · subst c5
      generalize bothB l p true tk = b1 at e2 ⊢
      cases b1 <;> simp -implicitDefEqProofs [sMayChange_m, e0, tagR, e2, e3]
    by_cases c6 : m = [67, 79, 80, 89]
    · subst c6; simp -implicitDefEqProofs [sMayChange_m, e0, tagR, e3]
    simp -implicitDefEqProofs [sMayChange_m, e0, tagR, c1, c2, c3, c4, c5, c6]
  | some tag =>
    rw [ht] at e0
    by_cases c1 : m = [80, 85, 84]
    · subst c1
      simp -implicitDefEqProofs [sMayChange_m, e0, tagR, e4]
    by_cases c2 : m = [77, 75, 67, 79, 76]
    · subst c2; simp -implicitDefEqProofs [sMayChange_m, e0, tagR, e1]
    by_cases c3 : m = [80, 82, 79, 80, 80, 65, 84, 67, 72]
    · subst c3; simp -implicitDefEqProofs [sMayChange_m, e0, tagR, e4]
    by_cases c4 : m = [68, 69, 76, 69, 84, 69]
    · subst c4; simp -implicitDefEqProofs [sMayChange_m, e0, tagR, e2]
    by_cases c5 : m = [77, 79, 86, 69]
    · subst c5
      generalize bothB l p true tk = b1 at e2 ⊢
      cases b1 <;> simp -implicitDefEqProofs [sMayChange_m, e0, tagR, e2, e3]
    by_cases c6 : m = [67, 79, 80, 89]
    · subst c6; simp -implicitDefEqProofs [sMayChange_m, e0, tagR, e3]
    simp -implicitDefEqProofs [sMayChange_m, e0, tagR, c1, c2, c3, c4, c5, c6]
theorem iMayChange_1_ok (s : SrvD) (a : AskD) (p : PathD) (deep : Bool) (hl : szT (.sl TLock) s.2.1 ≤ 1099511627776) (hp : p.length ≤ 1099511627776) (hk : a.2.2.2.2.1.length ≤ 9223372036854775807) :
    V iMayChange_1 [.d (.sl .str p), .d (.b deep), .rp none (srvC s), .rp none (askC a)] [] = rB (mayB s.2.1 p deep a.2.2.2.2.1) := by
  rw [V_eq (fn := iMayChange_1_m) (by kernel_rfl)]
  have e1 := iMayTurn_ok s.2.1 p deep a.2.2.2.2.1 hl (by omega) hk
  simp -implicitDefEqProofs [iMayChange_1_m, e1]
theorem iMayChange_2_ok (s : SrvD) (a : AskD) (h : AskOk s a) : V iMayChange_2 [.rf (.clo iMayChange_1 [.rp none (srvC s), .rp none (askC a)]), .rp none (askC a)] [] = rB (bothB s.2.1 a.1 true a.2.2.2.2.1) := by
  rw [V_eq (fn := iMayChange_2_m) (by kernel_rfl)]
  have e1 := iMayChange_1_ok s a a.1 true h.l h.p h.k
  have e2 := iMayChange_1_ok s a a.1.dropLast false h.l (dl_len h.p) h.k
  have e3 := iAbove_ok a.1 h.p
  unfold bothB
  generalize mayB s.2.1 a.1 true a.2.2.2.2.1 = b1 at e1 ⊢
  generalize mayB s.2.1 a.1.dropLast false a.2.2.2.2.1 = b2 at e2 ⊢
  cases b1 <;> simp -implicitDefEqProofs [iMayChange_2_m, e1, e2, e3]
theorem iMayChange_3_ok (s : SrvD) (a : AskD) (h : AskOk s a) : V iMayChange_3 [.rf (.clo iMayChange_1 [.rp none (srvC s), .rp none (askC a)]), .rp none (askC a)] [] = rB (bothB s.2.1 a.2.1 true a.2.2.2.2.1) := by
  rw [V_eq (fn := iMayChange_3_m) (by kernel_rfl)]
  have e1 := iMayChange_1_ok s a a.2.1 true h.l h.q h.k
  have e2 := iMayChange_1_ok s a a.2.1.dropLast false h.l (dl_len h.q) h.k
  have e3 := iAbove_ok a.2.1 h.q
  unfold bothB
  generalize mayB s.2.1 a.2.1 true a.2.2.2.2.1 = b1 at e1 ⊢
  generalize mayB s.2.1 a.2.1.dropLast false a.2.2.2.2.1 = b2 at e2 ⊢
  cases b1 <;> simp -implicitDefEqProofs [iMayChange_3_m, e1, e2, e3]
theorem iMayChange_ok (s : SrvD) (m : List UInt8) (a : AskD) (h : AskOk s a) : V iMayChange [srvA s, .d (.s m), askA a] [] = rB (changeB s m a) := by
  rw [V_eq (fn := iMayChange_m) (by kernel_rfl)]
  have e0 := iTagAt_ok s a.1 h.t h.v
  have e1 := iMayChange_1_ok s a a.1 false h.l h.p h.k
  have e2 := iMayChange_1_ok s a a.1.dropLast false h.l (dl_len h.p) h.k
  have e3 := iAbove_ok a.1 h.p
  have e4 := iMayChange_2_ok s a h
  have e5 := iMayChange_3_ok s a h
  obtain ⟨t, l, n1, n2, d1, d2⟩ := s
  obtain ⟨p, q, dp, ov, tk, code⟩ := a
  simp only at e0 e1 e2 e3 e4 e5 ⊢
  unfold changeB
  simp only
  by_cases c1 : m = [80, 85, 84]
  · subst c1
    generalize mayB l p false tk = b1 at e1 ⊢
    generalize mayB l p.dropLast false tk = b2 at e2 ⊢
    cases ht : tagAt t p <;> rw [ht] at e0 <;> cases b1 <;> simp -implicitDefEqProofs [iMayChange_m, e0, tagR, e1, e2, e3]
  by_cases c2 : m = [77, 75, 67, 79, 76]
  · subst c2
    unfold bothB
    generalize mayB l p false tk = b1 at e1 ⊢
    generalize mayB l p.dropLast false tk = b2 at e2 ⊢
    cases b1 <;> simp -implicitDefEqProofs [iMayChange_m, e1, e2, e3]
  by_cases c3 : m = [80, 82, 79, 80, 80, 65, 84, 67, 72]
  · subst c3; simp -implicitDefEqProofs [iMayChange_m, e1]
  by_cases c4 : m = [68, 69, 76, 69, 84, 69]
  · subst c4; simp -implicitDefEqProofs [iMayChange_m, e4]
  by_cases c5 : m = [77, 79, 86, 69]
  · subst c5
    generalize bothB l p true tk = b1 at e4 ⊢
    cases b1 <;> simp -implicitDefEqProofs [iMayChange_m, e4, e5]
  by_cases c6 : m = [67, 79, 80, 89]
  · subst c6; simp -implicitDefEqProofs [iMayChange_m, e5]
  simp -implicitDefEqProofs [iMayChange_m, c1, c2, c3, c4, c5, c6]
end Go.Proofs.YtcjdocdinmbjhaaDoorK
