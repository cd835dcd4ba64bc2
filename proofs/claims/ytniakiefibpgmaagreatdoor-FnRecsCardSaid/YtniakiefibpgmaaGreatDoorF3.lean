/- What the functions come to. -/
import Derived.Test.YtniakiefibpgmaaGreatDoorF2
set_option linter.unusedVariables false
set_option linter.unusedSimpArgs false
namespace Go.Proofs.YtniakiefibpgmaaGreatDoorK
open Go.RowKit
theorem trim_ok (s : List UInt8) (h : s.length ≤ 9223372036854775807) : V x_strings_Trim [.d (.s s), .d (.s [32, 9])] [] = rS (trimL (trimR s)) := by
  rw [V, evL_ext tab extE (by kernel_rfl)]; show x_strings_Trim_e [.d (.s s), .d (.s [32, 9])] = _
  exact if_pos ⟨rfl, h⟩
theorem sl1Blank_ok (b : UInt8) : V sl1Blank [.d (.u b)] [] = rB (blankB b) := by
  rw [V_eq (fn := sl1Blank_m) (by kernel_rfl)]
  unfold blankB
  by_cases h : b = 32
  · subst h; simp -implicitDefEqProofs [sl1Blank_m]
  · by_cases h2 : b = 9
    · subst h2; simp -implicitDefEqProofs [sl1Blank_m]
    · simp -implicitDefEqProofs [sl1Blank_m, h, h2]
theorem trimL_le (s : List UInt8) : (trimL s).length ≤ s.length := by
  unfold trimL
  induction s with
  | nil => exact Nat.le_refl _
  | cons b s ih =>
    rw [List.dropWhile_cons]
    split
    · rw [List.length_cons]; omega
    · exact Nat.le_refl _
theorem trimR_le (s : List UInt8) : (trimR s).length ≤ s.length := by
  unfold trimR; rw [List.length_reverse]; have := trimL_le s.reverse; rwa [List.length_reverse] at this
theorem trimL_cons (b : UInt8) (s : List UInt8) : trimL (b :: s) = if blankB b = true then trimL s else b :: s := by
  unfold trimL; rw [List.dropWhile_cons]
theorem trimR_snoc (b : UInt8) (s : List UInt8) : trimR (s ++ [b]) = if blankB b = true then trimR s else s ++ [b] := by
  unfold trimR; rw [List.reverse_append, List.reverse_singleton, List.singleton_append, trimL_cons]
  split
  · rfl
  · simp
theorem trimLR : ∀ s : List UInt8, trimL (trimR s) = trimR (trimL s)
  | [] => rfl
  | b :: s => by
    have ih := trimLR s
    rw [trimL_cons]
    cases hb : blankB b with
    | true =>
      rw [if_pos rfl]
      rw [← ih]
      -- the blank at the front goes, whatever is behind
      rcases List.eq_nil_or_concat s with e | ⟨q, c, e⟩
      · subst e
        have : trimR [b] = [] := by have := trimR_snoc b []; simpa [hb, show trimR [] = [] from rfl] using this
        rw [this]; rfl
      · have key : ∀ n (l : List UInt8), l.length = n → trimL (trimR (b :: l)) = trimL (trimR l) := by
          intro n
          induction n with
          | zero =>
            intro l hl
            obtain rfl := List.eq_nil_of_length_eq_zero hl
            have : trimR [b] = [] := by have := trimR_snoc b []; simpa [hb, show trimR [] = [] from rfl] using this
            rw [this]; rfl
          | succ n ihn =>
            intro l hl
            rcases List.eq_nil_or_concat l with e | ⟨q, c, e⟩
            · subst e; simp at hl
            · rw [List.concat_eq_append] at e
              subst e
              rw [← List.cons_append, trimR_snoc, trimR_snoc]
              cases hc : blankB c with
              | true => rw [if_pos rfl, if_pos rfl]; exact ihn q (by simpa using hl)
              | false => simp only [Bool.false_eq_true, if_false]; rw [List.cons_append, trimL_cons, if_pos hb]
        exact key _ s rfl
    | false =>
      simp only [Bool.false_eq_true, if_false]
      have key : ∀ n (l : List UInt8), l.length = n → ∃ l', trimR (b :: l) = b :: l' := by
        intro n
        induction n with
        | zero =>
          intro l hl
          obtain rfl := List.eq_nil_of_length_eq_zero hl
          exact ⟨[], by have := trimR_snoc b []; simpa [hb] using this⟩
        | succ n ihn =>
          intro l hl
          rcases List.eq_nil_or_concat l with e | ⟨q, c, e⟩
          · subst e; simp at hl
          · rw [List.concat_eq_append] at e
            subst e
            rw [← List.cons_append, trimR_snoc]
            cases hc : blankB c with
            | true => rw [if_pos rfl]; exact ihn q (by simpa using hl)
            | false => exact ⟨q ++ [c], by simp⟩
      obtain ⟨l', e⟩ := key _ s rfl
      rw [e, trimL_cons, hb]; rfl
theorem sTrim_l0' : ∀ (s : List UInt8), s.length ≤ 9223372036854775807 → DL V (.loop sTrim_l0) ⟨[(0, .d (.s s))], []⟩ = some (.ex 0, ⟨[(0, .d (.s (trimL s)))], []⟩)
  | [], _ => by
    rw [DL_loop]
    simp -implicitDefEqProofs [sTrim_l0, trimL]
  | b :: s, h => by
    have ih := sTrim_l0' s (by simp at h; omega)
    have e := sl1Blank_ok b
    rw [trimL_cons]
    rw [DL_loop]
    generalize DL V (.loop sTrim_l0) = G at ih ⊢
    have hl : (0 : Int) < (s.length : Int) + 1 := by omega
    have hn : (((s.length : Int) + 1).toNat - 1) = s.length := by omega
    cases hb : blankB b <;> rw [hb] at e <;> simp -implicitDefEqProofs [sTrim_l0, e, hl, ih, hn, (by omega : (0 : Int) ≤ (s.length : Int) + 1), (by omega : (1 : Int) ≤ (s.length : Int) + 1)]
theorem sTrim_l1' : ∀ (n : Nat) (s : List UInt8), s.length = n → n ≤ 9223372036854775807 → DL V (.loop sTrim_l1) ⟨[(0, .d (.s s))], []⟩ = some (.ex 2, ⟨[(0, .d (.s (trimR s)))], []⟩)
  | 0, s, hl, _ => by
    obtain rfl := List.eq_nil_of_length_eq_zero hl
    rw [DL_loop]
    simp -implicitDefEqProofs [sTrim_l1, trimR, trimL]
  | n + 1, s, hl, h => by
    rcases List.eq_nil_or_concat s with e | ⟨q, c, e⟩
    · subst e; simp at hl
    · rw [List.concat_eq_append] at e
      subst e
      have hq : q.length = n := by simpa using hl
      have ih := sTrim_l1' n q hq (by omega)
      have e := sl1Blank_ok c
      rw [trimR_snoc]
      rw [DL_loop]
      generalize DL V (.loop sTrim_l1) = G at ih ⊢
      have h1 : (0 : Int) < (q.length : Int) + 1 := by omega
      have h2 : IntKind.i64.wrap (q.length : Int) = (q.length : Int) := wrI (by omega) (by omega)
      cases hb : blankB c <;> rw [hb] at e <;> simp -implicitDefEqProofs [sTrim_l1, e, h1, h2, ih, (by omega : (q.length : Int) ≤ (q.length : Int) + 1)]
theorem sTrim_ok (s : List UInt8) (h : s.length ≤ 9223372036854775807) : V sTrim [.d (.s s)] [] = rS (trimL (trimR s)) := by
  rw [V_eq (fn := sTrim_m) (by kernel_rfl)]
  have e1 := sTrim_l0' s h
  have e2 := sTrim_l1' _ (trimL s) rfl (Nat.le_trans (trimL_le s) h)
  rw [trimLR]
  simp -implicitDefEqProofs [sTrim_m, e1, e2]
theorem iTrim_ok (s : List UInt8) (h : s.length ≤ 9223372036854775807) : V iTrim [.d (.s s)] [] = rS (trimL (trimR s)) := by
  rw [V_eq (fn := iTrim_m) (by kernel_rfl)]
  have e := trim_ok s h
  simp -implicitDefEqProofs [iTrim_m, e]
abbrev HeadD := List UInt8 × List UInt8
abbrev ReqD := List UInt8 × List UInt8 × List HeadD × List UInt8
def largeB (b : UInt8) : Bool := decide (65 ≤ b) && decide (b ≤ 90)
def valB (s : List UInt8) : Bool := decide (s.length ≤ 60) && s.all plainB && decide (trimL (trimR s) = s)
abbrev lengthN : List UInt8 := [99, 111, 110, 116, 101, 110, 116, 45, 108, 101, 110, 103, 116, 104]
abbrev codingN : List UInt8 := [116, 114, 97, 110, 115, 102, 101, 114, 45, 101, 110, 99, 111, 100, 105, 110, 103]
def headB (h : HeadD) : Bool := smallB h.1 && valB h.2 && !decide (h.1 = lengthN) && !decide (h.1 = codingN)
def headsB (l : List HeadD) : Bool := l.all headB && decide (l.length ≤ 8)
def lineB (m p : List UInt8) : Bool := m.all largeB && (decide (1 ≤ m.length) && decide (m.length ≤ 9)) && (decide (1 ≤ p.length) && decide (p.length ≤ 80)) && p.all plainB && !p.contains 32
def reqB (r : ReqD) : Bool := lineB r.1 r.2.1 && headsB r.2.2.1 && decide (r.2.2.2.length ≤ 200)
abbrev reqA (r : ReqD) : AV := .agg [.d (.s r.1), .d (.s r.2.1), .d (.sl THead r.2.2.1), .d (.s r.2.2.2)]
def headTextB (l : List HeadD) : List UInt8 := l.flatMap fun h => h.1 ++ ([58, 32] ++ (h.2 ++ [13, 10]))
theorem headTextB_len : ∀ l : List HeadD, (headTextB l).length ≤ 4 * szT (.sl THead) l
  | [] => by simp [headTextB]
  | h :: l => by
    have ih := headTextB_len l
    have e : szT (.sl THead) (h :: l) = szT (.sl THead) l + 1 + (h.1.length + h.2.length) := by
      rw [szT_slE, szT_slE]
      have : szL THead (h :: l) = szT THead h + szL THead l := szL_cons THead h l
      rw [this, szT_pr, szT_str, szT_str, List.length_cons]; omega
    rw [e]
    simp only [headTextB, List.flatMap_cons, List.length_append, List.length_cons, List.length_nil] at ih ⊢
    omega
theorem headTextB_snoc (l : List HeadD) (h : HeadD) : headTextB (l ++ [h]) = headTextB l ++ (h.1 ++ ([58, 32] ++ (h.2 ++ [13, 10]))) := by
  simp [headTextB]
theorem target_eq (p : List UInt8) : (p.all plainB && !p.contains 32) = p.all fun b => decide (33 ≤ b) && decide (b ≤ 126) := by
  induction p with
  | nil => rfl
  | cons b p ih =>
    rw [List.all_cons, List.all_cons, List.contains_cons, ← ih]
    have : (decide (33 ≤ b) && decide (b ≤ 126)) = (plainB b && !(32 == b)) := by
      unfold plainB
      by_cases h : b = 32
      · subst h; decide
      · have h1 : (32 == b) = false := by simpa using fun e => h e.symm
        rw [h1]
        have h2 : (32 ≤ b) = (33 ≤ b) := by
          apply propext
          simp only [UInt8.le_iff_toNat_le]
          have : b.toNat ≠ 32 := fun e => h (UInt8.toNat_inj.1 e)
          simp; omega
        simp [h2]
    rw [this]
    cases plainB b <;> cases (32 == b) <;> cases p.all plainB <;> cases p.contains 32 <;> rfl
theorem ivalOk_ok (s : List UInt8) (h : s.length ≤ 9223372036854775807) : V ivalOk [.d (.s s)] [] = rB (valB s) := by
  rw [V_eq (fn := ivalOk_m) (by kernel_rfl)]
  have e1 := iPlain_ok s h
  have e2 := iTrim_ok s h
  unfold valB
  generalize s.all plainB = t1 at e1 ⊢
  generalize trimL (trimR s) = q at e2 ⊢
  by_cases h1 : s.length ≤ 60
  · cases t1 <;> simp -implicitDefEqProofs [ivalOk_m, e1, e2, h1, (eq_true (by omega) : ((s.length : Int) ≤ 60) = True)]
  · simp -implicitDefEqProofs [ivalOk_m, h1, (eq_false (by omega) : ((s.length : Int) ≤ 60) = False)]
theorem sl3Val_ok (s : List UInt8) (h : s.length ≤ 9223372036854775807) : V sl3Val [.d (.s s)] [] = rB (valB s) := by
  rw [V_eq (fn := sl3Val_m) (by kernel_rfl)]
  have e1 := sPlain_ok s h
  have e2 := sTrim_ok s h
  unfold valB
  generalize s.all plainB = t1 at e1 ⊢
  generalize trimL (trimR s) = q at e2 ⊢
  by_cases h1 : s.length ≤ 60
  · cases t1 <;> simp -implicitDefEqProofs [sl3Val_m, e1, e2, h1, (eq_true (by omega) : ((s.length : Int) ≤ 60) = True)]
  · simp -implicitDefEqProofs [sl3Val_m, h1, (eq_false (by omega) : ((s.length : Int) ≤ 60) = False)]
theorem szHead (h : HeadD) : szT THead h = h.1.length + h.2.length := rfl
theorem iheadsOk_ok (l : List HeadD) (hl : szT (.sl THead) l ≤ 1099511627776) : V iheadsOk [.d (.sl THead l)] [] = rB (headsB l) := by
  rw [V_eq (fn := iheadsOk_m) (by kernel_rfl)]
  have hn := szLen (t := THead) (l := l)
  have L := loop_all (X := V) (c := iheadsOk_l0) l headB (fun i : Nat => ⟨[(7, i6 i), (6, i6 l.length), (5, .d (.sl THead l)), (0, .d (.sl THead l))], []⟩) (.ret, ⟨[(2, .d (.b false))], []⟩) (.ex 0, ⟨[(0, .d (.sl THead l))], []⟩) (by simp) (by simp)
    (fun i hi => by
      have hz := szG (t := THead) hi
      rw [szHead] at hz
      have e1 := iSmallName_ok l[i].1 (by omega)
      have e2 := ivalOk_ok l[i].2 (by omega)
      unfold headB
      generalize smallB l[i].1 = t1 at e1 ⊢
      generalize valB l[i].2 = t2 at e2 ⊢
      obtain ⟨t3, h3⟩ : ∃ t, decide (l[i].1 = lengthN) = t := ⟨_, rfl⟩
      obtain ⟨t4, h4⟩ : ∃ t, decide (l[i].1 = codingN) = t := ⟨_, rfl⟩
      rw [h3, h4]
      cases t1 <;> cases t2 <;> cases t3 <;> cases t4 <;> simp -implicitDefEqProofs [iheadsOk_l0, hi, get_some hi, e1, e2, h3, h4, wrap_succ hi (by omega)])
    (by simp -implicitDefEqProofs [iheadsOk_l0])
  simp only [Int.natCast_zero] at L
  unfold headsB
  cases h : l.all headB <;> rw [h] at L <;> simp -implicitDefEqProofs only [Bool.false_eq_true, if_true, if_false] at L <;> simp -implicitDefEqProofs [iheadsOk_m, L]
  omega
theorem szHeadS (h : HeadD) : szT THead h = h.1.length + h.2.length := rfl
theorem sl3Heads_ok (l : List HeadD) (hl : szT (.sl THead) l ≤ 1099511627776) : V sl3Heads [.d (.sl THead l)] [] = rB (headsB l) := by
  rw [V_eq (fn := sl3Heads_m) (by kernel_rfl)]
  have hn := szLen (t := THead) (l := l)
  have L := loop_all (X := V) (c := sl3Heads_l0) l headB (fun i : Nat => ⟨[(3, i6 i), (0, .d (.sl THead l))], []⟩) (.ret, ⟨[(2, .d (.b false))], []⟩) (.ex 0, ⟨[(0, .d (.sl THead l))], []⟩) (by simp) (by simp)
    (fun i hi => by
      have hz := szG (t := THead) hi
      rw [szHeadS] at hz
      have e1 := sSmallName_ok l[i].1 (by omega)
      have e2 := sl3Val_ok l[i].2 (by omega)
      unfold headB
      generalize smallB l[i].1 = t1 at e1 ⊢
      generalize valB l[i].2 = t2 at e2 ⊢
      obtain ⟨t3, h3⟩ : ∃ t, decide (l[i].1 = lengthN) = t := ⟨_, rfl⟩
      obtain ⟨t4, h4⟩ : ∃ t, decide (l[i].1 = codingN) = t := ⟨_, rfl⟩
      rw [h3, h4]
      cases t1 <;> cases t2 <;> cases t3 <;> cases t4 <;> simp -implicitDefEqProofs [sl3Heads_l0, hi, get_some hi, e1, e2, h3, h4, wrap_succ hi (by omega)])
    (by simp -implicitDefEqProofs [sl3Heads_l0])
  simp only [Int.natCast_zero] at L
  unfold headsB
  cases h : l.all headB <;> rw [h] at L <;> simp -implicitDefEqProofs only [Bool.false_eq_true, if_true, if_false] at L <;> simp -implicitDefEqProofs [sl3Heads_m, L]
  omega
theorem ilineOk_ok (m p : List UInt8) (hm : m.length ≤ 9223372036854775807) (hp : p.length ≤ 9223372036854775807) : V ilineOk [.d (.s m), .d (.s p)] [] = rB (lineB m p) := by
  rw [V_eq (fn := ilineOk_m) (by kernel_rfl)]
  have L := loop_all (X := V) (c := ilineOk_l0) m largeB (fun i : Nat => ⟨[(5, i6 i), (1, .d (.s p)), (0, .d (.s m))], []⟩) (.ret, ⟨[(4, .d (.b false))], []⟩) (.ex 0, ⟨[(1, .d (.s p)), (0, .d (.s m))], []⟩) (by simp) (by simp)
    (fun i hi => by
      have e := iisLarge_ok m[i]
      rw [show (decide (65 ≤ m[i]) && decide (m[i] ≤ 90)) = largeB m[i] from rfl] at e
      generalize largeB m[i] = t1 at e ⊢
      cases t1 <;> simp -implicitDefEqProofs [ilineOk_l0, hi, get_some hi, e, wrap_succ hi hm])
    (by simp -implicitDefEqProofs [ilineOk_l0])
  simp only [Int.natCast_zero] at L
  have e1 := iin_ok m.length 1 9
  have e2 := iin_ok p.length 1 80
  rw [show (decide ((1 : Int) ≤ (m.length : Int)) && decide ((m.length : Int) ≤ 9)) = (decide (1 ≤ m.length) && decide (m.length ≤ 9)) from len_range m.length 1 9] at e1
  rw [show (decide ((1 : Int) ≤ (p.length : Int)) && decide ((p.length : Int) ≤ 80)) = (decide (1 ≤ p.length) && decide (p.length ≤ 80)) from len_range p.length 1 80] at e2
  have e3 := iPlain_ok p hp
  have e4 := contains_ok p 32
  unfold lineB
  generalize m.all largeB = t1 at L ⊢
  generalize (decide (1 ≤ m.length) && decide (m.length ≤ 9)) = t2 at e1 ⊢
  generalize (decide (1 ≤ p.length) && decide (p.length ≤ 80)) = t3 at e2 ⊢
  generalize p.all plainB = t4 at e3 ⊢
  generalize p.contains 32 = t5 at e4 ⊢
  cases t1 <;> simp -implicitDefEqProofs only [Bool.false_eq_true, if_true, if_false] at L
  · simp -implicitDefEqProofs [ilineOk_m, L]
  cases t2
  · simp -implicitDefEqProofs [ilineOk_m, L, e1]
  cases t3
  · simp -implicitDefEqProofs [ilineOk_m, L, e1, e2]
  cases t4
  · simp -implicitDefEqProofs [ilineOk_m, L, e1, e2, e3]
  simp -implicitDefEqProofs [ilineOk_m, L, e1, e2, e3, e4]
theorem sl3Method_ok (m : List UInt8) (hm : m.length ≤ 9223372036854775807) : V sl3Method [.d (.s m)] [] = rB (m.all largeB && (decide (1 ≤ m.length) && decide (m.length ≤ 9))) := by
  rw [V_eq (fn := sl3Method_m) (by kernel_rfl)]
  have L := loop_all (X := V) (c := sl3Method_l0) m largeB (fun i : Nat => ⟨[(3, i6 i), (0, .d (.s m))], []⟩) (.ret, ⟨[(2, .d (.b false))], []⟩) (.ex 0, ⟨[(0, .d (.s m))], []⟩) (by simp) (by simp)
    (fun i hi => by
      have e := sl1Large_ok m[i]
      rw [show (decide (65 ≤ m[i]) && decide (m[i] ≤ 90)) = largeB m[i] from rfl] at e
      generalize largeB m[i] = t1 at e ⊢
      cases t1 <;> simp -implicitDefEqProofs [sl3Method_l0, hi, get_some hi, e, wrap_succ hi hm])
    (by simp -implicitDefEqProofs [sl3Method_l0])
  simp only [Int.natCast_zero] at L
  have e1 := sl1In_ok m.length 1 9
  rw [show (decide ((1 : Int) ≤ (m.length : Int)) && decide ((m.length : Int) ≤ 9)) = (decide (1 ≤ m.length) && decide (m.length ≤ 9)) from len_range m.length 1 9] at e1
  generalize (decide (1 ≤ m.length) && decide (m.length ≤ 9)) = t2 at e1 ⊢
  cases h : m.all largeB <;> rw [h] at L <;> simp -implicitDefEqProofs only [Bool.false_eq_true, if_true, if_false] at L <;> simp -implicitDefEqProofs [sl3Method_m, L, e1]
theorem sl3Target_ok (p : List UInt8) (hp : p.length ≤ 9223372036854775807) : V sl3Target [.d (.s p)] [] = rB ((p.all plainB && !p.contains 32) && (decide (1 ≤ p.length) && decide (p.length ≤ 80))) := by
  rw [V_eq (fn := sl3Target_m) (by kernel_rfl)]
  rw [target_eq]
  have L := loop_all (X := V) (c := sl3Target_l0) p (fun b => decide (33 ≤ b) && decide (b ≤ 126)) (fun i : Nat => ⟨[(3, i6 i), (0, .d (.s p))], []⟩) (.ret, ⟨[(2, .d (.b false))], []⟩) (.ex 0, ⟨[(0, .d (.s p))], []⟩) (by simp) (by simp)
    (fun i hi => by
      have e := sl1In_ok (p[i].toNat) 33 126
      rw [show (decide ((33 : Int) ≤ (p[i].toNat : Int)) && decide ((p[i].toNat : Int) ≤ 126)) = (decide (33 ≤ p[i]) && decide (p[i] ≤ 126)) from u8_range p[i] 33 126 (by omega) (by omega)] at e
      generalize (decide (33 ≤ p[i]) && decide (p[i] ≤ 126)) = t1 at e ⊢
      cases t1 <;> simp -implicitDefEqProofs [sl3Target_l0, hi, get_some hi, wrap_b, e, wrap_succ hi hp])
    (by simp -implicitDefEqProofs [sl3Target_l0])
  simp only [Int.natCast_zero] at L
  have e1 := sl1In_ok p.length 1 80
  rw [show (decide ((1 : Int) ≤ (p.length : Int)) && decide ((p.length : Int) ≤ 80)) = (decide (1 ≤ p.length) && decide (p.length ≤ 80)) from len_range p.length 1 80] at e1
  generalize (decide (1 ≤ p.length) && decide (p.length ≤ 80)) = t2 at e1 ⊢
  cases h : p.all (fun b => decide (33 ≤ b) && decide (b ≤ 126)) <;> rw [h] at L <;> simp -implicitDefEqProofs only [Bool.false_eq_true, if_true, if_false] at L <;> simp -implicitDefEqProofs [sl3Target_m, L, e1]
abbrev szR (r : ReqD) : Nat := r.1.length + (r.2.1.length + (szT (.sl THead) r.2.2.1 + r.2.2.2.length))
theorem iReqOk_ok (r : ReqD) (h : szR r ≤ 1099511627776) : V iReqOk [reqA r] [] = rB (reqB r) := by
  rw [V_eq (fn := iReqOk_m) (by kernel_rfl)]
  obtain ⟨m, p, l, b⟩ := r
  simp only [szR] at h
  have e1 := ilineOk_ok m p (by omega) (by omega)
  have e2 := iheadsOk_ok l (by omega)
  unfold reqB
  simp only
  generalize lineB m p = t1 at e1 ⊢
  generalize headsB l = t2 at e2 ⊢
  by_cases hb : b.length ≤ 200
  · cases t1 <;> cases t2 <;> simp -implicitDefEqProofs [iReqOk_m, e1, e2, hb, (eq_true (by omega) : ((b.length : Int) ≤ 200) = True)]
  · cases t1 <;> cases t2 <;> simp -implicitDefEqProofs [iReqOk_m, e1, e2, hb, (eq_false (by omega) : ((b.length : Int) ≤ 200) = False)]
theorem sReqOk_ok (r : ReqD) (h : szR r ≤ 1099511627776) : V sReqOk [reqA r] [] = rB (reqB r) := by
  rw [V_eq (fn := sReqOk_m) (by kernel_rfl)]
  obtain ⟨m, p, l, b⟩ := r
  simp only [szR] at h
  have e1 := sl3Method_ok m (by omega)
  have e2 := sl3Target_ok p (by omega)
  have e3 := sl3Heads_ok l (by omega)
  have hq : reqB (m, p, l, b) = ((m.all largeB && (decide (1 ≤ m.length) && decide (m.length ≤ 9))) && ((p.all plainB && !p.contains 32) && (decide (1 ≤ p.length) && decide (p.length ≤ 80))) && headsB l && decide (b.length ≤ 200)) := by
    unfold reqB lineB
    simp only
    cases m.all largeB <;> cases (decide (1 ≤ m.length) && decide (m.length ≤ 9)) <;> cases p.all plainB <;> cases p.contains 32 <;> cases (decide (1 ≤ p.length) && decide (p.length ≤ 80)) <;> rfl
  rw [hq]
  generalize (m.all largeB && (decide (1 ≤ m.length) && decide (m.length ≤ 9))) = t1 at e1 ⊢
  generalize ((p.all plainB && !p.contains 32) && (decide (1 ≤ p.length) && decide (p.length ≤ 80))) = t2 at e2 ⊢
  generalize headsB l = t3 at e3 ⊢
  by_cases hb : b.length ≤ 200
  · cases t1 <;> cases t2 <;> cases t3 <;> simp -implicitDefEqProofs [sReqOk_m, e1, e2, e3, hb, (eq_true (by omega) : ((b.length : Int) ≤ 200) = True)]
  · cases t1 <;> cases t2 <;> cases t3 <;> simp -implicitDefEqProofs [sReqOk_m, e1, e2, e3, hb, (eq_false (by omega) : ((b.length : Int) ≤ 200) = False)]
theorem headTake (l : List HeadD) (i : Nat) (h : i < l.length) : headTextB (l.take (i + 1)) = headTextB (l.take i) ++ (l[i].1 ++ ([58, 32] ++ (l[i].2 ++ [13, 10]))) := by
  rw [take_snoc h, headTextB_snoc]
theorem szTake {t : T} {l : List t.den} {i : Nat} : szT (.sl t) (l.take i) ≤ szT (.sl t) l := by
  have h : szL t l = szL t (l.take i) + szL t (l.drop i) := by
    have e : l = l.take i ++ l.drop i := (List.take_append_drop i l).symm
    have key : ∀ a b : List t.den, szL t (a ++ b) = szL t a + szL t b := fun a b => by simp [szL]
    rw [← key, ← e]
  rw [szT_slE, szT_slE, List.length_take]
  omega
theorem iheadText_ok (l : List HeadD) (hl : szT (.sl THead) l ≤ 1099511627776) : V iheadText [.d (.sl THead l)] [] = rS (headTextB l) := by
  rw [V_eq (fn := iheadText_m) (by kernel_rfl)]
  have hn := szLen (t := THead) (l := l)
  have L := loop_each (X := V) (c := iheadText_l0) l.length (fun i : Nat => ⟨[(8, i6 i), (7, i6 l.length), (6, .d (.sl THead l)), (3, .d (.s (headTextB (l.take i))))], []⟩) (.ex 0, ⟨[(3, .d (.s (headTextB l)))], []⟩) (by simp)
    (fun i hi => by
      have hz := szG (t := THead) hi
      have hy : szT THead l[i] = l[i].1.length + l[i].2.length := rfl
      have hk := headTextB_len (l.take i)
      have hk2 := szTake (t := THead) (l := l) (i := i)
      rw [headTake l i hi]
      generalize headTextB (l.take i) = q at hk ⊢
      simp -implicitDefEqProofs [iheadText_l0, hi, get_some hi, wrap_succ hi (by omega), (by omega : l[i].1.length + 2 ≤ 9223372036854775807), (by omega : l[i].1.length + (2 + l[i].2.length) ≤ 9223372036854775807), (by omega : l[i].1.length + 2 + l[i].2.length ≤ 9223372036854775807), (by omega : l[i].1.length + (l[i].2.length + 2) ≤ 9223372036854775807), (by omega : l[i].1.length ≤ 9223372036854775805), (by omega : q.length + (l[i].1.length + (l[i].2.length + 1 + 1 + 1 + 1)) ≤ 9223372036854775807)]
      try omega)
    (by rw [List.take_length]; simp -implicitDefEqProofs [iheadText_l0])
  simp only [Int.natCast_zero, List.take_zero, headTextB, List.flatMap_nil] at L
  unfold headTextB
  simp -implicitDefEqProofs [iheadText_m, L]
end Go.Proofs.YtniakiefibpgmaaGreatDoorK
