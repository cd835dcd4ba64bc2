/- What the functions come to. -/
import Derived.Test.YtniakiefibpgmaaGreatDoorF7
set_option linter.unusedVariables false
set_option linter.unusedSimpArgs false
namespace Go.Proofs.YtniakiefibpgmaaGreatDoorK
open Go.RowKit
abbrev FrT := T.den Tl3Frame
abbrev fraO (r : FrT) : Ob := .ls Tl3Frame false [r] 0 []
abbrev frV (m p b : List UInt8) (g : SdS) : FrT := ((m, p, g.hs, b), g.size, (g.told : Int), g.codes)
theorem lineB_two (m p : List UInt8) : lineB m p = ((m.all largeB && (decide (1 ≤ m.length) && decide (m.length ≤ 9))) && ((p.all plainB && !p.contains 32) && (decide (1 ≤ p.length) && decide (p.length ≤ 80)))) := by
  unfold lineB
  cases m.all largeB <;> cases (decide (1 ≤ m.length) && decide (m.length ≤ 9)) <;> cases p.all plainB <;> cases p.contains 32 <;> cases (decide (1 ≤ p.length) && decide (p.length ≤ 80)) <;> rfl
theorem splC_len (c : UInt8) : ∀ s : List UInt8, (splC c s).1.length ≤ s.length ∧ (∀ l ∈ (splC c s).2, l.length ≤ s.length) ∧ (splC c s).2.length ≤ s.length
  | [] => by simp [splC]
  | b :: r => by
    obtain ⟨h1, h2, h3⟩ := splC_len c r
    unfold splC
    split
    · refine ⟨by simp, fun l hl => ?_, by simp only [List.length_cons]; omega⟩
      rcases List.mem_cons.1 hl with e | e
      · subst e; simp only [List.length_cons]; omega
      · have := h2 l e; simp only [List.length_cons]; omega
    · refine ⟨by simp only [List.length_cons]; omega, fun l hl => ?_, by simp only [List.length_cons]; omega⟩
      have := h2 l hl; simp only [List.length_cons]; omega
theorem splitC_mem {c : UInt8} {s l : List UInt8} (h : l ∈ splitC c s) : l.length ≤ s.length := by
  obtain ⟨h1, h2, _⟩ := splC_len c s
  rcases List.mem_cons.1 h with e | e
  · subst e; exact h1
  · exact h2 l e
/-- What the first line says. -/
def fstB (l : List UInt8) : Option (List UInt8 × List UInt8) := match splitC 32 l with | [m, p, v] => if v = httpT then some (m, p) else none | _ => none
theorem headB0_fst (s : List UInt8) : headB0 s = match fstB (lnC s).1 with | some (m, p) => if lineB m p = true then some (m, p) else none | none => none := by
  unfold headB0 fstB
  rcases splitC 32 (lnC s).1 with _ | ⟨m, _ | ⟨p, _ | ⟨v, _ | ⟨w, l⟩⟩⟩⟩
  · rfl
  · rfl
  · rfl
  · simp only
    by_cases h1 : v = httpT
    · simp [h1]
    · simp [h1]
  · rfl
theorem sl3First_ok (f : FrT) (s : List UInt8) (h : s.length ≤ 1099511627776) : V sl3First [.p 0 0 0, .d (.s s)] [fraO f] = match fstB s with
    | some (m, p) => some ([some (fraO ((m, p, f.1.2.2), f.2))], .one (.fz (.b (lineB m p))))
    | none => some ([some (fraO f)], .one (.fz (.b false))) := by
  rw [V_eq (fn := sl3First_m) (by kernel_rfl)]
  have e := sl2Split_ok s 32 h
  have hm := fun l (hl : l ∈ splitC 32 s) => splitC_mem hl
  have hlen : (splitC 32 s).length ≤ s.length + 1 := by have := (splC_len 32 s).2.2; simp only [splitC, List.length_cons]; omega
  unfold fstB
  obtain ⟨⟨m0, p0, hs, b⟩, z, t, c⟩ := f
  generalize splitC 32 s = q at e hm hlen ⊢
  by_cases h3 : q.length = 3
  · match q, h3 with
    | [m, p, v], _ =>
      have hm1 := hm m (by simp)
      have hm2 := hm p (by simp)
      have e1 := sl3Method_ok m (by omega)
      have e2 := sl3Target_ok p (by omega)
      simp only
      by_cases hv : v = httpT
      · subst hv
        rw [if_pos rfl]
        simp only
        rw [lineB_two]
        generalize (m.all largeB && (decide (1 ≤ m.length) && decide (m.length ≤ 9))) = t1 at e1 ⊢
        generalize ((p.all plainB && !p.contains 32) && (decide (1 ≤ p.length) && decide (p.length ≤ 80))) = t2 at e2 ⊢
        cases t1 <;> simp -implicitDefEqProofs [sl3First_m, e, e1, e2]
      · rw [if_neg hv]
        simp -implicitDefEqProofs [sl3First_m, e, hv]
  · have h3' : ((q.length : Int) = 3) = False := eq_false (by omega)
    have hmt : (match q with | [m, p, v] => if v = httpT then some (m, p) else none | _ => none) = none := by
      rcases q with _ | ⟨m, _ | ⟨p, _ | ⟨v, _ | ⟨w, l⟩⟩⟩⟩
      · rfl
      · rfl
      · rfl
      · simp at h3
      · rfl
    rw [hmt]
    simp -implicitDefEqProofs [sl3First_m, e, h3']
theorem lowerB_len (s : List UInt8) : (lowerB s).length = s.length := by unfold lowerB; rw [List.length_map]
theorem trim_len (s : List UInt8) : (trimL (trimR s)).length ≤ s.length := Nat.le_trans (trimL_le _) (trimR_le s)
def sHd (f : SdS) (s : List UInt8) : SdS × Int := match lineHd s with
  | none => (f, 400)
  | some (n, v) =>
    if n = lengthN then ({ f with size := (parseB v 9999999).1, told := f.told + 1 }, if (parseB v 9999999).2 = true then 0 else 400)
    else if n = codingN then ({ f with size := -1, told := f.told + 1, codes := if lowerB v = chunkedT then f.codes else f.codes ++ [501] }, 0)
    else ({ f with hs := f.hs ++ [(n, v)], codes := if 8 < f.hs.length + 1 then f.codes ++ [431] else f.codes }, 0)
theorem sLn_sHd (f : SdS) (s : List UInt8) : sLn f s = if (sHd f s).2 = 0 then some (sHd f s).1 else none := by
  unfold sLn sHd
  rcases lineHd s with _ | ⟨n, v⟩
  · rfl
  · simp only
    by_cases h1 : n = lengthN
    · cases (parseB v 9999999).2 <;> simp [h1]
    · by_cases h2 : n = codingN <;> simp [h1, h2]
theorem sHd_bd (f : SdS) (s : List UInt8) : (sHd f s).1.hs.length ≤ f.hs.length + 1 ∧ (sHd f s).1.codes.length ≤ f.codes.length + 1 ∧ (sHd f s).1.told ≤ f.told + 1 := by
  unfold sHd
  split
  · exact ⟨by simp, by simp, by simp⟩
  · split
    · exact ⟨by simp only; omega, by simp only; omega, by simp only; omega⟩
    · split
      · refine ⟨by simp only; omega, ?_, by simp only; omega⟩
        simp only; split <;> simp
      · refine ⟨by simp, ?_, by simp only; omega⟩
        simp only; split <;> simp
set_option maxHeartbeats 2000000 in
theorem sl3Head_ok (m p b : List UInt8) (g : SdS) (s : List UInt8) (h : s.length ≤ 1099511627776) (h1 : g.hs.length ≤ 1099511627776) (h2 : g.codes.length ≤ 1099511627776) (h3 : g.told ≤ 1099511627776) :
    V sl3Head [.p 0 0 0, .d (.s s)] [fraO (frV m p b g)] = some ([some (fraO (frV m p b (sHd g s).1))], .one (.fz (.i .i64 (sHd g s).2))) := by
  rw [V_eq (fn := sl3Head_m) (by kernel_rfl)]
  obtain ⟨hs, z, t, cs⟩ := g
  simp only at h1 h2 h3
  have L := loop_find (X := V) (c := sl3Head_l0) s (· == 58) (fun i : Nat => ⟨[(5, i6 i), (1, .d (.s s)), (0, .p 0 0 0)], [(0, fraO (frV m p b ⟨hs, z, t, cs⟩))]⟩) (fun i => (.ex 0, ⟨[(5, i6 i), (1, .d (.s s)), (0, .p 0 0 0)], [(0, fraO (frV m p b ⟨hs, z, t, cs⟩))]⟩)) (.ex 0, ⟨[(5, i6 s.length), (1, .d (.s s)), (0, .p 0 0 0)], [(0, fraO (frV m p b ⟨hs, z, t, cs⟩))]⟩) (by simp) (by simp)
    (fun i hi => by
      by_cases hc : s[i] = 58
      · simp -implicitDefEqProofs [sl3Head_l0, hi, get_some hi, hc]
      · simp -implicitDefEqProofs [sl3Head_l0, hi, get_some hi, hc, wrap_succ hi (by omega)])
    (by simp -implicitDefEqProofs [sl3Head_l0])
  rw [← idxN_one] at L
  simp only [Int.natCast_zero] at L
  unfold sHd lineHd
  cases hi : idxN [58] s with
  | none =>
    rw [hi] at L
    simp only at L
    simp -implicitDefEqProofs [sl3Head_m, L]
  | some i =>
    rw [hi] at L
    have hlt := idxN_lt (by decide) hi
    simp only [List.length_cons, List.length_nil] at hlt L
    have e1 := sLower_ok (s.take i) (by rw [List.length_take]; omega)
    have e2 := sTrim_ok (s.drop (i + 1)) (by rw [List.length_drop]; omega)
    have k1 : (lowerB (s.take i)).length ≤ 1099511627776 := by rw [lowerB_len, List.length_take]; omega
    have k2 : (trimL (trimR (s.drop (i + 1)))).length ≤ 1099511627776 := by have := trim_len (s.drop (i + 1)); rw [List.length_drop] at this; omega
    simp only
    generalize lowerB (s.take i) = n at e1 k1 ⊢
    generalize trimL (trimR (s.drop (i + 1))) = v at e2 k2 ⊢
    have e3 := sSmallName_ok n (by omega)
    have e4 := sl3Val_ok v (by omega)
    have e5 := sParseNum_ok v 9999999 k2
    have e6 := sLower_ok v k2
    have w1 : IntKind.i64.wrap ((i : Int) + 1) = (i : Int) + 1 := wrI (by omega) (by omega)
    have w2 : IntKind.i64.wrap ((t : Int) + 1) = (t : Int) + 1 := wrI (by omega) (by omega)
    have q1 : ((i : Int) = (s.length : Int)) = False := eq_false (by omega)
    have q2 : ((i : Int) ≤ (s.length : Int)) = True := eq_true (by omega)
    have q3 : ((i : Int) + 1 ≤ (s.length : Int)) = True := eq_true (by omega)
    have q4 : ((0 : Int) ≤ (i : Int) + 1) = True := eq_true (by omega)
    have n1 : ((i : Int) + 1).toNat = i + 1 := by omega
    have dt : (s.drop (i + 1)).take (s.length - (i + 1)) = s.drop (i + 1) := List.take_of_length_le (by simp)
    cases t1 : smallB n
    · rw [t1] at e3
      simp -implicitDefEqProofs [sl3Head_m, L, q1, q2, q3, q4, n1, dt, w1, e1, e2, e3]
    cases t2 : valB v
    · rw [t1] at e3; rw [t2] at e4
      simp -implicitDefEqProofs [sl3Head_m, L, q1, q2, q3, q4, n1, dt, w1, e1, e2, e3, e4]
    rw [t1] at e3; rw [t2] at e4
    simp only [Bool.and_self, if_true]
    by_cases hl : n = lengthN
    · subst hl
      generalize parseB v 9999999 = r at e5 ⊢
      obtain ⟨r1, r2⟩ := r
      cases r2 <;> simp -implicitDefEqProofs [sl3Head_m, L, q1, q2, q3, q4, n1, dt, w1, w2, e1, e2, e3, e4, e5]
    by_cases hc : n = codingN
    · subst hc
      generalize lowerB v = y at e6 ⊢
      by_cases hk : y = chunkedT
      · simp -implicitDefEqProofs [sl3Head_m, L, q1, q2, q3, q4, n1, dt, w1, w2, e1, e2, e3, e4, e6, hk]
      · simp -implicitDefEqProofs [sl3Head_m, L, q1, q2, q3, q4, n1, dt, w1, w2, e1, e2, e3, e4, e6, hk, take_snoc_all rfl]
        omega
    · by_cases h8 : 8 < hs.length + 1
      · simp -implicitDefEqProofs [sl3Head_m, L, q1, q2, q3, q4, n1, dt, w1, w2, e1, e2, e3, e4, hl, hc, (eq_true (by omega) : ((8 : Int) < (hs.length : Int) + 1) = True), take_snoc_all rfl]
        omega
      · simp -implicitDefEqProofs [sl3Head_m, L, q1, q2, q3, q4, n1, dt, w1, w2, e1, e2, e3, e4, hl, hc, (eq_false (by omega) : ((8 : Int) < (hs.length : Int) + 1) = False), take_snoc_all rfl]
        omega
/-- The first of some that is in the list. -/
def firstIn (l : List Int) : List Int → Int
  | [] => 0
  | c :: cs => if c ∈ l then c else firstIn l cs
theorem sl3Least_l0' (l cs : List Int) (k : Nat) (hk : k < cs.length) (h : l.length ≤ 1099511627776) :
    DL V (.loop sl3Least_l0) ⟨[(6, i6 0), (5, i6 k), (1, .d (.sl (.int .i64) cs)), (0, .d (.sl (.int .i64) l))], []⟩ =
      if cs[k] ∈ l then some (.ret, ⟨[(4, i6 cs[k])], []⟩) else some (.ex 2, ⟨[(5, i6 k), (1, .d (.sl (.int .i64) cs)), (0, .d (.sl (.int .i64) l))], []⟩) := by
  have L := loop_find (X := V) (c := sl3Least_l0) l (· == cs[k]) (fun i : Nat => ⟨[(6, i6 i), (5, i6 k), (1, .d (.sl (.int .i64) cs)), (0, .d (.sl (.int .i64) l))], []⟩) (fun _ => (.ret, ⟨[(4, i6 cs[k])], []⟩)) (.ex 2, ⟨[(5, i6 k), (1, .d (.sl (.int .i64) cs)), (0, .d (.sl (.int .i64) l))], []⟩) (by simp) (by simp)
    (fun i hi => by
      by_cases hc : l[i] = cs[k]
      · simp -implicitDefEqProofs [sl3Least_l0, hi, hk, get_some hi, get_some hk, hc]
      · simp -implicitDefEqProofs [sl3Least_l0, hi, hk, get_some hi, get_some hk, hc, wrap_succ hi (by omega)])
    (by simp -implicitDefEqProofs [sl3Least_l0])
  simp only [Int.natCast_zero] at L
  rw [L]
  by_cases hc : cs[k] ∈ l
  · rw [if_pos hc]
    cases hf : l.findIdx? (· == cs[k]) with
    | none => exact absurd (List.findIdx?_eq_none_iff.1 hf _ hc) (by simp)
    | some i => rfl
  · rw [if_neg hc]
    cases hf : l.findIdx? (· == cs[k]) with
    | none => rfl
    | some i =>
      obtain ⟨hi, h1, _⟩ := List.findIdx?_eq_some_iff_getElem.1 hf
      exact absurd (by rw [← show l[i] = cs[k] by simpa using h1]; exact List.getElem_mem hi) hc
theorem sl3Least_ok (l cs : List Int) (h : l.length ≤ 1099511627776) (h' : cs.length ≤ 1099511627776) : V sl3Least [.d (.sl (.int .i64) l), .d (.sl (.int .i64) cs)] [] = rI (firstIn l cs) := by
  rw [V_eq (fn := sl3Least_m) (by kernel_rfl)]
  have L := loop_rec (X := V) (c := sl3Least_l1) (fun k : Nat => ⟨[(5, i6 k), (1, .d (.sl (.int .i64) cs)), (0, .d (.sl (.int .i64) l))], []⟩)
    (fun k => if (cs.drop k).any (fun c => decide (c ∈ l)) = true then some (.ret, ⟨[(4, i6 (firstIn l (cs.drop k)))], []⟩) else some (.ex 0, ⟨[], []⟩)) (fun k => cs.length - k) (fun k => k ≤ cs.length) (fun k hk => by
      rcases Nat.lt_or_ge k cs.length with g | g
      · have e := sl3Least_l0' l cs k g h
        rw [drop_cons g, List.any_cons, firstIn]
        by_cases hc : cs[k] ∈ l
        · rw [if_pos hc] at e
          rw [if_pos hc, decide_eq_true hc]
          refine .inr ⟨(.ret, ⟨[(4, i6 cs[k])], []⟩), by simp, ?_, by simp⟩
          simp -implicitDefEqProofs [sl3Least_l1, g, e]
        · rw [if_neg hc] at e
          rw [if_neg hc, decide_eq_false hc]
          refine .inl ⟨k + 1, ?_, by omega, by omega, by simp⟩
          simp -implicitDefEqProofs [sl3Least_l1, g, e, wrap_succ g (by omega)]
          try omega
      · obtain rfl : k = cs.length := by omega
        refine .inr ⟨(.ex 0, ⟨[], []⟩), by simp, ?_, by simp⟩
        simp -implicitDefEqProofs [sl3Least_l1]) 0 (Nat.zero_le _)
  simp only [Int.natCast_zero, List.drop_zero] at L
  have key : ∀ cs : List Int, cs.any (fun c => decide (c ∈ l)) = false → firstIn l cs = 0 := by
    intro cs
    induction cs with
    | nil => intro _; rfl
    | cons c cs ih =>
      intro hc
      rw [List.any_cons, Bool.or_eq_false_iff] at hc
      rw [firstIn, if_neg (by simpa using hc.1), ih hc.2]
  cases ha : cs.any (fun c => decide (c ∈ l)) with
  | true => rw [ha, if_pos rfl] at L; simp -implicitDefEqProofs [sl3Least_m, L]
  | false => rw [ha, if_neg (by simp)] at L; simp -implicitDefEqProofs [sl3Least_m, L, key cs ha]
theorem firstIn_least (l : List Int) : firstIn l [431, 501, 413] = leastB l := by
  unfold leastB firstIn firstIn firstIn firstIn; rfl
theorem goM_app {S α : Type} (f : S → α → Option S) : ∀ (l k : List α) (s : S), goM f s (l ++ k) = (goM f s l).bind fun s' => goM f s' k
  | [], _, _ => rfl
  | x :: l, k, s => by
    simp only [List.cons_append, goM]
    cases f s x with
    | none => rfl
    | some s' => exact goM_app f l k s'
theorem sHd_code (f : SdS) (s : List UInt8) : (sHd f s).2 = 0 ∨ (sHd f s).2 = 400 := by
  unfold sHd
  rcases lineHd s with _ | ⟨n, v⟩
  · exact .inr rfl
  · simp only
    by_cases h1 : n = lengthN
    · cases (parseB v 9999999).2 <;> simp [h1]
    · by_cases h2 : n = codingN <;> simp [h1, h2]
theorem lnC_len : ∀ s : List UInt8, (lnC s).1.length ≤ s.length ∧ (∀ l ∈ (lnC s).2, l.length ≤ s.length) ∧ (lnC s).2.length ≤ s.length
  | [] => by simp [lnC]
  | [b] => by simp [lnC]
  | b :: d :: r => by
    rw [lnC]
    split
    · obtain ⟨h1, h2, h3⟩ := lnC_len r
      refine ⟨by simp, fun l hl => ?_, by simp only [List.length_cons]; omega⟩
      rcases List.mem_cons.1 hl with e | e
      · subst e; simp only [List.length_cons]; omega
      · have := h2 l e; simp only [List.length_cons]; omega
    · obtain ⟨h1, h2, h3⟩ := lnC_len (d :: r)
      simp only [List.length_cons] at h1 h2 h3
      refine ⟨by simp only [List.length_cons]; omega, fun l hl => ?_, by simp only [List.length_cons]; omega⟩
      have := h2 l hl; simp only [List.length_cons]; omega
theorem sl3Read_ok (s : List UInt8) (h : s.length ≤ 1000000000) : ∃ row : FrT, V sl3Read [.p 0 0 0, .d (.s s)] [fraO (frV [] [] [] sd0)] = some ([some (fraO row)], .one (.fz (.i .i64 (codeB s)))) ∧
    (codeB s = 0 → ∃ m p g cs, headB0 s = some (m, p) ∧ goM sLn sd0 (lnC s).2 = some g ∧ row = frV m p [] ⟨g.hs, g.size, g.told, cs⟩) := by
  rw [V_eq (fn := sl3Read_m) (by kernel_rfl)]
  have e0 := sl3Lines_ok s (by omega)
  obtain ⟨hl0, hl1, hl2⟩ := lnC_len s
  have e1 := sl3First_ok (frV [] [] [] sd0) (lnC s).1 (by omega)
  have hrel := rel_all (lnC s).2 hd0 sd0 rfl rel0
  have hfin := fin_eq hrel
  unfold codeB foldB
  rw [headB0_fst]
  unfold linesB at e0
  generalize hq : (lnC s).2 = ls at e0 hl1 hl2 hrel hfin ⊢
  generalize (lnC s).1 = l0 at e0 e1 hl0 ⊢
  cases hf : fstB l0 with
  | none =>
    rw [hf] at e1
    simp only at e1 ⊢
    refine ⟨frV [] [] [] sd0, ?_, fun h => by cases h⟩
    simp -implicitDefEqProofs [sl3Read_m, e0, e1]
  | some mp =>
    obtain ⟨m, p⟩ := mp
    rw [hf] at e1
    simp only at e1 ⊢
    cases hlb : lineB m p with
    | false =>
      rw [hlb] at e1
      simp only [Bool.false_eq_true, if_false] at e1 ⊢
      refine ⟨frV m p [] sd0, ?_, fun h => by cases h⟩
      simp -implicitDefEqProofs [sl3Read_m, e0, e1]
    | true =>
      rw [hlb] at e1
      simp only [if_true]
      have stepI := loop_ex (X := V) (c := sl3Read_l0) ls.length
        (fun i σ => ∃ g, goM sLn sd0 (ls.take i) = some g ∧ g.hs.length ≤ i ∧ g.codes.length ≤ i ∧ g.told ≤ i ∧ σ = ⟨[(6, i6 ((i : Int) + 1)), (5, .d (.sl .str (l0 :: ls))), (0, .p 0 0 0)], [(0, fraO (frV m p [] g))]⟩)
        (fun e σ => (∃ g, goM sLn sd0 ls = some g ∧ g.hs.length ≤ ls.length ∧ g.codes.length ≤ ls.length ∧ g.told ≤ ls.length ∧ e = .ex 0 ∧ σ = ⟨[(0, .p 0 0 0)], [(0, fraO (frV m p [] g))]⟩) ∨ (goM sLn sd0 ls = none ∧ e = .ret ∧ ∃ row, σ = ⟨[(4, i6 400)], [(0, fraO row)]⟩))
        (fun i σ hi hI => by
          obtain ⟨g, hg, b1, b2, b3, rfl⟩ := hI
          have hi' : i + 1 < (l0 :: ls).length := by simp; omega
          have hlt : (i : Int) + 1 < ((l0 :: ls).length : Int) := by omega
          have e2 := sl3Head_ok m p [] g ls[i] (by have := hl1 ls[i] (List.getElem_mem hi); omega) (by omega) (by omega) (by omega)
          have n1 : ((i : Int) + 1).toNat = i + 1 := by omega
          have n0 : (0 : Int) ≤ (i : Int) + 1 := by omega
          have w1 : IntKind.i64.wrap ((i : Int) + 1 + 1) = ((i + 1 : Nat) : Int) + 1 := by rw [wrI (by omega) (by omega)]; omega
          have hgo : goM sLn sd0 (ls.take (i + 1)) = sLn g ls[i] := by
            rw [take_snoc hi, goM_app, hg]
            simp only [Option.bind_some, goM]
            cases sLn g ls[i] <;> rfl
          have hb := sHd_bd g ls[i]
          have hc0 := sHd_code g ls[i]
          rw [sLn_sHd] at hgo
          simp only [List.length_cons, Int.natCast_add, Int.natCast_one] at hlt
          generalize sHd g ls[i] = x at e2 hgo hb hc0
          obtain ⟨g', c⟩ := x
          simp only at e2 hgo hb hc0
          by_cases hc : c = 0
          · subst hc
            rw [if_pos rfl] at hgo
            refine .inl ⟨⟨[(6, i6 (((i + 1 : Nat) : Int) + 1)), (5, .d (.sl .str (l0 :: ls))), (0, .p 0 0 0)], [(0, fraO (frV m p [] g'))]⟩, ?_, g', hgo, by omega, by omega, by omega, rfl⟩
            simp -implicitDefEqProofs [sl3Read_l0, hi, get_some hi, n1, n0, hlt, e2, w1]
          · rw [if_neg hc] at hgo
            have hc4 : c = 400 := hc0.resolve_left hc
            refine .inr ⟨.ret, ⟨[(4, i6 400)], [(0, fraO (frV m p [] g'))]⟩, by simp, ?_, .inr ⟨?_, rfl, _, rfl⟩⟩
            · subst hc4
              simp -implicitDefEqProofs [sl3Read_l0, hi, get_some hi, n1, n0, hlt, e2]
            · have : ls = ls.take (i + 1) ++ ls.drop (i + 1) := (List.take_append_drop _ _).symm
              rw [this, goM_app, hgo]; rfl)
        (fun σ hI => by
          obtain ⟨g, hg, b1, b2, b3, rfl⟩ := hI
          rw [List.take_length] at hg
          refine ⟨.ex 0, ⟨[(0, .p 0 0 0)], [(0, fraO (frV m p [] g))]⟩, by simp, ?_, .inl ⟨g, hg, b1, b2, b3, rfl, rfl⟩⟩
          simp -implicitDefEqProofs [sl3Read_l0])
        ⟨[(6, i6 1), (5, .d (.sl .str (l0 :: ls))), (0, .p 0 0 0)], [(0, fraO (frV m p [] sd0))]⟩ ⟨sd0, by simp [goM], by simp, by simp, by simp, by simp⟩
      simp only [frV, Int.natCast_zero] at stepI
      obtain ⟨e, σ', L, ⟨g, hg, b1, b2, b3, rfl, rfl⟩ | ⟨hg, rfl, row, rfl⟩⟩ := stepI
      · rw [hg] at hfin
        simp only [sFin] at hfin
        rw [hfin]
        by_cases ht : 1 < g.told
        · rw [if_pos ht]
          refine ⟨frV m p [] g, ?_, fun h => by cases h⟩
          simp -implicitDefEqProofs [sl3Read_m, e0, e1, L, (eq_true (by omega) : ((1 : Int) < (g.told : Int)) = True)]
        · rw [if_neg ht]
          by_cases hz : 200 < g.size
          · rw [if_pos hz, ← firstIn_least]
            have e3 := sl3Least_ok (g.codes ++ [413]) [431, 501, 413] (by simp; omega) (by simp)
            refine ⟨frV m p [] ⟨g.hs, g.size, g.told, g.codes ++ [413]⟩, ?_, fun _ => ⟨m, p, g, _, rfl, hg, rfl⟩⟩
            simp -implicitDefEqProofs [sl3Read_m, e0, e1, L, (eq_false (by omega) : ((1 : Int) < (g.told : Int)) = False), hz, e3, take_snoc_all rfl]
            omega
          · rw [if_neg hz, ← firstIn_least]
            have e3 := sl3Least_ok g.codes [431, 501, 413] (by omega) (by simp)
            refine ⟨frV m p [] ⟨g.hs, g.size, g.told, g.codes⟩, ?_, fun _ => ⟨m, p, g, _, rfl, hg, rfl⟩⟩
            simp -implicitDefEqProofs [sl3Read_m, e0, e1, L, (eq_false (by omega) : ((1 : Int) < (g.told : Int)) = False), hz, e3]
      · rw [hg] at hfin
        simp only [sFin] at hfin
        rw [hfin]
        refine ⟨row, ?_, fun h => by cases h⟩
        simp -implicitDefEqProofs [sl3Read_m, e0, e1, L]
end Go.Proofs.YtniakiefibpgmaaGreatDoorK
