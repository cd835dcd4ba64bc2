/- What the functions come to. -/
import Derived.Test.YtfklggpopffkjaaGreatF19
set_option linter.unusedVariables false
set_option linter.unusedSimpArgs false
namespace Go.Proofs.YtfklggpopffkjaaGreatK
open Go.RowKit
def longB (l : TreeD) (a b : PathD) : Bool := l.any fun r => decide ((4 : Int) < (r.1.length : Int) - a.length + b.length)
def farG (a b : PathD) (v : Int) (s : TreeD) (r : ResD) : TreeD := putInB s (movedB a b v r)
def restB' (t : TreeD) (a b : PathD) (mv : Bool) : TreeD := if mv = true then withoutB (withoutB t b) a else withoutB t b
def farC (t : TreeD) (a b : PathD) (over : Bool) (v : Int) (mv : Bool) : Int :=
  if formB t v [a, b] ≠ 0 then formB t v [a, b] else if farR t a b over ≠ 0 then farR t a b over else
  if longB (deepB t a) a b = true then 409 else if 12 < (restB' t a b mv).length + (deepB t a).length then 507 else 0
def farS (t : TreeD) (a b : PathD) (over : Bool) (v : Int) (mv : Bool) : TreeD × Int :=
  if farC t a b over v mv ≠ 0 then (t, farC t a b over v mv) else ((deepB t a).foldl (farG a b v) (restB' t a b mv), if 0 ≤ findB t b then 204 else 201)
theorem formB_two (t : TreeD) (v : Int) (a b : PathD) : formB t v [a, b] =
    if mayR t a v = 0 ∨ mayR t a v = 507 then (if mayR t b v ≠ 0 ∧ (mayR t a v = 0 ∨ mayR t b v < mayR t a v) then mayR t b v else mayR t a v) else mayR t a v := by
  unfold formB mayR
  rw [show [a, b].all pathB = (pathB a && pathB b) by simp]
  cases treeB t <;> cases pathB a <;> cases pathB b <;> cases (decide (0 ≤ v) && decide (v ≤ 99999)) <;> simp
theorem far_sz (a b : PathD) (v : Int) (w : TreeD) (D : TreeD) : ∀ i, i ≤ D.length → szT (.sl TRes) ((D.take i).foldl (farG a b v) w) ≤ szT (.sl TRes) w + szT (.sl TRes) (D.take i) + i * (szT (.sl .str) b + 1)
  | 0, _ => by simp
  | i + 1, h => by
    have ih := far_sz a b v w D i (by omega)
    have h1 : i < D.length := by omega
    have h2 := szTake1 (t := TRes) h1
    rw [take_snoc h1, List.foldl_append, Nat.succ_mul, ← take_snoc h1]
    have h3 := putInB_sz ((D.take i).foldl (farG a b v) w) (movedB a b v D[i])
    have h4 := movedB_sz a b v D[i]
    simp only [List.foldl_cons, List.foldl_nil]
    unfold farG at ih h3 ⊢
    omega
theorem sl11Long_ok (D : TreeD) (a b : PathD) (hD : szT (.sl TRes) D ≤ 4294967296) (ha : a.length ≤ 4294967296) (hb : b.length ≤ 4294967296) : V sl11Long [.d (.sl TRes D), .d (.sl .str a), .d (.sl .str b)] [] = rB (longB D a b) := by
  rw [V_eq (fn := sl11Long_m) (by kernel_rfl)]
  have hl := szLen (t := TRes) (l := D)
  have L := loop_all (X := V) (c := sl11Long_l0) D (fun r => !decide ((4 : Int) < (r.1.length : Int) - a.length + b.length)) (fun i : Nat => ⟨[(7, i6 i), (2, .d (.sl .str b)), (1, .d (.sl .str a)), (0, .d (.sl TRes D))], []⟩) (.ret, ⟨[(6, .d (.b true))], []⟩) (.ex 0, ⟨[], []⟩) (by simp) (by simp)
    (fun i hi => by
      have hg := szG (t := TRes) hi
      have hgr := szRes D[i]
      have hgl := szLen (t := .str) (l := D[i].1)
      have w1 : IntKind.i64.wrap ((D[i].1.length : Int) - a.length) = (D[i].1.length : Int) - a.length := wrI (by omega) (by omega)
      have w2 : IntKind.i64.wrap ((D[i].1.length : Int) - a.length + b.length) = (D[i].1.length : Int) - a.length + b.length := wrI (by omega) (by omega)
      by_cases h : (4 : Int) < (D[i].1.length : Int) - a.length + b.length
      · rw [decide_eq_true h]
        simp -implicitDefEqProofs [sl11Long_l0, hi, get_some hi, w1, w2, h, wrap_succ hi (by omega)]
      · rw [decide_eq_false h]
        simp -implicitDefEqProofs [sl11Long_l0, hi, get_some hi, w1, w2, h, wrap_succ hi (by omega)])
    (by simp -implicitDefEqProofs [sl11Long_l0])
  simp only [Int.natCast_zero] at L
  have hq : longB D a b = !(D.all fun r => !decide ((4 : Int) < (r.1.length : Int) - a.length + b.length)) := by
    unfold longB
    rw [List.any_eq_not_all_not]
  rw [hq]
  generalize (D.all fun r => !decide ((4 : Int) < (r.1.length : Int) - a.length + b.length)) = t1 at L ⊢
  cases t1 <;> simp -implicitDefEqProofs only [Bool.false_eq_true, if_true, if_false] at L <;> simp -implicitDefEqProofs [sl11Long_m, L]
set_option maxRecDepth 100000 in
set_option maxHeartbeats 4000000 in
theorem sl11Far_ok (t : TreeD) (a b : PathD) (over : Bool) (v : Int) (mv : Bool) (ht : szT (.sl TRes) t ≤ 4294967296) (ha : szT (.sl .str) a ≤ 4294967296) (hb : szT (.sl .str) b ≤ 4294967296) :
    V sl11Far [.d (.sl TRes t), .d (.sl .str a), .d (.sl .str b), .d (.b over), i6 v, .d (.b mv)] [] = treeR (farS t a b over v mv) := by
  rw [V_eq (fn := sl11Far_m) (by kernel_rfl)]
  have hla := szLen (t := .str) (l := a)
  have hlb := szLen (t := .str) (l := b)
  have e1 := sl11May_ok t a v (by omega) (by omega)
  have e2 := sl11May_ok t b v (by omega) (by omega)
  have e3 := sFindRes_ok t a (by omega)
  have e4 := sFindRes_ok t b (by omega)
  have e5 := sDeepOf_ok t a (by omega) (by omega)
  have e6 := sl11Without_ok t b (by omega) (by omega)
  have hwz : szT (.sl TRes) (withoutB t b) ≤ szT (.sl TRes) t := szFilter (t := TRes) _ t
  have hwz2 : szT (.sl TRes) (withoutB (withoutB t b) a) ≤ szT (.sl TRes) (withoutB t b) := szFilter (t := TRes) _ _
  have hdz : szT (.sl TRes) (deepB t a) ≤ szT (.sl TRes) t := szFilter (t := TRes) _ t
  have e7 := sl11Without_ok (withoutB t b) a (by omega) (by omega)
  have e8 := sSamePath_ok a b (by omega)
  have e9 := sUnder_ok a b (by omega)
  have e10 := sUnder_ok b a (by omega)
  have e11 := sAbove_ok b (by omega)
  have e12 := sIsColl_ok t b.dropLast (by omega)
  have e13 := sl11Long_ok (deepB t a) a b (by omega) (by omega) (by omega)
  have e14 := sl10CopyAll_ok t (by omega)
  have hpre : formB t v [a, b] = 0 → mayR t a v = 0 ∧ mayR t b v = 0 := by
    intro h
    unfold formB at h
    rw [show [a, b].all pathB = (pathB a && pathB b) by simp] at h
    unfold mayR
    revert h
    cases treeB t <;> cases pathB a <;> cases pathB b <;> cases (decide (0 ≤ v) && decide (v ≤ 99999)) <;> simp
  have hft := formB_two t v a b
  have hlen : formB t v [a, b] = 0 → t.length ≤ 12 := form_len
  unfold farS farC
  by_cases hform : formB t v [a, b] = 0
  · obtain ⟨x1, x2⟩ := hpre hform
    have h12 := hlen hform
    rw [x1] at e1
    rw [x2] at e2
    rw [hform]
    clear hpre hft hlen hform x1 x2
    have hd12 : (deepB t a).length ≤ 12 := Nat.le_trans (List.length_filter_le _ _) h12
    have hal : ∀ r ∈ deepB t a, a.length ≤ r.1.length := fun r hr => isAt_len (List.mem_filter.1 hr).2
    have L : ∀ (f : Bool) (w : TreeD), szT (.sl TRes) w ≤ 4294967296 → DL V (.loop sl11Far_l0) ⟨[(19, i6 0), (18, .h 82 0 w.length), (17, .d (.sl TRes (deepB t a))), (16, .d (.b f)), (4, i6 v), (2, .d (.sl .str b)), (1, .d (.sl .str a))], [(82, .ls TRes false w 0 [])]⟩ =
        some (.ex 1, ⟨[(18, .h 82 0 ((deepB t a).foldl (farG a b v) w).length), (16, .d (.b f))], [(82, .ls TRes false ((deepB t a).foldl (farG a b v) w) 0 [])]⟩) := by
      intro f w hw
      have := loop_each (X := V) (c := sl11Far_l0) (deepB t a).length (fun i : Nat => ⟨[(19, i6 i), (18, .h 82 0 (((deepB t a).take i).foldl (farG a b v) w).length), (17, .d (.sl TRes (deepB t a))), (16, .d (.b f)), (4, i6 v), (2, .d (.sl .str b)), (1, .d (.sl .str a))], [(82, .ls TRes false (((deepB t a).take i).foldl (farG a b v) w) 0 [])]⟩)
        (.ex 1, ⟨[(18, .h 82 0 ((deepB t a).foldl (farG a b v) w).length), (16, .d (.b f))], [(82, .ls TRes false ((deepB t a).foldl (farG a b v) w) 0 [])]⟩) (by simp)
        (fun i hi => by
          have hs := far_sz a b v w (deepB t a) i (by omega)
          have hs2 : i * (szT (.sl .str) b + 1) ≤ 12 * (szT (.sl .str) b + 1) := Nat.mul_le_mul_right _ (by omega)
          have hs3 := szTake' (t := TRes) (l := deepB t a) (i := i)
          have hg := szG (t := TRes) hi
          have hgr := szRes (deepB t a)[i]
          have hgl := szLen (t := .str) (l := (deepB t a)[i].1)
          have hle := hal _ (List.getElem_mem hi)
          have hmz := movedB_sz a b v (deepB t a)[i]
          rw [take_snoc hi, List.foldl_append]
          simp only [List.foldl_cons, List.foldl_nil]
          generalize ((deepB t a).take i).foldl (farG a b v) w = u at hs ⊢
          have f1 := sl10Copy_ok (deepB t a)[i] (by omega)
          have f2 := sl11Put_ok u (movedB a b v (deepB t a)[i]) (by omega) (by omega)
          unfold farG
          simp only [resA, resR] at f1 f2
          unfold movedB at f2 ⊢
          simp only at f2 ⊢
          generalize putInB u (b ++ List.drop a.length (deepB t a)[i].1, (deepB t a)[i].2.1, (deepB t a)[i].2.2.1, v, (deepB t a)[i].2.2.2.2) = n at f2 ⊢
          have tk1 : List.take ((deepB t a)[i].1.length - a.length) (List.drop a.length (deepB t a)[i].1) = List.drop a.length (deepB t a)[i].1 := take_all (by simp)
          have tk2 : List.take (b.length + ((deepB t a)[i].1.length - a.length)) (b ++ List.drop a.length (deepB t a)[i].1) = b ++ List.drop a.length (deepB t a)[i].1 := take_all (by simp)
          have tk3 : ((b.length + ((deepB t a)[i].1.length - a.length)) * 16 ≤ 140737488355328) = True := eq_true (by omega)
          have tk4 : (b.length * 16 ≤ 140737488355328) = True := eq_true (by omega)
          have tk5 : List.take b.length b = b := take_all rfl
          generalize deepB t a = Dl at hi hd12 hle hgl f1 f2 tk1 tk2 tk3 ⊢
          simp -implicitDefEqProofs [sl11Far_l0, hi, get_some hi, f1, f2, hle, tk1, tk2, tk3, tk4, tk5, wrap_succ hi (by omega)]
          done)
        (by rw [List.take_length]; simp -implicitDefEqProofs [sl11Far_l0])
      simpa using this
    unfold farR isAtB
    rw [show decide (b = a) = decide (a = b) from by simp [eq_comm]]
    generalize findB t a = fa at e3 ⊢
    generalize findB t b = fb at e4 ⊢
    generalize decide (a = b) = t8 at e8 ⊢
    generalize underB a b = t9 at e9 ⊢
    generalize underB b a = t10 at e10 ⊢
    generalize collB t b.dropLast = t12 at e12 ⊢
    generalize longB (deepB t a) a b = t13 at e13 ⊢
    have hl1 := szLen (t := TRes) (l := withoutB t b)
    have hl2 := szLen (t := TRes) (l := withoutB (withoutB t b) a)
    have L1 := fun f => L f (withoutB t b) (by omega)
    have L2 := fun f => L f (withoutB (withoutB t b) a) (by omega)
    clear L hal
    unfold restB'
    generalize withoutB (withoutB t b) a = u2 at e7 hl2 L2 hwz2 ⊢
    generalize withoutB t b = u1 at e6 e7 hl1 L1 hwz hwz2 ⊢
    generalize hn1 : (deepB t a).foldl (farG a b v) u1 = n1 at L1 ⊢
    generalize hn2 : (deepB t a).foldl (farG a b v) u2 = n2 at L2 ⊢
    generalize deepB t a = Dl at e5 e13 hd12 hdz L1 L2 hn1 hn2 ⊢
    have w1 : IntKind.i64.wrap ((u1.length : Int) + Dl.length) = (u1.length : Int) + Dl.length := wrI (by omega) (by omega)
    have w2 : IntKind.i64.wrap ((u2.length : Int) + Dl.length) = (u2.length : Int) + Dl.length := wrI (by omega) (by omega)
    cases mv with
    | false =>
      by_cases hae : a = []
      · subst hae
        simp -implicitDefEqProofs [sl11Far_m, e1, e2, e3, e4, e5, e6, e14]
      have hal' : 0 < a.length := List.length_pos_iff.2 hae
      have hal2 : ((0 : Int) < (a.length : Int)) = True := eq_true (by omega)
      have hal3 : ((a.length : Int) = 0) = False := eq_false (by omega)
      by_cases h1 : fa < 0
      · simp -implicitDefEqProofs [sl11Far_m, e1, e2, e3, e4, e5, e6, hae, hal', hal2, hal3, h1, e14]
      by_cases hbe : b = []
      · subst hbe
        simp -implicitDefEqProofs [sl11Far_m, e1, e2, e3, e4, e5, e6, hae, hal', hal2, hal3, h1, e14]
      have hbl3 : ((b.length : Int) = 0) = False := eq_false (fun h => hbe (List.eq_nil_of_length_eq_zero (by omega)))
      by_cases h8 : t8 = true
      · subst h8
        simp -implicitDefEqProofs [sl11Far_m, e1, e2, e3, e4, e5, e6, hae, hal', hal2, hal3, h1, hbe, hbl3, e8, e14]
      obtain rfl := Bool.eq_false_iff.2 h8
      by_cases h9 : t9 = true
      · subst h9
        simp -implicitDefEqProofs [sl11Far_m, e1, e2, e3, e4, e5, e6, hae, hal', hal2, hal3, h1, hbe, hbl3, e8, e9, e14]
      obtain rfl := Bool.eq_false_iff.2 h9
      by_cases h10 : t10 = true
      · subst h10
        simp -implicitDefEqProofs [sl11Far_m, e1, e2, e3, e4, e5, e6, hae, hal', hal2, hal3, h1, hbe, hbl3, e8, e9, e10, e14]
      obtain rfl := Bool.eq_false_iff.2 h10
      by_cases h5 : 0 ≤ fb ∧ over = false
      · obtain ⟨h5, rfl⟩ := h5
        simp -implicitDefEqProofs [sl11Far_m, e1, e2, e3, e4, e5, e6, hae, hal', hal2, hal3, h1, hbe, hbl3, e8, e9, e10, h5, e14]
      by_cases h6 : 0 ≤ fb
      · have ho : over = true := by cases over with | true => rfl | false => exact absurd ⟨h6, rfl⟩ h5
        subst ho
        cases t12 with
        | false =>
          simp -implicitDefEqProofs [sl11Far_m, e1, e2, e3, e4, e5, e6, hae, hal', hal2, hal3, h1, hbe, hbl3, e8, e9, e10, h6, e11, e12, e14]
        | true =>
          cases t13 with
          | true =>
            simp -implicitDefEqProofs [sl11Far_m, e1, e2, e3, e4, e5, e6, hae, hal', hal2, hal3, h1, hbe, hbl3, e8, e9, e10, h6, e11, e12, e13, e14]
          | false =>
            by_cases h7 : 12 < u1.length + Dl.length
            · simp -implicitDefEqProofs [sl11Far_m, e1, e2, e3, e4, e5, e6, hae, hal', hal2, hal3, h1, hbe, hbl3, e8, e9, e10, h6, e11, e12, e13, e14, w1, h7, (eq_true (by omega) : ((12 : Int) < (u1.length : Int) + Dl.length) = True)]
            · simp -implicitDefEqProofs [sl11Far_m, e1, e2, e3, e4, e5, e6, hae, hal', hal2, hal3, h1, hbe, hbl3, e8, e9, e10, h6, e11, e12, e13, w1, L1, hn1, h7, (eq_false (by omega) : ((12 : Int) < (u1.length : Int) + Dl.length) = False)]
      · clear h5
        cases t12 with
        | false =>
          simp -implicitDefEqProofs [sl11Far_m, e1, e2, e3, e4, e5, e6, hae, hal', hal2, hal3, h1, hbe, hbl3, e8, e9, e10, h6, e11, e12, e14]
        | true =>
          cases t13 with
          | true =>
            simp -implicitDefEqProofs [sl11Far_m, e1, e2, e3, e4, e5, e6, hae, hal', hal2, hal3, h1, hbe, hbl3, e8, e9, e10, h6, e11, e12, e13, e14]
          | false =>
            by_cases h7 : 12 < u1.length + Dl.length
            · simp -implicitDefEqProofs [sl11Far_m, e1, e2, e3, e4, e5, e6, hae, hal', hal2, hal3, h1, hbe, hbl3, e8, e9, e10, h6, e11, e12, e13, e14, w1, h7, (eq_true (by omega) : ((12 : Int) < (u1.length : Int) + Dl.length) = True)]
            · simp -implicitDefEqProofs [sl11Far_m, e1, e2, e3, e4, e5, e6, hae, hal', hal2, hal3, h1, hbe, hbl3, e8, e9, e10, h6, e11, e12, e13, w1, L1, hn1, h7, (eq_false (by omega) : ((12 : Int) < (u1.length : Int) + Dl.length) = False)]
    | true =>
      by_cases hae : a = []
      · subst hae
        simp -implicitDefEqProofs [sl11Far_m, e1, e2, e3, e4, e5, e6, e7, e14]
      have hal' : 0 < a.length := List.length_pos_iff.2 hae
      have hal2 : ((0 : Int) < (a.length : Int)) = True := eq_true (by omega)
      have hal3 : ((a.length : Int) = 0) = False := eq_false (by omega)
      by_cases h1 : fa < 0
      · simp -implicitDefEqProofs [sl11Far_m, e1, e2, e3, e4, e5, e6, e7, hae, hal', hal2, hal3, h1, e14]
      by_cases hbe : b = []
      · subst hbe
        simp -implicitDefEqProofs [sl11Far_m, e1, e2, e3, e4, e5, e6, e7, hae, hal', hal2, hal3, h1, e14]
      have hbl3 : ((b.length : Int) = 0) = False := eq_false (fun h => hbe (List.eq_nil_of_length_eq_zero (by omega)))
      by_cases h8 : t8 = true
      · subst h8
        simp -implicitDefEqProofs [sl11Far_m, e1, e2, e3, e4, e5, e6, e7, hae, hal', hal2, hal3, h1, hbe, hbl3, e8, e14]
      obtain rfl := Bool.eq_false_iff.2 h8
      by_cases h9 : t9 = true
      · subst h9
        simp -implicitDefEqProofs [sl11Far_m, e1, e2, e3, e4, e5, e6, e7, hae, hal', hal2, hal3, h1, hbe, hbl3, e8, e9, e14]
      obtain rfl := Bool.eq_false_iff.2 h9
      by_cases h10 : t10 = true
      · subst h10
        simp -implicitDefEqProofs [sl11Far_m, e1, e2, e3, e4, e5, e6, e7, hae, hal', hal2, hal3, h1, hbe, hbl3, e8, e9, e10, e14]
      obtain rfl := Bool.eq_false_iff.2 h10
      by_cases h5 : 0 ≤ fb ∧ over = false
      · obtain ⟨h5, rfl⟩ := h5
        simp -implicitDefEqProofs [sl11Far_m, e1, e2, e3, e4, e5, e6, e7, hae, hal', hal2, hal3, h1, hbe, hbl3, e8, e9, e10, h5, e14]
      by_cases h6 : 0 ≤ fb
      · have ho : over = true := by cases over with | true => rfl | false => exact absurd ⟨h6, rfl⟩ h5
        subst ho
        cases t12 with
        | false =>
          simp -implicitDefEqProofs [sl11Far_m, e1, e2, e3, e4, e5, e6, e7, hae, hal', hal2, hal3, h1, hbe, hbl3, e8, e9, e10, h6, e11, e12, e14]
        | true =>
          cases t13 with
          | true =>
            simp -implicitDefEqProofs [sl11Far_m, e1, e2, e3, e4, e5, e6, e7, hae, hal', hal2, hal3, h1, hbe, hbl3, e8, e9, e10, h6, e11, e12, e13, e14]
          | false =>
            by_cases h7 : 12 < u2.length + Dl.length
            · simp -implicitDefEqProofs [sl11Far_m, e1, e2, e3, e4, e5, e6, e7, hae, hal', hal2, hal3, h1, hbe, hbl3, e8, e9, e10, h6, e11, e12, e13, e14, w2, h7, (eq_true (by omega) : ((12 : Int) < (u2.length : Int) + Dl.length) = True)]
            · simp -implicitDefEqProofs [sl11Far_m, e1, e2, e3, e4, e5, e6, e7, hae, hal', hal2, hal3, h1, hbe, hbl3, e8, e9, e10, h6, e11, e12, e13, w2, L2, hn2, h7, (eq_false (by omega) : ((12 : Int) < (u2.length : Int) + Dl.length) = False)]
      · clear h5
        cases t12 with
        | false =>
          simp -implicitDefEqProofs [sl11Far_m, e1, e2, e3, e4, e5, e6, e7, hae, hal', hal2, hal3, h1, hbe, hbl3, e8, e9, e10, h6, e11, e12, e14]
        | true =>
          cases t13 with
          | true =>
            simp -implicitDefEqProofs [sl11Far_m, e1, e2, e3, e4, e5, e6, e7, hae, hal', hal2, hal3, h1, hbe, hbl3, e8, e9, e10, h6, e11, e12, e13, e14]
          | false =>
            by_cases h7 : 12 < u2.length + Dl.length
            · simp -implicitDefEqProofs [sl11Far_m, e1, e2, e3, e4, e5, e6, e7, hae, hal', hal2, hal3, h1, hbe, hbl3, e8, e9, e10, h6, e11, e12, e13, e14, w2, h7, (eq_true (by omega) : ((12 : Int) < (u2.length : Int) + Dl.length) = True)]
            · simp -implicitDefEqProofs [sl11Far_m, e1, e2, e3, e4, e5, e6, e7, hae, hal', hal2, hal3, h1, hbe, hbl3, e8, e9, e10, h6, e11, e12, e13, w2, L2, hn2, h7, (eq_false (by omega) : ((12 : Int) < (u2.length : Int) + Dl.length) = False)]
  · rw [hft] at hform ⊢
    clear hft hpre hlen
    generalize mayR t a v = x1 at e1 hform ⊢
    generalize mayR t b v = x2 at e2 hform ⊢
    simp only [ne_eq, hform, not_false_eq_true, if_true]
    by_cases h1 : x1 = 0
    · subst h1
      by_cases h2 : x2 = 0
      · subst h2; simp at hform
      · cases mv <;> simp -implicitDefEqProofs [sl11Far_m, e1, e2, e3, e4, e5, e6, e7, e14, h2]
    by_cases h2 : x1 = 507
    · subst h2
      by_cases h3 : x2 ≠ 0 ∧ x2 < 507
      · cases mv <;> simp -implicitDefEqProofs [sl11Far_m, e1, e2, e3, e4, e5, e6, e7, e14, h3.1, h3.2]
      · by_cases h4 : x2 = 0
        · subst h4
          cases mv <;> simp -implicitDefEqProofs [sl11Far_m, e1, e2, e3, e4, e5, e6, e7, e14]
        · have h5 : ¬ x2 < 507 := fun h => h3 ⟨h4, h⟩
          cases mv <;> simp -implicitDefEqProofs [sl11Far_m, e1, e2, e3, e4, e5, e6, e7, e14, h4, h5]
    · cases mv <;> simp -implicitDefEqProofs [sl11Far_m, e1, e2, e3, e4, e5, e6, e7, e14, h1, h2]
theorem sCopyTree_ok (t : TreeD) (a b : PathD) (over : Bool) (v : Int) (ht : szT (.sl TRes) t ≤ 4294967296) (ha : szT (.sl .str) a ≤ 4294967296) (hb : szT (.sl .str) b ≤ 4294967296) :
    V sCopyTree [.d (.sl TRes t), .d (.sl .str a), .d (.sl .str b), .d (.b over), i6 v] [] = treeR (farS t a b over v false) := by
  rw [V_eq (fn := sCopyTree_m) (by kernel_rfl)]
  have e := sl11Far_ok t a b over v false ht ha hb
  simp -implicitDefEqProofs [sCopyTree_m, e]
theorem sMoveTree_ok (t : TreeD) (a b : PathD) (over : Bool) (v : Int) (ht : szT (.sl TRes) t ≤ 4294967296) (ha : szT (.sl .str) a ≤ 4294967296) (hb : szT (.sl .str) b ≤ 4294967296) :
    V sMoveTree [.d (.sl TRes t), .d (.sl .str a), .d (.sl .str b), .d (.b over), i6 v] [] = treeR (farS t a b over v true) := by
  rw [V_eq (fn := sMoveTree_m) (by kernel_rfl)]
  have e := sl11Far_ok t a b over v true ht ha hb
  simp -implicitDefEqProofs [sMoveTree_m, e]
end Go.Proofs.YtfklggpopffkjaaGreatK
