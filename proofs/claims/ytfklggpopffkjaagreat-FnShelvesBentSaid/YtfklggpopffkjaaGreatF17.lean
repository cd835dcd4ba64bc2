/- What the functions come to. -/
import Derived.Test.YtfklggpopffkjaaGreatF16
set_option linter.unusedVariables false
set_option linter.unusedSimpArgs false
namespace Go.Proofs.YtfklggpopffkjaaGreatK
open Go.RowKit
theorem wsameTexts_r (l : List (List UInt8)) (h : l.length ≤ 1099511627776) : V wsameTexts [.d (.sl .str l), .d (.sl .str l)] [] = rB true := by
  rw [V_eq (fn := wsameTexts_m) (by kernel_rfl)]
  have L := loop_each (X := V) (c := wsameTexts_l0) l.length (fun i : Nat => ⟨[(5, i6 i), (1, .d (.sl .str l)), (0, .d (.sl .str l))], []⟩) (.ex 0, ⟨[], []⟩) (by simp)
    (fun i hi => by simp -implicitDefEqProofs [wsameTexts_l0, hi, get_some hi, wrap_succ hi (by omega)])
    (by simp -implicitDefEqProofs [wsameTexts_l0])
  simp only [Int.natCast_zero] at L
  simp -implicitDefEqProofs [wsameTexts_m, L]
theorem wsameProps_r (l : List PropD) (h : l.length ≤ 1099511627776) : V wsameProps [.d (.sl TProp l), .d (.sl TProp l)] [] = rB true := by
  rw [V_eq (fn := wsameProps_m) (by kernel_rfl)]
  have L := loop_each (X := V) (c := wsameProps_l0) l.length (fun i : Nat => ⟨[(5, i6 i), (1, .d (.sl TProp l)), (0, .d (.sl TProp l))], []⟩) (.ex 0, ⟨[], []⟩) (by simp)
    (fun i hi => by simp -implicitDefEqProofs [wsameProps_l0, hi, get_some hi, eqL, eqD, wrap_succ hi (by omega)])
    (by simp -implicitDefEqProofs [wsameProps_l0])
  simp only [Int.natCast_zero] at L
  simp -implicitDefEqProofs [wsameProps_m, L]
theorem wsameRes_r (r : ResD) (h : szT TRes r ≤ 1099511627776) : V wsameRes [resA r, resA r] [] = rB true := by
  rw [V_eq (fn := wsameRes_m) (by kernel_rfl)]
  rw [szRes] at h
  have h1 := szLen (t := .str) (l := r.1)
  have h2 := szLen (t := TProp) (l := r.2.2.2.2)
  have e1 := wsameTexts_r r.1 (by omega)
  have e2 := wsameProps_r r.2.2.2.2 (by omega)
  obtain ⟨a, b, c, d, e⟩ := r
  simp -implicitDefEqProofs [wsameRes_m, e1, e2]
theorem wsameTree_r (t : TreeD) (h : szT (.sl TRes) t ≤ 1099511627776) : V wsameTree [.d (.sl TRes t), .d (.sl TRes t)] [] = rB true := by
  rw [V_eq (fn := wsameTree_m) (by kernel_rfl)]
  have hl := szLen (t := TRes) (l := t)
  have L := loop_each (X := V) (c := wsameTree_l0) t.length (fun i : Nat => ⟨[(5, i6 i), (1, .d (.sl TRes t)), (0, .d (.sl TRes t))], []⟩) (.ex 0, ⟨[], []⟩) (by simp)
    (fun i hi => by
      have hz := szG (t := TRes) hi
      have e := wsameRes_r t[i] (by omega)
      simp only [resA] at e
      simp -implicitDefEqProofs [wsameTree_l0, hi, get_some hi, e, wrap_succ hi (by omega)])
    (by simp -implicitDefEqProofs [wsameTree_l0])
  simp only [Int.natCast_zero] at L
  simp -implicitDefEqProofs [wsameTree_m, L]
/-- What is known of a tree's things but for what is said of them. -/
def keyR (r : ResD) : PathD × Bool := (r.1, r.2.1)
theorem collB_key {t t' : TreeD} (h : t.map keyR = t'.map keyR) (p : PathD) : collB t p = collB t' p := by
  have key : ∀ t : TreeD, collB t p = (decide (p = []) || match (t.map keyR).find? (fun k => decide (k.1 = p)) with | some k => k.2 | none => false) := by
    intro t
    unfold collB
    congr 1
    induction t with
    | nil => rfl
    | cons r t ih =>
      rw [List.findIdx?_cons, List.map_cons, List.find?_cons]
      by_cases hr : r.1 = p
      · have h1 : atP p r = true := decide_eq_true hr
        have h2 : decide ((keyR r).1 = p) = true := decide_eq_true hr
        rw [h1, h2]; rfl
      · have h1 : atP p r = false := decide_eq_false hr
        have h2 : decide ((keyR r).1 = p) = false := decide_eq_false hr
        rw [h1, h2]
        simp only [Bool.false_eq_true, if_false]
        rw [← ih]
        cases t.findIdx? (atP p) <;> simp
  rw [key, key, h]
theorem treeB_set {t : TreeD} {k : Nat} (hk : k < t.length) {ps : List PropD} (ht : treeB t = true) (hp : propsB ps = true) : treeB (t.set k (withP t[k] ps)) = true := by
  have hkey : (t.set k (withP t[k] ps)).map keyR = t.map keyR := by
    rw [List.map_set]
    rw [show keyR (withP t[k] ps) = (t.map keyR)[k]'(by simpa using hk) by simp [keyR, withP]]
    exact List.set_getElem_self _
  unfold treeB at ht ⊢
  simp only [Bool.and_eq_true] at ht ⊢
  refine ⟨?_, by rw [List.length_set]; exact ht.2⟩
  have h := eachB_iff.1 ht.1
  refine eachB_iff.2 fun i hi => ?_
  rw [List.length_set] at hi
  have hi' := h i hi
  simp only [Bool.and_eq_true] at hi' ⊢
  have e1 : ((t.set k (withP t[k] ps))[i]'(by simpa using hi)).1 = t[i].1 := by
    rw [List.getElem_set]; split
    · rename_i e; subst e; rfl
    · rfl
  refine ⟨⟨?_, ?_⟩, ?_⟩
  · rw [List.getElem_set]
    split
    · rename_i e
      subst e
      have := hi'.1.1
      unfold resB at this ⊢
      unfold withP
      simp only [Bool.and_eq_true] at this ⊢
      exact ⟨this.1, hp⟩
    · exact hi'.1.1
  · by_cases h0 : 0 < i
    · have := hi'.1.2
      rw [prevB_pos h0 (by omega)] at this
      rw [prevB_pos h0 (by rw [List.length_set]; omega)]
      have e2 : ((t.set k (withP t[k] ps))[i - 1]'(by rw [List.length_set]; omega)).1 = t[i - 1].1 := by
        rw [List.getElem_set]; split
        · rename_i e; subst e; rfl
        · rfl
      rw [e1, e2]; exact this
    · exact prevB_zero h0
  · rw [e1, collB_key hkey]; exact hi'.2
theorem patchB_sz (t : TreeD) (p : PathD) (xs : List SetD) : szT (.sl TRes) (patchB t p xs).1 ≤ 2 * szT (.sl TRes) t + szT (.sl TSet) xs := by
  unfold patchB
  split
  · split
    · simp only; omega
    · split
      · simp only; omega
      · rename_i i hf
        have hi := (List.findIdx?_eq_some_iff_getElem.1 hf).1
        rw [get_some hi]
        simp only
        split
        · have h1 := szSetAt (t := TRes) (withP t[i] (setPropsB t[i].2.2.2.2 xs).1) t i
          have h2 := szRes (withP t[i] (setPropsB t[i].2.2.2.2 xs).1)
          have h3 := setPropsB_sz t[i].2.2.2.2 xs
          have h4 := szG (t := TRes) hi
          have h5 := szRes t[i]
          simp only [withP] at h1 h2 ⊢
          omega
        · simp only; omega
  · simp only; omega
theorem setPropsB_ok {l : List PropD} {xs : List SetD} (h : (setPropsB l xs).2 = true) : propsB (setPropsB l xs).1 = true := by
  unfold setPropsB at h ⊢
  cases hs : goM setF l xs with
  | none => rw [hs] at h; simp at h
  | some n =>
    rw [hs] at h
    simp only at h ⊢
    by_cases hn : propsB n = true
    · rw [if_pos hn]; exact hn
    · rw [if_neg hn] at h; simp at h
/-- What a patch comes to. -/
theorem patchB_cases (t : TreeD) (p : PathD) (xs : List SetD) : ((patchB t p xs).1 = t ∧ (patchB t p xs).2 ≠ 207) ∨
    (∃ k ps, ∃ hk : k < t.length, patchB t p xs = (t.set k (withP t[k] ps), 207) ∧ t[k].1 = p ∧ treeB t = true ∧ propsB ps = true) := by
  unfold patchB
  split
  · rename_i ht
    split
    · exact .inl ⟨rfl, by simp⟩
    · split
      · exact .inl ⟨rfl, by simp⟩
      · rename_i i hf
        obtain ⟨hi, hq, _⟩ := List.findIdx?_eq_some_iff_getElem.1 hf
        rw [get_some hi]
        simp only
        split
        · rename_i hs
          exact .inr ⟨i, (setPropsB t[i].2.2.2.2 xs).1, hi, rfl, by simpa [atP] using hq, ht, setPropsB_ok hs⟩
        · exact .inl ⟨rfl, by simp⟩
  · exact .inl ⟨rfl, by simp⟩
end Go.Proofs.YtfklggpopffkjaaGreatK
