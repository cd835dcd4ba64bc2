/- What the functions come to. -/
import Derived.Test.YtfklggpopffkjaaF23
set_option linter.unusedVariables false
set_option linter.unusedSimpArgs false
namespace Go.Proofs.YtfklggpopffkjaaK
open Go.RowKit
set_option maxHeartbeats 2000000 in
set_option maxRecDepth 100000 in
theorem wFnPatches_ok (l : List UInt8) (hO : OkT (.sl .u8) l) : V wFnPatches [.d (.sl .u8 l)] [] = rB true := by
  rw [V_eq (fn := wFnPatches_m) (by kernel_rfl)]
  have e0 : V wbig [.d (.sl .u8 l)] [] = rB (decide (1048576 < l.length)) := by
    rw [V_eq (fn := wbig_m) (by kernel_rfl)]
    by_cases hb : 1048576 < l.length
    · simp -implicitDefEqProofs [wbig_m, hb, (eq_true (by omega) : ((1048576 : Int) < (l.length : Int)) = True)]
    · simp -implicitDefEqProofs [wbig_m, hb, (eq_false (by omega) : ((1048576 : Int) < (l.length : Int)) = False)]
  by_cases hb : 1048576 < l.length
  · rw [decide_eq_true hb] at e0
    simp -implicitDefEqProofs [wFnPatches_m, e0]
  rw [decide_eq_false hb] at e0
  obtain ⟨t, p, xs, ⟨ht, hp, hx⟩, e1⟩ := sDrawPatch_x l (by omega)
  have e2 := iPatch_ok t p xs (by omega) (by omega)
  have e3 := sPatch_ok t p xs (by omega) (by omega)
  have hz := patchB_sz t p xs
  have hc := patchB_cases t p xs
  generalize patchB t p xs = r at e2 e3 hz hc
  obtain ⟨t', x⟩ := r
  simp only at hz
  have e4 := wsameTree_r t' (by omega)
  have hpl := szLen (t := .str) (l := p)
  rcases hc with ⟨h1, h2⟩ | ⟨k, ps, hk, h1, h2, h3, h4⟩
  · simp only at h1 h2
    subst h1
    simp -implicitDefEqProofs [wFnPatches_m, e0, e1, e2, e3, e4, h2]
  · obtain ⟨rfl, rfl⟩ := Prod.mk.inj h1
    have hl := szLen (t := TRes) (l := t)
    have hto := treeB_set hk h3 h4
    have e5 := iTreeOk_ok (t.set k (withP t[k] ps)) (by omega)
    rw [hto] at e5
    have L := loop_each (X := V) (c := wFnPatches_l0) t.length (fun i : Nat => ⟨[(10, i6 i), (6, .d (.sl TRes (t.set k (withP t[k] ps)))), (4, .d (.sl .str p)), (3, .d (.sl TRes t))], []⟩) (.ex 0, ⟨[(6, .d (.sl TRes (t.set k (withP t[k] ps))))], []⟩) (by simp)
      (fun i hi => by
        have hg := szG (t := TRes) hi
        have hgr := szRes t[i]
        have hli := szLen (t := .str) (l := t[i].1)
        have f1 := iSamePath_ok t[i].1 p (by omega)
        have f2 := iSamePath_ok t[i].1 t[i].1 (by omega)
        rw [decide_eq_true rfl] at f2
        have f3 := wsameRes_r t[i] (by omega)
        simp only [resA] at f3
        by_cases hik : k = i
        · subst hik
          rw [decide_eq_true h2] at f1
          have g1 : (t.set k (withP t[k] ps))[k]? = some (withP t[k] ps) := by simp [hk]
          generalize t.set k (withP t[k] ps) = t2 at g1 ⊢
          unfold withP at g1
          simp -implicitDefEqProofs [wFnPatches_l0, hi, get_some hi, g1, f1, f2, wrap_succ hi (by omega)]
          done
        · have g1 : (t.set k (withP t[k] ps))[i]? = some t[i] := by rw [List.getElem?_set_ne hik, get_some hi]
          generalize t.set k (withP t[k] ps) = t2 at g1 ⊢
          by_cases hpp : t[i].1 = p
          · rw [decide_eq_true hpp] at f1
            simp -implicitDefEqProofs [wFnPatches_l0, hi, get_some hi, g1, f1, f2, f3, wrap_succ hi (by omega)]
            done
          · rw [decide_eq_false hpp] at f1
            simp -implicitDefEqProofs [wFnPatches_l0, hi, get_some hi, g1, f1, f2, f3, wrap_succ hi (by omega)]
            done)
      (by simp -implicitDefEqProofs [wFnPatches_l0])
    simp only [Int.natCast_zero] at L
    simp -implicitDefEqProofs [wFnPatches_m, e0, e1, e2, e3, e4, e5, L]
end Go.Proofs.YtfklggpopffkjaaK
