/- What the functions come to. -/
import Derived.Test.YtfklggpopffkjaaGreatF21
set_option linter.unusedVariables false
set_option linter.unusedSimpArgs false
namespace Go.Proofs.YtfklggpopffkjaaGreatK
open Go.RowKit
theorem farS_sz (t : TreeD) (a b : PathD) (over : Bool) (v : Int) (mv : Bool) : szT (.sl TRes) (farS t a b over v mv).1 ≤ 2 * szT (.sl TRes) t + 12 * (szT (.sl .str) b + 1) := by
  unfold farS
  split
  · simp only; omega
  · rename_i h
    have hf : formB t v [a, b] = 0 := by
      refine Classical.not_not.1 fun hf => h ?_
      unfold farC
      rw [if_pos hf]; exact hf
    have h12 := form_len hf
    have hd12 : (deepB t a).length ≤ 12 := Nat.le_trans (List.length_filter_le _ _) h12
    have hdz : szT (.sl TRes) (deepB t a) ≤ szT (.sl TRes) t := szFilter (t := TRes) _ t
    have hwz : szT (.sl TRes) (withoutB t b) ≤ szT (.sl TRes) t := szFilter (t := TRes) _ t
    have hwz2 : szT (.sl TRes) (withoutB (withoutB t b) a) ≤ szT (.sl TRes) (withoutB t b) := szFilter (t := TRes) _ _
    have h1 := far_sz a b v (restB' t a b mv) (deepB t a) (deepB t a).length (Nat.le_refl _)
    rw [List.take_length] at h1
    have h2 : (deepB t a).length * (szT (.sl .str) b + 1) ≤ 12 * (szT (.sl .str) b + 1) := Nat.mul_le_mul_right _ hd12
    have h3 : szT (.sl TRes) (restB' t a b mv) ≤ szT (.sl TRes) t := by unfold restB'; split <;> omega
    simp only
    omega
theorem removeB_sz (t : TreeD) (p : PathD) : szT (.sl TRes) (removeB t p).1 ≤ szT (.sl TRes) t := by
  have hwz : szT (.sl TRes) (withoutB t p) ≤ szT (.sl TRes) t := szFilter (t := TRes) _ t
  unfold removeB
  split
  · exact Nat.le_refl _
  · split
    · exact Nat.le_refl _
    · split
      · exact Nat.le_refl _
      · exact hwz
set_option maxHeartbeats 4000000 in
set_option maxRecDepth 100000 in
theorem wFnShelvesBent_ok (l : List UInt8) (hO : OkT (.sl .u8) l) : V wFnShelvesBent [.d (.sl .u8 l)] [] = rB true := by
  rw [V_eq (fn := wFnShelvesBent_m) (by kernel_rfl)]
  have e0 := wbig_ok l
  by_cases hb : 1048576 < l.length
  · rw [decide_eq_true hb] at e0
    simp -implicitDefEqProofs [wFnShelvesBent_m, e0]
  rw [decide_eq_false hb] at e0
  have hb' : l.length ≤ 1048576 := by omega
  clear hb hO
  obtain ⟨t, a, b, over, v, ⟨ht, ha, hb⟩, e1⟩ := sDrawCopyTree_x l hb'
  have f1 := iCopyTree_ok t a b over v (by omega) (by omega) (by omega)
  have f2 := sCopyTree_ok t a b over v (by omega) (by omega) (by omega)
  have f3 := iMoveTree_ok t a b over v (by omega) (by omega) (by omega)
  have f4 := sMoveTree_ok t a b over v (by omega) (by omega) (by omega)
  rw [copy_eq] at f1
  rw [move_eq] at f3
  have z1 := wsameTree_r (farS t a b over v false).1 (by have := farS_sz t a b over v false; omega)
  have z2 := wsameTree_r (farS t a b over v true).1 (by have := farS_sz t a b over v true; omega)
  generalize farS t a b over v false = r1 at f1 f2 z1
  generalize farS t a b over v true = r2 at f3 f4 z2
  obtain ⟨t2, a2, s2, v2, ⟨ht2, ha2, hs2⟩, e2⟩ := sDrawPutFile_x l hb'
  have g1 := iPutFile_ok t2 a2 s2 v2 (by omega) (by omega)
  have g2 := sPutFile_ok t2 a2 s2 v2 (by omega) (by omega) (by omega)
  have z3 := wsameTree_r (putFileB t2 a2 s2 v2).1 (by have := putFileB_sz t2 a2 s2 v2; omega)
  generalize putFileB t2 a2 s2 v2 = r3 at g1 g2 z3
  obtain ⟨t3, a3, v3, ⟨ht3, ha3⟩, e3⟩ := sDrawMakeColl_x l hb'
  have g3 := iMakeColl_ok t3 a3 v3 (by omega) (by omega)
  have g4 := sMakeColl_ok t3 a3 v3 (by omega) (by omega)
  have z4 := wsameTree_r (makeCollB t3 a3 v3).1 (by have := makeCollB_sz t3 a3 v3; omega)
  generalize makeCollB t3 a3 v3 = r4 at g3 g4 z4
  obtain ⟨t4, a4, ⟨ht4, ha4⟩, e4⟩ := sDrawRemove_x l hb'
  have g5 := iRemove_ok t4 a4 (by omega) (by omega)
  have g6 := sRemove_ok t4 a4 (by omega) (by omega)
  have z5 := wsameTree_r (removeB t4 a4).1 (by have := removeB_sz t4 a4; omega)
  generalize removeB t4 a4 = r5 at g5 g6 z5
  have k1 := iWide_ok t4 (by omega)
  have k2 := sWide_ok t4 (by omega)
  generalize wideN t4 = wn at k1 k2
  obtain ⟨u1, c1⟩ := r1
  obtain ⟨u2, c2⟩ := r2
  obtain ⟨u3, c3⟩ := r3
  obtain ⟨u4, c4⟩ := r4
  obtain ⟨u5, c5⟩ := r5
  simp only at z1 z2 z3 z4 z5
  simp -implicitDefEqProofs [wFnShelvesBent_m, e0, e1, e2, e3, e4, f1, f2, f3, f4, g1, g2, g3, g4, g5, g6, z1, z2, z3, z4, z5, k1, k2]
end Go.Proofs.YtfklggpopffkjaaGreatK
