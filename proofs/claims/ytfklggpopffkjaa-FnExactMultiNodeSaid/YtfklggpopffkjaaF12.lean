/- What the functions come to. -/
import Derived.Test.YtfklggpopffkjaaF11
set_option linter.unusedVariables false
set_option linter.unusedSimpArgs false
namespace Go.Proofs.YtfklggpopffkjaaK
open Go.RowKit
theorem pathTextB_len (p : List (List UInt8)) : (pathTextB p).length ≤ 101 := by
  unfold pathTextB
  split
  · rename_i h
    simp only [pathB, Bool.and_eq_true, decide_eq_true_eq, List.all_eq_true] at h
    split
    · simp
    · have key : ∀ q : List (List UInt8), (∀ x ∈ q, nameB x = true) → (q.flatMap fun x => 47 :: quoteB x).length ≤ 25 * q.length := by
        intro q
        induction q with
        | nil => intro _; simp
        | cons x q ih =>
          intro hq
          have h1 := ih (fun y hy => hq y (by simp [hy]))
          have h2 := hq x (by simp)
          simp only [nameB, Bool.and_eq_true, decide_eq_true_eq] at h2
          have h3 := quoteB_len x
          simp only [List.flatMap_cons, List.length_append, List.length_cons]
          omega
      have := key p h.1
      omega
  · simp
theorem szNs_app : ∀ (a b : List NodeT), szNs (a ++ b) = szNs a + szNs b
  | [], b => by simp [szNs]
  | x :: a, b => by simp only [List.cons_append, szNs, szNs_app a b]; omega
theorem szNs_props : ∀ ps : List PropD, szNs (ps.map propN) = szL TProp ps
  | [] => rfl
  | p :: ps => by
    have := szNs_props ps
    have e : szL TProp (p :: ps) = szT TProp p + szL TProp ps := szL_cons TProp p ps
    rw [e]
    simp only [List.map_cons, szNs, propN, szN, List.length_nil, this, szT_pr, szT_str]; omega
theorem szN_resp (ps : List PropD) (i : Nat) (x : ItemD) : szN (respN ps i x) ≤ 200 + x.2.length + szT (.sl TProp) ps := by
  have h := pathTextB_len x.1
  have e := szNs_props ps
  unfold respN respK davN
  simp only [szN, List.length_cons, List.length_nil]
  rw [szNs_app]
  simp only [szNs, szN, List.length_append, List.length_cons, List.length_nil]
  rw [szT_slE]
  split
  · simp only [szNs, szN, List.length_map, List.length_cons, List.length_nil]; omega
  · simp only [szNs, List.length_nil]; omega
theorem szNs_multi (ps : List PropD) : ∀ (l : List ItemD) (f : Nat → Nat), szNs (l.mapIdx fun i x => respN ps (f i) x) ≤ l.length * (200 + szT (.sl TProp) ps) + szL TItem l
  | [], f => by simp [szNs]
  | x :: l, f => by
    have h1 := szNs_multi ps l (fun i => f (i + 1))
    have h2 := szN_resp ps (f 0) x
    have e : szL TItem (x :: l) = szT TItem x + szL TItem l := szL_cons TItem x l
    rw [e, List.mapIdx_cons]
    simp only [szNs, List.length_cons, szT_pr, szT_str, Nat.succ_mul]
    omega
set_option maxHeartbeats 2000000 in
set_option maxRecDepth 100000 in
theorem wFnExactMultiNode_ok (l : List ItemD) (ps : List PropD) (hO : OkT (.sl TItem) l) (hP : OkT (.sl TProp) ps) : V wFnExactMultiNode [.d (.sl TItem l), .d (.sl TProp ps)] [] = rB true := by
  rw [V_eq (fn := wFnExactMultiNode_m) (by kernel_rfl)]
  have hb := OkT.bnd (.sl TItem) l hO
  have hc := OkT.bnd (.sl TProp) ps hP
  obtain ⟨r1, e1, q1⟩ := wszItemS_ok l hb 1048576 (by omega) (by omega)
  by_cases h1 : r1 < 0
  · simp -implicitDefEqProofs [wFnExactMultiNode_m, e1, h1]
  have p1 := q1.resolve_left (by omega)
  obtain ⟨r2, e2, q2⟩ := wszPropS_ok ps hc r1 (by omega) (by omega)
  by_cases h2 : r2 < 0
  · simp -implicitDefEqProofs [wFnExactMultiNode_m, e1, h1, e2, h2]
  have p2 := q2.resolve_left (by omega)
  have hl : szT (.sl TItem) l ≤ 1048576 := by omega
  have hps : szT (.sl TProp) ps ≤ 1048576 := by omega
  have f1 := wtoItemS_ok l hl
  have f2 := wtoPropS_ok ps hps
  have hn := szLen (t := TItem) (l := l)
  have hm := szLen (t := TProp) (l := ps)
  have f3 := sMultiNode_ok l ps (by omega) (by omega)
  have f4 := iMultiNode_ok l ps (by omega) (by omega)
  have hz : szNs (multiK l ps) ≤ 1048576 * 1048776 + 1048576 := by
    have a1 : szNs (l.mapIdx (respN ps)) ≤ _ := szNs_multi ps l (fun i => i)
    have a2 : l.length * (200 + szT (.sl TProp) ps) ≤ 1048576 * 1048776 := Nat.mul_le_mul (by omega) (by omega)
    have a3 : szL TItem l ≤ 1048576 := by rw [szT_slE] at hl; omega
    unfold multiK
    omega
  have hkl : (multiK l ps).length = l.length := multiK_len l ps
  generalize multiK l ps = ks at f3 f4 hz hkl
  have hN : szN (.mk [68, 65, 86, 58] [109, 117, 108, 116, 105, 115, 116, 97, 116, 117, 115] [] ks) ≤ 70368744177664 := by
    simp only [szN, List.length_cons, List.length_nil]; omega
  have g1 := weqNode_ok _ _ _ _ hN
  have g2 := weqItemS_ok l hb
  have g3 := weqPropS_ok ps hc
  have b1 := BndM_of (.sl TItem) l (by omega)
  have b2 := BndM_of (.sl TProp) ps (by omega)
  have k1 := markT_bound (.sl TItem) l 1
  have k2 := markT_bound (.sl TProp) ps (markT (.sl TItem) l 1).2
  simp [T.wd] at k1 k2
  have m1 := wmarkItemS_ok l 1 b1.1 (by omega) b1.2
  obtain ⟨x1, y1⟩ : ∃ x, (markT (.sl TItem) l 1).2 = x := ⟨_, rfl⟩
  have z1 := markL_len TItem l 1
  rw [y1] at m1 k1 k2
  have m2 := wmarkPropS_ok ps x1 b2.1 (by omega) b2.2
  have z2 := markL_len TProp ps x1
  obtain ⟨x2, y2⟩ : ∃ x, (markT (.sl TProp) ps x1).2 = x := ⟨_, rfl⟩
  rw [y2] at m2 k2
  have k3 := markNs_bound ks 1
  have m3 := wmarkNode_ok [68, 65, 86, 58] [109, 117, 108, 116, 105, 115, 116, 97, 116, 117, 115] [] ks hN 1 (by omega)
  have m4 := wheldNode_ok [68, 65, 86, 58] [109, 117, 108, 116, 105, 115, 116, 97, 116, 117, 115] [] ks hN 1 (by omega)
  have z3 := markNs_len ks 1
  generalize (markNs ks 1).1 = kk at m3 m4 z3
  generalize (markNs ks 1).2 = x3 at m3 m4
  simp only [Int.natCast_one] at m1 m2 m3 m4
  simp -implicitDefEqProofs [wFnExactMultiNode_m, e1, h1, e2, h2, f1, f2, f3, f4, g1, g2, g3, m1, m2, m3, m4, z1, z2, z3, take_all]
end Go.Proofs.YtfklggpopffkjaaK
