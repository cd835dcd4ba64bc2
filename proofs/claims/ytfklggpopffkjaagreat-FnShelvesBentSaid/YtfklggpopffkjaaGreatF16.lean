/- What the functions come to. -/
import Derived.Test.YtfklggpopffkjaaGreatF15
set_option linter.unusedVariables false
set_option linter.unusedSimpArgs false
namespace Go.Proofs.YtfklggpopffkjaaGreatK
open Go.RowKit
set_option maxRecDepth 100000 in
set_option maxHeartbeats 2000000 in
theorem sl10Any_x (c : CurT) (h : CurP c) : ∃ (c' : CurT) (t : TreeD), CurP c' ∧ szT (.sl TRes) t ≤ 130000000 ∧ V sl10Any [.p 0 0 0] [curO c] = some ([some (curO c')], .one (.own (.sl TRes t))) := by
  rw [V_eq (fn := sl10Any_m) (by kernel_rfl)]
  obtain ⟨c1, t, h1, hz, e1⟩ := sl10Draw_x c h
  by_cases h0 : t = []
  · subst h0
    exact ⟨c1, [], h1, by rw [szNoRes]; omega, by simp -implicitDefEqProofs [sl10Any_m, e1]⟩
  have hl := szLen (t := TRes) (l := t)
  have hp : 0 < t.length := List.length_pos_iff.2 h0
  have hp' : ((t.length : Int) = 0) = False := eq_false (by omega)
  obtain ⟨c2, b2, h2, ⟨u1, u2⟩, e2⟩ := sl1Below_x c1 h1 t.length
  obtain ⟨k, rfl⟩ := Int.eq_ofNat_of_zero_le u1
  have hk : k < t.length := by have := u2 (by omega); omega
  obtain ⟨c3, m, h3, ⟨v1, v2⟩, e3⟩ := sl1Below_x c2 h2 14
  have hg := szG (t := TRes) hk
  have hr := szRes t[k]
  have sz : ∀ (r : ResD), szT (.sl .str) r.1 + r.2.2.1.length + szT (.sl TProp) r.2.2.2.2 ≤ szT (.sl .str) t[k].1 + t[k].2.2.1.length + szT (.sl TProp) t[k].2.2.2.2 + 2000 → szT (.sl TRes) (t.set k r) ≤ 130000000 := by
    intro r hr2
    have := szSetAt (t := TRes) r t k
    rw [szRes] at this
    omega
  have tk : ∀ r : ResD, List.take (List.length t) (List.set t k r) = List.set t k r := fun r => List.take_of_length_le (by simp)
  by_cases m0 : m = 0
  · subst m0
    obtain ⟨c4, p, h4, hp4, e4⟩ := sl2Any_x c3 h3
    refine ⟨c4, t.set k (p, t[k].2.1, t[k].2.2.1, t[k].2.2.2.1, t[k].2.2.2.2), h4, sz _ (by simp only; omega), ?_⟩
    simp -implicitDefEqProofs [sl10Any_m, e1, e2, e3, e4, hp', h0, hk, get_some hk]
    first | exact tk _ | exact ⟨by omega, tk _⟩ | exact ⟨by omega, by omega, tk _⟩
  by_cases m1 : m = 1
  · subst m1
    refine ⟨c3, t.set k (t[k].1, !t[k].2.1, t[k].2.2.1, t[k].2.2.2.1, t[k].2.2.2.2), h3, sz _ (by simp only; omega), ?_⟩
    simp -implicitDefEqProofs [sl10Any_m, e1, e2, e3, hp', h0, hk, get_some hk]
    first | exact tk _ | exact ⟨by omega, tk _⟩ | exact ⟨by omega, by omega, tk _⟩
  by_cases m2 : m = 2
  · subst m2
    obtain ⟨c4, b, h4, ⟨w1, w2⟩, e4⟩ := sl1Below_x c3 h3 2
    obtain ⟨j, rfl⟩ := Int.eq_ofNat_of_zero_le w1
    have hj : j < 2 := by have := w2 (by omega); omega
    refine ⟨c4, t.set k (t[k].1, t[k].2.1, List.replicate (200 + j) 0, t[k].2.2.2.1, t[k].2.2.2.2), h4, sz _ (by simp only [List.length_replicate]; omega), ?_⟩
    simp -implicitDefEqProofs [sl10Any_m, e1, e2, e3, e4, hp', h0, hk, get_some hk, (wrI (by omega) (by omega) : IntKind.i64.wrap (200 + (j : Int)) = 200 + (j : Int)), (by omega : ((200 : Int) + (j : Int)).toNat = 200 + j)]
    first | exact tk _ | exact ⟨by omega, tk _⟩
  by_cases m3 : m = 3
  · subst m3
    obtain ⟨c4, n, h4, hn, e4⟩ := sl1Int_x c3 h3 [-1, 99999, 100000] (by simp) (by simp)
    refine ⟨c4, t.set k (t[k].1, t[k].2.1, t[k].2.2.1, n, t[k].2.2.2.2), h4, sz _ (by simp only; omega), ?_⟩
    simp -implicitDefEqProofs [sl10Any_m, e1, e2, e3, e4, hp', h0, hk, get_some hk]
    first | exact tk _ | exact ⟨by omega, tk _⟩ | exact ⟨by omega, by omega, tk _⟩
  by_cases m4 : m = 4
  · subst m4
    obtain ⟨c4, x, h4, hx, e4⟩ := sl10OneProp_x c3 h3
    obtain ⟨x1, x2, x3⟩ := x
    have hpl := szLen (t := TProp) (l := t[k].2.2.2.2)
    refine ⟨c4, t.set k (t[k].1, t[k].2.1, t[k].2.2.1, t[k].2.2.2.1, t[k].2.2.2.2 ++ [(x1, x2, x3)]), h4, sz _ (by simp only; rw [szT_snoc, szPropV]; omega), ?_⟩
    simp -implicitDefEqProofs [sl10Any_m, e1, e2, e3, e4, hp', h0, hk, get_some hk]
    rw [take_snoc_all rfl]
    exact ⟨by omega, tk _⟩
  by_cases m5 : m = 5
  · subst m5
    obtain ⟨e, σ', L, p, h4, rfl, rfl⟩ := loop_ex (X := V) (c := sl10Any_l0) 12
      (fun i σ => ∃ (p : TreeD), (szT (.sl TRes) p ≤ 60000000 + i * 100) ∧ σ = ⟨[(5, i6 i), (3, .h 67 0 p.length)], [(67, .ls TRes false p 0 []), (0, curO c3)]⟩)
      (fun e σ => ∃ (p : TreeD), (szT (.sl TRes) p ≤ 130000000) ∧ e = .ex 1 ∧ σ = ⟨[(3, .h 67 0 p.length)], [(67, .ls TRes false p 0 []), (0, curO c3)]⟩)
      (fun i σ hi hI => by
        obtain ⟨p, h3, rfl⟩ := hI
        have hpl := szLen (t := TRes) (l := p)
        have q1 := sNumText_ok (10 + i) (by omega)
        have q2 := numB_len (10 + i) (by omega)
        generalize numB (10 + i) = q at q1 q2
        refine .inl ⟨_, ?_, p ++ [([122 :: q], false, [], 0, [])], ?_, rfl⟩
        · simp -implicitDefEqProofs [sl10Any_l0, q1, (eq_true (by omega) : ((i : Int) < 12) = True), wrap_succ hi (by omega), (wrI (by omega) (by omega) : IntKind.i64.wrap (10 + (i : Int)) = 10 + (i : Int))]
          omega
        · rw [szT_snoc, szRes]
          simp only [List.length_nil]
          rw [szNoProp]
          have := szT_snoc (t := .str) [] (122 :: q)
          rw [List.nil_append] at this
          rw [this, szT_nil, szT_str, List.length_cons]
          omega)
      (fun σ hI => by
        obtain ⟨p, h3, rfl⟩ := hI
        refine ⟨.ex 1, _, by simp, ?_, p, by omega, rfl, rfl⟩
        simp -implicitDefEqProofs [sl10Any_l0])
      ⟨[(5, i6 0), (3, .h 67 0 t.length)], [(67, .ls TRes false t 0 []), (0, curO c3)]⟩ ⟨t, by omega, by simp⟩
    exact ⟨c3, p, h3, h4, by simp -implicitDefEqProofs [sl10Any_m, e1, e2, e3, hp', h0, L]⟩
  · exact ⟨c3, t, h3, by omega, by simp -implicitDefEqProofs [sl10Any_m, e1, e2, e3, hp', h0, m0, m1, m2, m3, m4, m5]⟩
end Go.Proofs.YtfklggpopffkjaaGreatK
