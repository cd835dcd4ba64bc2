/- What the functions come to. -/
import Derived.Test.YtfklggpopffkjaaF21
set_option linter.unusedVariables false
set_option linter.unusedSimpArgs false
namespace Go.Proofs.YtfklggpopffkjaaK
open Go.RowKit
set_option maxRecDepth 100000 in
set_option maxHeartbeats 2000000 in
theorem sl12Any_x (c : CurT) (h : CurP c) : ∃ (c' : CurT) (t : List SetD), CurP c' ∧ szT (.sl TSet) t ≤ 3000 ∧ V sl12Any [.p 0 0 0] [curO c] = some ([some (curO c')], .one (.own (.sl TSet t))) := by
  rw [V_eq (fn := sl12Any_m) (by kernel_rfl)]
  obtain ⟨c1, t, h1, hz, e1⟩ := sl12Sets_x c h
  have hl := szLen (t := TSet) (l := t)
  obtain ⟨c2, m, h2, ⟨v1, v2⟩, e2⟩ := sl1Below_x c1 h1 6
  by_cases m0 : m = 0
  · subst m0
    obtain ⟨c3, b, h3, e3⟩ := sl1Once_x c2 h2 2
    obtain ⟨c4, s1, h4, hs1, e4⟩ := sl1Str_x c3 h3 [[122], [1]] (by simp) (by simp)
    obtain ⟨c5, s2, h5, hs2, e5⟩ := sl1Str_x c4 h4 [[97], [65]] (by simp) (by simp)
    obtain ⟨c6, s3, h6, hs3, e6⟩ := sl1Str_x c5 h5 [[120], [116, 119, 101, 110, 116, 121, 45, 111, 110, 101, 45, 98, 121, 116, 101, 115, 45, 116, 101, 120, 116]] (by simp) (by simp)
    have q1 := (by decide : ∀ s ∈ ([[122], [1]] : List (List UInt8)), s.length ≤ 100) s1 hs1
    have q2 := (by decide : ∀ s ∈ ([[97], [65]] : List (List UInt8)), s.length ≤ 100) s2 hs2
    have q3 := (by decide : ∀ s ∈ ([[120], [116, 119, 101, 110, 116, 121, 45, 111, 110, 101, 45, 98, 121, 116, 101, 115, 45, 116, 101, 120, 116]] : List (List UInt8)), s.length ≤ 100) s3 hs3
    refine ⟨c6, t ++ [(b, s1, s2, s3)], h6, by rw [szT_snoc, szSet]; simp only [szP]; omega, ?_⟩
    simp -implicitDefEqProofs [sl12Any_m, e1, e2, e3, e4, e5, e6]
    exact ⟨by omega, take_snoc_all rfl⟩
  by_cases m1 : m = 1
  · subst m1
    obtain ⟨e, σ', L, p, h3, rfl, rfl⟩ := loop_ex (X := V) (c := sl12Any_l0) 5
      (fun i σ => ∃ (p : List SetD), (szT (.sl TSet) p ≤ 1000 + i * 100) ∧ σ = ⟨[(4, i6 i), (3, .h 67 0 p.length)], [(67, .ls TSet false p 0 []), (0, curO c2)]⟩)
      (fun e σ => ∃ (p : List SetD), (szT (.sl TSet) p ≤ 3000) ∧ e = .ex 1 ∧ σ = ⟨[(3, .h 67 0 p.length)], [(67, .ls TSet false p 0 []), (0, curO c2)]⟩)
      (fun i σ hi hI => by
        obtain ⟨p, h3, rfl⟩ := hI
        have hpl := szLen (t := TSet) (l := p)
        have q1 := sNumText_ok i (by omega)
        have q2 := numB_len i (by omega)
        generalize numB i = q at q1 q2
        refine .inl ⟨_, ?_, p ++ [(false, [], 110 :: q, [])], by rw [szT_snoc, szSet]; simp only [szP, List.length_nil, List.length_cons]; omega, rfl⟩
        simp -implicitDefEqProofs [sl12Any_l0, q1, (eq_true (by omega) : ((i : Int) < 5) = True), wrap_succ hi (by omega)]
        omega)
      (fun σ hI => by
        obtain ⟨p, h3, rfl⟩ := hI
        refine ⟨.ex 1, _, by simp, ?_, p, by omega, rfl, rfl⟩
        simp -implicitDefEqProofs [sl12Any_l0])
      ⟨[(4, i6 0), (3, .h 67 0 t.length)], [(67, .ls TSet false t 0 []), (0, curO c2)]⟩ ⟨t, by omega, by simp⟩
    exact ⟨c2, p, h2, h3, by simp -implicitDefEqProofs [sl12Any_m, e1, e2, L]⟩
  · exact ⟨c2, t, h2, by omega, by simp -implicitDefEqProofs [sl12Any_m, e1, e2, m0, m1]⟩
theorem sDrawPatch_x (l : List UInt8) (h : l.length ≤ 1048576) : ∃ (t : TreeD) (p : PathD) (xs : List SetD), (szT (.sl TRes) t ≤ 130000000 ∧ szT (.sl .str) p ≤ 131000000 ∧ szT (.sl TSet) xs ≤ 3000) ∧ V sDrawPatch [.d (.sl .u8 l)] [] = some ([], .tup [.one (.own (.sl TRes t)), .one (.own (.sl .str p)), .one (.own (.sl TSet xs))]) := by
  rw [V_eq (fn := sDrawPatch_m) (by kernel_rfl)]
  obtain ⟨c1, h1, e1⟩ := sl1New_x l h
  obtain ⟨c2, t, h2, ht, e2⟩ := sl10Any_x c1 h1
  obtain ⟨c3, p, h3, hp, e3⟩ := sl10Path_x c2 h2 t (by omega)
  obtain ⟨c4, xs, h4, hx, e4⟩ := sl12Any_x c3 h3
  exact ⟨t, p, xs, ⟨ht, by omega, hx⟩, by simp -implicitDefEqProofs [sDrawPatch_m, e1, e2, e3, e4]⟩
end Go.Proofs.YtfklggpopffkjaaK
