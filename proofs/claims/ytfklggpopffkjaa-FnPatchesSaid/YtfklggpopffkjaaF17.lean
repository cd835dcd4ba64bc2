/- What the functions come to. -/
import Derived.Test.YtfklggpopffkjaaF16
set_option linter.unusedVariables false
set_option linter.unusedSimpArgs false
namespace Go.Proofs.YtfklggpopffkjaaK
open Go.RowKit
theorem szT_snoc {t : T} (l : List t.den) (x : t.den) : szT (.sl t) (l ++ [x]) = szT (.sl t) l + (szT t x + 1) := by
  have e : szL t (l ++ [x]) = szL t l + szT t x := by simp [szL]
  rw [szT_slE, szT_slE, e, List.length_append]; simp; omega
theorem szT_nil {t : T} : szT (.sl t) [] = 0 := by rw [szT_slE]; simp [szL]
theorem sl2Draw_x (c : CurT) (h : CurP c) : ∃ (c' : CurT) (p : List (List UInt8)), CurP c' ∧ (p.length ≤ 3 ∧ szT (.sl .str) p ≤ 500) ∧ V sl2Draw [.p 0 0 0] [curO c] = some ([some (curO c')], .one (.own (.sl .str p))) := by
  rw [V_eq (fn := sl2Draw_m) (by kernel_rfl)]
  obtain ⟨c1, b1, h1, ⟨u1, u2⟩, e1⟩ := sl1Below_x c h 4
  obtain ⟨k, rfl⟩ := Int.eq_ofNat_of_zero_le u1
  have hk : k < 4 := by have := u2 (by omega); omega
  obtain ⟨e, σ', L, c2, p, h2, h3, rfl, rfl⟩ := loop_ex (X := V) (c := sl2Draw_l0) k
    (fun i σ => ∃ (c : CurT) (p : List (List UInt8)), CurP c ∧ (p.length = i ∧ szT (.sl .str) p ≤ i * 101) ∧ σ = ⟨[(4, i6 ((k : Int) - i)), (3, .h 67 0 p.length), (0, .p 0 0 0)], [(67, .ls .str false p 0 []), (0, curO c)]⟩)
    (fun e σ => ∃ (c : CurT) (p : List (List UInt8)), CurP c ∧ (p.length ≤ 3 ∧ szT (.sl .str) p ≤ 500) ∧ e = .ex 0 ∧ σ = ⟨[(3, .h 67 0 p.length)], [(67, .ls .str false p 0 []), (0, curO c)]⟩)
    (fun i σ hi hI => by
      obtain ⟨c, p, h1, ⟨h2, h3⟩, rfl⟩ := hI
      obtain ⟨c', s, h4, h5, e2⟩ := sl2Name_x c h1
      refine .inl ⟨_, ?_, c', p ++ [s], h4, ⟨by simp [h2], by rw [szT_snoc, szT_str]; omega⟩, rfl⟩
      simp -implicitDefEqProofs [sl2Draw_l0, e2, (eq_true (by omega) : ((i : Int) < (k : Int)) = True), (wrI (by omega) (by omega) : IntKind.i64.wrap ((k : Int) - i - 1) = (k : Int) - i - 1)]
      omega)
    (fun σ hI => by
      obtain ⟨c, p, h1, ⟨h2, h3⟩, rfl⟩ := hI
      refine ⟨.ex 0, _, by simp, ?_, c, p, h1, ⟨by omega, by omega⟩, rfl, rfl⟩
      simp -implicitDefEqProofs [sl2Draw_l0])
    ⟨[(4, i6 k), (3, .h 67 0 0), (0, .p 0 0 0)], [(67, .ls .str false [] 0 []), (0, curO c1)]⟩ ⟨c1, [], h1, ⟨rfl, by rw [szT_nil]; omega⟩, by simp⟩
  exact ⟨c2, p, h2, h3, by simp -implicitDefEqProofs [sl2Draw_m, e1, L]⟩
theorem sl2Any_x (c : CurT) (h : CurP c) : ∃ (c' : CurT) (p : List (List UInt8)), CurP c' ∧ szT (.sl .str) p ≤ 1100 ∧ V sl2Any [.p 0 0 0] [curO c] = some ([some (curO c')], .one (.own (.sl .str p))) := by
  rw [V_eq (fn := sl2Any_m) (by kernel_rfl)]
  obtain ⟨c1, p1, h1, ⟨l1, z1⟩, e1⟩ := sl2Draw_x c h
  obtain ⟨c2, b2, h2, ⟨u1, u2⟩, e2⟩ := sl1Below_x c1 h1 8
  have hm : ∀ m : Nat, (m + 1) * 16 ≤ 140737488355328 ↔ m ≤ 8796093022207 := by omega
  by_cases hb0 : b2 = 0
  · subst hb0
    obtain ⟨c3, s, h3, hs, e3⟩ := sl1Str_x c2 h2 [[], [46], [46, 46], [97, 47, 98], [110, 105, 110, 101, 98, 121, 116, 101, 115], [31], [101, 105, 103, 104, 116, 98, 121, 56]] (by simp) (by simp)
    have hs' : s.length ≤ 100 := (by decide : ∀ s ∈ ([[], [46], [46, 46], [97, 47, 98], [110, 105, 110, 101, 98, 121, 116, 101, 115], [31], [101, 105, 103, 104, 116, 98, 121, 56]] : List (List UInt8)), s.length ≤ 100) s hs
    refine ⟨c3, p1 ++ [s], h3, by rw [szT_snoc, szT_str]; omega, ?_⟩
    simp -implicitDefEqProofs [sl2Any_m, e1, e2, e3]
    exact ⟨by omega, take_snoc_all rfl⟩
  by_cases hb1 : b2 = 1
  · subst hb1
    obtain ⟨e, σ', L, c3, p, h3, h4, rfl, rfl⟩ := loop_ex (X := V) (c := sl2Any_l0) (5 - p1.length)
      (fun i σ => ∃ (c : CurT) (p : List (List UInt8)), CurP c ∧ (p.length = p1.length + i ∧ szT (.sl .str) p ≤ 500 + i * 2) ∧ σ = ⟨[(3, .h 67 0 p.length), (0, .p 0 0 0)], [(67, .ls .str false p 0 []), (0, curO c)]⟩)
      (fun e σ => ∃ (c : CurT) (p : List (List UInt8)), CurP c ∧ (szT (.sl .str) p ≤ 1100) ∧ e = .ex 1 ∧ σ = ⟨[(3, .h 67 0 p.length)], [(67, .ls .str false p 0 []), (0, curO c)]⟩)
      (fun i σ hi hI => by
        obtain ⟨c, p, q1, ⟨q2, q3⟩, rfl⟩ := hI
        obtain ⟨c', b, q4, ⟨v1, v2⟩, e3⟩ := sl1Below_x c q1 2
        have hb := v2 (by omega)
        by_cases hc : (p.length : Int) < 4 + b
        · refine .inl ⟨_, ?_, c', p ++ [[113]], q4, ⟨by simp [q2]; omega, by rw [szT_snoc, szT_str]; simp; omega⟩, rfl⟩
          simp -implicitDefEqProofs [sl2Any_l0, e3, hc, (wrI (by omega) (by omega) : IntKind.i64.wrap (4 + b) = 4 + b)]
          omega
        · refine .inr ⟨.ex 1, _, by simp, ?_, c', p, q4, by omega, rfl, rfl⟩
          simp -implicitDefEqProofs [sl2Any_l0, e3, hc, (wrI (by omega) (by omega) : IntKind.i64.wrap (4 + b) = 4 + b)])
      (fun σ hI => by
        obtain ⟨c, p, q1, ⟨q2, q3⟩, rfl⟩ := hI
        obtain ⟨c', b, q4, ⟨v1, v2⟩, e3⟩ := sl1Below_x c q1 2
        have hb := v2 (by omega)
        have hc : ¬ (p.length : Int) < 4 + b := by omega
        refine ⟨.ex 1, _, by simp, ?_, c', p, q4, by omega, rfl, rfl⟩
        simp -implicitDefEqProofs [sl2Any_l0, e3, hc, (wrI (by omega) (by omega) : IntKind.i64.wrap (4 + b) = 4 + b)])
      ⟨[(3, .h 67 0 p1.length), (0, .p 0 0 0)], [(67, .ls .str false p1 0 []), (0, curO c2)]⟩ ⟨c2, p1, h2, ⟨rfl, by omega⟩, rfl⟩
    exact ⟨c3, p, h3, h4, by simp -implicitDefEqProofs [sl2Any_m, e1, e2, L]⟩
  · exact ⟨c2, p1, h2, by omega, by simp -implicitDefEqProofs [sl2Any_m, e1, e2, hb0, hb1]⟩
theorem sl10OneProp_x (c : CurT) (h : CurP c) : ∃ (c' : CurT) (p : PropD), CurP c' ∧ szP p ≤ 300 ∧ V sl10OneProp [.p 0 0 0] [curO c] = some ([some (curO c')], .agg [.fz (.s p.1), .fz (.s p.2.1), .fz (.s p.2.2)]) := by
  rw [V_eq (fn := sl10OneProp_m) (by kernel_rfl)]
  obtain ⟨c1, s1, h1, hs1, e1⟩ := sl1Str_x c h [[68, 65, 86, 58], [117, 58, 120], []] (by simp) (by simp)
  obtain ⟨c2, s2, h2, hs2, e2⟩ := sl1Str_x c1 h1 [[97], [99, 111, 108, 111, 114], [98]] (by simp) (by simp)
  obtain ⟨c3, s3, h3, hs3, e3⟩ := sl1Str_x c2 h2 [[], [114, 101, 100], [97, 60, 98]] (by simp) (by simp)
  have q1 := (by decide : ∀ s ∈ ([[68, 65, 86, 58], [117, 58, 120], []] : List (List UInt8)), s.length ≤ 100) s1 hs1
  have q2 := (by decide : ∀ s ∈ ([[97], [99, 111, 108, 111, 114], [98]] : List (List UInt8)), s.length ≤ 100) s2 hs2
  have q3 := (by decide : ∀ s ∈ ([[], [114, 101, 100], [97, 60, 98]] : List (List UInt8)), s.length ≤ 100) s3 hs3
  exact ⟨c3, (s1, s2, s3), h3, by simp only [szP]; omega, by simp -implicitDefEqProofs [sl10OneProp_m, e1, e2, e3]⟩
theorem setPropsB_sz (l : List PropD) (xs : List SetD) : szT (.sl TProp) (setPropsB l xs).1 ≤ szT (.sl TProp) l + szT (.sl TSet) xs := by
  unfold setPropsB
  cases h : goM setF l xs with
  | none => simp only; omega
  | some n =>
    simp only
    split
    · exact goM_sz l xs l n h
    · show szT (.sl TProp) l ≤ _; omega
theorem sl10Props_x (c : CurT) (h : CurP c) : ∃ (c' : CurT) (p : List PropD), CurP c' ∧ szT (.sl TProp) p ≤ 1000 ∧ V sl10Props [.p 0 0 0] [curO c] = some ([some (curO c')], .one (.own (.sl TProp p))) := by
  rw [V_eq (fn := sl10Props_m) (by kernel_rfl)]
  obtain ⟨c1, b1, h1, ⟨u1, u2⟩, e1⟩ := sl1Below_x c h 3
  obtain ⟨k, rfl⟩ := Int.eq_ofNat_of_zero_le u1
  have hk : k < 3 := by have := u2 (by omega); omega
  obtain ⟨e, σ', L, c2, p, h2, h3, rfl, rfl⟩ := loop_ex (X := V) (c := sl10Props_l0) k
    (fun i σ => ∃ (c : CurT) (p : List PropD), CurP c ∧ (szT (.sl TProp) p ≤ i * 302) ∧ σ = ⟨[(4, i6 ((k : Int) - i)), (3, .h 67 0 p.length), (0, .p 0 0 0)], [(67, .ls TProp false p 0 []), (0, curO c)]⟩)
    (fun e σ => ∃ (c : CurT) (p : List PropD), CurP c ∧ (szT (.sl TProp) p ≤ 1000) ∧ e = .ex 0 ∧ σ = ⟨[(3, .h 67 0 p.length)], [(67, .ls TProp false p 0 []), (0, curO c)]⟩)
    (fun i σ hi hI => by
      obtain ⟨c, p, h1, h3, rfl⟩ := hI
      obtain ⟨c', x, h4, h5, e2⟩ := sl10OneProp_x c h1
      have hs : szT (.sl TSet) [(false, x)] ≤ 301 := by
        have := szT_snoc (t := TSet) [] (false, x)
        rw [List.nil_append] at this
        rw [this, szT_nil, szSet]; simp only; omega
      have hq := setPropsB_sz p [(false, x)]
      have e3 := sSetProps_ok p [(false, x)] (by omega) (by omega)
      refine .inl ⟨_, ?_, c', (setPropsB p [(false, x)]).1, h4, by omega, rfl⟩
      generalize setPropsB p [(false, x)] = r at e3 ⊢
      simp -implicitDefEqProofs [sl10Props_l0, e2, e3, (eq_true (by omega) : ((i : Int) < (k : Int)) = True), (wrI (by omega) (by omega) : IntKind.i64.wrap ((k : Int) - i - 1) = (k : Int) - i - 1)]
      omega)
    (fun σ hI => by
      obtain ⟨c, p, h1, h3, rfl⟩ := hI
      refine ⟨.ex 0, _, by simp, ?_, c, p, h1, by omega, rfl, rfl⟩
      simp -implicitDefEqProofs [sl10Props_l0])
    ⟨[(4, i6 k), (3, .h 67 0 0), (0, .p 0 0 0)], [(67, .ls TProp false [] 0 []), (0, curO c1)]⟩ ⟨c1, [], h1, by rw [szT_nil]; omega, by simp⟩
  exact ⟨c2, p, h2, h3, by simp -implicitDefEqProofs [sl10Props_m, e1, L]⟩
theorem sl12Sets_x (c : CurT) (h : CurP c) : ∃ (c' : CurT) (p : List SetD), CurP c' ∧ szT (.sl TSet) p ≤ 1000 ∧ V sl12Sets [.p 0 0 0] [curO c] = some ([some (curO c')], .one (.own (.sl TSet p))) := by
  rw [V_eq (fn := sl12Sets_m) (by kernel_rfl)]
  obtain ⟨c1, b1, h1, ⟨u1, u2⟩, e1⟩ := sl1Below_x c h 4
  obtain ⟨k, rfl⟩ := Int.eq_ofNat_of_zero_le u1
  have hk : k < 4 := by have := u2 (by omega); omega
  obtain ⟨e, σ', L, c2, p, h2, h3, rfl, rfl⟩ := loop_ex (X := V) (c := sl12Sets_l0) k
    (fun i σ => ∃ (c : CurT) (p : List SetD), CurP c ∧ (szT (.sl TSet) p ≤ i * 302) ∧ σ = ⟨[(4, i6 ((k : Int) - i)), (3, .h 67 0 p.length), (0, .p 0 0 0)], [(67, .ls TSet false p 0 []), (0, curO c)]⟩)
    (fun e σ => ∃ (c : CurT) (p : List SetD), CurP c ∧ (szT (.sl TSet) p ≤ 1000) ∧ e = .ex 0 ∧ σ = ⟨[(3, .h 67 0 p.length)], [(67, .ls TSet false p 0 []), (0, curO c)]⟩)
    (fun i σ hi hI => by
      obtain ⟨c, p, h1, h3, rfl⟩ := hI
      obtain ⟨c', b, h4, e2⟩ := sl1Once_x c h1 3
      obtain ⟨c'', x, h5, h6, e3⟩ := sl10OneProp_x c' h4
      have hl := szLen (t := TSet) (l := p)
      obtain ⟨x1, x2, x3⟩ := x
      simp only [szP] at h6
      cases b
      · refine .inl ⟨_, ?_, c'', p ++ [(false, x1, x2, x3)], h5, by rw [szT_snoc, szSet]; simp only [szP]; omega, rfl⟩
        simp -implicitDefEqProofs [sl12Sets_l0, e2, e3, (eq_true (by omega) : ((i : Int) < (k : Int)) = True), (wrI (by omega) (by omega) : IntKind.i64.wrap ((k : Int) - i - 1) = (k : Int) - i - 1)]
        omega
      · refine .inl ⟨_, ?_, c'', p ++ [(true, x1, x2, [])], h5, by rw [szT_snoc, szSet]; simp only [szP, List.length_nil]; omega, rfl⟩
        simp -implicitDefEqProofs [sl12Sets_l0, e2, e3, (eq_true (by omega) : ((i : Int) < (k : Int)) = True), (wrI (by omega) (by omega) : IntKind.i64.wrap ((k : Int) - i - 1) = (k : Int) - i - 1)]
        omega)
    (fun σ hI => by
      obtain ⟨c, p, h1, h3, rfl⟩ := hI
      refine ⟨.ex 0, _, by simp, ?_, c, p, h1, by omega, rfl, rfl⟩
      simp -implicitDefEqProofs [sl12Sets_l0])
    ⟨[(4, i6 k), (3, .h 67 0 0), (0, .p 0 0 0)], [(67, .ls TSet false [] 0 []), (0, curO c1)]⟩ ⟨c1, [], h1, by rw [szT_nil]; omega, by simp⟩
  exact ⟨c2, p, h2, h3, by simp -implicitDefEqProofs [sl12Sets_m, e1, L]⟩
end Go.Proofs.YtfklggpopffkjaaK
