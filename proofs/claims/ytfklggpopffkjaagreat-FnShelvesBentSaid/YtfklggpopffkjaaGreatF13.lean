/- What the functions come to. -/
import Derived.Test.YtfklggpopffkjaaGreatF12
set_option linter.unusedVariables false
set_option linter.unusedSimpArgs false
namespace Go.Proofs.YtfklggpopffkjaaGreatK
open Go.RowKit
/-- A loop that goes on somehow: what is so of the state at each round. -/
theorem loop_ex {X : XF} {c : C} (n : Nat) (I : Nat → St → Prop) (J : Ex → St → Prop)
    (h : ∀ i σ, i < n → I i σ → (∃ σ', DL X c σ = some (.n, σ') ∧ I (i + 1) σ') ∨ (∃ e σ', e ≠ .n ∧ DL X c σ = some (e, σ') ∧ J e σ'))
    (hx : ∀ σ, I n σ → ∃ e σ', e ≠ .n ∧ DL X c σ = some (e, σ') ∧ J e σ') (σ : St) (h0 : I 0 σ) : ∃ e σ', DL X (.loop c) σ = some (e, σ') ∧ J e σ' := by
  have fin : ∀ σ e σ', e ≠ .n → DL X c σ = some (e, σ') → DL X (.loop c) σ = some (e, σ') := by
    intro σ e σ' he h1
    rw [DL_loop, h1]
    cases e with
    | n => exact absurd rfl he
    | ex id => rfl
    | ret => rfl
  have key : ∀ k i σ, i + k = n → I i σ → ∃ e σ', DL X (.loop c) σ = some (e, σ') ∧ J e σ' := by
    intro k
    induction k with
    | zero =>
      intro i σ hi h1
      obtain rfl : i = n := by omega
      obtain ⟨e, σ', he, h2, h3⟩ := hx σ h1
      exact ⟨e, σ', fin σ e σ' he h2, h3⟩
    | succ k ih =>
      intro i σ hi h1
      rcases h i σ (by omega) h1 with ⟨σ', h2, h3⟩ | ⟨e, σ', he, h2, h3⟩
      · obtain ⟨e, σ2, h4, h5⟩ := ih (i + 1) σ' (by omega) h3
        refine ⟨e, σ2, ?_, h5⟩
        rw [DL_loop, h2]
        exact h4
      · exact ⟨e, σ', fin σ e σ' he h2, h3⟩
  exact key n 0 σ (by omega) h0
abbrev CurT := T.den Tl1Cur
abbrev curO (c : CurT) : Ob := .ls Tl1Cur true [c] 0 []
def CurP (c : CurT) : Prop := ∃ k : Nat, c.2.1 = (k : Int) ∧ k ≤ c.1.length ∧ c.1.length ≤ 1048576
theorem and255 (n : Nat) : 0 ≤ IntKind.i64.wrap ((n &&& 255 % 2 ^ IntKind.i64.bits : Nat) : Int) ∧ IntKind.i64.wrap ((n &&& 255 % 2 ^ IntKind.i64.bits : Nat) : Int) ≤ 255 := by
  rw [show 255 % 2 ^ IntKind.i64.bits = 255 from rfl]
  have := @Nat.and_le_right n 255
  rw [wrI (by omega) (by omega)]
  omega
theorem sl1Byte_x (c : CurT) (h : CurP c) : ∃ c' b, CurP c' ∧ (0 ≤ b ∧ b ≤ 255) ∧ V sl1Byte [.p 0 0 0] [curO c] = some ([some (curO c')], .one (.fz (.i .i64 b))) := by
  obtain ⟨l, pos, seed⟩ := c
  obtain ⟨k, h1, h2, h3⟩ := h
  simp only at h1 h2 h3
  subst h1
  rw [V_eq (fn := sl1Byte_m) (by kernel_rfl)]
  by_cases hp : k < l.length
  · have hx : ∃ (s' b : Int), (entered sl1Byte_m [.p 0 0 0] [curO (l, (k : Int), seed)]).bind (runV sl1Byte_m 1) = some ([some (curO (l, (k : Int) + 1, s'))], .one (.fz (.i .i64 b))) ∧ (0 ≤ b ∧ b ≤ 255) := by
      simp -implicitDefEqProofs [sl1Byte_m, hp, get_some hp, wrap_succ hp (by omega)]
      exact ⟨_, _, ⟨rfl, rfl⟩, and255 _⟩
    obtain ⟨s', b, e, hb⟩ := hx
    exact ⟨(l, (k : Int) + 1, s'), b, ⟨k + 1, rfl, hp, h3⟩, hb, e⟩
  · have hx : ∃ (s' b : Int), (entered sl1Byte_m [.p 0 0 0] [curO (l, (k : Int), seed)]).bind (runV sl1Byte_m 1) = some ([some (curO (l, (k : Int), s'))], .one (.fz (.i .i64 b))) ∧ (0 ≤ b ∧ b ≤ 255) := by
      simp -implicitDefEqProofs [sl1Byte_m, hp]
      exact ⟨_, _, ⟨rfl, rfl⟩, and255 _⟩
    obtain ⟨s', b, e, hb⟩ := hx
    exact ⟨(l, (k : Int), s'), b, ⟨k, rfl, h2, h3⟩, hb, e⟩
theorem sl1Below_x (c : CurT) (h : CurP c) (n : Int) : ∃ c' b, CurP c' ∧ (0 ≤ b ∧ (0 < n → b < n)) ∧ V sl1Below [.p 0 0 0, i6 n] [curO c] = some ([some (curO c')], .one (.fz (.i .i64 b))) := by
  rw [V_eq (fn := sl1Below_m) (by kernel_rfl)]
  by_cases h0 : n ≤ 0
  · exact ⟨c, 0, h, ⟨by omega, by omega⟩, by simp -implicitDefEqProofs [sl1Below_m, h0]⟩
  by_cases h1 : n ≤ 256
  · obtain ⟨o1, b1, c1, ⟨u1, u2⟩, e1⟩ := sl1Byte_x c h
    refine ⟨o1, b1.tmod n, c1, ?_, ?_⟩
    · rw [Int.tmod_eq_emod_of_nonneg u1]
      have q1 := Int.emod_nonneg b1 (show n ≠ 0 by omega)
      have q2 := Int.emod_lt_of_pos b1 (show 0 < n by omega)
      omega
    · simp -implicitDefEqProofs [sl1Below_m, h0, h1, e1]
      omega
  · obtain ⟨o1, b1, c1, ⟨u1, u2⟩, e1⟩ := sl1Byte_x c h
    obtain ⟨o2, b2, c2, ⟨v1, v2⟩, e2⟩ := sl1Byte_x o1 c1
    obtain ⟨o3, b3, c3, ⟨w1, w2⟩, e3⟩ := sl1Byte_x o2 c2
    refine ⟨o3, (b1 * 65536 + b2 * 256 + b3).tmod n, c3, ?_, ?_⟩
    · rw [Int.tmod_eq_emod_of_nonneg (by omega)]
      have q1 := Int.emod_nonneg (b1 * 65536 + b2 * 256 + b3) (show n ≠ 0 by omega)
      have q2 := Int.emod_lt_of_pos (b1 * 65536 + b2 * 256 + b3) (show 0 < n by omega)
      exact ⟨q1, fun _ => q2⟩
    · simp -implicitDefEqProofs [sl1Below_m, h0, h1, e1, e2, e3, (wrI (by omega) (by omega) : IntKind.i64.wrap (b1 * 65536) = b1 * 65536), (wrI (by omega) (by omega) : IntKind.i64.wrap (b2 * 256) = b2 * 256), (wrI (by omega) (by omega) : IntKind.i64.wrap (b1 * 65536 + b2 * 256) = b1 * 65536 + b2 * 256), (wrI (by omega) (by omega) : IntKind.i64.wrap (b1 * 65536 + b2 * 256 + b3) = b1 * 65536 + b2 * 256 + b3)]
      omega
theorem sl1Once_x (c : CurT) (h : CurP c) (n : Int) : ∃ c' b, CurP c' ∧ V sl1Once [.p 0 0 0, i6 n] [curO c] = some ([some (curO c')], .one (.fz (.b b))) := by
  rw [V_eq (fn := sl1Once_m) (by kernel_rfl)]
  obtain ⟨o1, b1, c1, _, e1⟩ := sl1Below_x c h n
  exact ⟨o1, decide (b1 = 0), c1, by simp -implicitDefEqProofs [sl1Once_m, e1]⟩
theorem sl1Str_x (c : CurT) (h : CurP c) (l : List (List UInt8)) (hl : 0 < l.length) (hl2 : l.length ≤ 1000000) : ∃ c' s, CurP c' ∧ s ∈ l ∧ V sl1Str [.p 0 0 0, .d (.sl .str l)] [curO c] = some ([some (curO c')], .one (.fz (.s s))) := by
  rw [V_eq (fn := sl1Str_m) (by kernel_rfl)]
  obtain ⟨o1, b1, c1, ⟨u1, u2⟩, e1⟩ := sl1Below_x c h l.length
  obtain ⟨k, rfl⟩ := Int.eq_ofNat_of_zero_le u1
  have hk : k < l.length := by have := u2 (by omega); omega
  exact ⟨o1, l[k], c1, List.getElem_mem hk, by simp -implicitDefEqProofs [sl1Str_m, e1, hk, get_some hk]⟩
theorem sl1Int_x (c : CurT) (h : CurP c) (l : List Int) (hl : 0 < l.length) (hl2 : l.length ≤ 1000000) : ∃ c' s, CurP c' ∧ s ∈ l ∧ V sl1Int [.p 0 0 0, .d (.sl (.int .i64) l)] [curO c] = some ([some (curO c')], .one (.fz (.i .i64 s))) := by
  rw [V_eq (fn := sl1Int_m) (by kernel_rfl)]
  obtain ⟨o1, b1, c1, ⟨u1, u2⟩, e1⟩ := sl1Below_x c h l.length
  obtain ⟨k, rfl⟩ := Int.eq_ofNat_of_zero_le u1
  have hk : k < l.length := by have := u2 (by omega); omega
  exact ⟨o1, l[k], c1, List.getElem_mem hk, by simp -implicitDefEqProofs [sl1Int_m, e1, hk, get_some hk]⟩
theorem sl1New_x (l : List UInt8) (h : l.length ≤ 1048576) : ∃ c, CurP c ∧ V sl1New [.d (.sl .u8 l)] [] = some ([], .one (.bx Tl1Cur true c)) := by
  rw [V_eq (fn := sl1New_m) (by kernel_rfl)]
  have L : ∃ s : Int, DL V (.loop sl1New_l0) ⟨[(4, i6 0), (3, i6 (774774 + l.length)), (0, .d (.sl .u8 l))], []⟩ = some (.ex 0, ⟨[(3, i6 s), (0, .d (.sl .u8 l))], []⟩) := by
    obtain ⟨e, σ', h1, s, rfl, rfl⟩ := loop_ex (X := V) (c := sl1New_l0) (min l.length 4000) (fun i σ => ∃ s : Int, σ = ⟨[(4, i6 i), (3, i6 s), (0, .d (.sl .u8 l))], []⟩) (fun e σ => ∃ s : Int, e = .ex 0 ∧ σ = ⟨[(3, i6 s), (0, .d (.sl .u8 l))], []⟩)
      (fun i σ hi hI => by
        obtain ⟨s, rfl⟩ := hI
        have h1 : i < l.length := by omega
        left
        simp -implicitDefEqProofs [sl1New_l0, h1, get_some h1, (eq_true (by omega) : ((i : Int) < 4000) = True), wrap_succ h1 (by omega)]
        done)
      (fun σ hI => by
        obtain ⟨s, rfl⟩ := hI
        by_cases h1 : l.length ≤ 4000
        · rw [Nat.min_eq_left h1]
          refine ⟨.ex 0, _, by simp, ?_, s, rfl, rfl⟩
          simp -implicitDefEqProofs [sl1New_l0]
        · rw [Nat.min_eq_right (by omega)]
          refine ⟨.ex 0, _, by simp, ?_, s, rfl, rfl⟩
          simp -implicitDefEqProofs [sl1New_l0, (eq_true (by omega) : ((4000 : Int) < (l.length : Int)) = True)])
      _ ⟨_, rfl⟩
    exact ⟨s, h1⟩
  obtain ⟨s, L⟩ := L
  refine ⟨(l, 0, s), ⟨0, rfl, Nat.zero_le _, h⟩, ?_⟩
  simp -implicitDefEqProofs [sl1New_m, L, (wrI (by omega) (by omega) : IntKind.i64.wrap (774774 + (l.length : Int)) = 774774 + l.length)]
  rfl
theorem sl2Name_x (c : CurT) (h : CurP c) : ∃ c' s, CurP c' ∧ s.length ≤ 100 ∧ V sl2Name [.p 0 0 0] [curO c] = some ([some (curO c')], .one (.fz (.s s))) := by
  rw [V_eq (fn := sl2Name_m) (by kernel_rfl)]
  obtain ⟨c1, s, h1, hs, e1⟩ := sl1Str_x c h [[97], [98], [99], [97, 32, 98], [120, 37, 121], [97], [98]] (by simp) (by simp)
  refine ⟨c1, s, h1, ?_, ?_⟩
  · exact (by decide : ∀ s ∈ ([[97], [98], [99], [97, 32, 98], [120, 37, 121], [97], [98]] : List (List UInt8)), s.length ≤ 100) s hs
  · simp -implicitDefEqProofs [sl2Name_m, e1]
theorem szT_snoc {t : T} (l : List t.den) (x : t.den) : szT (.sl t) (l ++ [x]) = szT (.sl t) l + (szT t x + 1) := by
  have e : szL t (l ++ [x]) = szL t l + szT t x := by simp [szL]
  rw [szT_slE, szT_slE, e, List.length_append]; simp; omega
theorem szT_nil {t : T} : szT (.sl t) [] = 0 := by rw [szT_slE]; simp [szL]
theorem sl2Draw_x (c : CurT) (h : CurP c) : ∃ (c' : CurT) (p : List (List UInt8)), CurP c' ∧ (p.length ≤ 3 ∧ szT (.sl .str) p ≤ 500) ∧ V sl2Draw [.p 0 0 0] [curO c] = some ([some (curO c')], .one (.own (.sl .str p))) := by
  rw [V_eq (fn := sl2Draw_m) (by kernel_rfl)]
  obtain ⟨c1, b1, h1, ⟨u1, u2⟩, e1⟩ := sl1Below_x c h 4
  obtain ⟨k, rfl⟩ := Int.eq_ofNat_of_zero_le u1
  have hk : k < 4 := by have := u2 (by omega); omega
  obtain ⟨e, σ', L, c2, p, h2, h3, rfl, rfl⟩ := loop_ex (X := V) (c := sl2Draw_l0) k
    (fun i σ => ∃ (c : CurT) (p : List (List UInt8)), CurP c ∧ (p.length = i ∧ szT (.sl .str) p ≤ i * 101) ∧ σ = ⟨[(4, i6 ((k : Int) - i)), (3, .h 67 0 p.length), (0, .p 0 0 0)], [(67, .ls .str false p 0 []), (0, curO c)]⟩)
    (fun e σ => ∃ (c : CurT) (p : List (List UInt8)), CurP c ∧ (p.length ≤ 3 ∧ szT (.sl .str) p ≤ 500) ∧ e = .ex 0 ∧ σ = ⟨[(3, .h 67 0 p.length)], [(67, .ls .str false p 0 []), (0, curO c)]⟩)
    (fun i σ hi hI => by
      obtain ⟨c, p, h1, ⟨h2, h3⟩, rfl⟩ := hI
      obtain ⟨c', s, h4, h5, e2⟩ := sl2Name_x c h1
      refine .inl ⟨_, ?_, c', p ++ [s], h4, ⟨by simp [h2], by rw [szT_snoc, szT_str]; omega⟩, rfl⟩
      simp -implicitDefEqProofs [sl2Draw_l0, e2, (eq_true (by omega) : ((i : Int) < (k : Int)) = True), (wrI (by omega) (by omega) : IntKind.i64.wrap ((k : Int) - i - 1) = (k : Int) - i - 1)]
      omega)
    (fun σ hI => by
      obtain ⟨c, p, h1, ⟨h2, h3⟩, rfl⟩ := hI
      refine ⟨.ex 0, _, by simp, ?_, c, p, h1, ⟨by omega, by omega⟩, rfl, rfl⟩
      simp -implicitDefEqProofs [sl2Draw_l0])
    ⟨[(4, i6 k), (3, .h 67 0 0), (0, .p 0 0 0)], [(67, .ls .str false [] 0 []), (0, curO c1)]⟩ ⟨c1, [], h1, ⟨rfl, by rw [szT_nil]; omega⟩, by simp⟩
  exact ⟨c2, p, h2, h3, by simp -implicitDefEqProofs [sl2Draw_m, e1, L]⟩
theorem sl2Any_x (c : CurT) (h : CurP c) : ∃ (c' : CurT) (p : List (List UInt8)), CurP c' ∧ szT (.sl .str) p ≤ 1100 ∧ V sl2Any [.p 0 0 0] [curO c] = some ([some (curO c')], .one (.own (.sl .str p))) := by
  rw [V_eq (fn := sl2Any_m) (by kernel_rfl)]
  obtain ⟨c1, p1, h1, ⟨l1, z1⟩, e1⟩ := sl2Draw_x c h
  obtain ⟨c2, b2, h2, ⟨u1, u2⟩, e2⟩ := sl1Below_x c1 h1 8
  have hm : ∀ m : Nat, (m + 1) * 16 ≤ 140737488355328 ↔ m ≤ 8796093022207 := by omega
  by_cases hb0 : b2 = 0
  · subst hb0
    obtain ⟨c3, s, h3, hs, e3⟩ := sl1Str_x c2 h2 [[], [46], [46, 46], [97, 47, 98], [110, 105, 110, 101, 98, 121, 116, 101, 115], [31], [101, 105, 103, 104, 116, 98, 121, 56]] (by simp) (by simp)
    have hs' : s.length ≤ 100 := (by decide : ∀ s ∈ ([[], [46], [46, 46], [97, 47, 98], [110, 105, 110, 101, 98, 121, 116, 101, 115], [31], [101, 105, 103, 104, 116, 98, 121, 56]] : List (List UInt8)), s.length ≤ 100) s hs
    refine ⟨c3, p1 ++ [s], h3, by rw [szT_snoc, szT_str]; omega, ?_⟩
    simp -implicitDefEqProofs [sl2Any_m, e1, e2, e3]
    exact ⟨by omega, take_snoc_all rfl⟩
  by_cases hb1 : b2 = 1
  · subst hb1
    obtain ⟨e, σ', L, c3, p, h3, h4, rfl, rfl⟩ := loop_ex (X := V) (c := sl2Any_l0) (5 - p1.length)
      (fun i σ => ∃ (c : CurT) (p : List (List UInt8)), CurP c ∧ (p.length = p1.length + i ∧ szT (.sl .str) p ≤ 500 + i * 2) ∧ σ = ⟨[(3, .h 67 0 p.length), (0, .p 0 0 0)], [(67, .ls .str false p 0 []), (0, curO c)]⟩)
      (fun e σ => ∃ (c : CurT) (p : List (List UInt8)), CurP c ∧ (szT (.sl .str) p ≤ 1100) ∧ e = .ex 1 ∧ σ = ⟨[(3, .h 67 0 p.length)], [(67, .ls .str false p 0 []), (0, curO c)]⟩)
      (fun i σ hi hI => by
        obtain ⟨c, p, q1, ⟨q2, q3⟩, rfl⟩ := hI
        obtain ⟨c', b, q4, ⟨v1, v2⟩, e3⟩ := sl1Below_x c q1 2
        have hb := v2 (by omega)
        by_cases hc : (p.length : Int) < 4 + b
        · refine .inl ⟨_, ?_, c', p ++ [[113]], q4, ⟨by simp [q2]; omega, by rw [szT_snoc, szT_str]; simp; omega⟩, rfl⟩
          simp -implicitDefEqProofs [sl2Any_l0, e3, hc, (wrI (by omega) (by omega) : IntKind.i64.wrap (4 + b) = 4 + b)]
          omega
        · refine .inr ⟨.ex 1, _, by simp, ?_, c', p, q4, by omega, rfl, rfl⟩
          simp -implicitDefEqProofs [sl2Any_l0, e3, hc, (wrI (by omega) (by omega) : IntKind.i64.wrap (4 + b) = 4 + b)])
      (fun σ hI => by
        obtain ⟨c, p, q1, ⟨q2, q3⟩, rfl⟩ := hI
        obtain ⟨c', b, q4, ⟨v1, v2⟩, e3⟩ := sl1Below_x c q1 2
        have hb := v2 (by omega)
        have hc : ¬ (p.length : Int) < 4 + b := by omega
        refine ⟨.ex 1, _, by simp, ?_, c', p, q4, by omega, rfl, rfl⟩
        simp -implicitDefEqProofs [sl2Any_l0, e3, hc, (wrI (by omega) (by omega) : IntKind.i64.wrap (4 + b) = 4 + b)])
      ⟨[(3, .h 67 0 p1.length), (0, .p 0 0 0)], [(67, .ls .str false p1 0 []), (0, curO c2)]⟩ ⟨c2, p1, h2, ⟨rfl, by omega⟩, rfl⟩
    exact ⟨c3, p, h3, h4, by simp -implicitDefEqProofs [sl2Any_m, e1, e2, L]⟩
  · exact ⟨c2, p1, h2, by omega, by simp -implicitDefEqProofs [sl2Any_m, e1, e2, hb0, hb1]⟩
theorem sl10OneProp_x (c : CurT) (h : CurP c) : ∃ (c' : CurT) (p : PropD), CurP c' ∧ szP p ≤ 300 ∧ V sl10OneProp [.p 0 0 0] [curO c] = some ([some (curO c')], .agg [.fz (.s p.1), .fz (.s p.2.1), .fz (.s p.2.2)]) := by
  rw [V_eq (fn := sl10OneProp_m) (by kernel_rfl)]
  obtain ⟨c1, s1, h1, hs1, e1⟩ := sl1Str_x c h [[68, 65, 86, 58], [117, 58, 120], []] (by simp) (by simp)
  obtain ⟨c2, s2, h2, hs2, e2⟩ := sl1Str_x c1 h1 [[97], [99, 111, 108, 111, 114], [98]] (by simp) (by simp)
  obtain ⟨c3, s3, h3, hs3, e3⟩ := sl1Str_x c2 h2 [[], [114, 101, 100], [97, 60, 98]] (by simp) (by simp)
  have q1 := (by decide : ∀ s ∈ ([[68, 65, 86, 58], [117, 58, 120], []] : List (List UInt8)), s.length ≤ 100) s1 hs1
  have q2 := (by decide : ∀ s ∈ ([[97], [99, 111, 108, 111, 114], [98]] : List (List UInt8)), s.length ≤ 100) s2 hs2
  have q3 := (by decide : ∀ s ∈ ([[], [114, 101, 100], [97, 60, 98]] : List (List UInt8)), s.length ≤ 100) s3 hs3
  exact ⟨c3, (s1, s2, s3), h3, by simp only [szP]; omega, by simp -implicitDefEqProofs [sl10OneProp_m, e1, e2, e3]⟩
theorem setPropsB_sz (l : List PropD) (xs : List SetD) : szT (.sl TProp) (setPropsB l xs).1 ≤ szT (.sl TProp) l + szT (.sl TSet) xs := by
  unfold setPropsB
  cases h : goM setF l xs with
  | none => simp only; omega
  | some n =>
    simp only
    split
    · exact goM_sz l xs l n h
    · show szT (.sl TProp) l ≤ _; omega
theorem sl10Props_x (c : CurT) (h : CurP c) : ∃ (c' : CurT) (p : List PropD), CurP c' ∧ szT (.sl TProp) p ≤ 1000 ∧ V sl10Props [.p 0 0 0] [curO c] = some ([some (curO c')], .one (.own (.sl TProp p))) := by
  rw [V_eq (fn := sl10Props_m) (by kernel_rfl)]
  obtain ⟨c1, b1, h1, ⟨u1, u2⟩, e1⟩ := sl1Below_x c h 3
  obtain ⟨k, rfl⟩ := Int.eq_ofNat_of_zero_le u1
  have hk : k < 3 := by have := u2 (by omega); omega
  obtain ⟨e, σ', L, c2, p, h2, h3, rfl, rfl⟩ := loop_ex (X := V) (c := sl10Props_l0) k
    (fun i σ => ∃ (c : CurT) (p : List PropD), CurP c ∧ (szT (.sl TProp) p ≤ i * 302) ∧ σ = ⟨[(4, i6 ((k : Int) - i)), (3, .h 67 0 p.length), (0, .p 0 0 0)], [(67, .ls TProp false p 0 []), (0, curO c)]⟩)
    (fun e σ => ∃ (c : CurT) (p : List PropD), CurP c ∧ (szT (.sl TProp) p ≤ 1000) ∧ e = .ex 0 ∧ σ = ⟨[(3, .h 67 0 p.length)], [(67, .ls TProp false p 0 []), (0, curO c)]⟩)
    (fun i σ hi hI => by
      obtain ⟨c, p, h1, h3, rfl⟩ := hI
      obtain ⟨c', x, h4, h5, e2⟩ := sl10OneProp_x c h1
      have hs : szT (.sl TSet) [(false, x)] ≤ 301 := by
        have := szT_snoc (t := TSet) [] (false, x)
        rw [List.nil_append] at this
        rw [this, szT_nil, szSet]; simp only; omega
      have hq := setPropsB_sz p [(false, x)]
      have e3 := sSetProps_ok p [(false, x)] (by omega) (by omega)
      refine .inl ⟨_, ?_, c', (setPropsB p [(false, x)]).1, h4, by omega, rfl⟩
      generalize setPropsB p [(false, x)] = r at e3 ⊢
      simp -implicitDefEqProofs [sl10Props_l0, e2, e3, (eq_true (by omega) : ((i : Int) < (k : Int)) = True), (wrI (by omega) (by omega) : IntKind.i64.wrap ((k : Int) - i - 1) = (k : Int) - i - 1)]
      omega)
    (fun σ hI => by
      obtain ⟨c, p, h1, h3, rfl⟩ := hI
      refine ⟨.ex 0, _, by simp, ?_, c, p, h1, by omega, rfl, rfl⟩
      simp -implicitDefEqProofs [sl10Props_l0])
    ⟨[(4, i6 k), (3, .h 67 0 0), (0, .p 0 0 0)], [(67, .ls TProp false [] 0 []), (0, curO c1)]⟩ ⟨c1, [], h1, by rw [szT_nil]; omega, by simp⟩
  exact ⟨c2, p, h2, h3, by simp -implicitDefEqProofs [sl10Props_m, e1, L]⟩
end Go.Proofs.YtfklggpopffkjaaGreatK
