/- What the functions come to. -/
import Derived.Test.YtniakiefibpgmaaGreatDoorF13
set_option linter.unusedVariables false
set_option linter.unusedSimpArgs false
namespace Go.Proofs.YtniakiefibpgmaaGreatDoorK
open Go.RowKit
abbrev CurT := T.den Tl1Cur
abbrev curO (c : CurT) : Ob := .ls Tl1Cur true [c] 0 []
def CurP (c : CurT) : Prop := ∃ k : Nat, c.2.1 = (k : Int) ∧ k ≤ c.1.length ∧ c.1.length ≤ 1048576
theorem and255 (n : Nat) : 0 ≤ IntKind.i64.wrap ((n &&& 255 % 2 ^ IntKind.i64.bits : Nat) : Int) ∧ IntKind.i64.wrap ((n &&& 255 % 2 ^ IntKind.i64.bits : Nat) : Int) ≤ 255 := by
  rw [show 255 % 2 ^ IntKind.i64.bits = 255 from rfl]
  have := @Nat.and_le_right n 255
  rw [wrI (by omega) (by omega)]
  omega
theorem sl1Byte_x (c : CurT) (h : CurP c) : ∃ c' b, CurP c' ∧ (0 ≤ b ∧ b ≤ 255) ∧ V sl1Byte [.p 0 0 0] [curO c] = some ([some (curO c')], .one (.fz (.i .i64 b))) := by
  obtain ⟨l, pos, seed⟩ := c
  obtain ⟨k, h1, h2, h3⟩ := h
  simp only at h1 h2 h3
  subst h1
  rw [V_eq (fn := sl1Byte_m) (by kernel_rfl)]
  by_cases hp : k < l.length
  · have hx : ∃ (s' b : Int), (entered sl1Byte_m [.p 0 0 0] [curO (l, (k : Int), seed)]).bind (runV sl1Byte_m 1) = some ([some (curO (l, (k : Int) + 1, s'))], .one (.fz (.i .i64 b))) ∧ (0 ≤ b ∧ b ≤ 255) := by
      simp -implicitDefEqProofs [sl1Byte_m, hp, get_some hp, wrap_succ hp (by omega)]
      exact ⟨_, _, ⟨rfl, rfl⟩, and255 _⟩
    obtain ⟨s', b, e, hb⟩ := hx
    exact ⟨(l, (k : Int) + 1, s'), b, ⟨k + 1, rfl, hp, h3⟩, hb, e⟩
  · have hx : ∃ (s' b : Int), (entered sl1Byte_m [.p 0 0 0] [curO (l, (k : Int), seed)]).bind (runV sl1Byte_m 1) = some ([some (curO (l, (k : Int), s'))], .one (.fz (.i .i64 b))) ∧ (0 ≤ b ∧ b ≤ 255) := by
      simp -implicitDefEqProofs [sl1Byte_m, hp]
      exact ⟨_, _, ⟨rfl, rfl⟩, and255 _⟩
    obtain ⟨s', b, e, hb⟩ := hx
    exact ⟨(l, (k : Int), s'), b, ⟨k, rfl, h2, h3⟩, hb, e⟩
theorem sl1Below_x (c : CurT) (h : CurP c) (n : Int) : ∃ c' b, CurP c' ∧ (0 ≤ b ∧ (0 < n → b < n)) ∧ V sl1Below [.p 0 0 0, i6 n] [curO c] = some ([some (curO c')], .one (.fz (.i .i64 b))) := by
  rw [V_eq (fn := sl1Below_m) (by kernel_rfl)]
  by_cases h0 : n ≤ 0
  · exact ⟨c, 0, h, ⟨by omega, by omega⟩, by simp -implicitDefEqProofs [sl1Below_m, h0]⟩
  by_cases h1 : n ≤ 256
  · obtain ⟨o1, b1, c1, ⟨u1, u2⟩, e1⟩ := sl1Byte_x c h
    refine ⟨o1, b1.tmod n, c1, ?_, ?_⟩
    · rw [Int.tmod_eq_emod_of_nonneg u1]
      have q1 := Int.emod_nonneg b1 (show n ≠ 0 by omega)
      have q2 := Int.emod_lt_of_pos b1 (show 0 < n by omega)
      omega
    · simp -implicitDefEqProofs [sl1Below_m, h0, h1, e1]
      omega
  · obtain ⟨o1, b1, c1, ⟨u1, u2⟩, e1⟩ := sl1Byte_x c h
    obtain ⟨o2, b2, c2, ⟨v1, v2⟩, e2⟩ := sl1Byte_x o1 c1
    obtain ⟨o3, b3, c3, ⟨w1, w2⟩, e3⟩ := sl1Byte_x o2 c2
    refine ⟨o3, (b1 * 65536 + b2 * 256 + b3).tmod n, c3, ?_, ?_⟩
    · rw [Int.tmod_eq_emod_of_nonneg (by omega)]
      have q1 := Int.emod_nonneg (b1 * 65536 + b2 * 256 + b3) (show n ≠ 0 by omega)
      have q2 := Int.emod_lt_of_pos (b1 * 65536 + b2 * 256 + b3) (show 0 < n by omega)
      exact ⟨q1, fun _ => q2⟩
    · simp -implicitDefEqProofs [sl1Below_m, h0, h1, e1, e2, e3, (wrI (by omega) (by omega) : IntKind.i64.wrap (b1 * 65536) = b1 * 65536), (wrI (by omega) (by omega) : IntKind.i64.wrap (b2 * 256) = b2 * 256), (wrI (by omega) (by omega) : IntKind.i64.wrap (b1 * 65536 + b2 * 256) = b1 * 65536 + b2 * 256), (wrI (by omega) (by omega) : IntKind.i64.wrap (b1 * 65536 + b2 * 256 + b3) = b1 * 65536 + b2 * 256 + b3)]
      omega
theorem sl1Str_x (c : CurT) (h : CurP c) (l : List (List UInt8)) (hl : 0 < l.length) (hl2 : l.length ≤ 1000000) : ∃ c' s, CurP c' ∧ s ∈ l ∧ V sl1Str [.p 0 0 0, .d (.sl .str l)] [curO c] = some ([some (curO c')], .one (.fz (.s s))) := by
  rw [V_eq (fn := sl1Str_m) (by kernel_rfl)]
  obtain ⟨o1, b1, c1, ⟨u1, u2⟩, e1⟩ := sl1Below_x c h l.length
  obtain ⟨k, rfl⟩ := Int.eq_ofNat_of_zero_le u1
  have hk : k < l.length := by have := u2 (by omega); omega
  exact ⟨o1, l[k], c1, List.getElem_mem hk, by simp -implicitDefEqProofs [sl1Str_m, e1, hk, get_some hk]⟩
theorem sl1Int_x (c : CurT) (h : CurP c) (l : List Int) (hl : 0 < l.length) (hl2 : l.length ≤ 1000000) : ∃ c' s, CurP c' ∧ s ∈ l ∧ V sl1Int [.p 0 0 0, .d (.sl (.int .i64) l)] [curO c] = some ([some (curO c')], .one (.fz (.i .i64 s))) := by
  rw [V_eq (fn := sl1Int_m) (by kernel_rfl)]
  obtain ⟨o1, b1, c1, ⟨u1, u2⟩, e1⟩ := sl1Below_x c h l.length
  obtain ⟨k, rfl⟩ := Int.eq_ofNat_of_zero_le u1
  have hk : k < l.length := by have := u2 (by omega); omega
  exact ⟨o1, l[k], c1, List.getElem_mem hk, by simp -implicitDefEqProofs [sl1Int_m, e1, hk, get_some hk]⟩
theorem sl1New_x (l : List UInt8) (h : l.length ≤ 1048576) : ∃ c, CurP c ∧ V sl1New [.d (.sl .u8 l)] [] = some ([], .one (.bx Tl1Cur true c)) := by
  rw [V_eq (fn := sl1New_m) (by kernel_rfl)]
  have L : ∃ s : Int, DL V (.loop sl1New_l0) ⟨[(4, i6 0), (3, i6 (774774 + l.length)), (0, .d (.sl .u8 l))], []⟩ = some (.ex 0, ⟨[(3, i6 s), (0, .d (.sl .u8 l))], []⟩) := by
    obtain ⟨e, σ', h1, s, rfl, rfl⟩ := loop_ex (X := V) (c := sl1New_l0) (min l.length 4000) (fun i σ => ∃ s : Int, σ = ⟨[(4, i6 i), (3, i6 s), (0, .d (.sl .u8 l))], []⟩) (fun e σ => ∃ s : Int, e = .ex 0 ∧ σ = ⟨[(3, i6 s), (0, .d (.sl .u8 l))], []⟩)
      (fun i σ hi hI => by
        obtain ⟨s, rfl⟩ := hI
        have h1 : i < l.length := by omega
        left
        simp -implicitDefEqProofs [sl1New_l0, h1, get_some h1, (eq_true (by omega) : ((i : Int) < 4000) = True), wrap_succ h1 (by omega)]
        done)
      (fun σ hI => by
        obtain ⟨s, rfl⟩ := hI
        by_cases h1 : l.length ≤ 4000
        · rw [Nat.min_eq_left h1]
          refine ⟨.ex 0, _, by simp, ?_, s, rfl, rfl⟩
          simp -implicitDefEqProofs [sl1New_l0]
        · rw [Nat.min_eq_right (by omega)]
          refine ⟨.ex 0, _, by simp, ?_, s, rfl, rfl⟩
          simp -implicitDefEqProofs [sl1New_l0, (eq_true (by omega) : ((4000 : Int) < (l.length : Int)) = True)])
      _ ⟨_, rfl⟩
    exact ⟨s, h1⟩
  obtain ⟨s, L⟩ := L
  refine ⟨(l, 0, s), ⟨0, rfl, Nat.zero_le _, h⟩, ?_⟩
  simp -implicitDefEqProofs [sl1New_m, L, (wrI (by omega) (by omega) : IntKind.i64.wrap (774774 + (l.length : Int)) = 774774 + l.length)]
  rfl
theorem wbig_ok (l : List UInt8) : V wbig [.d (.sl .u8 l)] [] = rB (decide (1048576 < l.length)) := by
  rw [V_eq (fn := wbig_m) (by kernel_rfl)]
  by_cases hb : 1048576 < l.length
  · simp -implicitDefEqProofs [wbig_m, hb, (eq_true (by omega) : ((1048576 : Int) < (l.length : Int)) = True)]
  · simp -implicitDefEqProofs [wbig_m, hb, (eq_false (by omega) : ((1048576 : Int) < (l.length : Int)) = False)]
end Go.Proofs.YtniakiefibpgmaaGreatDoorK
