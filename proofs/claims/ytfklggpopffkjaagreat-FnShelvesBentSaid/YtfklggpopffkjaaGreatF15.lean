/- What the functions come to. -/
import Derived.Test.YtfklggpopffkjaaGreatF14
set_option linter.unusedVariables false
set_option linter.unusedSimpArgs false
namespace Go.Proofs.YtfklggpopffkjaaGreatK
open Go.RowKit
theorem sl10Path_x (c : CurT) (h : CurP c) (t : TreeD) (ht : szT (.sl TRes) t ≤ 1000000000) : ∃ (c' : CurT) (p : List (List UInt8)), CurP c' ∧ szT (.sl .str) p ≤ szT (.sl TRes) t + 600 ∧ V sl10Path [.p 0 0 0, .h 1 0 t.length] [curO c, .ls TRes false t 0 []] = some ([some (curO c'), some (.ls TRes false t 0 [])], .one (.own (.sl .str p))) := by
  rw [V_eq (fn := sl10Path_m) (by kernel_rfl)]
  have hn := szLen (t := TRes) (l := t)
  by_cases h0 : t = []
  · subst h0
    obtain ⟨c1, p, h1, ⟨_, h2⟩, e1⟩ := sl2Draw_x c h
    exact ⟨c1, p, h1, by omega, by simp -implicitDefEqProofs [sl10Path_m, e1]⟩
  have hp : 0 < t.length := List.length_pos_iff.2 h0
  have hp' : ((0 : Int) < (t.length : Int)) = True := eq_true (by omega)
  obtain ⟨c1, b, h1, e1⟩ := sl1Once_x c h 3
  cases b with
  | true =>
    obtain ⟨c2, p, h2, ⟨_, h3⟩, e2⟩ := sl2Draw_x c1 h1
    exact ⟨c2, p, h2, by omega, by simp -implicitDefEqProofs [sl10Path_m, hp, hp', e1, e2]⟩
  | false =>
    obtain ⟨c2, b2, h2, ⟨u1, u2⟩, e2⟩ := sl1Below_x c1 h1 t.length
    obtain ⟨k, rfl⟩ := Int.eq_ofNat_of_zero_le u1
    have hk : k < t.length := by have := u2 (by omega); omega
    have hg := szG (t := TRes) hk
    rw [szRes] at hg
    have hl := szLen (t := .str) (l := t[k].1)
    obtain ⟨c3, b3, h3, e3⟩ := sl1Once_x c2 h2 3
    cases b3 with
    | true =>
      obtain ⟨c4, s, h4, hs, e4⟩ := sl2Name_x c3 h3
      refine ⟨c4, t[k].1 ++ [s], h4, by rw [szT_snoc, szT_str]; omega, ?_⟩
      simp -implicitDefEqProofs [sl10Path_m, hp, hp', e1, e2, e3, e4, hk, get_some hk]
      exact ⟨by omega, by omega, take_snoc_all rfl⟩
    | false =>
      refine ⟨c3, t[k].1, h3, by omega, ?_⟩
      simp -implicitDefEqProofs [sl10Path_m, hp, hp', e1, e2, e3, hk, get_some hk]
      omega
def grow : Nat → Nat
  | 0 => 0
  | n + 1 => 3 * grow n + 2000
theorem grow_le : ∀ i, i < 11 → grow i ≤ 59048000 := by decide
theorem szSetAt {t : T} (x : t.den) : ∀ (l : List t.den) (i : Nat), szT (.sl t) (l.set i x) ≤ szT (.sl t) l + szT t x
  | [], i => by simp
  | y :: l, 0 => by
    rw [List.set_cons_zero, szT_slE, szT_slE]
    have e1 : szL t (x :: l) = szT t x + szL t l := by simp [szL]
    have e2 : szL t (y :: l) = szT t y + szL t l := by simp [szL]
    simp only [List.length_cons]; omega
  | y :: l, i + 1 => by
    have ih := szSetAt x l i
    rw [szT_slE, szT_slE] at ih
    rw [List.set_cons_succ, szT_slE, szT_slE]
    have e1 : szL t (y :: l.set i x) = szT t y + szL t (l.set i x) := by simp [szL]
    have e2 : szL t (y :: l) = szT t y + szL t l := by simp [szL]
    simp only [List.length_cons] at ih ⊢
    omega
theorem szSetEq {t : T} (x : t.den) : ∀ (l : List t.den) (i : Nat) (h : i < l.length), szT (.sl t) (l.set i x) + szT t l[i] = szT (.sl t) l + szT t x
  | [], i, h => by simp at h
  | y :: l, 0, h => by
    rw [List.set_cons_zero, szT_slE, szT_slE]
    have e1 : szL t (x :: l) = szT t x + szL t l := by simp [szL]
    have e2 : szL t (y :: l) = szT t y + szL t l := by simp [szL]
    simp only [List.length_cons, List.getElem_cons_zero]; omega
  | y :: l, i + 1, h => by
    have ih := szSetEq x l i (by simpa using h)
    rw [szT_slE, szT_slE] at ih
    rw [List.set_cons_succ, szT_slE, szT_slE]
    have e1 : szL t (y :: l.set i x) = szT t y + szL t (l.set i x) := by simp [szL]
    have e2 : szL t (y :: l) = szT t y + szL t l := by simp [szL]
    simp only [List.length_cons, List.getElem_cons_succ] at ih ⊢
    omega
theorem szNoRes : szT (.sl TRes) ([] : TreeD) = 0 := szT_nil
theorem makeCollB_sz (t : TreeD) (p : PathD) (n : Int) : szT (.sl TRes) (makeCollB t p n).1 ≤ szT (.sl TRes) t + szT (.sl .str) p + 1 := by
  unfold makeCollB
  split
  · simp only; omega
  · have := putInB_sz t (p, true, [], n, [])
    rw [szRes] at this
    simp only [List.length_nil] at this ⊢
    rw [szNoProp] at this
    omega
theorem putFileB_sz (t : TreeD) (p : PathD) (s : List UInt8) (n : Int) : szT (.sl TRes) (putFileB t p s n).1 ≤ 2 * szT (.sl TRes) t + szT (.sl .str) p + s.length + 1 := by
  have h0 := putInB_sz t (p, false, s, n, [])
  rw [szRes] at h0
  simp only at h0
  rw [szNoProp] at h0
  unfold putFileB
  split
  · simp only; omega
  · split
    · simp only; omega
    · rename_i i hf
      have hi := (List.findIdx?_eq_some_iff_getElem.1 hf).1
      have hg := szG (t := TRes) hi
      rw [szRes] at hg
      have h1 := putInB_sz t (p, false, s, n, t[i].2.2.2.2)
      rw [szRes] at h1
      simp only [get_some hi] at h1 ⊢
      omega
set_option maxRecDepth 100000 in
set_option maxHeartbeats 2000000 in
theorem sl10Draw_x (c : CurT) (h : CurP c) : ∃ (c' : CurT) (t : TreeD), CurP c' ∧ szT (.sl TRes) t ≤ 59048000 ∧ V sl10Draw [.p 0 0 0] [curO c] = some ([some (curO c')], .one (.own (.sl TRes t))) := by
  rw [V_eq (fn := sl10Draw_m) (by kernel_rfl)]
  obtain ⟨c1, b1, h1, ⟨u1, u2⟩, e1⟩ := sl1Below_x c h 10
  obtain ⟨k, rfl⟩ := Int.eq_ofNat_of_zero_le u1
  have hk : k < 10 := by have := u2 (by omega); omega
  obtain ⟨e, σ', L, c2, p, h2, h3, rfl, rfl⟩ := loop_ex (X := V) (c := sl10Draw_l0) k
    (fun i σ => ∃ (c : CurT) (t : TreeD), CurP c ∧ (szT (.sl TRes) t ≤ grow i) ∧ σ = ⟨[(4, i6 ((k : Int) - i)), (3, .h 67 0 t.length), (0, .p 0 0 0)], [(67, .ls TRes false t 0 []), (0, curO c)]⟩)
    (fun e σ => ∃ (c : CurT) (t : TreeD), CurP c ∧ (szT (.sl TRes) t ≤ 59048000) ∧ e = .ex 0 ∧ σ = ⟨[(3, .h 67 0 t.length)], [(67, .ls TRes false t 0 []), (0, curO c)]⟩)
    (fun i σ hi hI => by
      obtain ⟨c, t, h1, h3, rfl⟩ := hI
      have hgr := grow_le i (by omega)
      have hgs : grow (i + 1) = 3 * grow i + 2000 := rfl
      have q1 : ((i : Int) < (k : Int)) = True := eq_true (by omega)
      have q2 : IntKind.i64.wrap ((k : Int) - i - 1) = (k : Int) - i - 1 := wrI (by omega) (by omega)
      obtain ⟨c2, p, h4, h5, e2⟩ := sl10Path_x c h1 t (by omega)
      obtain ⟨c3, b, h6, e3⟩ := sl1Once_x c2 h4 2
      cases b with
      | true =>
        obtain ⟨c4, n, hc4, _, e4⟩ := sl1Below_x c3 h6 9
        have e5 := sMakeColl_ok t p n (by omega) (by omega)
        have hb := makeCollB_sz t p n
        generalize makeCollB t p n = r at e5 hb
        obtain ⟨t1, x1⟩ := r
        simp only at hb
        have hb' : szT (.sl TRes) t1 ≤ 3 * grow i + 800 := by omega
        have hl := szLen (t := TRes) (l := t1)
        by_cases h0 : t1 = []
        · subst h0
          refine .inl ⟨_, ?_, c4, [], hc4, by rw [szNoRes]; exact Nat.zero_le _, rfl⟩
          simp -implicitDefEqProofs [sl10Draw_l0, q1, q2, e2, e3, e4, e5]
          omega
        have hp : 0 < t1.length := List.length_pos_iff.2 h0
        have hp' : ((0 : Int) < (t1.length : Int)) = True := eq_true (by omega)
        obtain ⟨c5, b2, hc5, f1⟩ := sl1Once_x c4 hc4 3
        cases b2 with
        | false =>
          refine .inl ⟨_, ?_, c5, t1, hc5, by omega, rfl⟩
          simp -implicitDefEqProofs [sl10Draw_l0, q1, q2, hp, hp', f1, e2, e3, e4, e5]
          omega
        | true =>
          obtain ⟨c6, b3, hc6, ⟨w1, w2⟩, f2⟩ := sl1Below_x c5 hc5 t1.length
          obtain ⟨m, rfl⟩ := Int.eq_ofNat_of_zero_le w1
          have hm : m < t1.length := by have := w2 (by omega); omega
          obtain ⟨c7, ps, hc7, hps, f3⟩ := sl10Props_x c6 hc6
          have hz := szSetEq (t := TRes) (withP t1[m] ps) t1 m hm
          have hzr := szRes (withP t1[m] ps)
          have hzg := szG (t := TRes) hm
          have hzq := szRes t1[m]
          simp only [withP] at hz hzr
          refine .inl ⟨_, ?_, c7, t1.set m (withP t1[m] ps), hc7, ?_, rfl⟩
          · simp -implicitDefEqProofs [sl10Draw_l0, q1, q2, hp, hp', f1, f2, f3, hm, get_some hm, withP, e2, e3, e4, e5]
            omega
          · simp only [withP]; omega
      | false =>
        obtain ⟨c4', s, hc4', hs, e4⟩ := sl1Str_x c3 h6 [[], [120], [104, 101, 108, 108, 111]] (by simp) (by simp)
        have hs' : s.length ≤ 100 := (by decide : ∀ s ∈ ([[], [120], [104, 101, 108, 108, 111]] : List (List UInt8)), s.length ≤ 100) s hs
        obtain ⟨c4, n, hc4, _, e4'⟩ := sl1Below_x c4' hc4' 9
        have e5 := sPutFile_ok t p s n (by omega) (by omega) (by omega)
        have hb := putFileB_sz t p s n
        generalize putFileB t p s n = r at e5 hb
        obtain ⟨t1, x1⟩ := r
        simp only at hb
        have hb' : szT (.sl TRes) t1 ≤ 3 * grow i + 800 := by omega
        have hl := szLen (t := TRes) (l := t1)
        by_cases h0 : t1 = []
        · subst h0
          refine .inl ⟨_, ?_, c4, [], hc4, by rw [szNoRes]; exact Nat.zero_le _, rfl⟩
          simp -implicitDefEqProofs [sl10Draw_l0, q1, q2, e2, e3, e4, e4', e5]
          omega
        have hp : 0 < t1.length := List.length_pos_iff.2 h0
        have hp' : ((0 : Int) < (t1.length : Int)) = True := eq_true (by omega)
        obtain ⟨c5, b2, hc5, f1⟩ := sl1Once_x c4 hc4 3
        cases b2 with
        | false =>
          refine .inl ⟨_, ?_, c5, t1, hc5, by omega, rfl⟩
          simp -implicitDefEqProofs [sl10Draw_l0, q1, q2, hp, hp', f1, e2, e3, e4, e4', e5]
          omega
        | true =>
          obtain ⟨c6, b3, hc6, ⟨w1, w2⟩, f2⟩ := sl1Below_x c5 hc5 t1.length
          obtain ⟨m, rfl⟩ := Int.eq_ofNat_of_zero_le w1
          have hm : m < t1.length := by have := w2 (by omega); omega
          obtain ⟨c7, ps, hc7, hps, f3⟩ := sl10Props_x c6 hc6
          have hz := szSetEq (t := TRes) (withP t1[m] ps) t1 m hm
          have hzr := szRes (withP t1[m] ps)
          have hzg := szG (t := TRes) hm
          have hzq := szRes t1[m]
          simp only [withP] at hz hzr
          refine .inl ⟨_, ?_, c7, t1.set m (withP t1[m] ps), hc7, ?_, rfl⟩
          · simp -implicitDefEqProofs [sl10Draw_l0, q1, q2, hp, hp', f1, f2, f3, hm, get_some hm, withP, e2, e3, e4, e4', e5]
            omega
          · simp only [withP]; omega)
    (fun σ hI => by
      obtain ⟨c, p, h1, h3, rfl⟩ := hI
      have hgr := grow_le k (by omega)
      refine ⟨.ex 0, _, by simp, ?_, c, p, h1, by omega, rfl, rfl⟩
      simp -implicitDefEqProofs [sl10Draw_l0])
    ⟨[(4, i6 k), (3, .h 67 0 0), (0, .p 0 0 0)], [(67, .ls TRes false [] 0 []), (0, curO c1)]⟩ ⟨c1, [], h1, by rw [szT_nil]; exact Nat.zero_le _, by simp⟩
  exact ⟨c2, p, h2, h3, by simp -implicitDefEqProofs [sl10Draw_m, e1, L]⟩
end Go.Proofs.YtfklggpopffkjaaGreatK
