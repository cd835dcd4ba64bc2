/- What the functions come to. -/
import Derived.Test.YtfklggpopffkjaaGreatDoorF14
set_option linter.unusedVariables false
set_option linter.unusedSimpArgs false
namespace Go.Proofs.YtfklggpopffkjaaGreatDoorK
open Go.RowKit
theorem wtoStringS_l (l : List (T.den .str)) (h1 : l.length ≤ 1048576) (hz : ∀ x ∈ l, szT .str x ≤ 1048576) : ∀ post pre : List (T.den .str), l = pre ++ post →
    DL V (.loop wtoStringS_l0) ⟨[(4, .d (.i .i64 pre.length)), (3, .h 71 0 l.length), (0, .d (.sl .str l))], [(71, .ls .str false (pre ++ List.replicate post.length (T.zero .str)) 0 [])]⟩ = some (.ex 0, ⟨[(3, .h 71 0 l.length)], [(71, .ls .str false l 0 [])]⟩)
  | [], pre, hl => by
    rw [DL_loop]
    have : l = pre := by simpa using hl
    subst this
    simp -implicitDefEqProofs [wtoStringS_l0]
  | c0 :: post, pre, hl => by
    have ih := wtoStringS_l l h1 hz post (pre ++ [c0]) (by simp [hl])
    have hg : l[pre.length]? = some c0 := by rw [hl]; exact mid_get _ _ _
    have hlt : pre.length < l.length := by rw [hl]; simp
    have hg2 : l[pre.length] = c0 := (List.getElem?_eq_some_iff.1 hg).2
    have hw := wrap_succ hlt (by omega)
    simp only [List.append_assoc, List.cons_append, List.nil_append, List.length_append, List.length_cons, List.length_nil, Int.natCast_add, Int.natCast_one, Nat.zero_add, T.zero] at ih
    rw [DL_loop]
    generalize DL V (.loop wtoStringS_l0) = G at ih ⊢
    simp -implicitDefEqProofs [wtoStringS_l0, hg, hg2, hlt, hw, mid_get, mid_set, List.replicate_succ]
    exact ih
theorem wtoStringS_ok (l : List (T.den .str)) (h : szT (.sl .str) l ≤ 1048576) : V wtoStringS [.d (.sl .str l)] [] = some ([], .one (.own (.sl .str l))) := by
  rw [V_eq (fn := wtoStringS_m) (by kernel_rfl)]
  obtain ⟨h1, h2⟩ := szT_sl h
  have e := wtoStringS_l l h1 h2 l [] rfl
  simp only [List.nil_append, List.length_nil, Int.natCast_zero] at e
  have hb : (l.length : Int) * 16 ≤ 140737488355328 := by omega
  simp -implicitDefEqProofs [wtoStringS_m, hb] at e ⊢
  simp -implicitDefEqProofs [e]
theorem wszStringS_l (l : List (T.den .str)) (h1 : l.length ≤ 9223372036854775807) (hb : ∀ x ∈ l, BndT .str x) : ∀ (post pre : List (T.den .str)) (m : Int), l = pre ++ post → 0 ≤ m → m ≤ 1048576 →
    ∃ q : (Ex × St), DL V (.loop wszStringS_l0) ⟨[(5, .d (.i .i64 pre.length)), (1, .d (.i .i64 m)), (0, .d (.sl .str l))], []⟩ = some q ∧ (q = (.ret, ⟨[(4, .d (.i .i64 (-1)))], []⟩) ∨ ∃ r : Int, q = (.ex 0, ⟨[(1, .d (.i .i64 r))], []⟩) ∧ 0 ≤ r ∧ r + (szL .str post : Nat) = m)
  | [], pre, m, hl, h0, hm => by
    rw [DL_loop]
    have : l = pre := by simpa using hl
    subst this
    exact ⟨(.ex 0, ⟨[(1, .d (.i .i64 m))], []⟩), by simp -implicitDefEqProofs [wszStringS_l0], .inr ⟨m, rfl, h0, by simp [szL]⟩⟩
  | c0 :: post, pre, m, hl, h0, hm => by
    have hg : l[pre.length]? = some c0 := by rw [hl]; exact mid_get _ _ _
    have hlt : pre.length < l.length := by rw [hl]; simp
    have hg2 : l[pre.length] = c0 := (List.getElem?_eq_some_iff.1 hg).2
    have hw := wrap_succ hlt h1
    have hw2 : IntKind.i64.wrap (m - (c0.length : Int)) = m - (c0.length : Int) := wrap_id (by have : c0.length ≤ 9223372036854775807 := hb c0 (by rw [hl]; simp); omega) (by omega)
    obtain ⟨r, e1, q⟩ : ∃ r : Int, m - (c0.length : Int) = r ∧ (r < 0 ∨ (0 ≤ r ∧ r + (szT .str c0 : Nat) = m)) := ⟨_, rfl, by simp only [szT]; omega⟩
    rw [e1] at hw2
    have hw3 : IntKind.i64.wrap r = r := hw2
    rw [DL_loop]
    by_cases c : r < 0
    · exact ⟨(.ret, ⟨[(4, .d (.i .i64 (-1)))], []⟩), by simp -implicitDefEqProofs [wszStringS_l0, hg, hg2, hlt, hw, e1, hw3, c], .inl rfl⟩
    · have q : 0 ≤ r ∧ r + (szT .str c0 : Nat) = m := by omega
      obtain ⟨z, i1, i2⟩ := wszStringS_l l h1 hb post (pre ++ [c0]) r (by simp [hl]) q.1 (by omega)
      simp only [List.length_append, List.length_cons, List.length_nil, Int.natCast_add, Int.natCast_one, Nat.zero_add] at i1
      refine ⟨z, by generalize DL V (.loop wszStringS_l0) = G at i1 ⊢; simp -implicitDefEqProofs [wszStringS_l0, hg, hg2, hlt, hw, e1, hw3, c]; exact i1, ?_⟩
      rcases i2 with i2 | ⟨r', i2, i3, i4⟩
      · exact .inl i2
      · exact .inr ⟨r', i2, i3, by rw [szL_cons]; omega⟩
theorem wszStringS_ok (l : List (T.den .str)) (hb : BndT (.sl .str) l) (m : Int) (h0 : 0 ≤ m) (hm : m ≤ 1048576) : ∃ r : Int, V wszStringS [.d (.sl .str l), .d (.i .i64 m)] [] = some ([], .one (.fz (.i .i64 r))) ∧ Sized r m (szT (.sl .str) l) := by
  rw [V_eq (fn := wszStringS_m) (by kernel_rfl)]
  have h1 : l.length ≤ 9223372036854775807 := hb.1
  have hw : IntKind.i64.wrap (m - (l.length : Int)) = m - (l.length : Int) := wrap_id (by omega) (by omega)
  by_cases c : m - (l.length : Int) < 0
  · exact ⟨-1, by simp -implicitDefEqProofs [wszStringS_m, hw, c], .inl rfl⟩
  · obtain ⟨z, i1, i2⟩ := wszStringS_l l h1 hb.2 l [] (m - (l.length : Int)) rfl (by omega) (by omega)
    simp only [List.length_nil, Int.natCast_zero] at i1
    rcases i2 with i2 | ⟨r, i2, i3, i4⟩
    · rw [i2] at i1; exact ⟨-1, by simp -implicitDefEqProofs [wszStringS_m, hw, c, i1], .inl rfl⟩
    · rw [i2] at i1; exact ⟨r, by simp -implicitDefEqProofs [wszStringS_m, hw, c, i1], .inr ⟨i3, by simp only [szT_slE]; omega⟩⟩
theorem weqStringS_l (l : List (T.den .str)) (h1 : l.length ≤ 9223372036854775807) (hb : ∀ x ∈ l, BndT .str x) : ∀ post pre : List (T.den .str), l = pre ++ post →
    DL V (.loop weqStringS_l0) ⟨[(5, .d (.i .i64 pre.length)), (1, .d (.sl .str l)), (0, .d (.sl .str l))], []⟩ = some (.ex 0, ⟨[], []⟩)
  | [], pre, hl => by
    rw [DL_loop]
    have : l = pre := by simpa using hl
    subst this
    simp -implicitDefEqProofs [weqStringS_l0]
  | c0 :: post, pre, hl => by
    have ih := weqStringS_l l h1 hb post (pre ++ [c0]) (by simp [hl])
    have hg : l[pre.length]? = some c0 := by rw [hl]; exact mid_get _ _ _
    have hlt : pre.length < l.length := by rw [hl]; simp
    have hg2 : l[pre.length] = c0 := (List.getElem?_eq_some_iff.1 hg).2
    have hw := wrap_succ hlt h1
    simp only [List.length_append, List.length_cons, List.length_nil, Int.natCast_add, Int.natCast_one, Nat.zero_add] at ih
    rw [DL_loop]
    generalize DL V (.loop weqStringS_l0) = G at ih ⊢
    simp -implicitDefEqProofs [weqStringS_l0, hg, hg2, hlt, hw]
    exact ih
theorem weqStringS_ok (l : List (T.den .str)) (hb : BndT (.sl .str) l) : V weqStringS [.d (.sl .str l), .d (.sl .str l)] [] = some ([], .one (.fz (.b true))) := by
  rw [V_eq (fn := weqStringS_m) (by kernel_rfl)]
  have e := weqStringS_l l hb.1 hb.2 l [] rfl
  simp only [List.length_nil, Int.natCast_zero] at e
  simp -implicitDefEqProofs [weqStringS_m, e]
theorem wtoProp_ok (c0 : List UInt8) (c1 : List UInt8) (c2 : List UInt8) (h : c0.length + c1.length + c2.length ≤ 1048576) : V wtoProp [.agg [.d (.s c0), .d (.s c1), .d (.s c2)]] [] = some ([], .agg [.fz (.s c0), .fz (.s c1), .fz (.s c2)]) := by
  rw [V_eq (fn := wtoProp_m) (by kernel_rfl)]
  simp -implicitDefEqProofs [wtoProp_m]
theorem weqProp_ok (c0 : List UInt8) (c1 : List UInt8) (c2 : List UInt8) (hb : BndT TProp (c0, (c1, c2))) : V weqProp [.agg [.d (.s c0), .d (.s c1), .d (.s c2)], .agg [.d (.s c0), .d (.s c1), .d (.s c2)]] [] = some ([], .one (.fz (.b true))) := by
  rw [V_eq (fn := weqProp_m) (by kernel_rfl)]
  have hb : BndT .str c0 ∧ BndT .str c1 ∧ BndT .str c2 := hb
  simp -implicitDefEqProofs [weqProp_m]
theorem wszProp_ok (c0 : List UInt8) (c1 : List UInt8) (c2 : List UInt8) (hb : BndT TProp (c0, (c1, c2))) (m : Int) (h0 : 0 ≤ m) (hm : m ≤ 1048576) : ∃ r : Int, V wszProp [.agg [.d (.s c0), .d (.s c1), .d (.s c2)], .d (.i .i64 m)] [] = some ([], .one (.fz (.i .i64 r))) ∧ Sized r m (c0.length + c1.length + c2.length) := by
  rw [V_eq (fn := wszProp_m) (by kernel_rfl)]
  have hb : BndT .str c0 ∧ BndT .str c1 ∧ BndT .str c2 := hb
  obtain ⟨r0, q0⟩ : ∃ r : Int, m - (c0.length : Int) = r := ⟨_, rfl⟩
  have w0 : IntKind.i64.wrap (m - (c0.length : Int)) = r0 := by rw [q0]; exact wrap_id (by have : c0.length ≤ 9223372036854775807 := hb.1; omega) (by omega)
  by_cases c0x : r0 < 0
  · exact ⟨-1, by simp -implicitDefEqProofs [wszProp_m, w0, c0x], .inl rfl⟩
  obtain ⟨r1, q1⟩ : ∃ r : Int, r0 - (c1.length : Int) = r := ⟨_, rfl⟩
  have w1 : IntKind.i64.wrap (r0 - (c1.length : Int)) = r1 := by rw [q1]; exact wrap_id (by have : c1.length ≤ 9223372036854775807 := hb.2.1; omega) (by omega)
  by_cases c1x : r1 < 0
  · exact ⟨-1, by simp -implicitDefEqProofs [wszProp_m, w0, c0x, w1, c1x], .inl rfl⟩
  obtain ⟨r2, q2⟩ : ∃ r : Int, r1 - (c2.length : Int) = r := ⟨_, rfl⟩
  have w2 : IntKind.i64.wrap (r1 - (c2.length : Int)) = r2 := by rw [q2]; exact wrap_id (by have : c2.length ≤ 9223372036854775807 := hb.2.2; omega) (by omega)
  by_cases c2x : r2 < 0
  · exact ⟨-1, by simp -implicitDefEqProofs [wszProp_m, w0, c0x, w1, c1x, w2, c2x], .inl rfl⟩
  exact ⟨r2, by simp -implicitDefEqProofs [wszProp_m, w0, c0x, w1, c1x, w2, c2x], .inr ⟨by omega, by omega⟩⟩
theorem wtoPropS_l (l : List (T.den TProp)) (h1 : l.length ≤ 1048576) (hz : ∀ x ∈ l, szT TProp x ≤ 1048576) : ∀ post pre : List (T.den TProp), l = pre ++ post →
    DL V (.loop wtoPropS_l0) ⟨[(4, .d (.i .i64 pre.length)), (3, .h 71 0 l.length), (0, .d (.sl TProp l))], [(71, .ls TProp false (pre ++ List.replicate post.length (T.zero TProp)) 0 [])]⟩ = some (.ex 0, ⟨[(3, .h 71 0 l.length)], [(71, .ls TProp false l 0 [])]⟩)
  | [], pre, hl => by
    rw [DL_loop]
    have : l = pre := by simpa using hl
    subst this
    simp -implicitDefEqProofs [wtoPropS_l0]
  | (c0, (c1, c2)) :: post, pre, hl => by
    have ih := wtoPropS_l l h1 hz post (pre ++ [(c0, (c1, c2))]) (by simp [hl])
    have hg : l[pre.length]? = some (c0, (c1, c2)) := by rw [hl]; exact mid_get _ _ _
    have hlt : pre.length < l.length := by rw [hl]; simp
    have hg2 : l[pre.length] = (c0, (c1, c2)) := (List.getElem?_eq_some_iff.1 hg).2
    have hw := wrap_succ hlt (by omega)
    have e1 := wtoProp_ok c0 c1 c2 (by have := hz (c0, (c1, c2)) (by rw [hl]; simp); simpa [szT, Nat.add_assoc] using this)
    simp only [List.append_assoc, List.cons_append, List.nil_append, List.length_append, List.length_cons, List.length_nil, Int.natCast_add, Int.natCast_one, Nat.zero_add, T.zero] at ih
    rw [DL_loop]
    generalize DL V (.loop wtoPropS_l0) = G at ih ⊢
    simp -implicitDefEqProofs [wtoPropS_l0, hg, hg2, hlt, hw, mid_get, mid_set, List.replicate_succ, e1]
    exact ih
theorem wtoPropS_ok (l : List (T.den TProp)) (h : szT (.sl TProp) l ≤ 1048576) : V wtoPropS [.d (.sl TProp l)] [] = some ([], .one (.own (.sl TProp l))) := by
  rw [V_eq (fn := wtoPropS_m) (by kernel_rfl)]
  obtain ⟨h1, h2⟩ := szT_sl h
  have e := wtoPropS_l l h1 h2 l [] rfl
  simp only [List.nil_append, List.length_nil, Int.natCast_zero] at e
  have hb : (l.length : Int) * 48 ≤ 140737488355328 := by omega
  simp -implicitDefEqProofs [wtoPropS_m, hb] at e ⊢
  simp -implicitDefEqProofs [e]
theorem wszPropS_l (l : List (T.den TProp)) (h1 : l.length ≤ 9223372036854775807) (hb : ∀ x ∈ l, BndT TProp x) : ∀ (post pre : List (T.den TProp)) (m : Int), l = pre ++ post → 0 ≤ m → m ≤ 1048576 →
    ∃ q : (Ex × St), DL V (.loop wszPropS_l0) ⟨[(5, .d (.i .i64 pre.length)), (1, .d (.i .i64 m)), (0, .d (.sl TProp l))], []⟩ = some q ∧ (q = (.ret, ⟨[(4, .d (.i .i64 (-1)))], []⟩) ∨ ∃ r : Int, q = (.ex 0, ⟨[(1, .d (.i .i64 r))], []⟩) ∧ 0 ≤ r ∧ r + (szL TProp post : Nat) = m)
  | [], pre, m, hl, h0, hm => by
    rw [DL_loop]
    have : l = pre := by simpa using hl
    subst this
    exact ⟨(.ex 0, ⟨[(1, .d (.i .i64 m))], []⟩), by simp -implicitDefEqProofs [wszPropS_l0], .inr ⟨m, rfl, h0, by simp [szL]⟩⟩
  | (c0, (c1, c2)) :: post, pre, m, hl, h0, hm => by
    have hg : l[pre.length]? = some (c0, (c1, c2)) := by rw [hl]; exact mid_get _ _ _
    have hlt : pre.length < l.length := by rw [hl]; simp
    have hg2 : l[pre.length] = (c0, (c1, c2)) := (List.getElem?_eq_some_iff.1 hg).2
    have hw := wrap_succ hlt h1
    obtain ⟨r, e1, q0⟩ := wszProp_ok c0 c1 c2 (hb (c0, (c1, c2)) (by rw [hl]; simp)) m h0 hm
    have q : r < 0 ∨ (0 ≤ r ∧ r + (szT TProp (c0, (c1, c2)) : Nat) = m) := by
      rcases q0 with q | q
      · exact .inl (by omega)
      · exact .inr (by simp only [szT, Nat.add_assoc] at *; simpa [Nat.add_assoc] using q)
    rw [DL_loop]
    by_cases c : r < 0
    · exact ⟨(.ret, ⟨[(4, .d (.i .i64 (-1)))], []⟩), by simp -implicitDefEqProofs [wszPropS_l0, hg, hg2, hlt, hw, e1, c], .inl rfl⟩
    · have q : 0 ≤ r ∧ r + (szT TProp (c0, (c1, c2)) : Nat) = m := by omega
      obtain ⟨z, i1, i2⟩ := wszPropS_l l h1 hb post (pre ++ [(c0, (c1, c2))]) r (by simp [hl]) q.1 (by omega)
      simp only [List.length_append, List.length_cons, List.length_nil, Int.natCast_add, Int.natCast_one, Nat.zero_add] at i1
      refine ⟨z, by generalize DL V (.loop wszPropS_l0) = G at i1 ⊢; simp -implicitDefEqProofs [wszPropS_l0, hg, hg2, hlt, hw, e1, c]; exact i1, ?_⟩
      rcases i2 with i2 | ⟨r', i2, i3, i4⟩
      · exact .inl i2
      · exact .inr ⟨r', i2, i3, by rw [szL_cons]; omega⟩
theorem wszPropS_ok (l : List (T.den TProp)) (hb : BndT (.sl TProp) l) (m : Int) (h0 : 0 ≤ m) (hm : m ≤ 1048576) : ∃ r : Int, V wszPropS [.d (.sl TProp l), .d (.i .i64 m)] [] = some ([], .one (.fz (.i .i64 r))) ∧ Sized r m (szT (.sl TProp) l) := by
  rw [V_eq (fn := wszPropS_m) (by kernel_rfl)]
  have h1 : l.length ≤ 9223372036854775807 := hb.1
  have hw : IntKind.i64.wrap (m - (l.length : Int)) = m - (l.length : Int) := wrap_id (by omega) (by omega)
  by_cases c : m - (l.length : Int) < 0
  · exact ⟨-1, by simp -implicitDefEqProofs [wszPropS_m, hw, c], .inl rfl⟩
  · obtain ⟨z, i1, i2⟩ := wszPropS_l l h1 hb.2 l [] (m - (l.length : Int)) rfl (by omega) (by omega)
    simp only [List.length_nil, Int.natCast_zero] at i1
    rcases i2 with i2 | ⟨r, i2, i3, i4⟩
    · rw [i2] at i1; exact ⟨-1, by simp -implicitDefEqProofs [wszPropS_m, hw, c, i1], .inl rfl⟩
    · rw [i2] at i1; exact ⟨r, by simp -implicitDefEqProofs [wszPropS_m, hw, c, i1], .inr ⟨i3, by simp only [szT_slE]; omega⟩⟩
theorem weqPropS_l (l : List (T.den TProp)) (h1 : l.length ≤ 9223372036854775807) (hb : ∀ x ∈ l, BndT TProp x) : ∀ post pre : List (T.den TProp), l = pre ++ post →
    DL V (.loop weqPropS_l0) ⟨[(5, .d (.i .i64 pre.length)), (1, .d (.sl TProp l)), (0, .d (.sl TProp l))], []⟩ = some (.ex 0, ⟨[], []⟩)
  | [], pre, hl => by
    rw [DL_loop]
    have : l = pre := by simpa using hl
    subst this
    simp -implicitDefEqProofs [weqPropS_l0]
  | (c0, (c1, c2)) :: post, pre, hl => by
    have ih := weqPropS_l l h1 hb post (pre ++ [(c0, (c1, c2))]) (by simp [hl])
    have hg : l[pre.length]? = some (c0, (c1, c2)) := by rw [hl]; exact mid_get _ _ _
    have hlt : pre.length < l.length := by rw [hl]; simp
    have hg2 : l[pre.length] = (c0, (c1, c2)) := (List.getElem?_eq_some_iff.1 hg).2
    have hw := wrap_succ hlt h1
    have e1 := weqProp_ok c0 c1 c2 (hb (c0, (c1, c2)) (by rw [hl]; simp))
    simp only [List.length_append, List.length_cons, List.length_nil, Int.natCast_add, Int.natCast_one, Nat.zero_add] at ih
    rw [DL_loop]
    generalize DL V (.loop weqPropS_l0) = G at ih ⊢
    simp -implicitDefEqProofs [weqPropS_l0, hg, hg2, hlt, hw, e1]
    exact ih
theorem weqPropS_ok (l : List (T.den TProp)) (hb : BndT (.sl TProp) l) : V weqPropS [.d (.sl TProp l), .d (.sl TProp l)] [] = some ([], .one (.fz (.b true))) := by
  rw [V_eq (fn := weqPropS_m) (by kernel_rfl)]
  have e := weqPropS_l l hb.1 hb.2 l [] rfl
  simp only [List.length_nil, Int.natCast_zero] at e
  simp -implicitDefEqProofs [weqPropS_m, e]
theorem wtoRes_ok (c0 : List (T.den .str)) (c1 : Bool) (c2 : List UInt8) (c3 : Int) (c4 : List (T.den TProp)) (h : szT (.sl .str) c0 + c2.length + szT (.sl TProp) c4 ≤ 1048576) : V wtoRes [.agg [.d (.sl .str c0), .d (.b c1), .d (.s c2), .d (.i .i64 c3), .d (.sl TProp c4)]] [] = some ([], .agg [.own (.sl .str c0), .fz (.b c1), .fz (.s c2), .fz (.i .i64 c3), .own (.sl TProp c4)]) := by
  rw [V_eq (fn := wtoRes_m) (by kernel_rfl)]
  have e0 := wtoStringS_ok c0 (by omega)
  have e4 := wtoPropS_ok c4 (by omega)
  simp -implicitDefEqProofs [wtoRes_m, e0, e4]
theorem weqRes_ok (c0 : List (T.den .str)) (c1 : Bool) (c2 : List UInt8) (c3 : Int) (c4 : List (T.den TProp)) (hb : BndT TRes (c0, (c1, (c2, (c3, c4))))) : V weqRes [.agg [.d (.sl .str c0), .d (.b c1), .d (.s c2), .d (.i .i64 c3), .d (.sl TProp c4)], .agg [.d (.sl .str c0), .d (.b c1), .d (.s c2), .d (.i .i64 c3), .d (.sl TProp c4)]] [] = some ([], .one (.fz (.b true))) := by
  rw [V_eq (fn := weqRes_m) (by kernel_rfl)]
  have hb : BndT (.sl .str) c0 ∧ BndT .bool c1 ∧ BndT .str c2 ∧ BndT (.int .i64) c3 ∧ BndT (.sl TProp) c4 := hb
  have e0 := weqStringS_ok c0 hb.1
  have e4 := weqPropS_ok c4 hb.2.2.2.2
  simp -implicitDefEqProofs [weqRes_m, e0, e4]
theorem wszRes_ok (c0 : List (T.den .str)) (c1 : Bool) (c2 : List UInt8) (c3 : Int) (c4 : List (T.den TProp)) (hb : BndT TRes (c0, (c1, (c2, (c3, c4))))) (m : Int) (h0 : 0 ≤ m) (hm : m ≤ 1048576) : ∃ r : Int, V wszRes [.agg [.d (.sl .str c0), .d (.b c1), .d (.s c2), .d (.i .i64 c3), .d (.sl TProp c4)], .d (.i .i64 m)] [] = some ([], .one (.fz (.i .i64 r))) ∧ Sized r m (szT (.sl .str) c0 + c2.length + szT (.sl TProp) c4) := by
  rw [V_eq (fn := wszRes_m) (by kernel_rfl)]
  have hb : BndT (.sl .str) c0 ∧ BndT .bool c1 ∧ BndT .str c2 ∧ BndT (.int .i64) c3 ∧ BndT (.sl TProp) c4 := hb
  obtain ⟨r0, e0, q0⟩ := wszStringS_ok c0 hb.1 m (by omega) (by omega)
  by_cases c0x : r0 < 0
  · exact ⟨-1, by simp -implicitDefEqProofs [wszRes_m, e0, c0x], .inl rfl⟩
  have p0 : 0 ≤ r0 ∧ r0 + (szT (.sl .str) c0 : Nat) = m := by rcases q0 with q | q <;> omega
  obtain ⟨r2, q2⟩ : ∃ r : Int, r0 - (c2.length : Int) = r := ⟨_, rfl⟩
  have w2 : IntKind.i64.wrap (r0 - (c2.length : Int)) = r2 := by rw [q2]; exact wrap_id (by have : c2.length ≤ 9223372036854775807 := hb.2.2.1; omega) (by omega)
  by_cases c2x : r2 < 0
  · exact ⟨-1, by simp -implicitDefEqProofs [wszRes_m, e0, c0x, w2, c2x], .inl rfl⟩
  obtain ⟨r4, e4, q4⟩ := wszPropS_ok c4 hb.2.2.2.2 r2 (by omega) (by omega)
  by_cases c4x : r4 < 0
  · exact ⟨-1, by simp -implicitDefEqProofs [wszRes_m, e0, c0x, w2, c2x, e4, c4x], .inl rfl⟩
  have p4 : 0 ≤ r4 ∧ r4 + (szT (.sl TProp) c4 : Nat) = r2 := by rcases q4 with q | q <;> omega
  exact ⟨r4, by simp -implicitDefEqProofs [wszRes_m, e0, c0x, w2, c2x, e4, c4x], .inr ⟨by omega, by omega⟩⟩
theorem wtoResS_l (l : List (T.den TRes)) (h1 : l.length ≤ 1048576) (hz : ∀ x ∈ l, szT TRes x ≤ 1048576) : ∀ post pre : List (T.den TRes), l = pre ++ post →
    DL V (.loop wtoResS_l0) ⟨[(4, .d (.i .i64 pre.length)), (3, .h 71 0 l.length), (0, .d (.sl TRes l))], [(71, .ls TRes false (pre ++ List.replicate post.length (T.zero TRes)) 0 [])]⟩ = some (.ex 0, ⟨[(3, .h 71 0 l.length)], [(71, .ls TRes false l 0 [])]⟩)
  | [], pre, hl => by
    rw [DL_loop]
    have : l = pre := by simpa using hl
    subst this
    simp -implicitDefEqProofs [wtoResS_l0]
  | (c0, (c1, (c2, (c3, c4)))) :: post, pre, hl => by
    have ih := wtoResS_l l h1 hz post (pre ++ [(c0, (c1, (c2, (c3, c4))))]) (by simp [hl])
    have hg : l[pre.length]? = some (c0, (c1, (c2, (c3, c4)))) := by rw [hl]; exact mid_get _ _ _
    have hlt : pre.length < l.length := by rw [hl]; simp
    have hg2 : l[pre.length] = (c0, (c1, (c2, (c3, c4)))) := (List.getElem?_eq_some_iff.1 hg).2
    have hw := wrap_succ hlt (by omega)
    have e1 := wtoRes_ok c0 c1 c2 c3 c4 (by have := hz (c0, (c1, (c2, (c3, c4)))) (by rw [hl]; simp); simpa [szT, Nat.add_assoc] using this)
    simp only [List.append_assoc, List.cons_append, List.nil_append, List.length_append, List.length_cons, List.length_nil, Int.natCast_add, Int.natCast_one, Nat.zero_add, T.zero] at ih
    rw [DL_loop]
    generalize DL V (.loop wtoResS_l0) = G at ih ⊢
    simp -implicitDefEqProofs [wtoResS_l0, hg, hg2, hlt, hw, mid_get, mid_set, List.replicate_succ, e1]
    exact ih
theorem wtoResS_ok (l : List (T.den TRes)) (h : szT (.sl TRes) l ≤ 1048576) : V wtoResS [.d (.sl TRes l)] [] = some ([], .one (.own (.sl TRes l))) := by
  rw [V_eq (fn := wtoResS_m) (by kernel_rfl)]
  obtain ⟨h1, h2⟩ := szT_sl h
  have e := wtoResS_l l h1 h2 l [] rfl
  simp only [List.nil_append, List.length_nil, Int.natCast_zero] at e
  have hb : (l.length : Int) * 80 ≤ 140737488355328 := by omega
  simp -implicitDefEqProofs [wtoResS_m, hb] at e ⊢
  simp -implicitDefEqProofs [e]
theorem wszResS_l (l : List (T.den TRes)) (h1 : l.length ≤ 9223372036854775807) (hb : ∀ x ∈ l, BndT TRes x) : ∀ (post pre : List (T.den TRes)) (m : Int), l = pre ++ post → 0 ≤ m → m ≤ 1048576 →
    ∃ q : (Ex × St), DL V (.loop wszResS_l0) ⟨[(5, .d (.i .i64 pre.length)), (1, .d (.i .i64 m)), (0, .d (.sl TRes l))], []⟩ = some q ∧ (q = (.ret, ⟨[(4, .d (.i .i64 (-1)))], []⟩) ∨ ∃ r : Int, q = (.ex 0, ⟨[(1, .d (.i .i64 r))], []⟩) ∧ 0 ≤ r ∧ r + (szL TRes post : Nat) = m)
  | [], pre, m, hl, h0, hm => by
    rw [DL_loop]
    have : l = pre := by simpa using hl
    subst this
    exact ⟨(.ex 0, ⟨[(1, .d (.i .i64 m))], []⟩), by simp -implicitDefEqProofs [wszResS_l0], .inr ⟨m, rfl, h0, by simp [szL]⟩⟩
  | (c0, (c1, (c2, (c3, c4)))) :: post, pre, m, hl, h0, hm => by
    have hg : l[pre.length]? = some (c0, (c1, (c2, (c3, c4)))) := by rw [hl]; exact mid_get _ _ _
    have hlt : pre.length < l.length := by rw [hl]; simp
    have hg2 : l[pre.length] = (c0, (c1, (c2, (c3, c4)))) := (List.getElem?_eq_some_iff.1 hg).2
    have hw := wrap_succ hlt h1
    obtain ⟨r, e1, q0⟩ := wszRes_ok c0 c1 c2 c3 c4 (hb (c0, (c1, (c2, (c3, c4)))) (by rw [hl]; simp)) m h0 hm
    have q : r < 0 ∨ (0 ≤ r ∧ r + (szT TRes (c0, (c1, (c2, (c3, c4)))) : Nat) = m) := by
      rcases q0 with q | q
      · exact .inl (by omega)
      · exact .inr (by simp only [szT, Nat.add_assoc] at *; simpa [Nat.add_assoc] using q)
    rw [DL_loop]
    by_cases c : r < 0
    · exact ⟨(.ret, ⟨[(4, .d (.i .i64 (-1)))], []⟩), by simp -implicitDefEqProofs [wszResS_l0, hg, hg2, hlt, hw, e1, c], .inl rfl⟩
    · have q : 0 ≤ r ∧ r + (szT TRes (c0, (c1, (c2, (c3, c4)))) : Nat) = m := by omega
      obtain ⟨z, i1, i2⟩ := wszResS_l l h1 hb post (pre ++ [(c0, (c1, (c2, (c3, c4))))]) r (by simp [hl]) q.1 (by omega)
      simp only [List.length_append, List.length_cons, List.length_nil, Int.natCast_add, Int.natCast_one, Nat.zero_add] at i1
      refine ⟨z, by generalize DL V (.loop wszResS_l0) = G at i1 ⊢; simp -implicitDefEqProofs [wszResS_l0, hg, hg2, hlt, hw, e1, c]; exact i1, ?_⟩
      rcases i2 with i2 | ⟨r', i2, i3, i4⟩
      · exact .inl i2
      · exact .inr ⟨r', i2, i3, by rw [szL_cons]; omega⟩
theorem wszResS_ok (l : List (T.den TRes)) (hb : BndT (.sl TRes) l) (m : Int) (h0 : 0 ≤ m) (hm : m ≤ 1048576) : ∃ r : Int, V wszResS [.d (.sl TRes l), .d (.i .i64 m)] [] = some ([], .one (.fz (.i .i64 r))) ∧ Sized r m (szT (.sl TRes) l) := by
  rw [V_eq (fn := wszResS_m) (by kernel_rfl)]
  have h1 : l.length ≤ 9223372036854775807 := hb.1
  have hw : IntKind.i64.wrap (m - (l.length : Int)) = m - (l.length : Int) := wrap_id (by omega) (by omega)
  by_cases c : m - (l.length : Int) < 0
  · exact ⟨-1, by simp -implicitDefEqProofs [wszResS_m, hw, c], .inl rfl⟩
  · obtain ⟨z, i1, i2⟩ := wszResS_l l h1 hb.2 l [] (m - (l.length : Int)) rfl (by omega) (by omega)
    simp only [List.length_nil, Int.natCast_zero] at i1
    rcases i2 with i2 | ⟨r, i2, i3, i4⟩
    · rw [i2] at i1; exact ⟨-1, by simp -implicitDefEqProofs [wszResS_m, hw, c, i1], .inl rfl⟩
    · rw [i2] at i1; exact ⟨r, by simp -implicitDefEqProofs [wszResS_m, hw, c, i1], .inr ⟨i3, by simp only [szT_slE]; omega⟩⟩
theorem weqResS_l (l : List (T.den TRes)) (h1 : l.length ≤ 9223372036854775807) (hb : ∀ x ∈ l, BndT TRes x) : ∀ post pre : List (T.den TRes), l = pre ++ post →
    DL V (.loop weqResS_l0) ⟨[(5, .d (.i .i64 pre.length)), (1, .d (.sl TRes l)), (0, .d (.sl TRes l))], []⟩ = some (.ex 0, ⟨[], []⟩)
  | [], pre, hl => by
    rw [DL_loop]
    have : l = pre := by simpa using hl
    subst this
    simp -implicitDefEqProofs [weqResS_l0]
  | (c0, (c1, (c2, (c3, c4)))) :: post, pre, hl => by
    have ih := weqResS_l l h1 hb post (pre ++ [(c0, (c1, (c2, (c3, c4))))]) (by simp [hl])
    have hg : l[pre.length]? = some (c0, (c1, (c2, (c3, c4)))) := by rw [hl]; exact mid_get _ _ _
    have hlt : pre.length < l.length := by rw [hl]; simp
    have hg2 : l[pre.length] = (c0, (c1, (c2, (c3, c4)))) := (List.getElem?_eq_some_iff.1 hg).2
    have hw := wrap_succ hlt h1
    have e1 := weqRes_ok c0 c1 c2 c3 c4 (hb (c0, (c1, (c2, (c3, c4)))) (by rw [hl]; simp))
    simp only [List.length_append, List.length_cons, List.length_nil, Int.natCast_add, Int.natCast_one, Nat.zero_add] at ih
    rw [DL_loop]
    generalize DL V (.loop weqResS_l0) = G at ih ⊢
    simp -implicitDefEqProofs [weqResS_l0, hg, hg2, hlt, hw, e1]
    exact ih
theorem weqResS_ok (l : List (T.den TRes)) (hb : BndT (.sl TRes) l) : V weqResS [.d (.sl TRes l), .d (.sl TRes l)] [] = some ([], .one (.fz (.b true))) := by
  rw [V_eq (fn := weqResS_m) (by kernel_rfl)]
  have e := weqResS_l l hb.1 hb.2 l [] rfl
  simp only [List.length_nil, Int.natCast_zero] at e
  simp -implicitDefEqProofs [weqResS_m, e]
theorem wtoLock_ok (c0 : Int) (c1 : List (T.den .str)) (c2 : Bool) (c3 : Bool) (c4 : Int) (h : szT (.sl .str) c1 ≤ 1048576) : V wtoLock [.agg [.d (.i .i64 c0), .d (.sl .str c1), .d (.b c2), .d (.b c3), .d (.i .i64 c4)]] [] = some ([], .agg [.fz (.i .i64 c0), .own (.sl .str c1), .fz (.b c2), .fz (.b c3), .fz (.i .i64 c4)]) := by
  rw [V_eq (fn := wtoLock_m) (by kernel_rfl)]
  have e1 := wtoStringS_ok c1 (by omega)
  simp -implicitDefEqProofs [wtoLock_m, e1]
theorem weqLock_ok (c0 : Int) (c1 : List (T.den .str)) (c2 : Bool) (c3 : Bool) (c4 : Int) (hb : BndT TLock (c0, (c1, (c2, (c3, c4))))) : V weqLock [.agg [.d (.i .i64 c0), .d (.sl .str c1), .d (.b c2), .d (.b c3), .d (.i .i64 c4)], .agg [.d (.i .i64 c0), .d (.sl .str c1), .d (.b c2), .d (.b c3), .d (.i .i64 c4)]] [] = some ([], .one (.fz (.b true))) := by
  rw [V_eq (fn := weqLock_m) (by kernel_rfl)]
  have hb : BndT (.int .i64) c0 ∧ BndT (.sl .str) c1 ∧ BndT .bool c2 ∧ BndT .bool c3 ∧ BndT (.int .i64) c4 := hb
  have e1 := weqStringS_ok c1 hb.2.1
  simp -implicitDefEqProofs [weqLock_m, e1]
theorem wszLock_ok (c0 : Int) (c1 : List (T.den .str)) (c2 : Bool) (c3 : Bool) (c4 : Int) (hb : BndT TLock (c0, (c1, (c2, (c3, c4))))) (m : Int) (h0 : 0 ≤ m) (hm : m ≤ 1048576) : ∃ r : Int, V wszLock [.agg [.d (.i .i64 c0), .d (.sl .str c1), .d (.b c2), .d (.b c3), .d (.i .i64 c4)], .d (.i .i64 m)] [] = some ([], .one (.fz (.i .i64 r))) ∧ Sized r m (szT (.sl .str) c1) := by
  rw [V_eq (fn := wszLock_m) (by kernel_rfl)]
  have hb : BndT (.int .i64) c0 ∧ BndT (.sl .str) c1 ∧ BndT .bool c2 ∧ BndT .bool c3 ∧ BndT (.int .i64) c4 := hb
  obtain ⟨r1, e1, q1⟩ := wszStringS_ok c1 hb.2.1 m (by omega) (by omega)
  by_cases c1x : r1 < 0
  · exact ⟨-1, by simp -implicitDefEqProofs [wszLock_m, e1, c1x], .inl rfl⟩
  have p1 : 0 ≤ r1 ∧ r1 + (szT (.sl .str) c1 : Nat) = m := by rcases q1 with q | q <;> omega
  exact ⟨r1, by simp -implicitDefEqProofs [wszLock_m, e1, c1x], .inr ⟨by omega, by omega⟩⟩
theorem wtoLockS_l (l : List (T.den TLock)) (h1 : l.length ≤ 1048576) (hz : ∀ x ∈ l, szT TLock x ≤ 1048576) : ∀ post pre : List (T.den TLock), l = pre ++ post →
    DL V (.loop wtoLockS_l0) ⟨[(4, .d (.i .i64 pre.length)), (3, .h 71 0 l.length), (0, .d (.sl TLock l))], [(71, .ls TLock false (pre ++ List.replicate post.length (T.zero TLock)) 0 [])]⟩ = some (.ex 0, ⟨[(3, .h 71 0 l.length)], [(71, .ls TLock false l 0 [])]⟩)
  | [], pre, hl => by
    rw [DL_loop]
    have : l = pre := by simpa using hl
    subst this
    simp -implicitDefEqProofs [wtoLockS_l0]
  | (c0, (c1, (c2, (c3, c4)))) :: post, pre, hl => by
    have ih := wtoLockS_l l h1 hz post (pre ++ [(c0, (c1, (c2, (c3, c4))))]) (by simp [hl])
    have hg : l[pre.length]? = some (c0, (c1, (c2, (c3, c4)))) := by rw [hl]; exact mid_get _ _ _
    have hlt : pre.length < l.length := by rw [hl]; simp
    have hg2 : l[pre.length] = (c0, (c1, (c2, (c3, c4)))) := (List.getElem?_eq_some_iff.1 hg).2
    have hw := wrap_succ hlt (by omega)
    have e1 := wtoLock_ok c0 c1 c2 c3 c4 (by have := hz (c0, (c1, (c2, (c3, c4)))) (by rw [hl]; simp); simpa [szT, Nat.add_assoc] using this)
    simp only [List.append_assoc, List.cons_append, List.nil_append, List.length_append, List.length_cons, List.length_nil, Int.natCast_add, Int.natCast_one, Nat.zero_add, T.zero] at ih
    rw [DL_loop]
    generalize DL V (.loop wtoLockS_l0) = G at ih ⊢
    simp -implicitDefEqProofs [wtoLockS_l0, hg, hg2, hlt, hw, mid_get, mid_set, List.replicate_succ, e1]
    exact ih
theorem wtoLockS_ok (l : List (T.den TLock)) (h : szT (.sl TLock) l ≤ 1048576) : V wtoLockS [.d (.sl TLock l)] [] = some ([], .one (.own (.sl TLock l))) := by
  rw [V_eq (fn := wtoLockS_m) (by kernel_rfl)]
  obtain ⟨h1, h2⟩ := szT_sl h
  have e := wtoLockS_l l h1 h2 l [] rfl
  simp only [List.nil_append, List.length_nil, Int.natCast_zero] at e
  have hb : (l.length : Int) * 48 ≤ 140737488355328 := by omega
  simp -implicitDefEqProofs [wtoLockS_m, hb] at e ⊢
  simp -implicitDefEqProofs [e]
theorem wszLockS_l (l : List (T.den TLock)) (h1 : l.length ≤ 9223372036854775807) (hb : ∀ x ∈ l, BndT TLock x) : ∀ (post pre : List (T.den TLock)) (m : Int), l = pre ++ post → 0 ≤ m → m ≤ 1048576 →
    ∃ q : (Ex × St), DL V (.loop wszLockS_l0) ⟨[(5, .d (.i .i64 pre.length)), (1, .d (.i .i64 m)), (0, .d (.sl TLock l))], []⟩ = some q ∧ (q = (.ret, ⟨[(4, .d (.i .i64 (-1)))], []⟩) ∨ ∃ r : Int, q = (.ex 0, ⟨[(1, .d (.i .i64 r))], []⟩) ∧ 0 ≤ r ∧ r + (szL TLock post : Nat) = m)
  | [], pre, m, hl, h0, hm => by
    rw [DL_loop]
    have : l = pre := by simpa using hl
    subst this
    exact ⟨(.ex 0, ⟨[(1, .d (.i .i64 m))], []⟩), by simp -implicitDefEqProofs [wszLockS_l0], .inr ⟨m, rfl, h0, by simp [szL]⟩⟩
  | (c0, (c1, (c2, (c3, c4)))) :: post, pre, m, hl, h0, hm => by
    have hg : l[pre.length]? = some (c0, (c1, (c2, (c3, c4)))) := by rw [hl]; exact mid_get _ _ _
    have hlt : pre.length < l.length := by rw [hl]; simp
    have hg2 : l[pre.length] = (c0, (c1, (c2, (c3, c4)))) := (List.getElem?_eq_some_iff.1 hg).2
    have hw := wrap_succ hlt h1
    obtain ⟨r, e1, q0⟩ := wszLock_ok c0 c1 c2 c3 c4 (hb (c0, (c1, (c2, (c3, c4)))) (by rw [hl]; simp)) m h0 hm
    have q : r < 0 ∨ (0 ≤ r ∧ r + (szT TLock (c0, (c1, (c2, (c3, c4)))) : Nat) = m) := by
      rcases q0 with q | q
      · exact .inl (by omega)
      · exact .inr (by simp only [szT, Nat.add_assoc] at *; simpa [Nat.add_assoc] using q)
    rw [DL_loop]
    by_cases c : r < 0
    · exact ⟨(.ret, ⟨[(4, .d (.i .i64 (-1)))], []⟩), by simp -implicitDefEqProofs [wszLockS_l0, hg, hg2, hlt, hw, e1, c], .inl rfl⟩
    · have q : 0 ≤ r ∧ r + (szT TLock (c0, (c1, (c2, (c3, c4)))) : Nat) = m := by omega
      obtain ⟨z, i1, i2⟩ := wszLockS_l l h1 hb post (pre ++ [(c0, (c1, (c2, (c3, c4))))]) r (by simp [hl]) q.1 (by omega)
      simp only [List.length_append, List.length_cons, List.length_nil, Int.natCast_add, Int.natCast_one, Nat.zero_add] at i1
      refine ⟨z, by generalize DL V (.loop wszLockS_l0) = G at i1 ⊢; simp -implicitDefEqProofs [wszLockS_l0, hg, hg2, hlt, hw, e1, c]; exact i1, ?_⟩
      rcases i2 with i2 | ⟨r', i2, i3, i4⟩
      · exact .inl i2
      · exact .inr ⟨r', i2, i3, by rw [szL_cons]; omega⟩
theorem wszLockS_ok (l : List (T.den TLock)) (hb : BndT (.sl TLock) l) (m : Int) (h0 : 0 ≤ m) (hm : m ≤ 1048576) : ∃ r : Int, V wszLockS [.d (.sl TLock l), .d (.i .i64 m)] [] = some ([], .one (.fz (.i .i64 r))) ∧ Sized r m (szT (.sl TLock) l) := by
  rw [V_eq (fn := wszLockS_m) (by kernel_rfl)]
  have h1 : l.length ≤ 9223372036854775807 := hb.1
  have hw : IntKind.i64.wrap (m - (l.length : Int)) = m - (l.length : Int) := wrap_id (by omega) (by omega)
  by_cases c : m - (l.length : Int) < 0
  · exact ⟨-1, by simp -implicitDefEqProofs [wszLockS_m, hw, c], .inl rfl⟩
  · obtain ⟨z, i1, i2⟩ := wszLockS_l l h1 hb.2 l [] (m - (l.length : Int)) rfl (by omega) (by omega)
    simp only [List.length_nil, Int.natCast_zero] at i1
    rcases i2 with i2 | ⟨r, i2, i3, i4⟩
    · rw [i2] at i1; exact ⟨-1, by simp -implicitDefEqProofs [wszLockS_m, hw, c, i1], .inl rfl⟩
    · rw [i2] at i1; exact ⟨r, by simp -implicitDefEqProofs [wszLockS_m, hw, c, i1], .inr ⟨i3, by simp only [szT_slE]; omega⟩⟩
theorem weqLockS_l (l : List (T.den TLock)) (h1 : l.length ≤ 9223372036854775807) (hb : ∀ x ∈ l, BndT TLock x) : ∀ post pre : List (T.den TLock), l = pre ++ post →
    DL V (.loop weqLockS_l0) ⟨[(5, .d (.i .i64 pre.length)), (1, .d (.sl TLock l)), (0, .d (.sl TLock l))], []⟩ = some (.ex 0, ⟨[], []⟩)
  | [], pre, hl => by
    rw [DL_loop]
    have : l = pre := by simpa using hl
    subst this
    simp -implicitDefEqProofs [weqLockS_l0]
  | (c0, (c1, (c2, (c3, c4)))) :: post, pre, hl => by
    have ih := weqLockS_l l h1 hb post (pre ++ [(c0, (c1, (c2, (c3, c4))))]) (by simp [hl])
    have hg : l[pre.length]? = some (c0, (c1, (c2, (c3, c4)))) := by rw [hl]; exact mid_get _ _ _
    have hlt : pre.length < l.length := by rw [hl]; simp
    have hg2 : l[pre.length] = (c0, (c1, (c2, (c3, c4)))) := (List.getElem?_eq_some_iff.1 hg).2
    have hw := wrap_succ hlt h1
    have e1 := weqLock_ok c0 c1 c2 c3 c4 (hb (c0, (c1, (c2, (c3, c4)))) (by rw [hl]; simp))
    simp only [List.length_append, List.length_cons, List.length_nil, Int.natCast_add, Int.natCast_one, Nat.zero_add] at ih
    rw [DL_loop]
    generalize DL V (.loop weqLockS_l0) = G at ih ⊢
    simp -implicitDefEqProofs [weqLockS_l0, hg, hg2, hlt, hw, e1]
    exact ih
theorem weqLockS_ok (l : List (T.den TLock)) (hb : BndT (.sl TLock) l) : V weqLockS [.d (.sl TLock l), .d (.sl TLock l)] [] = some ([], .one (.fz (.b true))) := by
  rw [V_eq (fn := weqLockS_m) (by kernel_rfl)]
  have e := weqLockS_l l hb.1 hb.2 l [] rfl
  simp only [List.length_nil, Int.natCast_zero] at e
  simp -implicitDefEqProofs [weqLockS_m, e]
theorem wtoIntS_l (l : List (T.den (.int .i64))) (h1 : l.length ≤ 1048576) (hz : ∀ x ∈ l, szT (.int .i64) x ≤ 1048576) : ∀ post pre : List (T.den (.int .i64)), l = pre ++ post →
    DL V (.loop wtoIntS_l0) ⟨[(4, .d (.i .i64 pre.length)), (3, .h 71 0 l.length), (0, .d (.sl (.int .i64) l))], [(71, .ls (.int .i64) false (pre ++ List.replicate post.length (T.zero (.int .i64))) 0 [])]⟩ = some (.ex 0, ⟨[(3, .h 71 0 l.length)], [(71, .ls (.int .i64) false l 0 [])]⟩)
  | [], pre, hl => by
    rw [DL_loop]
    have : l = pre := by simpa using hl
    subst this
    simp -implicitDefEqProofs [wtoIntS_l0]
  | c0 :: post, pre, hl => by
    have ih := wtoIntS_l l h1 hz post (pre ++ [c0]) (by simp [hl])
    have hg : l[pre.length]? = some c0 := by rw [hl]; exact mid_get _ _ _
    have hlt : pre.length < l.length := by rw [hl]; simp
    have hg2 : l[pre.length] = c0 := (List.getElem?_eq_some_iff.1 hg).2
    have hw := wrap_succ hlt (by omega)
    simp only [List.append_assoc, List.cons_append, List.nil_append, List.length_append, List.length_cons, List.length_nil, Int.natCast_add, Int.natCast_one, Nat.zero_add, T.zero] at ih
    rw [DL_loop]
    generalize DL V (.loop wtoIntS_l0) = G at ih ⊢
    simp -implicitDefEqProofs [wtoIntS_l0, hg, hg2, hlt, hw, mid_get, mid_set, List.replicate_succ]
    exact ih
theorem wtoIntS_ok (l : List (T.den (.int .i64))) (h : szT (.sl (.int .i64)) l ≤ 1048576) : V wtoIntS [.d (.sl (.int .i64) l)] [] = some ([], .one (.own (.sl (.int .i64) l))) := by
  rw [V_eq (fn := wtoIntS_m) (by kernel_rfl)]
  obtain ⟨h1, h2⟩ := szT_sl h
  have e := wtoIntS_l l h1 h2 l [] rfl
  simp only [List.nil_append, List.length_nil, Int.natCast_zero] at e
  have hb : (l.length : Int) * 8 ≤ 140737488355328 := by omega
  simp -implicitDefEqProofs [wtoIntS_m, hb] at e ⊢
  simp -implicitDefEqProofs [e]
theorem wszIntS_ok (l : List (T.den (.int .i64))) (hb0 : BndT (.sl (.int .i64)) l) (m : Int) (h0 : 0 ≤ m) (hm : m ≤ 1048576) : ∃ r : Int, V wszIntS [.d (.sl (.int .i64) l), .d (.i .i64 m)] [] = some ([], .one (.fz (.i .i64 r))) ∧ Sized r m (szT (.sl (.int .i64)) l) := by
  have hb : l.length ≤ 9223372036854775807 := hb0.1
  rw [V_eq (fn := wszIntS_m) (by kernel_rfl)]
  have hw : IntKind.i64.wrap (m - (l.length : Int)) = m - (l.length : Int) := wrap_id (by omega) (by omega)
  have hz : szT (.sl (.int .i64)) l = l.length := by rw [szT_flat (by rfl)]
  rw [hz]
  by_cases c : m - (l.length : Int) < 0
  · exact ⟨-1, by simp -implicitDefEqProofs [wszIntS_m, hw, c], .inl rfl⟩
  · exact ⟨m - (l.length : Int), by simp -implicitDefEqProofs [wszIntS_m, hw, c], .inr ⟨by omega, by omega⟩⟩
theorem weqIntS_l (l : List (T.den (.int .i64))) (h1 : l.length ≤ 9223372036854775807) (hb : ∀ x ∈ l, BndT (.int .i64) x) : ∀ post pre : List (T.den (.int .i64)), l = pre ++ post →
    DL V (.loop weqIntS_l0) ⟨[(5, .d (.i .i64 pre.length)), (1, .d (.sl (.int .i64) l)), (0, .d (.sl (.int .i64) l))], []⟩ = some (.ex 0, ⟨[], []⟩)
  | [], pre, hl => by
    rw [DL_loop]
    have : l = pre := by simpa using hl
    subst this
    simp -implicitDefEqProofs [weqIntS_l0]
  | c0 :: post, pre, hl => by
    have ih := weqIntS_l l h1 hb post (pre ++ [c0]) (by simp [hl])
    have hg : l[pre.length]? = some c0 := by rw [hl]; exact mid_get _ _ _
    have hlt : pre.length < l.length := by rw [hl]; simp
    have hg2 : l[pre.length] = c0 := (List.getElem?_eq_some_iff.1 hg).2
    have hw := wrap_succ hlt h1
    simp only [List.length_append, List.length_cons, List.length_nil, Int.natCast_add, Int.natCast_one, Nat.zero_add] at ih
    rw [DL_loop]
    generalize DL V (.loop weqIntS_l0) = G at ih ⊢
    simp -implicitDefEqProofs [weqIntS_l0, hg, hg2, hlt, hw]
    exact ih
theorem weqIntS_ok (l : List (T.den (.int .i64))) (hb : BndT (.sl (.int .i64)) l) : V weqIntS [.d (.sl (.int .i64) l), .d (.sl (.int .i64) l)] [] = some ([], .one (.fz (.b true))) := by
  rw [V_eq (fn := weqIntS_m) (by kernel_rfl)]
  have e := weqIntS_l l hb.1 hb.2 l [] rfl
  simp only [List.length_nil, Int.natCast_zero] at e
  simp -implicitDefEqProofs [weqIntS_m, e]
theorem wtoSrv_ok (c0 : List (T.den TRes)) (c1 : List (T.den TLock)) (c2 : Int) (c3 : Int) (c4 : List (T.den (.int .i64))) (c5 : List (T.den (.int .i64))) (h : szT (.sl TRes) c0 + szT (.sl TLock) c1 + szT (.sl (.int .i64)) c4 + szT (.sl (.int .i64)) c5 ≤ 1048576) : V wtoSrv [.agg [.d (.sl TRes c0), .d (.sl TLock c1), .d (.i .i64 c2), .d (.i .i64 c3), .d (.sl (.int .i64) c4), .d (.sl (.int .i64) c5)]] [] = some ([], .agg [.own (.sl TRes c0), .own (.sl TLock c1), .fz (.i .i64 c2), .fz (.i .i64 c3), .own (.sl (.int .i64) c4), .own (.sl (.int .i64) c5)]) := by
  rw [V_eq (fn := wtoSrv_m) (by kernel_rfl)]
  have e0 := wtoResS_ok c0 (by omega)
  have e1 := wtoLockS_ok c1 (by omega)
  have e4 := wtoIntS_ok c4 (by omega)
  have e5 := wtoIntS_ok c5 (by omega)
  simp -implicitDefEqProofs [wtoSrv_m, e0, e1, e4, e5]
theorem weqSrv_ok (c0 : List (T.den TRes)) (c1 : List (T.den TLock)) (c2 : Int) (c3 : Int) (c4 : List (T.den (.int .i64))) (c5 : List (T.den (.int .i64))) (hb : BndT TSrv (c0, (c1, (c2, (c3, (c4, c5)))))) : V weqSrv [.agg [.d (.sl TRes c0), .d (.sl TLock c1), .d (.i .i64 c2), .d (.i .i64 c3), .d (.sl (.int .i64) c4), .d (.sl (.int .i64) c5)], .agg [.d (.sl TRes c0), .d (.sl TLock c1), .d (.i .i64 c2), .d (.i .i64 c3), .d (.sl (.int .i64) c4), .d (.sl (.int .i64) c5)]] [] = some ([], .one (.fz (.b true))) := by
  rw [V_eq (fn := weqSrv_m) (by kernel_rfl)]
  have hb : BndT (.sl TRes) c0 ∧ BndT (.sl TLock) c1 ∧ BndT (.int .i64) c2 ∧ BndT (.int .i64) c3 ∧ BndT (.sl (.int .i64)) c4 ∧ BndT (.sl (.int .i64)) c5 := hb
  have e0 := weqResS_ok c0 hb.1
  have e1 := weqLockS_ok c1 hb.2.1
  have e4 := weqIntS_ok c4 hb.2.2.2.2.1
  have e5 := weqIntS_ok c5 hb.2.2.2.2.2
  simp -implicitDefEqProofs [weqSrv_m, e0, e1, e4, e5]
theorem wszSrv_ok (c0 : List (T.den TRes)) (c1 : List (T.den TLock)) (c2 : Int) (c3 : Int) (c4 : List (T.den (.int .i64))) (c5 : List (T.den (.int .i64))) (hb : BndT TSrv (c0, (c1, (c2, (c3, (c4, c5)))))) (m : Int) (h0 : 0 ≤ m) (hm : m ≤ 1048576) : ∃ r : Int, V wszSrv [.agg [.d (.sl TRes c0), .d (.sl TLock c1), .d (.i .i64 c2), .d (.i .i64 c3), .d (.sl (.int .i64) c4), .d (.sl (.int .i64) c5)], .d (.i .i64 m)] [] = some ([], .one (.fz (.i .i64 r))) ∧ Sized r m (szT (.sl TRes) c0 + szT (.sl TLock) c1 + szT (.sl (.int .i64)) c4 + szT (.sl (.int .i64)) c5) := by
  rw [V_eq (fn := wszSrv_m) (by kernel_rfl)]
  have hb : BndT (.sl TRes) c0 ∧ BndT (.sl TLock) c1 ∧ BndT (.int .i64) c2 ∧ BndT (.int .i64) c3 ∧ BndT (.sl (.int .i64)) c4 ∧ BndT (.sl (.int .i64)) c5 := hb
  obtain ⟨r0, e0, q0⟩ := wszResS_ok c0 hb.1 m (by omega) (by omega)
  by_cases c0x : r0 < 0
  · exact ⟨-1, by simp -implicitDefEqProofs [wszSrv_m, e0, c0x], .inl rfl⟩
  have p0 : 0 ≤ r0 ∧ r0 + (szT (.sl TRes) c0 : Nat) = m := by rcases q0 with q | q <;> omega
  obtain ⟨r1, e1, q1⟩ := wszLockS_ok c1 hb.2.1 r0 (by omega) (by omega)
  by_cases c1x : r1 < 0
  · exact ⟨-1, by simp -implicitDefEqProofs [wszSrv_m, e0, c0x, e1, c1x], .inl rfl⟩
  have p1 : 0 ≤ r1 ∧ r1 + (szT (.sl TLock) c1 : Nat) = r0 := by rcases q1 with q | q <;> omega
  obtain ⟨r4, e4, q4⟩ := wszIntS_ok c4 hb.2.2.2.2.1 r1 (by omega) (by omega)
  by_cases c4x : r4 < 0
  · exact ⟨-1, by simp -implicitDefEqProofs [wszSrv_m, e0, c0x, e1, c1x, e4, c4x], .inl rfl⟩
  have p4 : 0 ≤ r4 ∧ r4 + (szT (.sl (.int .i64)) c4 : Nat) = r1 := by rcases q4 with q | q <;> omega
  obtain ⟨r5, e5, q5⟩ := wszIntS_ok c5 hb.2.2.2.2.2 r4 (by omega) (by omega)
  by_cases c5x : r5 < 0
  · exact ⟨-1, by simp -implicitDefEqProofs [wszSrv_m, e0, c0x, e1, c1x, e4, c4x, e5, c5x], .inl rfl⟩
  have p5 : 0 ≤ r5 ∧ r5 + (szT (.sl (.int .i64)) c5 : Nat) = r4 := by rcases q5 with q | q <;> omega
  exact ⟨r5, by simp -implicitDefEqProofs [wszSrv_m, e0, c0x, e1, c1x, e4, c4x, e5, c5x], .inr ⟨by omega, by omega⟩⟩
end Go.Proofs.YtfklggpopffkjaaGreatDoorK
