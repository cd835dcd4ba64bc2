/- What the functions come to. -/
import Derived.Test.YtfklggpopffkjaaGreatF14
set_option linter.unusedVariables false
set_option linter.unusedSimpArgs false
namespace Go.Proofs.YtfklggpopffkjaaGreatK
open Go.RowKit
theorem wtoStringS_l (l : List (T.den .str)) (h1 : l.length ≤ 1048576) (hz : ∀ x ∈ l, szT .str x ≤ 1048576) : ∀ post pre : List (T.den .str), l = pre ++ post →
    DL V (.loop wtoStringS_l0) ⟨[(4, .d (.i .i64 pre.length)), (3, .h 71 0 l.length), (0, .d (.sl .str l))], [(71, .ls .str false (pre ++ List.replicate post.length (T.zero .str)) 0 [])]⟩ = some (.ex 0, ⟨[(3, .h 71 0 l.length)], [(71, .ls .str false l 0 [])]⟩)
  | [], pre, hl => by
    rw [DL_loop]
    have : l = pre := by simpa using hl
    subst this
    simp -implicitDefEqProofs [wtoStringS_l0]
  | c0 :: post, pre, hl => by
    have ih := wtoStringS_l l h1 hz post (pre ++ [c0]) (by simp [hl])
    have hg : l[pre.length]? = some c0 := by rw [hl]; exact mid_get _ _ _
    have hlt : pre.length < l.length := by rw [hl]; simp
    have hg2 : l[pre.length] = c0 := (List.getElem?_eq_some_iff.1 hg).2
    have hw := wrap_succ hlt (by omega)
    simp only [List.append_assoc, List.cons_append, List.nil_append, List.length_append, List.length_cons, List.length_nil, Int.natCast_add, Int.natCast_one, Nat.zero_add, T.zero] at ih
    rw [DL_loop]
    generalize DL V (.loop wtoStringS_l0) = G at ih ⊢
    simp -implicitDefEqProofs [wtoStringS_l0, hg, hg2, hlt, hw, mid_get, mid_set, List.replicate_succ]
    exact ih
theorem wtoStringS_ok (l : List (T.den .str)) (h : szT (.sl .str) l ≤ 1048576) : V wtoStringS [.d (.sl .str l)] [] = some ([], .one (.own (.sl .str l))) := by
  rw [V_eq (fn := wtoStringS_m) (by kernel_rfl)]
  obtain ⟨h1, h2⟩ := szT_sl h
  have e := wtoStringS_l l h1 h2 l [] rfl
  simp only [List.nil_append, List.length_nil, Int.natCast_zero] at e
  have hb : (l.length : Int) * 16 ≤ 140737488355328 := by omega
  simp -implicitDefEqProofs [wtoStringS_m, hb] at e ⊢
  simp -implicitDefEqProofs [e]
theorem wszStringS_l (l : List (T.den .str)) (h1 : l.length ≤ 9223372036854775807) (hb : ∀ x ∈ l, BndT .str x) : ∀ (post pre : List (T.den .str)) (m : Int), l = pre ++ post → 0 ≤ m → m ≤ 1048576 →
    ∃ q : (Ex × St), DL V (.loop wszStringS_l0) ⟨[(5, .d (.i .i64 pre.length)), (1, .d (.i .i64 m)), (0, .d (.sl .str l))], []⟩ = some q ∧ (q = (.ret, ⟨[(4, .d (.i .i64 (-1)))], []⟩) ∨ ∃ r : Int, q = (.ex 0, ⟨[(1, .d (.i .i64 r))], []⟩) ∧ 0 ≤ r ∧ r + (szL .str post : Nat) = m)
  | [], pre, m, hl, h0, hm => by
    rw [DL_loop]
    have : l = pre := by simpa using hl
    subst this
    exact ⟨(.ex 0, ⟨[(1, .d (.i .i64 m))], []⟩), by simp -implicitDefEqProofs [wszStringS_l0], .inr ⟨m, rfl, h0, by simp [szL]⟩⟩
  | c0 :: post, pre, m, hl, h0, hm => by
    have hg : l[pre.length]? = some c0 := by rw [hl]; exact mid_get _ _ _
    have hlt : pre.length < l.length := by rw [hl]; simp
    have hg2 : l[pre.length] = c0 := (List.getElem?_eq_some_iff.1 hg).2
    have hw := wrap_succ hlt h1
    have hw2 : IntKind.i64.wrap (m - (c0.length : Int)) = m - (c0.length : Int) := wrap_id (by have : c0.length ≤ 9223372036854775807 := hb c0 (by rw [hl]; simp); omega) (by omega)
    obtain ⟨r, e1, q⟩ : ∃ r : Int, m - (c0.length : Int) = r ∧ (r < 0 ∨ (0 ≤ r ∧ r + (szT .str c0 : Nat) = m)) := ⟨_, rfl, by simp only [szT]; omega⟩
    rw [e1] at hw2
    have hw3 : IntKind.i64.wrap r = r := hw2
    rw [DL_loop]
    by_cases c : r < 0
    · exact ⟨(.ret, ⟨[(4, .d (.i .i64 (-1)))], []⟩), by simp -implicitDefEqProofs [wszStringS_l0, hg, hg2, hlt, hw, e1, hw3, c], .inl rfl⟩
    · have q : 0 ≤ r ∧ r + (szT .str c0 : Nat) = m := by omega
      obtain ⟨z, i1, i2⟩ := wszStringS_l l h1 hb post (pre ++ [c0]) r (by simp [hl]) q.1 (by omega)
      simp only [List.length_append, List.length_cons, List.length_nil, Int.natCast_add, Int.natCast_one, Nat.zero_add] at i1
      refine ⟨z, by generalize DL V (.loop wszStringS_l0) = G at i1 ⊢; simp -implicitDefEqProofs [wszStringS_l0, hg, hg2, hlt, hw, e1, hw3, c]; exact i1, ?_⟩
      rcases i2 with i2 | ⟨r', i2, i3, i4⟩
      · exact .inl i2
      · exact .inr ⟨r', i2, i3, by rw [szL_cons]; omega⟩
theorem wszStringS_ok (l : List (T.den .str)) (hb : BndT (.sl .str) l) (m : Int) (h0 : 0 ≤ m) (hm : m ≤ 1048576) : ∃ r : Int, V wszStringS [.d (.sl .str l), .d (.i .i64 m)] [] = some ([], .one (.fz (.i .i64 r))) ∧ Sized r m (szT (.sl .str) l) := by
  rw [V_eq (fn := wszStringS_m) (by kernel_rfl)]
  have h1 : l.length ≤ 9223372036854775807 := hb.1
  have hw : IntKind.i64.wrap (m - (l.length : Int)) = m - (l.length : Int) := wrap_id (by omega) (by omega)
  by_cases c : m - (l.length : Int) < 0
  · exact ⟨-1, by simp -implicitDefEqProofs [wszStringS_m, hw, c], .inl rfl⟩
  · obtain ⟨z, i1, i2⟩ := wszStringS_l l h1 hb.2 l [] (m - (l.length : Int)) rfl (by omega) (by omega)
    simp only [List.length_nil, Int.natCast_zero] at i1
    rcases i2 with i2 | ⟨r, i2, i3, i4⟩
    · rw [i2] at i1; exact ⟨-1, by simp -implicitDefEqProofs [wszStringS_m, hw, c, i1], .inl rfl⟩
    · rw [i2] at i1; exact ⟨r, by simp -implicitDefEqProofs [wszStringS_m, hw, c, i1], .inr ⟨i3, by simp only [szT_slE]; omega⟩⟩
theorem weqStringS_l (l : List (T.den .str)) (h1 : l.length ≤ 9223372036854775807) (hb : ∀ x ∈ l, BndT .str x) : ∀ post pre : List (T.den .str), l = pre ++ post →
    DL V (.loop weqStringS_l0) ⟨[(5, .d (.i .i64 pre.length)), (1, .d (.sl .str l)), (0, .d (.sl .str l))], []⟩ = some (.ex 0, ⟨[], []⟩)
  | [], pre, hl => by
    rw [DL_loop]
    have : l = pre := by simpa using hl
    subst this
    simp -implicitDefEqProofs [weqStringS_l0]
  | c0 :: post, pre, hl => by
    have ih := weqStringS_l l h1 hb post (pre ++ [c0]) (by simp [hl])
    have hg : l[pre.length]? = some c0 := by rw [hl]; exact mid_get _ _ _
    have hlt : pre.length < l.length := by rw [hl]; simp
    have hg2 : l[pre.length] = c0 := (List.getElem?_eq_some_iff.1 hg).2
    have hw := wrap_succ hlt h1
    simp only [List.length_append, List.length_cons, List.length_nil, Int.natCast_add, Int.natCast_one, Nat.zero_add] at ih
    rw [DL_loop]
    generalize DL V (.loop weqStringS_l0) = G at ih ⊢
    simp -implicitDefEqProofs [weqStringS_l0, hg, hg2, hlt, hw]
    exact ih
theorem weqStringS_ok (l : List (T.den .str)) (hb : BndT (.sl .str) l) : V weqStringS [.d (.sl .str l), .d (.sl .str l)] [] = some ([], .one (.fz (.b true))) := by
  rw [V_eq (fn := weqStringS_m) (by kernel_rfl)]
  have e := weqStringS_l l hb.1 hb.2 l [] rfl
  simp only [List.length_nil, Int.natCast_zero] at e
  simp -implicitDefEqProofs [weqStringS_m, e]
theorem wmarkStringS_l (n : Nat) : ∀ (post pre : List (T.den .str)) (k : Nat), n = pre.length + post.length → n ≤ 140737488355328 → (markT (.sl .str) post k).2 ≤ 4611686018427387904 → (∀ x ∈ post, BndM .str x) →
    DL V (.loop wmarkStringS_l0) ⟨[(5, .d (.i .i64 pre.length)), (1, .d (.i .i64 k)), (0, .h 0 0 n)], [(0, .ls .str false (pre ++ post) 0 [])]⟩ = some (.ex 0, ⟨[(1, .d (.i .i64 ((markT (.sl .str) post k).2 : Nat)))], [(0, .ls .str false (pre ++ (markT (.sl .str) post k).1) 0 [])]⟩)
  | [], pre, k, hn, hn2, hk, hB => by
    rw [DL_loop]
    have : n = pre.length := by simpa using hn
    subst this
    simp -implicitDefEqProofs [wmarkStringS_l0, markT, mkFold]
  | c0 :: post, pre, k, hn, hn2, hk, hB => by
    have hlt : pre.length < n := by rw [hn]; simp
    have hw := wrap_succ hlt (by omega)
    change (markT (.sl .str) post (markT .str c0 k).2).2 ≤ 4611686018427387904 at hk
    change _ = some (Ex.ex 0, (⟨[(1, .d (.i .i64 ((markT (.sl .str) post (markT .str c0 k).2).2 : Nat)))], [(0, .ls .str false (pre ++ (markT .str c0 k).1 :: (markT (.sl .str) post (markT .str c0 k).2).1) 0 [])]⟩ : St))
    have hB0 := hB c0 (by simp)
    have hB0 : BndM .str c0 := hB0
    have hmono := markT_le (.sl .str) post (markT .str c0 k).2
    have hm0 := markT_le .str c0 k
    obtain ⟨k0, hk0⟩ : ∃ k0, k + 1 = k0 := ⟨_, rfl⟩
    have hc : (markT .str c0 k).2 = k0 := by subst hk0; rfl
    have hd : (markT .str c0 k).1 = mtx k := by subst hk0; rfl
    have e0 := wmarkText_ok k (by omega)
    have w0 : IntKind.i64.wrap (((k : Nat) : Int) + 1) = (k0 : Int) := by rw [← hk0]; exact wrap_id (by omega) (by omega)
    have ih := wmarkStringS_l n post (pre ++ [(markT .str c0 k).1]) (markT .str c0 k).2 (by simp at hn ⊢; omega) hn2 hk (fun x hx => hB x (by simp [hx]))
    simp only [List.append_assoc, List.cons_append, List.nil_append, List.length_append, List.length_cons, List.length_nil, Int.natCast_add, Int.natCast_one, Nat.zero_add] at ih
    rw [DL_loop]
    rw [hc, hd] at ih ⊢
    generalize DL V (.loop wmarkStringS_l0) = G at ih ⊢
    simp -implicitDefEqProofs [wmarkStringS_l0, hlt, hw, mid_get, mid_set, e0, w0]
    exact ih
theorem wmarkStringS_ok (l : List (T.den .str)) (k : Nat) (h1 : l.length ≤ 140737488355328) (hk : (markT (.sl .str) l k).2 ≤ 4611686018427387904) (hB : ∀ x ∈ l, BndM .str x) : V wmarkStringS [.h 0 0 l.length, .d (.i .i64 k)] [.ls .str false l 0 []] = some ([some (.ls .str false (markT (.sl .str) l k).1 0 [])], .one (.fz (.i .i64 ((markT (.sl .str) l k).2 : Nat)))) := by
  rw [V_eq (fn := wmarkStringS_m) (by kernel_rfl)]
  have e := wmarkStringS_l l.length l [] k (by simp) h1 hk hB
  simp only [List.length_nil, Int.natCast_zero, List.nil_append] at e
  simp -implicitDefEqProofs [wmarkStringS_m, e]
theorem wheldStringS_l (l : List (T.den .str)) (h1 : l.length ≤ 140737488355328) : ∀ (post pre : List (T.den .str)) (k : Nat), l = pre ++ (markT (.sl .str) post k).1 → (markT (.sl .str) post k).2 ≤ 4611686018427387904 → (∀ x ∈ post, BndM .str x) →
    DL V (.loop wheldStringS_l0) ⟨[(5, .d (.i .i64 pre.length)), (1, .d (.i .i64 k)), (0, .d (.sl .str l))], []⟩ = some (.ex 0, ⟨[(1, .d (.i .i64 ((markT (.sl .str) post k).2 : Nat)))], []⟩)
  | [], pre, k, hl, hk, hB => by
    rw [DL_loop]
    have : l = pre := by simpa [markT, mkFold] using hl
    subst this
    simp -implicitDefEqProofs [wheldStringS_l0, markT, mkFold]
  | c0 :: post, pre, k, hl, hk, hB => by
    change l = pre ++ (markT .str c0 k).1 :: (markT (.sl .str) post (markT .str c0 k).2).1 at hl
    change (markT (.sl .str) post (markT .str c0 k).2).2 ≤ 4611686018427387904 at hk
    change _ = some (Ex.ex 0, (⟨[(1, .d (.i .i64 ((markT (.sl .str) post (markT .str c0 k).2).2 : Nat)))], []⟩ : St))
    have hlt : pre.length < l.length := by rw [hl]; simp
    have hw := wrap_succ hlt (by omega)
    have hmono := markT_le (.sl .str) post (markT .str c0 k).2
    have hm0 := markT_le .str c0 k
    have hB0 := hB c0 (by simp)
    have hg : l[pre.length]? = some (markT .str c0 k).1 := by rw [hl]; exact mid_get _ _ _
    have hg2 : l[pre.length] = (markT .str c0 k).1 := (List.getElem?_eq_some_iff.1 hg).2
    have hB0 : BndM .str c0 := hB0
    obtain ⟨k0, hk0⟩ : ∃ k0, k + 1 = k0 := ⟨_, rfl⟩
    have hc : (markT .str c0 k).2 = k0 := by subst hk0; rfl
    have hd : (markT .str c0 k).1 = mtx k := by subst hk0; rfl
    have e0 := wmarkText_ok k (by omega)
    have w0 : IntKind.i64.wrap (((k : Nat) : Int) + 1) = (k0 : Int) := by rw [← hk0]; exact wrap_id (by omega) (by omega)
    have ih := wheldStringS_l l h1 post (pre ++ [(markT .str c0 k).1]) (markT .str c0 k).2 (by simp [hl]) hk (fun x hx => hB x (by simp [hx]))
    simp only [List.length_append, List.length_cons, List.length_nil, Int.natCast_add, Int.natCast_one, Nat.zero_add] at ih
    rw [DL_loop]
    rw [hc] at ih ⊢
    rw [hd] at hg hg2
    generalize DL V (.loop wheldStringS_l0) = G at ih ⊢
    simp -implicitDefEqProofs [wheldStringS_l0, hlt, hw, hg, hg2, e0, w0]
    exact ih
theorem wheldStringS_ok (l : List (T.den .str)) (k : Nat) (h1 : l.length ≤ 140737488355328) (hk : (markT (.sl .str) l k).2 ≤ 4611686018427387904) (hB : ∀ x ∈ l, BndM .str x) : V wheldStringS [.d (.sl .str (markT (.sl .str) l k).1), .d (.i .i64 k)] [] = some ([], .one (.fz (.i .i64 ((markT (.sl .str) l k).2 : Nat)))) := by
  rw [V_eq (fn := wheldStringS_m) (by kernel_rfl)]
  have hlen := markL_len .str l k
  have e := wheldStringS_l (markT (.sl .str) l k).1 (by rw [hlen]; exact h1) l [] k (by simp) hk hB
  simp only [List.length_nil, Int.natCast_zero] at e
  simp -implicitDefEqProofs [wheldStringS_m, e]
theorem wtoProp_ok (c0 : List UInt8) (c1 : List UInt8) (c2 : List UInt8) (h : c0.length + c1.length + c2.length ≤ 1048576) : V wtoProp [.agg [.d (.s c0), .d (.s c1), .d (.s c2)]] [] = some ([], .agg [.fz (.s c0), .fz (.s c1), .fz (.s c2)]) := by
  rw [V_eq (fn := wtoProp_m) (by kernel_rfl)]
  simp -implicitDefEqProofs [wtoProp_m]
theorem weqProp_ok (c0 : List UInt8) (c1 : List UInt8) (c2 : List UInt8) (hb : BndT TProp (c0, (c1, c2))) : V weqProp [.agg [.d (.s c0), .d (.s c1), .d (.s c2)], .agg [.d (.s c0), .d (.s c1), .d (.s c2)]] [] = some ([], .one (.fz (.b true))) := by
  rw [V_eq (fn := weqProp_m) (by kernel_rfl)]
  have hb : BndT .str c0 ∧ BndT .str c1 ∧ BndT .str c2 := hb
  simp -implicitDefEqProofs [weqProp_m]
theorem wszProp_ok (c0 : List UInt8) (c1 : List UInt8) (c2 : List UInt8) (hb : BndT TProp (c0, (c1, c2))) (m : Int) (h0 : 0 ≤ m) (hm : m ≤ 1048576) : ∃ r : Int, V wszProp [.agg [.d (.s c0), .d (.s c1), .d (.s c2)], .d (.i .i64 m)] [] = some ([], .one (.fz (.i .i64 r))) ∧ Sized r m (c0.length + c1.length + c2.length) := by
  rw [V_eq (fn := wszProp_m) (by kernel_rfl)]
  have hb : BndT .str c0 ∧ BndT .str c1 ∧ BndT .str c2 := hb
  obtain ⟨r0, q0⟩ : ∃ r : Int, m - (c0.length : Int) = r := ⟨_, rfl⟩
  have w0 : IntKind.i64.wrap (m - (c0.length : Int)) = r0 := by rw [q0]; exact wrap_id (by have : c0.length ≤ 9223372036854775807 := hb.1; omega) (by omega)
  by_cases c0x : r0 < 0
  · exact ⟨-1, by simp -implicitDefEqProofs [wszProp_m, w0, c0x], .inl rfl⟩
  obtain ⟨r1, q1⟩ : ∃ r : Int, r0 - (c1.length : Int) = r := ⟨_, rfl⟩
  have w1 : IntKind.i64.wrap (r0 - (c1.length : Int)) = r1 := by rw [q1]; exact wrap_id (by have : c1.length ≤ 9223372036854775807 := hb.2.1; omega) (by omega)
  by_cases c1x : r1 < 0
  · exact ⟨-1, by simp -implicitDefEqProofs [wszProp_m, w0, c0x, w1, c1x], .inl rfl⟩
  obtain ⟨r2, q2⟩ : ∃ r : Int, r1 - (c2.length : Int) = r := ⟨_, rfl⟩
  have w2 : IntKind.i64.wrap (r1 - (c2.length : Int)) = r2 := by rw [q2]; exact wrap_id (by have : c2.length ≤ 9223372036854775807 := hb.2.2; omega) (by omega)
  by_cases c2x : r2 < 0
  · exact ⟨-1, by simp -implicitDefEqProofs [wszProp_m, w0, c0x, w1, c1x, w2, c2x], .inl rfl⟩
  exact ⟨r2, by simp -implicitDefEqProofs [wszProp_m, w0, c0x, w1, c1x, w2, c2x], .inr ⟨by omega, by omega⟩⟩
theorem wtoPropS_l (l : List (T.den TProp)) (h1 : l.length ≤ 1048576) (hz : ∀ x ∈ l, szT TProp x ≤ 1048576) : ∀ post pre : List (T.den TProp), l = pre ++ post →
    DL V (.loop wtoPropS_l0) ⟨[(4, .d (.i .i64 pre.length)), (3, .h 71 0 l.length), (0, .d (.sl TProp l))], [(71, .ls TProp false (pre ++ List.replicate post.length (T.zero TProp)) 0 [])]⟩ = some (.ex 0, ⟨[(3, .h 71 0 l.length)], [(71, .ls TProp false l 0 [])]⟩)
  | [], pre, hl => by
    rw [DL_loop]
    have : l = pre := by simpa using hl
    subst this
    simp -implicitDefEqProofs [wtoPropS_l0]
  | (c0, (c1, c2)) :: post, pre, hl => by
    have ih := wtoPropS_l l h1 hz post (pre ++ [(c0, (c1, c2))]) (by simp [hl])
    have hg : l[pre.length]? = some (c0, (c1, c2)) := by rw [hl]; exact mid_get _ _ _
    have hlt : pre.length < l.length := by rw [hl]; simp
    have hg2 : l[pre.length] = (c0, (c1, c2)) := (List.getElem?_eq_some_iff.1 hg).2
    have hw := wrap_succ hlt (by omega)
    have e1 := wtoProp_ok c0 c1 c2 (by have := hz (c0, (c1, c2)) (by rw [hl]; simp); simpa [szT, Nat.add_assoc] using this)
    simp only [List.append_assoc, List.cons_append, List.nil_append, List.length_append, List.length_cons, List.length_nil, Int.natCast_add, Int.natCast_one, Nat.zero_add, T.zero] at ih
    rw [DL_loop]
    generalize DL V (.loop wtoPropS_l0) = G at ih ⊢
    simp -implicitDefEqProofs [wtoPropS_l0, hg, hg2, hlt, hw, mid_get, mid_set, List.replicate_succ, e1]
    exact ih
theorem wtoPropS_ok (l : List (T.den TProp)) (h : szT (.sl TProp) l ≤ 1048576) : V wtoPropS [.d (.sl TProp l)] [] = some ([], .one (.own (.sl TProp l))) := by
  rw [V_eq (fn := wtoPropS_m) (by kernel_rfl)]
  obtain ⟨h1, h2⟩ := szT_sl h
  have e := wtoPropS_l l h1 h2 l [] rfl
  simp only [List.nil_append, List.length_nil, Int.natCast_zero] at e
  have hb : (l.length : Int) * 48 ≤ 140737488355328 := by omega
  simp -implicitDefEqProofs [wtoPropS_m, hb] at e ⊢
  simp -implicitDefEqProofs [e]
theorem wszPropS_l (l : List (T.den TProp)) (h1 : l.length ≤ 9223372036854775807) (hb : ∀ x ∈ l, BndT TProp x) : ∀ (post pre : List (T.den TProp)) (m : Int), l = pre ++ post → 0 ≤ m → m ≤ 1048576 →
    ∃ q : (Ex × St), DL V (.loop wszPropS_l0) ⟨[(5, .d (.i .i64 pre.length)), (1, .d (.i .i64 m)), (0, .d (.sl TProp l))], []⟩ = some q ∧ (q = (.ret, ⟨[(4, .d (.i .i64 (-1)))], []⟩) ∨ ∃ r : Int, q = (.ex 0, ⟨[(1, .d (.i .i64 r))], []⟩) ∧ 0 ≤ r ∧ r + (szL TProp post : Nat) = m)
  | [], pre, m, hl, h0, hm => by
    rw [DL_loop]
    have : l = pre := by simpa using hl
    subst this
    exact ⟨(.ex 0, ⟨[(1, .d (.i .i64 m))], []⟩), by simp -implicitDefEqProofs [wszPropS_l0], .inr ⟨m, rfl, h0, by simp [szL]⟩⟩
  | (c0, (c1, c2)) :: post, pre, m, hl, h0, hm => by
    have hg : l[pre.length]? = some (c0, (c1, c2)) := by rw [hl]; exact mid_get _ _ _
    have hlt : pre.length < l.length := by rw [hl]; simp
    have hg2 : l[pre.length] = (c0, (c1, c2)) := (List.getElem?_eq_some_iff.1 hg).2
    have hw := wrap_succ hlt h1
    obtain ⟨r, e1, q0⟩ := wszProp_ok c0 c1 c2 (hb (c0, (c1, c2)) (by rw [hl]; simp)) m h0 hm
    have q : r < 0 ∨ (0 ≤ r ∧ r + (szT TProp (c0, (c1, c2)) : Nat) = m) := by
      rcases q0 with q | q
      · exact .inl (by omega)
      · exact .inr (by simp only [szT, Nat.add_assoc] at *; simpa [Nat.add_assoc] using q)
    rw [DL_loop]
    by_cases c : r < 0
    · exact ⟨(.ret, ⟨[(4, .d (.i .i64 (-1)))], []⟩), by simp -implicitDefEqProofs [wszPropS_l0, hg, hg2, hlt, hw, e1, c], .inl rfl⟩
    · have q : 0 ≤ r ∧ r + (szT TProp (c0, (c1, c2)) : Nat) = m := by omega
      obtain ⟨z, i1, i2⟩ := wszPropS_l l h1 hb post (pre ++ [(c0, (c1, c2))]) r (by simp [hl]) q.1 (by omega)
      simp only [List.length_append, List.length_cons, List.length_nil, Int.natCast_add, Int.natCast_one, Nat.zero_add] at i1
      refine ⟨z, by generalize DL V (.loop wszPropS_l0) = G at i1 ⊢; simp -implicitDefEqProofs [wszPropS_l0, hg, hg2, hlt, hw, e1, c]; exact i1, ?_⟩
      rcases i2 with i2 | ⟨r', i2, i3, i4⟩
      · exact .inl i2
      · exact .inr ⟨r', i2, i3, by rw [szL_cons]; omega⟩
theorem wszPropS_ok (l : List (T.den TProp)) (hb : BndT (.sl TProp) l) (m : Int) (h0 : 0 ≤ m) (hm : m ≤ 1048576) : ∃ r : Int, V wszPropS [.d (.sl TProp l), .d (.i .i64 m)] [] = some ([], .one (.fz (.i .i64 r))) ∧ Sized r m (szT (.sl TProp) l) := by
  rw [V_eq (fn := wszPropS_m) (by kernel_rfl)]
  have h1 : l.length ≤ 9223372036854775807 := hb.1
  have hw : IntKind.i64.wrap (m - (l.length : Int)) = m - (l.length : Int) := wrap_id (by omega) (by omega)
  by_cases c : m - (l.length : Int) < 0
  · exact ⟨-1, by simp -implicitDefEqProofs [wszPropS_m, hw, c], .inl rfl⟩
  · obtain ⟨z, i1, i2⟩ := wszPropS_l l h1 hb.2 l [] (m - (l.length : Int)) rfl (by omega) (by omega)
    simp only [List.length_nil, Int.natCast_zero] at i1
    rcases i2 with i2 | ⟨r, i2, i3, i4⟩
    · rw [i2] at i1; exact ⟨-1, by simp -implicitDefEqProofs [wszPropS_m, hw, c, i1], .inl rfl⟩
    · rw [i2] at i1; exact ⟨r, by simp -implicitDefEqProofs [wszPropS_m, hw, c, i1], .inr ⟨i3, by simp only [szT_slE]; omega⟩⟩
theorem weqPropS_l (l : List (T.den TProp)) (h1 : l.length ≤ 9223372036854775807) (hb : ∀ x ∈ l, BndT TProp x) : ∀ post pre : List (T.den TProp), l = pre ++ post →
    DL V (.loop weqPropS_l0) ⟨[(5, .d (.i .i64 pre.length)), (1, .d (.sl TProp l)), (0, .d (.sl TProp l))], []⟩ = some (.ex 0, ⟨[], []⟩)
  | [], pre, hl => by
    rw [DL_loop]
    have : l = pre := by simpa using hl
    subst this
    simp -implicitDefEqProofs [weqPropS_l0]
  | (c0, (c1, c2)) :: post, pre, hl => by
    have ih := weqPropS_l l h1 hb post (pre ++ [(c0, (c1, c2))]) (by simp [hl])
    have hg : l[pre.length]? = some (c0, (c1, c2)) := by rw [hl]; exact mid_get _ _ _
    have hlt : pre.length < l.length := by rw [hl]; simp
    have hg2 : l[pre.length] = (c0, (c1, c2)) := (List.getElem?_eq_some_iff.1 hg).2
    have hw := wrap_succ hlt h1
    have e1 := weqProp_ok c0 c1 c2 (hb (c0, (c1, c2)) (by rw [hl]; simp))
    simp only [List.length_append, List.length_cons, List.length_nil, Int.natCast_add, Int.natCast_one, Nat.zero_add] at ih
    rw [DL_loop]
    generalize DL V (.loop weqPropS_l0) = G at ih ⊢
    simp -implicitDefEqProofs [weqPropS_l0, hg, hg2, hlt, hw, e1]
    exact ih
theorem weqPropS_ok (l : List (T.den TProp)) (hb : BndT (.sl TProp) l) : V weqPropS [.d (.sl TProp l), .d (.sl TProp l)] [] = some ([], .one (.fz (.b true))) := by
  rw [V_eq (fn := weqPropS_m) (by kernel_rfl)]
  have e := weqPropS_l l hb.1 hb.2 l [] rfl
  simp only [List.length_nil, Int.natCast_zero] at e
  simp -implicitDefEqProofs [weqPropS_m, e]
theorem wmarkPropS_l (n : Nat) : ∀ (post pre : List (T.den TProp)) (k : Nat), n = pre.length + post.length → n ≤ 140737488355328 → (markT (.sl TProp) post k).2 ≤ 4611686018427387904 → (∀ x ∈ post, BndM TProp x) →
    DL V (.loop wmarkPropS_l0) ⟨[(5, .d (.i .i64 pre.length)), (1, .d (.i .i64 k)), (0, .h 0 0 n)], [(0, .ls TProp false (pre ++ post) 0 [])]⟩ = some (.ex 0, ⟨[(1, .d (.i .i64 ((markT (.sl TProp) post k).2 : Nat)))], [(0, .ls TProp false (pre ++ (markT (.sl TProp) post k).1) 0 [])]⟩)
  | [], pre, k, hn, hn2, hk, hB => by
    rw [DL_loop]
    have : n = pre.length := by simpa using hn
    subst this
    simp -implicitDefEqProofs [wmarkPropS_l0, markT, mkFold]
  | (c0, (c1, c2)) :: post, pre, k, hn, hn2, hk, hB => by
    have hlt : pre.length < n := by rw [hn]; simp
    have hw := wrap_succ hlt (by omega)
    change (markT (.sl TProp) post (markT TProp (c0, (c1, c2)) k).2).2 ≤ 4611686018427387904 at hk
    change _ = some (Ex.ex 0, (⟨[(1, .d (.i .i64 ((markT (.sl TProp) post (markT TProp (c0, (c1, c2)) k).2).2 : Nat)))], [(0, .ls TProp false (pre ++ (markT TProp (c0, (c1, c2)) k).1 :: (markT (.sl TProp) post (markT TProp (c0, (c1, c2)) k).2).1) 0 [])]⟩ : St))
    have hB0 := hB (c0, (c1, c2)) (by simp)
    have hB0 : BndM .str c0 ∧ BndM .str c1 ∧ BndM .str c2 := hB0
    have hmono := markT_le (.sl TProp) post (markT TProp (c0, (c1, c2)) k).2
    have hm0 := markT_le TProp (c0, (c1, c2)) k
    obtain ⟨k0, hk0⟩ : ∃ k0, k + 1 = k0 := ⟨_, rfl⟩
    obtain ⟨k1, hk1⟩ : ∃ k1, k0 + 1 = k1 := ⟨_, rfl⟩
    obtain ⟨k2, hk2⟩ : ∃ k2, k1 + 1 = k2 := ⟨_, rfl⟩
    have hc : (markT TProp (c0, (c1, c2)) k).2 = k2 := by subst hk0 hk1 hk2; rfl
    have hd : (markT TProp (c0, (c1, c2)) k).1 = (mtx k, (mtx k0, mtx k1)) := by subst hk0 hk1 hk2; rfl
    have e0 := wmarkText_ok k (by omega)
    have w0 : IntKind.i64.wrap (((k : Nat) : Int) + 1) = (k0 : Int) := by rw [← hk0]; exact wrap_id (by omega) (by omega)
    have e1 := wmarkText_ok k0 (by omega)
    have w1 : IntKind.i64.wrap (((k0 : Nat) : Int) + 1) = (k1 : Int) := by rw [← hk1]; exact wrap_id (by omega) (by omega)
    have e2 := wmarkText_ok k1 (by omega)
    have w2 : IntKind.i64.wrap (((k1 : Nat) : Int) + 1) = (k2 : Int) := by rw [← hk2]; exact wrap_id (by omega) (by omega)
    have ih := wmarkPropS_l n post (pre ++ [(markT TProp (c0, (c1, c2)) k).1]) (markT TProp (c0, (c1, c2)) k).2 (by simp at hn ⊢; omega) hn2 hk (fun x hx => hB x (by simp [hx]))
    simp only [List.append_assoc, List.cons_append, List.nil_append, List.length_append, List.length_cons, List.length_nil, Int.natCast_add, Int.natCast_one, Nat.zero_add] at ih
    rw [DL_loop]
    rw [hc, hd] at ih ⊢
    generalize DL V (.loop wmarkPropS_l0) = G at ih ⊢
    simp -implicitDefEqProofs [wmarkPropS_l0, hlt, hw, mid_get, mid_set, e0, w0, e1, w1, e2, w2]
    exact ih
theorem wmarkPropS_ok (l : List (T.den TProp)) (k : Nat) (h1 : l.length ≤ 140737488355328) (hk : (markT (.sl TProp) l k).2 ≤ 4611686018427387904) (hB : ∀ x ∈ l, BndM TProp x) : V wmarkPropS [.h 0 0 l.length, .d (.i .i64 k)] [.ls TProp false l 0 []] = some ([some (.ls TProp false (markT (.sl TProp) l k).1 0 [])], .one (.fz (.i .i64 ((markT (.sl TProp) l k).2 : Nat)))) := by
  rw [V_eq (fn := wmarkPropS_m) (by kernel_rfl)]
  have e := wmarkPropS_l l.length l [] k (by simp) h1 hk hB
  simp only [List.length_nil, Int.natCast_zero, List.nil_append] at e
  simp -implicitDefEqProofs [wmarkPropS_m, e]
theorem wheldPropS_l (l : List (T.den TProp)) (h1 : l.length ≤ 140737488355328) : ∀ (post pre : List (T.den TProp)) (k : Nat), l = pre ++ (markT (.sl TProp) post k).1 → (markT (.sl TProp) post k).2 ≤ 4611686018427387904 → (∀ x ∈ post, BndM TProp x) →
    DL V (.loop wheldPropS_l0) ⟨[(5, .d (.i .i64 pre.length)), (1, .d (.i .i64 k)), (0, .d (.sl TProp l))], []⟩ = some (.ex 0, ⟨[(1, .d (.i .i64 ((markT (.sl TProp) post k).2 : Nat)))], []⟩)
  | [], pre, k, hl, hk, hB => by
    rw [DL_loop]
    have : l = pre := by simpa [markT, mkFold] using hl
    subst this
    simp -implicitDefEqProofs [wheldPropS_l0, markT, mkFold]
  | (c0, (c1, c2)) :: post, pre, k, hl, hk, hB => by
    change l = pre ++ (markT TProp (c0, (c1, c2)) k).1 :: (markT (.sl TProp) post (markT TProp (c0, (c1, c2)) k).2).1 at hl
    change (markT (.sl TProp) post (markT TProp (c0, (c1, c2)) k).2).2 ≤ 4611686018427387904 at hk
    change _ = some (Ex.ex 0, (⟨[(1, .d (.i .i64 ((markT (.sl TProp) post (markT TProp (c0, (c1, c2)) k).2).2 : Nat)))], []⟩ : St))
    have hlt : pre.length < l.length := by rw [hl]; simp
    have hw := wrap_succ hlt (by omega)
    have hmono := markT_le (.sl TProp) post (markT TProp (c0, (c1, c2)) k).2
    have hm0 := markT_le TProp (c0, (c1, c2)) k
    have hB0 := hB (c0, (c1, c2)) (by simp)
    have hg : l[pre.length]? = some (markT TProp (c0, (c1, c2)) k).1 := by rw [hl]; exact mid_get _ _ _
    have hg2 : l[pre.length] = (markT TProp (c0, (c1, c2)) k).1 := (List.getElem?_eq_some_iff.1 hg).2
    have hB0 : BndM .str c0 ∧ BndM .str c1 ∧ BndM .str c2 := hB0
    obtain ⟨k0, hk0⟩ : ∃ k0, k + 1 = k0 := ⟨_, rfl⟩
    obtain ⟨k1, hk1⟩ : ∃ k1, k0 + 1 = k1 := ⟨_, rfl⟩
    obtain ⟨k2, hk2⟩ : ∃ k2, k1 + 1 = k2 := ⟨_, rfl⟩
    have hc : (markT TProp (c0, (c1, c2)) k).2 = k2 := by subst hk0 hk1 hk2; rfl
    have hd : (markT TProp (c0, (c1, c2)) k).1 = (mtx k, (mtx k0, mtx k1)) := by subst hk0 hk1 hk2; rfl
    have e0 := wmarkText_ok k (by omega)
    have w0 : IntKind.i64.wrap (((k : Nat) : Int) + 1) = (k0 : Int) := by rw [← hk0]; exact wrap_id (by omega) (by omega)
    have e1 := wmarkText_ok k0 (by omega)
    have w1 : IntKind.i64.wrap (((k0 : Nat) : Int) + 1) = (k1 : Int) := by rw [← hk1]; exact wrap_id (by omega) (by omega)
    have e2 := wmarkText_ok k1 (by omega)
    have w2 : IntKind.i64.wrap (((k1 : Nat) : Int) + 1) = (k2 : Int) := by rw [← hk2]; exact wrap_id (by omega) (by omega)
    have ih := wheldPropS_l l h1 post (pre ++ [(markT TProp (c0, (c1, c2)) k).1]) (markT TProp (c0, (c1, c2)) k).2 (by simp [hl]) hk (fun x hx => hB x (by simp [hx]))
    simp only [List.length_append, List.length_cons, List.length_nil, Int.natCast_add, Int.natCast_one, Nat.zero_add] at ih
    rw [DL_loop]
    rw [hc] at ih ⊢
    rw [hd] at hg hg2
    generalize DL V (.loop wheldPropS_l0) = G at ih ⊢
    simp -implicitDefEqProofs [wheldPropS_l0, hlt, hw, hg, hg2, e0, w0, e1, w1, e2, w2]
    exact ih
theorem wheldPropS_ok (l : List (T.den TProp)) (k : Nat) (h1 : l.length ≤ 140737488355328) (hk : (markT (.sl TProp) l k).2 ≤ 4611686018427387904) (hB : ∀ x ∈ l, BndM TProp x) : V wheldPropS [.d (.sl TProp (markT (.sl TProp) l k).1), .d (.i .i64 k)] [] = some ([], .one (.fz (.i .i64 ((markT (.sl TProp) l k).2 : Nat)))) := by
  rw [V_eq (fn := wheldPropS_m) (by kernel_rfl)]
  have hlen := markL_len TProp l k
  have e := wheldPropS_l (markT (.sl TProp) l k).1 (by rw [hlen]; exact h1) l [] k (by simp) hk hB
  simp only [List.length_nil, Int.natCast_zero] at e
  simp -implicitDefEqProofs [wheldPropS_m, e]
theorem wtoRes_ok (c0 : List (T.den .str)) (c1 : Bool) (c2 : List UInt8) (c3 : Int) (c4 : List (T.den TProp)) (h : szT (.sl .str) c0 + c2.length + szT (.sl TProp) c4 ≤ 1048576) : V wtoRes [.agg [.d (.sl .str c0), .d (.b c1), .d (.s c2), .d (.i .i64 c3), .d (.sl TProp c4)]] [] = some ([], .agg [.own (.sl .str c0), .fz (.b c1), .fz (.s c2), .fz (.i .i64 c3), .own (.sl TProp c4)]) := by
  rw [V_eq (fn := wtoRes_m) (by kernel_rfl)]
  have e0 := wtoStringS_ok c0 (by omega)
  have e4 := wtoPropS_ok c4 (by omega)
  simp -implicitDefEqProofs [wtoRes_m, e0, e4]
theorem weqRes_ok (c0 : List (T.den .str)) (c1 : Bool) (c2 : List UInt8) (c3 : Int) (c4 : List (T.den TProp)) (hb : BndT TRes (c0, (c1, (c2, (c3, c4))))) : V weqRes [.agg [.d (.sl .str c0), .d (.b c1), .d (.s c2), .d (.i .i64 c3), .d (.sl TProp c4)], .agg [.d (.sl .str c0), .d (.b c1), .d (.s c2), .d (.i .i64 c3), .d (.sl TProp c4)]] [] = some ([], .one (.fz (.b true))) := by
  rw [V_eq (fn := weqRes_m) (by kernel_rfl)]
  have hb : BndT (.sl .str) c0 ∧ BndT .bool c1 ∧ BndT .str c2 ∧ BndT (.int .i64) c3 ∧ BndT (.sl TProp) c4 := hb
  have e0 := weqStringS_ok c0 hb.1
  have e4 := weqPropS_ok c4 hb.2.2.2.2
  simp -implicitDefEqProofs [weqRes_m, e0, e4]
theorem wszRes_ok (c0 : List (T.den .str)) (c1 : Bool) (c2 : List UInt8) (c3 : Int) (c4 : List (T.den TProp)) (hb : BndT TRes (c0, (c1, (c2, (c3, c4))))) (m : Int) (h0 : 0 ≤ m) (hm : m ≤ 1048576) : ∃ r : Int, V wszRes [.agg [.d (.sl .str c0), .d (.b c1), .d (.s c2), .d (.i .i64 c3), .d (.sl TProp c4)], .d (.i .i64 m)] [] = some ([], .one (.fz (.i .i64 r))) ∧ Sized r m (szT (.sl .str) c0 + c2.length + szT (.sl TProp) c4) := by
  rw [V_eq (fn := wszRes_m) (by kernel_rfl)]
  have hb : BndT (.sl .str) c0 ∧ BndT .bool c1 ∧ BndT .str c2 ∧ BndT (.int .i64) c3 ∧ BndT (.sl TProp) c4 := hb
  obtain ⟨r0, e0, q0⟩ := wszStringS_ok c0 hb.1 m (by omega) (by omega)
  by_cases c0x : r0 < 0
  · exact ⟨-1, by simp -implicitDefEqProofs [wszRes_m, e0, c0x], .inl rfl⟩
  have p0 : 0 ≤ r0 ∧ r0 + (szT (.sl .str) c0 : Nat) = m := by rcases q0 with q | q <;> omega
  obtain ⟨r2, q2⟩ : ∃ r : Int, r0 - (c2.length : Int) = r := ⟨_, rfl⟩
  have w2 : IntKind.i64.wrap (r0 - (c2.length : Int)) = r2 := by rw [q2]; exact wrap_id (by have : c2.length ≤ 9223372036854775807 := hb.2.2.1; omega) (by omega)
  by_cases c2x : r2 < 0
  · exact ⟨-1, by simp -implicitDefEqProofs [wszRes_m, e0, c0x, w2, c2x], .inl rfl⟩
  obtain ⟨r4, e4, q4⟩ := wszPropS_ok c4 hb.2.2.2.2 r2 (by omega) (by omega)
  by_cases c4x : r4 < 0
  · exact ⟨-1, by simp -implicitDefEqProofs [wszRes_m, e0, c0x, w2, c2x, e4, c4x], .inl rfl⟩
  have p4 : 0 ≤ r4 ∧ r4 + (szT (.sl TProp) c4 : Nat) = r2 := by rcases q4 with q | q <;> omega
  exact ⟨r4, by simp -implicitDefEqProofs [wszRes_m, e0, c0x, w2, c2x, e4, c4x], .inr ⟨by omega, by omega⟩⟩
theorem wtoResS_l (l : List (T.den TRes)) (h1 : l.length ≤ 1048576) (hz : ∀ x ∈ l, szT TRes x ≤ 1048576) : ∀ post pre : List (T.den TRes), l = pre ++ post →
    DL V (.loop wtoResS_l0) ⟨[(4, .d (.i .i64 pre.length)), (3, .h 71 0 l.length), (0, .d (.sl TRes l))], [(71, .ls TRes false (pre ++ List.replicate post.length (T.zero TRes)) 0 [])]⟩ = some (.ex 0, ⟨[(3, .h 71 0 l.length)], [(71, .ls TRes false l 0 [])]⟩)
  | [], pre, hl => by
    rw [DL_loop]
    have : l = pre := by simpa using hl
    subst this
    simp -implicitDefEqProofs [wtoResS_l0]
  | (c0, (c1, (c2, (c3, c4)))) :: post, pre, hl => by
    have ih := wtoResS_l l h1 hz post (pre ++ [(c0, (c1, (c2, (c3, c4))))]) (by simp [hl])
    have hg : l[pre.length]? = some (c0, (c1, (c2, (c3, c4)))) := by rw [hl]; exact mid_get _ _ _
    have hlt : pre.length < l.length := by rw [hl]; simp
    have hg2 : l[pre.length] = (c0, (c1, (c2, (c3, c4)))) := (List.getElem?_eq_some_iff.1 hg).2
    have hw := wrap_succ hlt (by omega)
    have e1 := wtoRes_ok c0 c1 c2 c3 c4 (by have := hz (c0, (c1, (c2, (c3, c4)))) (by rw [hl]; simp); simpa [szT, Nat.add_assoc] using this)
    simp only [List.append_assoc, List.cons_append, List.nil_append, List.length_append, List.length_cons, List.length_nil, Int.natCast_add, Int.natCast_one, Nat.zero_add, T.zero] at ih
    rw [DL_loop]
    generalize DL V (.loop wtoResS_l0) = G at ih ⊢
    simp -implicitDefEqProofs [wtoResS_l0, hg, hg2, hlt, hw, mid_get, mid_set, List.replicate_succ, e1]
    exact ih
theorem wtoResS_ok (l : List (T.den TRes)) (h : szT (.sl TRes) l ≤ 1048576) : V wtoResS [.d (.sl TRes l)] [] = some ([], .one (.own (.sl TRes l))) := by
  rw [V_eq (fn := wtoResS_m) (by kernel_rfl)]
  obtain ⟨h1, h2⟩ := szT_sl h
  have e := wtoResS_l l h1 h2 l [] rfl
  simp only [List.nil_append, List.length_nil, Int.natCast_zero] at e
  have hb : (l.length : Int) * 80 ≤ 140737488355328 := by omega
  simp -implicitDefEqProofs [wtoResS_m, hb] at e ⊢
  simp -implicitDefEqProofs [e]
theorem wszResS_l (l : List (T.den TRes)) (h1 : l.length ≤ 9223372036854775807) (hb : ∀ x ∈ l, BndT TRes x) : ∀ (post pre : List (T.den TRes)) (m : Int), l = pre ++ post → 0 ≤ m → m ≤ 1048576 →
    ∃ q : (Ex × St), DL V (.loop wszResS_l0) ⟨[(5, .d (.i .i64 pre.length)), (1, .d (.i .i64 m)), (0, .d (.sl TRes l))], []⟩ = some q ∧ (q = (.ret, ⟨[(4, .d (.i .i64 (-1)))], []⟩) ∨ ∃ r : Int, q = (.ex 0, ⟨[(1, .d (.i .i64 r))], []⟩) ∧ 0 ≤ r ∧ r + (szL TRes post : Nat) = m)
  | [], pre, m, hl, h0, hm => by
    rw [DL_loop]
    have : l = pre := by simpa using hl
    subst this
    exact ⟨(.ex 0, ⟨[(1, .d (.i .i64 m))], []⟩), by simp -implicitDefEqProofs [wszResS_l0], .inr ⟨m, rfl, h0, by simp [szL]⟩⟩
  | (c0, (c1, (c2, (c3, c4)))) :: post, pre, m, hl, h0, hm => by
    have hg : l[pre.length]? = some (c0, (c1, (c2, (c3, c4)))) := by rw [hl]; exact mid_get _ _ _
    have hlt : pre.length < l.length := by rw [hl]; simp
    have hg2 : l[pre.length] = (c0, (c1, (c2, (c3, c4)))) := (List.getElem?_eq_some_iff.1 hg).2
    have hw := wrap_succ hlt h1
    obtain ⟨r, e1, q0⟩ := wszRes_ok c0 c1 c2 c3 c4 (hb (c0, (c1, (c2, (c3, c4)))) (by rw [hl]; simp)) m h0 hm
    have q : r < 0 ∨ (0 ≤ r ∧ r + (szT TRes (c0, (c1, (c2, (c3, c4)))) : Nat) = m) := by
      rcases q0 with q | q
      · exact .inl (by omega)
      · exact .inr (by simp only [szT, Nat.add_assoc] at *; simpa [Nat.add_assoc] using q)
    rw [DL_loop]
    by_cases c : r < 0
    · exact ⟨(.ret, ⟨[(4, .d (.i .i64 (-1)))], []⟩), by simp -implicitDefEqProofs [wszResS_l0, hg, hg2, hlt, hw, e1, c], .inl rfl⟩
    · have q : 0 ≤ r ∧ r + (szT TRes (c0, (c1, (c2, (c3, c4)))) : Nat) = m := by omega
      obtain ⟨z, i1, i2⟩ := wszResS_l l h1 hb post (pre ++ [(c0, (c1, (c2, (c3, c4))))]) r (by simp [hl]) q.1 (by omega)
      simp only [List.length_append, List.length_cons, List.length_nil, Int.natCast_add, Int.natCast_one, Nat.zero_add] at i1
      refine ⟨z, by generalize DL V (.loop wszResS_l0) = G at i1 ⊢; simp -implicitDefEqProofs [wszResS_l0, hg, hg2, hlt, hw, e1, c]; exact i1, ?_⟩
      rcases i2 with i2 | ⟨r', i2, i3, i4⟩
      · exact .inl i2
      · exact .inr ⟨r', i2, i3, by rw [szL_cons]; omega⟩
theorem wszResS_ok (l : List (T.den TRes)) (hb : BndT (.sl TRes) l) (m : Int) (h0 : 0 ≤ m) (hm : m ≤ 1048576) : ∃ r : Int, V wszResS [.d (.sl TRes l), .d (.i .i64 m)] [] = some ([], .one (.fz (.i .i64 r))) ∧ Sized r m (szT (.sl TRes) l) := by
  rw [V_eq (fn := wszResS_m) (by kernel_rfl)]
  have h1 : l.length ≤ 9223372036854775807 := hb.1
  have hw : IntKind.i64.wrap (m - (l.length : Int)) = m - (l.length : Int) := wrap_id (by omega) (by omega)
  by_cases c : m - (l.length : Int) < 0
  · exact ⟨-1, by simp -implicitDefEqProofs [wszResS_m, hw, c], .inl rfl⟩
  · obtain ⟨z, i1, i2⟩ := wszResS_l l h1 hb.2 l [] (m - (l.length : Int)) rfl (by omega) (by omega)
    simp only [List.length_nil, Int.natCast_zero] at i1
    rcases i2 with i2 | ⟨r, i2, i3, i4⟩
    · rw [i2] at i1; exact ⟨-1, by simp -implicitDefEqProofs [wszResS_m, hw, c, i1], .inl rfl⟩
    · rw [i2] at i1; exact ⟨r, by simp -implicitDefEqProofs [wszResS_m, hw, c, i1], .inr ⟨i3, by simp only [szT_slE]; omega⟩⟩
theorem weqResS_l (l : List (T.den TRes)) (h1 : l.length ≤ 9223372036854775807) (hb : ∀ x ∈ l, BndT TRes x) : ∀ post pre : List (T.den TRes), l = pre ++ post →
    DL V (.loop weqResS_l0) ⟨[(5, .d (.i .i64 pre.length)), (1, .d (.sl TRes l)), (0, .d (.sl TRes l))], []⟩ = some (.ex 0, ⟨[], []⟩)
  | [], pre, hl => by
    rw [DL_loop]
    have : l = pre := by simpa using hl
    subst this
    simp -implicitDefEqProofs [weqResS_l0]
  | (c0, (c1, (c2, (c3, c4)))) :: post, pre, hl => by
    have ih := weqResS_l l h1 hb post (pre ++ [(c0, (c1, (c2, (c3, c4))))]) (by simp [hl])
    have hg : l[pre.length]? = some (c0, (c1, (c2, (c3, c4)))) := by rw [hl]; exact mid_get _ _ _
    have hlt : pre.length < l.length := by rw [hl]; simp
    have hg2 : l[pre.length] = (c0, (c1, (c2, (c3, c4)))) := (List.getElem?_eq_some_iff.1 hg).2
    have hw := wrap_succ hlt h1
    have e1 := weqRes_ok c0 c1 c2 c3 c4 (hb (c0, (c1, (c2, (c3, c4)))) (by rw [hl]; simp))
    simp only [List.length_append, List.length_cons, List.length_nil, Int.natCast_add, Int.natCast_one, Nat.zero_add] at ih
    rw [DL_loop]
    generalize DL V (.loop weqResS_l0) = G at ih ⊢
    simp -implicitDefEqProofs [weqResS_l0, hg, hg2, hlt, hw, e1]
    exact ih
theorem weqResS_ok (l : List (T.den TRes)) (hb : BndT (.sl TRes) l) : V weqResS [.d (.sl TRes l), .d (.sl TRes l)] [] = some ([], .one (.fz (.b true))) := by
  rw [V_eq (fn := weqResS_m) (by kernel_rfl)]
  have e := weqResS_l l hb.1 hb.2 l [] rfl
  simp only [List.length_nil, Int.natCast_zero] at e
  simp -implicitDefEqProofs [weqResS_m, e]
theorem wmarkResS_l (n : Nat) : ∀ (post pre : List (T.den TRes)) (k : Nat), n = pre.length + post.length → n ≤ 140737488355328 → (markT (.sl TRes) post k).2 ≤ 4611686018427387904 → (∀ x ∈ post, BndM TRes x) →
    DL V (.loop wmarkResS_l0) ⟨[(5, .d (.i .i64 pre.length)), (1, .d (.i .i64 k)), (0, .h 0 0 n)], [(0, .ls TRes false (pre ++ post) 0 [])]⟩ = some (.ex 0, ⟨[(1, .d (.i .i64 ((markT (.sl TRes) post k).2 : Nat)))], [(0, .ls TRes false (pre ++ (markT (.sl TRes) post k).1) 0 [])]⟩)
  | [], pre, k, hn, hn2, hk, hB => by
    rw [DL_loop]
    have : n = pre.length := by simpa using hn
    subst this
    simp -implicitDefEqProofs [wmarkResS_l0, markT, mkFold]
  | (c0, (c1, (c2, (c3, c4)))) :: post, pre, k, hn, hn2, hk, hB => by
    have hlt : pre.length < n := by rw [hn]; simp
    have hw := wrap_succ hlt (by omega)
    change (markT (.sl TRes) post (markT TRes (c0, (c1, (c2, (c3, c4)))) k).2).2 ≤ 4611686018427387904 at hk
    change _ = some (Ex.ex 0, (⟨[(1, .d (.i .i64 ((markT (.sl TRes) post (markT TRes (c0, (c1, (c2, (c3, c4)))) k).2).2 : Nat)))], [(0, .ls TRes false (pre ++ (markT TRes (c0, (c1, (c2, (c3, c4)))) k).1 :: (markT (.sl TRes) post (markT TRes (c0, (c1, (c2, (c3, c4)))) k).2).1) 0 [])]⟩ : St))
    have hB0 := hB (c0, (c1, (c2, (c3, c4)))) (by simp)
    have hB0 : BndM (.sl .str) c0 ∧ BndM .bool c1 ∧ BndM .str c2 ∧ BndM (.int .i64) c3 ∧ BndM (.sl TProp) c4 := hB0
    have hmono := markT_le (.sl TRes) post (markT TRes (c0, (c1, (c2, (c3, c4)))) k).2
    have hm0 := markT_le TRes (c0, (c1, (c2, (c3, c4)))) k
    obtain ⟨k0, hk0⟩ : ∃ k0, (markT (.sl .str) c0 k).2 = k0 := ⟨_, rfl⟩
    obtain ⟨k1, hk1⟩ : ∃ k1, k0 + 1 = k1 := ⟨_, rfl⟩
    obtain ⟨k2, hk2⟩ : ∃ k2, k1 + 1 = k2 := ⟨_, rfl⟩
    obtain ⟨k3, hk3⟩ : ∃ k3, k2 + 1 = k3 := ⟨_, rfl⟩
    obtain ⟨k4, hk4⟩ : ∃ k4, (markT (.sl TProp) c4 k3).2 = k4 := ⟨_, rfl⟩
    have hc : (markT TRes (c0, (c1, (c2, (c3, c4)))) k).2 = k4 := by subst hk0 hk1 hk2 hk3 hk4; rfl
    have hd : (markT TRes (c0, (c1, (c2, (c3, c4)))) k).1 = ((markT (.sl .str) c0 k).1, (decide (k0 % 3 = 0), (mtx k1, (((k2 : Nat) : Int), (markT (.sl TProp) c4 k3).1)))) := by subst hk0 hk1 hk2 hk3 hk4; rfl
    have y0 := markT_le (.sl .str) c0 k
    have y4 := markT_le (.sl TProp) c4 k3
    have e0 := wmarkStringS_ok c0 k hB0.1.1 (by omega) hB0.1.2
    rw [hk0] at e0
    have z0 := markL_len .str c0 k
    have e1 := tmod3 k0
    have w1 : IntKind.i64.wrap (((k0 : Nat) : Int) + 1) = (k1 : Int) := by rw [← hk1]; exact wrap_id (by omega) (by omega)
    have e2 := wmarkText_ok k1 (by omega)
    have w2 : IntKind.i64.wrap (((k1 : Nat) : Int) + 1) = (k2 : Int) := by rw [← hk2]; exact wrap_id (by omega) (by omega)
    have e3 : IntKind.i64.wrap ((k2 : Nat) : Int) = ((k2 : Nat) : Int) := wrap_id (by omega) (by omega)
    have w3 : IntKind.i64.wrap (((k2 : Nat) : Int) + 1) = (k3 : Int) := by rw [← hk3]; exact wrap_id (by omega) (by omega)
    have e4 := wmarkPropS_ok c4 k3 hB0.2.2.2.2.1 (by omega) hB0.2.2.2.2.2
    rw [hk4] at e4
    have z4 := markL_len TProp c4 k3
    have ih := wmarkResS_l n post (pre ++ [(markT TRes (c0, (c1, (c2, (c3, c4)))) k).1]) (markT TRes (c0, (c1, (c2, (c3, c4)))) k).2 (by simp at hn ⊢; omega) hn2 hk (fun x hx => hB x (by simp [hx]))
    simp only [List.append_assoc, List.cons_append, List.nil_append, List.length_append, List.length_cons, List.length_nil, Int.natCast_add, Int.natCast_one, Nat.zero_add] at ih
    rw [DL_loop]
    rw [hc, hd] at ih ⊢
    generalize DL V (.loop wmarkResS_l0) = G at ih ⊢
    simp -implicitDefEqProofs [wmarkResS_l0, hlt, hw, mid_get, mid_set, e0, z0, e1, w1, e2, w2, e3, w3, e4, z4]
    exact ih
theorem wmarkResS_ok (l : List (T.den TRes)) (k : Nat) (h1 : l.length ≤ 140737488355328) (hk : (markT (.sl TRes) l k).2 ≤ 4611686018427387904) (hB : ∀ x ∈ l, BndM TRes x) : V wmarkResS [.h 0 0 l.length, .d (.i .i64 k)] [.ls TRes false l 0 []] = some ([some (.ls TRes false (markT (.sl TRes) l k).1 0 [])], .one (.fz (.i .i64 ((markT (.sl TRes) l k).2 : Nat)))) := by
  rw [V_eq (fn := wmarkResS_m) (by kernel_rfl)]
  have e := wmarkResS_l l.length l [] k (by simp) h1 hk hB
  simp only [List.length_nil, Int.natCast_zero, List.nil_append] at e
  simp -implicitDefEqProofs [wmarkResS_m, e]
theorem wheldResS_l (l : List (T.den TRes)) (h1 : l.length ≤ 140737488355328) : ∀ (post pre : List (T.den TRes)) (k : Nat), l = pre ++ (markT (.sl TRes) post k).1 → (markT (.sl TRes) post k).2 ≤ 4611686018427387904 → (∀ x ∈ post, BndM TRes x) →
    DL V (.loop wheldResS_l0) ⟨[(5, .d (.i .i64 pre.length)), (1, .d (.i .i64 k)), (0, .d (.sl TRes l))], []⟩ = some (.ex 0, ⟨[(1, .d (.i .i64 ((markT (.sl TRes) post k).2 : Nat)))], []⟩)
  | [], pre, k, hl, hk, hB => by
    rw [DL_loop]
    have : l = pre := by simpa [markT, mkFold] using hl
    subst this
    simp -implicitDefEqProofs [wheldResS_l0, markT, mkFold]
  | (c0, (c1, (c2, (c3, c4)))) :: post, pre, k, hl, hk, hB => by
    change l = pre ++ (markT TRes (c0, (c1, (c2, (c3, c4)))) k).1 :: (markT (.sl TRes) post (markT TRes (c0, (c1, (c2, (c3, c4)))) k).2).1 at hl
    change (markT (.sl TRes) post (markT TRes (c0, (c1, (c2, (c3, c4)))) k).2).2 ≤ 4611686018427387904 at hk
    change _ = some (Ex.ex 0, (⟨[(1, .d (.i .i64 ((markT (.sl TRes) post (markT TRes (c0, (c1, (c2, (c3, c4)))) k).2).2 : Nat)))], []⟩ : St))
    have hlt : pre.length < l.length := by rw [hl]; simp
    have hw := wrap_succ hlt (by omega)
    have hmono := markT_le (.sl TRes) post (markT TRes (c0, (c1, (c2, (c3, c4)))) k).2
    have hm0 := markT_le TRes (c0, (c1, (c2, (c3, c4)))) k
    have hB0 := hB (c0, (c1, (c2, (c3, c4)))) (by simp)
    have hg : l[pre.length]? = some (markT TRes (c0, (c1, (c2, (c3, c4)))) k).1 := by rw [hl]; exact mid_get _ _ _
    have hg2 : l[pre.length] = (markT TRes (c0, (c1, (c2, (c3, c4)))) k).1 := (List.getElem?_eq_some_iff.1 hg).2
    have hB0 : BndM (.sl .str) c0 ∧ BndM .bool c1 ∧ BndM .str c2 ∧ BndM (.int .i64) c3 ∧ BndM (.sl TProp) c4 := hB0
    obtain ⟨k0, hk0⟩ : ∃ k0, (markT (.sl .str) c0 k).2 = k0 := ⟨_, rfl⟩
    obtain ⟨k1, hk1⟩ : ∃ k1, k0 + 1 = k1 := ⟨_, rfl⟩
    obtain ⟨k2, hk2⟩ : ∃ k2, k1 + 1 = k2 := ⟨_, rfl⟩
    obtain ⟨k3, hk3⟩ : ∃ k3, k2 + 1 = k3 := ⟨_, rfl⟩
    obtain ⟨k4, hk4⟩ : ∃ k4, (markT (.sl TProp) c4 k3).2 = k4 := ⟨_, rfl⟩
    have hc : (markT TRes (c0, (c1, (c2, (c3, c4)))) k).2 = k4 := by subst hk0 hk1 hk2 hk3 hk4; rfl
    have hd : (markT TRes (c0, (c1, (c2, (c3, c4)))) k).1 = ((markT (.sl .str) c0 k).1, (decide (k0 % 3 = 0), (mtx k1, (((k2 : Nat) : Int), (markT (.sl TProp) c4 k3).1)))) := by subst hk0 hk1 hk2 hk3 hk4; rfl
    have y0 := markT_le (.sl .str) c0 k
    have y4 := markT_le (.sl TProp) c4 k3
    have e0 := wheldStringS_ok c0 k hB0.1.1 (by omega) hB0.1.2
    rw [hk0] at e0
    have e1 := tmod3 k0
    have w1 : IntKind.i64.wrap (((k0 : Nat) : Int) + 1) = (k1 : Int) := by rw [← hk1]; exact wrap_id (by omega) (by omega)
    have e2 := wmarkText_ok k1 (by omega)
    have w2 : IntKind.i64.wrap (((k1 : Nat) : Int) + 1) = (k2 : Int) := by rw [← hk2]; exact wrap_id (by omega) (by omega)
    have e3 : IntKind.i64.wrap ((k2 : Nat) : Int) = ((k2 : Nat) : Int) := wrap_id (by omega) (by omega)
    have w3 : IntKind.i64.wrap (((k2 : Nat) : Int) + 1) = (k3 : Int) := by rw [← hk3]; exact wrap_id (by omega) (by omega)
    have e4 := wheldPropS_ok c4 k3 hB0.2.2.2.2.1 (by omega) hB0.2.2.2.2.2
    rw [hk4] at e4
    have ih := wheldResS_l l h1 post (pre ++ [(markT TRes (c0, (c1, (c2, (c3, c4)))) k).1]) (markT TRes (c0, (c1, (c2, (c3, c4)))) k).2 (by simp [hl]) hk (fun x hx => hB x (by simp [hx]))
    simp only [List.length_append, List.length_cons, List.length_nil, Int.natCast_add, Int.natCast_one, Nat.zero_add] at ih
    rw [DL_loop]
    rw [hc] at ih ⊢
    rw [hd] at hg hg2
    generalize DL V (.loop wheldResS_l0) = G at ih ⊢
    simp -implicitDefEqProofs [wheldResS_l0, hlt, hw, hg, hg2, e0, e1, w1, e2, w2, e3, w3, e4]
    exact ih
theorem wheldResS_ok (l : List (T.den TRes)) (k : Nat) (h1 : l.length ≤ 140737488355328) (hk : (markT (.sl TRes) l k).2 ≤ 4611686018427387904) (hB : ∀ x ∈ l, BndM TRes x) : V wheldResS [.d (.sl TRes (markT (.sl TRes) l k).1), .d (.i .i64 k)] [] = some ([], .one (.fz (.i .i64 ((markT (.sl TRes) l k).2 : Nat)))) := by
  rw [V_eq (fn := wheldResS_m) (by kernel_rfl)]
  have hlen := markL_len TRes l k
  have e := wheldResS_l (markT (.sl TRes) l k).1 (by rw [hlen]; exact h1) l [] k (by simp) hk hB
  simp only [List.length_nil, Int.natCast_zero] at e
  simp -implicitDefEqProofs [wheldResS_m, e]
theorem wtoLock_ok (c0 : Int) (c1 : List (T.den .str)) (c2 : Bool) (c3 : Bool) (c4 : Int) (h : szT (.sl .str) c1 ≤ 1048576) : V wtoLock [.agg [.d (.i .i64 c0), .d (.sl .str c1), .d (.b c2), .d (.b c3), .d (.i .i64 c4)]] [] = some ([], .agg [.fz (.i .i64 c0), .own (.sl .str c1), .fz (.b c2), .fz (.b c3), .fz (.i .i64 c4)]) := by
  rw [V_eq (fn := wtoLock_m) (by kernel_rfl)]
  have e1 := wtoStringS_ok c1 (by omega)
  simp -implicitDefEqProofs [wtoLock_m, e1]
theorem weqLock_ok (c0 : Int) (c1 : List (T.den .str)) (c2 : Bool) (c3 : Bool) (c4 : Int) (hb : BndT TLock (c0, (c1, (c2, (c3, c4))))) : V weqLock [.agg [.d (.i .i64 c0), .d (.sl .str c1), .d (.b c2), .d (.b c3), .d (.i .i64 c4)], .agg [.d (.i .i64 c0), .d (.sl .str c1), .d (.b c2), .d (.b c3), .d (.i .i64 c4)]] [] = some ([], .one (.fz (.b true))) := by
  rw [V_eq (fn := weqLock_m) (by kernel_rfl)]
  have hb : BndT (.int .i64) c0 ∧ BndT (.sl .str) c1 ∧ BndT .bool c2 ∧ BndT .bool c3 ∧ BndT (.int .i64) c4 := hb
  have e1 := weqStringS_ok c1 hb.2.1
  simp -implicitDefEqProofs [weqLock_m, e1]
theorem wszLock_ok (c0 : Int) (c1 : List (T.den .str)) (c2 : Bool) (c3 : Bool) (c4 : Int) (hb : BndT TLock (c0, (c1, (c2, (c3, c4))))) (m : Int) (h0 : 0 ≤ m) (hm : m ≤ 1048576) : ∃ r : Int, V wszLock [.agg [.d (.i .i64 c0), .d (.sl .str c1), .d (.b c2), .d (.b c3), .d (.i .i64 c4)], .d (.i .i64 m)] [] = some ([], .one (.fz (.i .i64 r))) ∧ Sized r m (szT (.sl .str) c1) := by
  rw [V_eq (fn := wszLock_m) (by kernel_rfl)]
  have hb : BndT (.int .i64) c0 ∧ BndT (.sl .str) c1 ∧ BndT .bool c2 ∧ BndT .bool c3 ∧ BndT (.int .i64) c4 := hb
  obtain ⟨r1, e1, q1⟩ := wszStringS_ok c1 hb.2.1 m (by omega) (by omega)
  by_cases c1x : r1 < 0
  · exact ⟨-1, by simp -implicitDefEqProofs [wszLock_m, e1, c1x], .inl rfl⟩
  have p1 : 0 ≤ r1 ∧ r1 + (szT (.sl .str) c1 : Nat) = m := by rcases q1 with q | q <;> omega
  exact ⟨r1, by simp -implicitDefEqProofs [wszLock_m, e1, c1x], .inr ⟨by omega, by omega⟩⟩
theorem wtoLockS_l (l : List (T.den TLock)) (h1 : l.length ≤ 1048576) (hz : ∀ x ∈ l, szT TLock x ≤ 1048576) : ∀ post pre : List (T.den TLock), l = pre ++ post →
    DL V (.loop wtoLockS_l0) ⟨[(4, .d (.i .i64 pre.length)), (3, .h 71 0 l.length), (0, .d (.sl TLock l))], [(71, .ls TLock false (pre ++ List.replicate post.length (T.zero TLock)) 0 [])]⟩ = some (.ex 0, ⟨[(3, .h 71 0 l.length)], [(71, .ls TLock false l 0 [])]⟩)
  | [], pre, hl => by
    rw [DL_loop]
    have : l = pre := by simpa using hl
    subst this
    simp -implicitDefEqProofs [wtoLockS_l0]
  | (c0, (c1, (c2, (c3, c4)))) :: post, pre, hl => by
    have ih := wtoLockS_l l h1 hz post (pre ++ [(c0, (c1, (c2, (c3, c4))))]) (by simp [hl])
    have hg : l[pre.length]? = some (c0, (c1, (c2, (c3, c4)))) := by rw [hl]; exact mid_get _ _ _
    have hlt : pre.length < l.length := by rw [hl]; simp
    have hg2 : l[pre.length] = (c0, (c1, (c2, (c3, c4)))) := (List.getElem?_eq_some_iff.1 hg).2
    have hw := wrap_succ hlt (by omega)
    have e1 := wtoLock_ok c0 c1 c2 c3 c4 (by have := hz (c0, (c1, (c2, (c3, c4)))) (by rw [hl]; simp); simpa [szT, Nat.add_assoc] using this)
    simp only [List.append_assoc, List.cons_append, List.nil_append, List.length_append, List.length_cons, List.length_nil, Int.natCast_add, Int.natCast_one, Nat.zero_add, T.zero] at ih
    rw [DL_loop]
    generalize DL V (.loop wtoLockS_l0) = G at ih ⊢
    simp -implicitDefEqProofs [wtoLockS_l0, hg, hg2, hlt, hw, mid_get, mid_set, List.replicate_succ, e1]
    exact ih
theorem wtoLockS_ok (l : List (T.den TLock)) (h : szT (.sl TLock) l ≤ 1048576) : V wtoLockS [.d (.sl TLock l)] [] = some ([], .one (.own (.sl TLock l))) := by
  rw [V_eq (fn := wtoLockS_m) (by kernel_rfl)]
  obtain ⟨h1, h2⟩ := szT_sl h
  have e := wtoLockS_l l h1 h2 l [] rfl
  simp only [List.nil_append, List.length_nil, Int.natCast_zero] at e
  have hb : (l.length : Int) * 48 ≤ 140737488355328 := by omega
  simp -implicitDefEqProofs [wtoLockS_m, hb] at e ⊢
  simp -implicitDefEqProofs [e]
theorem wszLockS_l (l : List (T.den TLock)) (h1 : l.length ≤ 9223372036854775807) (hb : ∀ x ∈ l, BndT TLock x) : ∀ (post pre : List (T.den TLock)) (m : Int), l = pre ++ post → 0 ≤ m → m ≤ 1048576 →
    ∃ q : (Ex × St), DL V (.loop wszLockS_l0) ⟨[(5, .d (.i .i64 pre.length)), (1, .d (.i .i64 m)), (0, .d (.sl TLock l))], []⟩ = some q ∧ (q = (.ret, ⟨[(4, .d (.i .i64 (-1)))], []⟩) ∨ ∃ r : Int, q = (.ex 0, ⟨[(1, .d (.i .i64 r))], []⟩) ∧ 0 ≤ r ∧ r + (szL TLock post : Nat) = m)
  | [], pre, m, hl, h0, hm => by
    rw [DL_loop]
    have : l = pre := by simpa using hl
    subst this
    exact ⟨(.ex 0, ⟨[(1, .d (.i .i64 m))], []⟩), by simp -implicitDefEqProofs [wszLockS_l0], .inr ⟨m, rfl, h0, by simp [szL]⟩⟩
  | (c0, (c1, (c2, (c3, c4)))) :: post, pre, m, hl, h0, hm => by
    have hg : l[pre.length]? = some (c0, (c1, (c2, (c3, c4)))) := by rw [hl]; exact mid_get _ _ _
    have hlt : pre.length < l.length := by rw [hl]; simp
    have hg2 : l[pre.length] = (c0, (c1, (c2, (c3, c4)))) := (List.getElem?_eq_some_iff.1 hg).2
    have hw := wrap_succ hlt h1
    obtain ⟨r, e1, q0⟩ := wszLock_ok c0 c1 c2 c3 c4 (hb (c0, (c1, (c2, (c3, c4)))) (by rw [hl]; simp)) m h0 hm
    have q : r < 0 ∨ (0 ≤ r ∧ r + (szT TLock (c0, (c1, (c2, (c3, c4)))) : Nat) = m) := by
      rcases q0 with q | q
      · exact .inl (by omega)
      · exact .inr (by simp only [szT, Nat.add_assoc] at *; simpa [Nat.add_assoc] using q)
    rw [DL_loop]
    by_cases c : r < 0
    · exact ⟨(.ret, ⟨[(4, .d (.i .i64 (-1)))], []⟩), by simp -implicitDefEqProofs [wszLockS_l0, hg, hg2, hlt, hw, e1, c], .inl rfl⟩
    · have q : 0 ≤ r ∧ r + (szT TLock (c0, (c1, (c2, (c3, c4)))) : Nat) = m := by omega
      obtain ⟨z, i1, i2⟩ := wszLockS_l l h1 hb post (pre ++ [(c0, (c1, (c2, (c3, c4))))]) r (by simp [hl]) q.1 (by omega)
      simp only [List.length_append, List.length_cons, List.length_nil, Int.natCast_add, Int.natCast_one, Nat.zero_add] at i1
      refine ⟨z, by generalize DL V (.loop wszLockS_l0) = G at i1 ⊢; simp -implicitDefEqProofs [wszLockS_l0, hg, hg2, hlt, hw, e1, c]; exact i1, ?_⟩
      rcases i2 with i2 | ⟨r', i2, i3, i4⟩
      · exact .inl i2
      · exact .inr ⟨r', i2, i3, by rw [szL_cons]; omega⟩
theorem wszLockS_ok (l : List (T.den TLock)) (hb : BndT (.sl TLock) l) (m : Int) (h0 : 0 ≤ m) (hm : m ≤ 1048576) : ∃ r : Int, V wszLockS [.d (.sl TLock l), .d (.i .i64 m)] [] = some ([], .one (.fz (.i .i64 r))) ∧ Sized r m (szT (.sl TLock) l) := by
  rw [V_eq (fn := wszLockS_m) (by kernel_rfl)]
  have h1 : l.length ≤ 9223372036854775807 := hb.1
  have hw : IntKind.i64.wrap (m - (l.length : Int)) = m - (l.length : Int) := wrap_id (by omega) (by omega)
  by_cases c : m - (l.length : Int) < 0
  · exact ⟨-1, by simp -implicitDefEqProofs [wszLockS_m, hw, c], .inl rfl⟩
  · obtain ⟨z, i1, i2⟩ := wszLockS_l l h1 hb.2 l [] (m - (l.length : Int)) rfl (by omega) (by omega)
    simp only [List.length_nil, Int.natCast_zero] at i1
    rcases i2 with i2 | ⟨r, i2, i3, i4⟩
    · rw [i2] at i1; exact ⟨-1, by simp -implicitDefEqProofs [wszLockS_m, hw, c, i1], .inl rfl⟩
    · rw [i2] at i1; exact ⟨r, by simp -implicitDefEqProofs [wszLockS_m, hw, c, i1], .inr ⟨i3, by simp only [szT_slE]; omega⟩⟩
theorem weqLockS_l (l : List (T.den TLock)) (h1 : l.length ≤ 9223372036854775807) (hb : ∀ x ∈ l, BndT TLock x) : ∀ post pre : List (T.den TLock), l = pre ++ post →
    DL V (.loop weqLockS_l0) ⟨[(5, .d (.i .i64 pre.length)), (1, .d (.sl TLock l)), (0, .d (.sl TLock l))], []⟩ = some (.ex 0, ⟨[], []⟩)
  | [], pre, hl => by
    rw [DL_loop]
    have : l = pre := by simpa using hl
    subst this
    simp -implicitDefEqProofs [weqLockS_l0]
  | (c0, (c1, (c2, (c3, c4)))) :: post, pre, hl => by
    have ih := weqLockS_l l h1 hb post (pre ++ [(c0, (c1, (c2, (c3, c4))))]) (by simp [hl])
    have hg : l[pre.length]? = some (c0, (c1, (c2, (c3, c4)))) := by rw [hl]; exact mid_get _ _ _
    have hlt : pre.length < l.length := by rw [hl]; simp
    have hg2 : l[pre.length] = (c0, (c1, (c2, (c3, c4)))) := (List.getElem?_eq_some_iff.1 hg).2
    have hw := wrap_succ hlt h1
    have e1 := weqLock_ok c0 c1 c2 c3 c4 (hb (c0, (c1, (c2, (c3, c4)))) (by rw [hl]; simp))
    simp only [List.length_append, List.length_cons, List.length_nil, Int.natCast_add, Int.natCast_one, Nat.zero_add] at ih
    rw [DL_loop]
    generalize DL V (.loop weqLockS_l0) = G at ih ⊢
    simp -implicitDefEqProofs [weqLockS_l0, hg, hg2, hlt, hw, e1]
    exact ih
theorem weqLockS_ok (l : List (T.den TLock)) (hb : BndT (.sl TLock) l) : V weqLockS [.d (.sl TLock l), .d (.sl TLock l)] [] = some ([], .one (.fz (.b true))) := by
  rw [V_eq (fn := weqLockS_m) (by kernel_rfl)]
  have e := weqLockS_l l hb.1 hb.2 l [] rfl
  simp only [List.length_nil, Int.natCast_zero] at e
  simp -implicitDefEqProofs [weqLockS_m, e]
theorem wmarkLockS_l (n : Nat) : ∀ (post pre : List (T.den TLock)) (k : Nat), n = pre.length + post.length → n ≤ 140737488355328 → (markT (.sl TLock) post k).2 ≤ 4611686018427387904 → (∀ x ∈ post, BndM TLock x) →
    DL V (.loop wmarkLockS_l0) ⟨[(5, .d (.i .i64 pre.length)), (1, .d (.i .i64 k)), (0, .h 0 0 n)], [(0, .ls TLock false (pre ++ post) 0 [])]⟩ = some (.ex 0, ⟨[(1, .d (.i .i64 ((markT (.sl TLock) post k).2 : Nat)))], [(0, .ls TLock false (pre ++ (markT (.sl TLock) post k).1) 0 [])]⟩)
  | [], pre, k, hn, hn2, hk, hB => by
    rw [DL_loop]
    have : n = pre.length := by simpa using hn
    subst this
    simp -implicitDefEqProofs [wmarkLockS_l0, markT, mkFold]
  | (c0, (c1, (c2, (c3, c4)))) :: post, pre, k, hn, hn2, hk, hB => by
    have hlt : pre.length < n := by rw [hn]; simp
    have hw := wrap_succ hlt (by omega)
    change (markT (.sl TLock) post (markT TLock (c0, (c1, (c2, (c3, c4)))) k).2).2 ≤ 4611686018427387904 at hk
    change _ = some (Ex.ex 0, (⟨[(1, .d (.i .i64 ((markT (.sl TLock) post (markT TLock (c0, (c1, (c2, (c3, c4)))) k).2).2 : Nat)))], [(0, .ls TLock false (pre ++ (markT TLock (c0, (c1, (c2, (c3, c4)))) k).1 :: (markT (.sl TLock) post (markT TLock (c0, (c1, (c2, (c3, c4)))) k).2).1) 0 [])]⟩ : St))
    have hB0 := hB (c0, (c1, (c2, (c3, c4)))) (by simp)
    have hB0 : BndM (.int .i64) c0 ∧ BndM (.sl .str) c1 ∧ BndM .bool c2 ∧ BndM .bool c3 ∧ BndM (.int .i64) c4 := hB0
    have hmono := markT_le (.sl TLock) post (markT TLock (c0, (c1, (c2, (c3, c4)))) k).2
    have hm0 := markT_le TLock (c0, (c1, (c2, (c3, c4)))) k
    obtain ⟨k0, hk0⟩ : ∃ k0, k + 1 = k0 := ⟨_, rfl⟩
    obtain ⟨k1, hk1⟩ : ∃ k1, (markT (.sl .str) c1 k0).2 = k1 := ⟨_, rfl⟩
    obtain ⟨k2, hk2⟩ : ∃ k2, k1 + 1 = k2 := ⟨_, rfl⟩
    obtain ⟨k3, hk3⟩ : ∃ k3, k2 + 1 = k3 := ⟨_, rfl⟩
    obtain ⟨k4, hk4⟩ : ∃ k4, k3 + 1 = k4 := ⟨_, rfl⟩
    have hc : (markT TLock (c0, (c1, (c2, (c3, c4)))) k).2 = k4 := by subst hk0 hk1 hk2 hk3 hk4; rfl
    have hd : (markT TLock (c0, (c1, (c2, (c3, c4)))) k).1 = (((k : Nat) : Int), ((markT (.sl .str) c1 k0).1, (decide (k1 % 3 = 0), (decide (k2 % 3 = 0), ((k3 : Nat) : Int))))) := by subst hk0 hk1 hk2 hk3 hk4; rfl
    have y1 := markT_le (.sl .str) c1 k0
    have e0 : IntKind.i64.wrap ((k : Nat) : Int) = ((k : Nat) : Int) := wrap_id (by omega) (by omega)
    have w0 : IntKind.i64.wrap (((k : Nat) : Int) + 1) = (k0 : Int) := by rw [← hk0]; exact wrap_id (by omega) (by omega)
    have e1 := wmarkStringS_ok c1 k0 hB0.2.1.1 (by omega) hB0.2.1.2
    rw [hk1] at e1
    have z1 := markL_len .str c1 k0
    have e2 := tmod3 k1
    have w2 : IntKind.i64.wrap (((k1 : Nat) : Int) + 1) = (k2 : Int) := by rw [← hk2]; exact wrap_id (by omega) (by omega)
    have e3 := tmod3 k2
    have w3 : IntKind.i64.wrap (((k2 : Nat) : Int) + 1) = (k3 : Int) := by rw [← hk3]; exact wrap_id (by omega) (by omega)
    have e4 : IntKind.i64.wrap ((k3 : Nat) : Int) = ((k3 : Nat) : Int) := wrap_id (by omega) (by omega)
    have w4 : IntKind.i64.wrap (((k3 : Nat) : Int) + 1) = (k4 : Int) := by rw [← hk4]; exact wrap_id (by omega) (by omega)
    have ih := wmarkLockS_l n post (pre ++ [(markT TLock (c0, (c1, (c2, (c3, c4)))) k).1]) (markT TLock (c0, (c1, (c2, (c3, c4)))) k).2 (by simp at hn ⊢; omega) hn2 hk (fun x hx => hB x (by simp [hx]))
    simp only [List.append_assoc, List.cons_append, List.nil_append, List.length_append, List.length_cons, List.length_nil, Int.natCast_add, Int.natCast_one, Nat.zero_add] at ih
    rw [DL_loop]
    rw [hc, hd] at ih ⊢
    generalize DL V (.loop wmarkLockS_l0) = G at ih ⊢
    simp -implicitDefEqProofs [wmarkLockS_l0, hlt, hw, mid_get, mid_set, e0, w0, e1, z1, e2, w2, e3, w3, e4, w4]
    exact ih
theorem wmarkLockS_ok (l : List (T.den TLock)) (k : Nat) (h1 : l.length ≤ 140737488355328) (hk : (markT (.sl TLock) l k).2 ≤ 4611686018427387904) (hB : ∀ x ∈ l, BndM TLock x) : V wmarkLockS [.h 0 0 l.length, .d (.i .i64 k)] [.ls TLock false l 0 []] = some ([some (.ls TLock false (markT (.sl TLock) l k).1 0 [])], .one (.fz (.i .i64 ((markT (.sl TLock) l k).2 : Nat)))) := by
  rw [V_eq (fn := wmarkLockS_m) (by kernel_rfl)]
  have e := wmarkLockS_l l.length l [] k (by simp) h1 hk hB
  simp only [List.length_nil, Int.natCast_zero, List.nil_append] at e
  simp -implicitDefEqProofs [wmarkLockS_m, e]
theorem wheldLockS_l (l : List (T.den TLock)) (h1 : l.length ≤ 140737488355328) : ∀ (post pre : List (T.den TLock)) (k : Nat), l = pre ++ (markT (.sl TLock) post k).1 → (markT (.sl TLock) post k).2 ≤ 4611686018427387904 → (∀ x ∈ post, BndM TLock x) →
    DL V (.loop wheldLockS_l0) ⟨[(5, .d (.i .i64 pre.length)), (1, .d (.i .i64 k)), (0, .d (.sl TLock l))], []⟩ = some (.ex 0, ⟨[(1, .d (.i .i64 ((markT (.sl TLock) post k).2 : Nat)))], []⟩)
  | [], pre, k, hl, hk, hB => by
    rw [DL_loop]
    have : l = pre := by simpa [markT, mkFold] using hl
    subst this
    simp -implicitDefEqProofs [wheldLockS_l0, markT, mkFold]
  | (c0, (c1, (c2, (c3, c4)))) :: post, pre, k, hl, hk, hB => by
    change l = pre ++ (markT TLock (c0, (c1, (c2, (c3, c4)))) k).1 :: (markT (.sl TLock) post (markT TLock (c0, (c1, (c2, (c3, c4)))) k).2).1 at hl
    change (markT (.sl TLock) post (markT TLock (c0, (c1, (c2, (c3, c4)))) k).2).2 ≤ 4611686018427387904 at hk
    change _ = some (Ex.ex 0, (⟨[(1, .d (.i .i64 ((markT (.sl TLock) post (markT TLock (c0, (c1, (c2, (c3, c4)))) k).2).2 : Nat)))], []⟩ : St))
    have hlt : pre.length < l.length := by rw [hl]; simp
    have hw := wrap_succ hlt (by omega)
    have hmono := markT_le (.sl TLock) post (markT TLock (c0, (c1, (c2, (c3, c4)))) k).2
    have hm0 := markT_le TLock (c0, (c1, (c2, (c3, c4)))) k
    have hB0 := hB (c0, (c1, (c2, (c3, c4)))) (by simp)
    have hg : l[pre.length]? = some (markT TLock (c0, (c1, (c2, (c3, c4)))) k).1 := by rw [hl]; exact mid_get _ _ _
    have hg2 : l[pre.length] = (markT TLock (c0, (c1, (c2, (c3, c4)))) k).1 := (List.getElem?_eq_some_iff.1 hg).2
    have hB0 : BndM (.int .i64) c0 ∧ BndM (.sl .str) c1 ∧ BndM .bool c2 ∧ BndM .bool c3 ∧ BndM (.int .i64) c4 := hB0
    obtain ⟨k0, hk0⟩ : ∃ k0, k + 1 = k0 := ⟨_, rfl⟩
    obtain ⟨k1, hk1⟩ : ∃ k1, (markT (.sl .str) c1 k0).2 = k1 := ⟨_, rfl⟩
    obtain ⟨k2, hk2⟩ : ∃ k2, k1 + 1 = k2 := ⟨_, rfl⟩
    obtain ⟨k3, hk3⟩ : ∃ k3, k2 + 1 = k3 := ⟨_, rfl⟩
    obtain ⟨k4, hk4⟩ : ∃ k4, k3 + 1 = k4 := ⟨_, rfl⟩
    have hc : (markT TLock (c0, (c1, (c2, (c3, c4)))) k).2 = k4 := by subst hk0 hk1 hk2 hk3 hk4; rfl
    have hd : (markT TLock (c0, (c1, (c2, (c3, c4)))) k).1 = (((k : Nat) : Int), ((markT (.sl .str) c1 k0).1, (decide (k1 % 3 = 0), (decide (k2 % 3 = 0), ((k3 : Nat) : Int))))) := by subst hk0 hk1 hk2 hk3 hk4; rfl
    have y1 := markT_le (.sl .str) c1 k0
    have e0 : IntKind.i64.wrap ((k : Nat) : Int) = ((k : Nat) : Int) := wrap_id (by omega) (by omega)
    have w0 : IntKind.i64.wrap (((k : Nat) : Int) + 1) = (k0 : Int) := by rw [← hk0]; exact wrap_id (by omega) (by omega)
    have e1 := wheldStringS_ok c1 k0 hB0.2.1.1 (by omega) hB0.2.1.2
    rw [hk1] at e1
    have e2 := tmod3 k1
    have w2 : IntKind.i64.wrap (((k1 : Nat) : Int) + 1) = (k2 : Int) := by rw [← hk2]; exact wrap_id (by omega) (by omega)
    have e3 := tmod3 k2
    have w3 : IntKind.i64.wrap (((k2 : Nat) : Int) + 1) = (k3 : Int) := by rw [← hk3]; exact wrap_id (by omega) (by omega)
    have e4 : IntKind.i64.wrap ((k3 : Nat) : Int) = ((k3 : Nat) : Int) := wrap_id (by omega) (by omega)
    have w4 : IntKind.i64.wrap (((k3 : Nat) : Int) + 1) = (k4 : Int) := by rw [← hk4]; exact wrap_id (by omega) (by omega)
    have ih := wheldLockS_l l h1 post (pre ++ [(markT TLock (c0, (c1, (c2, (c3, c4)))) k).1]) (markT TLock (c0, (c1, (c2, (c3, c4)))) k).2 (by simp [hl]) hk (fun x hx => hB x (by simp [hx]))
    simp only [List.length_append, List.length_cons, List.length_nil, Int.natCast_add, Int.natCast_one, Nat.zero_add] at ih
    rw [DL_loop]
    rw [hc] at ih ⊢
    rw [hd] at hg hg2
    generalize DL V (.loop wheldLockS_l0) = G at ih ⊢
    simp -implicitDefEqProofs [wheldLockS_l0, hlt, hw, hg, hg2, e0, w0, e1, e2, w2, e3, w3, e4, w4]
    exact ih
theorem wheldLockS_ok (l : List (T.den TLock)) (k : Nat) (h1 : l.length ≤ 140737488355328) (hk : (markT (.sl TLock) l k).2 ≤ 4611686018427387904) (hB : ∀ x ∈ l, BndM TLock x) : V wheldLockS [.d (.sl TLock (markT (.sl TLock) l k).1), .d (.i .i64 k)] [] = some ([], .one (.fz (.i .i64 ((markT (.sl TLock) l k).2 : Nat)))) := by
  rw [V_eq (fn := wheldLockS_m) (by kernel_rfl)]
  have hlen := markL_len TLock l k
  have e := wheldLockS_l (markT (.sl TLock) l k).1 (by rw [hlen]; exact h1) l [] k (by simp) hk hB
  simp only [List.length_nil, Int.natCast_zero] at e
  simp -implicitDefEqProofs [wheldLockS_m, e]
theorem wtoIntS_l (l : List (T.den (.int .i64))) (h1 : l.length ≤ 1048576) (hz : ∀ x ∈ l, szT (.int .i64) x ≤ 1048576) : ∀ post pre : List (T.den (.int .i64)), l = pre ++ post →
    DL V (.loop wtoIntS_l0) ⟨[(4, .d (.i .i64 pre.length)), (3, .h 71 0 l.length), (0, .d (.sl (.int .i64) l))], [(71, .ls (.int .i64) false (pre ++ List.replicate post.length (T.zero (.int .i64))) 0 [])]⟩ = some (.ex 0, ⟨[(3, .h 71 0 l.length)], [(71, .ls (.int .i64) false l 0 [])]⟩)
  | [], pre, hl => by
    rw [DL_loop]
    have : l = pre := by simpa using hl
    subst this
    simp -implicitDefEqProofs [wtoIntS_l0]
  | c0 :: post, pre, hl => by
    have ih := wtoIntS_l l h1 hz post (pre ++ [c0]) (by simp [hl])
    have hg : l[pre.length]? = some c0 := by rw [hl]; exact mid_get _ _ _
    have hlt : pre.length < l.length := by rw [hl]; simp
    have hg2 : l[pre.length] = c0 := (List.getElem?_eq_some_iff.1 hg).2
    have hw := wrap_succ hlt (by omega)
    simp only [List.append_assoc, List.cons_append, List.nil_append, List.length_append, List.length_cons, List.length_nil, Int.natCast_add, Int.natCast_one, Nat.zero_add, T.zero] at ih
    rw [DL_loop]
    generalize DL V (.loop wtoIntS_l0) = G at ih ⊢
    simp -implicitDefEqProofs [wtoIntS_l0, hg, hg2, hlt, hw, mid_get, mid_set, List.replicate_succ]
    exact ih
theorem wtoIntS_ok (l : List (T.den (.int .i64))) (h : szT (.sl (.int .i64)) l ≤ 1048576) : V wtoIntS [.d (.sl (.int .i64) l)] [] = some ([], .one (.own (.sl (.int .i64) l))) := by
  rw [V_eq (fn := wtoIntS_m) (by kernel_rfl)]
  obtain ⟨h1, h2⟩ := szT_sl h
  have e := wtoIntS_l l h1 h2 l [] rfl
  simp only [List.nil_append, List.length_nil, Int.natCast_zero] at e
  have hb : (l.length : Int) * 8 ≤ 140737488355328 := by omega
  simp -implicitDefEqProofs [wtoIntS_m, hb] at e ⊢
  simp -implicitDefEqProofs [e]
theorem wszIntS_ok (l : List (T.den (.int .i64))) (hb0 : BndT (.sl (.int .i64)) l) (m : Int) (h0 : 0 ≤ m) (hm : m ≤ 1048576) : ∃ r : Int, V wszIntS [.d (.sl (.int .i64) l), .d (.i .i64 m)] [] = some ([], .one (.fz (.i .i64 r))) ∧ Sized r m (szT (.sl (.int .i64)) l) := by
  have hb : l.length ≤ 9223372036854775807 := hb0.1
  rw [V_eq (fn := wszIntS_m) (by kernel_rfl)]
  have hw : IntKind.i64.wrap (m - (l.length : Int)) = m - (l.length : Int) := wrap_id (by omega) (by omega)
  have hz : szT (.sl (.int .i64)) l = l.length := by rw [szT_flat (by rfl)]
  rw [hz]
  by_cases c : m - (l.length : Int) < 0
  · exact ⟨-1, by simp -implicitDefEqProofs [wszIntS_m, hw, c], .inl rfl⟩
  · exact ⟨m - (l.length : Int), by simp -implicitDefEqProofs [wszIntS_m, hw, c], .inr ⟨by omega, by omega⟩⟩
theorem weqIntS_l (l : List (T.den (.int .i64))) (h1 : l.length ≤ 9223372036854775807) (hb : ∀ x ∈ l, BndT (.int .i64) x) : ∀ post pre : List (T.den (.int .i64)), l = pre ++ post →
    DL V (.loop weqIntS_l0) ⟨[(5, .d (.i .i64 pre.length)), (1, .d (.sl (.int .i64) l)), (0, .d (.sl (.int .i64) l))], []⟩ = some (.ex 0, ⟨[], []⟩)
  | [], pre, hl => by
    rw [DL_loop]
    have : l = pre := by simpa using hl
    subst this
    simp -implicitDefEqProofs [weqIntS_l0]
  | c0 :: post, pre, hl => by
    have ih := weqIntS_l l h1 hb post (pre ++ [c0]) (by simp [hl])
    have hg : l[pre.length]? = some c0 := by rw [hl]; exact mid_get _ _ _
    have hlt : pre.length < l.length := by rw [hl]; simp
    have hg2 : l[pre.length] = c0 := (List.getElem?_eq_some_iff.1 hg).2
    have hw := wrap_succ hlt h1
    simp only [List.length_append, List.length_cons, List.length_nil, Int.natCast_add, Int.natCast_one, Nat.zero_add] at ih
    rw [DL_loop]
    generalize DL V (.loop weqIntS_l0) = G at ih ⊢
    simp -implicitDefEqProofs [weqIntS_l0, hg, hg2, hlt, hw]
    exact ih
theorem weqIntS_ok (l : List (T.den (.int .i64))) (hb : BndT (.sl (.int .i64)) l) : V weqIntS [.d (.sl (.int .i64) l), .d (.sl (.int .i64) l)] [] = some ([], .one (.fz (.b true))) := by
  rw [V_eq (fn := weqIntS_m) (by kernel_rfl)]
  have e := weqIntS_l l hb.1 hb.2 l [] rfl
  simp only [List.length_nil, Int.natCast_zero] at e
  simp -implicitDefEqProofs [weqIntS_m, e]
theorem wmarkIntS_l (n : Nat) : ∀ (post pre : List (T.den (.int .i64))) (k : Nat), n = pre.length + post.length → n ≤ 140737488355328 → (markT (.sl (.int .i64)) post k).2 ≤ 4611686018427387904 → (∀ x ∈ post, BndM (.int .i64) x) →
    DL V (.loop wmarkIntS_l0) ⟨[(5, .d (.i .i64 pre.length)), (1, .d (.i .i64 k)), (0, .h 0 0 n)], [(0, .ls (.int .i64) false (pre ++ post) 0 [])]⟩ = some (.ex 0, ⟨[(1, .d (.i .i64 ((markT (.sl (.int .i64)) post k).2 : Nat)))], [(0, .ls (.int .i64) false (pre ++ (markT (.sl (.int .i64)) post k).1) 0 [])]⟩)
  | [], pre, k, hn, hn2, hk, hB => by
    rw [DL_loop]
    have : n = pre.length := by simpa using hn
    subst this
    simp -implicitDefEqProofs [wmarkIntS_l0, markT, mkFold]
  | c0 :: post, pre, k, hn, hn2, hk, hB => by
    have hlt : pre.length < n := by rw [hn]; simp
    have hw := wrap_succ hlt (by omega)
    change (markT (.sl (.int .i64)) post (markT (.int .i64) c0 k).2).2 ≤ 4611686018427387904 at hk
    change _ = some (Ex.ex 0, (⟨[(1, .d (.i .i64 ((markT (.sl (.int .i64)) post (markT (.int .i64) c0 k).2).2 : Nat)))], [(0, .ls (.int .i64) false (pre ++ (markT (.int .i64) c0 k).1 :: (markT (.sl (.int .i64)) post (markT (.int .i64) c0 k).2).1) 0 [])]⟩ : St))
    have hB0 := hB c0 (by simp)
    have hB0 : BndM (.int .i64) c0 := hB0
    have hmono := markT_le (.sl (.int .i64)) post (markT (.int .i64) c0 k).2
    have hm0 := markT_le (.int .i64) c0 k
    obtain ⟨k0, hk0⟩ : ∃ k0, k + 1 = k0 := ⟨_, rfl⟩
    have hc : (markT (.int .i64) c0 k).2 = k0 := by subst hk0; rfl
    have hd : (markT (.int .i64) c0 k).1 = ((k : Nat) : Int) := by subst hk0; rfl
    have e0 : IntKind.i64.wrap ((k : Nat) : Int) = ((k : Nat) : Int) := wrap_id (by omega) (by omega)
    have w0 : IntKind.i64.wrap (((k : Nat) : Int) + 1) = (k0 : Int) := by rw [← hk0]; exact wrap_id (by omega) (by omega)
    have ih := wmarkIntS_l n post (pre ++ [(markT (.int .i64) c0 k).1]) (markT (.int .i64) c0 k).2 (by simp at hn ⊢; omega) hn2 hk (fun x hx => hB x (by simp [hx]))
    simp only [List.append_assoc, List.cons_append, List.nil_append, List.length_append, List.length_cons, List.length_nil, Int.natCast_add, Int.natCast_one, Nat.zero_add] at ih
    rw [DL_loop]
    rw [hc, hd] at ih ⊢
    generalize DL V (.loop wmarkIntS_l0) = G at ih ⊢
    simp -implicitDefEqProofs [wmarkIntS_l0, hlt, hw, mid_get, mid_set, e0, w0]
    exact ih
theorem wmarkIntS_ok (l : List (T.den (.int .i64))) (k : Nat) (h1 : l.length ≤ 140737488355328) (hk : (markT (.sl (.int .i64)) l k).2 ≤ 4611686018427387904) (hB : ∀ x ∈ l, BndM (.int .i64) x) : V wmarkIntS [.h 0 0 l.length, .d (.i .i64 k)] [.ls (.int .i64) false l 0 []] = some ([some (.ls (.int .i64) false (markT (.sl (.int .i64)) l k).1 0 [])], .one (.fz (.i .i64 ((markT (.sl (.int .i64)) l k).2 : Nat)))) := by
  rw [V_eq (fn := wmarkIntS_m) (by kernel_rfl)]
  have e := wmarkIntS_l l.length l [] k (by simp) h1 hk hB
  simp only [List.length_nil, Int.natCast_zero, List.nil_append] at e
  simp -implicitDefEqProofs [wmarkIntS_m, e]
theorem wheldIntS_l (l : List (T.den (.int .i64))) (h1 : l.length ≤ 140737488355328) : ∀ (post pre : List (T.den (.int .i64))) (k : Nat), l = pre ++ (markT (.sl (.int .i64)) post k).1 → (markT (.sl (.int .i64)) post k).2 ≤ 4611686018427387904 → (∀ x ∈ post, BndM (.int .i64) x) →
    DL V (.loop wheldIntS_l0) ⟨[(5, .d (.i .i64 pre.length)), (1, .d (.i .i64 k)), (0, .d (.sl (.int .i64) l))], []⟩ = some (.ex 0, ⟨[(1, .d (.i .i64 ((markT (.sl (.int .i64)) post k).2 : Nat)))], []⟩)
  | [], pre, k, hl, hk, hB => by
    rw [DL_loop]
    have : l = pre := by simpa [markT, mkFold] using hl
    subst this
    simp -implicitDefEqProofs [wheldIntS_l0, markT, mkFold]
  | c0 :: post, pre, k, hl, hk, hB => by
    change l = pre ++ (markT (.int .i64) c0 k).1 :: (markT (.sl (.int .i64)) post (markT (.int .i64) c0 k).2).1 at hl
    change (markT (.sl (.int .i64)) post (markT (.int .i64) c0 k).2).2 ≤ 4611686018427387904 at hk
    change _ = some (Ex.ex 0, (⟨[(1, .d (.i .i64 ((markT (.sl (.int .i64)) post (markT (.int .i64) c0 k).2).2 : Nat)))], []⟩ : St))
    have hlt : pre.length < l.length := by rw [hl]; simp
    have hw := wrap_succ hlt (by omega)
    have hmono := markT_le (.sl (.int .i64)) post (markT (.int .i64) c0 k).2
    have hm0 := markT_le (.int .i64) c0 k
    have hB0 := hB c0 (by simp)
    have hg : l[pre.length]? = some (markT (.int .i64) c0 k).1 := by rw [hl]; exact mid_get _ _ _
    have hg2 : l[pre.length] = (markT (.int .i64) c0 k).1 := (List.getElem?_eq_some_iff.1 hg).2
    have hB0 : BndM (.int .i64) c0 := hB0
    obtain ⟨k0, hk0⟩ : ∃ k0, k + 1 = k0 := ⟨_, rfl⟩
    have hc : (markT (.int .i64) c0 k).2 = k0 := by subst hk0; rfl
    have hd : (markT (.int .i64) c0 k).1 = ((k : Nat) : Int) := by subst hk0; rfl
    have e0 : IntKind.i64.wrap ((k : Nat) : Int) = ((k : Nat) : Int) := wrap_id (by omega) (by omega)
    have w0 : IntKind.i64.wrap (((k : Nat) : Int) + 1) = (k0 : Int) := by rw [← hk0]; exact wrap_id (by omega) (by omega)
    have ih := wheldIntS_l l h1 post (pre ++ [(markT (.int .i64) c0 k).1]) (markT (.int .i64) c0 k).2 (by simp [hl]) hk (fun x hx => hB x (by simp [hx]))
    simp only [List.length_append, List.length_cons, List.length_nil, Int.natCast_add, Int.natCast_one, Nat.zero_add] at ih
    rw [DL_loop]
    rw [hc] at ih ⊢
    rw [hd] at hg hg2
    generalize DL V (.loop wheldIntS_l0) = G at ih ⊢
    simp -implicitDefEqProofs [wheldIntS_l0, hlt, hw, hg, hg2, e0, w0]
    exact ih
theorem wheldIntS_ok (l : List (T.den (.int .i64))) (k : Nat) (h1 : l.length ≤ 140737488355328) (hk : (markT (.sl (.int .i64)) l k).2 ≤ 4611686018427387904) (hB : ∀ x ∈ l, BndM (.int .i64) x) : V wheldIntS [.d (.sl (.int .i64) (markT (.sl (.int .i64)) l k).1), .d (.i .i64 k)] [] = some ([], .one (.fz (.i .i64 ((markT (.sl (.int .i64)) l k).2 : Nat)))) := by
  rw [V_eq (fn := wheldIntS_m) (by kernel_rfl)]
  have hlen := markL_len (.int .i64) l k
  have e := wheldIntS_l (markT (.sl (.int .i64)) l k).1 (by rw [hlen]; exact h1) l [] k (by simp) hk hB
  simp only [List.length_nil, Int.natCast_zero] at e
  simp -implicitDefEqProofs [wheldIntS_m, e]
theorem wtoSrv_ok (c0 : List (T.den TRes)) (c1 : List (T.den TLock)) (c2 : Int) (c3 : Int) (c4 : List (T.den (.int .i64))) (c5 : List (T.den (.int .i64))) (h : szT (.sl TRes) c0 + szT (.sl TLock) c1 + szT (.sl (.int .i64)) c4 + szT (.sl (.int .i64)) c5 ≤ 1048576) : V wtoSrv [.agg [.d (.sl TRes c0), .d (.sl TLock c1), .d (.i .i64 c2), .d (.i .i64 c3), .d (.sl (.int .i64) c4), .d (.sl (.int .i64) c5)]] [] = some ([], .agg [.own (.sl TRes c0), .own (.sl TLock c1), .fz (.i .i64 c2), .fz (.i .i64 c3), .own (.sl (.int .i64) c4), .own (.sl (.int .i64) c5)]) := by
  rw [V_eq (fn := wtoSrv_m) (by kernel_rfl)]
  have e0 := wtoResS_ok c0 (by omega)
  have e1 := wtoLockS_ok c1 (by omega)
  have e4 := wtoIntS_ok c4 (by omega)
  have e5 := wtoIntS_ok c5 (by omega)
  simp -implicitDefEqProofs [wtoSrv_m, e0, e1, e4, e5]
theorem weqSrv_ok (c0 : List (T.den TRes)) (c1 : List (T.den TLock)) (c2 : Int) (c3 : Int) (c4 : List (T.den (.int .i64))) (c5 : List (T.den (.int .i64))) (hb : BndT TSrv (c0, (c1, (c2, (c3, (c4, c5)))))) : V weqSrv [.agg [.d (.sl TRes c0), .d (.sl TLock c1), .d (.i .i64 c2), .d (.i .i64 c3), .d (.sl (.int .i64) c4), .d (.sl (.int .i64) c5)], .agg [.d (.sl TRes c0), .d (.sl TLock c1), .d (.i .i64 c2), .d (.i .i64 c3), .d (.sl (.int .i64) c4), .d (.sl (.int .i64) c5)]] [] = some ([], .one (.fz (.b true))) := by
  rw [V_eq (fn := weqSrv_m) (by kernel_rfl)]
  have hb : BndT (.sl TRes) c0 ∧ BndT (.sl TLock) c1 ∧ BndT (.int .i64) c2 ∧ BndT (.int .i64) c3 ∧ BndT (.sl (.int .i64)) c4 ∧ BndT (.sl (.int .i64)) c5 := hb
  have e0 := weqResS_ok c0 hb.1
  have e1 := weqLockS_ok c1 hb.2.1
  have e4 := weqIntS_ok c4 hb.2.2.2.2.1
  have e5 := weqIntS_ok c5 hb.2.2.2.2.2
  simp -implicitDefEqProofs [weqSrv_m, e0, e1, e4, e5]
theorem wszSrv_ok (c0 : List (T.den TRes)) (c1 : List (T.den TLock)) (c2 : Int) (c3 : Int) (c4 : List (T.den (.int .i64))) (c5 : List (T.den (.int .i64))) (hb : BndT TSrv (c0, (c1, (c2, (c3, (c4, c5)))))) (m : Int) (h0 : 0 ≤ m) (hm : m ≤ 1048576) : ∃ r : Int, V wszSrv [.agg [.d (.sl TRes c0), .d (.sl TLock c1), .d (.i .i64 c2), .d (.i .i64 c3), .d (.sl (.int .i64) c4), .d (.sl (.int .i64) c5)], .d (.i .i64 m)] [] = some ([], .one (.fz (.i .i64 r))) ∧ Sized r m (szT (.sl TRes) c0 + szT (.sl TLock) c1 + szT (.sl (.int .i64)) c4 + szT (.sl (.int .i64)) c5) := by
  rw [V_eq (fn := wszSrv_m) (by kernel_rfl)]
  have hb : BndT (.sl TRes) c0 ∧ BndT (.sl TLock) c1 ∧ BndT (.int .i64) c2 ∧ BndT (.int .i64) c3 ∧ BndT (.sl (.int .i64)) c4 ∧ BndT (.sl (.int .i64)) c5 := hb
  obtain ⟨r0, e0, q0⟩ := wszResS_ok c0 hb.1 m (by omega) (by omega)
  by_cases c0x : r0 < 0
  · exact ⟨-1, by simp -implicitDefEqProofs [wszSrv_m, e0, c0x], .inl rfl⟩
  have p0 : 0 ≤ r0 ∧ r0 + (szT (.sl TRes) c0 : Nat) = m := by rcases q0 with q | q <;> omega
  obtain ⟨r1, e1, q1⟩ := wszLockS_ok c1 hb.2.1 r0 (by omega) (by omega)
  by_cases c1x : r1 < 0
  · exact ⟨-1, by simp -implicitDefEqProofs [wszSrv_m, e0, c0x, e1, c1x], .inl rfl⟩
  have p1 : 0 ≤ r1 ∧ r1 + (szT (.sl TLock) c1 : Nat) = r0 := by rcases q1 with q | q <;> omega
  obtain ⟨r4, e4, q4⟩ := wszIntS_ok c4 hb.2.2.2.2.1 r1 (by omega) (by omega)
  by_cases c4x : r4 < 0
  · exact ⟨-1, by simp -implicitDefEqProofs [wszSrv_m, e0, c0x, e1, c1x, e4, c4x], .inl rfl⟩
  have p4 : 0 ≤ r4 ∧ r4 + (szT (.sl (.int .i64)) c4 : Nat) = r1 := by rcases q4 with q | q <;> omega
  obtain ⟨r5, e5, q5⟩ := wszIntS_ok c5 hb.2.2.2.2.2 r4 (by omega) (by omega)
  by_cases c5x : r5 < 0
  · exact ⟨-1, by simp -implicitDefEqProofs [wszSrv_m, e0, c0x, e1, c1x, e4, c4x, e5, c5x], .inl rfl⟩
  have p5 : 0 ≤ r5 ∧ r5 + (szT (.sl (.int .i64)) c5 : Nat) = r4 := by rcases q5 with q | q <;> omega
  exact ⟨r5, by simp -implicitDefEqProofs [wszSrv_m, e0, c0x, e1, c1x, e4, c4x, e5, c5x], .inr ⟨by omega, by omega⟩⟩
theorem wmarkSrv_ok (c0 : List (T.den TRes)) (c1 : List (T.den TLock)) (c2 : Int) (c3 : Int) (c4 : List (T.den (.int .i64))) (c5 : List (T.den (.int .i64))) (k : Nat) (h_c0 : c0.length ≤ 140737488355328) (h_c1 : c1.length ≤ 140737488355328) (h_c4 : c4.length ≤ 140737488355328) (h_c5 : c5.length ≤ 140737488355328) (b_c0 : ∀ x ∈ c0, BndM TRes x) (b_c1 : ∀ x ∈ c1, BndM TLock x) (b_c4 : ∀ x ∈ c4, BndM (.int .i64) x) (b_c5 : ∀ x ∈ c5, BndM (.int .i64) x) (hk : (markT (.sl (.int .i64)) c5 ((markT (.sl (.int .i64)) c4 ((markT (.sl TLock) c1 ((markT (.sl TRes) c0 (k)).2)).2)).2)).2 ≤ 4611686018427387904) : V wmarkSrv [.agg [.h 0 0 c0.length, .h 1 0 c1.length, .d (.i .i64 c2), .d (.i .i64 c3), .h 2 0 c4.length, .h 3 0 c5.length], .d (.i .i64 k)] [.ls TRes false c0 0 [], .ls TLock false c1 0 [], .ls (.int .i64) false c4 0 [], .ls (.int .i64) false c5 0 []] = some ([some (.ls TRes false (markT (.sl TRes) c0 (k)).1 0 []), some (.ls TLock false (markT (.sl TLock) c1 ((markT (.sl TRes) c0 (k)).2)).1 0 []), some (.ls (.int .i64) false (markT (.sl (.int .i64)) c4 ((markT (.sl TLock) c1 ((markT (.sl TRes) c0 (k)).2)).2)).1 0 []), some (.ls (.int .i64) false (markT (.sl (.int .i64)) c5 ((markT (.sl (.int .i64)) c4 ((markT (.sl TLock) c1 ((markT (.sl TRes) c0 (k)).2)).2)).2)).1 0 [])], .one (.fz (.i .i64 ((markT (.sl (.int .i64)) c5 ((markT (.sl (.int .i64)) c4 ((markT (.sl TLock) c1 ((markT (.sl TRes) c0 (k)).2)).2)).2)).2 : Nat)))) := by
  rw [V_eq (fn := wmarkSrv_m) (by kernel_rfl)]
  have y_c0 := markT_le (.sl TRes) c0 (k)
  have y_c1 := markT_le (.sl TLock) c1 ((markT (.sl TRes) c0 (k)).2)
  have y_c4 := markT_le (.sl (.int .i64)) c4 ((markT (.sl TLock) c1 ((markT (.sl TRes) c0 (k)).2)).2)
  have y_c5 := markT_le (.sl (.int .i64)) c5 ((markT (.sl (.int .i64)) c4 ((markT (.sl TLock) c1 ((markT (.sl TRes) c0 (k)).2)).2)).2)
  have z_c0 := markL_len TRes c0 (k)
  have z_c1 := markL_len TLock c1 ((markT (.sl TRes) c0 (k)).2)
  have z_c4 := markL_len (.int .i64) c4 ((markT (.sl TLock) c1 ((markT (.sl TRes) c0 (k)).2)).2)
  have z_c5 := markL_len (.int .i64) c5 ((markT (.sl (.int .i64)) c4 ((markT (.sl TLock) c1 ((markT (.sl TRes) c0 (k)).2)).2)).2)
  have e0 := wmarkResS_ok c0 (k) h_c0 (by omega) b_c0
  have e1 := wmarkLockS_ok c1 ((markT (.sl TRes) c0 (k)).2) h_c1 (by omega) b_c1
  have e4 := wmarkIntS_ok c4 ((markT (.sl TLock) c1 ((markT (.sl TRes) c0 (k)).2)).2) h_c4 (by omega) b_c4
  have e5 := wmarkIntS_ok c5 ((markT (.sl (.int .i64)) c4 ((markT (.sl TLock) c1 ((markT (.sl TRes) c0 (k)).2)).2)).2) h_c5 (by omega) b_c5
  simp -implicitDefEqProofs [wmarkSrv_m, e0, e1, e4, e5, z_c0, z_c1, z_c4, z_c5]
theorem wheldSrv_ok (c0 : List (T.den TRes)) (c1 : List (T.den TLock)) (c2 : Int) (c3 : Int) (c4 : List (T.den (.int .i64))) (c5 : List (T.den (.int .i64))) (k : Nat) (h_c0 : c0.length ≤ 140737488355328) (h_c1 : c1.length ≤ 140737488355328) (h_c4 : c4.length ≤ 140737488355328) (h_c5 : c5.length ≤ 140737488355328) (b_c0 : ∀ x ∈ c0, BndM TRes x) (b_c1 : ∀ x ∈ c1, BndM TLock x) (b_c4 : ∀ x ∈ c4, BndM (.int .i64) x) (b_c5 : ∀ x ∈ c5, BndM (.int .i64) x) (hk : (markT (.sl (.int .i64)) c5 ((markT (.sl (.int .i64)) c4 ((markT (.sl TLock) c1 ((markT (.sl TRes) c0 (k)).2)).2)).2)).2 ≤ 4611686018427387904) : V wheldSrv [.agg [.d (.sl TRes (markT (.sl TRes) c0 (k)).1), .d (.sl TLock (markT (.sl TLock) c1 ((markT (.sl TRes) c0 (k)).2)).1), .d (.i .i64 c2), .d (.i .i64 c3), .d (.sl (.int .i64) (markT (.sl (.int .i64)) c4 ((markT (.sl TLock) c1 ((markT (.sl TRes) c0 (k)).2)).2)).1), .d (.sl (.int .i64) (markT (.sl (.int .i64)) c5 ((markT (.sl (.int .i64)) c4 ((markT (.sl TLock) c1 ((markT (.sl TRes) c0 (k)).2)).2)).2)).1)], .d (.i .i64 k)] [] = some ([], .one (.fz (.i .i64 ((markT (.sl (.int .i64)) c5 ((markT (.sl (.int .i64)) c4 ((markT (.sl TLock) c1 ((markT (.sl TRes) c0 (k)).2)).2)).2)).2 : Nat)))) := by
  rw [V_eq (fn := wheldSrv_m) (by kernel_rfl)]
  have y_c0 := markT_le (.sl TRes) c0 (k)
  have y_c1 := markT_le (.sl TLock) c1 ((markT (.sl TRes) c0 (k)).2)
  have y_c4 := markT_le (.sl (.int .i64)) c4 ((markT (.sl TLock) c1 ((markT (.sl TRes) c0 (k)).2)).2)
  have y_c5 := markT_le (.sl (.int .i64)) c5 ((markT (.sl (.int .i64)) c4 ((markT (.sl TLock) c1 ((markT (.sl TRes) c0 (k)).2)).2)).2)
  have e0 := wheldResS_ok c0 (k) h_c0 (by omega) b_c0
  have e1 := wheldLockS_ok c1 ((markT (.sl TRes) c0 (k)).2) h_c1 (by omega) b_c1
  have e4 := wheldIntS_ok c4 ((markT (.sl TLock) c1 ((markT (.sl TRes) c0 (k)).2)).2) h_c4 (by omega) b_c4
  have e5 := wheldIntS_ok c5 ((markT (.sl (.int .i64)) c4 ((markT (.sl TLock) c1 ((markT (.sl TRes) c0 (k)).2)).2)).2) h_c5 (by omega) b_c5
  simp -implicitDefEqProofs [wheldSrv_m, e0, e1, e4, e5]
end Go.Proofs.YtfklggpopffkjaaGreatK
