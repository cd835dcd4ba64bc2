/- What the functions come to. -/
import Derived.Test.YtfklggpopffkjaaF8
set_option linter.unusedVariables false
set_option linter.unusedSimpArgs false
namespace Go.Proofs.YtfklggpopffkjaaK
open Go.RowKit
theorem wtoStringS_l (l : List (T.den .str)) (h1 : l.length ≤ 1048576) (hz : ∀ x ∈ l, szT .str x ≤ 1048576) : ∀ post pre : List (T.den .str), l = pre ++ post →
    DL V (.loop wtoStringS_l0) ⟨[(4, .d (.i .i64 pre.length)), (3, .h 71 0 l.length), (0, .d (.sl .str l))], [(71, .ls .str false (pre ++ List.replicate post.length (T.zero .str)) 0 [])]⟩ = some (.ex 0, ⟨[(3, .h 71 0 l.length)], [(71, .ls .str false l 0 [])]⟩)
  | [], pre, hl => by
    rw [DL_loop]
    have : l = pre := by simpa using hl
    subst this
    simp -implicitDefEqProofs [wtoStringS_l0]
  | c0 :: post, pre, hl => by
    have ih := wtoStringS_l l h1 hz post (pre ++ [c0]) (by simp [hl])
    have hg : l[pre.length]? = some c0 := by rw [hl]; exact mid_get _ _ _
    have hlt : pre.length < l.length := by rw [hl]; simp
    have hg2 : l[pre.length] = c0 := (List.getElem?_eq_some_iff.1 hg).2
    have hw := wrap_succ hlt (by omega)
    simp only [List.append_assoc, List.cons_append, List.nil_append, List.length_append, List.length_cons, List.length_nil, Int.natCast_add, Int.natCast_one, Nat.zero_add, T.zero] at ih
    rw [DL_loop]
    generalize DL V (.loop wtoStringS_l0) = G at ih ⊢
    simp -implicitDefEqProofs [wtoStringS_l0, hg, hg2, hlt, hw, mid_get, mid_set, List.replicate_succ]
    exact ih
theorem wtoStringS_ok (l : List (T.den .str)) (h : szT (.sl .str) l ≤ 1048576) : V wtoStringS [.d (.sl .str l)] [] = some ([], .one (.own (.sl .str l))) := by
  rw [V_eq (fn := wtoStringS_m) (by kernel_rfl)]
  obtain ⟨h1, h2⟩ := szT_sl h
  have e := wtoStringS_l l h1 h2 l [] rfl
  simp only [List.nil_append, List.length_nil, Int.natCast_zero] at e
  have hb : (l.length : Int) * 16 ≤ 140737488355328 := by omega
  simp -implicitDefEqProofs [wtoStringS_m, hb] at e ⊢
  simp -implicitDefEqProofs [e]
theorem wszStringS_l (l : List (T.den .str)) (h1 : l.length ≤ 9223372036854775807) (hb : ∀ x ∈ l, BndT .str x) : ∀ (post pre : List (T.den .str)) (m : Int), l = pre ++ post → 0 ≤ m → m ≤ 1048576 →
    ∃ q : (Ex × St), DL V (.loop wszStringS_l0) ⟨[(5, .d (.i .i64 pre.length)), (1, .d (.i .i64 m)), (0, .d (.sl .str l))], []⟩ = some q ∧ (q = (.ret, ⟨[(4, .d (.i .i64 (-1)))], []⟩) ∨ ∃ r : Int, q = (.ex 0, ⟨[(1, .d (.i .i64 r))], []⟩) ∧ 0 ≤ r ∧ r + (szL .str post : Nat) = m)
  | [], pre, m, hl, h0, hm => by
    rw [DL_loop]
    have : l = pre := by simpa using hl
    subst this
    exact ⟨(.ex 0, ⟨[(1, .d (.i .i64 m))], []⟩), by simp -implicitDefEqProofs [wszStringS_l0], .inr ⟨m, rfl, h0, by simp [szL]⟩⟩
  | c0 :: post, pre, m, hl, h0, hm => by
    have hg : l[pre.length]? = some c0 := by rw [hl]; exact mid_get _ _ _
    have hlt : pre.length < l.length := by rw [hl]; simp
    have hg2 : l[pre.length] = c0 := (List.getElem?_eq_some_iff.1 hg).2
    have hw := wrap_succ hlt h1
    have hw2 : IntKind.i64.wrap (m - (c0.length : Int)) = m - (c0.length : Int) := wrap_id (by have : c0.length ≤ 9223372036854775807 := hb c0 (by rw [hl]; simp); omega) (by omega)
    obtain ⟨r, e1, q⟩ : ∃ r : Int, m - (c0.length : Int) = r ∧ (r < 0 ∨ (0 ≤ r ∧ r + (szT .str c0 : Nat) = m)) := ⟨_, rfl, by simp only [szT]; omega⟩
    rw [e1] at hw2
    have hw3 : IntKind.i64.wrap r = r := hw2
    rw [DL_loop]
    by_cases c : r < 0
    · exact ⟨(.ret, ⟨[(4, .d (.i .i64 (-1)))], []⟩), by simp -implicitDefEqProofs [wszStringS_l0, hg, hg2, hlt, hw, e1, hw3, c], .inl rfl⟩
    · have q : 0 ≤ r ∧ r + (szT .str c0 : Nat) = m := by omega
      obtain ⟨z, i1, i2⟩ := wszStringS_l l h1 hb post (pre ++ [c0]) r (by simp [hl]) q.1 (by omega)
      simp only [List.length_append, List.length_cons, List.length_nil, Int.natCast_add, Int.natCast_one, Nat.zero_add] at i1
      refine ⟨z, by generalize DL V (.loop wszStringS_l0) = G at i1 ⊢; simp -implicitDefEqProofs [wszStringS_l0, hg, hg2, hlt, hw, e1, hw3, c]; exact i1, ?_⟩
      rcases i2 with i2 | ⟨r', i2, i3, i4⟩
      · exact .inl i2
      · exact .inr ⟨r', i2, i3, by rw [szL_cons]; omega⟩
theorem wszStringS_ok (l : List (T.den .str)) (hb : BndT (.sl .str) l) (m : Int) (h0 : 0 ≤ m) (hm : m ≤ 1048576) : ∃ r : Int, V wszStringS [.d (.sl .str l), .d (.i .i64 m)] [] = some ([], .one (.fz (.i .i64 r))) ∧ Sized r m (szT (.sl .str) l) := by
  rw [V_eq (fn := wszStringS_m) (by kernel_rfl)]
  have h1 : l.length ≤ 9223372036854775807 := hb.1
  have hw : IntKind.i64.wrap (m - (l.length : Int)) = m - (l.length : Int) := wrap_id (by omega) (by omega)
  by_cases c : m - (l.length : Int) < 0
  · exact ⟨-1, by simp -implicitDefEqProofs [wszStringS_m, hw, c], .inl rfl⟩
  · obtain ⟨z, i1, i2⟩ := wszStringS_l l h1 hb.2 l [] (m - (l.length : Int)) rfl (by omega) (by omega)
    simp only [List.length_nil, Int.natCast_zero] at i1
    rcases i2 with i2 | ⟨r, i2, i3, i4⟩
    · rw [i2] at i1; exact ⟨-1, by simp -implicitDefEqProofs [wszStringS_m, hw, c, i1], .inl rfl⟩
    · rw [i2] at i1; exact ⟨r, by simp -implicitDefEqProofs [wszStringS_m, hw, c, i1], .inr ⟨i3, by simp only [szT_slE]; omega⟩⟩
theorem weqStringS_l (l : List (T.den .str)) (h1 : l.length ≤ 9223372036854775807) (hb : ∀ x ∈ l, BndT .str x) : ∀ post pre : List (T.den .str), l = pre ++ post →
    DL V (.loop weqStringS_l0) ⟨[(5, .d (.i .i64 pre.length)), (1, .d (.sl .str l)), (0, .d (.sl .str l))], []⟩ = some (.ex 0, ⟨[], []⟩)
  | [], pre, hl => by
    rw [DL_loop]
    have : l = pre := by simpa using hl
    subst this
    simp -implicitDefEqProofs [weqStringS_l0]
  | c0 :: post, pre, hl => by
    have ih := weqStringS_l l h1 hb post (pre ++ [c0]) (by simp [hl])
    have hg : l[pre.length]? = some c0 := by rw [hl]; exact mid_get _ _ _
    have hlt : pre.length < l.length := by rw [hl]; simp
    have hg2 : l[pre.length] = c0 := (List.getElem?_eq_some_iff.1 hg).2
    have hw := wrap_succ hlt h1
    simp only [List.length_append, List.length_cons, List.length_nil, Int.natCast_add, Int.natCast_one, Nat.zero_add] at ih
    rw [DL_loop]
    generalize DL V (.loop weqStringS_l0) = G at ih ⊢
    simp -implicitDefEqProofs [weqStringS_l0, hg, hg2, hlt, hw]
    exact ih
theorem weqStringS_ok (l : List (T.den .str)) (hb : BndT (.sl .str) l) : V weqStringS [.d (.sl .str l), .d (.sl .str l)] [] = some ([], .one (.fz (.b true))) := by
  rw [V_eq (fn := weqStringS_m) (by kernel_rfl)]
  have e := weqStringS_l l hb.1 hb.2 l [] rfl
  simp only [List.length_nil, Int.natCast_zero] at e
  simp -implicitDefEqProofs [weqStringS_m, e]
theorem wmarkStringS_l (n : Nat) : ∀ (post pre : List (T.den .str)) (k : Nat), n = pre.length + post.length → n ≤ 140737488355328 → (markT (.sl .str) post k).2 ≤ 4611686018427387904 → (∀ x ∈ post, BndM .str x) →
    DL V (.loop wmarkStringS_l0) ⟨[(5, .d (.i .i64 pre.length)), (1, .d (.i .i64 k)), (0, .h 0 0 n)], [(0, .ls .str false (pre ++ post) 0 [])]⟩ = some (.ex 0, ⟨[(1, .d (.i .i64 ((markT (.sl .str) post k).2 : Nat)))], [(0, .ls .str false (pre ++ (markT (.sl .str) post k).1) 0 [])]⟩)
  | [], pre, k, hn, hn2, hk, hB => by
    rw [DL_loop]
    have : n = pre.length := by simpa using hn
    subst this
    simp -implicitDefEqProofs [wmarkStringS_l0, markT, mkFold]
  | c0 :: post, pre, k, hn, hn2, hk, hB => by
    have hlt : pre.length < n := by rw [hn]; simp
    have hw := wrap_succ hlt (by omega)
    change (markT (.sl .str) post (markT .str c0 k).2).2 ≤ 4611686018427387904 at hk
    change _ = some (Ex.ex 0, (⟨[(1, .d (.i .i64 ((markT (.sl .str) post (markT .str c0 k).2).2 : Nat)))], [(0, .ls .str false (pre ++ (markT .str c0 k).1 :: (markT (.sl .str) post (markT .str c0 k).2).1) 0 [])]⟩ : St))
    have hB0 := hB c0 (by simp)
    have hB0 : BndM .str c0 := hB0
    have hmono := markT_le (.sl .str) post (markT .str c0 k).2
    have hm0 := markT_le .str c0 k
    obtain ⟨k0, hk0⟩ : ∃ k0, k + 1 = k0 := ⟨_, rfl⟩
    have hc : (markT .str c0 k).2 = k0 := by subst hk0; rfl
    have hd : (markT .str c0 k).1 = mtx k := by subst hk0; rfl
    have e0 := wmarkText_ok k (by omega)
    have w0 : IntKind.i64.wrap (((k : Nat) : Int) + 1) = (k0 : Int) := by rw [← hk0]; exact wrap_id (by omega) (by omega)
    have ih := wmarkStringS_l n post (pre ++ [(markT .str c0 k).1]) (markT .str c0 k).2 (by simp at hn ⊢; omega) hn2 hk (fun x hx => hB x (by simp [hx]))
    simp only [List.append_assoc, List.cons_append, List.nil_append, List.length_append, List.length_cons, List.length_nil, Int.natCast_add, Int.natCast_one, Nat.zero_add] at ih
    rw [DL_loop]
    rw [hc, hd] at ih ⊢
    generalize DL V (.loop wmarkStringS_l0) = G at ih ⊢
    simp -implicitDefEqProofs [wmarkStringS_l0, hlt, hw, mid_get, mid_set, e0, w0]
    exact ih
theorem wmarkStringS_ok (l : List (T.den .str)) (k : Nat) (h1 : l.length ≤ 140737488355328) (hk : (markT (.sl .str) l k).2 ≤ 4611686018427387904) (hB : ∀ x ∈ l, BndM .str x) : V wmarkStringS [.h 0 0 l.length, .d (.i .i64 k)] [.ls .str false l 0 []] = some ([some (.ls .str false (markT (.sl .str) l k).1 0 [])], .one (.fz (.i .i64 ((markT (.sl .str) l k).2 : Nat)))) := by
  rw [V_eq (fn := wmarkStringS_m) (by kernel_rfl)]
  have e := wmarkStringS_l l.length l [] k (by simp) h1 hk hB
  simp only [List.length_nil, Int.natCast_zero, List.nil_append] at e
  simp -implicitDefEqProofs [wmarkStringS_m, e]
theorem wtoItem_ok (c0 : List (T.den .str)) (c1 : List UInt8) (h : szT (.sl .str) c0 + c1.length ≤ 1048576) : V wtoItem [.agg [.d (.sl .str c0), .d (.s c1)]] [] = some ([], .agg [.own (.sl .str c0), .fz (.s c1)]) := by
  rw [V_eq (fn := wtoItem_m) (by kernel_rfl)]
  have e0 := wtoStringS_ok c0 (by omega)
  simp -implicitDefEqProofs [wtoItem_m, e0]
theorem weqItem_ok (c0 : List (T.den .str)) (c1 : List UInt8) (hb : BndT TItem (c0, c1)) : V weqItem [.agg [.d (.sl .str c0), .d (.s c1)], .agg [.d (.sl .str c0), .d (.s c1)]] [] = some ([], .one (.fz (.b true))) := by
  rw [V_eq (fn := weqItem_m) (by kernel_rfl)]
  have hb : BndT (.sl .str) c0 ∧ BndT .str c1 := hb
  have e0 := weqStringS_ok c0 hb.1
  simp -implicitDefEqProofs [weqItem_m, e0]
theorem wszItem_ok (c0 : List (T.den .str)) (c1 : List UInt8) (hb : BndT TItem (c0, c1)) (m : Int) (h0 : 0 ≤ m) (hm : m ≤ 1048576) : ∃ r : Int, V wszItem [.agg [.d (.sl .str c0), .d (.s c1)], .d (.i .i64 m)] [] = some ([], .one (.fz (.i .i64 r))) ∧ Sized r m (szT (.sl .str) c0 + c1.length) := by
  rw [V_eq (fn := wszItem_m) (by kernel_rfl)]
  have hb : BndT (.sl .str) c0 ∧ BndT .str c1 := hb
  obtain ⟨r0, e0, q0⟩ := wszStringS_ok c0 hb.1 m (by omega) (by omega)
  by_cases c0x : r0 < 0
  · exact ⟨-1, by simp -implicitDefEqProofs [wszItem_m, e0, c0x], .inl rfl⟩
  have p0 : 0 ≤ r0 ∧ r0 + (szT (.sl .str) c0 : Nat) = m := by rcases q0 with q | q <;> omega
  obtain ⟨r1, q1⟩ : ∃ r : Int, r0 - (c1.length : Int) = r := ⟨_, rfl⟩
  have w1 : IntKind.i64.wrap (r0 - (c1.length : Int)) = r1 := by rw [q1]; exact wrap_id (by have : c1.length ≤ 9223372036854775807 := hb.2; omega) (by omega)
  by_cases c1x : r1 < 0
  · exact ⟨-1, by simp -implicitDefEqProofs [wszItem_m, e0, c0x, w1, c1x], .inl rfl⟩
  exact ⟨r1, by simp -implicitDefEqProofs [wszItem_m, e0, c0x, w1, c1x], .inr ⟨by omega, by omega⟩⟩
theorem wtoItemS_l (l : List (T.den TItem)) (h1 : l.length ≤ 1048576) (hz : ∀ x ∈ l, szT TItem x ≤ 1048576) : ∀ post pre : List (T.den TItem), l = pre ++ post →
    DL V (.loop wtoItemS_l0) ⟨[(4, .d (.i .i64 pre.length)), (3, .h 71 0 l.length), (0, .d (.sl TItem l))], [(71, .ls TItem false (pre ++ List.replicate post.length (T.zero TItem)) 0 [])]⟩ = some (.ex 0, ⟨[(3, .h 71 0 l.length)], [(71, .ls TItem false l 0 [])]⟩)
  | [], pre, hl => by
    rw [DL_loop]
    have : l = pre := by simpa using hl
    subst this
    simp -implicitDefEqProofs [wtoItemS_l0]
  | (c0, c1) :: post, pre, hl => by
    have ih := wtoItemS_l l h1 hz post (pre ++ [(c0, c1)]) (by simp [hl])
    have hg : l[pre.length]? = some (c0, c1) := by rw [hl]; exact mid_get _ _ _
    have hlt : pre.length < l.length := by rw [hl]; simp
    have hg2 : l[pre.length] = (c0, c1) := (List.getElem?_eq_some_iff.1 hg).2
    have hw := wrap_succ hlt (by omega)
    have e1 := wtoItem_ok c0 c1 (by have := hz (c0, c1) (by rw [hl]; simp); simpa [szT, Nat.add_assoc] using this)
    simp only [List.append_assoc, List.cons_append, List.nil_append, List.length_append, List.length_cons, List.length_nil, Int.natCast_add, Int.natCast_one, Nat.zero_add, T.zero] at ih
    rw [DL_loop]
    generalize DL V (.loop wtoItemS_l0) = G at ih ⊢
    simp -implicitDefEqProofs [wtoItemS_l0, hg, hg2, hlt, hw, mid_get, mid_set, List.replicate_succ, e1]
    exact ih
theorem wtoItemS_ok (l : List (T.den TItem)) (h : szT (.sl TItem) l ≤ 1048576) : V wtoItemS [.d (.sl TItem l)] [] = some ([], .one (.own (.sl TItem l))) := by
  rw [V_eq (fn := wtoItemS_m) (by kernel_rfl)]
  obtain ⟨h1, h2⟩ := szT_sl h
  have e := wtoItemS_l l h1 h2 l [] rfl
  simp only [List.nil_append, List.length_nil, Int.natCast_zero] at e
  have hb : (l.length : Int) * 40 ≤ 140737488355328 := by omega
  simp -implicitDefEqProofs [wtoItemS_m, hb] at e ⊢
  simp -implicitDefEqProofs [e]
theorem wszItemS_l (l : List (T.den TItem)) (h1 : l.length ≤ 9223372036854775807) (hb : ∀ x ∈ l, BndT TItem x) : ∀ (post pre : List (T.den TItem)) (m : Int), l = pre ++ post → 0 ≤ m → m ≤ 1048576 →
    ∃ q : (Ex × St), DL V (.loop wszItemS_l0) ⟨[(5, .d (.i .i64 pre.length)), (1, .d (.i .i64 m)), (0, .d (.sl TItem l))], []⟩ = some q ∧ (q = (.ret, ⟨[(4, .d (.i .i64 (-1)))], []⟩) ∨ ∃ r : Int, q = (.ex 0, ⟨[(1, .d (.i .i64 r))], []⟩) ∧ 0 ≤ r ∧ r + (szL TItem post : Nat) = m)
  | [], pre, m, hl, h0, hm => by
    rw [DL_loop]
    have : l = pre := by simpa using hl
    subst this
    exact ⟨(.ex 0, ⟨[(1, .d (.i .i64 m))], []⟩), by simp -implicitDefEqProofs [wszItemS_l0], .inr ⟨m, rfl, h0, by simp [szL]⟩⟩
  | (c0, c1) :: post, pre, m, hl, h0, hm => by
    have hg : l[pre.length]? = some (c0, c1) := by rw [hl]; exact mid_get _ _ _
    have hlt : pre.length < l.length := by rw [hl]; simp
    have hg2 : l[pre.length] = (c0, c1) := (List.getElem?_eq_some_iff.1 hg).2
    have hw := wrap_succ hlt h1
    obtain ⟨r, e1, q0⟩ := wszItem_ok c0 c1 (hb (c0, c1) (by rw [hl]; simp)) m h0 hm
    have q : r < 0 ∨ (0 ≤ r ∧ r + (szT TItem (c0, c1) : Nat) = m) := by
      rcases q0 with q | q
      · exact .inl (by omega)
      · exact .inr (by simp only [szT, Nat.add_assoc] at *; simpa [Nat.add_assoc] using q)
    rw [DL_loop]
    by_cases c : r < 0
    · exact ⟨(.ret, ⟨[(4, .d (.i .i64 (-1)))], []⟩), by simp -implicitDefEqProofs [wszItemS_l0, hg, hg2, hlt, hw, e1, c], .inl rfl⟩
    · have q : 0 ≤ r ∧ r + (szT TItem (c0, c1) : Nat) = m := by omega
      obtain ⟨z, i1, i2⟩ := wszItemS_l l h1 hb post (pre ++ [(c0, c1)]) r (by simp [hl]) q.1 (by omega)
      simp only [List.length_append, List.length_cons, List.length_nil, Int.natCast_add, Int.natCast_one, Nat.zero_add] at i1
      refine ⟨z, by generalize DL V (.loop wszItemS_l0) = G at i1 ⊢; simp -implicitDefEqProofs [wszItemS_l0, hg, hg2, hlt, hw, e1, c]; exact i1, ?_⟩
      rcases i2 with i2 | ⟨r', i2, i3, i4⟩
      · exact .inl i2
      · exact .inr ⟨r', i2, i3, by rw [szL_cons]; omega⟩
theorem wszItemS_ok (l : List (T.den TItem)) (hb : BndT (.sl TItem) l) (m : Int) (h0 : 0 ≤ m) (hm : m ≤ 1048576) : ∃ r : Int, V wszItemS [.d (.sl TItem l), .d (.i .i64 m)] [] = some ([], .one (.fz (.i .i64 r))) ∧ Sized r m (szT (.sl TItem) l) := by
  rw [V_eq (fn := wszItemS_m) (by kernel_rfl)]
  have h1 : l.length ≤ 9223372036854775807 := hb.1
  have hw : IntKind.i64.wrap (m - (l.length : Int)) = m - (l.length : Int) := wrap_id (by omega) (by omega)
  by_cases c : m - (l.length : Int) < 0
  · exact ⟨-1, by simp -implicitDefEqProofs [wszItemS_m, hw, c], .inl rfl⟩
  · obtain ⟨z, i1, i2⟩ := wszItemS_l l h1 hb.2 l [] (m - (l.length : Int)) rfl (by omega) (by omega)
    simp only [List.length_nil, Int.natCast_zero] at i1
    rcases i2 with i2 | ⟨r, i2, i3, i4⟩
    · rw [i2] at i1; exact ⟨-1, by simp -implicitDefEqProofs [wszItemS_m, hw, c, i1], .inl rfl⟩
    · rw [i2] at i1; exact ⟨r, by simp -implicitDefEqProofs [wszItemS_m, hw, c, i1], .inr ⟨i3, by simp only [szT_slE]; omega⟩⟩
theorem weqItemS_l (l : List (T.den TItem)) (h1 : l.length ≤ 9223372036854775807) (hb : ∀ x ∈ l, BndT TItem x) : ∀ post pre : List (T.den TItem), l = pre ++ post →
    DL V (.loop weqItemS_l0) ⟨[(5, .d (.i .i64 pre.length)), (1, .d (.sl TItem l)), (0, .d (.sl TItem l))], []⟩ = some (.ex 0, ⟨[], []⟩)
  | [], pre, hl => by
    rw [DL_loop]
    have : l = pre := by simpa using hl
    subst this
    simp -implicitDefEqProofs [weqItemS_l0]
  | (c0, c1) :: post, pre, hl => by
    have ih := weqItemS_l l h1 hb post (pre ++ [(c0, c1)]) (by simp [hl])
    have hg : l[pre.length]? = some (c0, c1) := by rw [hl]; exact mid_get _ _ _
    have hlt : pre.length < l.length := by rw [hl]; simp
    have hg2 : l[pre.length] = (c0, c1) := (List.getElem?_eq_some_iff.1 hg).2
    have hw := wrap_succ hlt h1
    have e1 := weqItem_ok c0 c1 (hb (c0, c1) (by rw [hl]; simp))
    simp only [List.length_append, List.length_cons, List.length_nil, Int.natCast_add, Int.natCast_one, Nat.zero_add] at ih
    rw [DL_loop]
    generalize DL V (.loop weqItemS_l0) = G at ih ⊢
    simp -implicitDefEqProofs [weqItemS_l0, hg, hg2, hlt, hw, e1]
    exact ih
theorem weqItemS_ok (l : List (T.den TItem)) (hb : BndT (.sl TItem) l) : V weqItemS [.d (.sl TItem l), .d (.sl TItem l)] [] = some ([], .one (.fz (.b true))) := by
  rw [V_eq (fn := weqItemS_m) (by kernel_rfl)]
  have e := weqItemS_l l hb.1 hb.2 l [] rfl
  simp only [List.length_nil, Int.natCast_zero] at e
  simp -implicitDefEqProofs [weqItemS_m, e]
theorem wmarkItemS_l (n : Nat) : ∀ (post pre : List (T.den TItem)) (k : Nat), n = pre.length + post.length → n ≤ 140737488355328 → (markT (.sl TItem) post k).2 ≤ 4611686018427387904 → (∀ x ∈ post, BndM TItem x) →
    DL V (.loop wmarkItemS_l0) ⟨[(5, .d (.i .i64 pre.length)), (1, .d (.i .i64 k)), (0, .h 0 0 n)], [(0, .ls TItem false (pre ++ post) 0 [])]⟩ = some (.ex 0, ⟨[(1, .d (.i .i64 ((markT (.sl TItem) post k).2 : Nat)))], [(0, .ls TItem false (pre ++ (markT (.sl TItem) post k).1) 0 [])]⟩)
  | [], pre, k, hn, hn2, hk, hB => by
    rw [DL_loop]
    have : n = pre.length := by simpa using hn
    subst this
    simp -implicitDefEqProofs [wmarkItemS_l0, markT, mkFold]
  | (c0, c1) :: post, pre, k, hn, hn2, hk, hB => by
    have hlt : pre.length < n := by rw [hn]; simp
    have hw := wrap_succ hlt (by omega)
    change (markT (.sl TItem) post (markT TItem (c0, c1) k).2).2 ≤ 4611686018427387904 at hk
    change _ = some (Ex.ex 0, (⟨[(1, .d (.i .i64 ((markT (.sl TItem) post (markT TItem (c0, c1) k).2).2 : Nat)))], [(0, .ls TItem false (pre ++ (markT TItem (c0, c1) k).1 :: (markT (.sl TItem) post (markT TItem (c0, c1) k).2).1) 0 [])]⟩ : St))
    have hB0 := hB (c0, c1) (by simp)
    have hB0 : BndM (.sl .str) c0 ∧ BndM .str c1 := hB0
    have hmono := markT_le (.sl TItem) post (markT TItem (c0, c1) k).2
    have hm0 := markT_le TItem (c0, c1) k
    obtain ⟨k0, hk0⟩ : ∃ k0, (markT (.sl .str) c0 k).2 = k0 := ⟨_, rfl⟩
    obtain ⟨k1, hk1⟩ : ∃ k1, k0 + 1 = k1 := ⟨_, rfl⟩
    have hc : (markT TItem (c0, c1) k).2 = k1 := by subst hk0 hk1; rfl
    have hd : (markT TItem (c0, c1) k).1 = ((markT (.sl .str) c0 k).1, mtx k0) := by subst hk0 hk1; rfl
    have y0 := markT_le (.sl .str) c0 k
    have e0 := wmarkStringS_ok c0 k hB0.1.1 (by omega) hB0.1.2
    rw [hk0] at e0
    have z0 := markL_len .str c0 k
    have e1 := wmarkText_ok k0 (by omega)
    have w1 : IntKind.i64.wrap (((k0 : Nat) : Int) + 1) = (k1 : Int) := by rw [← hk1]; exact wrap_id (by omega) (by omega)
    have ih := wmarkItemS_l n post (pre ++ [(markT TItem (c0, c1) k).1]) (markT TItem (c0, c1) k).2 (by simp at hn ⊢; omega) hn2 hk (fun x hx => hB x (by simp [hx]))
    simp only [List.append_assoc, List.cons_append, List.nil_append, List.length_append, List.length_cons, List.length_nil, Int.natCast_add, Int.natCast_one, Nat.zero_add] at ih
    rw [DL_loop]
    rw [hc, hd] at ih ⊢
    generalize DL V (.loop wmarkItemS_l0) = G at ih ⊢
    simp -implicitDefEqProofs [wmarkItemS_l0, hlt, hw, mid_get, mid_set, e0, z0, e1, w1]
    exact ih
theorem wmarkItemS_ok (l : List (T.den TItem)) (k : Nat) (h1 : l.length ≤ 140737488355328) (hk : (markT (.sl TItem) l k).2 ≤ 4611686018427387904) (hB : ∀ x ∈ l, BndM TItem x) : V wmarkItemS [.h 0 0 l.length, .d (.i .i64 k)] [.ls TItem false l 0 []] = some ([some (.ls TItem false (markT (.sl TItem) l k).1 0 [])], .one (.fz (.i .i64 ((markT (.sl TItem) l k).2 : Nat)))) := by
  rw [V_eq (fn := wmarkItemS_m) (by kernel_rfl)]
  have e := wmarkItemS_l l.length l [] k (by simp) h1 hk hB
  simp only [List.length_nil, Int.natCast_zero, List.nil_append] at e
  simp -implicitDefEqProofs [wmarkItemS_m, e]
theorem wtoProp_ok (c0 : List UInt8) (c1 : List UInt8) (c2 : List UInt8) (h : c0.length + c1.length + c2.length ≤ 1048576) : V wtoProp [.agg [.d (.s c0), .d (.s c1), .d (.s c2)]] [] = some ([], .agg [.fz (.s c0), .fz (.s c1), .fz (.s c2)]) := by
  rw [V_eq (fn := wtoProp_m) (by kernel_rfl)]
  simp -implicitDefEqProofs [wtoProp_m]
theorem weqProp_ok (c0 : List UInt8) (c1 : List UInt8) (c2 : List UInt8) (hb : BndT TProp (c0, (c1, c2))) : V weqProp [.agg [.d (.s c0), .d (.s c1), .d (.s c2)], .agg [.d (.s c0), .d (.s c1), .d (.s c2)]] [] = some ([], .one (.fz (.b true))) := by
  rw [V_eq (fn := weqProp_m) (by kernel_rfl)]
  have hb : BndT .str c0 ∧ BndT .str c1 ∧ BndT .str c2 := hb
  simp -implicitDefEqProofs [weqProp_m]
theorem wszProp_ok (c0 : List UInt8) (c1 : List UInt8) (c2 : List UInt8) (hb : BndT TProp (c0, (c1, c2))) (m : Int) (h0 : 0 ≤ m) (hm : m ≤ 1048576) : ∃ r : Int, V wszProp [.agg [.d (.s c0), .d (.s c1), .d (.s c2)], .d (.i .i64 m)] [] = some ([], .one (.fz (.i .i64 r))) ∧ Sized r m (c0.length + c1.length + c2.length) := by
  rw [V_eq (fn := wszProp_m) (by kernel_rfl)]
  have hb : BndT .str c0 ∧ BndT .str c1 ∧ BndT .str c2 := hb
  obtain ⟨r0, q0⟩ : ∃ r : Int, m - (c0.length : Int) = r := ⟨_, rfl⟩
  have w0 : IntKind.i64.wrap (m - (c0.length : Int)) = r0 := by rw [q0]; exact wrap_id (by have : c0.length ≤ 9223372036854775807 := hb.1; omega) (by omega)
  by_cases c0x : r0 < 0
  · exact ⟨-1, by simp -implicitDefEqProofs [wszProp_m, w0, c0x], .inl rfl⟩
  obtain ⟨r1, q1⟩ : ∃ r : Int, r0 - (c1.length : Int) = r := ⟨_, rfl⟩
  have w1 : IntKind.i64.wrap (r0 - (c1.length : Int)) = r1 := by rw [q1]; exact wrap_id (by have : c1.length ≤ 9223372036854775807 := hb.2.1; omega) (by omega)
  by_cases c1x : r1 < 0
  · exact ⟨-1, by simp -implicitDefEqProofs [wszProp_m, w0, c0x, w1, c1x], .inl rfl⟩
  obtain ⟨r2, q2⟩ : ∃ r : Int, r1 - (c2.length : Int) = r := ⟨_, rfl⟩
  have w2 : IntKind.i64.wrap (r1 - (c2.length : Int)) = r2 := by rw [q2]; exact wrap_id (by have : c2.length ≤ 9223372036854775807 := hb.2.2; omega) (by omega)
  by_cases c2x : r2 < 0
  · exact ⟨-1, by simp -implicitDefEqProofs [wszProp_m, w0, c0x, w1, c1x, w2, c2x], .inl rfl⟩
  exact ⟨r2, by simp -implicitDefEqProofs [wszProp_m, w0, c0x, w1, c1x, w2, c2x], .inr ⟨by omega, by omega⟩⟩
theorem wtoPropS_l (l : List (T.den TProp)) (h1 : l.length ≤ 1048576) (hz : ∀ x ∈ l, szT TProp x ≤ 1048576) : ∀ post pre : List (T.den TProp), l = pre ++ post →
    DL V (.loop wtoPropS_l0) ⟨[(4, .d (.i .i64 pre.length)), (3, .h 71 0 l.length), (0, .d (.sl TProp l))], [(71, .ls TProp false (pre ++ List.replicate post.length (T.zero TProp)) 0 [])]⟩ = some (.ex 0, ⟨[(3, .h 71 0 l.length)], [(71, .ls TProp false l 0 [])]⟩)
  | [], pre, hl => by
    rw [DL_loop]
    have : l = pre := by simpa using hl
    subst this
    simp -implicitDefEqProofs [wtoPropS_l0]
  | (c0, (c1, c2)) :: post, pre, hl => by
    have ih := wtoPropS_l l h1 hz post (pre ++ [(c0, (c1, c2))]) (by simp [hl])
    have hg : l[pre.length]? = some (c0, (c1, c2)) := by rw [hl]; exact mid_get _ _ _
    have hlt : pre.length < l.length := by rw [hl]; simp
    have hg2 : l[pre.length] = (c0, (c1, c2)) := (List.getElem?_eq_some_iff.1 hg).2
    have hw := wrap_succ hlt (by omega)
    have e1 := wtoProp_ok c0 c1 c2 (by have := hz (c0, (c1, c2)) (by rw [hl]; simp); simpa [szT, Nat.add_assoc] using this)
    simp only [List.append_assoc, List.cons_append, List.nil_append, List.length_append, List.length_cons, List.length_nil, Int.natCast_add, Int.natCast_one, Nat.zero_add, T.zero] at ih
    rw [DL_loop]
    generalize DL V (.loop wtoPropS_l0) = G at ih ⊢
    simp -implicitDefEqProofs [wtoPropS_l0, hg, hg2, hlt, hw, mid_get, mid_set, List.replicate_succ, e1]
    exact ih
theorem wtoPropS_ok (l : List (T.den TProp)) (h : szT (.sl TProp) l ≤ 1048576) : V wtoPropS [.d (.sl TProp l)] [] = some ([], .one (.own (.sl TProp l))) := by
  rw [V_eq (fn := wtoPropS_m) (by kernel_rfl)]
  obtain ⟨h1, h2⟩ := szT_sl h
  have e := wtoPropS_l l h1 h2 l [] rfl
  simp only [List.nil_append, List.length_nil, Int.natCast_zero] at e
  have hb : (l.length : Int) * 48 ≤ 140737488355328 := by omega
  simp -implicitDefEqProofs [wtoPropS_m, hb] at e ⊢
  simp -implicitDefEqProofs [e]
theorem wszPropS_l (l : List (T.den TProp)) (h1 : l.length ≤ 9223372036854775807) (hb : ∀ x ∈ l, BndT TProp x) : ∀ (post pre : List (T.den TProp)) (m : Int), l = pre ++ post → 0 ≤ m → m ≤ 1048576 →
    ∃ q : (Ex × St), DL V (.loop wszPropS_l0) ⟨[(5, .d (.i .i64 pre.length)), (1, .d (.i .i64 m)), (0, .d (.sl TProp l))], []⟩ = some q ∧ (q = (.ret, ⟨[(4, .d (.i .i64 (-1)))], []⟩) ∨ ∃ r : Int, q = (.ex 0, ⟨[(1, .d (.i .i64 r))], []⟩) ∧ 0 ≤ r ∧ r + (szL TProp post : Nat) = m)
  | [], pre, m, hl, h0, hm => by
    rw [DL_loop]
    have : l = pre := by simpa using hl
    subst this
    exact ⟨(.ex 0, ⟨[(1, .d (.i .i64 m))], []⟩), by simp -implicitDefEqProofs [wszPropS_l0], .inr ⟨m, rfl, h0, by simp [szL]⟩⟩
  | (c0, (c1, c2)) :: post, pre, m, hl, h0, hm => by
    have hg : l[pre.length]? = some (c0, (c1, c2)) := by rw [hl]; exact mid_get _ _ _
    have hlt : pre.length < l.length := by rw [hl]; simp
    have hg2 : l[pre.length] = (c0, (c1, c2)) := (List.getElem?_eq_some_iff.1 hg).2
    have hw := wrap_succ hlt h1
    obtain ⟨r, e1, q0⟩ := wszProp_ok c0 c1 c2 (hb (c0, (c1, c2)) (by rw [hl]; simp)) m h0 hm
    have q : r < 0 ∨ (0 ≤ r ∧ r + (szT TProp (c0, (c1, c2)) : Nat) = m) := by
      rcases q0 with q | q
      · exact .inl (by omega)
      · exact .inr (by simp only [szT, Nat.add_assoc] at *; simpa [Nat.add_assoc] using q)
    rw [DL_loop]
    by_cases c : r < 0
    · exact ⟨(.ret, ⟨[(4, .d (.i .i64 (-1)))], []⟩), by simp -implicitDefEqProofs [wszPropS_l0, hg, hg2, hlt, hw, e1, c], .inl rfl⟩
    · have q : 0 ≤ r ∧ r + (szT TProp (c0, (c1, c2)) : Nat) = m := by omega
      obtain ⟨z, i1, i2⟩ := wszPropS_l l h1 hb post (pre ++ [(c0, (c1, c2))]) r (by simp [hl]) q.1 (by omega)
      simp only [List.length_append, List.length_cons, List.length_nil, Int.natCast_add, Int.natCast_one, Nat.zero_add] at i1
      refine ⟨z, by generalize DL V (.loop wszPropS_l0) = G at i1 ⊢; simp -implicitDefEqProofs [wszPropS_l0, hg, hg2, hlt, hw, e1, c]; exact i1, ?_⟩
      rcases i2 with i2 | ⟨r', i2, i3, i4⟩
      · exact .inl i2
      · exact .inr ⟨r', i2, i3, by rw [szL_cons]; omega⟩
theorem wszPropS_ok (l : List (T.den TProp)) (hb : BndT (.sl TProp) l) (m : Int) (h0 : 0 ≤ m) (hm : m ≤ 1048576) : ∃ r : Int, V wszPropS [.d (.sl TProp l), .d (.i .i64 m)] [] = some ([], .one (.fz (.i .i64 r))) ∧ Sized r m (szT (.sl TProp) l) := by
  rw [V_eq (fn := wszPropS_m) (by kernel_rfl)]
  have h1 : l.length ≤ 9223372036854775807 := hb.1
  have hw : IntKind.i64.wrap (m - (l.length : Int)) = m - (l.length : Int) := wrap_id (by omega) (by omega)
  by_cases c : m - (l.length : Int) < 0
  · exact ⟨-1, by simp -implicitDefEqProofs [wszPropS_m, hw, c], .inl rfl⟩
  · obtain ⟨z, i1, i2⟩ := wszPropS_l l h1 hb.2 l [] (m - (l.length : Int)) rfl (by omega) (by omega)
    simp only [List.length_nil, Int.natCast_zero] at i1
    rcases i2 with i2 | ⟨r, i2, i3, i4⟩
    · rw [i2] at i1; exact ⟨-1, by simp -implicitDefEqProofs [wszPropS_m, hw, c, i1], .inl rfl⟩
    · rw [i2] at i1; exact ⟨r, by simp -implicitDefEqProofs [wszPropS_m, hw, c, i1], .inr ⟨i3, by simp only [szT_slE]; omega⟩⟩
theorem weqPropS_l (l : List (T.den TProp)) (h1 : l.length ≤ 9223372036854775807) (hb : ∀ x ∈ l, BndT TProp x) : ∀ post pre : List (T.den TProp), l = pre ++ post →
    DL V (.loop weqPropS_l0) ⟨[(5, .d (.i .i64 pre.length)), (1, .d (.sl TProp l)), (0, .d (.sl TProp l))], []⟩ = some (.ex 0, ⟨[], []⟩)
  | [], pre, hl => by
    rw [DL_loop]
    have : l = pre := by simpa using hl
    subst this
    simp -implicitDefEqProofs [weqPropS_l0]
  | (c0, (c1, c2)) :: post, pre, hl => by
    have ih := weqPropS_l l h1 hb post (pre ++ [(c0, (c1, c2))]) (by simp [hl])
    have hg : l[pre.length]? = some (c0, (c1, c2)) := by rw [hl]; exact mid_get _ _ _
    have hlt : pre.length < l.length := by rw [hl]; simp
    have hg2 : l[pre.length] = (c0, (c1, c2)) := (List.getElem?_eq_some_iff.1 hg).2
    have hw := wrap_succ hlt h1
    have e1 := weqProp_ok c0 c1 c2 (hb (c0, (c1, c2)) (by rw [hl]; simp))
    simp only [List.length_append, List.length_cons, List.length_nil, Int.natCast_add, Int.natCast_one, Nat.zero_add] at ih
    rw [DL_loop]
    generalize DL V (.loop weqPropS_l0) = G at ih ⊢
    simp -implicitDefEqProofs [weqPropS_l0, hg, hg2, hlt, hw, e1]
    exact ih
theorem weqPropS_ok (l : List (T.den TProp)) (hb : BndT (.sl TProp) l) : V weqPropS [.d (.sl TProp l), .d (.sl TProp l)] [] = some ([], .one (.fz (.b true))) := by
  rw [V_eq (fn := weqPropS_m) (by kernel_rfl)]
  have e := weqPropS_l l hb.1 hb.2 l [] rfl
  simp only [List.length_nil, Int.natCast_zero] at e
  simp -implicitDefEqProofs [weqPropS_m, e]
theorem wmarkPropS_l (n : Nat) : ∀ (post pre : List (T.den TProp)) (k : Nat), n = pre.length + post.length → n ≤ 140737488355328 → (markT (.sl TProp) post k).2 ≤ 4611686018427387904 → (∀ x ∈ post, BndM TProp x) →
    DL V (.loop wmarkPropS_l0) ⟨[(5, .d (.i .i64 pre.length)), (1, .d (.i .i64 k)), (0, .h 0 0 n)], [(0, .ls TProp false (pre ++ post) 0 [])]⟩ = some (.ex 0, ⟨[(1, .d (.i .i64 ((markT (.sl TProp) post k).2 : Nat)))], [(0, .ls TProp false (pre ++ (markT (.sl TProp) post k).1) 0 [])]⟩)
  | [], pre, k, hn, hn2, hk, hB => by
    rw [DL_loop]
    have : n = pre.length := by simpa using hn
    subst this
    simp -implicitDefEqProofs [wmarkPropS_l0, markT, mkFold]
  | (c0, (c1, c2)) :: post, pre, k, hn, hn2, hk, hB => by
    have hlt : pre.length < n := by rw [hn]; simp
    have hw := wrap_succ hlt (by omega)
    change (markT (.sl TProp) post (markT TProp (c0, (c1, c2)) k).2).2 ≤ 4611686018427387904 at hk
    change _ = some (Ex.ex 0, (⟨[(1, .d (.i .i64 ((markT (.sl TProp) post (markT TProp (c0, (c1, c2)) k).2).2 : Nat)))], [(0, .ls TProp false (pre ++ (markT TProp (c0, (c1, c2)) k).1 :: (markT (.sl TProp) post (markT TProp (c0, (c1, c2)) k).2).1) 0 [])]⟩ : St))
    have hB0 := hB (c0, (c1, c2)) (by simp)
    have hB0 : BndM .str c0 ∧ BndM .str c1 ∧ BndM .str c2 := hB0
    have hmono := markT_le (.sl TProp) post (markT TProp (c0, (c1, c2)) k).2
    have hm0 := markT_le TProp (c0, (c1, c2)) k
    obtain ⟨k0, hk0⟩ : ∃ k0, k + 1 = k0 := ⟨_, rfl⟩
    obtain ⟨k1, hk1⟩ : ∃ k1, k0 + 1 = k1 := ⟨_, rfl⟩
    obtain ⟨k2, hk2⟩ : ∃ k2, k1 + 1 = k2 := ⟨_, rfl⟩
    have hc : (markT TProp (c0, (c1, c2)) k).2 = k2 := by subst hk0 hk1 hk2; rfl
    have hd : (markT TProp (c0, (c1, c2)) k).1 = (mtx k, (mtx k0, mtx k1)) := by subst hk0 hk1 hk2; rfl
    have e0 := wmarkText_ok k (by omega)
    have w0 : IntKind.i64.wrap (((k : Nat) : Int) + 1) = (k0 : Int) := by rw [← hk0]; exact wrap_id (by omega) (by omega)
    have e1 := wmarkText_ok k0 (by omega)
    have w1 : IntKind.i64.wrap (((k0 : Nat) : Int) + 1) = (k1 : Int) := by rw [← hk1]; exact wrap_id (by omega) (by omega)
    have e2 := wmarkText_ok k1 (by omega)
    have w2 : IntKind.i64.wrap (((k1 : Nat) : Int) + 1) = (k2 : Int) := by rw [← hk2]; exact wrap_id (by omega) (by omega)
    have ih := wmarkPropS_l n post (pre ++ [(markT TProp (c0, (c1, c2)) k).1]) (markT TProp (c0, (c1, c2)) k).2 (by simp at hn ⊢; omega) hn2 hk (fun x hx => hB x (by simp [hx]))
    simp only [List.append_assoc, List.cons_append, List.nil_append, List.length_append, List.length_cons, List.length_nil, Int.natCast_add, Int.natCast_one, Nat.zero_add] at ih
    rw [DL_loop]
    rw [hc, hd] at ih ⊢
    generalize DL V (.loop wmarkPropS_l0) = G at ih ⊢
    simp -implicitDefEqProofs [wmarkPropS_l0, hlt, hw, mid_get, mid_set, e0, w0, e1, w1, e2, w2]
    exact ih
theorem wmarkPropS_ok (l : List (T.den TProp)) (k : Nat) (h1 : l.length ≤ 140737488355328) (hk : (markT (.sl TProp) l k).2 ≤ 4611686018427387904) (hB : ∀ x ∈ l, BndM TProp x) : V wmarkPropS [.h 0 0 l.length, .d (.i .i64 k)] [.ls TProp false l 0 []] = some ([some (.ls TProp false (markT (.sl TProp) l k).1 0 [])], .one (.fz (.i .i64 ((markT (.sl TProp) l k).2 : Nat)))) := by
  rw [V_eq (fn := wmarkPropS_m) (by kernel_rfl)]
  have e := wmarkPropS_l l.length l [] k (by simp) h1 hk hB
  simp only [List.length_nil, Int.natCast_zero, List.nil_append] at e
  simp -implicitDefEqProofs [wmarkPropS_m, e]
end Go.Proofs.YtfklggpopffkjaaK
