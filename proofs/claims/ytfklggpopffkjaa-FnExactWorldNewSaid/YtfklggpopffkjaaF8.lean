/- What the functions come to. -/
import Derived.Test.YtfklggpopffkjaaF7
set_option linter.unusedVariables false
set_option linter.unusedSimpArgs false
namespace Go.Proofs.YtfklggpopffkjaaK
open Go.RowKit
theorem weqStringS_l (l : List (T.den .str)) (h1 : l.length ≤ 9223372036854775807) (hb : ∀ x ∈ l, BndT .str x) : ∀ post pre : List (T.den .str), l = pre ++ post →
    DL V (.loop weqStringS_l0) ⟨[(5, .d (.i .i64 pre.length)), (1, .d (.sl .str l)), (0, .d (.sl .str l))], []⟩ = some (.ex 0, ⟨[], []⟩)
  | [], pre, hl => by
    rw [DL_loop]
    have : l = pre := by simpa using hl
    subst this
    simp -implicitDefEqProofs [weqStringS_l0]
  | c0 :: post, pre, hl => by
    have ih := weqStringS_l l h1 hb post (pre ++ [c0]) (by simp [hl])
    have hg : l[pre.length]? = some c0 := by rw [hl]; exact mid_get _ _ _
    have hlt : pre.length < l.length := by rw [hl]; simp
    have hg2 : l[pre.length] = c0 := (List.getElem?_eq_some_iff.1 hg).2
    have hw := wrap_succ hlt h1
    simp only [List.length_append, List.length_cons, List.length_nil, Int.natCast_add, Int.natCast_one, Nat.zero_add] at ih
    rw [DL_loop]
    generalize DL V (.loop weqStringS_l0) = G at ih ⊢
    simp -implicitDefEqProofs [weqStringS_l0, hg, hg2, hlt, hw]
    exact ih
theorem weqStringS_ok (l : List (T.den .str)) (hb : BndT (.sl .str) l) : V weqStringS [.d (.sl .str l), .d (.sl .str l)] [] = some ([], .one (.fz (.b true))) := by
  rw [V_eq (fn := weqStringS_m) (by kernel_rfl)]
  have e := weqStringS_l l hb.1 hb.2 l [] rfl
  simp only [List.length_nil, Int.natCast_zero] at e
  simp -implicitDefEqProofs [weqStringS_m, e]
theorem wmarkStringS_l (n : Nat) : ∀ (post pre : List (T.den .str)) (k : Nat), n = pre.length + post.length → n ≤ 140737488355328 → (markT (.sl .str) post k).2 ≤ 4611686018427387904 → (∀ x ∈ post, BndM .str x) →
    DL V (.loop wmarkStringS_l0) ⟨[(5, .d (.i .i64 pre.length)), (1, .d (.i .i64 k)), (0, .h 0 0 n)], [(0, .ls .str false (pre ++ post) 0 [])]⟩ = some (.ex 0, ⟨[(1, .d (.i .i64 ((markT (.sl .str) post k).2 : Nat)))], [(0, .ls .str false (pre ++ (markT (.sl .str) post k).1) 0 [])]⟩)
  | [], pre, k, hn, hn2, hk, hB => by
    rw [DL_loop]
    have : n = pre.length := by simpa using hn
    subst this
    simp -implicitDefEqProofs [wmarkStringS_l0, markT, mkFold]
  | c0 :: post, pre, k, hn, hn2, hk, hB => by
    have hlt : pre.length < n := by rw [hn]; simp
    have hw := wrap_succ hlt (by omega)
    change (markT (.sl .str) post (markT .str c0 k).2).2 ≤ 4611686018427387904 at hk
    change _ = some (Ex.ex 0, (⟨[(1, .d (.i .i64 ((markT (.sl .str) post (markT .str c0 k).2).2 : Nat)))], [(0, .ls .str false (pre ++ (markT .str c0 k).1 :: (markT (.sl .str) post (markT .str c0 k).2).1) 0 [])]⟩ : St))
    have hB0 := hB c0 (by simp)
    have hB0 : BndM .str c0 := hB0
    have hmono := markT_le (.sl .str) post (markT .str c0 k).2
    have hm0 := markT_le .str c0 k
    obtain ⟨k0, hk0⟩ : ∃ k0, k + 1 = k0 := ⟨_, rfl⟩
    have hc : (markT .str c0 k).2 = k0 := by subst hk0; rfl
    have hd : (markT .str c0 k).1 = mtx k := by subst hk0; rfl
    have e0 := wmarkText_ok k (by omega)
    have w0 : IntKind.i64.wrap (((k : Nat) : Int) + 1) = (k0 : Int) := by rw [← hk0]; exact wrap_id (by omega) (by omega)
    have ih := wmarkStringS_l n post (pre ++ [(markT .str c0 k).1]) (markT .str c0 k).2 (by simp at hn ⊢; omega) hn2 hk (fun x hx => hB x (by simp [hx]))
    simp only [List.append_assoc, List.cons_append, List.nil_append, List.length_append, List.length_cons, List.length_nil, Int.natCast_add, Int.natCast_one, Nat.zero_add] at ih
    rw [DL_loop]
    rw [hc, hd] at ih ⊢
    generalize DL V (.loop wmarkStringS_l0) = G at ih ⊢
    simp -implicitDefEqProofs [wmarkStringS_l0, hlt, hw, mid_get, mid_set, e0, w0]
    exact ih
theorem wmarkStringS_ok (l : List (T.den .str)) (k : Nat) (h1 : l.length ≤ 140737488355328) (hk : (markT (.sl .str) l k).2 ≤ 4611686018427387904) (hB : ∀ x ∈ l, BndM .str x) : V wmarkStringS [.h 0 0 l.length, .d (.i .i64 k)] [.ls .str false l 0 []] = some ([some (.ls .str false (markT (.sl .str) l k).1 0 [])], .one (.fz (.i .i64 ((markT (.sl .str) l k).2 : Nat)))) := by
  rw [V_eq (fn := wmarkStringS_m) (by kernel_rfl)]
  have e := wmarkStringS_l l.length l [] k (by simp) h1 hk hB
  simp only [List.length_nil, Int.natCast_zero, List.nil_append] at e
  simp -implicitDefEqProofs [wmarkStringS_m, e]
theorem wheldStringS_l (l : List (T.den .str)) (h1 : l.length ≤ 140737488355328) : ∀ (post pre : List (T.den .str)) (k : Nat), l = pre ++ (markT (.sl .str) post k).1 → (markT (.sl .str) post k).2 ≤ 4611686018427387904 → (∀ x ∈ post, BndM .str x) →
    DL V (.loop wheldStringS_l0) ⟨[(5, .d (.i .i64 pre.length)), (1, .d (.i .i64 k)), (0, .d (.sl .str l))], []⟩ = some (.ex 0, ⟨[(1, .d (.i .i64 ((markT (.sl .str) post k).2 : Nat)))], []⟩)
  | [], pre, k, hl, hk, hB => by
    rw [DL_loop]
    have : l = pre := by simpa [markT, mkFold] using hl
    subst this
    simp -implicitDefEqProofs [wheldStringS_l0, markT, mkFold]
  | c0 :: post, pre, k, hl, hk, hB => by
    change l = pre ++ (markT .str c0 k).1 :: (markT (.sl .str) post (markT .str c0 k).2).1 at hl
    change (markT (.sl .str) post (markT .str c0 k).2).2 ≤ 4611686018427387904 at hk
    change _ = some (Ex.ex 0, (⟨[(1, .d (.i .i64 ((markT (.sl .str) post (markT .str c0 k).2).2 : Nat)))], []⟩ : St))
    have hlt : pre.length < l.length := by rw [hl]; simp
    have hw := wrap_succ hlt (by omega)
    have hmono := markT_le (.sl .str) post (markT .str c0 k).2
    have hm0 := markT_le .str c0 k
    have hB0 := hB c0 (by simp)
    have hg : l[pre.length]? = some (markT .str c0 k).1 := by rw [hl]; exact mid_get _ _ _
    have hg2 : l[pre.length] = (markT .str c0 k).1 := (List.getElem?_eq_some_iff.1 hg).2
    have hB0 : BndM .str c0 := hB0
    obtain ⟨k0, hk0⟩ : ∃ k0, k + 1 = k0 := ⟨_, rfl⟩
    have hc : (markT .str c0 k).2 = k0 := by subst hk0; rfl
    have hd : (markT .str c0 k).1 = mtx k := by subst hk0; rfl
    have e0 := wmarkText_ok k (by omega)
    have w0 : IntKind.i64.wrap (((k : Nat) : Int) + 1) = (k0 : Int) := by rw [← hk0]; exact wrap_id (by omega) (by omega)
    have ih := wheldStringS_l l h1 post (pre ++ [(markT .str c0 k).1]) (markT .str c0 k).2 (by simp [hl]) hk (fun x hx => hB x (by simp [hx]))
    simp only [List.length_append, List.length_cons, List.length_nil, Int.natCast_add, Int.natCast_one, Nat.zero_add] at ih
    rw [DL_loop]
    rw [hc] at ih ⊢
    rw [hd] at hg hg2
    generalize DL V (.loop wheldStringS_l0) = G at ih ⊢
    simp -implicitDefEqProofs [wheldStringS_l0, hlt, hw, hg, hg2, e0, w0]
    exact ih
theorem wheldStringS_ok (l : List (T.den .str)) (k : Nat) (h1 : l.length ≤ 140737488355328) (hk : (markT (.sl .str) l k).2 ≤ 4611686018427387904) (hB : ∀ x ∈ l, BndM .str x) : V wheldStringS [.d (.sl .str (markT (.sl .str) l k).1), .d (.i .i64 k)] [] = some ([], .one (.fz (.i .i64 ((markT (.sl .str) l k).2 : Nat)))) := by
  rw [V_eq (fn := wheldStringS_m) (by kernel_rfl)]
  have hlen := markL_len .str l k
  have e := wheldStringS_l (markT (.sl .str) l k).1 (by rw [hlen]; exact h1) l [] k (by simp) hk hB
  simp only [List.length_nil, Int.natCast_zero] at e
  simp -implicitDefEqProofs [wheldStringS_m, e]
theorem weqProp_ok (c0 : List UInt8) (c1 : List UInt8) (c2 : List UInt8) (hb : BndT TProp (c0, (c1, c2))) : V weqProp [.agg [.d (.s c0), .d (.s c1), .d (.s c2)], .agg [.d (.s c0), .d (.s c1), .d (.s c2)]] [] = some ([], .one (.fz (.b true))) := by
  rw [V_eq (fn := weqProp_m) (by kernel_rfl)]
  have hb : BndT .str c0 ∧ BndT .str c1 ∧ BndT .str c2 := hb
  simp -implicitDefEqProofs [weqProp_m]
theorem weqPropS_l (l : List (T.den TProp)) (h1 : l.length ≤ 9223372036854775807) (hb : ∀ x ∈ l, BndT TProp x) : ∀ post pre : List (T.den TProp), l = pre ++ post →
    DL V (.loop weqPropS_l0) ⟨[(5, .d (.i .i64 pre.length)), (1, .d (.sl TProp l)), (0, .d (.sl TProp l))], []⟩ = some (.ex 0, ⟨[], []⟩)
  | [], pre, hl => by
    rw [DL_loop]
    have : l = pre := by simpa using hl
    subst this
    simp -implicitDefEqProofs [weqPropS_l0]
  | (c0, (c1, c2)) :: post, pre, hl => by
    have ih := weqPropS_l l h1 hb post (pre ++ [(c0, (c1, c2))]) (by simp [hl])
    have hg : l[pre.length]? = some (c0, (c1, c2)) := by rw [hl]; exact mid_get _ _ _
    have hlt : pre.length < l.length := by rw [hl]; simp
    have hg2 : l[pre.length] = (c0, (c1, c2)) := (List.getElem?_eq_some_iff.1 hg).2
    have hw := wrap_succ hlt h1
    have e1 := weqProp_ok c0 c1 c2 (hb (c0, (c1, c2)) (by rw [hl]; simp))
    simp only [List.length_append, List.length_cons, List.length_nil, Int.natCast_add, Int.natCast_one, Nat.zero_add] at ih
    rw [DL_loop]
    generalize DL V (.loop weqPropS_l0) = G at ih ⊢
    simp -implicitDefEqProofs [weqPropS_l0, hg, hg2, hlt, hw, e1]
    exact ih
theorem weqPropS_ok (l : List (T.den TProp)) (hb : BndT (.sl TProp) l) : V weqPropS [.d (.sl TProp l), .d (.sl TProp l)] [] = some ([], .one (.fz (.b true))) := by
  rw [V_eq (fn := weqPropS_m) (by kernel_rfl)]
  have e := weqPropS_l l hb.1 hb.2 l [] rfl
  simp only [List.length_nil, Int.natCast_zero] at e
  simp -implicitDefEqProofs [weqPropS_m, e]
theorem wmarkPropS_l (n : Nat) : ∀ (post pre : List (T.den TProp)) (k : Nat), n = pre.length + post.length → n ≤ 140737488355328 → (markT (.sl TProp) post k).2 ≤ 4611686018427387904 → (∀ x ∈ post, BndM TProp x) →
    DL V (.loop wmarkPropS_l0) ⟨[(5, .d (.i .i64 pre.length)), (1, .d (.i .i64 k)), (0, .h 0 0 n)], [(0, .ls TProp false (pre ++ post) 0 [])]⟩ = some (.ex 0, ⟨[(1, .d (.i .i64 ((markT (.sl TProp) post k).2 : Nat)))], [(0, .ls TProp false (pre ++ (markT (.sl TProp) post k).1) 0 [])]⟩)
  | [], pre, k, hn, hn2, hk, hB => by
    rw [DL_loop]
    have : n = pre.length := by simpa using hn
    subst this
    simp -implicitDefEqProofs [wmarkPropS_l0, markT, mkFold]
  | (c0, (c1, c2)) :: post, pre, k, hn, hn2, hk, hB => by
    have hlt : pre.length < n := by rw [hn]; simp
    have hw := wrap_succ hlt (by omega)
    change (markT (.sl TProp) post (markT TProp (c0, (c1, c2)) k).2).2 ≤ 4611686018427387904 at hk
    change _ = some (Ex.ex 0, (⟨[(1, .d (.i .i64 ((markT (.sl TProp) post (markT TProp (c0, (c1, c2)) k).2).2 : Nat)))], [(0, .ls TProp false (pre ++ (markT TProp (c0, (c1, c2)) k).1 :: (markT (.sl TProp) post (markT TProp (c0, (c1, c2)) k).2).1) 0 [])]⟩ : St))
    have hB0 := hB (c0, (c1, c2)) (by simp)
    have hB0 : BndM .str c0 ∧ BndM .str c1 ∧ BndM .str c2 := hB0
    have hmono := markT_le (.sl TProp) post (markT TProp (c0, (c1, c2)) k).2
    have hm0 := markT_le TProp (c0, (c1, c2)) k
    obtain ⟨k0, hk0⟩ : ∃ k0, k + 1 = k0 := ⟨_, rfl⟩
    obtain ⟨k1, hk1⟩ : ∃ k1, k0 + 1 = k1 := ⟨_, rfl⟩
    obtain ⟨k2, hk2⟩ : ∃ k2, k1 + 1 = k2 := ⟨_, rfl⟩
    have hc : (markT TProp (c0, (c1, c2)) k).2 = k2 := by subst hk0 hk1 hk2; rfl
    have hd : (markT TProp (c0, (c1, c2)) k).1 = (mtx k, (mtx k0, mtx k1)) := by subst hk0 hk1 hk2; rfl
    have e0 := wmarkText_ok k (by omega)
    have w0 : IntKind.i64.wrap (((k : Nat) : Int) + 1) = (k0 : Int) := by rw [← hk0]; exact wrap_id (by omega) (by omega)
    have e1 := wmarkText_ok k0 (by omega)
    have w1 : IntKind.i64.wrap (((k0 : Nat) : Int) + 1) = (k1 : Int) := by rw [← hk1]; exact wrap_id (by omega) (by omega)
    have e2 := wmarkText_ok k1 (by omega)
    have w2 : IntKind.i64.wrap (((k1 : Nat) : Int) + 1) = (k2 : Int) := by rw [← hk2]; exact wrap_id (by omega) (by omega)
    have ih := wmarkPropS_l n post (pre ++ [(markT TProp (c0, (c1, c2)) k).1]) (markT TProp (c0, (c1, c2)) k).2 (by simp at hn ⊢; omega) hn2 hk (fun x hx => hB x (by simp [hx]))
    simp only [List.append_assoc, List.cons_append, List.nil_append, List.length_append, List.length_cons, List.length_nil, Int.natCast_add, Int.natCast_one, Nat.zero_add] at ih
    rw [DL_loop]
    rw [hc, hd] at ih ⊢
    generalize DL V (.loop wmarkPropS_l0) = G at ih ⊢
    simp -implicitDefEqProofs [wmarkPropS_l0, hlt, hw, mid_get, mid_set, e0, w0, e1, w1, e2, w2]
    exact ih
theorem wmarkPropS_ok (l : List (T.den TProp)) (k : Nat) (h1 : l.length ≤ 140737488355328) (hk : (markT (.sl TProp) l k).2 ≤ 4611686018427387904) (hB : ∀ x ∈ l, BndM TProp x) : V wmarkPropS [.h 0 0 l.length, .d (.i .i64 k)] [.ls TProp false l 0 []] = some ([some (.ls TProp false (markT (.sl TProp) l k).1 0 [])], .one (.fz (.i .i64 ((markT (.sl TProp) l k).2 : Nat)))) := by
  rw [V_eq (fn := wmarkPropS_m) (by kernel_rfl)]
  have e := wmarkPropS_l l.length l [] k (by simp) h1 hk hB
  simp only [List.length_nil, Int.natCast_zero, List.nil_append] at e
  simp -implicitDefEqProofs [wmarkPropS_m, e]
theorem wheldPropS_l (l : List (T.den TProp)) (h1 : l.length ≤ 140737488355328) : ∀ (post pre : List (T.den TProp)) (k : Nat), l = pre ++ (markT (.sl TProp) post k).1 → (markT (.sl TProp) post k).2 ≤ 4611686018427387904 → (∀ x ∈ post, BndM TProp x) →
    DL V (.loop wheldPropS_l0) ⟨[(5, .d (.i .i64 pre.length)), (1, .d (.i .i64 k)), (0, .d (.sl TProp l))], []⟩ = some (.ex 0, ⟨[(1, .d (.i .i64 ((markT (.sl TProp) post k).2 : Nat)))], []⟩)
  | [], pre, k, hl, hk, hB => by
    rw [DL_loop]
    have : l = pre := by simpa [markT, mkFold] using hl
    subst this
    simp -implicitDefEqProofs [wheldPropS_l0, markT, mkFold]
  | (c0, (c1, c2)) :: post, pre, k, hl, hk, hB => by
    change l = pre ++ (markT TProp (c0, (c1, c2)) k).1 :: (markT (.sl TProp) post (markT TProp (c0, (c1, c2)) k).2).1 at hl
    change (markT (.sl TProp) post (markT TProp (c0, (c1, c2)) k).2).2 ≤ 4611686018427387904 at hk
    change _ = some (Ex.ex 0, (⟨[(1, .d (.i .i64 ((markT (.sl TProp) post (markT TProp (c0, (c1, c2)) k).2).2 : Nat)))], []⟩ : St))
    have hlt : pre.length < l.length := by rw [hl]; simp
    have hw := wrap_succ hlt (by omega)
    have hmono := markT_le (.sl TProp) post (markT TProp (c0, (c1, c2)) k).2
    have hm0 := markT_le TProp (c0, (c1, c2)) k
    have hB0 := hB (c0, (c1, c2)) (by simp)
    have hg : l[pre.length]? = some (markT TProp (c0, (c1, c2)) k).1 := by rw [hl]; exact mid_get _ _ _
    have hg2 : l[pre.length] = (markT TProp (c0, (c1, c2)) k).1 := (List.getElem?_eq_some_iff.1 hg).2
    have hB0 : BndM .str c0 ∧ BndM .str c1 ∧ BndM .str c2 := hB0
    obtain ⟨k0, hk0⟩ : ∃ k0, k + 1 = k0 := ⟨_, rfl⟩
    obtain ⟨k1, hk1⟩ : ∃ k1, k0 + 1 = k1 := ⟨_, rfl⟩
    obtain ⟨k2, hk2⟩ : ∃ k2, k1 + 1 = k2 := ⟨_, rfl⟩
    have hc : (markT TProp (c0, (c1, c2)) k).2 = k2 := by subst hk0 hk1 hk2; rfl
    have hd : (markT TProp (c0, (c1, c2)) k).1 = (mtx k, (mtx k0, mtx k1)) := by subst hk0 hk1 hk2; rfl
    have e0 := wmarkText_ok k (by omega)
    have w0 : IntKind.i64.wrap (((k : Nat) : Int) + 1) = (k0 : Int) := by rw [← hk0]; exact wrap_id (by omega) (by omega)
    have e1 := wmarkText_ok k0 (by omega)
    have w1 : IntKind.i64.wrap (((k0 : Nat) : Int) + 1) = (k1 : Int) := by rw [← hk1]; exact wrap_id (by omega) (by omega)
    have e2 := wmarkText_ok k1 (by omega)
    have w2 : IntKind.i64.wrap (((k1 : Nat) : Int) + 1) = (k2 : Int) := by rw [← hk2]; exact wrap_id (by omega) (by omega)
    have ih := wheldPropS_l l h1 post (pre ++ [(markT TProp (c0, (c1, c2)) k).1]) (markT TProp (c0, (c1, c2)) k).2 (by simp [hl]) hk (fun x hx => hB x (by simp [hx]))
    simp only [List.length_append, List.length_cons, List.length_nil, Int.natCast_add, Int.natCast_one, Nat.zero_add] at ih
    rw [DL_loop]
    rw [hc] at ih ⊢
    rw [hd] at hg hg2
    generalize DL V (.loop wheldPropS_l0) = G at ih ⊢
    simp -implicitDefEqProofs [wheldPropS_l0, hlt, hw, hg, hg2, e0, w0, e1, w1, e2, w2]
    exact ih
theorem wheldPropS_ok (l : List (T.den TProp)) (k : Nat) (h1 : l.length ≤ 140737488355328) (hk : (markT (.sl TProp) l k).2 ≤ 4611686018427387904) (hB : ∀ x ∈ l, BndM TProp x) : V wheldPropS [.d (.sl TProp (markT (.sl TProp) l k).1), .d (.i .i64 k)] [] = some ([], .one (.fz (.i .i64 ((markT (.sl TProp) l k).2 : Nat)))) := by
  rw [V_eq (fn := wheldPropS_m) (by kernel_rfl)]
  have hlen := markL_len TProp l k
  have e := wheldPropS_l (markT (.sl TProp) l k).1 (by rw [hlen]; exact h1) l [] k (by simp) hk hB
  simp only [List.length_nil, Int.natCast_zero] at e
  simp -implicitDefEqProofs [wheldPropS_m, e]
theorem weqRes_ok (c0 : List (T.den .str)) (c1 : Bool) (c2 : List UInt8) (c3 : Int) (c4 : List (T.den TProp)) (hb : BndT TRes (c0, (c1, (c2, (c3, c4))))) : V weqRes [.agg [.d (.sl .str c0), .d (.b c1), .d (.s c2), .d (.i .i64 c3), .d (.sl TProp c4)], .agg [.d (.sl .str c0), .d (.b c1), .d (.s c2), .d (.i .i64 c3), .d (.sl TProp c4)]] [] = some ([], .one (.fz (.b true))) := by
  rw [V_eq (fn := weqRes_m) (by kernel_rfl)]
  have hb : BndT (.sl .str) c0 ∧ BndT .bool c1 ∧ BndT .str c2 ∧ BndT (.int .i64) c3 ∧ BndT (.sl TProp) c4 := hb
  have e0 := weqStringS_ok c0 hb.1
  have e4 := weqPropS_ok c4 hb.2.2.2.2
  simp -implicitDefEqProofs [weqRes_m, e0, e4]
theorem weqResS_l (l : List (T.den TRes)) (h1 : l.length ≤ 9223372036854775807) (hb : ∀ x ∈ l, BndT TRes x) : ∀ post pre : List (T.den TRes), l = pre ++ post →
    DL V (.loop weqResS_l0) ⟨[(5, .d (.i .i64 pre.length)), (1, .d (.sl TRes l)), (0, .d (.sl TRes l))], []⟩ = some (.ex 0, ⟨[], []⟩)
  | [], pre, hl => by
    rw [DL_loop]
    have : l = pre := by simpa using hl
    subst this
    simp -implicitDefEqProofs [weqResS_l0]
  | (c0, (c1, (c2, (c3, c4)))) :: post, pre, hl => by
    have ih := weqResS_l l h1 hb post (pre ++ [(c0, (c1, (c2, (c3, c4))))]) (by simp [hl])
    have hg : l[pre.length]? = some (c0, (c1, (c2, (c3, c4)))) := by rw [hl]; exact mid_get _ _ _
    have hlt : pre.length < l.length := by rw [hl]; simp
    have hg2 : l[pre.length] = (c0, (c1, (c2, (c3, c4)))) := (List.getElem?_eq_some_iff.1 hg).2
    have hw := wrap_succ hlt h1
    have e1 := weqRes_ok c0 c1 c2 c3 c4 (hb (c0, (c1, (c2, (c3, c4)))) (by rw [hl]; simp))
    simp only [List.length_append, List.length_cons, List.length_nil, Int.natCast_add, Int.natCast_one, Nat.zero_add] at ih
    rw [DL_loop]
    generalize DL V (.loop weqResS_l0) = G at ih ⊢
    simp -implicitDefEqProofs [weqResS_l0, hg, hg2, hlt, hw, e1]
    exact ih
theorem weqResS_ok (l : List (T.den TRes)) (hb : BndT (.sl TRes) l) : V weqResS [.d (.sl TRes l), .d (.sl TRes l)] [] = some ([], .one (.fz (.b true))) := by
  rw [V_eq (fn := weqResS_m) (by kernel_rfl)]
  have e := weqResS_l l hb.1 hb.2 l [] rfl
  simp only [List.length_nil, Int.natCast_zero] at e
  simp -implicitDefEqProofs [weqResS_m, e]
theorem wmarkResS_l (n : Nat) : ∀ (post pre : List (T.den TRes)) (k : Nat), n = pre.length + post.length → n ≤ 140737488355328 → (markT (.sl TRes) post k).2 ≤ 4611686018427387904 → (∀ x ∈ post, BndM TRes x) →
    DL V (.loop wmarkResS_l0) ⟨[(5, .d (.i .i64 pre.length)), (1, .d (.i .i64 k)), (0, .h 0 0 n)], [(0, .ls TRes false (pre ++ post) 0 [])]⟩ = some (.ex 0, ⟨[(1, .d (.i .i64 ((markT (.sl TRes) post k).2 : Nat)))], [(0, .ls TRes false (pre ++ (markT (.sl TRes) post k).1) 0 [])]⟩)
  | [], pre, k, hn, hn2, hk, hB => by
    rw [DL_loop]
    have : n = pre.length := by simpa using hn
    subst this
    simp -implicitDefEqProofs [wmarkResS_l0, markT, mkFold]
  | (c0, (c1, (c2, (c3, c4)))) :: post, pre, k, hn, hn2, hk, hB => by
    have hlt : pre.length < n := by rw [hn]; simp
    have hw := wrap_succ hlt (by omega)
    change (markT (.sl TRes) post (markT TRes (c0, (c1, (c2, (c3, c4)))) k).2).2 ≤ 4611686018427387904 at hk
    change _ = some (Ex.ex 0, (⟨[(1, .d (.i .i64 ((markT (.sl TRes) post (markT TRes (c0, (c1, (c2, (c3, c4)))) k).2).2 : Nat)))], [(0, .ls TRes false (pre ++ (markT TRes (c0, (c1, (c2, (c3, c4)))) k).1 :: (markT (.sl TRes) post (markT TRes (c0, (c1, (c2, (c3, c4)))) k).2).1) 0 [])]⟩ : St))
    have hB0 := hB (c0, (c1, (c2, (c3, c4)))) (by simp)
    have hB0 : BndM (.sl .str) c0 ∧ BndM .bool c1 ∧ BndM .str c2 ∧ BndM (.int .i64) c3 ∧ BndM (.sl TProp) c4 := hB0
    have hmono := markT_le (.sl TRes) post (markT TRes (c0, (c1, (c2, (c3, c4)))) k).2
    have hm0 := markT_le TRes (c0, (c1, (c2, (c3, c4)))) k
    obtain ⟨k0, hk0⟩ : ∃ k0, (markT (.sl .str) c0 k).2 = k0 := ⟨_, rfl⟩
    obtain ⟨k1, hk1⟩ : ∃ k1, k0 + 1 = k1 := ⟨_, rfl⟩
    obtain ⟨k2, hk2⟩ : ∃ k2, k1 + 1 = k2 := ⟨_, rfl⟩
    obtain ⟨k3, hk3⟩ : ∃ k3, k2 + 1 = k3 := ⟨_, rfl⟩
    obtain ⟨k4, hk4⟩ : ∃ k4, (markT (.sl TProp) c4 k3).2 = k4 := ⟨_, rfl⟩
    have hc : (markT TRes (c0, (c1, (c2, (c3, c4)))) k).2 = k4 := by subst hk0 hk1 hk2 hk3 hk4; rfl
    have hd : (markT TRes (c0, (c1, (c2, (c3, c4)))) k).1 = ((markT (.sl .str) c0 k).1, (decide (k0 % 3 = 0), (mtx k1, (((k2 : Nat) : Int), (markT (.sl TProp) c4 k3).1)))) := by subst hk0 hk1 hk2 hk3 hk4; rfl
    have y0 := markT_le (.sl .str) c0 k
    have y4 := markT_le (.sl TProp) c4 k3
    have e0 := wmarkStringS_ok c0 k hB0.1.1 (by omega) hB0.1.2
    rw [hk0] at e0
    have z0 := markL_len .str c0 k
    have e1 := tmod3 k0
    have w1 : IntKind.i64.wrap (((k0 : Nat) : Int) + 1) = (k1 : Int) := by rw [← hk1]; exact wrap_id (by omega) (by omega)
    have e2 := wmarkText_ok k1 (by omega)
    have w2 : IntKind.i64.wrap (((k1 : Nat) : Int) + 1) = (k2 : Int) := by rw [← hk2]; exact wrap_id (by omega) (by omega)
    have e3 : IntKind.i64.wrap ((k2 : Nat) : Int) = ((k2 : Nat) : Int) := wrap_id (by omega) (by omega)
    have w3 : IntKind.i64.wrap (((k2 : Nat) : Int) + 1) = (k3 : Int) := by rw [← hk3]; exact wrap_id (by omega) (by omega)
    have e4 := wmarkPropS_ok c4 k3 hB0.2.2.2.2.1 (by omega) hB0.2.2.2.2.2
    rw [hk4] at e4
    have z4 := markL_len TProp c4 k3
    have ih := wmarkResS_l n post (pre ++ [(markT TRes (c0, (c1, (c2, (c3, c4)))) k).1]) (markT TRes (c0, (c1, (c2, (c3, c4)))) k).2 (by simp at hn ⊢; omega) hn2 hk (fun x hx => hB x (by simp [hx]))
    simp only [List.append_assoc, List.cons_append, List.nil_append, List.length_append, List.length_cons, List.length_nil, Int.natCast_add, Int.natCast_one, Nat.zero_add] at ih
    rw [DL_loop]
    rw [hc, hd] at ih ⊢
    generalize DL V (.loop wmarkResS_l0) = G at ih ⊢
    simp -implicitDefEqProofs [wmarkResS_l0, hlt, hw, mid_get, mid_set, e0, z0, e1, w1, e2, w2, e3, w3, e4, z4]
    exact ih
theorem wmarkResS_ok (l : List (T.den TRes)) (k : Nat) (h1 : l.length ≤ 140737488355328) (hk : (markT (.sl TRes) l k).2 ≤ 4611686018427387904) (hB : ∀ x ∈ l, BndM TRes x) : V wmarkResS [.h 0 0 l.length, .d (.i .i64 k)] [.ls TRes false l 0 []] = some ([some (.ls TRes false (markT (.sl TRes) l k).1 0 [])], .one (.fz (.i .i64 ((markT (.sl TRes) l k).2 : Nat)))) := by
  rw [V_eq (fn := wmarkResS_m) (by kernel_rfl)]
  have e := wmarkResS_l l.length l [] k (by simp) h1 hk hB
  simp only [List.length_nil, Int.natCast_zero, List.nil_append] at e
  simp -implicitDefEqProofs [wmarkResS_m, e]
theorem wheldResS_l (l : List (T.den TRes)) (h1 : l.length ≤ 140737488355328) : ∀ (post pre : List (T.den TRes)) (k : Nat), l = pre ++ (markT (.sl TRes) post k).1 → (markT (.sl TRes) post k).2 ≤ 4611686018427387904 → (∀ x ∈ post, BndM TRes x) →
    DL V (.loop wheldResS_l0) ⟨[(5, .d (.i .i64 pre.length)), (1, .d (.i .i64 k)), (0, .d (.sl TRes l))], []⟩ = some (.ex 0, ⟨[(1, .d (.i .i64 ((markT (.sl TRes) post k).2 : Nat)))], []⟩)
  | [], pre, k, hl, hk, hB => by
    rw [DL_loop]
    have : l = pre := by simpa [markT, mkFold] using hl
    subst this
    simp -implicitDefEqProofs [wheldResS_l0, markT, mkFold]
  | (c0, (c1, (c2, (c3, c4)))) :: post, pre, k, hl, hk, hB => by
    change l = pre ++ (markT TRes (c0, (c1, (c2, (c3, c4)))) k).1 :: (markT (.sl TRes) post (markT TRes (c0, (c1, (c2, (c3, c4)))) k).2).1 at hl
    change (markT (.sl TRes) post (markT TRes (c0, (c1, (c2, (c3, c4)))) k).2).2 ≤ 4611686018427387904 at hk
    change _ = some (Ex.ex 0, (⟨[(1, .d (.i .i64 ((markT (.sl TRes) post (markT TRes (c0, (c1, (c2, (c3, c4)))) k).2).2 : Nat)))], []⟩ : St))
    have hlt : pre.length < l.length := by rw [hl]; simp
    have hw := wrap_succ hlt (by omega)
    have hmono := markT_le (.sl TRes) post (markT TRes (c0, (c1, (c2, (c3, c4)))) k).2
    have hm0 := markT_le TRes (c0, (c1, (c2, (c3, c4)))) k
    have hB0 := hB (c0, (c1, (c2, (c3, c4)))) (by simp)
    have hg : l[pre.length]? = some (markT TRes (c0, (c1, (c2, (c3, c4)))) k).1 := by rw [hl]; exact mid_get _ _ _
    have hg2 : l[pre.length] = (markT TRes (c0, (c1, (c2, (c3, c4)))) k).1 := (List.getElem?_eq_some_iff.1 hg).2
    have hB0 : BndM (.sl .str) c0 ∧ BndM .bool c1 ∧ BndM .str c2 ∧ BndM (.int .i64) c3 ∧ BndM (.sl TProp) c4 := hB0
    obtain ⟨k0, hk0⟩ : ∃ k0, (markT (.sl .str) c0 k).2 = k0 := ⟨_, rfl⟩
    obtain ⟨k1, hk1⟩ : ∃ k1, k0 + 1 = k1 := ⟨_, rfl⟩
    obtain ⟨k2, hk2⟩ : ∃ k2, k1 + 1 = k2 := ⟨_, rfl⟩
    obtain ⟨k3, hk3⟩ : ∃ k3, k2 + 1 = k3 := ⟨_, rfl⟩
    obtain ⟨k4, hk4⟩ : ∃ k4, (markT (.sl TProp) c4 k3).2 = k4 := ⟨_, rfl⟩
    have hc : (markT TRes (c0, (c1, (c2, (c3, c4)))) k).2 = k4 := by subst hk0 hk1 hk2 hk3 hk4; rfl
    have hd : (markT TRes (c0, (c1, (c2, (c3, c4)))) k).1 = ((markT (.sl .str) c0 k).1, (decide (k0 % 3 = 0), (mtx k1, (((k2 : Nat) : Int), (markT (.sl TProp) c4 k3).1)))) := by subst hk0 hk1 hk2 hk3 hk4; rfl
    have y0 := markT_le (.sl .str) c0 k
    have y4 := markT_le (.sl TProp) c4 k3
    have e0 := wheldStringS_ok c0 k hB0.1.1 (by omega) hB0.1.2
    rw [hk0] at e0
    have e1 := tmod3 k0
    have w1 : IntKind.i64.wrap (((k0 : Nat) : Int) + 1) = (k1 : Int) := by rw [← hk1]; exact wrap_id (by omega) (by omega)
    have e2 := wmarkText_ok k1 (by omega)
    have w2 : IntKind.i64.wrap (((k1 : Nat) : Int) + 1) = (k2 : Int) := by rw [← hk2]; exact wrap_id (by omega) (by omega)
    have e3 : IntKind.i64.wrap ((k2 : Nat) : Int) = ((k2 : Nat) : Int) := wrap_id (by omega) (by omega)
    have w3 : IntKind.i64.wrap (((k2 : Nat) : Int) + 1) = (k3 : Int) := by rw [← hk3]; exact wrap_id (by omega) (by omega)
    have e4 := wheldPropS_ok c4 k3 hB0.2.2.2.2.1 (by omega) hB0.2.2.2.2.2
    rw [hk4] at e4
    have ih := wheldResS_l l h1 post (pre ++ [(markT TRes (c0, (c1, (c2, (c3, c4)))) k).1]) (markT TRes (c0, (c1, (c2, (c3, c4)))) k).2 (by simp [hl]) hk (fun x hx => hB x (by simp [hx]))
    simp only [List.length_append, List.length_cons, List.length_nil, Int.natCast_add, Int.natCast_one, Nat.zero_add] at ih
    rw [DL_loop]
    rw [hc] at ih ⊢
    rw [hd] at hg hg2
    generalize DL V (.loop wheldResS_l0) = G at ih ⊢
    simp -implicitDefEqProofs [wheldResS_l0, hlt, hw, hg, hg2, e0, e1, w1, e2, w2, e3, w3, e4]
    exact ih
theorem wheldResS_ok (l : List (T.den TRes)) (k : Nat) (h1 : l.length ≤ 140737488355328) (hk : (markT (.sl TRes) l k).2 ≤ 4611686018427387904) (hB : ∀ x ∈ l, BndM TRes x) : V wheldResS [.d (.sl TRes (markT (.sl TRes) l k).1), .d (.i .i64 k)] [] = some ([], .one (.fz (.i .i64 ((markT (.sl TRes) l k).2 : Nat)))) := by
  rw [V_eq (fn := wheldResS_m) (by kernel_rfl)]
  have hlen := markL_len TRes l k
  have e := wheldResS_l (markT (.sl TRes) l k).1 (by rw [hlen]; exact h1) l [] k (by simp) hk hB
  simp only [List.length_nil, Int.natCast_zero] at e
  simp -implicitDefEqProofs [wheldResS_m, e]
theorem weqLock_ok (c0 : Int) (c1 : List (T.den .str)) (c2 : Bool) (c3 : Bool) (c4 : Int) (hb : BndT TLock (c0, (c1, (c2, (c3, c4))))) : V weqLock [.agg [.d (.i .i64 c0), .d (.sl .str c1), .d (.b c2), .d (.b c3), .d (.i .i64 c4)], .agg [.d (.i .i64 c0), .d (.sl .str c1), .d (.b c2), .d (.b c3), .d (.i .i64 c4)]] [] = some ([], .one (.fz (.b true))) := by
  rw [V_eq (fn := weqLock_m) (by kernel_rfl)]
  have hb : BndT (.int .i64) c0 ∧ BndT (.sl .str) c1 ∧ BndT .bool c2 ∧ BndT .bool c3 ∧ BndT (.int .i64) c4 := hb
  have e1 := weqStringS_ok c1 hb.2.1
  simp -implicitDefEqProofs [weqLock_m, e1]
theorem weqLockS_l (l : List (T.den TLock)) (h1 : l.length ≤ 9223372036854775807) (hb : ∀ x ∈ l, BndT TLock x) : ∀ post pre : List (T.den TLock), l = pre ++ post →
    DL V (.loop weqLockS_l0) ⟨[(5, .d (.i .i64 pre.length)), (1, .d (.sl TLock l)), (0, .d (.sl TLock l))], []⟩ = some (.ex 0, ⟨[], []⟩)
  | [], pre, hl => by
    rw [DL_loop]
    have : l = pre := by simpa using hl
    subst this
    simp -implicitDefEqProofs [weqLockS_l0]
  | (c0, (c1, (c2, (c3, c4)))) :: post, pre, hl => by
    have ih := weqLockS_l l h1 hb post (pre ++ [(c0, (c1, (c2, (c3, c4))))]) (by simp [hl])
    have hg : l[pre.length]? = some (c0, (c1, (c2, (c3, c4)))) := by rw [hl]; exact mid_get _ _ _
    have hlt : pre.length < l.length := by rw [hl]; simp
    have hg2 : l[pre.length] = (c0, (c1, (c2, (c3, c4)))) := (List.getElem?_eq_some_iff.1 hg).2
    have hw := wrap_succ hlt h1
    have e1 := weqLock_ok c0 c1 c2 c3 c4 (hb (c0, (c1, (c2, (c3, c4)))) (by rw [hl]; simp))
    simp only [List.length_append, List.length_cons, List.length_nil, Int.natCast_add, Int.natCast_one, Nat.zero_add] at ih
    rw [DL_loop]
    generalize DL V (.loop weqLockS_l0) = G at ih ⊢
    simp -implicitDefEqProofs [weqLockS_l0, hg, hg2, hlt, hw, e1]
    exact ih
theorem weqLockS_ok (l : List (T.den TLock)) (hb : BndT (.sl TLock) l) : V weqLockS [.d (.sl TLock l), .d (.sl TLock l)] [] = some ([], .one (.fz (.b true))) := by
  rw [V_eq (fn := weqLockS_m) (by kernel_rfl)]
  have e := weqLockS_l l hb.1 hb.2 l [] rfl
  simp only [List.length_nil, Int.natCast_zero] at e
  simp -implicitDefEqProofs [weqLockS_m, e]
theorem wmarkLockS_l (n : Nat) : ∀ (post pre : List (T.den TLock)) (k : Nat), n = pre.length + post.length → n ≤ 140737488355328 → (markT (.sl TLock) post k).2 ≤ 4611686018427387904 → (∀ x ∈ post, BndM TLock x) →
    DL V (.loop wmarkLockS_l0) ⟨[(5, .d (.i .i64 pre.length)), (1, .d (.i .i64 k)), (0, .h 0 0 n)], [(0, .ls TLock false (pre ++ post) 0 [])]⟩ = some (.ex 0, ⟨[(1, .d (.i .i64 ((markT (.sl TLock) post k).2 : Nat)))], [(0, .ls TLock false (pre ++ (markT (.sl TLock) post k).1) 0 [])]⟩)
  | [], pre, k, hn, hn2, hk, hB => by
    rw [DL_loop]
    have : n = pre.length := by simpa using hn
    subst this
    simp -implicitDefEqProofs [wmarkLockS_l0, markT, mkFold]
  | (c0, (c1, (c2, (c3, c4)))) :: post, pre, k, hn, hn2, hk, hB => by
    have hlt : pre.length < n := by rw [hn]; simp
    have hw := wrap_succ hlt (by omega)
    change (markT (.sl TLock) post (markT TLock (c0, (c1, (c2, (c3, c4)))) k).2).2 ≤ 4611686018427387904 at hk
    change _ = some (Ex.ex 0, (⟨[(1, .d (.i .i64 ((markT (.sl TLock) post (markT TLock (c0, (c1, (c2, (c3, c4)))) k).2).2 : Nat)))], [(0, .ls TLock false (pre ++ (markT TLock (c0, (c1, (c2, (c3, c4)))) k).1 :: (markT (.sl TLock) post (markT TLock (c0, (c1, (c2, (c3, c4)))) k).2).1) 0 [])]⟩ : St))
    have hB0 := hB (c0, (c1, (c2, (c3, c4)))) (by simp)
    have hB0 : BndM (.int .i64) c0 ∧ BndM (.sl .str) c1 ∧ BndM .bool c2 ∧ BndM .bool c3 ∧ BndM (.int .i64) c4 := hB0
    have hmono := markT_le (.sl TLock) post (markT TLock (c0, (c1, (c2, (c3, c4)))) k).2
    have hm0 := markT_le TLock (c0, (c1, (c2, (c3, c4)))) k
    obtain ⟨k0, hk0⟩ : ∃ k0, k + 1 = k0 := ⟨_, rfl⟩
    obtain ⟨k1, hk1⟩ : ∃ k1, (markT (.sl .str) c1 k0).2 = k1 := ⟨_, rfl⟩
    obtain ⟨k2, hk2⟩ : ∃ k2, k1 + 1 = k2 := ⟨_, rfl⟩
    obtain ⟨k3, hk3⟩ : ∃ k3, k2 + 1 = k3 := ⟨_, rfl⟩
    obtain ⟨k4, hk4⟩ : ∃ k4, k3 + 1 = k4 := ⟨_, rfl⟩
    have hc : (markT TLock (c0, (c1, (c2, (c3, c4)))) k).2 = k4 := by subst hk0 hk1 hk2 hk3 hk4; rfl
    have hd : (markT TLock (c0, (c1, (c2, (c3, c4)))) k).1 = (((k : Nat) : Int), ((markT (.sl .str) c1 k0).1, (decide (k1 % 3 = 0), (decide (k2 % 3 = 0), ((k3 : Nat) : Int))))) := by subst hk0 hk1 hk2 hk3 hk4; rfl
    have y1 := markT_le (.sl .str) c1 k0
    have e0 : IntKind.i64.wrap ((k : Nat) : Int) = ((k : Nat) : Int) := wrap_id (by omega) (by omega)
    have w0 : IntKind.i64.wrap (((k : Nat) : Int) + 1) = (k0 : Int) := by rw [← hk0]; exact wrap_id (by omega) (by omega)
    have e1 := wmarkStringS_ok c1 k0 hB0.2.1.1 (by omega) hB0.2.1.2
    rw [hk1] at e1
    have z1 := markL_len .str c1 k0
    have e2 := tmod3 k1
    have w2 : IntKind.i64.wrap (((k1 : Nat) : Int) + 1) = (k2 : Int) := by rw [← hk2]; exact wrap_id (by omega) (by omega)
    have e3 := tmod3 k2
    have w3 : IntKind.i64.wrap (((k2 : Nat) : Int) + 1) = (k3 : Int) := by rw [← hk3]; exact wrap_id (by omega) (by omega)
    have e4 : IntKind.i64.wrap ((k3 : Nat) : Int) = ((k3 : Nat) : Int) := wrap_id (by omega) (by omega)
    have w4 : IntKind.i64.wrap (((k3 : Nat) : Int) + 1) = (k4 : Int) := by rw [← hk4]; exact wrap_id (by omega) (by omega)
    have ih := wmarkLockS_l n post (pre ++ [(markT TLock (c0, (c1, (c2, (c3, c4)))) k).1]) (markT TLock (c0, (c1, (c2, (c3, c4)))) k).2 (by simp at hn ⊢; omega) hn2 hk (fun x hx => hB x (by simp [hx]))
    simp only [List.append_assoc, List.cons_append, List.nil_append, List.length_append, List.length_cons, List.length_nil, Int.natCast_add, Int.natCast_one, Nat.zero_add] at ih
    rw [DL_loop]
    rw [hc, hd] at ih ⊢
    generalize DL V (.loop wmarkLockS_l0) = G at ih ⊢
    simp -implicitDefEqProofs [wmarkLockS_l0, hlt, hw, mid_get, mid_set, e0, w0, e1, z1, e2, w2, e3, w3, e4, w4]
    exact ih
theorem wmarkLockS_ok (l : List (T.den TLock)) (k : Nat) (h1 : l.length ≤ 140737488355328) (hk : (markT (.sl TLock) l k).2 ≤ 4611686018427387904) (hB : ∀ x ∈ l, BndM TLock x) : V wmarkLockS [.h 0 0 l.length, .d (.i .i64 k)] [.ls TLock false l 0 []] = some ([some (.ls TLock false (markT (.sl TLock) l k).1 0 [])], .one (.fz (.i .i64 ((markT (.sl TLock) l k).2 : Nat)))) := by
  rw [V_eq (fn := wmarkLockS_m) (by kernel_rfl)]
  have e := wmarkLockS_l l.length l [] k (by simp) h1 hk hB
  simp only [List.length_nil, Int.natCast_zero, List.nil_append] at e
  simp -implicitDefEqProofs [wmarkLockS_m, e]
theorem wheldLockS_l (l : List (T.den TLock)) (h1 : l.length ≤ 140737488355328) : ∀ (post pre : List (T.den TLock)) (k : Nat), l = pre ++ (markT (.sl TLock) post k).1 → (markT (.sl TLock) post k).2 ≤ 4611686018427387904 → (∀ x ∈ post, BndM TLock x) →
    DL V (.loop wheldLockS_l0) ⟨[(5, .d (.i .i64 pre.length)), (1, .d (.i .i64 k)), (0, .d (.sl TLock l))], []⟩ = some (.ex 0, ⟨[(1, .d (.i .i64 ((markT (.sl TLock) post k).2 : Nat)))], []⟩)
  | [], pre, k, hl, hk, hB => by
    rw [DL_loop]
    have : l = pre := by simpa [markT, mkFold] using hl
    subst this
    simp -implicitDefEqProofs [wheldLockS_l0, markT, mkFold]
  | (c0, (c1, (c2, (c3, c4)))) :: post, pre, k, hl, hk, hB => by
    change l = pre ++ (markT TLock (c0, (c1, (c2, (c3, c4)))) k).1 :: (markT (.sl TLock) post (markT TLock (c0, (c1, (c2, (c3, c4)))) k).2).1 at hl
    change (markT (.sl TLock) post (markT TLock (c0, (c1, (c2, (c3, c4)))) k).2).2 ≤ 4611686018427387904 at hk
    change _ = some (Ex.ex 0, (⟨[(1, .d (.i .i64 ((markT (.sl TLock) post (markT TLock (c0, (c1, (c2, (c3, c4)))) k).2).2 : Nat)))], []⟩ : St))
    have hlt : pre.length < l.length := by rw [hl]; simp
    have hw := wrap_succ hlt (by omega)
    have hmono := markT_le (.sl TLock) post (markT TLock (c0, (c1, (c2, (c3, c4)))) k).2
    have hm0 := markT_le TLock (c0, (c1, (c2, (c3, c4)))) k
    have hB0 := hB (c0, (c1, (c2, (c3, c4)))) (by simp)
    have hg : l[pre.length]? = some (markT TLock (c0, (c1, (c2, (c3, c4)))) k).1 := by rw [hl]; exact mid_get _ _ _
    have hg2 : l[pre.length] = (markT TLock (c0, (c1, (c2, (c3, c4)))) k).1 := (List.getElem?_eq_some_iff.1 hg).2
    have hB0 : BndM (.int .i64) c0 ∧ BndM (.sl .str) c1 ∧ BndM .bool c2 ∧ BndM .bool c3 ∧ BndM (.int .i64) c4 := hB0
    obtain ⟨k0, hk0⟩ : ∃ k0, k + 1 = k0 := ⟨_, rfl⟩
    obtain ⟨k1, hk1⟩ : ∃ k1, (markT (.sl .str) c1 k0).2 = k1 := ⟨_, rfl⟩
    obtain ⟨k2, hk2⟩ : ∃ k2, k1 + 1 = k2 := ⟨_, rfl⟩
    obtain ⟨k3, hk3⟩ : ∃ k3, k2 + 1 = k3 := ⟨_, rfl⟩
    obtain ⟨k4, hk4⟩ : ∃ k4, k3 + 1 = k4 := ⟨_, rfl⟩
    have hc : (markT TLock (c0, (c1, (c2, (c3, c4)))) k).2 = k4 := by subst hk0 hk1 hk2 hk3 hk4; rfl
    have hd : (markT TLock (c0, (c1, (c2, (c3, c4)))) k).1 = (((k : Nat) : Int), ((markT (.sl .str) c1 k0).1, (decide (k1 % 3 = 0), (decide (k2 % 3 = 0), ((k3 : Nat) : Int))))) := by subst hk0 hk1 hk2 hk3 hk4; rfl
    have y1 := markT_le (.sl .str) c1 k0
    have e0 : IntKind.i64.wrap ((k : Nat) : Int) = ((k : Nat) : Int) := wrap_id (by omega) (by omega)
    have w0 : IntKind.i64.wrap (((k : Nat) : Int) + 1) = (k0 : Int) := by rw [← hk0]; exact wrap_id (by omega) (by omega)
    have e1 := wheldStringS_ok c1 k0 hB0.2.1.1 (by omega) hB0.2.1.2
    rw [hk1] at e1
    have e2 := tmod3 k1
    have w2 : IntKind.i64.wrap (((k1 : Nat) : Int) + 1) = (k2 : Int) := by rw [← hk2]; exact wrap_id (by omega) (by omega)
    have e3 := tmod3 k2
    have w3 : IntKind.i64.wrap (((k2 : Nat) : Int) + 1) = (k3 : Int) := by rw [← hk3]; exact wrap_id (by omega) (by omega)
    have e4 : IntKind.i64.wrap ((k3 : Nat) : Int) = ((k3 : Nat) : Int) := wrap_id (by omega) (by omega)
    have w4 : IntKind.i64.wrap (((k3 : Nat) : Int) + 1) = (k4 : Int) := by rw [← hk4]; exact wrap_id (by omega) (by omega)
    have ih := wheldLockS_l l h1 post (pre ++ [(markT TLock (c0, (c1, (c2, (c3, c4)))) k).1]) (markT TLock (c0, (c1, (c2, (c3, c4)))) k).2 (by simp [hl]) hk (fun x hx => hB x (by simp [hx]))
    simp only [List.length_append, List.length_cons, List.length_nil, Int.natCast_add, Int.natCast_one, Nat.zero_add] at ih
    rw [DL_loop]
    rw [hc] at ih ⊢
    rw [hd] at hg hg2
    generalize DL V (.loop wheldLockS_l0) = G at ih ⊢
    simp -implicitDefEqProofs [wheldLockS_l0, hlt, hw, hg, hg2, e0, w0, e1, e2, w2, e3, w3, e4, w4]
    exact ih
theorem wheldLockS_ok (l : List (T.den TLock)) (k : Nat) (h1 : l.length ≤ 140737488355328) (hk : (markT (.sl TLock) l k).2 ≤ 4611686018427387904) (hB : ∀ x ∈ l, BndM TLock x) : V wheldLockS [.d (.sl TLock (markT (.sl TLock) l k).1), .d (.i .i64 k)] [] = some ([], .one (.fz (.i .i64 ((markT (.sl TLock) l k).2 : Nat)))) := by
  rw [V_eq (fn := wheldLockS_m) (by kernel_rfl)]
  have hlen := markL_len TLock l k
  have e := wheldLockS_l (markT (.sl TLock) l k).1 (by rw [hlen]; exact h1) l [] k (by simp) hk hB
  simp only [List.length_nil, Int.natCast_zero] at e
  simp -implicitDefEqProofs [wheldLockS_m, e]
theorem weqIntS_l (l : List (T.den (.int .i64))) (h1 : l.length ≤ 9223372036854775807) (hb : ∀ x ∈ l, BndT (.int .i64) x) : ∀ post pre : List (T.den (.int .i64)), l = pre ++ post →
    DL V (.loop weqIntS_l0) ⟨[(5, .d (.i .i64 pre.length)), (1, .d (.sl (.int .i64) l)), (0, .d (.sl (.int .i64) l))], []⟩ = some (.ex 0, ⟨[], []⟩)
  | [], pre, hl => by
    rw [DL_loop]
    have : l = pre := by simpa using hl
    subst this
    simp -implicitDefEqProofs [weqIntS_l0]
  | c0 :: post, pre, hl => by
    have ih := weqIntS_l l h1 hb post (pre ++ [c0]) (by simp [hl])
    have hg : l[pre.length]? = some c0 := by rw [hl]; exact mid_get _ _ _
    have hlt : pre.length < l.length := by rw [hl]; simp
    have hg2 : l[pre.length] = c0 := (List.getElem?_eq_some_iff.1 hg).2
    have hw := wrap_succ hlt h1
    simp only [List.length_append, List.length_cons, List.length_nil, Int.natCast_add, Int.natCast_one, Nat.zero_add] at ih
    rw [DL_loop]
    generalize DL V (.loop weqIntS_l0) = G at ih ⊢
    simp -implicitDefEqProofs [weqIntS_l0, hg, hg2, hlt, hw]
    exact ih
theorem weqIntS_ok (l : List (T.den (.int .i64))) (hb : BndT (.sl (.int .i64)) l) : V weqIntS [.d (.sl (.int .i64) l), .d (.sl (.int .i64) l)] [] = some ([], .one (.fz (.b true))) := by
  rw [V_eq (fn := weqIntS_m) (by kernel_rfl)]
  have e := weqIntS_l l hb.1 hb.2 l [] rfl
  simp only [List.length_nil, Int.natCast_zero] at e
  simp -implicitDefEqProofs [weqIntS_m, e]
theorem wmarkIntS_l (n : Nat) : ∀ (post pre : List (T.den (.int .i64))) (k : Nat), n = pre.length + post.length → n ≤ 140737488355328 → (markT (.sl (.int .i64)) post k).2 ≤ 4611686018427387904 → (∀ x ∈ post, BndM (.int .i64) x) →
    DL V (.loop wmarkIntS_l0) ⟨[(5, .d (.i .i64 pre.length)), (1, .d (.i .i64 k)), (0, .h 0 0 n)], [(0, .ls (.int .i64) false (pre ++ post) 0 [])]⟩ = some (.ex 0, ⟨[(1, .d (.i .i64 ((markT (.sl (.int .i64)) post k).2 : Nat)))], [(0, .ls (.int .i64) false (pre ++ (markT (.sl (.int .i64)) post k).1) 0 [])]⟩)
  | [], pre, k, hn, hn2, hk, hB => by
    rw [DL_loop]
    have : n = pre.length := by simpa using hn
    subst this
    simp -implicitDefEqProofs [wmarkIntS_l0, markT, mkFold]
  | c0 :: post, pre, k, hn, hn2, hk, hB => by
    have hlt : pre.length < n := by rw [hn]; simp
    have hw := wrap_succ hlt (by omega)
    change (markT (.sl (.int .i64)) post (markT (.int .i64) c0 k).2).2 ≤ 4611686018427387904 at hk
    change _ = some (Ex.ex 0, (⟨[(1, .d (.i .i64 ((markT (.sl (.int .i64)) post (markT (.int .i64) c0 k).2).2 : Nat)))], [(0, .ls (.int .i64) false (pre ++ (markT (.int .i64) c0 k).1 :: (markT (.sl (.int .i64)) post (markT (.int .i64) c0 k).2).1) 0 [])]⟩ : St))
    have hB0 := hB c0 (by simp)
    have hB0 : BndM (.int .i64) c0 := hB0
    have hmono := markT_le (.sl (.int .i64)) post (markT (.int .i64) c0 k).2
    have hm0 := markT_le (.int .i64) c0 k
    obtain ⟨k0, hk0⟩ : ∃ k0, k + 1 = k0 := ⟨_, rfl⟩
    have hc : (markT (.int .i64) c0 k).2 = k0 := by subst hk0; rfl
    have hd : (markT (.int .i64) c0 k).1 = ((k : Nat) : Int) := by subst hk0; rfl
    have e0 : IntKind.i64.wrap ((k : Nat) : Int) = ((k : Nat) : Int) := wrap_id (by omega) (by omega)
    have w0 : IntKind.i64.wrap (((k : Nat) : Int) + 1) = (k0 : Int) := by rw [← hk0]; exact wrap_id (by omega) (by omega)
    have ih := wmarkIntS_l n post (pre ++ [(markT (.int .i64) c0 k).1]) (markT (.int .i64) c0 k).2 (by simp at hn ⊢; omega) hn2 hk (fun x hx => hB x (by simp [hx]))
    simp only [List.append_assoc, List.cons_append, List.nil_append, List.length_append, List.length_cons, List.length_nil, Int.natCast_add, Int.natCast_one, Nat.zero_add] at ih
    rw [DL_loop]
    rw [hc, hd] at ih ⊢
    generalize DL V (.loop wmarkIntS_l0) = G at ih ⊢
    simp -implicitDefEqProofs [wmarkIntS_l0, hlt, hw, mid_get, mid_set, e0, w0]
    exact ih
theorem wmarkIntS_ok (l : List (T.den (.int .i64))) (k : Nat) (h1 : l.length ≤ 140737488355328) (hk : (markT (.sl (.int .i64)) l k).2 ≤ 4611686018427387904) (hB : ∀ x ∈ l, BndM (.int .i64) x) : V wmarkIntS [.h 0 0 l.length, .d (.i .i64 k)] [.ls (.int .i64) false l 0 []] = some ([some (.ls (.int .i64) false (markT (.sl (.int .i64)) l k).1 0 [])], .one (.fz (.i .i64 ((markT (.sl (.int .i64)) l k).2 : Nat)))) := by
  rw [V_eq (fn := wmarkIntS_m) (by kernel_rfl)]
  have e := wmarkIntS_l l.length l [] k (by simp) h1 hk hB
  simp only [List.length_nil, Int.natCast_zero, List.nil_append] at e
  simp -implicitDefEqProofs [wmarkIntS_m, e]
theorem wheldIntS_l (l : List (T.den (.int .i64))) (h1 : l.length ≤ 140737488355328) : ∀ (post pre : List (T.den (.int .i64))) (k : Nat), l = pre ++ (markT (.sl (.int .i64)) post k).1 → (markT (.sl (.int .i64)) post k).2 ≤ 4611686018427387904 → (∀ x ∈ post, BndM (.int .i64) x) →
    DL V (.loop wheldIntS_l0) ⟨[(5, .d (.i .i64 pre.length)), (1, .d (.i .i64 k)), (0, .d (.sl (.int .i64) l))], []⟩ = some (.ex 0, ⟨[(1, .d (.i .i64 ((markT (.sl (.int .i64)) post k).2 : Nat)))], []⟩)
  | [], pre, k, hl, hk, hB => by
    rw [DL_loop]
    have : l = pre := by simpa [markT, mkFold] using hl
    subst this
    simp -implicitDefEqProofs [wheldIntS_l0, markT, mkFold]
  | c0 :: post, pre, k, hl, hk, hB => by
    change l = pre ++ (markT (.int .i64) c0 k).1 :: (markT (.sl (.int .i64)) post (markT (.int .i64) c0 k).2).1 at hl
    change (markT (.sl (.int .i64)) post (markT (.int .i64) c0 k).2).2 ≤ 4611686018427387904 at hk
    change _ = some (Ex.ex 0, (⟨[(1, .d (.i .i64 ((markT (.sl (.int .i64)) post (markT (.int .i64) c0 k).2).2 : Nat)))], []⟩ : St))
    have hlt : pre.length < l.length := by rw [hl]; simp
    have hw := wrap_succ hlt (by omega)
    have hmono := markT_le (.sl (.int .i64)) post (markT (.int .i64) c0 k).2
    have hm0 := markT_le (.int .i64) c0 k
    have hB0 := hB c0 (by simp)
    have hg : l[pre.length]? = some (markT (.int .i64) c0 k).1 := by rw [hl]; exact mid_get _ _ _
    have hg2 : l[pre.length] = (markT (.int .i64) c0 k).1 := (List.getElem?_eq_some_iff.1 hg).2
    have hB0 : BndM (.int .i64) c0 := hB0
    obtain ⟨k0, hk0⟩ : ∃ k0, k + 1 = k0 := ⟨_, rfl⟩
    have hc : (markT (.int .i64) c0 k).2 = k0 := by subst hk0; rfl
    have hd : (markT (.int .i64) c0 k).1 = ((k : Nat) : Int) := by subst hk0; rfl
    have e0 : IntKind.i64.wrap ((k : Nat) : Int) = ((k : Nat) : Int) := wrap_id (by omega) (by omega)
    have w0 : IntKind.i64.wrap (((k : Nat) : Int) + 1) = (k0 : Int) := by rw [← hk0]; exact wrap_id (by omega) (by omega)
    have ih := wheldIntS_l l h1 post (pre ++ [(markT (.int .i64) c0 k).1]) (markT (.int .i64) c0 k).2 (by simp [hl]) hk (fun x hx => hB x (by simp [hx]))
    simp only [List.length_append, List.length_cons, List.length_nil, Int.natCast_add, Int.natCast_one, Nat.zero_add] at ih
    rw [DL_loop]
    rw [hc] at ih ⊢
    rw [hd] at hg hg2
    generalize DL V (.loop wheldIntS_l0) = G at ih ⊢
    simp -implicitDefEqProofs [wheldIntS_l0, hlt, hw, hg, hg2, e0, w0]
    exact ih
theorem wheldIntS_ok (l : List (T.den (.int .i64))) (k : Nat) (h1 : l.length ≤ 140737488355328) (hk : (markT (.sl (.int .i64)) l k).2 ≤ 4611686018427387904) (hB : ∀ x ∈ l, BndM (.int .i64) x) : V wheldIntS [.d (.sl (.int .i64) (markT (.sl (.int .i64)) l k).1), .d (.i .i64 k)] [] = some ([], .one (.fz (.i .i64 ((markT (.sl (.int .i64)) l k).2 : Nat)))) := by
  rw [V_eq (fn := wheldIntS_m) (by kernel_rfl)]
  have hlen := markL_len (.int .i64) l k
  have e := wheldIntS_l (markT (.sl (.int .i64)) l k).1 (by rw [hlen]; exact h1) l [] k (by simp) hk hB
  simp only [List.length_nil, Int.natCast_zero] at e
  simp -implicitDefEqProofs [wheldIntS_m, e]
theorem weqSrv_ok (c0 : List (T.den TRes)) (c1 : List (T.den TLock)) (c2 : Int) (c3 : Int) (c4 : List (T.den (.int .i64))) (c5 : List (T.den (.int .i64))) (hb : BndT TSrv (c0, (c1, (c2, (c3, (c4, c5)))))) : V weqSrv [.agg [.d (.sl TRes c0), .d (.sl TLock c1), .d (.i .i64 c2), .d (.i .i64 c3), .d (.sl (.int .i64) c4), .d (.sl (.int .i64) c5)], .agg [.d (.sl TRes c0), .d (.sl TLock c1), .d (.i .i64 c2), .d (.i .i64 c3), .d (.sl (.int .i64) c4), .d (.sl (.int .i64) c5)]] [] = some ([], .one (.fz (.b true))) := by
  rw [V_eq (fn := weqSrv_m) (by kernel_rfl)]
  have hb : BndT (.sl TRes) c0 ∧ BndT (.sl TLock) c1 ∧ BndT (.int .i64) c2 ∧ BndT (.int .i64) c3 ∧ BndT (.sl (.int .i64)) c4 ∧ BndT (.sl (.int .i64)) c5 := hb
  have e0 := weqResS_ok c0 hb.1
  have e1 := weqLockS_ok c1 hb.2.1
  have e4 := weqIntS_ok c4 hb.2.2.2.2.1
  have e5 := weqIntS_ok c5 hb.2.2.2.2.2
  simp -implicitDefEqProofs [weqSrv_m, e0, e1, e4, e5]
theorem wmarkSrv_ok (c0 : List (T.den TRes)) (c1 : List (T.den TLock)) (c2 : Int) (c3 : Int) (c4 : List (T.den (.int .i64))) (c5 : List (T.den (.int .i64))) (k : Nat) (h_c0 : c0.length ≤ 140737488355328) (h_c1 : c1.length ≤ 140737488355328) (h_c4 : c4.length ≤ 140737488355328) (h_c5 : c5.length ≤ 140737488355328) (b_c0 : ∀ x ∈ c0, BndM TRes x) (b_c1 : ∀ x ∈ c1, BndM TLock x) (b_c4 : ∀ x ∈ c4, BndM (.int .i64) x) (b_c5 : ∀ x ∈ c5, BndM (.int .i64) x) (hk : (markT (.sl (.int .i64)) c5 ((markT (.sl (.int .i64)) c4 ((markT (.sl TLock) c1 ((markT (.sl TRes) c0 (k)).2)).2)).2)).2 ≤ 4611686018427387904) : V wmarkSrv [.agg [.h 0 0 c0.length, .h 1 0 c1.length, .d (.i .i64 c2), .d (.i .i64 c3), .h 2 0 c4.length, .h 3 0 c5.length], .d (.i .i64 k)] [.ls TRes false c0 0 [], .ls TLock false c1 0 [], .ls (.int .i64) false c4 0 [], .ls (.int .i64) false c5 0 []] = some ([some (.ls TRes false (markT (.sl TRes) c0 (k)).1 0 []), some (.ls TLock false (markT (.sl TLock) c1 ((markT (.sl TRes) c0 (k)).2)).1 0 []), some (.ls (.int .i64) false (markT (.sl (.int .i64)) c4 ((markT (.sl TLock) c1 ((markT (.sl TRes) c0 (k)).2)).2)).1 0 []), some (.ls (.int .i64) false (markT (.sl (.int .i64)) c5 ((markT (.sl (.int .i64)) c4 ((markT (.sl TLock) c1 ((markT (.sl TRes) c0 (k)).2)).2)).2)).1 0 [])], .one (.fz (.i .i64 ((markT (.sl (.int .i64)) c5 ((markT (.sl (.int .i64)) c4 ((markT (.sl TLock) c1 ((markT (.sl TRes) c0 (k)).2)).2)).2)).2 : Nat)))) := by
  rw [V_eq (fn := wmarkSrv_m) (by kernel_rfl)]
  have y_c0 := markT_le (.sl TRes) c0 (k)
  have y_c1 := markT_le (.sl TLock) c1 ((markT (.sl TRes) c0 (k)).2)
  have y_c4 := markT_le (.sl (.int .i64)) c4 ((markT (.sl TLock) c1 ((markT (.sl TRes) c0 (k)).2)).2)
  have y_c5 := markT_le (.sl (.int .i64)) c5 ((markT (.sl (.int .i64)) c4 ((markT (.sl TLock) c1 ((markT (.sl TRes) c0 (k)).2)).2)).2)
  have z_c0 := markL_len TRes c0 (k)
  have z_c1 := markL_len TLock c1 ((markT (.sl TRes) c0 (k)).2)
  have z_c4 := markL_len (.int .i64) c4 ((markT (.sl TLock) c1 ((markT (.sl TRes) c0 (k)).2)).2)
  have z_c5 := markL_len (.int .i64) c5 ((markT (.sl (.int .i64)) c4 ((markT (.sl TLock) c1 ((markT (.sl TRes) c0 (k)).2)).2)).2)
  have e0 := wmarkResS_ok c0 (k) h_c0 (by omega) b_c0
  have e1 := wmarkLockS_ok c1 ((markT (.sl TRes) c0 (k)).2) h_c1 (by omega) b_c1
  have e4 := wmarkIntS_ok c4 ((markT (.sl TLock) c1 ((markT (.sl TRes) c0 (k)).2)).2) h_c4 (by omega) b_c4
  have e5 := wmarkIntS_ok c5 ((markT (.sl (.int .i64)) c4 ((markT (.sl TLock) c1 ((markT (.sl TRes) c0 (k)).2)).2)).2) h_c5 (by omega) b_c5
  simp -implicitDefEqProofs [wmarkSrv_m, e0, e1, e4, e5, z_c0, z_c1, z_c4, z_c5]
theorem wheldSrv_ok (c0 : List (T.den TRes)) (c1 : List (T.den TLock)) (c2 : Int) (c3 : Int) (c4 : List (T.den (.int .i64))) (c5 : List (T.den (.int .i64))) (k : Nat) (h_c0 : c0.length ≤ 140737488355328) (h_c1 : c1.length ≤ 140737488355328) (h_c4 : c4.length ≤ 140737488355328) (h_c5 : c5.length ≤ 140737488355328) (b_c0 : ∀ x ∈ c0, BndM TRes x) (b_c1 : ∀ x ∈ c1, BndM TLock x) (b_c4 : ∀ x ∈ c4, BndM (.int .i64) x) (b_c5 : ∀ x ∈ c5, BndM (.int .i64) x) (hk : (markT (.sl (.int .i64)) c5 ((markT (.sl (.int .i64)) c4 ((markT (.sl TLock) c1 ((markT (.sl TRes) c0 (k)).2)).2)).2)).2 ≤ 4611686018427387904) : V wheldSrv [.agg [.d (.sl TRes (markT (.sl TRes) c0 (k)).1), .d (.sl TLock (markT (.sl TLock) c1 ((markT (.sl TRes) c0 (k)).2)).1), .d (.i .i64 c2), .d (.i .i64 c3), .d (.sl (.int .i64) (markT (.sl (.int .i64)) c4 ((markT (.sl TLock) c1 ((markT (.sl TRes) c0 (k)).2)).2)).1), .d (.sl (.int .i64) (markT (.sl (.int .i64)) c5 ((markT (.sl (.int .i64)) c4 ((markT (.sl TLock) c1 ((markT (.sl TRes) c0 (k)).2)).2)).2)).1)], .d (.i .i64 k)] [] = some ([], .one (.fz (.i .i64 ((markT (.sl (.int .i64)) c5 ((markT (.sl (.int .i64)) c4 ((markT (.sl TLock) c1 ((markT (.sl TRes) c0 (k)).2)).2)).2)).2 : Nat)))) := by
  rw [V_eq (fn := wheldSrv_m) (by kernel_rfl)]
  have y_c0 := markT_le (.sl TRes) c0 (k)
  have y_c1 := markT_le (.sl TLock) c1 ((markT (.sl TRes) c0 (k)).2)
  have y_c4 := markT_le (.sl (.int .i64)) c4 ((markT (.sl TLock) c1 ((markT (.sl TRes) c0 (k)).2)).2)
  have y_c5 := markT_le (.sl (.int .i64)) c5 ((markT (.sl (.int .i64)) c4 ((markT (.sl TLock) c1 ((markT (.sl TRes) c0 (k)).2)).2)).2)
  have e0 := wheldResS_ok c0 (k) h_c0 (by omega) b_c0
  have e1 := wheldLockS_ok c1 ((markT (.sl TRes) c0 (k)).2) h_c1 (by omega) b_c1
  have e4 := wheldIntS_ok c4 ((markT (.sl TLock) c1 ((markT (.sl TRes) c0 (k)).2)).2) h_c4 (by omega) b_c4
  have e5 := wheldIntS_ok c5 ((markT (.sl (.int .i64)) c4 ((markT (.sl TLock) c1 ((markT (.sl TRes) c0 (k)).2)).2)).2) h_c5 (by omega) b_c5
  simp -implicitDefEqProofs [wheldSrv_m, e0, e1, e4, e5]
theorem weqByteS_l (l : List (T.den .u8)) (h1 : l.length ≤ 9223372036854775807) (hb : ∀ x ∈ l, BndT .u8 x) : ∀ post pre : List (T.den .u8), l = pre ++ post →
    DL V (.loop weqByteS_l0) ⟨[(5, .d (.i .i64 pre.length)), (1, .d (.sl .u8 l)), (0, .d (.sl .u8 l))], []⟩ = some (.ex 0, ⟨[], []⟩)
  | [], pre, hl => by
    rw [DL_loop]
    have : l = pre := by simpa using hl
    subst this
    simp -implicitDefEqProofs [weqByteS_l0]
  | c0 :: post, pre, hl => by
    have ih := weqByteS_l l h1 hb post (pre ++ [c0]) (by simp [hl])
    have hg : l[pre.length]? = some c0 := by rw [hl]; exact mid_get _ _ _
    have hlt : pre.length < l.length := by rw [hl]; simp
    have hg2 : l[pre.length] = c0 := (List.getElem?_eq_some_iff.1 hg).2
    have hw := wrap_succ hlt h1
    simp only [List.length_append, List.length_cons, List.length_nil, Int.natCast_add, Int.natCast_one, Nat.zero_add] at ih
    rw [DL_loop]
    generalize DL V (.loop weqByteS_l0) = G at ih ⊢
    simp -implicitDefEqProofs [weqByteS_l0, hg, hg2, hlt, hw]
    exact ih
theorem weqByteS_ok (l : List (T.den .u8)) (hb : BndT (.sl .u8) l) : V weqByteS [.d (.sl .u8 l), .d (.sl .u8 l)] [] = some ([], .one (.fz (.b true))) := by
  rw [V_eq (fn := weqByteS_m) (by kernel_rfl)]
  have e := weqByteS_l l hb.1 hb.2 l [] rfl
  simp only [List.length_nil, Int.natCast_zero] at e
  simp -implicitDefEqProofs [weqByteS_m, e]
theorem wmarkByteS_l (n : Nat) : ∀ (post pre : List (T.den .u8)) (k : Nat), n = pre.length + post.length → n ≤ 140737488355328 → (markT (.sl .u8) post k).2 ≤ 4611686018427387904 → (∀ x ∈ post, BndM .u8 x) →
    DL V (.loop wmarkByteS_l0) ⟨[(5, .d (.i .i64 pre.length)), (1, .d (.i .i64 k)), (0, .h 0 0 n)], [(0, .ls .u8 false (pre ++ post) 0 [])]⟩ = some (.ex 0, ⟨[(1, .d (.i .i64 ((markT (.sl .u8) post k).2 : Nat)))], [(0, .ls .u8 false (pre ++ (markT (.sl .u8) post k).1) 0 [])]⟩)
  | [], pre, k, hn, hn2, hk, hB => by
    rw [DL_loop]
    have : n = pre.length := by simpa using hn
    subst this
    simp -implicitDefEqProofs [wmarkByteS_l0, markT, mkFold]
  | c0 :: post, pre, k, hn, hn2, hk, hB => by
    have hlt : pre.length < n := by rw [hn]; simp
    have hw := wrap_succ hlt (by omega)
    change (markT (.sl .u8) post (markT .u8 c0 k).2).2 ≤ 4611686018427387904 at hk
    change _ = some (Ex.ex 0, (⟨[(1, .d (.i .i64 ((markT (.sl .u8) post (markT .u8 c0 k).2).2 : Nat)))], [(0, .ls .u8 false (pre ++ (markT .u8 c0 k).1 :: (markT (.sl .u8) post (markT .u8 c0 k).2).1) 0 [])]⟩ : St))
    have hB0 := hB c0 (by simp)
    have hB0 : BndM .u8 c0 := hB0
    have hmono := markT_le (.sl .u8) post (markT .u8 c0 k).2
    have hm0 := markT_le .u8 c0 k
    obtain ⟨k0, hk0⟩ : ∃ k0, k + 1 = k0 := ⟨_, rfl⟩
    have hc : (markT .u8 c0 k).2 = k0 := by subst hk0; rfl
    have hd : (markT .u8 c0 k).1 = UInt8.ofNat k := by subst hk0; rfl
    have e0 := u8_mod k
    have w0 : IntKind.i64.wrap (((k : Nat) : Int) + 1) = (k0 : Int) := by rw [← hk0]; exact wrap_id (by omega) (by omega)
    have ih := wmarkByteS_l n post (pre ++ [(markT .u8 c0 k).1]) (markT .u8 c0 k).2 (by simp at hn ⊢; omega) hn2 hk (fun x hx => hB x (by simp [hx]))
    simp only [List.append_assoc, List.cons_append, List.nil_append, List.length_append, List.length_cons, List.length_nil, Int.natCast_add, Int.natCast_one, Nat.zero_add] at ih
    rw [DL_loop]
    rw [hc, hd] at ih ⊢
    generalize DL V (.loop wmarkByteS_l0) = G at ih ⊢
    simp -implicitDefEqProofs [wmarkByteS_l0, hlt, hw, mid_get, mid_set, e0, w0]
    exact ih
theorem wmarkByteS_ok (l : List (T.den .u8)) (k : Nat) (h1 : l.length ≤ 140737488355328) (hk : (markT (.sl .u8) l k).2 ≤ 4611686018427387904) (hB : ∀ x ∈ l, BndM .u8 x) : V wmarkByteS [.h 0 0 l.length, .d (.i .i64 k)] [.ls .u8 false l 0 []] = some ([some (.ls .u8 false (markT (.sl .u8) l k).1 0 [])], .one (.fz (.i .i64 ((markT (.sl .u8) l k).2 : Nat)))) := by
  rw [V_eq (fn := wmarkByteS_m) (by kernel_rfl)]
  have e := wmarkByteS_l l.length l [] k (by simp) h1 hk hB
  simp only [List.length_nil, Int.natCast_zero, List.nil_append] at e
  simp -implicitDefEqProofs [wmarkByteS_m, e]
theorem wheldByteS_l (l : List (T.den .u8)) (h1 : l.length ≤ 140737488355328) : ∀ (post pre : List (T.den .u8)) (k : Nat), l = pre ++ (markT (.sl .u8) post k).1 → (markT (.sl .u8) post k).2 ≤ 4611686018427387904 → (∀ x ∈ post, BndM .u8 x) →
    DL V (.loop wheldByteS_l0) ⟨[(5, .d (.i .i64 pre.length)), (1, .d (.i .i64 k)), (0, .d (.sl .u8 l))], []⟩ = some (.ex 0, ⟨[(1, .d (.i .i64 ((markT (.sl .u8) post k).2 : Nat)))], []⟩)
  | [], pre, k, hl, hk, hB => by
    rw [DL_loop]
    have : l = pre := by simpa [markT, mkFold] using hl
    subst this
    simp -implicitDefEqProofs [wheldByteS_l0, markT, mkFold]
  | c0 :: post, pre, k, hl, hk, hB => by
    change l = pre ++ (markT .u8 c0 k).1 :: (markT (.sl .u8) post (markT .u8 c0 k).2).1 at hl
    change (markT (.sl .u8) post (markT .u8 c0 k).2).2 ≤ 4611686018427387904 at hk
    change _ = some (Ex.ex 0, (⟨[(1, .d (.i .i64 ((markT (.sl .u8) post (markT .u8 c0 k).2).2 : Nat)))], []⟩ : St))
    have hlt : pre.length < l.length := by rw [hl]; simp
    have hw := wrap_succ hlt (by omega)
    have hmono := markT_le (.sl .u8) post (markT .u8 c0 k).2
    have hm0 := markT_le .u8 c0 k
    have hB0 := hB c0 (by simp)
    have hg : l[pre.length]? = some (markT .u8 c0 k).1 := by rw [hl]; exact mid_get _ _ _
    have hg2 : l[pre.length] = (markT .u8 c0 k).1 := (List.getElem?_eq_some_iff.1 hg).2
    have hB0 : BndM .u8 c0 := hB0
    obtain ⟨k0, hk0⟩ : ∃ k0, k + 1 = k0 := ⟨_, rfl⟩
    have hc : (markT .u8 c0 k).2 = k0 := by subst hk0; rfl
    have hd : (markT .u8 c0 k).1 = UInt8.ofNat k := by subst hk0; rfl
    have e0 := u8_mod k
    have w0 : IntKind.i64.wrap (((k : Nat) : Int) + 1) = (k0 : Int) := by rw [← hk0]; exact wrap_id (by omega) (by omega)
    have ih := wheldByteS_l l h1 post (pre ++ [(markT .u8 c0 k).1]) (markT .u8 c0 k).2 (by simp [hl]) hk (fun x hx => hB x (by simp [hx]))
    simp only [List.length_append, List.length_cons, List.length_nil, Int.natCast_add, Int.natCast_one, Nat.zero_add] at ih
    rw [DL_loop]
    rw [hc] at ih ⊢
    rw [hd] at hg hg2
    generalize DL V (.loop wheldByteS_l0) = G at ih ⊢
    simp -implicitDefEqProofs [wheldByteS_l0, hlt, hw, hg, hg2, e0, w0]
    exact ih
theorem wheldByteS_ok (l : List (T.den .u8)) (k : Nat) (h1 : l.length ≤ 140737488355328) (hk : (markT (.sl .u8) l k).2 ≤ 4611686018427387904) (hB : ∀ x ∈ l, BndM .u8 x) : V wheldByteS [.d (.sl .u8 (markT (.sl .u8) l k).1), .d (.i .i64 k)] [] = some ([], .one (.fz (.i .i64 ((markT (.sl .u8) l k).2 : Nat)))) := by
  rw [V_eq (fn := wheldByteS_m) (by kernel_rfl)]
  have hlen := markL_len .u8 l k
  have e := wheldByteS_l (markT (.sl .u8) l k).1 (by rw [hlen]; exact h1) l [] k (by simp) hk hB
  simp only [List.length_nil, Int.natCast_zero] at e
  simp -implicitDefEqProofs [wheldByteS_m, e]
theorem weqWire_ok (c0 : List (T.den .u8)) (c1 : Int) (hb : BndT TWire (c0, c1)) : V weqWire [.agg [.d (.sl .u8 c0), .d (.i .i64 c1)], .agg [.d (.sl .u8 c0), .d (.i .i64 c1)]] [] = some ([], .one (.fz (.b true))) := by
  rw [V_eq (fn := weqWire_m) (by kernel_rfl)]
  have hb : BndT (.sl .u8) c0 ∧ BndT (.int .i64) c1 := hb
  have e0 := weqByteS_ok c0 hb.1
  simp -implicitDefEqProofs [weqWire_m, e0]
theorem weqWireS_l (l : List (T.den TWire)) (h1 : l.length ≤ 9223372036854775807) (hb : ∀ x ∈ l, BndT TWire x) : ∀ post pre : List (T.den TWire), l = pre ++ post →
    DL V (.loop weqWireS_l0) ⟨[(5, .d (.i .i64 pre.length)), (1, .d (.sl TWire l)), (0, .d (.sl TWire l))], []⟩ = some (.ex 0, ⟨[], []⟩)
  | [], pre, hl => by
    rw [DL_loop]
    have : l = pre := by simpa using hl
    subst this
    simp -implicitDefEqProofs [weqWireS_l0]
  | (c0, c1) :: post, pre, hl => by
    have ih := weqWireS_l l h1 hb post (pre ++ [(c0, c1)]) (by simp [hl])
    have hg : l[pre.length]? = some (c0, c1) := by rw [hl]; exact mid_get _ _ _
    have hlt : pre.length < l.length := by rw [hl]; simp
    have hg2 : l[pre.length] = (c0, c1) := (List.getElem?_eq_some_iff.1 hg).2
    have hw := wrap_succ hlt h1
    have e1 := weqWire_ok c0 c1 (hb (c0, c1) (by rw [hl]; simp))
    simp only [List.length_append, List.length_cons, List.length_nil, Int.natCast_add, Int.natCast_one, Nat.zero_add] at ih
    rw [DL_loop]
    generalize DL V (.loop weqWireS_l0) = G at ih ⊢
    simp -implicitDefEqProofs [weqWireS_l0, hg, hg2, hlt, hw, e1]
    exact ih
theorem weqWireS_ok (l : List (T.den TWire)) (hb : BndT (.sl TWire) l) : V weqWireS [.d (.sl TWire l), .d (.sl TWire l)] [] = some ([], .one (.fz (.b true))) := by
  rw [V_eq (fn := weqWireS_m) (by kernel_rfl)]
  have e := weqWireS_l l hb.1 hb.2 l [] rfl
  simp only [List.length_nil, Int.natCast_zero] at e
  simp -implicitDefEqProofs [weqWireS_m, e]
theorem wmarkWireS_l (n : Nat) : ∀ (post pre : List (T.den TWire)) (k : Nat), n = pre.length + post.length → n ≤ 140737488355328 → (markT (.sl TWire) post k).2 ≤ 4611686018427387904 → (∀ x ∈ post, BndM TWire x) →
    DL V (.loop wmarkWireS_l0) ⟨[(5, .d (.i .i64 pre.length)), (1, .d (.i .i64 k)), (0, .h 0 0 n)], [(0, .ls TWire false (pre ++ post) 0 [])]⟩ = some (.ex 0, ⟨[(1, .d (.i .i64 ((markT (.sl TWire) post k).2 : Nat)))], [(0, .ls TWire false (pre ++ (markT (.sl TWire) post k).1) 0 [])]⟩)
  | [], pre, k, hn, hn2, hk, hB => by
    rw [DL_loop]
    have : n = pre.length := by simpa using hn
    subst this
    simp -implicitDefEqProofs [wmarkWireS_l0, markT, mkFold]
  | (c0, c1) :: post, pre, k, hn, hn2, hk, hB => by
    have hlt : pre.length < n := by rw [hn]; simp
    have hw := wrap_succ hlt (by omega)
    change (markT (.sl TWire) post (markT TWire (c0, c1) k).2).2 ≤ 4611686018427387904 at hk
    change _ = some (Ex.ex 0, (⟨[(1, .d (.i .i64 ((markT (.sl TWire) post (markT TWire (c0, c1) k).2).2 : Nat)))], [(0, .ls TWire false (pre ++ (markT TWire (c0, c1) k).1 :: (markT (.sl TWire) post (markT TWire (c0, c1) k).2).1) 0 [])]⟩ : St))
    have hB0 := hB (c0, c1) (by simp)
    have hB0 : BndM (.sl .u8) c0 ∧ BndM (.int .i64) c1 := hB0
    have hmono := markT_le (.sl TWire) post (markT TWire (c0, c1) k).2
    have hm0 := markT_le TWire (c0, c1) k
    obtain ⟨k0, hk0⟩ : ∃ k0, (markT (.sl .u8) c0 k).2 = k0 := ⟨_, rfl⟩
    obtain ⟨k1, hk1⟩ : ∃ k1, k0 + 1 = k1 := ⟨_, rfl⟩
    have hc : (markT TWire (c0, c1) k).2 = k1 := by subst hk0 hk1; rfl
    have hd : (markT TWire (c0, c1) k).1 = ((markT (.sl .u8) c0 k).1, ((k0 : Nat) : Int)) := by subst hk0 hk1; rfl
    have y0 := markT_le (.sl .u8) c0 k
    have e0 := wmarkByteS_ok c0 k hB0.1.1 (by omega) hB0.1.2
    rw [hk0] at e0
    have z0 := markL_len .u8 c0 k
    have e1 : IntKind.i64.wrap ((k0 : Nat) : Int) = ((k0 : Nat) : Int) := wrap_id (by omega) (by omega)
    have w1 : IntKind.i64.wrap (((k0 : Nat) : Int) + 1) = (k1 : Int) := by rw [← hk1]; exact wrap_id (by omega) (by omega)
    have ih := wmarkWireS_l n post (pre ++ [(markT TWire (c0, c1) k).1]) (markT TWire (c0, c1) k).2 (by simp at hn ⊢; omega) hn2 hk (fun x hx => hB x (by simp [hx]))
    simp only [List.append_assoc, List.cons_append, List.nil_append, List.length_append, List.length_cons, List.length_nil, Int.natCast_add, Int.natCast_one, Nat.zero_add] at ih
    rw [DL_loop]
    rw [hc, hd] at ih ⊢
    generalize DL V (.loop wmarkWireS_l0) = G at ih ⊢
    simp -implicitDefEqProofs [wmarkWireS_l0, hlt, hw, mid_get, mid_set, e0, z0, e1, w1]
    exact ih
theorem wmarkWireS_ok (l : List (T.den TWire)) (k : Nat) (h1 : l.length ≤ 140737488355328) (hk : (markT (.sl TWire) l k).2 ≤ 4611686018427387904) (hB : ∀ x ∈ l, BndM TWire x) : V wmarkWireS [.h 0 0 l.length, .d (.i .i64 k)] [.ls TWire false l 0 []] = some ([some (.ls TWire false (markT (.sl TWire) l k).1 0 [])], .one (.fz (.i .i64 ((markT (.sl TWire) l k).2 : Nat)))) := by
  rw [V_eq (fn := wmarkWireS_m) (by kernel_rfl)]
  have e := wmarkWireS_l l.length l [] k (by simp) h1 hk hB
  simp only [List.length_nil, Int.natCast_zero, List.nil_append] at e
  simp -implicitDefEqProofs [wmarkWireS_m, e]
theorem wheldWireS_l (l : List (T.den TWire)) (h1 : l.length ≤ 140737488355328) : ∀ (post pre : List (T.den TWire)) (k : Nat), l = pre ++ (markT (.sl TWire) post k).1 → (markT (.sl TWire) post k).2 ≤ 4611686018427387904 → (∀ x ∈ post, BndM TWire x) →
    DL V (.loop wheldWireS_l0) ⟨[(5, .d (.i .i64 pre.length)), (1, .d (.i .i64 k)), (0, .d (.sl TWire l))], []⟩ = some (.ex 0, ⟨[(1, .d (.i .i64 ((markT (.sl TWire) post k).2 : Nat)))], []⟩)
  | [], pre, k, hl, hk, hB => by
    rw [DL_loop]
    have : l = pre := by simpa [markT, mkFold] using hl
    subst this
    simp -implicitDefEqProofs [wheldWireS_l0, markT, mkFold]
  | (c0, c1) :: post, pre, k, hl, hk, hB => by
    change l = pre ++ (markT TWire (c0, c1) k).1 :: (markT (.sl TWire) post (markT TWire (c0, c1) k).2).1 at hl
    change (markT (.sl TWire) post (markT TWire (c0, c1) k).2).2 ≤ 4611686018427387904 at hk
    change _ = some (Ex.ex 0, (⟨[(1, .d (.i .i64 ((markT (.sl TWire) post (markT TWire (c0, c1) k).2).2 : Nat)))], []⟩ : St))
    have hlt : pre.length < l.length := by rw [hl]; simp
    have hw := wrap_succ hlt (by omega)
    have hmono := markT_le (.sl TWire) post (markT TWire (c0, c1) k).2
    have hm0 := markT_le TWire (c0, c1) k
    have hB0 := hB (c0, c1) (by simp)
    have hg : l[pre.length]? = some (markT TWire (c0, c1) k).1 := by rw [hl]; exact mid_get _ _ _
    have hg2 : l[pre.length] = (markT TWire (c0, c1) k).1 := (List.getElem?_eq_some_iff.1 hg).2
    have hB0 : BndM (.sl .u8) c0 ∧ BndM (.int .i64) c1 := hB0
    obtain ⟨k0, hk0⟩ : ∃ k0, (markT (.sl .u8) c0 k).2 = k0 := ⟨_, rfl⟩
    obtain ⟨k1, hk1⟩ : ∃ k1, k0 + 1 = k1 := ⟨_, rfl⟩
    have hc : (markT TWire (c0, c1) k).2 = k1 := by subst hk0 hk1; rfl
    have hd : (markT TWire (c0, c1) k).1 = ((markT (.sl .u8) c0 k).1, ((k0 : Nat) : Int)) := by subst hk0 hk1; rfl
    have y0 := markT_le (.sl .u8) c0 k
    have e0 := wheldByteS_ok c0 k hB0.1.1 (by omega) hB0.1.2
    rw [hk0] at e0
    have e1 : IntKind.i64.wrap ((k0 : Nat) : Int) = ((k0 : Nat) : Int) := wrap_id (by omega) (by omega)
    have w1 : IntKind.i64.wrap (((k0 : Nat) : Int) + 1) = (k1 : Int) := by rw [← hk1]; exact wrap_id (by omega) (by omega)
    have ih := wheldWireS_l l h1 post (pre ++ [(markT TWire (c0, c1) k).1]) (markT TWire (c0, c1) k).2 (by simp [hl]) hk (fun x hx => hB x (by simp [hx]))
    simp only [List.length_append, List.length_cons, List.length_nil, Int.natCast_add, Int.natCast_one, Nat.zero_add] at ih
    rw [DL_loop]
    rw [hc] at ih ⊢
    rw [hd] at hg hg2
    generalize DL V (.loop wheldWireS_l0) = G at ih ⊢
    simp -implicitDefEqProofs [wheldWireS_l0, hlt, hw, hg, hg2, e0, e1, w1]
    exact ih
theorem wheldWireS_ok (l : List (T.den TWire)) (k : Nat) (h1 : l.length ≤ 140737488355328) (hk : (markT (.sl TWire) l k).2 ≤ 4611686018427387904) (hB : ∀ x ∈ l, BndM TWire x) : V wheldWireS [.d (.sl TWire (markT (.sl TWire) l k).1), .d (.i .i64 k)] [] = some ([], .one (.fz (.i .i64 ((markT (.sl TWire) l k).2 : Nat)))) := by
  rw [V_eq (fn := wheldWireS_m) (by kernel_rfl)]
  have hlen := markL_len TWire l k
  have e := wheldWireS_l (markT (.sl TWire) l k).1 (by rw [hlen]; exact h1) l [] k (by simp) hk hB
  simp only [List.length_nil, Int.natCast_zero] at e
  simp -implicitDefEqProofs [wheldWireS_m, e]
theorem weqByteSS_l (l : List (T.den (.sl .u8))) (h1 : l.length ≤ 9223372036854775807) (hb : ∀ x ∈ l, BndT (.sl .u8) x) : ∀ post pre : List (T.den (.sl .u8)), l = pre ++ post →
    DL V (.loop weqByteSS_l0) ⟨[(5, .d (.i .i64 pre.length)), (1, .d (.sl (.sl .u8) l)), (0, .d (.sl (.sl .u8) l))], []⟩ = some (.ex 0, ⟨[], []⟩)
  | [], pre, hl => by
    rw [DL_loop]
    have : l = pre := by simpa using hl
    subst this
    simp -implicitDefEqProofs [weqByteSS_l0]
  | c0 :: post, pre, hl => by
    have ih := weqByteSS_l l h1 hb post (pre ++ [c0]) (by simp [hl])
    have hg : l[pre.length]? = some c0 := by rw [hl]; exact mid_get _ _ _
    have hlt : pre.length < l.length := by rw [hl]; simp
    have hg2 : l[pre.length] = c0 := (List.getElem?_eq_some_iff.1 hg).2
    have hw := wrap_succ hlt h1
    have e1 := weqByteS_ok c0 (hb c0 (by rw [hl]; simp))
    simp only [List.length_append, List.length_cons, List.length_nil, Int.natCast_add, Int.natCast_one, Nat.zero_add] at ih
    rw [DL_loop]
    generalize DL V (.loop weqByteSS_l0) = G at ih ⊢
    simp -implicitDefEqProofs [weqByteSS_l0, hg, hg2, hlt, hw, e1]
    exact ih
theorem weqByteSS_ok (l : List (T.den (.sl .u8))) (hb : BndT (.sl (.sl .u8)) l) : V weqByteSS [.d (.sl (.sl .u8) l), .d (.sl (.sl .u8) l)] [] = some ([], .one (.fz (.b true))) := by
  rw [V_eq (fn := weqByteSS_m) (by kernel_rfl)]
  have e := weqByteSS_l l hb.1 hb.2 l [] rfl
  simp only [List.length_nil, Int.natCast_zero] at e
  simp -implicitDefEqProofs [weqByteSS_m, e]
theorem wmarkByteSS_l (n : Nat) : ∀ (post pre : List (T.den (.sl .u8))) (k : Nat), n = pre.length + post.length → n ≤ 140737488355328 → (markT (.sl (.sl .u8)) post k).2 ≤ 4611686018427387904 → (∀ x ∈ post, BndM (.sl .u8) x) →
    DL V (.loop wmarkByteSS_l0) ⟨[(5, .d (.i .i64 pre.length)), (1, .d (.i .i64 k)), (0, .h 0 0 n)], [(0, .ls (.sl .u8) false (pre ++ post) 0 [])]⟩ = some (.ex 0, ⟨[(1, .d (.i .i64 ((markT (.sl (.sl .u8)) post k).2 : Nat)))], [(0, .ls (.sl .u8) false (pre ++ (markT (.sl (.sl .u8)) post k).1) 0 [])]⟩)
  | [], pre, k, hn, hn2, hk, hB => by
    rw [DL_loop]
    have : n = pre.length := by simpa using hn
    subst this
    simp -implicitDefEqProofs [wmarkByteSS_l0, markT, mkFold]
  | c0 :: post, pre, k, hn, hn2, hk, hB => by
    have hlt : pre.length < n := by rw [hn]; simp
    have hw := wrap_succ hlt (by omega)
    change (markT (.sl (.sl .u8)) post (markT (.sl .u8) c0 k).2).2 ≤ 4611686018427387904 at hk
    change _ = some (Ex.ex 0, (⟨[(1, .d (.i .i64 ((markT (.sl (.sl .u8)) post (markT (.sl .u8) c0 k).2).2 : Nat)))], [(0, .ls (.sl .u8) false (pre ++ (markT (.sl .u8) c0 k).1 :: (markT (.sl (.sl .u8)) post (markT (.sl .u8) c0 k).2).1) 0 [])]⟩ : St))
    have hB0 := hB c0 (by simp)
    have hB0 : BndM (.sl .u8) c0 := hB0
    have hmono := markT_le (.sl (.sl .u8)) post (markT (.sl .u8) c0 k).2
    have hm0 := markT_le (.sl .u8) c0 k
    obtain ⟨k0, hk0⟩ : ∃ k0, (markT (.sl .u8) c0 k).2 = k0 := ⟨_, rfl⟩
    have hc : (markT (.sl .u8) c0 k).2 = k0 := by subst hk0; rfl
    have hd : (markT (.sl .u8) c0 k).1 = (markT (.sl .u8) c0 k).1 := by subst hk0; rfl
    have y0 := markT_le (.sl .u8) c0 k
    have e0 := wmarkByteS_ok c0 k hB0.1 (by omega) hB0.2
    rw [hk0] at e0
    have z0 := markL_len .u8 c0 k
    have ih := wmarkByteSS_l n post (pre ++ [(markT (.sl .u8) c0 k).1]) (markT (.sl .u8) c0 k).2 (by simp at hn ⊢; omega) hn2 hk (fun x hx => hB x (by simp [hx]))
    simp only [List.append_assoc, List.cons_append, List.nil_append, List.length_append, List.length_cons, List.length_nil, Int.natCast_add, Int.natCast_one, Nat.zero_add] at ih
    rw [DL_loop]
    rw [hc, hd] at ih ⊢
    generalize DL V (.loop wmarkByteSS_l0) = G at ih ⊢
    simp -implicitDefEqProofs [wmarkByteSS_l0, hlt, hw, mid_get, mid_set, e0, z0]
    exact ih
theorem wmarkByteSS_ok (l : List (T.den (.sl .u8))) (k : Nat) (h1 : l.length ≤ 140737488355328) (hk : (markT (.sl (.sl .u8)) l k).2 ≤ 4611686018427387904) (hB : ∀ x ∈ l, BndM (.sl .u8) x) : V wmarkByteSS [.h 0 0 l.length, .d (.i .i64 k)] [.ls (.sl .u8) false l 0 []] = some ([some (.ls (.sl .u8) false (markT (.sl (.sl .u8)) l k).1 0 [])], .one (.fz (.i .i64 ((markT (.sl (.sl .u8)) l k).2 : Nat)))) := by
  rw [V_eq (fn := wmarkByteSS_m) (by kernel_rfl)]
  have e := wmarkByteSS_l l.length l [] k (by simp) h1 hk hB
  simp only [List.length_nil, Int.natCast_zero, List.nil_append] at e
  simp -implicitDefEqProofs [wmarkByteSS_m, e]
theorem wheldByteSS_l (l : List (T.den (.sl .u8))) (h1 : l.length ≤ 140737488355328) : ∀ (post pre : List (T.den (.sl .u8))) (k : Nat), l = pre ++ (markT (.sl (.sl .u8)) post k).1 → (markT (.sl (.sl .u8)) post k).2 ≤ 4611686018427387904 → (∀ x ∈ post, BndM (.sl .u8) x) →
    DL V (.loop wheldByteSS_l0) ⟨[(5, .d (.i .i64 pre.length)), (1, .d (.i .i64 k)), (0, .d (.sl (.sl .u8) l))], []⟩ = some (.ex 0, ⟨[(1, .d (.i .i64 ((markT (.sl (.sl .u8)) post k).2 : Nat)))], []⟩)
  | [], pre, k, hl, hk, hB => by
    rw [DL_loop]
    have : l = pre := by simpa [markT, mkFold] using hl
    subst this
    simp -implicitDefEqProofs [wheldByteSS_l0, markT, mkFold]
  | c0 :: post, pre, k, hl, hk, hB => by
    change l = pre ++ (markT (.sl .u8) c0 k).1 :: (markT (.sl (.sl .u8)) post (markT (.sl .u8) c0 k).2).1 at hl
    change (markT (.sl (.sl .u8)) post (markT (.sl .u8) c0 k).2).2 ≤ 4611686018427387904 at hk
    change _ = some (Ex.ex 0, (⟨[(1, .d (.i .i64 ((markT (.sl (.sl .u8)) post (markT (.sl .u8) c0 k).2).2 : Nat)))], []⟩ : St))
    have hlt : pre.length < l.length := by rw [hl]; simp
    have hw := wrap_succ hlt (by omega)
    have hmono := markT_le (.sl (.sl .u8)) post (markT (.sl .u8) c0 k).2
    have hm0 := markT_le (.sl .u8) c0 k
    have hB0 := hB c0 (by simp)
    have hg : l[pre.length]? = some (markT (.sl .u8) c0 k).1 := by rw [hl]; exact mid_get _ _ _
    have hg2 : l[pre.length] = (markT (.sl .u8) c0 k).1 := (List.getElem?_eq_some_iff.1 hg).2
    have hB0 : BndM (.sl .u8) c0 := hB0
    obtain ⟨k0, hk0⟩ : ∃ k0, (markT (.sl .u8) c0 k).2 = k0 := ⟨_, rfl⟩
    have hc : (markT (.sl .u8) c0 k).2 = k0 := by subst hk0; rfl
    have hd : (markT (.sl .u8) c0 k).1 = (markT (.sl .u8) c0 k).1 := by subst hk0; rfl
    have y0 := markT_le (.sl .u8) c0 k
    have e0 := wheldByteS_ok c0 k hB0.1 (by omega) hB0.2
    rw [hk0] at e0
    have ih := wheldByteSS_l l h1 post (pre ++ [(markT (.sl .u8) c0 k).1]) (markT (.sl .u8) c0 k).2 (by simp [hl]) hk (fun x hx => hB x (by simp [hx]))
    simp only [List.length_append, List.length_cons, List.length_nil, Int.natCast_add, Int.natCast_one, Nat.zero_add] at ih
    rw [DL_loop]
    rw [hc] at ih ⊢
    rw [hd] at hg hg2
    generalize DL V (.loop wheldByteSS_l0) = G at ih ⊢
    simp -implicitDefEqProofs [wheldByteSS_l0, hlt, hw, hg, hg2, e0]
    exact ih
theorem wheldByteSS_ok (l : List (T.den (.sl .u8))) (k : Nat) (h1 : l.length ≤ 140737488355328) (hk : (markT (.sl (.sl .u8)) l k).2 ≤ 4611686018427387904) (hB : ∀ x ∈ l, BndM (.sl .u8) x) : V wheldByteSS [.d (.sl (.sl .u8) (markT (.sl (.sl .u8)) l k).1), .d (.i .i64 k)] [] = some ([], .one (.fz (.i .i64 ((markT (.sl (.sl .u8)) l k).2 : Nat)))) := by
  rw [V_eq (fn := wheldByteSS_m) (by kernel_rfl)]
  have hlen := markL_len (.sl .u8) l k
  have e := wheldByteSS_l (markT (.sl (.sl .u8)) l k).1 (by rw [hlen]; exact h1) l [] k (by simp) hk hB
  simp only [List.length_nil, Int.natCast_zero] at e
  simp -implicitDefEqProofs [wheldByteSS_m, e]
theorem weqWorld_ok (c0 : List (T.den TRes)) (c1 : List (T.den TLock)) (c2 : Int) (c3 : Int) (c4 : List (T.den (.int .i64))) (c5 : List (T.den (.int .i64))) (c6 : List (T.den TWire)) (c7 : List (T.den (.sl .u8))) (c8 : List (T.den (.sl .u8))) (c9 : List (T.den .u8)) (c10 : Int) (hb : BndT TWorld ((c0, (c1, (c2, (c3, (c4, c5))))), (c6, (c7, (c8, (c9, c10)))))) : V weqWorld [.agg [.d (.sl TRes c0), .d (.sl TLock c1), .d (.i .i64 c2), .d (.i .i64 c3), .d (.sl (.int .i64) c4), .d (.sl (.int .i64) c5), .d (.sl TWire c6), .d (.sl (.sl .u8) c7), .d (.sl (.sl .u8) c8), .d (.sl .u8 c9), .d (.i .i64 c10)], .agg [.d (.sl TRes c0), .d (.sl TLock c1), .d (.i .i64 c2), .d (.i .i64 c3), .d (.sl (.int .i64) c4), .d (.sl (.int .i64) c5), .d (.sl TWire c6), .d (.sl (.sl .u8) c7), .d (.sl (.sl .u8) c8), .d (.sl .u8 c9), .d (.i .i64 c10)]] [] = some ([], .one (.fz (.b true))) := by
  rw [V_eq (fn := weqWorld_m) (by kernel_rfl)]
  have hb : BndT TSrv (c0, (c1, (c2, (c3, (c4, c5))))) ∧ BndT (.sl TWire) c6 ∧ BndT (.sl (.sl .u8)) c7 ∧ BndT (.sl (.sl .u8)) c8 ∧ BndT (.sl .u8) c9 ∧ BndT (.int .i64) c10 := hb
  have e0 := weqSrv_ok c0 c1 c2 c3 c4 c5 hb.1
  have e1 := weqWireS_ok c6 hb.2.1
  have e2 := weqByteSS_ok c7 hb.2.2.1
  have e3 := weqByteSS_ok c8 hb.2.2.2.1
  have e4 := weqByteS_ok c9 hb.2.2.2.2.1
  simp -implicitDefEqProofs [weqWorld_m, e0, e1, e2, e3, e4]
theorem wmarkWorld_ok (c0 : List (T.den TRes)) (c1 : List (T.den TLock)) (c2 : Int) (c3 : Int) (c4 : List (T.den (.int .i64))) (c5 : List (T.den (.int .i64))) (c6 : List (T.den TWire)) (c7 : List (T.den (.sl .u8))) (c8 : List (T.den (.sl .u8))) (c9 : List (T.den .u8)) (c10 : Int) (k : Nat) (h_c0 : c0.length ≤ 140737488355328) (h_c1 : c1.length ≤ 140737488355328) (h_c4 : c4.length ≤ 140737488355328) (h_c5 : c5.length ≤ 140737488355328) (h_c6 : c6.length ≤ 140737488355328) (h_c7 : c7.length ≤ 140737488355328) (h_c8 : c8.length ≤ 140737488355328) (h_c9 : c9.length ≤ 140737488355328) (b_c0 : ∀ x ∈ c0, BndM TRes x) (b_c1 : ∀ x ∈ c1, BndM TLock x) (b_c4 : ∀ x ∈ c4, BndM (.int .i64) x) (b_c5 : ∀ x ∈ c5, BndM (.int .i64) x) (b_c6 : ∀ x ∈ c6, BndM TWire x) (b_c7 : ∀ x ∈ c7, BndM (.sl .u8) x) (b_c8 : ∀ x ∈ c8, BndM (.sl .u8) x) (b_c9 : ∀ x ∈ c9, BndM .u8 x) (hk : (markT (.sl .u8) c9 ((markT (.sl (.sl .u8)) c8 ((markT (.sl (.sl .u8)) c7 ((markT (.sl TWire) c6 ((markT (.sl (.int .i64)) c5 ((markT (.sl (.int .i64)) c4 ((markT (.sl TLock) c1 ((markT (.sl TRes) c0 (k)).2)).2)).2)).2)).2)).2)).2)).2 ≤ 4611686018427387904) : V wmarkWorld [.agg [.h 0 0 c0.length, .h 1 0 c1.length, .d (.i .i64 c2), .d (.i .i64 c3), .h 2 0 c4.length, .h 3 0 c5.length, .h 4 0 c6.length, .h 5 0 c7.length, .h 6 0 c8.length, .h 7 0 c9.length, .d (.i .i64 c10)], .d (.i .i64 k)] [.ls TRes false c0 0 [], .ls TLock false c1 0 [], .ls (.int .i64) false c4 0 [], .ls (.int .i64) false c5 0 [], .ls TWire false c6 0 [], .ls (.sl .u8) false c7 0 [], .ls (.sl .u8) false c8 0 [], .ls .u8 false c9 0 []] = some ([some (.ls TRes false (markT (.sl TRes) c0 (k)).1 0 []), some (.ls TLock false (markT (.sl TLock) c1 ((markT (.sl TRes) c0 (k)).2)).1 0 []), some (.ls (.int .i64) false (markT (.sl (.int .i64)) c4 ((markT (.sl TLock) c1 ((markT (.sl TRes) c0 (k)).2)).2)).1 0 []), some (.ls (.int .i64) false (markT (.sl (.int .i64)) c5 ((markT (.sl (.int .i64)) c4 ((markT (.sl TLock) c1 ((markT (.sl TRes) c0 (k)).2)).2)).2)).1 0 []), some (.ls TWire false (markT (.sl TWire) c6 ((markT (.sl (.int .i64)) c5 ((markT (.sl (.int .i64)) c4 ((markT (.sl TLock) c1 ((markT (.sl TRes) c0 (k)).2)).2)).2)).2)).1 0 []), some (.ls (.sl .u8) false (markT (.sl (.sl .u8)) c7 ((markT (.sl TWire) c6 ((markT (.sl (.int .i64)) c5 ((markT (.sl (.int .i64)) c4 ((markT (.sl TLock) c1 ((markT (.sl TRes) c0 (k)).2)).2)).2)).2)).2)).1 0 []), some (.ls (.sl .u8) false (markT (.sl (.sl .u8)) c8 ((markT (.sl (.sl .u8)) c7 ((markT (.sl TWire) c6 ((markT (.sl (.int .i64)) c5 ((markT (.sl (.int .i64)) c4 ((markT (.sl TLock) c1 ((markT (.sl TRes) c0 (k)).2)).2)).2)).2)).2)).2)).1 0 []), some (.ls .u8 false (markT (.sl .u8) c9 ((markT (.sl (.sl .u8)) c8 ((markT (.sl (.sl .u8)) c7 ((markT (.sl TWire) c6 ((markT (.sl (.int .i64)) c5 ((markT (.sl (.int .i64)) c4 ((markT (.sl TLock) c1 ((markT (.sl TRes) c0 (k)).2)).2)).2)).2)).2)).2)).2)).1 0 [])], .one (.fz (.i .i64 ((markT (.sl .u8) c9 ((markT (.sl (.sl .u8)) c8 ((markT (.sl (.sl .u8)) c7 ((markT (.sl TWire) c6 ((markT (.sl (.int .i64)) c5 ((markT (.sl (.int .i64)) c4 ((markT (.sl TLock) c1 ((markT (.sl TRes) c0 (k)).2)).2)).2)).2)).2)).2)).2)).2 : Nat)))) := by
  rw [V_eq (fn := wmarkWorld_m) (by kernel_rfl)]
  have y_c0 := markT_le (.sl TRes) c0 (k)
  have y_c1 := markT_le (.sl TLock) c1 ((markT (.sl TRes) c0 (k)).2)
  have y_c4 := markT_le (.sl (.int .i64)) c4 ((markT (.sl TLock) c1 ((markT (.sl TRes) c0 (k)).2)).2)
  have y_c5 := markT_le (.sl (.int .i64)) c5 ((markT (.sl (.int .i64)) c4 ((markT (.sl TLock) c1 ((markT (.sl TRes) c0 (k)).2)).2)).2)
  have y_c6 := markT_le (.sl TWire) c6 ((markT (.sl (.int .i64)) c5 ((markT (.sl (.int .i64)) c4 ((markT (.sl TLock) c1 ((markT (.sl TRes) c0 (k)).2)).2)).2)).2)
  have y_c7 := markT_le (.sl (.sl .u8)) c7 ((markT (.sl TWire) c6 ((markT (.sl (.int .i64)) c5 ((markT (.sl (.int .i64)) c4 ((markT (.sl TLock) c1 ((markT (.sl TRes) c0 (k)).2)).2)).2)).2)).2)
  have y_c8 := markT_le (.sl (.sl .u8)) c8 ((markT (.sl (.sl .u8)) c7 ((markT (.sl TWire) c6 ((markT (.sl (.int .i64)) c5 ((markT (.sl (.int .i64)) c4 ((markT (.sl TLock) c1 ((markT (.sl TRes) c0 (k)).2)).2)).2)).2)).2)).2)
  have y_c9 := markT_le (.sl .u8) c9 ((markT (.sl (.sl .u8)) c8 ((markT (.sl (.sl .u8)) c7 ((markT (.sl TWire) c6 ((markT (.sl (.int .i64)) c5 ((markT (.sl (.int .i64)) c4 ((markT (.sl TLock) c1 ((markT (.sl TRes) c0 (k)).2)).2)).2)).2)).2)).2)).2)
  have z_c0 := markL_len TRes c0 (k)
  have z_c1 := markL_len TLock c1 ((markT (.sl TRes) c0 (k)).2)
  have z_c4 := markL_len (.int .i64) c4 ((markT (.sl TLock) c1 ((markT (.sl TRes) c0 (k)).2)).2)
  have z_c5 := markL_len (.int .i64) c5 ((markT (.sl (.int .i64)) c4 ((markT (.sl TLock) c1 ((markT (.sl TRes) c0 (k)).2)).2)).2)
  have z_c6 := markL_len TWire c6 ((markT (.sl (.int .i64)) c5 ((markT (.sl (.int .i64)) c4 ((markT (.sl TLock) c1 ((markT (.sl TRes) c0 (k)).2)).2)).2)).2)
  have z_c7 := markL_len (.sl .u8) c7 ((markT (.sl TWire) c6 ((markT (.sl (.int .i64)) c5 ((markT (.sl (.int .i64)) c4 ((markT (.sl TLock) c1 ((markT (.sl TRes) c0 (k)).2)).2)).2)).2)).2)
  have z_c8 := markL_len (.sl .u8) c8 ((markT (.sl (.sl .u8)) c7 ((markT (.sl TWire) c6 ((markT (.sl (.int .i64)) c5 ((markT (.sl (.int .i64)) c4 ((markT (.sl TLock) c1 ((markT (.sl TRes) c0 (k)).2)).2)).2)).2)).2)).2)
  have z_c9 := markL_len .u8 c9 ((markT (.sl (.sl .u8)) c8 ((markT (.sl (.sl .u8)) c7 ((markT (.sl TWire) c6 ((markT (.sl (.int .i64)) c5 ((markT (.sl (.int .i64)) c4 ((markT (.sl TLock) c1 ((markT (.sl TRes) c0 (k)).2)).2)).2)).2)).2)).2)).2)
  have e0 := wmarkSrv_ok c0 c1 c2 c3 c4 c5 (k) h_c0 h_c1 h_c4 h_c5 b_c0 b_c1 b_c4 b_c5 (by omega)
  have e1 := wmarkWireS_ok c6 ((markT (.sl (.int .i64)) c5 ((markT (.sl (.int .i64)) c4 ((markT (.sl TLock) c1 ((markT (.sl TRes) c0 (k)).2)).2)).2)).2) h_c6 (by omega) b_c6
  have e2 := wmarkByteSS_ok c7 ((markT (.sl TWire) c6 ((markT (.sl (.int .i64)) c5 ((markT (.sl (.int .i64)) c4 ((markT (.sl TLock) c1 ((markT (.sl TRes) c0 (k)).2)).2)).2)).2)).2) h_c7 (by omega) b_c7
  have e3 := wmarkByteSS_ok c8 ((markT (.sl (.sl .u8)) c7 ((markT (.sl TWire) c6 ((markT (.sl (.int .i64)) c5 ((markT (.sl (.int .i64)) c4 ((markT (.sl TLock) c1 ((markT (.sl TRes) c0 (k)).2)).2)).2)).2)).2)).2) h_c8 (by omega) b_c8
  have e4 := wmarkByteS_ok c9 ((markT (.sl (.sl .u8)) c8 ((markT (.sl (.sl .u8)) c7 ((markT (.sl TWire) c6 ((markT (.sl (.int .i64)) c5 ((markT (.sl (.int .i64)) c4 ((markT (.sl TLock) c1 ((markT (.sl TRes) c0 (k)).2)).2)).2)).2)).2)).2)).2) h_c9 (by omega) b_c9
  simp -implicitDefEqProofs [wmarkWorld_m, e0, e1, e2, e3, e4, z_c0, z_c1, z_c4, z_c5, z_c6, z_c7, z_c8, z_c9]
theorem wheldWorld_ok (c0 : List (T.den TRes)) (c1 : List (T.den TLock)) (c2 : Int) (c3 : Int) (c4 : List (T.den (.int .i64))) (c5 : List (T.den (.int .i64))) (c6 : List (T.den TWire)) (c7 : List (T.den (.sl .u8))) (c8 : List (T.den (.sl .u8))) (c9 : List (T.den .u8)) (c10 : Int) (k : Nat) (h_c0 : c0.length ≤ 140737488355328) (h_c1 : c1.length ≤ 140737488355328) (h_c4 : c4.length ≤ 140737488355328) (h_c5 : c5.length ≤ 140737488355328) (h_c6 : c6.length ≤ 140737488355328) (h_c7 : c7.length ≤ 140737488355328) (h_c8 : c8.length ≤ 140737488355328) (h_c9 : c9.length ≤ 140737488355328) (b_c0 : ∀ x ∈ c0, BndM TRes x) (b_c1 : ∀ x ∈ c1, BndM TLock x) (b_c4 : ∀ x ∈ c4, BndM (.int .i64) x) (b_c5 : ∀ x ∈ c5, BndM (.int .i64) x) (b_c6 : ∀ x ∈ c6, BndM TWire x) (b_c7 : ∀ x ∈ c7, BndM (.sl .u8) x) (b_c8 : ∀ x ∈ c8, BndM (.sl .u8) x) (b_c9 : ∀ x ∈ c9, BndM .u8 x) (hk : (markT (.sl .u8) c9 ((markT (.sl (.sl .u8)) c8 ((markT (.sl (.sl .u8)) c7 ((markT (.sl TWire) c6 ((markT (.sl (.int .i64)) c5 ((markT (.sl (.int .i64)) c4 ((markT (.sl TLock) c1 ((markT (.sl TRes) c0 (k)).2)).2)).2)).2)).2)).2)).2)).2 ≤ 4611686018427387904) : V wheldWorld [.agg [.d (.sl TRes (markT (.sl TRes) c0 (k)).1), .d (.sl TLock (markT (.sl TLock) c1 ((markT (.sl TRes) c0 (k)).2)).1), .d (.i .i64 c2), .d (.i .i64 c3), .d (.sl (.int .i64) (markT (.sl (.int .i64)) c4 ((markT (.sl TLock) c1 ((markT (.sl TRes) c0 (k)).2)).2)).1), .d (.sl (.int .i64) (markT (.sl (.int .i64)) c5 ((markT (.sl (.int .i64)) c4 ((markT (.sl TLock) c1 ((markT (.sl TRes) c0 (k)).2)).2)).2)).1), .d (.sl TWire (markT (.sl TWire) c6 ((markT (.sl (.int .i64)) c5 ((markT (.sl (.int .i64)) c4 ((markT (.sl TLock) c1 ((markT (.sl TRes) c0 (k)).2)).2)).2)).2)).1), .d (.sl (.sl .u8) (markT (.sl (.sl .u8)) c7 ((markT (.sl TWire) c6 ((markT (.sl (.int .i64)) c5 ((markT (.sl (.int .i64)) c4 ((markT (.sl TLock) c1 ((markT (.sl TRes) c0 (k)).2)).2)).2)).2)).2)).1), .d (.sl (.sl .u8) (markT (.sl (.sl .u8)) c8 ((markT (.sl (.sl .u8)) c7 ((markT (.sl TWire) c6 ((markT (.sl (.int .i64)) c5 ((markT (.sl (.int .i64)) c4 ((markT (.sl TLock) c1 ((markT (.sl TRes) c0 (k)).2)).2)).2)).2)).2)).2)).1), .d (.sl .u8 (markT (.sl .u8) c9 ((markT (.sl (.sl .u8)) c8 ((markT (.sl (.sl .u8)) c7 ((markT (.sl TWire) c6 ((markT (.sl (.int .i64)) c5 ((markT (.sl (.int .i64)) c4 ((markT (.sl TLock) c1 ((markT (.sl TRes) c0 (k)).2)).2)).2)).2)).2)).2)).2)).1), .d (.i .i64 c10)], .d (.i .i64 k)] [] = some ([], .one (.fz (.i .i64 ((markT (.sl .u8) c9 ((markT (.sl (.sl .u8)) c8 ((markT (.sl (.sl .u8)) c7 ((markT (.sl TWire) c6 ((markT (.sl (.int .i64)) c5 ((markT (.sl (.int .i64)) c4 ((markT (.sl TLock) c1 ((markT (.sl TRes) c0 (k)).2)).2)).2)).2)).2)).2)).2)).2 : Nat)))) := by
  rw [V_eq (fn := wheldWorld_m) (by kernel_rfl)]
  have y_c0 := markT_le (.sl TRes) c0 (k)
  have y_c1 := markT_le (.sl TLock) c1 ((markT (.sl TRes) c0 (k)).2)
  have y_c4 := markT_le (.sl (.int .i64)) c4 ((markT (.sl TLock) c1 ((markT (.sl TRes) c0 (k)).2)).2)
  have y_c5 := markT_le (.sl (.int .i64)) c5 ((markT (.sl (.int .i64)) c4 ((markT (.sl TLock) c1 ((markT (.sl TRes) c0 (k)).2)).2)).2)
  have y_c6 := markT_le (.sl TWire) c6 ((markT (.sl (.int .i64)) c5 ((markT (.sl (.int .i64)) c4 ((markT (.sl TLock) c1 ((markT (.sl TRes) c0 (k)).2)).2)).2)).2)
  have y_c7 := markT_le (.sl (.sl .u8)) c7 ((markT (.sl TWire) c6 ((markT (.sl (.int .i64)) c5 ((markT (.sl (.int .i64)) c4 ((markT (.sl TLock) c1 ((markT (.sl TRes) c0 (k)).2)).2)).2)).2)).2)
  have y_c8 := markT_le (.sl (.sl .u8)) c8 ((markT (.sl (.sl .u8)) c7 ((markT (.sl TWire) c6 ((markT (.sl (.int .i64)) c5 ((markT (.sl (.int .i64)) c4 ((markT (.sl TLock) c1 ((markT (.sl TRes) c0 (k)).2)).2)).2)).2)).2)).2)
  have y_c9 := markT_le (.sl .u8) c9 ((markT (.sl (.sl .u8)) c8 ((markT (.sl (.sl .u8)) c7 ((markT (.sl TWire) c6 ((markT (.sl (.int .i64)) c5 ((markT (.sl (.int .i64)) c4 ((markT (.sl TLock) c1 ((markT (.sl TRes) c0 (k)).2)).2)).2)).2)).2)).2)).2)
  have e0 := wheldSrv_ok c0 c1 c2 c3 c4 c5 (k) h_c0 h_c1 h_c4 h_c5 b_c0 b_c1 b_c4 b_c5 (by omega)
  have e1 := wheldWireS_ok c6 ((markT (.sl (.int .i64)) c5 ((markT (.sl (.int .i64)) c4 ((markT (.sl TLock) c1 ((markT (.sl TRes) c0 (k)).2)).2)).2)).2) h_c6 (by omega) b_c6
  have e2 := wheldByteSS_ok c7 ((markT (.sl TWire) c6 ((markT (.sl (.int .i64)) c5 ((markT (.sl (.int .i64)) c4 ((markT (.sl TLock) c1 ((markT (.sl TRes) c0 (k)).2)).2)).2)).2)).2) h_c7 (by omega) b_c7
  have e3 := wheldByteSS_ok c8 ((markT (.sl (.sl .u8)) c7 ((markT (.sl TWire) c6 ((markT (.sl (.int .i64)) c5 ((markT (.sl (.int .i64)) c4 ((markT (.sl TLock) c1 ((markT (.sl TRes) c0 (k)).2)).2)).2)).2)).2)).2) h_c8 (by omega) b_c8
  have e4 := wheldByteS_ok c9 ((markT (.sl (.sl .u8)) c8 ((markT (.sl (.sl .u8)) c7 ((markT (.sl TWire) c6 ((markT (.sl (.int .i64)) c5 ((markT (.sl (.int .i64)) c4 ((markT (.sl TLock) c1 ((markT (.sl TRes) c0 (k)).2)).2)).2)).2)).2)).2)).2) h_c9 (by omega) b_c9
  simp -implicitDefEqProofs [wheldWorld_m, e0, e1, e2, e3, e4]
end Go.Proofs.YtfklggpopffkjaaK
