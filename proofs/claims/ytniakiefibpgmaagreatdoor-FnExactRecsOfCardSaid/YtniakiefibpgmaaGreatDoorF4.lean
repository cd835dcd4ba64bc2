/- What the functions come to. -/
import Derived.Test.YtniakiefibpgmaaGreatDoorF3
set_option linter.unusedVariables false
set_option linter.unusedSimpArgs false
namespace Go.Proofs.YtniakiefibpgmaaGreatDoorK
open Go.RowKit
theorem wtoByteS_l (l : List (T.den .u8)) (h1 : l.length ≤ 1048576) (hz : ∀ x ∈ l, szT .u8 x ≤ 1048576) : ∀ post pre : List (T.den .u8), l = pre ++ post →
    DL V (.loop wtoByteS_l0) ⟨[(4, .d (.i .i64 pre.length)), (3, .h 71 0 l.length), (0, .d (.sl .u8 l))], [(71, .ls .u8 false (pre ++ List.replicate post.length (T.zero .u8)) 0 [])]⟩ = some (.ex 0, ⟨[(3, .h 71 0 l.length)], [(71, .ls .u8 false l 0 [])]⟩)
  | [], pre, hl => by
    rw [DL_loop]
    have : l = pre := by simpa using hl
    subst this
    simp -implicitDefEqProofs [wtoByteS_l0]
  | c0 :: post, pre, hl => by
    have ih := wtoByteS_l l h1 hz post (pre ++ [c0]) (by simp [hl])
    have hg : l[pre.length]? = some c0 := by rw [hl]; exact mid_get _ _ _
    have hlt : pre.length < l.length := by rw [hl]; simp
    have hg2 : l[pre.length] = c0 := (List.getElem?_eq_some_iff.1 hg).2
    have hw := wrap_succ hlt (by omega)
    simp only [List.append_assoc, List.cons_append, List.nil_append, List.length_append, List.length_cons, List.length_nil, Int.natCast_add, Int.natCast_one, Nat.zero_add, T.zero] at ih
    rw [DL_loop]
    generalize DL V (.loop wtoByteS_l0) = G at ih ⊢
    simp -implicitDefEqProofs [wtoByteS_l0, hg, hg2, hlt, hw, mid_get, mid_set, List.replicate_succ]
    exact ih
theorem wtoByteS_ok (l : List (T.den .u8)) (h : szT (.sl .u8) l ≤ 1048576) : V wtoByteS [.d (.sl .u8 l)] [] = some ([], .one (.own (.sl .u8 l))) := by
  rw [V_eq (fn := wtoByteS_m) (by kernel_rfl)]
  obtain ⟨h1, h2⟩ := szT_sl h
  have e := wtoByteS_l l h1 h2 l [] rfl
  simp only [List.nil_append, List.length_nil, Int.natCast_zero] at e
  have hb : (l.length : Int) ≤ 140737488355328 := by omega
  simp -implicitDefEqProofs [wtoByteS_m, hb] at e ⊢
  simp -implicitDefEqProofs [e]
theorem weqByteS_l (l : List (T.den .u8)) (h1 : l.length ≤ 9223372036854775807) (hb : ∀ x ∈ l, BndT .u8 x) : ∀ post pre : List (T.den .u8), l = pre ++ post →
    DL V (.loop weqByteS_l0) ⟨[(5, .d (.i .i64 pre.length)), (1, .d (.sl .u8 l)), (0, .d (.sl .u8 l))], []⟩ = some (.ex 0, ⟨[], []⟩)
  | [], pre, hl => by
    rw [DL_loop]
    have : l = pre := by simpa using hl
    subst this
    simp -implicitDefEqProofs [weqByteS_l0]
  | c0 :: post, pre, hl => by
    have ih := weqByteS_l l h1 hb post (pre ++ [c0]) (by simp [hl])
    have hg : l[pre.length]? = some c0 := by rw [hl]; exact mid_get _ _ _
    have hlt : pre.length < l.length := by rw [hl]; simp
    have hg2 : l[pre.length] = c0 := (List.getElem?_eq_some_iff.1 hg).2
    have hw := wrap_succ hlt h1
    simp only [List.length_append, List.length_cons, List.length_nil, Int.natCast_add, Int.natCast_one, Nat.zero_add] at ih
    rw [DL_loop]
    generalize DL V (.loop weqByteS_l0) = G at ih ⊢
    simp -implicitDefEqProofs [weqByteS_l0, hg, hg2, hlt, hw]
    exact ih
theorem weqByteS_ok (l : List (T.den .u8)) (hb : BndT (.sl .u8) l) : V weqByteS [.d (.sl .u8 l), .d (.sl .u8 l)] [] = some ([], .one (.fz (.b true))) := by
  rw [V_eq (fn := weqByteS_m) (by kernel_rfl)]
  have e := weqByteS_l l hb.1 hb.2 l [] rfl
  simp only [List.length_nil, Int.natCast_zero] at e
  simp -implicitDefEqProofs [weqByteS_m, e]
theorem wmarkByteS_l (n : Nat) : ∀ (post pre : List (T.den .u8)) (k : Nat), n = pre.length + post.length → n ≤ 140737488355328 → (markT (.sl .u8) post k).2 ≤ 4611686018427387904 → (∀ x ∈ post, BndM .u8 x) →
    DL V (.loop wmarkByteS_l0) ⟨[(5, .d (.i .i64 pre.length)), (1, .d (.i .i64 k)), (0, .h 0 0 n)], [(0, .ls .u8 false (pre ++ post) 0 [])]⟩ = some (.ex 0, ⟨[(1, .d (.i .i64 ((markT (.sl .u8) post k).2 : Nat)))], [(0, .ls .u8 false (pre ++ (markT (.sl .u8) post k).1) 0 [])]⟩)
  | [], pre, k, hn, hn2, hk, hB => by
    rw [DL_loop]
    have : n = pre.length := by simpa using hn
    subst this
    simp -implicitDefEqProofs [wmarkByteS_l0, markT, mkFold]
  | c0 :: post, pre, k, hn, hn2, hk, hB => by
    have hlt : pre.length < n := by rw [hn]; simp
    have hw := wrap_succ hlt (by omega)
    change (markT (.sl .u8) post (markT .u8 c0 k).2).2 ≤ 4611686018427387904 at hk
    change _ = some (Ex.ex 0, (⟨[(1, .d (.i .i64 ((markT (.sl .u8) post (markT .u8 c0 k).2).2 : Nat)))], [(0, .ls .u8 false (pre ++ (markT .u8 c0 k).1 :: (markT (.sl .u8) post (markT .u8 c0 k).2).1) 0 [])]⟩ : St))
    have hB0 := hB c0 (by simp)
    have hB0 : BndM .u8 c0 := hB0
    have hmono := markT_le (.sl .u8) post (markT .u8 c0 k).2
    have hm0 := markT_le .u8 c0 k
    obtain ⟨k0, hk0⟩ : ∃ k0, k + 1 = k0 := ⟨_, rfl⟩
    have hc : (markT .u8 c0 k).2 = k0 := by subst hk0; rfl
    have hd : (markT .u8 c0 k).1 = UInt8.ofNat k := by subst hk0; rfl
    have e0 := u8_mod k
    have w0 : IntKind.i64.wrap (((k : Nat) : Int) + 1) = (k0 : Int) := by rw [← hk0]; exact wrap_id (by omega) (by omega)
    have ih := wmarkByteS_l n post (pre ++ [(markT .u8 c0 k).1]) (markT .u8 c0 k).2 (by simp at hn ⊢; omega) hn2 hk (fun x hx => hB x (by simp [hx]))
    simp only [List.append_assoc, List.cons_append, List.nil_append, List.length_append, List.length_cons, List.length_nil, Int.natCast_add, Int.natCast_one, Nat.zero_add] at ih
    rw [DL_loop]
    rw [hc, hd] at ih ⊢
    generalize DL V (.loop wmarkByteS_l0) = G at ih ⊢
    simp -implicitDefEqProofs [wmarkByteS_l0, hlt, hw, mid_get, mid_set, e0, w0]
    exact ih
theorem wmarkByteS_ok (l : List (T.den .u8)) (k : Nat) (h1 : l.length ≤ 140737488355328) (hk : (markT (.sl .u8) l k).2 ≤ 4611686018427387904) (hB : ∀ x ∈ l, BndM .u8 x) : V wmarkByteS [.h 0 0 l.length, .d (.i .i64 k)] [.ls .u8 false l 0 []] = some ([some (.ls .u8 false (markT (.sl .u8) l k).1 0 [])], .one (.fz (.i .i64 ((markT (.sl .u8) l k).2 : Nat)))) := by
  rw [V_eq (fn := wmarkByteS_m) (by kernel_rfl)]
  have e := wmarkByteS_l l.length l [] k (by simp) h1 hk hB
  simp only [List.length_nil, Int.natCast_zero, List.nil_append] at e
  simp -implicitDefEqProofs [wmarkByteS_m, e]
theorem weqHead_ok (c0 : List UInt8) (c1 : List UInt8) (hb : BndT THead (c0, c1)) : V weqHead [.agg [.d (.s c0), .d (.s c1)], .agg [.d (.s c0), .d (.s c1)]] [] = some ([], .one (.fz (.b true))) := by
  rw [V_eq (fn := weqHead_m) (by kernel_rfl)]
  have hb : BndT .str c0 ∧ BndT .str c1 := hb
  simp -implicitDefEqProofs [weqHead_m]
theorem weqHeadS_l (l : List (T.den THead)) (h1 : l.length ≤ 9223372036854775807) (hb : ∀ x ∈ l, BndT THead x) : ∀ post pre : List (T.den THead), l = pre ++ post →
    DL V (.loop weqHeadS_l0) ⟨[(5, .d (.i .i64 pre.length)), (1, .d (.sl THead l)), (0, .d (.sl THead l))], []⟩ = some (.ex 0, ⟨[], []⟩)
  | [], pre, hl => by
    rw [DL_loop]
    have : l = pre := by simpa using hl
    subst this
    simp -implicitDefEqProofs [weqHeadS_l0]
  | (c0, c1) :: post, pre, hl => by
    have ih := weqHeadS_l l h1 hb post (pre ++ [(c0, c1)]) (by simp [hl])
    have hg : l[pre.length]? = some (c0, c1) := by rw [hl]; exact mid_get _ _ _
    have hlt : pre.length < l.length := by rw [hl]; simp
    have hg2 : l[pre.length] = (c0, c1) := (List.getElem?_eq_some_iff.1 hg).2
    have hw := wrap_succ hlt h1
    have e1 := weqHead_ok c0 c1 (hb (c0, c1) (by rw [hl]; simp))
    simp only [List.length_append, List.length_cons, List.length_nil, Int.natCast_add, Int.natCast_one, Nat.zero_add] at ih
    rw [DL_loop]
    generalize DL V (.loop weqHeadS_l0) = G at ih ⊢
    simp -implicitDefEqProofs [weqHeadS_l0, hg, hg2, hlt, hw, e1]
    exact ih
theorem weqHeadS_ok (l : List (T.den THead)) (hb : BndT (.sl THead) l) : V weqHeadS [.d (.sl THead l), .d (.sl THead l)] [] = some ([], .one (.fz (.b true))) := by
  rw [V_eq (fn := weqHeadS_m) (by kernel_rfl)]
  have e := weqHeadS_l l hb.1 hb.2 l [] rfl
  simp only [List.length_nil, Int.natCast_zero] at e
  simp -implicitDefEqProofs [weqHeadS_m, e]
theorem wmarkHeadS_l (n : Nat) : ∀ (post pre : List (T.den THead)) (k : Nat), n = pre.length + post.length → n ≤ 140737488355328 → (markT (.sl THead) post k).2 ≤ 4611686018427387904 → (∀ x ∈ post, BndM THead x) →
    DL V (.loop wmarkHeadS_l0) ⟨[(5, .d (.i .i64 pre.length)), (1, .d (.i .i64 k)), (0, .h 0 0 n)], [(0, .ls THead false (pre ++ post) 0 [])]⟩ = some (.ex 0, ⟨[(1, .d (.i .i64 ((markT (.sl THead) post k).2 : Nat)))], [(0, .ls THead false (pre ++ (markT (.sl THead) post k).1) 0 [])]⟩)
  | [], pre, k, hn, hn2, hk, hB => by
    rw [DL_loop]
    have : n = pre.length := by simpa using hn
    subst this
    simp -implicitDefEqProofs [wmarkHeadS_l0, markT, mkFold]
  | (c0, c1) :: post, pre, k, hn, hn2, hk, hB => by
    have hlt : pre.length < n := by rw [hn]; simp
    have hw := wrap_succ hlt (by omega)
    change (markT (.sl THead) post (markT THead (c0, c1) k).2).2 ≤ 4611686018427387904 at hk
    change _ = some (Ex.ex 0, (⟨[(1, .d (.i .i64 ((markT (.sl THead) post (markT THead (c0, c1) k).2).2 : Nat)))], [(0, .ls THead false (pre ++ (markT THead (c0, c1) k).1 :: (markT (.sl THead) post (markT THead (c0, c1) k).2).1) 0 [])]⟩ : St))
    have hB0 := hB (c0, c1) (by simp)
    have hB0 : BndM .str c0 ∧ BndM .str c1 := hB0
    have hmono := markT_le (.sl THead) post (markT THead (c0, c1) k).2
    have hm0 := markT_le THead (c0, c1) k
    obtain ⟨k0, hk0⟩ : ∃ k0, k + 1 = k0 := ⟨_, rfl⟩
    obtain ⟨k1, hk1⟩ : ∃ k1, k0 + 1 = k1 := ⟨_, rfl⟩
    have hc : (markT THead (c0, c1) k).2 = k1 := by subst hk0 hk1; rfl
    have hd : (markT THead (c0, c1) k).1 = (mtx k, mtx k0) := by subst hk0 hk1; rfl
    have e0 := wmarkText_ok k (by omega)
    have w0 : IntKind.i64.wrap (((k : Nat) : Int) + 1) = (k0 : Int) := by rw [← hk0]; exact wrap_id (by omega) (by omega)
    have e1 := wmarkText_ok k0 (by omega)
    have w1 : IntKind.i64.wrap (((k0 : Nat) : Int) + 1) = (k1 : Int) := by rw [← hk1]; exact wrap_id (by omega) (by omega)
    have ih := wmarkHeadS_l n post (pre ++ [(markT THead (c0, c1) k).1]) (markT THead (c0, c1) k).2 (by simp at hn ⊢; omega) hn2 hk (fun x hx => hB x (by simp [hx]))
    simp only [List.append_assoc, List.cons_append, List.nil_append, List.length_append, List.length_cons, List.length_nil, Int.natCast_add, Int.natCast_one, Nat.zero_add] at ih
    rw [DL_loop]
    rw [hc, hd] at ih ⊢
    generalize DL V (.loop wmarkHeadS_l0) = G at ih ⊢
    simp -implicitDefEqProofs [wmarkHeadS_l0, hlt, hw, mid_get, mid_set, e0, w0, e1, w1]
    exact ih
theorem wmarkHeadS_ok (l : List (T.den THead)) (k : Nat) (h1 : l.length ≤ 140737488355328) (hk : (markT (.sl THead) l k).2 ≤ 4611686018427387904) (hB : ∀ x ∈ l, BndM THead x) : V wmarkHeadS [.h 0 0 l.length, .d (.i .i64 k)] [.ls THead false l 0 []] = some ([some (.ls THead false (markT (.sl THead) l k).1 0 [])], .one (.fz (.i .i64 ((markT (.sl THead) l k).2 : Nat)))) := by
  rw [V_eq (fn := wmarkHeadS_m) (by kernel_rfl)]
  have e := wmarkHeadS_l l.length l [] k (by simp) h1 hk hB
  simp only [List.length_nil, Int.natCast_zero, List.nil_append] at e
  simp -implicitDefEqProofs [wmarkHeadS_m, e]
theorem wheldHeadS_l (l : List (T.den THead)) (h1 : l.length ≤ 140737488355328) : ∀ (post pre : List (T.den THead)) (k : Nat), l = pre ++ (markT (.sl THead) post k).1 → (markT (.sl THead) post k).2 ≤ 4611686018427387904 → (∀ x ∈ post, BndM THead x) →
    DL V (.loop wheldHeadS_l0) ⟨[(5, .d (.i .i64 pre.length)), (1, .d (.i .i64 k)), (0, .d (.sl THead l))], []⟩ = some (.ex 0, ⟨[(1, .d (.i .i64 ((markT (.sl THead) post k).2 : Nat)))], []⟩)
  | [], pre, k, hl, hk, hB => by
    rw [DL_loop]
    have : l = pre := by simpa [markT, mkFold] using hl
    subst this
    simp -implicitDefEqProofs [wheldHeadS_l0, markT, mkFold]
  | (c0, c1) :: post, pre, k, hl, hk, hB => by
    change l = pre ++ (markT THead (c0, c1) k).1 :: (markT (.sl THead) post (markT THead (c0, c1) k).2).1 at hl
    change (markT (.sl THead) post (markT THead (c0, c1) k).2).2 ≤ 4611686018427387904 at hk
    change _ = some (Ex.ex 0, (⟨[(1, .d (.i .i64 ((markT (.sl THead) post (markT THead (c0, c1) k).2).2 : Nat)))], []⟩ : St))
    have hlt : pre.length < l.length := by rw [hl]; simp
    have hw := wrap_succ hlt (by omega)
    have hmono := markT_le (.sl THead) post (markT THead (c0, c1) k).2
    have hm0 := markT_le THead (c0, c1) k
    have hB0 := hB (c0, c1) (by simp)
    have hg : l[pre.length]? = some (markT THead (c0, c1) k).1 := by rw [hl]; exact mid_get _ _ _
    have hg2 : l[pre.length] = (markT THead (c0, c1) k).1 := (List.getElem?_eq_some_iff.1 hg).2
    have hB0 : BndM .str c0 ∧ BndM .str c1 := hB0
    obtain ⟨k0, hk0⟩ : ∃ k0, k + 1 = k0 := ⟨_, rfl⟩
    obtain ⟨k1, hk1⟩ : ∃ k1, k0 + 1 = k1 := ⟨_, rfl⟩
    have hc : (markT THead (c0, c1) k).2 = k1 := by subst hk0 hk1; rfl
    have hd : (markT THead (c0, c1) k).1 = (mtx k, mtx k0) := by subst hk0 hk1; rfl
    have e0 := wmarkText_ok k (by omega)
    have w0 : IntKind.i64.wrap (((k : Nat) : Int) + 1) = (k0 : Int) := by rw [← hk0]; exact wrap_id (by omega) (by omega)
    have e1 := wmarkText_ok k0 (by omega)
    have w1 : IntKind.i64.wrap (((k0 : Nat) : Int) + 1) = (k1 : Int) := by rw [← hk1]; exact wrap_id (by omega) (by omega)
    have ih := wheldHeadS_l l h1 post (pre ++ [(markT THead (c0, c1) k).1]) (markT THead (c0, c1) k).2 (by simp [hl]) hk (fun x hx => hB x (by simp [hx]))
    simp only [List.length_append, List.length_cons, List.length_nil, Int.natCast_add, Int.natCast_one, Nat.zero_add] at ih
    rw [DL_loop]
    rw [hc] at ih ⊢
    rw [hd] at hg hg2
    generalize DL V (.loop wheldHeadS_l0) = G at ih ⊢
    simp -implicitDefEqProofs [wheldHeadS_l0, hlt, hw, hg, hg2, e0, w0, e1, w1]
    exact ih
theorem wheldHeadS_ok (l : List (T.den THead)) (k : Nat) (h1 : l.length ≤ 140737488355328) (hk : (markT (.sl THead) l k).2 ≤ 4611686018427387904) (hB : ∀ x ∈ l, BndM THead x) : V wheldHeadS [.d (.sl THead (markT (.sl THead) l k).1), .d (.i .i64 k)] [] = some ([], .one (.fz (.i .i64 ((markT (.sl THead) l k).2 : Nat)))) := by
  rw [V_eq (fn := wheldHeadS_m) (by kernel_rfl)]
  have hlen := markL_len THead l k
  have e := wheldHeadS_l (markT (.sl THead) l k).1 (by rw [hlen]; exact h1) l [] k (by simp) hk hB
  simp only [List.length_nil, Int.natCast_zero] at e
  simp -implicitDefEqProofs [wheldHeadS_m, e]
theorem weqReq_ok (c0 : List UInt8) (c1 : List UInt8) (c2 : List (T.den THead)) (c3 : List UInt8) (hb : BndT TReq (c0, (c1, (c2, c3)))) : V weqReq [.agg [.d (.s c0), .d (.s c1), .d (.sl THead c2), .d (.s c3)], .agg [.d (.s c0), .d (.s c1), .d (.sl THead c2), .d (.s c3)]] [] = some ([], .one (.fz (.b true))) := by
  rw [V_eq (fn := weqReq_m) (by kernel_rfl)]
  have hb : BndT .str c0 ∧ BndT .str c1 ∧ BndT (.sl THead) c2 ∧ BndT .str c3 := hb
  have e2 := weqHeadS_ok c2 hb.2.2.1
  simp -implicitDefEqProofs [weqReq_m, e2]
theorem weqRec_ok (c0 : Int) (c1 : Int) (c2 : List UInt8) (c3 : List UInt8) (c4 : List (T.den THead)) (c5 : List UInt8) (hb : BndT TRec (c0, (c1, (c2, (c3, (c4, c5)))))) : V weqRec [.agg [.d (.i .i64 c0), .d (.i .i64 c1), .d (.s c2), .d (.s c3), .d (.sl THead c4), .d (.s c5)], .agg [.d (.i .i64 c0), .d (.i .i64 c1), .d (.s c2), .d (.s c3), .d (.sl THead c4), .d (.s c5)]] [] = some ([], .one (.fz (.b true))) := by
  rw [V_eq (fn := weqRec_m) (by kernel_rfl)]
  have hb : BndT (.int .i64) c0 ∧ BndT (.int .i64) c1 ∧ BndT TReq (c2, (c3, (c4, c5))) := hb
  have e2 := weqReq_ok c2 c3 c4 c5 hb.2.2
  simp -implicitDefEqProofs [weqRec_m, e2]
theorem weqRecS_l (l : List (T.den TRec)) (h1 : l.length ≤ 9223372036854775807) (hb : ∀ x ∈ l, BndT TRec x) : ∀ post pre : List (T.den TRec), l = pre ++ post →
    DL V (.loop weqRecS_l0) ⟨[(5, .d (.i .i64 pre.length)), (1, .d (.sl TRec l)), (0, .d (.sl TRec l))], []⟩ = some (.ex 0, ⟨[], []⟩)
  | [], pre, hl => by
    rw [DL_loop]
    have : l = pre := by simpa using hl
    subst this
    simp -implicitDefEqProofs [weqRecS_l0]
  | (c0, (c1, (c2, (c3, (c4, c5))))) :: post, pre, hl => by
    have ih := weqRecS_l l h1 hb post (pre ++ [(c0, (c1, (c2, (c3, (c4, c5)))))]) (by simp [hl])
    have hg : l[pre.length]? = some (c0, (c1, (c2, (c3, (c4, c5))))) := by rw [hl]; exact mid_get _ _ _
    have hlt : pre.length < l.length := by rw [hl]; simp
    have hg2 : l[pre.length] = (c0, (c1, (c2, (c3, (c4, c5))))) := (List.getElem?_eq_some_iff.1 hg).2
    have hw := wrap_succ hlt h1
    have e1 := weqRec_ok c0 c1 c2 c3 c4 c5 (hb (c0, (c1, (c2, (c3, (c4, c5))))) (by rw [hl]; simp))
    simp only [List.length_append, List.length_cons, List.length_nil, Int.natCast_add, Int.natCast_one, Nat.zero_add] at ih
    rw [DL_loop]
    generalize DL V (.loop weqRecS_l0) = G at ih ⊢
    simp -implicitDefEqProofs [weqRecS_l0, hg, hg2, hlt, hw, e1]
    exact ih
theorem weqRecS_ok (l : List (T.den TRec)) (hb : BndT (.sl TRec) l) : V weqRecS [.d (.sl TRec l), .d (.sl TRec l)] [] = some ([], .one (.fz (.b true))) := by
  rw [V_eq (fn := weqRecS_m) (by kernel_rfl)]
  have e := weqRecS_l l hb.1 hb.2 l [] rfl
  simp only [List.length_nil, Int.natCast_zero] at e
  simp -implicitDefEqProofs [weqRecS_m, e]
theorem wmarkRecS_l (n : Nat) : ∀ (post pre : List (T.den TRec)) (k : Nat), n = pre.length + post.length → n ≤ 140737488355328 → (markT (.sl TRec) post k).2 ≤ 4611686018427387904 → (∀ x ∈ post, BndM TRec x) →
    DL V (.loop wmarkRecS_l0) ⟨[(5, .d (.i .i64 pre.length)), (1, .d (.i .i64 k)), (0, .h 0 0 n)], [(0, .ls TRec false (pre ++ post) 0 [])]⟩ = some (.ex 0, ⟨[(1, .d (.i .i64 ((markT (.sl TRec) post k).2 : Nat)))], [(0, .ls TRec false (pre ++ (markT (.sl TRec) post k).1) 0 [])]⟩)
  | [], pre, k, hn, hn2, hk, hB => by
    rw [DL_loop]
    have : n = pre.length := by simpa using hn
    subst this
    simp -implicitDefEqProofs [wmarkRecS_l0, markT, mkFold]
  | (c0, (c1, (c2, (c3, (c4, c5))))) :: post, pre, k, hn, hn2, hk, hB => by
    have hlt : pre.length < n := by rw [hn]; simp
    have hw := wrap_succ hlt (by omega)
    change (markT (.sl TRec) post (markT TRec (c0, (c1, (c2, (c3, (c4, c5))))) k).2).2 ≤ 4611686018427387904 at hk
    change _ = some (Ex.ex 0, (⟨[(1, .d (.i .i64 ((markT (.sl TRec) post (markT TRec (c0, (c1, (c2, (c3, (c4, c5))))) k).2).2 : Nat)))], [(0, .ls TRec false (pre ++ (markT TRec (c0, (c1, (c2, (c3, (c4, c5))))) k).1 :: (markT (.sl TRec) post (markT TRec (c0, (c1, (c2, (c3, (c4, c5))))) k).2).1) 0 [])]⟩ : St))
    have hB0 := hB (c0, (c1, (c2, (c3, (c4, c5))))) (by simp)
    have hB0 : BndM (.int .i64) c0 ∧ BndM (.int .i64) c1 ∧ BndM .str c2 ∧ BndM .str c3 ∧ BndM (.sl THead) c4 ∧ BndM .str c5 := hB0
    have hmono := markT_le (.sl TRec) post (markT TRec (c0, (c1, (c2, (c3, (c4, c5))))) k).2
    have hm0 := markT_le TRec (c0, (c1, (c2, (c3, (c4, c5))))) k
    obtain ⟨k0, hk0⟩ : ∃ k0, k + 1 = k0 := ⟨_, rfl⟩
    obtain ⟨k1, hk1⟩ : ∃ k1, k0 + 1 = k1 := ⟨_, rfl⟩
    obtain ⟨k2, hk2⟩ : ∃ k2, k1 + 1 = k2 := ⟨_, rfl⟩
    obtain ⟨k3, hk3⟩ : ∃ k3, k2 + 1 = k3 := ⟨_, rfl⟩
    obtain ⟨k4, hk4⟩ : ∃ k4, (markT (.sl THead) c4 k3).2 = k4 := ⟨_, rfl⟩
    obtain ⟨k5, hk5⟩ : ∃ k5, k4 + 1 = k5 := ⟨_, rfl⟩
    have hc : (markT TRec (c0, (c1, (c2, (c3, (c4, c5))))) k).2 = k5 := by subst hk0 hk1 hk2 hk3 hk4 hk5; rfl
    have hd : (markT TRec (c0, (c1, (c2, (c3, (c4, c5))))) k).1 = (((k : Nat) : Int), (((k0 : Nat) : Int), (mtx k1, (mtx k2, ((markT (.sl THead) c4 k3).1, mtx k4))))) := by subst hk0 hk1 hk2 hk3 hk4 hk5; rfl
    have y4 := markT_le (.sl THead) c4 k3
    have e0 : IntKind.i64.wrap ((k : Nat) : Int) = ((k : Nat) : Int) := wrap_id (by omega) (by omega)
    have w0 : IntKind.i64.wrap (((k : Nat) : Int) + 1) = (k0 : Int) := by rw [← hk0]; exact wrap_id (by omega) (by omega)
    have e1 : IntKind.i64.wrap ((k0 : Nat) : Int) = ((k0 : Nat) : Int) := wrap_id (by omega) (by omega)
    have w1 : IntKind.i64.wrap (((k0 : Nat) : Int) + 1) = (k1 : Int) := by rw [← hk1]; exact wrap_id (by omega) (by omega)
    have e2 := wmarkText_ok k1 (by omega)
    have w2 : IntKind.i64.wrap (((k1 : Nat) : Int) + 1) = (k2 : Int) := by rw [← hk2]; exact wrap_id (by omega) (by omega)
    have e3 := wmarkText_ok k2 (by omega)
    have w3 : IntKind.i64.wrap (((k2 : Nat) : Int) + 1) = (k3 : Int) := by rw [← hk3]; exact wrap_id (by omega) (by omega)
    have e4 := wmarkHeadS_ok c4 k3 hB0.2.2.2.2.1.1 (by omega) hB0.2.2.2.2.1.2
    rw [hk4] at e4
    have z4 := markL_len THead c4 k3
    have e5 := wmarkText_ok k4 (by omega)
    have w5 : IntKind.i64.wrap (((k4 : Nat) : Int) + 1) = (k5 : Int) := by rw [← hk5]; exact wrap_id (by omega) (by omega)
    have ih := wmarkRecS_l n post (pre ++ [(markT TRec (c0, (c1, (c2, (c3, (c4, c5))))) k).1]) (markT TRec (c0, (c1, (c2, (c3, (c4, c5))))) k).2 (by simp at hn ⊢; omega) hn2 hk (fun x hx => hB x (by simp [hx]))
    simp only [List.append_assoc, List.cons_append, List.nil_append, List.length_append, List.length_cons, List.length_nil, Int.natCast_add, Int.natCast_one, Nat.zero_add] at ih
    rw [DL_loop]
    rw [hc, hd] at ih ⊢
    generalize DL V (.loop wmarkRecS_l0) = G at ih ⊢
    simp -implicitDefEqProofs [wmarkRecS_l0, hlt, hw, mid_get, mid_set, e0, w0, e1, w1, e2, w2, e3, w3, e4, z4, e5, w5]
    exact ih
theorem wmarkRecS_ok (l : List (T.den TRec)) (k : Nat) (h1 : l.length ≤ 140737488355328) (hk : (markT (.sl TRec) l k).2 ≤ 4611686018427387904) (hB : ∀ x ∈ l, BndM TRec x) : V wmarkRecS [.h 0 0 l.length, .d (.i .i64 k)] [.ls TRec false l 0 []] = some ([some (.ls TRec false (markT (.sl TRec) l k).1 0 [])], .one (.fz (.i .i64 ((markT (.sl TRec) l k).2 : Nat)))) := by
  rw [V_eq (fn := wmarkRecS_m) (by kernel_rfl)]
  have e := wmarkRecS_l l.length l [] k (by simp) h1 hk hB
  simp only [List.length_nil, Int.natCast_zero, List.nil_append] at e
  simp -implicitDefEqProofs [wmarkRecS_m, e]
theorem wheldRecS_l (l : List (T.den TRec)) (h1 : l.length ≤ 140737488355328) : ∀ (post pre : List (T.den TRec)) (k : Nat), l = pre ++ (markT (.sl TRec) post k).1 → (markT (.sl TRec) post k).2 ≤ 4611686018427387904 → (∀ x ∈ post, BndM TRec x) →
    DL V (.loop wheldRecS_l0) ⟨[(5, .d (.i .i64 pre.length)), (1, .d (.i .i64 k)), (0, .d (.sl TRec l))], []⟩ = some (.ex 0, ⟨[(1, .d (.i .i64 ((markT (.sl TRec) post k).2 : Nat)))], []⟩)
  | [], pre, k, hl, hk, hB => by
    rw [DL_loop]
    have : l = pre := by simpa [markT, mkFold] using hl
    subst this
    simp -implicitDefEqProofs [wheldRecS_l0, markT, mkFold]
  | (c0, (c1, (c2, (c3, (c4, c5))))) :: post, pre, k, hl, hk, hB => by
    change l = pre ++ (markT TRec (c0, (c1, (c2, (c3, (c4, c5))))) k).1 :: (markT (.sl TRec) post (markT TRec (c0, (c1, (c2, (c3, (c4, c5))))) k).2).1 at hl
    change (markT (.sl TRec) post (markT TRec (c0, (c1, (c2, (c3, (c4, c5))))) k).2).2 ≤ 4611686018427387904 at hk
    change _ = some (Ex.ex 0, (⟨[(1, .d (.i .i64 ((markT (.sl TRec) post (markT TRec (c0, (c1, (c2, (c3, (c4, c5))))) k).2).2 : Nat)))], []⟩ : St))
    have hlt : pre.length < l.length := by rw [hl]; simp
    have hw := wrap_succ hlt (by omega)
    have hmono := markT_le (.sl TRec) post (markT TRec (c0, (c1, (c2, (c3, (c4, c5))))) k).2
    have hm0 := markT_le TRec (c0, (c1, (c2, (c3, (c4, c5))))) k
    have hB0 := hB (c0, (c1, (c2, (c3, (c4, c5))))) (by simp)
    have hg : l[pre.length]? = some (markT TRec (c0, (c1, (c2, (c3, (c4, c5))))) k).1 := by rw [hl]; exact mid_get _ _ _
    have hg2 : l[pre.length] = (markT TRec (c0, (c1, (c2, (c3, (c4, c5))))) k).1 := (List.getElem?_eq_some_iff.1 hg).2
    have hB0 : BndM (.int .i64) c0 ∧ BndM (.int .i64) c1 ∧ BndM .str c2 ∧ BndM .str c3 ∧ BndM (.sl THead) c4 ∧ BndM .str c5 := hB0
    obtain ⟨k0, hk0⟩ : ∃ k0, k + 1 = k0 := ⟨_, rfl⟩
    obtain ⟨k1, hk1⟩ : ∃ k1, k0 + 1 = k1 := ⟨_, rfl⟩
    obtain ⟨k2, hk2⟩ : ∃ k2, k1 + 1 = k2 := ⟨_, rfl⟩
    obtain ⟨k3, hk3⟩ : ∃ k3, k2 + 1 = k3 := ⟨_, rfl⟩
    obtain ⟨k4, hk4⟩ : ∃ k4, (markT (.sl THead) c4 k3).2 = k4 := ⟨_, rfl⟩
    obtain ⟨k5, hk5⟩ : ∃ k5, k4 + 1 = k5 := ⟨_, rfl⟩
    have hc : (markT TRec (c0, (c1, (c2, (c3, (c4, c5))))) k).2 = k5 := by subst hk0 hk1 hk2 hk3 hk4 hk5; rfl
    have hd : (markT TRec (c0, (c1, (c2, (c3, (c4, c5))))) k).1 = (((k : Nat) : Int), (((k0 : Nat) : Int), (mtx k1, (mtx k2, ((markT (.sl THead) c4 k3).1, mtx k4))))) := by subst hk0 hk1 hk2 hk3 hk4 hk5; rfl
    have y4 := markT_le (.sl THead) c4 k3
    have e0 : IntKind.i64.wrap ((k : Nat) : Int) = ((k : Nat) : Int) := wrap_id (by omega) (by omega)
    have w0 : IntKind.i64.wrap (((k : Nat) : Int) + 1) = (k0 : Int) := by rw [← hk0]; exact wrap_id (by omega) (by omega)
    have e1 : IntKind.i64.wrap ((k0 : Nat) : Int) = ((k0 : Nat) : Int) := wrap_id (by omega) (by omega)
    have w1 : IntKind.i64.wrap (((k0 : Nat) : Int) + 1) = (k1 : Int) := by rw [← hk1]; exact wrap_id (by omega) (by omega)
    have e2 := wmarkText_ok k1 (by omega)
    have w2 : IntKind.i64.wrap (((k1 : Nat) : Int) + 1) = (k2 : Int) := by rw [← hk2]; exact wrap_id (by omega) (by omega)
    have e3 := wmarkText_ok k2 (by omega)
    have w3 : IntKind.i64.wrap (((k2 : Nat) : Int) + 1) = (k3 : Int) := by rw [← hk3]; exact wrap_id (by omega) (by omega)
    have e4 := wheldHeadS_ok c4 k3 hB0.2.2.2.2.1.1 (by omega) hB0.2.2.2.2.1.2
    rw [hk4] at e4
    have e5 := wmarkText_ok k4 (by omega)
    have w5 : IntKind.i64.wrap (((k4 : Nat) : Int) + 1) = (k5 : Int) := by rw [← hk5]; exact wrap_id (by omega) (by omega)
    have ih := wheldRecS_l l h1 post (pre ++ [(markT TRec (c0, (c1, (c2, (c3, (c4, c5))))) k).1]) (markT TRec (c0, (c1, (c2, (c3, (c4, c5))))) k).2 (by simp [hl]) hk (fun x hx => hB x (by simp [hx]))
    simp only [List.length_append, List.length_cons, List.length_nil, Int.natCast_add, Int.natCast_one, Nat.zero_add] at ih
    rw [DL_loop]
    rw [hc] at ih ⊢
    rw [hd] at hg hg2
    generalize DL V (.loop wheldRecS_l0) = G at ih ⊢
    simp -implicitDefEqProofs [wheldRecS_l0, hlt, hw, hg, hg2, e0, w0, e1, w1, e2, w2, e3, w3, e4, e5, w5]
    exact ih
theorem wheldRecS_ok (l : List (T.den TRec)) (k : Nat) (h1 : l.length ≤ 140737488355328) (hk : (markT (.sl TRec) l k).2 ≤ 4611686018427387904) (hB : ∀ x ∈ l, BndM TRec x) : V wheldRecS [.d (.sl TRec (markT (.sl TRec) l k).1), .d (.i .i64 k)] [] = some ([], .one (.fz (.i .i64 ((markT (.sl TRec) l k).2 : Nat)))) := by
  rw [V_eq (fn := wheldRecS_m) (by kernel_rfl)]
  have hlen := markL_len TRec l k
  have e := wheldRecS_l (markT (.sl TRec) l k).1 (by rw [hlen]; exact h1) l [] k (by simp) hk hB
  simp only [List.length_nil, Int.natCast_zero] at e
  simp -implicitDefEqProofs [wheldRecS_m, e]
end Go.Proofs.YtniakiefibpgmaaGreatDoorK
