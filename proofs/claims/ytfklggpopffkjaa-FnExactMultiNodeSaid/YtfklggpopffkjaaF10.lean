/- What the functions come to. -/
import Derived.Test.YtfklggpopffkjaaF9
set_option linter.unusedVariables false
set_option linter.unusedSimpArgs false
namespace Go.Proofs.YtfklggpopffkjaaK
open Go.RowKit
abbrev nA (a b c : List UInt8) (k : List NodeT) : AV := .agg [.d (.s a), .d (.s b), .d (.s c), .d (.sl .node k)]
theorem node_mk (n : NodeT) : ∃ a b c k, n = NodeT.mk a b c k := by cases n with | mk a b c k => exact ⟨a, b, c, k, rfl⟩
theorem mkFold_markN : ∀ (l : List NodeT) (k : Nat), mkFold markN l k = markNs l k
  | [], k => by simp only [mkFold, markNs]
  | n :: l, k => by simp only [mkFold, markNs, mkFold_markN l]
theorem markNs_len : ∀ (l : List NodeT) (k : Nat), (markNs l k).1.length = l.length := fun l k => by rw [← mkFold_markN]; exact mkFold_len _ l k
theorem weqNodeS_of (l : List NodeT) (hl : l.length ≤ 70368744177664) (h : ∀ a b c k, NodeT.mk a b c k ∈ l → V weqNode [nA a b c k, nA a b c k] [] = rB true) : V weqNodeS [.d (.sl .node l), .d (.sl .node l)] [] = rB true := by
  rw [V_eq (fn := weqNodeS_m) (by kernel_rfl)]
  have L := loop_each (X := V) (c := weqNodeS_l0) l.length (fun i : Nat => ⟨[(5, i6 i), (1, .d (.sl .node l)), (0, .d (.sl .node l))], []⟩) (.ex 0, ⟨[], []⟩) (by simp)
    (fun i hi => by
      obtain ⟨a, b, c, k, hx⟩ := node_mk l[i]
      have e := h a b c k (by rw [← hx]; exact List.getElem_mem hi)
      have hg : l[i]? = some (NodeT.mk a b c k) := by rw [get_some hi, hx]
      simp -implicitDefEqProofs [weqNodeS_l0, hi, hg, hx, e, wrap_succ hi (by omega)])
    (by simp -implicitDefEqProofs [weqNodeS_l0])
  simp only [Int.natCast_zero] at L
  simp -implicitDefEqProofs [weqNodeS_m, L]
def nodeEq (n : NodeT) : Prop := match n with | .mk a b c k => V weqNode [nA a b c k, nA a b c k] [] = rB true
mutual
theorem weqNode_all : ∀ n : NodeT, szN n ≤ 70368744177664 → nodeEq n
  | .mk a b c k, h => by
    simp only [szN] at h
    have hk := weqNodes_all k (by omega)
    have e := weqNodeS_of k (by omega) (fun a b c k' hm => hk _ hm)
    show V weqNode [nA a b c k, nA a b c k] [] = rB true
    rw [V_eq (fn := weqNode_m) (by kernel_rfl)]
    simp -implicitDefEqProofs [weqNode_m, e]
theorem weqNodes_all : ∀ l : List NodeT, szNs l ≤ 70368744177664 → ∀ n ∈ l, nodeEq n
  | [], _, n, hn => by simp at hn
  | x :: l, h, n, hn => by
    simp only [szNs] at h
    rcases List.mem_cons.1 hn with e | e
    · rw [e]; exact weqNode_all x (by omega)
    · exact weqNodes_all l (by omega) n e
end
theorem weqNode_ok (a b c : List UInt8) (k : List NodeT) (h : szN (.mk a b c k) ≤ 70368744177664) : V weqNode [nA a b c k, nA a b c k] [] = rB true := weqNode_all (.mk a b c k) h
def kidsMark (n : NodeT) : Prop := match n with
  | .mk _ _ _ ks => ∀ k : Nat, (markNs ks k).2 ≤ 4611686018427387904 → V wmarkNodeS [.h 0 0 ks.length, i6 k] [.ls .node false ks 0 []] = some ([some (.ls .node false (markNs ks k).1 0 [])], .one (.fz (.i .i64 ((markNs ks k).2 : Nat))))
theorem wmarkNodeS_l (n : Nat) : ∀ (post pre : List NodeT) (k : Nat), n = pre.length + post.length → n ≤ 140737488355328 → (markNs post k).2 ≤ 4611686018427387904 → (∀ x ∈ post, kidsMark x) →
    DL V (.loop wmarkNodeS_l0) ⟨[(5, i6 pre.length), (1, i6 k), (0, .h 0 0 n)], [(0, .ls .node false (pre ++ post) 0 [])]⟩ = some (.ex 0, ⟨[(1, i6 ((markNs post k).2 : Nat))], [(0, .ls .node false (pre ++ (markNs post k).1) 0 [])]⟩)
  | [], pre, k, hn, hn2, hk, hB => by
    rw [DL_loop]
    have : n = pre.length := by simpa using hn
    subst this
    simp -implicitDefEqProofs [wmarkNodeS_l0, markNs]
  | .mk c0 c1 c2 c3 :: post, pre, k, hn, hn2, hk, hB => by
    have hlt : pre.length < n := by rw [hn]; simp
    have hw := wrap_succ hlt (by omega)
    have hB0 : ∀ k : Nat, (markNs c3 k).2 ≤ 4611686018427387904 → V wmarkNodeS [.h 0 0 c3.length, i6 k] [.ls .node false c3 0 []] = some ([some (.ls .node false (markNs c3 k).1 0 [])], .one (.fz (.i .i64 ((markNs c3 k).2 : Nat)))) := hB (.mk c0 c1 c2 c3) (by simp)
    obtain ⟨k0, hk0⟩ : ∃ k0, k + 1 = k0 := ⟨_, rfl⟩
    obtain ⟨k1, hk1⟩ : ∃ k1, k0 + 1 = k1 := ⟨_, rfl⟩
    obtain ⟨k2, hk2⟩ : ∃ k2, k1 + 1 = k2 := ⟨_, rfl⟩
    obtain ⟨k3, hk3⟩ : ∃ k3, (markNs c3 k2).2 = k3 := ⟨_, rfl⟩
    obtain ⟨q, hq⟩ : ∃ q, (markNs c3 k2).1 = q := ⟨_, rfl⟩
    have hql : q.length = c3.length := by rw [← hq]; exact markNs_len c3 k2
    have hc : markN (.mk c0 c1 c2 c3) k = (.mk (mtx k) (mtx k0) (mtx k1) q, k3) := by subst hk0 hk1 hk2 hk3 hq; simp only [markN]
    have hd : markNs (.mk c0 c1 c2 c3 :: post) k = (.mk (mtx k) (mtx k0) (mtx k1) q :: (markNs post k3).1, (markNs post k3).2) := by simp only [markNs, hc]
    rw [hd] at hk ⊢
    simp only at hk ⊢
    have y1 := markNs_le c3 k2
    have y2 := markNs_le post k3
    have e0 := wmarkText_ok k (by omega)
    have e1 := wmarkText_ok k0 (by omega)
    have e2 := wmarkText_ok k1 (by omega)
    have e3 := hB0 k2 (by omega)
    rw [hk3, hq] at e3
    have w0 : IntKind.i64.wrap ((k : Int) + 1) = (k0 : Int) := by rw [← hk0]; exact wrap_id (by omega) (by omega)
    have w1 : IntKind.i64.wrap ((k0 : Int) + 1) = (k1 : Int) := by rw [← hk1]; exact wrap_id (by omega) (by omega)
    have w2 : IntKind.i64.wrap ((k1 : Int) + 1) = (k2 : Int) := by rw [← hk2]; exact wrap_id (by omega) (by omega)
    have ih := wmarkNodeS_l n post (pre ++ [.mk (mtx k) (mtx k0) (mtx k1) q]) k3 (by simp at hn ⊢; omega) hn2 hk (fun x hx => hB x (by simp [hx]))
    simp only [List.append_assoc, List.cons_append, List.nil_append, List.length_append, List.length_cons, List.length_nil, Int.natCast_add, Int.natCast_one, Nat.zero_add] at ih
    rw [DL_loop]
    generalize DL V (.loop wmarkNodeS_l0) = G at ih ⊢
    simp -implicitDefEqProofs [wmarkNodeS_l0, hlt, hw, mid_get, mid_set, e0, e1, e2, e3, w0, w1, w2, hql]
    exact ih
theorem wmarkNodeS_of (l : List NodeT) (h1 : l.length ≤ 140737488355328) (h : ∀ x ∈ l, kidsMark x) (k : Nat) (hk : (markNs l k).2 ≤ 4611686018427387904) : V wmarkNodeS [.h 0 0 l.length, i6 k] [.ls .node false l 0 []] = some ([some (.ls .node false (markNs l k).1 0 [])], .one (.fz (.i .i64 ((markNs l k).2 : Nat)))) := by
  rw [V_eq (fn := wmarkNodeS_m) (by kernel_rfl)]
  have e := wmarkNodeS_l l.length l [] k (by simp) h1 hk h
  simp only [List.length_nil, Int.natCast_zero, List.nil_append] at e
  simp -implicitDefEqProofs [wmarkNodeS_m, e]
mutual
theorem kidsMark_all : ∀ n : NodeT, szN n ≤ 70368744177664 → kidsMark n
  | .mk a b c ks, h => by
    simp only [szN] at h
    exact wmarkNodeS_of ks (by omega) (kidsMarks_all ks (by omega))
theorem kidsMarks_all : ∀ l : List NodeT, szNs l ≤ 70368744177664 → ∀ n ∈ l, kidsMark n
  | [], _, n, hn => by simp at hn
  | x :: l, h, n, hn => by
    simp only [szNs] at h
    rcases List.mem_cons.1 hn with e | e
    · rw [e]; exact kidsMark_all x (by omega)
    · exact kidsMarks_all l (by omega) n e
end
theorem wmarkNode_ok (a b c : List UInt8) (ks : List NodeT) (h : szN (.mk a b c ks) ≤ 70368744177664) (k : Nat) (hk : (markNs ks k).2 ≤ 4611686018427387904) : V wmarkNode [.agg [.d (.s a), .d (.s b), .d (.s c), .h 0 0 ks.length], i6 k] [.ls .node false ks 0 []] = some ([some (.ls .node false (markNs ks k).1 0 [])], .one (.fz (.i .i64 ((markNs ks k).2 : Nat)))) := by
  rw [V_eq (fn := wmarkNode_m) (by kernel_rfl)]
  have e : V wmarkNodeS [.h 0 0 ks.length, i6 k] [.ls .node false ks 0 []] = _ := kidsMark_all (.mk a b c ks) h k hk
  have hl := markNs_len ks k
  simp -implicitDefEqProofs [wmarkNode_m, e, hl]
def kidsHeld (n : NodeT) : Prop := match n with
  | .mk _ _ _ ks => ∀ k : Nat, (markNs ks k).2 ≤ 4611686018427387904 → V wheldNodeS [.d (.sl .node (markNs ks k).1), i6 k] [] = some ([], .one (.fz (.i .i64 ((markNs ks k).2 : Nat))))
theorem wheldNodeS_l (l : List NodeT) (h1 : l.length ≤ 140737488355328) : ∀ (post pre : List NodeT) (k : Nat), l = pre ++ (markNs post k).1 → (markNs post k).2 ≤ 4611686018427387904 → (∀ x ∈ post, kidsHeld x) →
    DL V (.loop wheldNodeS_l0) ⟨[(5, i6 pre.length), (1, i6 k), (0, .d (.sl .node l))], []⟩ = some (.ex 0, ⟨[(1, i6 ((markNs post k).2 : Nat))], []⟩)
  | [], pre, k, hl, hk, hB => by
    rw [DL_loop]
    have : l = pre := by simpa [markNs] using hl
    subst this
    simp -implicitDefEqProofs [wheldNodeS_l0, markNs]
  | .mk c0 c1 c2 c3 :: post, pre, k, hl, hk, hB => by
    have hB0 : ∀ k : Nat, (markNs c3 k).2 ≤ 4611686018427387904 → V wheldNodeS [.d (.sl .node (markNs c3 k).1), i6 k] [] = some ([], .one (.fz (.i .i64 ((markNs c3 k).2 : Nat)))) := hB (.mk c0 c1 c2 c3) (by simp)
    obtain ⟨k0, hk0⟩ : ∃ k0, k + 1 = k0 := ⟨_, rfl⟩
    obtain ⟨k1, hk1⟩ : ∃ k1, k0 + 1 = k1 := ⟨_, rfl⟩
    obtain ⟨k2, hk2⟩ : ∃ k2, k1 + 1 = k2 := ⟨_, rfl⟩
    obtain ⟨k3, hk3⟩ : ∃ k3, (markNs c3 k2).2 = k3 := ⟨_, rfl⟩
    obtain ⟨q, hq⟩ : ∃ q, (markNs c3 k2).1 = q := ⟨_, rfl⟩
    have hc : markN (.mk c0 c1 c2 c3) k = (.mk (mtx k) (mtx k0) (mtx k1) q, k3) := by subst hk0 hk1 hk2 hk3 hq; simp only [markN]
    have hd : markNs (.mk c0 c1 c2 c3 :: post) k = (.mk (mtx k) (mtx k0) (mtx k1) q :: (markNs post k3).1, (markNs post k3).2) := by simp only [markNs, hc]
    rw [hd] at hk hl ⊢
    simp only at hk hl ⊢
    have hlt : pre.length < l.length := by rw [hl]; simp
    have hw := wrap_succ hlt (by omega)
    have hg : l[pre.length]? = some (.mk (mtx k) (mtx k0) (mtx k1) q) := by rw [hl]; exact mid_get _ _ _
    have hg2 : l[pre.length] = .mk (mtx k) (mtx k0) (mtx k1) q := (List.getElem?_eq_some_iff.1 hg).2
    have y1 := markNs_le c3 k2
    have y2 := markNs_le post k3
    have e0 := wmarkText_ok k (by omega)
    have e1 := wmarkText_ok k0 (by omega)
    have e2 := wmarkText_ok k1 (by omega)
    have e3 := hB0 k2 (by omega)
    rw [hk3, hq] at e3
    have w0 : IntKind.i64.wrap ((k : Int) + 1) = (k0 : Int) := by rw [← hk0]; exact wrap_id (by omega) (by omega)
    have w1 : IntKind.i64.wrap ((k0 : Int) + 1) = (k1 : Int) := by rw [← hk1]; exact wrap_id (by omega) (by omega)
    have w2 : IntKind.i64.wrap ((k1 : Int) + 1) = (k2 : Int) := by rw [← hk2]; exact wrap_id (by omega) (by omega)
    have ih := wheldNodeS_l l h1 post (pre ++ [.mk (mtx k) (mtx k0) (mtx k1) q]) k3 (by simp [hl]) hk (fun x hx => hB x (by simp [hx]))
    simp only [List.length_append, List.length_cons, List.length_nil, Int.natCast_add, Int.natCast_one, Nat.zero_add] at ih
    rw [DL_loop]
    generalize DL V (.loop wheldNodeS_l0) = G at ih ⊢
    simp -implicitDefEqProofs [wheldNodeS_l0, hlt, hw, hg, hg2, e0, e1, e2, e3, w0, w1, w2]
    exact ih
theorem wheldNodeS_of (l : List NodeT) (h1 : l.length ≤ 140737488355328) (h : ∀ x ∈ l, kidsHeld x) (k : Nat) (hk : (markNs l k).2 ≤ 4611686018427387904) : V wheldNodeS [.d (.sl .node (markNs l k).1), i6 k] [] = some ([], .one (.fz (.i .i64 ((markNs l k).2 : Nat)))) := by
  rw [V_eq (fn := wheldNodeS_m) (by kernel_rfl)]
  have e := wheldNodeS_l (markNs l k).1 (by rw [markNs_len]; exact h1) l [] k rfl hk h
  simp only [List.length_nil, Int.natCast_zero] at e
  simp -implicitDefEqProofs [wheldNodeS_m, e]
mutual
theorem kidsHeld_all : ∀ n : NodeT, szN n ≤ 70368744177664 → kidsHeld n
  | .mk a b c ks, h => by
    simp only [szN] at h
    exact wheldNodeS_of ks (by omega) (kidsHelds_all ks (by omega))
theorem kidsHelds_all : ∀ l : List NodeT, szNs l ≤ 70368744177664 → ∀ n ∈ l, kidsHeld n
  | [], _, n, hn => by simp at hn
  | x :: l, h, n, hn => by
    simp only [szNs] at h
    rcases List.mem_cons.1 hn with e | e
    · rw [e]; exact kidsHeld_all x (by omega)
    · exact kidsHelds_all l (by omega) n e
end
theorem wheldNode_ok (a b c : List UInt8) (ks : List NodeT) (h : szN (.mk a b c ks) ≤ 70368744177664) (k : Nat) (hk : (markNs ks k).2 ≤ 4611686018427387904) : V wheldNode [nA a b c (markNs ks k).1, i6 k] [] = some ([], .one (.fz (.i .i64 ((markNs ks k).2 : Nat)))) := by
  rw [V_eq (fn := wheldNode_m) (by kernel_rfl)]
  have e : V wheldNodeS [.d (.sl .node (markNs ks k).1), i6 k] [] = _ := kidsHeld_all (.mk a b c ks) h k hk
  simp -implicitDefEqProofs [wheldNode_m, e]
end Go.Proofs.YtfklggpopffkjaaK
