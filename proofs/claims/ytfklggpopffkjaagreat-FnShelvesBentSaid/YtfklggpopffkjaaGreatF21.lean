/- What the functions come to. -/
import Derived.Test.YtfklggpopffkjaaGreatF20
set_option linter.unusedVariables false
set_option linter.unusedSimpArgs false
namespace Go.Proofs.YtfklggpopffkjaaGreatK
open Go.RowKit
/-! What the impl and the spec come to with trees copied or moved is the same. -/
theorem isAt_iff {p q : PathD} : isAtB p q = true ↔ q <+: p := by
  unfold isAtB underB
  simp only [Bool.or_eq_true, decide_eq_true_eq, Bool.and_eq_true]
  constructor
  · rintro (rfl | ⟨_, h⟩)
    · exact List.prefix_refl _
    · rw [← h]; exact List.take_prefix _ _
  · intro h
    have hl := h.length_le
    have ht : p.take q.length = q := (List.prefix_iff_eq_take.1 h).symm
    rcases Nat.eq_or_lt_of_le hl with e | e
    · left; rw [← ht, e, List.take_length]
    · exact .inr ⟨e, ht⟩
theorem isAt_app {a : PathD} {p : PathD} (h : isAtB p a = true) : p = a ++ p.drop a.length := by
  obtain ⟨s, rfl⟩ := isAt_iff.1 h
  simp
theorem moved_at (a b : PathD) (v : Int) (r : ResD) : isAtB (movedB a b v r).1 b = true := isAt_iff.2 (List.prefix_append _ _)
theorem moved_not {a b : PathD} (v : Int) (r : ResD) (h1 : isAtB a b = false) (h2 : isAtB b a = false) : isAtB (movedB a b v r).1 a = false := by
  refine Bool.eq_false_iff.2 fun h => ?_
  have ha := isAt_iff.1 h
  have hb : b <+: (movedB a b v r).1 := List.prefix_append _ _
  rcases Nat.le_total a.length b.length with hl | hl
  · have := isAt_iff.2 (List.prefix_of_prefix_length_le ha hb hl)
    rw [h2] at this; cases this
  · have := isAt_iff.2 (List.prefix_of_prefix_length_le hb ha hl)
    rw [h1] at this; cases this
theorem moved_inj {a b : PathD} {v : Int} {r q : ResD} (hr : isAtB r.1 a = true) (hq : isAtB q.1 a = true) (h : (movedB a b v r).1 = (movedB a b v q).1) : r.1 = q.1 := by
  rw [isAt_app hr, isAt_app hq]
  unfold movedB at h
  rw [List.append_cancel_left h]
theorem treeB_path {t : TreeD} (h : treeB t = true) {r : ResD} (hr : r ∈ t) : pathB r.1 = true := by
  unfold treeB at h
  rw [Bool.and_eq_true] at h
  have h := eachB_iff.1 h.1
  obtain ⟨i, hi, rfl⟩ := List.getElem_of_mem hr
  have := h i hi
  simp only [Bool.and_eq_true] at this
  have := this.1.1
  unfold resB at this
  simp only [Bool.and_eq_true] at this
  exact this.1.1.1.1.2
theorem moved_path {a b : PathD} (v : Int) {r : ResD} (hb : pathB b = true) (hr : pathB r.1 = true) : pathB (movedB a b v r).1 = decide (b.length + (r.1.length - a.length) ≤ 4) := by
  unfold pathB at hb hr ⊢
  simp only [Bool.and_eq_true] at hb hr
  have : (movedB a b v r).1.all nameB = true := by
    unfold movedB
    simp only
    rw [List.all_append, hb.1, Bool.true_and]
    rw [List.all_eq_true] at hr ⊢
    exact fun x hx => hr.1 x (List.mem_of_mem_drop hx)
  rw [this, Bool.true_and]
  congr 1
  unfold movedB
  simp
abbrev withM (a b : PathD) (v : Int) (s : TreeD) (r : ResD) : TreeD := withB s (movedB a b v r)
theorem goM_all {S α : Type} {f : S → α → Option S} {g : S → α → S} : ∀ (l : List α), (∀ x ∈ l, ∀ s, f s x = some (g s x)) → ∀ s, goM f s l = some (l.foldl g s)
  | [], _, s => rfl
  | x :: l, h, s => by
    simp only [goM, h x (by simp) s, Option.bind_some, List.foldl_cons]
    exact goM_all l (fun y hy => h y (by simp [hy])) _
theorem goM_one {S α : Type} {f : S → α → Option S} : ∀ (l : List α), (∃ x ∈ l, ∀ s, f s x = none) → ∀ s, goM f s l = none
  | [], h, s => by obtain ⟨x, hx, _⟩ := h; cases hx
  | y :: l, h, s => by
    obtain ⟨x, hx, hn⟩ := h
    simp only [goM]
    rcases List.mem_cons.1 hx with rfl | hx
    · rw [hn]; rfl
    · cases hf : f s y with
      | none => rfl
      | some s' => exact goM_one l ⟨x, hx, hn⟩ s'
theorem withB_mem {s : TreeD} {x q : ResD} : q ∈ withB s x ↔ q = x ∨ q ∈ s := by
  unfold withB
  have e : s = s.takeWhile (lessAt x) ++ s.dropWhile (lessAt x) := List.takeWhile_append_dropWhile.symm
  constructor
  · intro h
    rcases List.mem_append.1 h with h | h
    · exact .inr (by rw [e]; exact List.mem_append_left _ h)
    · rcases List.mem_cons.1 h with h | h
      · exact .inl h
      · exact .inr (by rw [e]; exact List.mem_append_right _ h)
  · rintro (rfl | h)
    · exact List.mem_append_right _ (by simp)
    · rw [e] at h
      rcases List.mem_append.1 h with h | h
      · exact List.mem_append_left _ h
      · exact List.mem_append_right _ (by simp [h])
theorem withB_len (s : TreeD) (x : ResD) : (withB s x).length = s.length + 1 := by
  have e : (s.takeWhile (lessAt x) ++ s.dropWhile (lessAt x)).length = s.length := by rw [List.takeWhile_append_dropWhile]
  unfold withB
  rw [List.length_append] at e ⊢
  rw [List.length_cons]; omega
theorem foldW_len (a b : PathD) (v : Int) : ∀ (l s : TreeD), (l.foldl (withM a b v) s).length = s.length + l.length
  | [], s => rfl
  | r :: l, s => by rw [List.foldl_cons, foldW_len a b v l, withB_len, List.length_cons]; omega
/-- New paths: put in is put with. -/
theorem fold_new (a b : PathD) (v : Int) : ∀ (l s : TreeD), (∀ q ∈ s, ∀ r ∈ l, q.1 ≠ (movedB a b v r).1) → l.Pairwise (fun x y => (movedB a b v x).1 ≠ (movedB a b v y).1) → l.foldl (farG a b v) s = l.foldl (withM a b v) s
  | [], _, _, _ => rfl
  | r :: l, s, h, hp => by
    have e : farG a b v s r = withM a b v s r := putIn_new (fun q hq => h q hq r (by simp))
    rw [List.foldl_cons, List.foldl_cons, e]
    have hp' := List.pairwise_cons.1 hp
    refine fold_new a b v l _ (fun q hq x hx => ?_) hp'.2
    rcases withB_mem.1 hq with rfl | hq
    · exact hp'.1 x hx
    · exact h q hq x (by simp [hx])
theorem Ord.pair : ∀ {t : TreeD}, Ord t → t.Pairwise (fun x y => x.1 ≠ y.1)
  | [], _ => .nil
  | r :: t, h => List.pairwise_cons.2 ⟨fun q hq e => (by have := h.1 q hq; rw [e, less_irrefl] at this; cases this), Ord.pair h.2⟩
theorem moved_pair {a b : PathD} {v : Int} : ∀ {l : TreeD}, (∀ r ∈ l, isAtB r.1 a = true) → l.Pairwise (fun x y => x.1 ≠ y.1) → l.Pairwise (fun x y => (movedB a b v x).1 ≠ (movedB a b v y).1)
  | [], _, _ => .nil
  | r :: l, h, hp => by
    have hp' := List.pairwise_cons.1 hp
    exact List.pairwise_cons.2 ⟨fun q hq e => hp'.1 q hq (moved_inj (h r (by simp)) (h q (by simp [hq])) e), moved_pair (fun x hx => h x (by simp [hx])) hp'.2⟩
/-- What goes, goes ahead or behind. -/
theorem filter_with {s : TreeD} {x : ResD} {q : ResD → Bool} (ho : Ord s) (hn : ∀ r ∈ s, r.1 ≠ x.1) (hx : q x = true) : (withB s x).filter q = withB (s.filter q) x := by
  induction s with
  | nil => unfold withB; simp [hx]
  | cons r s ih =>
    have hn' : ∀ r ∈ s, r.1 ≠ x.1 := fun y hy => hn y (by simp [hy])
    cases hl : lessAt x r with
    | true =>
      have e1 : withB (r :: s) x = r :: withB s x := by unfold withB; rw [List.takeWhile_cons, List.dropWhile_cons, hl]; rfl
      rw [e1, List.filter_cons, List.filter_cons, ih ho.2 hn']
      split
      · unfold withB; rw [List.takeWhile_cons, List.dropWhile_cons, hl]; rfl
      · rfl
    | false =>
      have e1 : withB (r :: s) x = x :: r :: s := by unfold withB; rw [List.takeWhile_cons, List.dropWhile_cons, hl]; rfl
      rw [e1, List.filter_cons, if_pos hx]
      -- all behind are above x
      have hr : lessPathB x.1 r.1 = true := by
        rcases less_tri x.1 r.1 with e | e | e
        · exact absurd e.symm (hn r (by simp))
        · exact e
        · unfold lessAt at hl; rw [hl] at e; cases e
      have hall : ∀ y ∈ (r :: s).filter q, lessAt x y = false := fun y hy => by
        have hy := (List.mem_filter.1 hy).1
        unfold lessAt
        rcases List.mem_cons.1 hy with rfl | hy
        · exact less_asymm hr
        · exact less_asymm (less_trans hr (ho.1 y hy))
      cases hf : (r :: s).filter q with
      | nil => rfl
      | cons y l =>
        have := hall y (by rw [hf]; simp)
        unfold withB
        rw [List.takeWhile_cons, List.dropWhile_cons, this]; rfl
theorem withB_ord {x : ResD} : ∀ {s : TreeD}, Ord s → (∀ r ∈ s, r.1 ≠ x.1) → Ord (withB s x)
  | [], _, _ => ⟨by simp, trivial⟩
  | r :: s, ho, hn => by
    have hn' : ∀ r ∈ s, r.1 ≠ x.1 := fun y hy => hn y (by simp [hy])
    cases hl : lessAt x r with
    | true =>
      have e1 : withB (r :: s) x = r :: withB s x := by unfold withB; rw [List.takeWhile_cons, List.dropWhile_cons, hl]; rfl
      rw [e1]
      refine ⟨fun q hq => ?_, withB_ord ho.2 hn'⟩
      rcases withB_mem.1 hq with rfl | hq
      · exact hl
      · exact ho.1 q hq
    | false =>
      have e1 : withB (r :: s) x = x :: r :: s := by unfold withB; rw [List.takeWhile_cons, List.dropWhile_cons, hl]; rfl
      rw [e1]
      have hr : lessPathB x.1 r.1 = true := by
        rcases less_tri x.1 r.1 with e | e | e
        · exact absurd e.symm (hn r (by simp))
        · exact e
        · unfold lessAt at hl; rw [hl] at e; cases e
      refine ⟨fun q hq => ?_, ho⟩
      rcases List.mem_cons.1 hq with rfl | hq
      · exact hr
      · exact less_trans hr (ho.1 q hq)
theorem fold_filter (a b : PathD) (v : Int) (h1 : isAtB a b = false) (h2 : isAtB b a = false) : ∀ (l s : TreeD), Ord s → (∀ q ∈ s, ∀ r ∈ l, q.1 ≠ (movedB a b v r).1) → l.Pairwise (fun x y => (movedB a b v x).1 ≠ (movedB a b v y).1) →
    withoutB (l.foldl (withM a b v) s) a = l.foldl (withM a b v) (withoutB s a)
  | [], _, _, _, _ => rfl
  | r :: l, s, ho, h, hp => by
    have hp' := List.pairwise_cons.1 hp
    have hn : ∀ q ∈ s, q.1 ≠ (movedB a b v r).1 := fun q hq => h q hq r (by simp)
    rw [List.foldl_cons, List.foldl_cons, fold_filter a b v h1 h2 l _ (withB_ord ho hn) (fun q hq x hx => by
      rcases withB_mem.1 hq with rfl | hq
      · exact hp'.1 x hx
      · exact h q hq x (by simp [hx])) hp'.2]
    congr 1
    exact filter_with ho hn (by rw [moved_not v r h1 h2]; rfl)
theorem formB_ok {t : TreeD} {v : Int} {a b : PathD} (h : formB t v [a, b] = 0) : treeB t = true ∧ pathB a = true ∧ pathB b = true := by
  unfold formB at h
  rw [show [a, b].all pathB = (pathB a && pathB b) by simp] at h
  revert h
  cases treeB t <;> cases pathB a <;> cases pathB b <;> cases (decide (0 ≤ v) && decide (v ≤ 99999)) <;> simp
theorem farR_cases (t : TreeD) (a b : PathD) (over : Bool) : farR t a b over = 0 ∨ 400 ≤ farR t a b over := by
  unfold farR
  split
  · right; omega
  · split
    · right; omega
    · split
      · right; omega
      · split
        · left; rfl
        · right; omega
theorem farR_at {t : TreeD} {a b : PathD} {over : Bool} (h : farR t a b over = 0) : isAtB a b = false ∧ isAtB b a = false := by
  unfold farR at h
  split at h
  · omega
  · split at h
    · omega
    · rename_i h2
      constructor
      · exact Bool.eq_false_iff.2 fun e => h2 (.inr (.inl e))
      · exact Bool.eq_false_iff.2 fun e => h2 (.inr (.inr e))
/-- What copied gives where nothing stands against it. -/
theorem copied_far {t : TreeD} {a b : PathD} {over : Bool} {v : Int} (hf : formB t v [a, b] = 0) (hr : farR t a b over = 0) :
    copiedB t a b over v = if longB (deepB t a) a b = true then ([], 409) else ((deepB t a).foldl (withM a b v) (withoutB t b), if 0 ≤ findB t b then 204 else 201) := by
  obtain ⟨ht, ha, hb⟩ := formB_ok hf
  have hmem : ∀ r ∈ deepB t a, pathB r.1 = true ∧ a.length ≤ r.1.length := fun r hr => ⟨treeB_path ht (List.mem_filter.1 hr).1, isAt_len (List.mem_filter.1 hr).2⟩
  unfold copiedB
  rw [if_neg (by rw [hr]; simp)]
  cases hl : longB (deepB t a) a b with
  | true =>
    unfold longB at hl
    obtain ⟨r, hr, h4⟩ := List.any_eq_true.1 hl
    rw [goM_one (deepB t a) ⟨r, hr, fun s => by
      unfold copyF
      rw [moved_path v hb (hmem r hr).1]
      have := (hmem r hr).2
      rw [decide_eq_true_eq] at h4
      rw [decide_eq_false (by omega)]
      simp⟩]
    simp
  | false =>
    unfold longB at hl
    rw [goM_all (g := withM a b v) (deepB t a) (fun r hr s => by
      unfold copyF
      rw [moved_path v hb (hmem r hr).1]
      have h4 := List.any_eq_false.1 hl r hr
      have := (hmem r hr).2
      rw [decide_eq_true_eq] at h4
      rw [decide_eq_true (by omega)]
      simp)]
    simp
theorem code_big (t : TreeD) (b : PathD) : ((if 0 ≤ findB t b then 204 else 201 : Int) < 400) := by split <;> omega
theorem far_facts {t : TreeD} {a b : PathD} {v : Int} (ht : treeB t = true) : (∀ q ∈ withoutB t b, ∀ r ∈ deepB t a, q.1 ≠ (movedB a b v r).1) ∧ (deepB t a).Pairwise (fun x y => (movedB a b v x).1 ≠ (movedB a b v y).1) ∧ Ord (withoutB t b) := by
  refine ⟨fun q hq r _ e => ?_, moved_pair (fun r hr => (List.mem_filter.1 hr).2) (Ord.pair ((treeB_ord ht).filter _)), (treeB_ord ht).filter _⟩
  have h1 := (List.mem_filter.1 hq).2
  rw [e, moved_at] at h1; cases h1
theorem copy_eq (t : TreeD) (a b : PathD) (over : Bool) (v : Int) : copyTreeI t a b over v = farS t a b over v false := by
  unfold copyTreeI farS farC
  by_cases hf : formB t v [a, b] = 0
  · have ht := (formB_ok hf).1
    obtain ⟨f1, f2, f3⟩ := far_facts (t := t) (a := a) (b := b) (v := v) ht
    simp only [hf, ne_eq, not_true, if_false]
    by_cases hr : farR t a b over = 0
    · rw [copied_far hf hr]
      simp only [hr, not_true, if_false]
      have hc := code_big t b
      cases hl : longB (deepB t a) a b with
      | true => simp
      | false =>
        simp only [Bool.false_eq_true, if_false]
        rw [show restB' t a b false = withoutB t b from rfl, fold_new a b v _ _ f1 f2, foldW_len]
        generalize (if 0 ≤ findB t b then 204 else 201 : Int) = c at hc ⊢
        by_cases h12 : 12 < (withoutB t b).length + (deepB t a).length
        · simp [h12, hc]
        · rw [if_neg (by omega), if_neg (by omega)]
          simp [h12]
    · have hb := (farR_cases t a b over).resolve_left hr
      have hcop : copiedB t a b over v = ([], farR t a b over) := by unfold copiedB; rw [if_pos hr]
      rw [hcop]
      simp only [hr, not_false_eq_true, if_true]
      simp only [show ¬ (farR t a b over < 400) from by omega, false_and, if_false, hb, if_true]
  · simp only [hf, ne_eq, not_false_eq_true, if_true]
theorem move_eq (t : TreeD) (a b : PathD) (over : Bool) (v : Int) : moveTreeI t a b over v = farS t a b over v true := by
  unfold moveTreeI farS farC
  by_cases hf : formB t v [a, b] = 0
  · have ht := (formB_ok hf).1
    obtain ⟨f1, f2, f3⟩ := far_facts (t := t) (a := a) (b := b) (v := v) ht
    simp only [hf, ne_eq, not_true, if_false]
    by_cases hr : farR t a b over = 0
    · obtain ⟨g1, g2⟩ := farR_at hr
      rw [copied_far hf hr]
      simp only [hr, not_true, if_false]
      have hc := code_big t b
      cases hl : longB (deepB t a) a b with
      | true => simp
      | false =>
        simp only [Bool.false_eq_true, if_false]
        have f4 : ∀ q ∈ withoutB (withoutB t b) a, ∀ r ∈ deepB t a, q.1 ≠ (movedB a b v r).1 := fun q hq => f1 q (List.mem_filter.1 hq).1
        rw [show restB' t a b true = withoutB (withoutB t b) a from rfl, fold_new a b v _ _ f4 f2, fold_filter a b v g1 g2 _ _ f3 f1 f2, foldW_len]
        generalize (if 0 ≤ findB t b then 204 else 201 : Int) = c at hc ⊢
        rw [if_neg (by omega)]
        by_cases h12 : 12 < (withoutB (withoutB t b) a).length + (deepB t a).length
        · simp [h12]
        · simp [h12]
    · have hb := (farR_cases t a b over).resolve_left hr
      have hcop : copiedB t a b over v = ([], farR t a b over) := by unfold copiedB; rw [if_pos hr]
      rw [hcop]
      simp only [hr, not_false_eq_true, if_true]
      rw [if_pos hb]
  · simp only [hf, ne_eq, not_false_eq_true, if_true]
theorem sl11Ver_x (c : CurT) (h : CurP c) : ∃ (c' : CurT) (n : Int), CurP c' ∧ V sl11Ver [.p 0 0 0] [curO c] = some ([some (curO c')], .one (.fz (.i .i64 n))) := by
  rw [V_eq (fn := sl11Ver_m) (by kernel_rfl)]
  obtain ⟨c1, n, h1, _, e1⟩ := sl1Int_x c h [5, 6, 7, 99999, 100000, -1] (by simp) (by simp)
  exact ⟨c1, n, h1, by simp -implicitDefEqProofs [sl11Ver_m, e1]⟩
theorem sDrawCopyTree_x (l : List UInt8) (h : l.length ≤ 1048576) : ∃ (t : TreeD) (a b : PathD) (over : Bool) (v : Int), (szT (.sl TRes) t ≤ 130000000 ∧ szT (.sl .str) a ≤ 131000000 ∧ szT (.sl .str) b ≤ 131000000) ∧
    V sDrawCopyTree [.d (.sl .u8 l)] [] = some ([], .tup [.one (.own (.sl TRes t)), .one (.own (.sl .str a)), .one (.own (.sl .str b)), .one (.fz (.b over)), .one (.fz (.i .i64 v))]) := by
  rw [V_eq (fn := sDrawCopyTree_m) (by kernel_rfl)]
  obtain ⟨c1, h1, e1⟩ := sl1New_x l h
  obtain ⟨c2, t, h2, ht, e2⟩ := sl10Any_x c1 h1
  obtain ⟨c3, a, h3, ha, e3⟩ := sl10Path_x c2 h2 t (by omega)
  obtain ⟨c4, b, h4, hb, e4⟩ := sl10Path_x c3 h3 t (by omega)
  obtain ⟨c5, q, h5, e5⟩ := sl1Once_x c4 h4 10
  cases q with
  | true =>
    obtain ⟨c6, b', h6, hb', e6⟩ := sl2Any_x c5 h5
    obtain ⟨c7, o, h7, e7⟩ := sl1Once_x c6 h6 2
    obtain ⟨c8, v, h8, e8⟩ := sl11Ver_x c7 h7
    exact ⟨t, a, b', o, v, ⟨ht, by omega, by omega⟩, by simp -implicitDefEqProofs [sDrawCopyTree_m, e1, e2, e3, e4, e5, e6, e7, e8]⟩
  | false =>
    obtain ⟨c7, o, h7, e7⟩ := sl1Once_x c5 h5 2
    obtain ⟨c8, v, h8, e8⟩ := sl11Ver_x c7 h7
    exact ⟨t, a, b, o, v, ⟨ht, by omega, by omega⟩, by simp -implicitDefEqProofs [sDrawCopyTree_m, e1, e2, e3, e4, e5, e7, e8]⟩
theorem sDrawPutFile_x (l : List UInt8) (h : l.length ≤ 1048576) : ∃ (t : TreeD) (a : PathD) (s : List UInt8) (v : Int), (szT (.sl TRes) t ≤ 130000000 ∧ szT (.sl .str) a ≤ 131000000 ∧ s.length ≤ 1000) ∧
    V sDrawPutFile [.d (.sl .u8 l)] [] = some ([], .tup [.one (.own (.sl TRes t)), .one (.own (.sl .str a)), .one (.fz (.s s)), .one (.fz (.i .i64 v))]) := by
  rw [V_eq (fn := sDrawPutFile_m) (by kernel_rfl)]
  obtain ⟨c1, h1, e1⟩ := sl1New_x l h
  obtain ⟨c2, t, h2, ht, e2⟩ := sl10Any_x c1 h1
  obtain ⟨c3, a, h3, ha, e3⟩ := sl10Path_x c2 h2 t (by omega)
  obtain ⟨c4, q, h4, e4⟩ := sl1Once_x c3 h3 8
  have rest : ∀ c4 : CurT, CurP c4 → ∃ (c5 c6 : CurT) (s : List UInt8) (q2 : Bool), CurP c6 ∧ s.length ≤ 100 ∧ V sl1Str [.p 0 0 0, .d (.sl .str [[], [121], [119, 111, 114, 108, 100]])] [curO c4] = some ([some (curO c5)], .one (.fz (.s s))) ∧ V sl1Once [.p 0 0 0, i6 12] [curO c5] = some ([some (curO c6)], .one (.fz (.b q2))) := by
    intro c4 h4
    obtain ⟨c5, s, h5, hs, e5⟩ := sl1Str_x c4 h4 [[], [121], [119, 111, 114, 108, 100]] (by simp) (by simp)
    have hs' : s.length ≤ 100 := (by decide : ∀ s ∈ ([[], [121], [119, 111, 114, 108, 100]] : List (List UInt8)), s.length ≤ 100) s hs
    obtain ⟨c6, q2, h6, e6⟩ := sl1Once_x c5 h5 12
    exact ⟨c5, c6, s, q2, h6, hs', e5, e6⟩
  cases q with
  | true =>
    obtain ⟨c4', a', h4', ha', e4'⟩ := sl2Any_x c4 h4
    obtain ⟨c5, c6, s, q2, h6, hs, e5, e6⟩ := rest c4' h4'
    cases q2 with
    | true =>
      obtain ⟨c7, n, h7, ⟨n1, n2⟩, e7⟩ := sl1Below_x c6 h6 2
      obtain ⟨j, rfl⟩ := Int.eq_ofNat_of_zero_le n1
      have hj : j < 2 := by have := n2 (by omega); omega
      obtain ⟨c8, v, h8, e8⟩ := sl11Ver_x c7 h7
      refine ⟨t, a', List.replicate (200 + j) 0, v, ⟨ht, by omega, by rw [List.length_replicate]; omega⟩, ?_⟩
      simp -implicitDefEqProofs [sDrawPutFile_m, e1, e2, e3, e4, e4', e5, e6, e7, e8, (wrI (by omega) (by omega) : IntKind.i64.wrap (200 + (j : Int)) = 200 + (j : Int)), (by omega : ((200 : Int) + (j : Int)).toNat = 200 + j)]
      omega
    | false =>
      obtain ⟨c8, v, h8, e8⟩ := sl11Ver_x c6 h6
      exact ⟨t, a', s, v, ⟨ht, by omega, by omega⟩, by simp -implicitDefEqProofs [sDrawPutFile_m, e1, e2, e3, e4, e4', e5, e6, e8]⟩
  | false =>
    obtain ⟨c5, c6, s, q2, h6, hs, e5, e6⟩ := rest c4 h4
    cases q2 with
    | true =>
      obtain ⟨c7, n, h7, ⟨n1, n2⟩, e7⟩ := sl1Below_x c6 h6 2
      obtain ⟨j, rfl⟩ := Int.eq_ofNat_of_zero_le n1
      have hj : j < 2 := by have := n2 (by omega); omega
      obtain ⟨c8, v, h8, e8⟩ := sl11Ver_x c7 h7
      refine ⟨t, a, List.replicate (200 + j) 0, v, ⟨ht, by omega, by rw [List.length_replicate]; omega⟩, ?_⟩
      simp -implicitDefEqProofs [sDrawPutFile_m, e1, e2, e3, e4, e5, e6, e7, e8, (wrI (by omega) (by omega) : IntKind.i64.wrap (200 + (j : Int)) = 200 + (j : Int)), (by omega : ((200 : Int) + (j : Int)).toNat = 200 + j)]
      omega
    | false =>
      obtain ⟨c8, v, h8, e8⟩ := sl11Ver_x c6 h6
      exact ⟨t, a, s, v, ⟨ht, by omega, by omega⟩, by simp -implicitDefEqProofs [sDrawPutFile_m, e1, e2, e3, e4, e5, e6, e8]⟩
theorem sDrawMakeColl_x (l : List UInt8) (h : l.length ≤ 1048576) : ∃ (t : TreeD) (a : PathD) (v : Int), (szT (.sl TRes) t ≤ 130000000 ∧ szT (.sl .str) a ≤ 131000000) ∧
    V sDrawMakeColl [.d (.sl .u8 l)] [] = some ([], .tup [.one (.own (.sl TRes t)), .one (.own (.sl .str a)), .one (.fz (.i .i64 v))]) := by
  rw [V_eq (fn := sDrawMakeColl_m) (by kernel_rfl)]
  obtain ⟨c1, h1, e1⟩ := sl1New_x l h
  obtain ⟨c2, t, h2, ht, e2⟩ := sl10Any_x c1 h1
  obtain ⟨c3, a, h3, ha, e3⟩ := sl10Path_x c2 h2 t (by omega)
  obtain ⟨c4, q, h4, e4⟩ := sl1Once_x c3 h3 8
  cases q with
  | true =>
    obtain ⟨c5, a', h5, ha', e5⟩ := sl2Any_x c4 h4
    obtain ⟨c6, v, h6, e6⟩ := sl11Ver_x c5 h5
    exact ⟨t, a', v, ⟨ht, by omega⟩, by simp -implicitDefEqProofs [sDrawMakeColl_m, e1, e2, e3, e4, e5, e6]⟩
  | false =>
    obtain ⟨c6, v, h6, e6⟩ := sl11Ver_x c4 h4
    exact ⟨t, a, v, ⟨ht, by omega⟩, by simp -implicitDefEqProofs [sDrawMakeColl_m, e1, e2, e3, e4, e6]⟩
theorem sDrawRemove_x (l : List UInt8) (h : l.length ≤ 1048576) : ∃ (t : TreeD) (a : PathD), (szT (.sl TRes) t ≤ 130000000 ∧ szT (.sl .str) a ≤ 131000000) ∧
    V sDrawRemove [.d (.sl .u8 l)] [] = some ([], .tup [.one (.own (.sl TRes t)), .one (.own (.sl .str a))]) := by
  rw [V_eq (fn := sDrawRemove_m) (by kernel_rfl)]
  obtain ⟨c1, h1, e1⟩ := sl1New_x l h
  obtain ⟨c2, t, h2, ht, e2⟩ := sl10Any_x c1 h1
  obtain ⟨c3, q, h3, e3⟩ := sl1Once_x c2 h2 8
  cases q with
  | true =>
    obtain ⟨c5, a', h5, ha', e5⟩ := sl2Any_x c3 h3
    exact ⟨t, a', ⟨ht, by omega⟩, by simp -implicitDefEqProofs [sDrawRemove_m, e1, e2, e3, e5]⟩
  | false =>
    obtain ⟨c5, a, h5, ha, e5⟩ := sl10Path_x c3 h3 t (by omega)
    exact ⟨t, a, ⟨ht, by omega⟩, by simp -implicitDefEqProofs [sDrawRemove_m, e1, e2, e3, e5]⟩
def wideN (t : TreeD) : Nat := (t.map fun r => r.2.2.1.length).sum
theorem wideN_snoc (l : TreeD) (r : ResD) : wideN (l ++ [r]) = wideN l + r.2.2.1.length := by simp [wideN]
theorem wideN_le : ∀ t : TreeD, wideN t ≤ szT (.sl TRes) t
  | [] => by simp [wideN]
  | r :: t => by
    have ih := wideN_le t
    have h1 := szRes r
    have h2 : szT (.sl TRes) (r :: t) = szT (.sl TRes) t + (szT TRes r + 1) := by
      have : szL TRes (r :: t) = szT TRes r + szL TRes t := by simp [szL]
      rw [szT_slE, szT_slE, List.length_cons]; omega
    have h3 : wideN (r :: t) = r.2.2.1.length + wideN t := by simp [wideN]
    omega
theorem iWide_ok (t : TreeD) (ht : szT (.sl TRes) t ≤ 1099511627776) : V iWide [.d (.sl TRes t)] [] = rI (wideN t) := by
  rw [V_eq (fn := iWide_m) (by kernel_rfl)]
  have hl := szLen (t := TRes) (l := t)
  have L := loop_each (X := V) (c := iWide_l0) t.length (fun i : Nat => ⟨[(8, i6 i), (7, i6 t.length), (6, .d (.sl TRes t)), (3, i6 (wideN (t.take i)))], []⟩) (.ex 0, ⟨[(3, i6 (wideN t))], []⟩) (by simp)
    (fun i hi => by
      have h1 := wideN_le (t.take i)
      have h2 := szTake' (t := TRes) (l := t) (i := i)
      have h3 := szG (t := TRes) hi
      have h4 := szRes t[i]
      rw [take_snoc hi, wideN_snoc]
      generalize wideN (t.take i) = n at h1 ⊢
      simp -implicitDefEqProofs [iWide_l0, hi, get_some hi, wrap_succ hi (by omega), (wrI (by omega) (by omega) : IntKind.i64.wrap ((n : Int) + (t[i].2.2.1.length : Int)) = (n : Int) + (t[i].2.2.1.length : Int))])
    (by rw [List.take_length]; simp -implicitDefEqProofs [iWide_l0])
  simp only [Int.natCast_zero, List.take_zero, show wideN [] = 0 from rfl] at L
  simp -implicitDefEqProofs [iWide_m, L]
theorem sWide_ok (t : TreeD) (ht : szT (.sl TRes) t ≤ 1099511627776) : V sWide [.d (.sl TRes t)] [] = rI (wideN t) := by
  rw [V_eq (fn := sWide_m) (by kernel_rfl)]
  have hl := szLen (t := TRes) (l := t)
  have L := loop_each (X := V) (c := sWide_l0) t.length (fun i : Nat => ⟨[(4, i6 i), (3, i6 (wideN (t.take i))), (0, .d (.sl TRes t))], []⟩) (.ex 0, ⟨[(3, i6 (wideN t))], []⟩) (by simp)
    (fun i hi => by
      have h1 := wideN_le (t.take i)
      have h2 := szTake' (t := TRes) (l := t) (i := i)
      have h3 := szG (t := TRes) hi
      have h4 := szRes t[i]
      rw [take_snoc hi, wideN_snoc]
      generalize wideN (t.take i) = n at h1 ⊢
      simp -implicitDefEqProofs [sWide_l0, hi, get_some hi, wrap_succ hi (by omega), (wrI (by omega) (by omega) : IntKind.i64.wrap ((n : Int) + (t[i].2.2.1.length : Int)) = (n : Int) + (t[i].2.2.1.length : Int))])
    (by rw [List.take_length]; simp -implicitDefEqProofs [sWide_l0])
  simp only [Int.natCast_zero, List.take_zero, show wideN [] = 0 from rfl] at L
  simp -implicitDefEqProofs [sWide_m, L]
theorem wbig_ok (l : List UInt8) : V wbig [.d (.sl .u8 l)] [] = rB (decide (1048576 < l.length)) := by
  rw [V_eq (fn := wbig_m) (by kernel_rfl)]
  by_cases hb : 1048576 < l.length
  · simp -implicitDefEqProofs [wbig_m, hb, (eq_true (by omega) : ((1048576 : Int) < (l.length : Int)) = True)]
  · simp -implicitDefEqProofs [wbig_m, hb, (eq_false (by omega) : ((1048576 : Int) < (l.length : Int)) = False)]
end Go.Proofs.YtfklggpopffkjaaGreatK
