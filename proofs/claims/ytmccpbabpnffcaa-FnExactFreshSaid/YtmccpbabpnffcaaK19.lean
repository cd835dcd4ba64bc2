/- Regions whose order is drawn: quiet instructions change places. -/
import Derived.Test.YtmccpbabpnffcaaK18
set_option linter.unusedVariables false
set_option linter.unusedSimpArgs false
namespace Go.Proofs.YtmccpbabpnffcaaK
open Go.RowKit

theorem kput_comm {α : Type} (l : List (Nat × α)) {a b : Nat} (u v : α) (h : a ≠ b) : kput (kput l a u) b v = kput (kput l b v) a u := by
  induction l with
  | nil =>
    by_cases h1 : a < b
    · simp [kput, h1, h, Ne.symm h, Nat.lt_asymm h1]
    · have h2 : b < a := by omega
      simp [kput, h1, h2, h, Ne.symm h]
  | cons q l ih =>
    obtain ⟨c, x⟩ := q
    by_cases h1 : a = c
    · subst h1
      have h0 : ¬ b = a := fun e => h e.symm
      by_cases h2 : a < b
      · have h3 : ¬ b < a := by omega
        simp [kput, h0, h2, h3, h]
      · simp [kput, h0, h2]
    · by_cases h2 : b = c
      · subst h2
        by_cases h3 : b < a
        · have h4 : ¬ a < b := by omega
          simp [kput, h1, h3, h4, h, Ne.symm h]
        · simp [kput, h1, h3]
      · by_cases h3 : c < a <;> by_cases h4 : c < b
        · by_cases h5 : a < b
          · have h6 : ¬ b < a := by omega
            simp [kput, h1, h2, h3, h4, h5, h6, h, Ne.symm h]
          · have h6 : b < a := by omega
            simp [kput, h1, h2, h3, h4, h5, h6, h, Ne.symm h]
        · have h6 : ¬ a < b := by omega
          simp [kput, h1, h2, h3, h4, h6, h, Ne.symm h]
        · have h6 : ¬ b < a := by omega
          simp [kput, h1, h2, h3, h4, h6, h, Ne.symm h]
        · simp [kput, h1, h2, h3, h4, ih]

theorem St.set_comm (σ : St) {a b : Nat} (u v : AV) (h : a ≠ b) : (σ.set a u).set b v = (σ.set b v).set a u := by
  simp only [St.set, kput_comm σ.regs u v h]
theorem St.reg_set (σ : St) {t d : Nat} (v : AV) (h : t ≠ d) : (σ.set d v).reg t = σ.reg t := by
  simp only [St.reg, St.set, klook_kput_ne _ _ h]

def oreads : O → List Nat
  | .t n => [n]
  | .c _ => []
def osreads (l : List O) : List Nat := l.flatMap oreads
def ooreads : Option O → List Nat
  | some o => oreads o
  | none => []
/-- A quiet instruction: what it writes, what it reads. -/
def qform : I → Option (Nat × List Nat)
  | .mv d x => some (d, oreads x)
  | .pick d c a b => some (d, oreads c ++ oreads a ++ oreads b)
  | .bd d _ ps => some (d, osreads (ps.map fun q => q.2.2))
  | .ld d _ _ p => some (d, oreads p)
  | .fa d p _ => some (d, oreads p)
  | .fd d x _ _ _ => some (d, oreads x)
  | .ia d _ x i => some (d, oreads x ++ oreads i)
  | .ix d x i => some (d, oreads x ++ oreads i)
  | .len d x => some (d, oreads x)
  | .lns d x => some (d, oreads x)
  | .bin d _ _ x y => some (d, oreads x ++ oreads y)
  | .not d x => some (d, oreads x)
  | .neg d x => some (d, oreads x)
  | .cvi d _ x => some (d, oreads x)
  | .b2s d x => some (d, oreads x)
  | .slc d _ x lo hi => some (d, oreads x ++ ooreads lo ++ ooreads hi)
  | .ext d x _ => some (d, oreads x)
  | .nchk d x => some (d, oreads x)
  | .mkf d _ caps => some (d, osreads caps)
  | .call d own f args => if own then none else some (d, oreads f ++ osreads args)
  | .gd g _ (some d) i => match qform i with | some (d', rs) => if d = d' then some (d, g :: rs) else none | none => none
  | _ => none

section
variable {X : Nat → List DA → Option (Bool × RV)} {σ τ σ' : St}
theorem op_eq {x : O} (hr : ∀ t ∈ oreads x, τ.reg t = σ.reg t) : τ.op x = σ.op x := by
  cases x with
  | t n => exact hr n (by simp [oreads])
  | c v => rfl
theorem ops_eq {l : List O} (hr : ∀ t ∈ osreads l, τ.reg t = σ.reg t) : l.map τ.op = l.map σ.op := by
  refine List.map_congr_left fun x hx => op_eq fun t ht => hr t ?_
  exact List.mem_flatMap.2 ⟨x, hx, ht⟩
theorem allOf_congr {α β : Type} {f g : α → Option β} : ∀ {l : List α}, (∀ x ∈ l, f x = g x) → allOf f l = allOf g l
  | [], _ => rfl
  | a :: l, h => by
    simp only [allOf]
    rw [h a (by simp), allOf_congr (l := l) fun x hx => h x (by simp [hx])]
theorem one_eq (h : τ.objs = σ.objs) (v : AV) : τ.one v = σ.one v := by cases v <;> simp [St.one, h]
theorem ptrD_eq (h : τ.objs = σ.objs) (v : AV) : τ.ptrD v = σ.ptrD v := by cases v <;> simp [St.ptrD, h]
theorem argP_eq (h : τ.objs = σ.objs) (v : AV) : τ.argP v = σ.argP v := by simp only [St.argP, ptrD_eq h]
theorem arg_eq (h : τ.objs = σ.objs) (v : AV) : τ.arg v = σ.arg v := by
  cases v <;> simp only [St.arg, one_eq h, ptrD_eq h] <;> try rfl
  · rw [allOf_congr fun x _ => one_eq h x]
  · rw [allOf_congr fun x _ => argP_eq h x]
theorem bnds_eq {n : Nat} {lo hi : Option O} (h1 : ∀ t ∈ ooreads lo, τ.reg t = σ.reg t) (h2 : ∀ t ∈ ooreads hi, τ.reg t = σ.reg t) : bnds τ n lo hi = bnds σ n lo hi := by
  cases lo <;> cases hi <;> simp only [bnds] <;> (try rw [op_eq (σ := σ) (τ := τ) h1]) <;> (try rw [op_eq (σ := σ) (τ := τ) h2])

/-- A quiet instruction writes its register alone, and what it writes hangs on what it reads alone. -/
theorem quiet (i : I) : ∀ {d : Nat} {rs : List Nat}, qform i = some (d, rs) → kstep X i σ = some σ' → ∃ u, σ' = σ.set d u ∧ ∀ τ : St, τ.objs = σ.objs → (∀ t ∈ rs, τ.reg t = σ.reg t) → kstep X i τ = some (τ.set d u) := by
  induction i with
  | gd g want d i ih =>
    intro d' rs hq hs
    cases d with
    | none => simp [qform] at hq
    | some d =>
      simp only [qform] at hq
      split at hq
      case h_2 => cases hq
      rename_i d'' rs' hi
      split at hq
      case isFalse => cases hq
      rename_i e
      subst e
      simp only [Option.some.injEq, Prod.mk.injEq] at hq
      obtain ⟨rfl, rfl⟩ := hq
      simp only [kstep] at hs
      split at hs
      · rename_i t ht
        split at hs
        · rename_i e
          obtain ⟨u, h1, h2⟩ := ih hi hs
          refine ⟨u, h1, fun τ ho hr => ?_⟩
          simp only [kstep]
          rw [hr g (by simp), ht]
          simp only [e, if_true]
          exact h2 τ ho fun t ht => hr t (by simp [ht])
        · rename_i e
          simp only [skipped, Option.some.injEq] at hs
          refine ⟨_, hs.symm, fun τ ho hr => ?_⟩
          simp only [kstep]
          rw [hr g (by simp), ht]
          simp only [e, if_false, skipped]
      · rename_i ht
        simp only [skipped, Option.some.injEq] at hs
        refine ⟨_, hs.symm, fun τ ho hr => ?_⟩
        simp only [kstep]
        rw [hr g (by simp), ht]
        simp only [skipped]
      · cases hs
  | mv d x =>
    intro d' rs hq hs
    simp only [qform, Option.some.injEq, Prod.mk.injEq] at hq; obtain ⟨rfl, rfl⟩ := hq
    simp only [kstep, Option.some.injEq] at hs
    exact ⟨_, hs.symm, fun τ ho hr => by simp only [kstep]; rw [op_eq hr]⟩
  | pick d c x y =>
    intro d' rs hq hs
    simp only [qform, Option.some.injEq, Prod.mk.injEq] at hq; obtain ⟨rfl, rfl⟩ := hq
    simp only [kstep] at hs
    split at hs
    case h_2 => cases hs
    rename_i t ht
    simp only [Option.some.injEq] at hs
    refine ⟨_, hs.symm, fun τ ho hr => ?_⟩
    simp only [kstep]
    rw [op_eq (σ := σ) (x := c) (fun t ht => hr t (by simp [ht])), op_eq (σ := σ) (x := x) (fun t ht => hr t (by simp [ht])), op_eq (σ := σ) (x := y) (fun t ht => hr t (by simp [ht])), ht]
  | bd d z ps =>
    intro d' rs hq hs
    simp only [qform, Option.some.injEq, Prod.mk.injEq] at hq; obtain ⟨rfl, rfl⟩ := hq
    simp only [kstep] at hs
    obtain ⟨l, h1, hs⟩ := Option.bind_eq_some_iff.1 hs
    obtain ⟨r, h2, hs⟩ := Option.map_eq_some_iff.1 hs
    refine ⟨_, hs.symm, fun τ ho hr => ?_⟩
    simp only [kstep]
    rw [allOf_congr (g := fun q => ((σ.op q.2.2).parts).map fun cs => (q.1, q.2.1, cs)) (fun q hq => by
      rw [op_eq (σ := σ) (fun t ht => hr t (List.mem_flatMap.2 ⟨q.2.2, List.mem_map.2 ⟨q, hq, rfl⟩, ht⟩))]), h1]
    simp only [Option.bind_some, h2, Option.map_some]
  | ld d sz ag p =>
    intro d' rs hq hs
    simp only [qform, Option.some.injEq, Prod.mk.injEq] at hq; obtain ⟨rfl, rfl⟩ := hq
    have key : ∃ u, σ' = σ.set d u ∧ ∀ τ : St, τ.objs = σ.objs → τ.op p = σ.op p → kstep X (.ld d sz ag p) τ = some (τ.set d u) := by
      simp only [kstep] at hs ⊢
      generalize σ.op p = q at hs ⊢
      cases q <;> simp only [reduceCtorEq] at hs
      case p o i j =>
        obtain ⟨ob, h1, hs⟩ := Option.bind_eq_some_iff.1 hs
        obtain ⟨cs, h2, hs⟩ := Option.bind_eq_some_iff.1 hs
        obtain ⟨l, h3, hs⟩ := Option.bind_eq_some_iff.1 hs
        obtain ⟨v, h4, hs⟩ := Option.map_eq_some_iff.1 hs
        refine ⟨v, hs.symm, fun τ ho hp => ?_⟩
        rw [hp]
        simp only [ho, h1, h2, h3, h4, Option.bind_some, Option.map_some]
      case rp o cs =>
        obtain ⟨l, h3, hs⟩ := Option.bind_eq_some_iff.1 hs
        obtain ⟨v, h4, hs⟩ := Option.map_eq_some_iff.1 hs
        refine ⟨v, hs.symm, fun τ ho hp => ?_⟩
        rw [hp]
        simp only [h3, h4, Option.bind_some, Option.map_some]
    obtain ⟨u, h1, h2⟩ := key
    exact ⟨u, h1, fun τ ho hr => h2 τ ho (op_eq hr)⟩
  | fa d p off =>
    intro d' rs hq hs
    simp only [qform, Option.some.injEq, Prod.mk.injEq] at hq; obtain ⟨rfl, rfl⟩ := hq
    have key : ∃ u, σ' = σ.set d u ∧ ∀ τ : St, τ.op p = σ.op p → kstep X (.fa d p off) τ = some (τ.set d u) := by
      simp only [kstep] at hs ⊢
      generalize σ.op p = q at hs ⊢
      cases q <;> simp only [reduceCtorEq] at hs
      case p o i j => exact ⟨_, (Option.some.inj hs).symm, fun τ hp => by rw [hp]⟩
      case rp o cs =>
        split at hs
        case isFalse => cases hs
        rename_i e
        exact ⟨_, (Option.some.inj hs).symm, fun τ hp => by rw [hp]; simp only [e, if_true]⟩
    obtain ⟨u, h1, h2⟩ := key
    exact ⟨u, h1, fun τ ho hr => h2 τ (op_eq hr)⟩
  | fd d x off sz ag =>
    intro d' rs hq hs
    simp only [qform, Option.some.injEq, Prod.mk.injEq] at hq; obtain ⟨rfl, rfl⟩ := hq
    have key : ∃ u, σ' = σ.set d u ∧ ∀ τ : St, τ.op x = σ.op x → kstep X (.fd d x off sz ag) τ = some (τ.set d u) := by
      simp only [kstep] at hs ⊢
      generalize σ.op x = q at hs ⊢
      cases q <;> simp only [reduceCtorEq] at hs
      case agg l =>
        obtain ⟨l, h3, hs⟩ := Option.bind_eq_some_iff.1 hs
        obtain ⟨v, h4, hs⟩ := Option.map_eq_some_iff.1 hs
        exact ⟨v, hs.symm, fun τ hp => by rw [hp]; simp only [h3, h4, Option.bind_some, Option.map_some]⟩
    obtain ⟨u, h1, h2⟩ := key
    exact ⟨u, h1, fun τ ho hr => h2 τ (op_eq hr)⟩
  | ia d sz x i =>
    intro d' rs hq hs
    simp only [qform, Option.some.injEq, Prod.mk.injEq] at hq; obtain ⟨rfl, rfl⟩ := hq
    have key : ∃ u, σ' = σ.set d u ∧ ∀ τ : St, τ.objs = σ.objs → τ.op x = σ.op x → τ.op i = σ.op i → kstep X (.ia d sz x i) τ = some (τ.set d u) := by
      simp only [kstep] at hs ⊢
      obtain ⟨n, h1, hs⟩ := Option.bind_eq_some_iff.1 hs
      split at hs
      case isFalse => cases hs
      rename_i e
      generalize σ.op x = q at hs ⊢
      split at hs
      · obtain ⟨cs, h2, hs⟩ := Option.bind_eq_some_iff.1 hs
        split at hs
        case isFalse => cases hs
        rename_i e2
        exact ⟨_, (Option.some.inj hs).symm, fun τ ho hp hi => by rw [hp, hi, h1]; simp only [Option.bind_some, e, if_true, h2, e2]⟩
      · obtain ⟨cs, h2, hs⟩ := Option.bind_eq_some_iff.1 hs
        split at hs
        case isFalse => cases hs
        rename_i e2
        exact ⟨_, (Option.some.inj hs).symm, fun τ ho hp hi => by rw [hp, hi, h1]; simp only [Option.bind_some, e, if_true, h2, e2]⟩
      · obtain ⟨ob, h2, hs⟩ := Option.bind_eq_some_iff.1 hs
        split at hs
        case isFalse => cases hs
        rename_i e2
        exact ⟨_, (Option.some.inj hs).symm, fun τ ho hp hi => by rw [hp, hi, h1, ho]; simp only [Option.bind_some, e, if_true, h2, e2]; simp⟩
      · cases hs
    obtain ⟨u, h1, h2⟩ := key
    exact ⟨u, h1, fun τ ho hr => h2 τ ho (op_eq fun t ht => hr t (by simp [ht])) (op_eq fun t ht => hr t (by simp [ht]))⟩
  | ix d x i =>
    intro d' rs hq hs
    simp only [qform, Option.some.injEq, Prod.mk.injEq] at hq; obtain ⟨rfl, rfl⟩ := hq
    have key : ∃ u, σ' = σ.set d u ∧ ∀ τ : St, τ.op x = σ.op x → τ.op i = σ.op i → kstep X (.ix d x i) τ = some (τ.set d u) := by
      simp only [kstep] at hs ⊢
      obtain ⟨n, h1, hs⟩ := Option.bind_eq_some_iff.1 hs
      split at hs
      case isFalse => cases hs
      rename_i e
      generalize σ.op x = q at hs ⊢
      split at hs
      · obtain ⟨cs, h2, hs⟩ := Option.map_eq_some_iff.1 hs
        exact ⟨_, hs.symm, fun τ hp hi => by rw [hp, hi, h1]; simp only [Option.bind_some, e, if_true, h2, Option.map_some]⟩
      · cases hs
    obtain ⟨u, h1, h2⟩ := key
    exact ⟨u, h1, fun τ ho hr => h2 τ (op_eq fun t ht => hr t (by simp [ht])) (op_eq fun t ht => hr t (by simp [ht]))⟩
  | len d x =>
    intro d' rs hq hs
    simp only [qform, Option.some.injEq, Prod.mk.injEq] at hq; obtain ⟨rfl, rfl⟩ := hq
    have key : ∃ u, σ' = σ.set d u ∧ ∀ τ : St, τ.op x = σ.op x → kstep X (.len d x) τ = some (τ.set d u) := by
      simp only [kstep] at hs ⊢
      generalize σ.op x = q at hs ⊢
      split at hs <;> first | exact ⟨_, (Option.some.inj hs).symm, fun τ hp => by rw [hp]⟩ | cases hs
    obtain ⟨u, h1, h2⟩ := key
    exact ⟨u, h1, fun τ ho hr => h2 τ (op_eq hr)⟩
  | lns d x =>
    intro d' rs hq hs
    simp only [qform, Option.some.injEq, Prod.mk.injEq] at hq; obtain ⟨rfl, rfl⟩ := hq
    have key : ∃ u, σ' = σ.set d u ∧ ∀ τ : St, τ.op x = σ.op x → kstep X (.lns d x) τ = some (τ.set d u) := by
      simp only [kstep] at hs ⊢
      generalize σ.op x = q at hs ⊢
      split at hs <;> first | exact ⟨_, (Option.some.inj hs).symm, fun τ hp => by rw [hp]⟩ | cases hs
    obtain ⟨u, h1, h2⟩ := key
    exact ⟨u, h1, fun τ ho hr => h2 τ (op_eq hr)⟩
  | bin d op ty x y =>
    intro d' rs hq hs
    simp only [qform, Option.some.injEq, Prod.mk.injEq] at hq; obtain ⟨rfl, rfl⟩ := hq
    simp only [kstep] at hs
    obtain ⟨v, h4, hs⟩ := Option.map_eq_some_iff.1 hs
    refine ⟨_, hs.symm, fun τ ho hr => ?_⟩
    simp only [kstep]
    rw [op_eq (σ := σ) (x := x) (fun t ht => hr t (by simp [ht])), op_eq (σ := σ) (x := y) (fun t ht => hr t (by simp [ht])), h4]
    rfl
  | not d x =>
    intro d' rs hq hs
    simp only [qform, Option.some.injEq, Prod.mk.injEq] at hq; obtain ⟨rfl, rfl⟩ := hq
    have key : ∃ u, σ' = σ.set d u ∧ ∀ τ : St, τ.op x = σ.op x → kstep X (.not d x) τ = some (τ.set d u) := by
      simp only [kstep] at hs ⊢
      generalize σ.op x = q at hs ⊢
      split at hs <;> first | exact ⟨_, (Option.some.inj hs).symm, fun τ hp => by rw [hp]⟩ | cases hs
    obtain ⟨u, h1, h2⟩ := key
    exact ⟨u, h1, fun τ ho hr => h2 τ (op_eq hr)⟩
  | neg d x =>
    intro d' rs hq hs
    simp only [qform, Option.some.injEq, Prod.mk.injEq] at hq; obtain ⟨rfl, rfl⟩ := hq
    have key : ∃ u, σ' = σ.set d u ∧ ∀ τ : St, τ.op x = σ.op x → kstep X (.neg d x) τ = some (τ.set d u) := by
      simp only [kstep] at hs ⊢
      generalize σ.op x = q at hs ⊢
      split at hs <;> first | exact ⟨_, (Option.some.inj hs).symm, fun τ hp => by rw [hp]⟩ | cases hs
    obtain ⟨u, h1, h2⟩ := key
    exact ⟨u, h1, fun τ ho hr => h2 τ (op_eq hr)⟩
  | cvi d k x =>
    intro d' rs hq hs
    simp only [qform, Option.some.injEq, Prod.mk.injEq] at hq; obtain ⟨rfl, rfl⟩ := hq
    have key : ∃ u, σ' = σ.set d u ∧ ∀ τ : St, τ.op x = σ.op x → kstep X (.cvi d k x) τ = some (τ.set d u) := by
      simp only [kstep] at hs ⊢
      generalize σ.op x = q at hs ⊢
      split at hs <;> first | exact ⟨_, (Option.some.inj hs).symm, fun τ hp => by rw [hp]⟩ | cases hs
    obtain ⟨u, h1, h2⟩ := key
    exact ⟨u, h1, fun τ ho hr => h2 τ (op_eq hr)⟩
  | b2s d x =>
    intro d' rs hq hs
    simp only [qform, Option.some.injEq, Prod.mk.injEq] at hq; obtain ⟨rfl, rfl⟩ := hq
    simp only [kstep] at hs
    obtain ⟨v, h4, hs⟩ := Option.bind_eq_some_iff.1 hs
    split at hs
    case h_2 => cases hs
    obtain ⟨l, h5, hs⟩ := Option.map_eq_some_iff.1 hs
    refine ⟨_, hs.symm, fun τ ho hr => ?_⟩
    simp only [kstep]
    rw [op_eq (σ := σ) hr, one_eq ho, h4]
    simp only [Option.bind_some, h5, Option.map_some]
  | slc d sz x lo hi =>
    intro d' rs hq hs
    simp only [qform, Option.some.injEq, Prod.mk.injEq] at hq; obtain ⟨rfl, rfl⟩ := hq
    have key : ∃ u, σ' = σ.set d u ∧ ∀ τ : St, τ.objs = σ.objs → τ.op x = σ.op x → (∀ n, bnds τ n lo hi = bnds σ n lo hi) → kstep X (.slc d sz x lo hi) τ = some (τ.set d u) := by
      simp only [kstep] at hs ⊢
      generalize σ.op x = q at hs ⊢
      split at hs
      · split at hs
        case isFalse => cases hs
        rename_i e
        obtain ⟨l, h5, hs⟩ := Option.map_eq_some_iff.1 hs
        exact ⟨_, hs.symm, fun τ ho hp hb => by rw [hp]; simp only [e, if_true, hb, h5, Option.map_some]⟩
      · split at hs
        case isTrue => cases hs
        rename_i e
        obtain ⟨l, h5, hs⟩ := Option.map_eq_some_iff.1 hs
        exact ⟨_, hs.symm, fun τ ho hp hb => by rw [hp]; simp only [e, if_false, hb, h5, Option.map_some]⟩
      · split at hs
        case isFalse => cases hs
        rename_i e
        obtain ⟨l, h5, hs⟩ := Option.map_eq_some_iff.1 hs
        exact ⟨_, hs.symm, fun τ ho hp hb => by rw [hp]; simp only [if_pos e, hb, h5, Option.map_some]⟩
      · split at hs
        case isFalse => cases hs
        rename_i e
        obtain ⟨l, h5, hs⟩ := Option.map_eq_some_iff.1 hs
        exact ⟨_, hs.symm, fun τ ho hp hb => by rw [hp]; simp only [if_pos e, hb, h5, Option.map_some]⟩
      · obtain ⟨ob, h6, hs⟩ := Option.bind_eq_some_iff.1 hs
        split at hs
        case isFalse => cases hs
        rename_i e
        obtain ⟨l, h5, hs⟩ := Option.map_eq_some_iff.1 hs
        exact ⟨_, hs.symm, fun τ ho hp hb => by rw [hp, ho]; simp only [h6, Option.bind_some, if_pos e, hb, h5, Option.map_some]⟩
      · cases hs
    obtain ⟨u, h1, h2⟩ := key
    exact ⟨u, h1, fun τ ho hr => h2 τ ho (op_eq fun t ht => hr t (by simp [ht])) (fun n => bnds_eq (fun t ht => hr t (by simp [ht])) (fun t ht => hr t (by simp [ht])))⟩
  | ext d x j =>
    intro d' rs hq hs
    simp only [qform, Option.some.injEq, Prod.mk.injEq] at hq; obtain ⟨rfl, rfl⟩ := hq
    have key : ∃ u, σ' = σ.set d u ∧ ∀ τ : St, τ.op x = σ.op x → kstep X (.ext d x j) τ = some (τ.set d u) := by
      simp only [kstep] at hs ⊢
      generalize σ.op x = q at hs ⊢
      split at hs
      · obtain ⟨l, h5, hs⟩ := Option.map_eq_some_iff.1 hs
        exact ⟨_, hs.symm, fun τ hp => by rw [hp]; simp only [h5, Option.map_some]⟩
      · cases hs
    obtain ⟨u, h1, h2⟩ := key
    exact ⟨u, h1, fun τ ho hr => h2 τ (op_eq hr)⟩
  | nchk d x =>
    intro d' rs hq hs
    simp only [qform, Option.some.injEq, Prod.mk.injEq] at hq; obtain ⟨rfl, rfl⟩ := hq
    have key : ∃ u, σ' = σ.set d u ∧ ∀ τ : St, τ.op x = σ.op x → kstep X (.nchk d x) τ = some (τ.set d u) := by
      simp only [kstep] at hs ⊢
      generalize σ.op x = q at hs ⊢
      split at hs <;> first | exact ⟨_, (Option.some.inj hs).symm, fun τ hp => by rw [hp]⟩ | cases hs
    obtain ⟨u, h1, h2⟩ := key
    exact ⟨u, h1, fun τ ho hr => h2 τ (op_eq hr)⟩
  | mkf d f caps =>
    intro d' rs hq hs
    simp only [qform, Option.some.injEq, Prod.mk.injEq] at hq; obtain ⟨rfl, rfl⟩ := hq
    simp only [kstep, Option.some.injEq] at hs
    exact ⟨_, hs.symm, fun τ ho hr => by simp only [kstep]; rw [ops_eq hr]⟩
  | call d own f args =>
    intro d' rs hq hs
    simp only [qform] at hq
    cases own with
    | true => simp at hq
    | false =>
      simp only [Bool.false_eq_true, if_false, Option.some.injEq, Prod.mk.injEq] at hq; obtain ⟨rfl, rfl⟩ := hq
      have key : ∃ u, σ' = σ.set d u ∧ ∀ τ : St, τ.objs = σ.objs → τ.op f = σ.op f → args.map τ.op = args.map σ.op → kstep X (.call d false f args) τ = some (τ.set d u) := by
        simp only [kstep] at hs ⊢
        generalize σ.op f = q at hs ⊢
        split at hs
        · obtain ⟨ds, h1, hs⟩ := Option.bind_eq_some_iff.1 hs
          obtain ⟨r, h2, hs⟩ := Option.bind_eq_some_iff.1 hs
          simp only [called, Bool.false_eq_true, if_false] at hs
          split at hs
          case isFalse => cases hs
          rename_i e
          refine ⟨_, (Option.some.inj hs).symm, fun τ ho hp ha => ?_⟩
          rw [hp, ha]
          simp only [allOf_congr (fun x _ => arg_eq ho x), h1, h2, Option.bind_some, called, Bool.false_eq_true, if_false, if_pos e]
        · cases hs
      obtain ⟨u, h1, h2⟩ := key
      exact ⟨u, h1, fun τ ho hr => h2 τ ho (op_eq fun t ht => hr t (by simp [ht])) (ops_eq fun t ht => hr t (by simp [ht]))⟩
  | _ => intro d' rs hq; simp [qform] at hq

/-- Two quiet instructions that have nothing to do with each other. -/
def indep (j i : I) : Bool :=
  match qform j, qform i with
  | some (d, rs), some (d', rs') => d != d' && !(rs'.contains d) && !(rs.contains d')
  | _, _ => false

theorem krun_swap {j i : I} (h : indep j i = true) {l : List I} (hs : krun X (j :: i :: l) σ = some σ') : krun X (i :: j :: l) σ = some σ' := by
  unfold indep at h
  split at h
  case h_2 => cases h
  rename_i d rs d' rs' hj hi
  simp only [Bool.and_eq_true, bne_iff_ne, ne_eq, Bool.not_eq_true', List.contains_eq_mem, decide_eq_false_iff_not] at h
  obtain ⟨⟨hne, h1⟩, h2⟩ := h
  simp only [krun] at hs
  obtain ⟨σ1, s1, hs⟩ := Option.bind_eq_some_iff.1 hs
  obtain ⟨σ2, s2, hs⟩ := Option.bind_eq_some_iff.1 hs
  obtain ⟨u, rfl, hu⟩ := quiet j hj s1
  obtain ⟨v, rfl, hv⟩ := quiet i hi s2
  have e1 := hv σ rfl (fun t ht => (St.reg_set σ u (fun e => by subst e; exact h1 ht)).symm)
  have e2 := hu (σ.set d' v) rfl (fun t ht => St.reg_set σ v (fun e => by subst e; exact h2 ht))
  simp only [krun, e1, Option.bind_some, e2]
  rw [St.set_comm σ v u (fun e => hne e.symm)]
  exact hs
theorem krun_front {i : I} {post : List I} : ∀ {pre : List I} {σ : St}, (∀ j ∈ pre, indep j i = true) → krun X (pre ++ i :: post) σ = some σ' → krun X (i :: (pre ++ post)) σ = some σ'
  | [], _, _, hs => hs
  | j :: pre, σ, h, hs => by
    simp only [List.cons_append, krun] at hs
    obtain ⟨σ1, s1, hs⟩ := Option.bind_eq_some_iff.1 hs
    have := krun_front (fun k hk => h k (by simp [hk])) hs
    exact krun_swap (h j (by simp)) (by rw [krun, s1]; exact this)
end

end Go.Proofs.YtmccpbabpnffcaaK
