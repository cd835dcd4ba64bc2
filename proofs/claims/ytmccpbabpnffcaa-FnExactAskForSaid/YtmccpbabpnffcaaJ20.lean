/- Regions whose order is drawn: quiet instructions change places. -/
import Derived.Test.YtmccpbabpnffcaaJ19
set_option linter.unusedVariables false
set_option linter.unusedSimpArgs false
namespace Go.Proofs.YtmccpbabpnffcaaK
open Go.RowKit

theorem kput_comm {α : Type} (l : List (Nat × α)) {a b : Nat} (u v : α) (h : a ≠ b) : kput (kput l a u) b v = kput (kput l b v) a u := by
  induction l with
  | nil =>
    by_cases h1 : a < b
    · simp [kput, h1, h, Ne.symm h, Nat.lt_asymm h1]
    · have h2 : b < a := by omega
      simp [kput, h1, h2, h, Ne.symm h]
  | cons q l ih =>
    obtain ⟨c, x⟩ := q
    by_cases h1 : a = c
    · subst h1
      have h0 : ¬ b = a := fun e => h e.symm
      by_cases h2 : a < b
      · have h3 : ¬ b < a := by omega
        simp [kput, h0, h2, h3, h]
      · simp [kput, h0, h2]
    · by_cases h2 : b = c
      · subst h2
        by_cases h3 : b < a
        · have h4 : ¬ a < b := by omega
          simp [kput, h1, h3, h4, h, Ne.symm h]
        · simp [kput, h1, h3]
      · by_cases h3 : c < a <;> by_cases h4 : c < b
        · by_cases h5 : a < b
          · have h6 : ¬ b < a := by omega
            simp [kput, h1, h2, h3, h4, h5, h6, h, Ne.symm h]
          · have h6 : b < a := by omega
            simp [kput, h1, h2, h3, h4, h5, h6, h, Ne.symm h]
        · have h6 : ¬ a < b := by omega
          simp [kput, h1, h2, h3, h4, h6, h, Ne.symm h]
        · have h6 : ¬ b < a := by omega
          simp [kput, h1, h2, h3, h4, h6, h, Ne.symm h]
        · simp [kput, h1, h2, h3, h4, ih]

theorem St.set_comm (σ : St) {a b : Nat} (u v : AV) (h : a ≠ b) : (σ.set a u).set b v = (σ.set b v).set a u := by
  simp only [St.set, kput_comm σ.regs u v h]
theorem St.reg_set (σ : St) {t d : Nat} (v : AV) (h : t ≠ d) : (σ.set d v).reg t = σ.reg t := by
  simp only [St.reg, St.set, klook_kput_ne _ _ h]

def oreads : O → List Nat
  | .t n => [n]
  | .c _ => []
def osreads (l : List O) : List Nat := l.flatMap oreads
def ooreads : Option O → List Nat
  | some o => oreads o
  | none => []
/-- A quiet instruction: what it writes, what it reads. -/
def qform : I → Option (Nat × List Nat)
  | .mv d x => some (d, oreads x)
  | .pick d c a b => some (d, oreads c ++ oreads a ++ oreads b)
  | .bd d _ ps => some (d, osreads (ps.map fun q => q.2.2))
  | .ld d _ _ p => some (d, oreads p)
  | .fa d p _ => some (d, oreads p)
  | .fd d x _ _ _ => some (d, oreads x)
  | .ia d _ x i => some (d, oreads x ++ oreads i)
  | .ix d x i => some (d, oreads x ++ oreads i)
  | .len d x => some (d, oreads x)
  | .lns d x => some (d, oreads x)
  | .bin d _ _ x y => some (d, oreads x ++ oreads y)
  | .not d x => some (d, oreads x)
  | .neg d x => some (d, oreads x)
  | .cvi d _ x => some (d, oreads x)
  | .b2s d x => some (d, oreads x)
  | .slc d _ x lo hi => some (d, oreads x ++ ooreads lo ++ ooreads hi)
  | .ext d x _ => some (d, oreads x)
  | .nchk d x => some (d, oreads x)
  | .mkf d _ caps => some (d, osreads caps)
  | .mm d _ x y => some (d, oreads x ++ oreads y)
  | .call d fz ps f args => if fz && ps.isEmpty then some (d, oreads f ++ osreads args) else none
  | .gd g _ (some d) i => match qform i with | some (d', rs) => if d = d' then some (d, g :: rs) else none | none => none
  | _ => none

section
variable {X : XF} {σ τ σ' : St}
theorem op_eq {x : O} (hr : ∀ t ∈ oreads x, τ.reg t = σ.reg t) : τ.op x = σ.op x := by
  cases x with
  | t n => exact hr n (by simp [oreads])
  | c v => rfl
theorem ops_eq {l : List O} (hr : ∀ t ∈ osreads l, τ.reg t = σ.reg t) : l.map τ.op = l.map σ.op := by
  refine List.map_congr_left fun x hx => op_eq fun t ht => hr t ?_
  exact List.mem_flatMap.2 ⟨x, hx, ht⟩
theorem allOf_congr {α β : Type} {f g : α → Option β} : ∀ {l : List α}, (∀ x ∈ l, f x = g x) → allOf f l = allOf g l
  | [], _ => rfl
  | a :: l, h => by
    simp only [allOf]
    rw [h a (by simp), allOf_congr (l := l) fun x hx => h x (by simp [hx])]
theorem arg_eq (h : τ.objs = σ.objs) (ps : List Nat) : ∀ (n : Fu) (v : AV), τ.arg ps n v = σ.arg ps n v
  | .z, _ => rfl
  | .s n, v => by
    have ih : τ.arg ps n = σ.arg ps n := funext fun v => arg_eq h ps n v
    simp only [St.arg, rowsOf, h, ih]
theorem takeL_d : ∀ (l : List RC) (id : Nat) (σ : St), takeL id (l.map (RC.cv true)) σ = some (l.map fun c => .d c.x, σ)
  | [], _, _ => rfl
  | c :: l, id, σ => by
    have : RC.cv true c = .d c.x := by cases c <;> rfl
    simp only [List.map_cons, this, takeL, takeL_d l (id + 1) σ, Option.map_some]
theorem openOne_fz {id id' : Nat} {r : RV} {q : AV × St} (h : r.openOne true id σ = some q) : q.2 = σ ∧ ∀ τ : St, r.openOne true id' τ = some (q.1, τ) := by
  cases r with
  | one c =>
    have e := fun (i : Nat) (τ : St) => takeL_d [c] i τ
    simp only [List.map_cons, List.map_nil] at e
    simp only [RV.openOne, e, Option.bind_some, Option.some.injEq] at h ⊢
    subst h; exact ⟨rfl, fun _ => rfl⟩
  | agg l =>
    simp only [RV.openOne] at h ⊢
    split at h
    case isFalse => cases h
    rename_i e
    simp only [if_pos e, takeL_d, Option.map_some, Option.some.injEq] at h ⊢
    subst h; exact ⟨rfl, fun _ => rfl⟩
  | tup l => simp [RV.openOne] at h
theorem openTup_fz : ∀ (l : List RV) {id : Nat} {q : List AV × St}, openTup true id l σ = some q → q.2 = σ ∧ ∀ τ : St, openTup true id l τ = some (q.1, τ)
  | [], id, q, h => by simp only [openTup, Option.some.injEq] at h; subst h; exact ⟨rfl, fun _ => rfl⟩
  | r :: l, id, q, h => by
    simp only [openTup] at h
    obtain ⟨q1, h1, h⟩ := Option.bind_eq_some_iff.1 h
    obtain ⟨q2, h2, rfl⟩ := Option.map_eq_some_iff.1 h
    obtain ⟨e1, e2⟩ := openOne_fz (id' := id) h1
    rw [e1] at h2
    obtain ⟨e3, e4⟩ := openTup_fz l h2
    exact ⟨e3, fun τ => by simp only [openTup, e2 τ, e4 τ, Option.bind_some, Option.map_some]⟩
theorem opened_fz {id : Nat} {r : RV} {q : AV × St} (h : r.opened true id σ = some q) : q.2 = σ ∧ ∀ τ : St, r.opened true id τ = some (q.1, τ) := by
  cases r with
  | tup l =>
    simp only [RV.opened] at h ⊢
    obtain ⟨q2, h2, rfl⟩ := Option.map_eq_some_iff.1 h
    obtain ⟨e3, e4⟩ := openTup_fz l h2
    exact ⟨e3, fun τ => by simp only [e4 τ, Option.map_some]⟩
  | one c => exact openOne_fz (id' := id) (r := .one c) (show RV.openOne true id σ (.one c) = some q from h)
  | agg l => exact openOne_fz (id' := id) (r := .agg l) (show RV.openOne true id σ (.agg l) = some q from h)
theorem viewOf_eq (h : τ.objs = σ.objs) (o : Nat) : viewOf τ o = viewOf σ o := by
  funext c
  cases c <;> simp only [viewOf, h]
theorem bnds_eq {n : Nat} {lo hi : Option O} (h1 : ∀ t ∈ ooreads lo, τ.reg t = σ.reg t) (h2 : ∀ t ∈ ooreads hi, τ.reg t = σ.reg t) : bnds τ n lo hi = bnds σ n lo hi := by
  cases lo <;> cases hi <;> simp only [bnds] <;> (try rw [op_eq (σ := σ) (τ := τ) h1]) <;> (try rw [op_eq (σ := σ) (τ := τ) h2])

/-- A quiet instruction writes its register alone, and what it writes hangs on what it reads alone. -/
theorem quiet (i : I) : ∀ {d : Nat} {rs : List Nat}, qform i = some (d, rs) → kstep X i σ = some σ' → ∃ u, σ' = σ.set d u ∧ ∀ τ : St, τ.objs = σ.objs → (∀ t ∈ rs, τ.reg t = σ.reg t) → kstep X i τ = some (τ.set d u) := by
  induction i with
  | gd g want d i ih =>
    intro d' rs hq hs
    cases d with
    | none => simp [qform] at hq
    | some d =>
      simp only [qform] at hq
      split at hq
      case h_2 => cases hq
      rename_i d'' rs' hi
      split at hq
      case isFalse => cases hq
      rename_i e
      subst e
      simp only [Option.some.injEq, Prod.mk.injEq] at hq
      obtain ⟨rfl, rfl⟩ := hq
      simp only [kstep] at hs
      split at hs
      · rename_i t ht
        split at hs
        · rename_i e
          obtain ⟨u, h1, h2⟩ := ih hi hs
          refine ⟨u, h1, fun τ ho hr => ?_⟩
          simp only [kstep]
          rw [hr g (by simp), ht]
          simp only [e, if_true]
          exact h2 τ ho fun t ht => hr t (by simp [ht])
        · rename_i e
          simp only [skipped, Option.some.injEq] at hs
          refine ⟨_, hs.symm, fun τ ho hr => ?_⟩
          simp only [kstep]
          rw [hr g (by simp), ht]
          simp only [e, if_false, skipped]
      · rename_i ht
        simp only [skipped, Option.some.injEq] at hs
        refine ⟨_, hs.symm, fun τ ho hr => ?_⟩
        simp only [kstep]
        rw [hr g (by simp), ht]
        simp only [skipped]
      · cases hs
  | mv d x =>
    intro d' rs hq hs
    simp only [qform, Option.some.injEq, Prod.mk.injEq] at hq; obtain ⟨rfl, rfl⟩ := hq
    simp only [kstep, Option.some.injEq] at hs
    exact ⟨_, hs.symm, fun τ ho hr => by simp only [kstep]; rw [op_eq hr]⟩
  | pick d c x y =>
    intro d' rs hq hs
    simp only [qform, Option.some.injEq, Prod.mk.injEq] at hq; obtain ⟨rfl, rfl⟩ := hq
    simp only [kstep] at hs
    split at hs
    case h_2 => cases hs
    rename_i t ht
    simp only [Option.some.injEq] at hs
    refine ⟨_, hs.symm, fun τ ho hr => ?_⟩
    simp only [kstep]
    rw [op_eq (σ := σ) (x := c) (fun t ht => hr t (by simp [ht])), op_eq (σ := σ) (x := x) (fun t ht => hr t (by simp [ht])), op_eq (σ := σ) (x := y) (fun t ht => hr t (by simp [ht])), ht]
  | bd d z ps =>
    intro d' rs hq hs
    simp only [qform, Option.some.injEq, Prod.mk.injEq] at hq; obtain ⟨rfl, rfl⟩ := hq
    simp only [kstep] at hs
    obtain ⟨l, h1, hs⟩ := Option.bind_eq_some_iff.1 hs
    obtain ⟨r, h2, hs⟩ := Option.map_eq_some_iff.1 hs
    refine ⟨_, hs.symm, fun τ ho hr => ?_⟩
    simp only [kstep]
    rw [allOf_congr (g := fun q => ((σ.op q.2.2).parts).map fun cs => (q.1, q.2.1, cs)) (fun q hq => by
      rw [op_eq (σ := σ) (fun t ht => hr t (List.mem_flatMap.2 ⟨q.2.2, List.mem_map.2 ⟨q, hq, rfl⟩, ht⟩))]), h1]
    simp only [Option.bind_some, h2, Option.map_some]
  | ld d sz ag p =>
    intro d' rs hq hs
    simp only [qform, Option.some.injEq, Prod.mk.injEq] at hq; obtain ⟨rfl, rfl⟩ := hq
    have key : ∃ u, σ' = σ.set d u ∧ ∀ τ : St, τ.objs = σ.objs → τ.op p = σ.op p → kstep X (.ld d sz ag p) τ = some (τ.set d u) := by
      simp only [kstep] at hs ⊢
      generalize σ.op p = q at hs ⊢
      cases q <;> simp only [reduceCtorEq] at hs
      case p o i j =>
        obtain ⟨ob, h1, hs⟩ := Option.bind_eq_some_iff.1 hs
        cases ob with
        | ls t fz l k hs2 =>
          simp only at hs
          obtain ⟨cs, h2, hs⟩ := Option.bind_eq_some_iff.1 hs
          obtain ⟨l, h3, hs⟩ := Option.bind_eq_some_iff.1 hs
          obtain ⟨v, h4, hs⟩ := Option.map_eq_some_iff.1 hs
          refine ⟨v, hs.symm, fun τ ho hp => ?_⟩
          rw [hp]
          simp only [ho, h1, h2, h3, viewOf_eq ho, h4, Option.bind_some, Option.map_some]
        | fn v =>
          simp only at hs
          split at hs
          case isFalse => cases hs
          rename_i e
          refine ⟨v, (Option.some.inj hs).symm, fun τ ho hp => ?_⟩
          rw [hp]
          simp only [ho, h1, Option.bind_some]
          rw [if_pos e]
      case rp o cs =>
        obtain ⟨l, h3, hs⟩ := Option.bind_eq_some_iff.1 hs
        obtain ⟨v, h4, hs⟩ := Option.map_eq_some_iff.1 hs
        refine ⟨v, hs.symm, fun τ ho hp => ?_⟩
        rw [hp]
        simp only [h3, h4, Option.bind_some, Option.map_some]
      case rf v =>
        split at hs
        case isFalse => cases hs
        rename_i e
        refine ⟨v, (Option.some.inj hs).symm, fun τ ho hp => ?_⟩
        rw [hp]
        simp only [if_pos e]
    obtain ⟨u, h1, h2⟩ := key
    exact ⟨u, h1, fun τ ho hr => h2 τ ho (op_eq hr)⟩
  | fa d p off =>
    intro d' rs hq hs
    simp only [qform, Option.some.injEq, Prod.mk.injEq] at hq; obtain ⟨rfl, rfl⟩ := hq
    have key : ∃ u, σ' = σ.set d u ∧ ∀ τ : St, τ.op p = σ.op p → kstep X (.fa d p off) τ = some (τ.set d u) := by
      simp only [kstep] at hs ⊢
      generalize σ.op p = q at hs ⊢
      cases q <;> simp only [reduceCtorEq] at hs
      case p o i j => exact ⟨_, (Option.some.inj hs).symm, fun τ hp => by rw [hp]⟩
      case rp o cs =>
        split at hs
        case isFalse => cases hs
        rename_i e
        exact ⟨_, (Option.some.inj hs).symm, fun τ hp => by rw [hp]; simp only [e, if_true]⟩
    obtain ⟨u, h1, h2⟩ := key
    exact ⟨u, h1, fun τ ho hr => h2 τ (op_eq hr)⟩
  | fd d x off sz ag =>
    intro d' rs hq hs
    simp only [qform, Option.some.injEq, Prod.mk.injEq] at hq; obtain ⟨rfl, rfl⟩ := hq
    have key : ∃ u, σ' = σ.set d u ∧ ∀ τ : St, τ.op x = σ.op x → kstep X (.fd d x off sz ag) τ = some (τ.set d u) := by
      simp only [kstep] at hs ⊢
      generalize σ.op x = q at hs ⊢
      cases q <;> simp only [reduceCtorEq] at hs
      case agg l =>
        obtain ⟨l, h3, hs⟩ := Option.bind_eq_some_iff.1 hs
        obtain ⟨v, h4, hs⟩ := Option.map_eq_some_iff.1 hs
        exact ⟨v, hs.symm, fun τ hp => by rw [hp]; simp only [h3, h4, Option.bind_some, Option.map_some]⟩
    obtain ⟨u, h1, h2⟩ := key
    exact ⟨u, h1, fun τ ho hr => h2 τ (op_eq hr)⟩
  | ia d sz x i =>
    intro d' rs hq hs
    simp only [qform, Option.some.injEq, Prod.mk.injEq] at hq; obtain ⟨rfl, rfl⟩ := hq
    have key : ∃ u, σ' = σ.set d u ∧ ∀ τ : St, τ.objs = σ.objs → τ.op x = σ.op x → τ.op i = σ.op i → kstep X (.ia d sz x i) τ = some (τ.set d u) := by
      simp only [kstep] at hs ⊢
      obtain ⟨n, h1, hs⟩ := Option.bind_eq_some_iff.1 hs
      split at hs
      case isFalse => cases hs
      rename_i e
      generalize σ.op x = q at hs ⊢
      split at hs
      · obtain ⟨cs, h2, hs⟩ := Option.bind_eq_some_iff.1 hs
        split at hs
        case isFalse => cases hs
        rename_i e2
        exact ⟨_, (Option.some.inj hs).symm, fun τ ho hp hi => by rw [hp, hi, h1]; simp only [Option.bind_some, e, if_true, h2, e2]⟩
      · obtain ⟨cs, h2, hs⟩ := Option.bind_eq_some_iff.1 hs
        split at hs
        case isFalse => cases hs
        rename_i e2
        exact ⟨_, (Option.some.inj hs).symm, fun τ ho hp hi => by rw [hp, hi, h1]; simp only [Option.bind_some, e, if_true, h2, e2]⟩
      · obtain ⟨ob, h2, hs⟩ := Option.bind_eq_some_iff.1 hs
        split at hs
        case isFalse => cases hs
        rename_i e2
        exact ⟨_, (Option.some.inj hs).symm, fun τ ho hp hi => by rw [hp, hi, h1, ho]; simp only [Option.bind_some, e, if_true, h2, e2]; simp⟩
      · cases hs
    obtain ⟨u, h1, h2⟩ := key
    exact ⟨u, h1, fun τ ho hr => h2 τ ho (op_eq fun t ht => hr t (by simp [ht])) (op_eq fun t ht => hr t (by simp [ht]))⟩
  | ix d x i =>
    intro d' rs hq hs
    simp only [qform, Option.some.injEq, Prod.mk.injEq] at hq; obtain ⟨rfl, rfl⟩ := hq
    have key : ∃ u, σ' = σ.set d u ∧ ∀ τ : St, τ.op x = σ.op x → τ.op i = σ.op i → kstep X (.ix d x i) τ = some (τ.set d u) := by
      simp only [kstep] at hs ⊢
      obtain ⟨n, h1, hs⟩ := Option.bind_eq_some_iff.1 hs
      split at hs
      case isFalse => cases hs
      rename_i e
      generalize σ.op x = q at hs ⊢
      split at hs
      · obtain ⟨cs, h2, hs⟩ := Option.map_eq_some_iff.1 hs
        exact ⟨_, hs.symm, fun τ hp hi => by rw [hp, hi, h1]; simp only [Option.bind_some, e, if_true, h2, Option.map_some]⟩
      · cases hs
    obtain ⟨u, h1, h2⟩ := key
    exact ⟨u, h1, fun τ ho hr => h2 τ (op_eq fun t ht => hr t (by simp [ht])) (op_eq fun t ht => hr t (by simp [ht]))⟩
  | len d x =>
    intro d' rs hq hs
    simp only [qform, Option.some.injEq, Prod.mk.injEq] at hq; obtain ⟨rfl, rfl⟩ := hq
    have key : ∃ u, σ' = σ.set d u ∧ ∀ τ : St, τ.op x = σ.op x → kstep X (.len d x) τ = some (τ.set d u) := by
      simp only [kstep] at hs ⊢
      generalize σ.op x = q at hs ⊢
      split at hs <;> first | exact ⟨_, (Option.some.inj hs).symm, fun τ hp => by rw [hp]⟩ | cases hs
    obtain ⟨u, h1, h2⟩ := key
    exact ⟨u, h1, fun τ ho hr => h2 τ (op_eq hr)⟩
  | lns d x =>
    intro d' rs hq hs
    simp only [qform, Option.some.injEq, Prod.mk.injEq] at hq; obtain ⟨rfl, rfl⟩ := hq
    have key : ∃ u, σ' = σ.set d u ∧ ∀ τ : St, τ.op x = σ.op x → kstep X (.lns d x) τ = some (τ.set d u) := by
      simp only [kstep] at hs ⊢
      generalize σ.op x = q at hs ⊢
      split at hs <;> first | exact ⟨_, (Option.some.inj hs).symm, fun τ hp => by rw [hp]⟩ | cases hs
    obtain ⟨u, h1, h2⟩ := key
    exact ⟨u, h1, fun τ ho hr => h2 τ (op_eq hr)⟩
  | bin d op ty x y =>
    intro d' rs hq hs
    simp only [qform, Option.some.injEq, Prod.mk.injEq] at hq; obtain ⟨rfl, rfl⟩ := hq
    simp only [kstep] at hs
    obtain ⟨v, h4, hs⟩ := Option.map_eq_some_iff.1 hs
    refine ⟨_, hs.symm, fun τ ho hr => ?_⟩
    simp only [kstep]
    rw [op_eq (σ := σ) (x := x) (fun t ht => hr t (by simp [ht])), op_eq (σ := σ) (x := y) (fun t ht => hr t (by simp [ht])), h4]
    rfl
  | not d x =>
    intro d' rs hq hs
    simp only [qform, Option.some.injEq, Prod.mk.injEq] at hq; obtain ⟨rfl, rfl⟩ := hq
    have key : ∃ u, σ' = σ.set d u ∧ ∀ τ : St, τ.op x = σ.op x → kstep X (.not d x) τ = some (τ.set d u) := by
      simp only [kstep] at hs ⊢
      generalize σ.op x = q at hs ⊢
      split at hs <;> first | exact ⟨_, (Option.some.inj hs).symm, fun τ hp => by rw [hp]⟩ | cases hs
    obtain ⟨u, h1, h2⟩ := key
    exact ⟨u, h1, fun τ ho hr => h2 τ (op_eq hr)⟩
  | neg d x =>
    intro d' rs hq hs
    simp only [qform, Option.some.injEq, Prod.mk.injEq] at hq; obtain ⟨rfl, rfl⟩ := hq
    have key : ∃ u, σ' = σ.set d u ∧ ∀ τ : St, τ.op x = σ.op x → kstep X (.neg d x) τ = some (τ.set d u) := by
      simp only [kstep] at hs ⊢
      generalize σ.op x = q at hs ⊢
      split at hs <;> first | exact ⟨_, (Option.some.inj hs).symm, fun τ hp => by rw [hp]⟩ | cases hs
    obtain ⟨u, h1, h2⟩ := key
    exact ⟨u, h1, fun τ ho hr => h2 τ (op_eq hr)⟩
  | cvi d k x =>
    intro d' rs hq hs
    simp only [qform, Option.some.injEq, Prod.mk.injEq] at hq; obtain ⟨rfl, rfl⟩ := hq
    have key : ∃ u, σ' = σ.set d u ∧ ∀ τ : St, τ.op x = σ.op x → kstep X (.cvi d k x) τ = some (τ.set d u) := by
      simp only [kstep] at hs ⊢
      generalize σ.op x = q at hs ⊢
      split at hs
      · split at hs <;> rename_i e <;> exact ⟨_, (Option.some.inj hs).symm, fun τ hp => by rw [hp]; dsimp only; first | rw [if_pos e] | rw [if_neg e]⟩
      · split at hs <;> rename_i e <;> exact ⟨_, (Option.some.inj hs).symm, fun τ hp => by rw [hp]; dsimp only; first | rw [if_pos e] | rw [if_neg e]⟩
      · cases hs
    obtain ⟨u, h1, h2⟩ := key
    exact ⟨u, h1, fun τ ho hr => h2 τ (op_eq hr)⟩
  | b2s d x =>
    intro d' rs hq hs
    simp only [qform, Option.some.injEq, Prod.mk.injEq] at hq; obtain ⟨rfl, rfl⟩ := hq
    have key : ∃ u, σ' = σ.set d u ∧ ∀ τ : St, τ.objs = σ.objs → τ.op x = σ.op x → kstep X (.b2s d x) τ = some (τ.set d u) := by
      simp only [kstep] at hs ⊢
      generalize σ.op x = q at hs ⊢
      split at hs
      · exact ⟨_, (Option.some.inj hs).symm, fun τ ho hp => by rw [hp]⟩
      · exact ⟨_, (Option.some.inj hs).symm, fun τ ho hp => by rw [hp]⟩
      · exact ⟨_, (Option.some.inj hs).symm, fun τ ho hp => by rw [hp]⟩
      · obtain ⟨ob, h1, hs⟩ := Option.bind_eq_some_iff.1 hs
        cases ob with
        | ls t fz l k hs2 =>
          obtain ⟨v, h4, hs⟩ := Option.map_eq_some_iff.1 hs
          exact ⟨_, hs.symm, fun τ ho hp => by rw [hp, ho]; simp only [h1, Option.bind_some, h4, Option.map_some]⟩
        | fn v => cases hs
      · cases hs
    obtain ⟨u, h1, h2⟩ := key
    exact ⟨u, h1, fun τ ho hr => h2 τ ho (op_eq hr)⟩
  | slc d sz x lo hi =>
    intro d' rs hq hs
    simp only [qform, Option.some.injEq, Prod.mk.injEq] at hq; obtain ⟨rfl, rfl⟩ := hq
    have key : ∃ u, σ' = σ.set d u ∧ ∀ τ : St, τ.objs = σ.objs → τ.op x = σ.op x → (∀ n, bnds τ n lo hi = bnds σ n lo hi) → kstep X (.slc d sz x lo hi) τ = some (τ.set d u) := by
      simp only [kstep] at hs ⊢
      generalize σ.op x = q at hs ⊢
      split at hs
      · split at hs
        case isFalse => cases hs
        rename_i e
        obtain ⟨l, h5, hs⟩ := Option.map_eq_some_iff.1 hs
        exact ⟨_, hs.symm, fun τ ho hp hb => by rw [hp]; simp only [e, if_true, hb, h5, Option.map_some]⟩
      · split at hs
        case isTrue => cases hs
        rename_i e
        obtain ⟨l, h5, hs⟩ := Option.map_eq_some_iff.1 hs
        exact ⟨_, hs.symm, fun τ ho hp hb => by rw [hp]; simp only [e, if_false, hb, h5, Option.map_some]⟩
      · split at hs
        case isFalse => cases hs
        rename_i e
        obtain ⟨l, h5, hs⟩ := Option.map_eq_some_iff.1 hs
        exact ⟨_, hs.symm, fun τ ho hp hb => by rw [hp]; simp only [if_pos e, hb, h5, Option.map_some]⟩
      · split at hs
        case isFalse => cases hs
        rename_i e
        obtain ⟨l, h5, hs⟩ := Option.map_eq_some_iff.1 hs
        exact ⟨_, hs.symm, fun τ ho hp hb => by rw [hp]; simp only [if_pos e, hb, h5, Option.map_some]⟩
      · obtain ⟨ob, h6, hs⟩ := Option.bind_eq_some_iff.1 hs
        split at hs
        case isFalse => cases hs
        rename_i e
        obtain ⟨l, h5, hs⟩ := Option.map_eq_some_iff.1 hs
        exact ⟨_, hs.symm, fun τ ho hp hb => by rw [hp, ho]; simp only [h6, Option.bind_some, if_pos e, hb, h5, Option.map_some]⟩
      · cases hs
    obtain ⟨u, h1, h2⟩ := key
    exact ⟨u, h1, fun τ ho hr => h2 τ ho (op_eq fun t ht => hr t (by simp [ht])) (fun n => bnds_eq (fun t ht => hr t (by simp [ht])) (fun t ht => hr t (by simp [ht])))⟩
  | ext d x j =>
    intro d' rs hq hs
    simp only [qform, Option.some.injEq, Prod.mk.injEq] at hq; obtain ⟨rfl, rfl⟩ := hq
    have key : ∃ u, σ' = σ.set d u ∧ ∀ τ : St, τ.op x = σ.op x → kstep X (.ext d x j) τ = some (τ.set d u) := by
      simp only [kstep] at hs ⊢
      generalize σ.op x = q at hs ⊢
      split at hs
      · obtain ⟨l, h5, hs⟩ := Option.map_eq_some_iff.1 hs
        exact ⟨_, hs.symm, fun τ hp => by rw [hp]; simp only [h5, Option.map_some]⟩
      · cases hs
    obtain ⟨u, h1, h2⟩ := key
    exact ⟨u, h1, fun τ ho hr => h2 τ (op_eq hr)⟩
  | nchk d x =>
    intro d' rs hq hs
    simp only [qform, Option.some.injEq, Prod.mk.injEq] at hq; obtain ⟨rfl, rfl⟩ := hq
    have key : ∃ u, σ' = σ.set d u ∧ ∀ τ : St, τ.op x = σ.op x → kstep X (.nchk d x) τ = some (τ.set d u) := by
      simp only [kstep] at hs ⊢
      generalize σ.op x = q at hs ⊢
      split at hs <;> first | exact ⟨_, (Option.some.inj hs).symm, fun τ hp => by rw [hp]⟩ | cases hs
    obtain ⟨u, h1, h2⟩ := key
    exact ⟨u, h1, fun τ ho hr => h2 τ (op_eq hr)⟩
  | mkf d f caps =>
    intro d' rs hq hs
    simp only [qform, Option.some.injEq, Prod.mk.injEq] at hq; obtain ⟨rfl, rfl⟩ := hq
    simp only [kstep, Option.some.injEq] at hs
    exact ⟨_, hs.symm, fun τ ho hr => by simp only [kstep]; rw [ops_eq hr]⟩
  | mm d big x y =>
    intro d' rs hq hs
    simp only [qform, Option.some.injEq, Prod.mk.injEq] at hq; obtain ⟨rfl, rfl⟩ := hq
    have key : ∃ u, σ' = σ.set d u ∧ ∀ τ : St, τ.op x = σ.op x → τ.op y = σ.op y → kstep X (.mm d big x y) τ = some (τ.set d u) := by
      simp only [kstep] at hs ⊢
      generalize σ.op x = q at hs ⊢
      generalize σ.op y = r at hs ⊢
      split at hs
      · split at hs
        case isFalse => cases hs
        rename_i e
        exact ⟨_, (Option.some.inj hs).symm, fun τ hp hy => by rw [hp, hy]; simp only [if_pos e]⟩
      · cases hs
    obtain ⟨u, h1, h2⟩ := key
    exact ⟨u, h1, fun τ ho hr => h2 τ (op_eq fun t ht => hr t (by simp [ht])) (op_eq fun t ht => hr t (by simp [ht]))⟩
  | call d fz ps f args =>
    intro d' rs hq hs
    simp only [qform] at hq
    split at hq
    case isFalse => cases hq
    rename_i e
    simp only [Bool.and_eq_true, List.isEmpty_iff] at e
    obtain ⟨rfl, rfl⟩ := e
    simp only [Option.some.injEq, Prod.mk.injEq] at hq; obtain ⟨rfl, rfl⟩ := hq
    have key : ∃ u, σ' = σ.set d u ∧ ∀ τ : St, τ.objs = σ.objs → τ.op f = σ.op f → args.map τ.op = args.map σ.op → kstep X (.call d true [] f args) τ = some (τ.set d u) := by
      simp only [kstep] at hs ⊢
      generalize σ.op f = q at hs ⊢
      split at hs
      · obtain ⟨ds, h1, hs⟩ := Option.bind_eq_some_iff.1 hs
        simp only [passed, Option.bind_some] at hs
        obtain ⟨r, h2, hs⟩ := Option.bind_eq_some_iff.1 hs
        obtain ⟨ro, rv⟩ := r
        unfold called at hs
        split at hs
        case isFalse => cases hs
        rename_i e
        obtain ⟨σ1, h3, hs2⟩ := Option.bind_eq_some_iff.1 hs
        clear hs
        obtain ⟨q, h4, hs3⟩ := Option.map_eq_some_iff.1 hs2
        clear hs2
        simp only at h3 h4 e
        cases ro with
        | cons _ _ => simp [backs] at h3
        | nil =>
          simp only [backs, Option.some.injEq] at h3
          subst h3
          obtain ⟨e1, e2⟩ := opened_fz h4
          rw [e1] at hs3
          refine ⟨_, hs3.symm, fun τ ho hp ha => ?_⟩
          rw [hp, ha]
          simp only [allOf_congr (fun x _ => arg_eq ho [] fu6 x), h1, h2, Option.bind_some, passed]
          unfold called
          rw [if_pos e]
          simp only [backs, Option.bind_some, e2 τ, Option.map_some]
      · cases hs
    obtain ⟨u, h1, h2⟩ := key
    exact ⟨u, h1, fun τ ho hr => h2 τ ho (op_eq fun t ht => hr t (by simp [ht])) (ops_eq fun t ht => hr t (by simp [ht]))⟩
  | _ => intro d' rs hq; simp [qform] at hq

/-! ### What moves registers alone, ahead of what makes an object -/
def onR (f : AV → AV) (l : List (Nat × AV)) : List (Nat × AV) := l.map fun q => (q.1, f q.2)
theorem onR_kput (f : AV → AV) : ∀ (l : List (Nat × AV)) (k : Nat) (v : AV), onR f (kput l k v) = kput (onR f l) k (f v)
  | [], _, _ => rfl
  | (a, u) :: l, k, v => by
    simp only [kput, onR, List.map_cons]
    split
    · rfl
    · split
      · rfl
      · simp only [List.map_cons]
        congr 1
        exact onR_kput f l k v
theorem onR_comp (f g : AV → AV) (l : List (Nat × AV)) : onR f (onR g l) = onR (fun v => f (g v)) l := by
  simp [onR, List.map_map, Function.comp_def]
theorem reg_onR (f : AV → AV) (hf : f .junk = .junk) (σ : St) (objs : List (Nat × Ob)) (t : Nat) : (St.mk (onR f σ.regs) objs).reg t = f (σ.reg t) := by
  simp only [St.reg, onR, klook_map]
  cases klook σ.regs t with
  | none => simp [hf]
  | some v => rfl
def fu (o : Nat) (v : AV) : AV := if v.refs o then .junk else v
theorem fu_junk (o : Nat) : fu o .junk = .junk := by unfold fu; split <;> rfl
theorem gone_eq (σ : St) (o : Nat) : σ.gone o = ⟨onR (fu o) σ.regs, kdel (σ.unref o).objs o⟩ := rfl
theorem new_eq (σ : St) (o : Nat) (ob : Ob) : σ.new o ob = ⟨onR (fu o) σ.regs, kput (σ.unref o).objs o ob⟩ := rfl
theorem unref_objs_eq (h : τ.objs = σ.objs) (o : Nat) : (τ.unref o).objs = (σ.unref o).objs := by simp only [St.unref, h]
theorem rowsOf_eq (h : τ.objs = σ.objs) (o off n : Nat) : rowsOf τ o off n = rowsOf σ o off n := by simp only [rowsOf, h]
theorem cellOf_map {fz : Bool} {v : AV} {d : D} {σ1 : St} (hs : cellOf fz σ v = some (d, σ1)) : ∃ f : AV → AV, f .junk = .junk ∧ σ1.regs = onR f σ.regs ∧ ∀ τ : St, τ.objs = σ.objs → cellOf fz τ v = some (d, ⟨onR f τ.regs, σ1.objs⟩) := by
  have idm : ∀ l : List (Nat × AV), onR (fun v => v) l = l := fun l => by simp [onR]
  cases v with
  | d x =>
    simp only [cellOf] at hs ⊢
    split at hs
    · rename_i e
      simp only [Option.some.injEq, Prod.mk.injEq] at hs
      obtain ⟨rfl, rfl⟩ := hs
      exact ⟨fun v => v, rfl, (idm _).symm, fun τ ho => by rw [if_pos e, idm, ← ho]⟩
    · cases hs
  | nil t =>
    simp only [cellOf, Option.some.injEq, Prod.mk.injEq] at hs ⊢
    obtain ⟨rfl, rfl⟩ := hs
    exact ⟨fun v => v, rfl, (idm _).symm, fun τ ho => ⟨rfl, by rw [idm, ← ho]⟩⟩
  | h o off n =>
    simp only [cellOf] at hs ⊢
    obtain ⟨q, hq, hs2⟩ := Option.bind_eq_some_iff.1 hs
    split at hs2
    · cases hs2
    · rename_i e
      simp only [Option.some.injEq, Prod.mk.injEq] at hs2
      obtain ⟨rfl, rfl⟩ := hs2
      refine ⟨fu o, fu_junk o, rfl, fun τ ho => ?_⟩
      rw [rowsOf_eq ho, hq]
      simp only [Option.bind_some]
      rw [if_neg e, gone_eq, unref_objs_eq ho]
      rfl
  | _ => simp [cellOf] at hs
theorem cellsOf_map {fz : Bool} : ∀ {l : List AV} {σ : St} {ds : List D} {σ1 : St}, cellsOf fz l σ = some (ds, σ1) → ∃ f : AV → AV, f .junk = .junk ∧ σ1.regs = onR f σ.regs ∧ ∀ τ : St, τ.objs = σ.objs → cellsOf fz l τ = some (ds, ⟨onR f τ.regs, σ1.objs⟩)
  | [], σ, ds, σ1, hs => by
    simp only [cellsOf, Option.some.injEq, Prod.mk.injEq] at hs
    obtain ⟨rfl, rfl⟩ := hs
    refine ⟨fun v => v, rfl, by simp [onR], fun τ ho => by simp only [cellsOf]; rw [← ho]; simp [onR]⟩
  | v :: l, σ, ds, σ1, hs => by
    simp only [cellsOf] at hs
    obtain ⟨⟨c, σ2⟩, h1, hs2⟩ := Option.bind_eq_some_iff.1 hs
    obtain ⟨⟨cs, σ3⟩, h2, hs3⟩ := Option.map_eq_some_iff.1 hs2
    simp only [Prod.mk.injEq] at hs3
    obtain ⟨rfl, rfl⟩ := hs3
    obtain ⟨f, f0, f1, f2⟩ := cellOf_map h1
    simp only at h2
    obtain ⟨g, g0, g1, g2⟩ := cellsOf_map h2
    refine ⟨fun v => g (f v), by simp only [f0, g0], by rw [g1, f1, onR_comp], fun τ ho => ?_⟩
    simp only [cellsOf]
    rw [f2 τ ho]
    simp only [Option.bind_some]
    rw [g2 ⟨onR f τ.regs, σ2.objs⟩ rfl]
    simp only [Option.map_some, onR_comp]
/-- An instruction that makes an object: what it writes, what it reads. -/
def mform : I → Option (Nat × List Nat)
  | .al d _ _ => some (d, [])
  | .bs d _ _ _ _ ps => some (d, osreads (ps.map fun q => q.2))
  | .mk d _ _ n => some (d, oreads n)
  | _ => none
theorem maplike (j : I) {d : Nat} {rs : List Nat} (hj : mform j = some (d, rs)) (hs : kstep X j σ = some σ') :
    ∃ (f : AV → AV) (u : AV) (objs : List (Nat × Ob)), f .junk = .junk ∧ ∀ τ : St, τ.objs = σ.objs → (∀ t ∈ rs, τ.reg t = σ.reg t) → kstep X j τ = some ⟨kput (onR f τ.regs) d u, objs⟩ := by
  cases j with
  | al d' t fz =>
    simp only [mform, Option.some.injEq, Prod.mk.injEq] at hj
    obtain ⟨rfl, rfl⟩ := hj
    refine ⟨fu (nid d'), .p (nid d') 0 0, kput (σ.unref (nid d')).objs (nid d') (.ls t fz [t.zero] 0 []), fu_junk _, fun τ ho _ => ?_⟩
    simp only [kstep, new_eq, St.set, unref_objs_eq ho]
  | bs d' t fz n z ps =>
    simp only [mform, Option.some.injEq, Prod.mk.injEq] at hj
    obtain ⟨rfl, rfl⟩ := hj
    simp only [kstep] at hs
    obtain ⟨l, h1, hs1⟩ := Option.bind_eq_some_iff.1 hs
    obtain ⟨r, h2, hs2⟩ := Option.bind_eq_some_iff.1 hs1
    obtain ⟨⟨cs, σ1⟩, h3, hs3⟩ := Option.bind_eq_some_iff.1 hs2
    clear hs hs1 hs2
    simp only at hs3
    split at hs3
    case isFalse => cases hs3
    rename_i hc
    obtain ⟨vs, h4, hs4⟩ := Option.map_eq_some_iff.1 hs3
    obtain ⟨f, f0, f1, f2⟩ := cellsOf_map h3
    refine ⟨fun v => fu (nid d') (f v), .h (nid d') 0 n, kput (σ1.unref (nid d')).objs (nid d') (.ls t fz vs 0 []), by simp only [f0, fu_junk], fun τ ho hr => ?_⟩
    simp only [kstep]
    rw [allOf_congr (g := fun q => ((σ.op q.2).parts).map fun cs => (q.1 * t.w, t.w, cs)) (fun q hq => by
      rw [op_eq (σ := σ) (fun t ht => hr t (List.mem_flatMap.2 ⟨q.2, List.mem_map.2 ⟨q, hq, rfl⟩, ht⟩))]), h1]
    simp only [Option.bind_some, h2]
    rw [f2 τ ho]
    simp only [Option.bind_some]
    rw [if_pos hc, h4]
    simp only [Option.map_some, new_eq, onR_comp, St.set]
    rfl
  | mk d' t bytes n =>
    simp only [mform, Option.some.injEq, Prod.mk.injEq] at hj
    obtain ⟨rfl, rfl⟩ := hj
    simp only [kstep] at hs
    obtain ⟨m, h1, hs1⟩ := Option.bind_eq_some_iff.1 hs
    split at hs1
    case isFalse => cases hs1
    rename_i hc
    refine ⟨fu (nid d'), .h (nid d') 0 m.toNat, kput (σ.unref (nid d')).objs (nid d') (.ls t false (List.replicate m.toNat t.zero) 0 []), fu_junk _, fun τ ho hr => ?_⟩
    simp only [kstep]
    rw [op_eq (σ := σ) hr, h1]
    simp only [Option.bind_some]
    rw [if_pos hc, new_eq, unref_objs_eq ho]
    rfl
  | _ => simp [mform] at hj
/-- It moves one register to another. -/
def mvform : I → Option (Nat × Nat)
  | .mv d (.t t) => some (d, t)
  | _ => none
def mvB (x y : I) : Bool := match mvform x, mform y with
  | some (d, t), some (d', rs) => d != d' && !(rs.contains d) && t != d'
  | _, _ => false
theorem mv_swap {x y : I} (h : mvB x y = true) : (kstep X x σ).bind (kstep X y) = (kstep X y σ).bind (kstep X x) := by
  unfold mvB at h
  split at h
  case h_2 => cases h
  rename_i d t d' rs hx hy
  simp only [Bool.and_eq_true, bne_iff_ne, ne_eq, Bool.not_eq_true', List.contains_eq_mem, decide_eq_false_iff_not] at h
  obtain ⟨⟨hne, h1⟩, h2⟩ := h
  have ex : x = .mv d (.t t) := by
    unfold mvform at hx
    split at hx
    · simp only [Option.some.injEq, Prod.mk.injEq] at hx; obtain ⟨rfl, rfl⟩ := hx; rfl
    · cases hx
  subst ex
  have key : ∀ σ1, kstep X y σ = some σ1 → kstep X y (σ.set d (σ.reg t)) = some (σ1.set d (σ1.reg t)) := fun σ1 hs => by
    obtain ⟨f, u, objs, f0, f1⟩ := maplike y hy hs
    have e0 := f1 σ rfl (fun _ _ => rfl)
    rw [hs] at e0
    obtain rfl := Option.some.inj e0
    rw [f1 (σ.set d (σ.reg t)) rfl (fun t' ht => St.reg_set σ _ (fun e => by subst e; exact h1 ht))]
    simp only [St.set, onR_kput]
    congr 1
    have er : (St.mk (kput (onR f σ.regs) d' u) objs).reg t = f (σ.reg t) := by
      have := St.reg_set (St.mk (onR f σ.regs) objs) (t := t) (d := d') u h2
      simp only [St.set] at this
      rw [this]
      exact reg_onR f f0 σ objs t
    rw [er, kput_comm _ _ _ hne]
  simp only [kstep, St.op, Option.bind_some]
  cases hy2 : kstep X y σ with
  | some σ1 =>
    rw [key σ1 hy2]
    rfl
  | none =>
    simp only [Option.bind_none]
    cases hy3 : kstep X y (σ.set d (σ.reg t)) with
    | none => rfl
    | some σ2 =>
      obtain ⟨f, u, objs, f0, f1⟩ := maplike y hy hy3
      have e0 := f1 σ rfl (fun t' ht => (St.reg_set σ _ (fun e => by subst e; exact h1 ht)).symm)
      rw [hy2] at e0
      cases e0

/-- Two quiet instructions that have nothing to do with each other. -/
def indepQ (j i : I) : Bool :=
  match qform j, qform i with
  | some (d, rs), some (d', rs') => d != d' && !(rs'.contains d) && !(rs.contains d')
  | _, _ => false
def indep (j i : I) : Bool := indepQ j i || mvB j i || mvB i j

theorem krun_two (j i : I) (l : List I) (σ : St) : krun X (j :: i :: l) σ = ((kstep X j σ).bind (kstep X i)).bind (krun X l) := by
  simp only [krun]
  cases kstep X j σ <;> rfl
theorem krun_swap {j i : I} (h : indep j i = true) {l : List I} (hs : krun X (j :: i :: l) σ = some σ') : krun X (i :: j :: l) σ = some σ' := by
  unfold indep at h
  simp only [Bool.or_eq_true] at h
  rcases h with (h | h) | h
  case inl.inr => rw [krun_two] at hs ⊢; rw [← mv_swap h]; exact hs
  case inr => rw [krun_two] at hs ⊢; rw [mv_swap h]; exact hs
  unfold indepQ at h
  split at h
  case h_2 => cases h
  rename_i d rs d' rs' hj hi
  simp only [Bool.and_eq_true, bne_iff_ne, ne_eq, Bool.not_eq_true', List.contains_eq_mem, decide_eq_false_iff_not] at h
  obtain ⟨⟨hne, h1⟩, h2⟩ := h
  simp only [krun] at hs
  obtain ⟨σ1, s1, hs⟩ := Option.bind_eq_some_iff.1 hs
  obtain ⟨σ2, s2, hs⟩ := Option.bind_eq_some_iff.1 hs
  obtain ⟨u, rfl, hu⟩ := quiet j hj s1
  obtain ⟨v, rfl, hv⟩ := quiet i hi s2
  have e1 := hv σ rfl (fun t ht => (St.reg_set σ u (fun e => by subst e; exact h1 ht)).symm)
  have e2 := hu (σ.set d' v) rfl (fun t ht => St.reg_set σ v (fun e => by subst e; exact h2 ht))
  simp only [krun, e1, Option.bind_some, e2]
  rw [St.set_comm σ v u (fun e => hne e.symm)]
  exact hs
theorem krun_front {i : I} {post : List I} : ∀ {pre : List I} {σ : St}, (∀ j ∈ pre, indep j i = true) → krun X (pre ++ i :: post) σ = some σ' → krun X (i :: (pre ++ post)) σ = some σ'
  | [], _, _, hs => hs
  | j :: pre, σ, h, hs => by
    simp only [List.cons_append, krun] at hs
    obtain ⟨σ1, s1, hs⟩ := Option.bind_eq_some_iff.1 hs
    have := krun_front (fun k hk => h k (by simp [hk])) hs
    exact krun_swap (h j (by simp)) (by rw [krun, s1]; exact this)
end

end Go.Proofs.YtmccpbabpnffcaaK
