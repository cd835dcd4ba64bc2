/- The reckoning without a bound: functions out of a table, loops as often as it takes. -/
import Derived.Test.YtniakiefibpgmaaGreatDoorJ22
set_option linter.unusedVariables false
set_option linter.unusedSimpArgs false
namespace Go.Proofs.YtniakiefibpgmaaGreatDoorK
open Go.RowKit

open Classical in
/-- What a reckoning comes to, if it comes to something at any bound. -/
noncomputable def lim {α : Type} (g : Nat → Option α) : Option α := if h : ∃ k, (g k).isSome then g (Classical.choose h) else none
theorem lim_some {α : Type} {g : Nat → Option α} {r : α} (h : lim g = some r) : ∃ k, g k = some r := by
  unfold lim at h
  split at h
  · exact ⟨_, h⟩
  · cases h
theorem lim_of {α : Type} {g : Nat → Option α} (hm : ∀ k k' r, k ≤ k' → g k = some r → g k' = some r) {k : Nat} {r : α} (h : g k = some r) : lim g = some r := by
  have hex : ∃ k, (g k).isSome := ⟨k, by rw [h]; rfl⟩
  unfold lim
  rw [dif_pos hex]
  obtain ⟨r', hr'⟩ := Option.isSome_iff_exists.1 (Classical.choose_spec hex)
  have h1 := hm _ (max k (Classical.choose hex)) r' (Nat.le_max_right _ _) hr'
  have h2 := hm _ (max k (Classical.choose hex)) r (Nat.le_max_left _ _) h
  rw [h1] at h2
  rw [hr', h2]

def LeX (X X' : XF) : Prop := ∀ f ds obs r, X f ds obs = some r → X' f ds obs = some r

section
variable {X X' : XF} {σ σ' : St}
theorem kstep_mono (hX : LeX X X') (i : I) : ∀ {σ' : St}, kstep X i σ = some σ' → kstep X' i σ = some σ' := by
  induction i with
  | gd g want d i ih =>
    intro σ' h
    simp only [kstep] at h ⊢
    split at h
    · rename_i t ht
      by_cases e : t = want
      · rw [if_pos e] at h ⊢; exact ih h
      · rw [if_neg e] at h ⊢; exact h
    · exact h
    · cases h
  | call d fz ps f args =>
    intro σ' h
    simp only [kstep] at h ⊢
    split at h
    case h_2 => cases h
    obtain ⟨ds, h1, h⟩ := Option.bind_eq_some_iff.1 h
    obtain ⟨obs, h3, h⟩ := Option.bind_eq_some_iff.1 h
    obtain ⟨r, h2, h⟩ := Option.bind_eq_some_iff.1 h
    rw [h1, Option.bind_some, h3, Option.bind_some, hX _ _ _ _ h2]
    exact h
  | an A B K L i ih =>
    intro σ' h
    simp only [kstep] at h ⊢
    split at h
    case isFalse => cases h
    rename_i e
    obtain ⟨σ1, h1, h2⟩ := Option.bind_eq_some_iff.1 h
    rw [if_pos e, ih h1]; exact h2
  | _ => intro σ' h; exact h
theorem krun_mono (hX : LeX X X') : ∀ {l : List I} {σ σ' : St}, krun X l σ = some σ' → krun X' l σ = some σ'
  | [], _, _, h => h
  | i :: l, σ, σ', h => by
    simp only [krun] at h ⊢
    obtain ⟨σ1, h1, h2⟩ := Option.bind_eq_some_iff.1 h
    rw [kstep_mono hX i h1]
    exact krun_mono hX h2
theorem rounds_mono {b b' : St → Option (Ex × St)} (hb : ∀ σ q, b σ = some q → b' σ = some q) : ∀ {k k' : Nat} {σ : St} {q : Ex × St}, k ≤ k' → rounds b k σ = some q → rounds b' k' σ = some q
  | 0, _, _, _, _, h => by simp [rounds] at h
  | k + 1, 0, _, _, hk, _ => by omega
  | k + 1, k' + 1, σ, q, hk, h => by
    simp only [rounds] at h ⊢
    obtain ⟨⟨e, σ1⟩, h1, h2⟩ := Option.bind_eq_some_iff.1 h
    rw [hb _ _ h1]
    simp only [Option.bind_some]
    cases e with
    | n => simp only [andThen] at h2 ⊢; exact rounds_mono hb (by omega) h2
    | ex id => exact h2
    | ret => exact h2
theorem den_mono (hX : LeX X X') {k k' : Nat} (hk : k ≤ k') (c : C) : ∀ {σ : St} {q : Ex × St}, den X k c σ = some q → den X' k' c σ = some q := by
  induction c with
  | r is =>
    intro σ q h
    simp only [den] at h ⊢
    obtain ⟨σ1, h1, rfl⟩ := Option.map_eq_some_iff.1 h
    rw [krun_mono hX h1]; rfl
  | dr rgs is =>
    intro σ q h
    simp only [den] at h ⊢
    obtain ⟨σ1, h1, rfl⟩ := Option.map_eq_some_iff.1 h
    rw [krun_mono hX h1]; rfl
  | pre is c ih =>
    intro σ q h
    simp only [den] at h ⊢
    obtain ⟨σ1, h1, h2⟩ := Option.bind_eq_some_iff.1 h
    rw [krun_mono hX h1]; exact ih h2
  | post c is ih =>
    intro σ q h
    simp only [den] at h ⊢
    obtain ⟨⟨e, σ1⟩, h1, h2⟩ := Option.bind_eq_some_iff.1 h
    rw [ih h1]
    simp only [Option.bind_some]
    cases e with
    | n =>
      simp only [andThen] at h2 ⊢
      obtain ⟨σ2, h3, rfl⟩ := Option.map_eq_some_iff.1 h2
      rw [krun_mono hX h3]; rfl
    | ex id => exact h2
    | ret => exact h2
  | skip => intro σ q h; exact h
  | seq a b iha ihb =>
    intro σ q h
    simp only [den] at h ⊢
    obtain ⟨⟨e, σ1⟩, h1, h2⟩ := Option.bind_eq_some_iff.1 h
    rw [iha h1]
    simp only [Option.bind_some]
    cases e with
    | n => simp only [andThen] at h2 ⊢; exact ihb h2
    | ex id => exact h2
    | ret => exact h2
  | cond o a b iha ihb =>
    intro σ q h
    simp only [den] at h ⊢
    split at h
    · rename_i t ht
      cases t
      · simp only [Bool.false_eq_true, if_false] at h ⊢; exact ihb h
      · simp only [if_true] at h ⊢; exact iha h
    · cases h
  | blk id c ih =>
    intro σ q h
    simp only [den] at h ⊢
    obtain ⟨q1, h1, rfl⟩ := Option.map_eq_some_iff.1 h
    rw [ih h1]; rfl
  | loop c ih =>
    intro σ q h
    simp only [den] at h ⊢
    exact rounds_mono (fun σ q h => ih h) hk h
  | ex id => intro σ q h; exact h
  | ret => intro σ q h; exact h
end

section
variable (Tb : Nat → Option Fn) (E : XF)
def ev : Nat → XF
  | 0, _, _, _ => none
  | k + 1, f, ds, obs => match Tb f with
    | some fn => evFn (ev k) k fn ds obs
    | none => E f ds obs
theorem evFn_mono {X X' : XF} (hX : LeX X X') {k k' : Nat} (hk : k ≤ k') {fn : Fn} {ds : List AV} {obs : List Ob} {r : List (Option Ob) × RV} (h : evFn X k fn ds obs = some r) : evFn X' k' fn ds obs = some r := by
  simp only [evFn] at h ⊢
  obtain ⟨σ, h1, h⟩ := Option.bind_eq_some_iff.1 h
  obtain ⟨q, h2, h3⟩ := Option.bind_eq_some_iff.1 h
  rw [h1]
  simp only [Option.bind_some, den_mono hX hk _ h2, h3]
theorem ev_mono : ∀ {k k' : Nat}, k ≤ k' → LeX (ev Tb E k) (ev Tb E k')
  | 0, _, _ => fun f ds obs r h => by simp [ev] at h
  | k + 1, 0, hk => by omega
  | k + 1, k' + 1, hk => fun f ds obs r h => by
    simp only [ev] at h ⊢
    split at h
    · exact evFn_mono (ev_mono (by omega)) (by omega) h
    · exact h
/-- What the functions of the table give back. -/
noncomputable def evL : XF := fun f ds obs => lim fun k => ev Tb E k f ds obs
theorem evL_some {f : Nat} {ds : List AV} {obs : List Ob} {r : List (Option Ob) × RV} (h : evL Tb E f ds obs = some r) : ∃ k, ev Tb E k f ds obs = some r := lim_some h
theorem evL_of {k f : Nat} {ds : List AV} {obs : List Ob} {r : List (Option Ob) × RV} (h : ev Tb E k f ds obs = some r) : evL Tb E f ds obs = some r :=
  lim_of (fun _ _ _ hk h => ev_mono Tb E hk _ _ _ _ h) h

/-- It keeps its contracts. -/
theorem ev_ok {P : Program} {gl : Globs} (hm : P.follows .mixedOrders = true) (hT : ∀ f fn, Tb f = some fn → okFn P f fn = true) (hE : ∀ f ds obs r, E f ds obs = some r → Ctr P gl f ds obs r) : ∀ (k f : Nat) (ds : List AV) (obs : List Ob) (r : List (Option Ob) × RV), ev Tb E k f ds obs = some r → Ctr P gl f ds obs r
  | 0, _, _, _, _, h => by simp [ev] at h
  | k + 1, f, ds, obs, r, h => by
    simp only [ev] at h
    split at h
    · rename_i fn hf
      exact fn_ok hm (ev_ok hm hT hE k) (hT f fn hf) h
    · exact hE f ds obs r h
theorem evL_ok {P : Program} {gl : Globs} (hm : P.follows .mixedOrders = true) (hT : ∀ f fn, Tb f = some fn → okFn P f fn = true) (hE : ∀ f ds obs r, E f ds obs = some r → Ctr P gl f ds obs r) {f : Nat} {ds : List AV} {obs : List Ob} {r : List (Option Ob) × RV} (h : evL Tb E f ds obs = some r) : Ctr P gl f ds obs r := by
  obtain ⟨k, hk⟩ := evL_some Tb E h
  exact ev_ok Tb E hm hT hE k f ds obs r hk
end

/-- What code comes to. -/
noncomputable def DL (X : XF) (c : C) (σ : St) : Option (Ex × St) := lim fun k => den X k c σ
section
variable {X : XF} {σ : St}
theorem LeX.refl (X : XF) : LeX X X := fun _ _ _ _ h => h
theorem DL_some {c : C} {q : Ex × St} (h : DL X c σ = some q) : ∃ k, den X k c σ = some q := lim_some h
theorem DL_of {c : C} {k : Nat} {q : Ex × St} (h : den X k c σ = some q) : DL X c σ = some q := lim_of (fun _ _ _ hk h => den_mono (LeX.refl X) hk c h) h
theorem opt_eq {α : Type} {x y : Option α} (h1 : ∀ a, x = some a → y = some a) (h2 : ∀ a, y = some a → x = some a) : x = y := by
  cases x with
  | some a => exact (h1 a rfl).symm
  | none => cases y with
    | none => rfl
    | some a => exact h2 a rfl
theorem DL_r (is : List I) : DL X (.r is) σ = (krun X is σ).map goN := opt_eq (fun a h => by obtain ⟨k, hk⟩ := DL_some h; exact hk) (fun a h => DL_of (k := 0) h)
theorem DL_dr (pm : List Nat) (is : List I) : DL X (.dr pm is) σ = (krun X is σ).map goN := opt_eq (fun a h => by obtain ⟨k, hk⟩ := DL_some h; exact hk) (fun a h => DL_of (k := 0) h)
theorem DL_skip : DL X .skip σ = some (.n, σ) := DL_of (k := 0) rfl
theorem DL_ex (id : Nat) : DL X (.ex id) σ = some (.ex id, σ) := DL_of (k := 0) rfl
theorem DL_ret : DL X .ret σ = some (.ret, σ) := DL_of (k := 0) rfl
theorem DL_pre (is : List I) (c : C) : DL X (.pre is c) σ = (krun X is σ).bind (DL X c) := by
  refine opt_eq (fun a h => ?_) (fun a h => ?_)
  · obtain ⟨k, hk⟩ := DL_some h
    simp only [den] at hk
    obtain ⟨σ1, h1, h2⟩ := Option.bind_eq_some_iff.1 hk
    rw [h1]; exact DL_of h2
  · obtain ⟨σ1, h1, h2⟩ := Option.bind_eq_some_iff.1 h
    obtain ⟨k, hk⟩ := DL_some h2
    exact DL_of (k := k) (by simp only [den, h1, Option.bind_some, hk])
theorem DL_post (c : C) (is : List I) : DL X (.post c is) σ = (DL X c σ).bind (andThen fun σ => (krun X is σ).map goN) := by
  refine opt_eq (fun a h => ?_) (fun a h => ?_)
  · obtain ⟨k, hk⟩ := DL_some h
    simp only [den] at hk
    obtain ⟨σ1, h1, h2⟩ := Option.bind_eq_some_iff.1 hk
    rw [DL_of h1]; exact h2
  · obtain ⟨σ1, h1, h2⟩ := Option.bind_eq_some_iff.1 h
    obtain ⟨k, hk⟩ := DL_some h1
    exact DL_of (k := k) (by simp only [den, hk, Option.bind_some, h2])
theorem andThen_some {f : St → Option (Ex × St)} {q r : Ex × St} (h : andThen f q = some r) : (q.1 = .n ∧ f q.2 = some r) ∨ (q.1 ≠ .n ∧ q = r) := by
  obtain ⟨e, σ⟩ := q
  cases e with
  | n => exact .inl ⟨rfl, h⟩
  | ex id => exact .inr ⟨by simp, Option.some.inj h⟩
  | ret => exact .inr ⟨by simp, Option.some.inj h⟩
theorem DL_seq (a b : C) : DL X (.seq a b) σ = (DL X a σ).bind (andThen (DL X b)) := by
  refine opt_eq (fun r h => ?_) (fun r h => ?_)
  · obtain ⟨k, hk⟩ := DL_some h
    simp only [den] at hk
    obtain ⟨⟨e, σ1⟩, h1, h2⟩ := Option.bind_eq_some_iff.1 hk
    rw [DL_of h1]
    cases e with
    | n => exact DL_of (by simpa [andThen] using h2)
    | ex id => exact h2
    | ret => exact h2
  · obtain ⟨⟨e, σ1⟩, h1, h2⟩ := Option.bind_eq_some_iff.1 h
    obtain ⟨k, hk⟩ := DL_some h1
    cases e with
    | n =>
      obtain ⟨k', hk'⟩ := DL_some (show DL X b σ1 = some r from h2)
      refine DL_of (k := max k k') ?_
      simp only [den, den_mono (LeX.refl X) (Nat.le_max_left k k') a hk, Option.bind_some, andThen]
      exact den_mono (LeX.refl X) (Nat.le_max_right k k') b hk'
    | ex id => exact DL_of (k := k) (by simp only [den, hk, Option.bind_some]; exact h2)
    | ret => exact DL_of (k := k) (by simp only [den, hk, Option.bind_some]; exact h2)
noncomputable def condDL (X : XF) (a b : C) (σ : St) : AV → Option (Ex × St)
  | .d (.b t) => if t = true then DL X a σ else DL X b σ
  | _ => none
theorem condDL_b (a b : C) (t : Bool) : condDL X a b σ (.d (.b t)) = if t = true then DL X a σ else DL X b σ := rfl
theorem DL_cond (o : O) (a b : C) : DL X (.cond o a b) σ = condDL X a b σ (σ.op o) := by
  refine opt_eq (fun r h => ?_) (fun r h => ?_)
  · obtain ⟨k, hk⟩ := DL_some h
    simp only [den] at hk
    split at hk
    · rename_i t ht
      rw [ht]
      simp only [condDL]
      cases t
      · exact DL_of (by simpa using hk)
      · exact DL_of (by simpa using hk)
    · cases hk
  · unfold condDL at h
    split at h
    · rename_i t ht
      cases t
      · obtain ⟨k, hk⟩ := DL_some (show DL X b σ = some r by simpa using h)
        exact DL_of (k := k) (by simp only [den, ht]; simpa using hk)
      · obtain ⟨k, hk⟩ := DL_some (show DL X a σ = some r by simpa using h)
        exact DL_of (k := k) (by simp only [den, ht]; simpa using hk)
    · cases h
theorem DL_blk (id : Nat) (c : C) : DL X (.blk id c) σ = (DL X c σ).map (outOf id) := by
  refine opt_eq (fun r h => ?_) (fun r h => ?_)
  · obtain ⟨k, hk⟩ := DL_some h
    simp only [den] at hk
    obtain ⟨q, h1, rfl⟩ := Option.map_eq_some_iff.1 hk
    rw [DL_of h1]; rfl
  · obtain ⟨q, h1, rfl⟩ := Option.map_eq_some_iff.1 h
    obtain ⟨k, hk⟩ := DL_some h1
    exact DL_of (k := k) (by simp only [den, hk, Option.map_some])
theorem DL_loop (c : C) : DL X (.loop c) σ = (DL X c σ).bind (andThen (DL X (.loop c))) := by
  refine opt_eq (fun r h => ?_) (fun r h => ?_)
  · obtain ⟨k, hk⟩ := DL_some h
    simp only [den] at hk
    cases k with
    | zero => simp [rounds] at hk
    | succ k =>
      simp only [rounds] at hk
      obtain ⟨⟨e, σ1⟩, h1, h2⟩ := Option.bind_eq_some_iff.1 hk
      rw [DL_of h1]
      cases e with
      | n =>
        refine DL_of (k := k + 1) ?_
        simp only [den]
        exact rounds_mono (fun σ q h => h) (Nat.le_succ k) (by simpa [andThen] using h2)
      | ex id => exact h2
      | ret => exact h2
  · obtain ⟨⟨e, σ1⟩, h1, h2⟩ := Option.bind_eq_some_iff.1 h
    obtain ⟨k, hk⟩ := DL_some h1
    cases e with
    | n =>
      obtain ⟨k', hk'⟩ := DL_some (show DL X (.loop c) σ1 = some r from h2)
      refine DL_of (k := max k k' + 1) ?_
      simp only [den] at hk' ⊢
      simp only [rounds]
      rw [den_mono (LeX.refl X) (Nat.le_trans (Nat.le_max_left k k') (Nat.le_succ _)) c hk]
      simp only [Option.bind_some, andThen]
      exact rounds_mono (fun σ q h => den_mono (LeX.refl X) (Nat.le_trans (Nat.le_max_right k k') (Nat.le_succ _)) c h) (Nat.le_max_right k k') hk'
    | ex id =>
      refine DL_of (k := k + 1) ?_
      simp only [den, rounds]
      rw [den_mono (LeX.refl X) (Nat.le_succ k) c hk]
      exact h2
    | ret =>
      refine DL_of (k := k + 1) ?_
      simp only [den, rounds]
      rw [den_mono (LeX.refl X) (Nat.le_succ k) c hk]
      exact h2
end

section
variable (Tb : Nat → Option Fn) (E : XF)
theorem kstep_cont (i : I) {σ : St} : ∀ {σ' : St}, kstep (evL Tb E) i σ = some σ' → ∃ k, kstep (ev Tb E k) i σ = some σ' := by
  induction i with
  | gd g want d i ih =>
    intro σ' h
    simp only [kstep] at h ⊢
    split at h
    · rename_i t ht
      by_cases e : t = want
      · rw [if_pos e] at h; obtain ⟨k, hk⟩ := ih h; exact ⟨k, by rw [if_pos e]; exact hk⟩
      · rw [if_neg e] at h; exact ⟨0, by rw [if_neg e]; exact h⟩
    · exact ⟨0, h⟩
    · cases h
  | call d fz ps f args =>
    intro σ' h
    simp only [kstep] at h ⊢
    split at h
    case h_2 => cases h
    obtain ⟨ds, h1, h⟩ := Option.bind_eq_some_iff.1 h
    obtain ⟨obs, h3, h⟩ := Option.bind_eq_some_iff.1 h
    obtain ⟨r, h2, h⟩ := Option.bind_eq_some_iff.1 h
    obtain ⟨k, hk⟩ := evL_some Tb E h2
    refine ⟨k, ?_⟩
    rw [h1, Option.bind_some, h3, Option.bind_some, hk]
    exact h
  | an A B K L i ih =>
    intro σ' h
    simp only [kstep] at h ⊢
    split at h
    case isFalse => cases h
    rename_i e
    obtain ⟨σ1, h1, h2⟩ := Option.bind_eq_some_iff.1 h
    obtain ⟨k, hk⟩ := ih h1
    exact ⟨k, by rw [if_pos e, hk]; exact h2⟩
  | _ => intro σ' h; exact ⟨0, h⟩
theorem krun_cont : ∀ {l : List I} {σ σ' : St}, krun (evL Tb E) l σ = some σ' → ∃ k, krun (ev Tb E k) l σ = some σ'
  | [], _, _, h => ⟨0, h⟩
  | i :: l, σ, σ', h => by
    simp only [krun] at h
    obtain ⟨σ1, h1, h2⟩ := Option.bind_eq_some_iff.1 h
    obtain ⟨k1, hk1⟩ := kstep_cont Tb E i h1
    obtain ⟨k2, hk2⟩ := krun_cont h2
    refine ⟨max k1 k2, ?_⟩
    simp only [krun]
    rw [kstep_mono (ev_mono Tb E (Nat.le_max_left k1 k2)) i hk1]
    exact krun_mono (ev_mono Tb E (Nat.le_max_right k1 k2)) hk2
theorem den_cont {n : Nat} (c : C) : ∀ {σ : St} {q : Ex × St}, den (evL Tb E) n c σ = some q → ∃ k, den (ev Tb E k) n c σ = some q := by
  have up : ∀ {c : C} {σ : St} {q : Ex × St} {k k' : Nat}, k ≤ k' → den (ev Tb E k) n c σ = some q → den (ev Tb E k') n c σ = some q := fun hk h => den_mono (ev_mono Tb E hk) (Nat.le_refl n) _ h
  induction c with
  | r is =>
    intro σ q h
    simp only [den] at h ⊢
    obtain ⟨σ1, h1, rfl⟩ := Option.map_eq_some_iff.1 h
    obtain ⟨k, hk⟩ := krun_cont Tb E h1
    exact ⟨k, by rw [hk]; rfl⟩
  | dr rgs is =>
    intro σ q h
    simp only [den] at h ⊢
    obtain ⟨σ1, h1, rfl⟩ := Option.map_eq_some_iff.1 h
    obtain ⟨k, hk⟩ := krun_cont Tb E h1
    exact ⟨k, by rw [hk]; rfl⟩
  | pre is c ih =>
    intro σ q h
    simp only [den] at h ⊢
    obtain ⟨σ1, h1, h2⟩ := Option.bind_eq_some_iff.1 h
    obtain ⟨k1, hk1⟩ := krun_cont Tb E h1
    obtain ⟨k2, hk2⟩ := ih h2
    exact ⟨max k1 k2, by rw [krun_mono (ev_mono Tb E (Nat.le_max_left k1 k2)) hk1]; exact up (Nat.le_max_right k1 k2) hk2⟩
  | post c is ih =>
    intro σ q h
    simp only [den] at h ⊢
    obtain ⟨⟨e, σ1⟩, h1, h2⟩ := Option.bind_eq_some_iff.1 h
    obtain ⟨k1, hk1⟩ := ih h1
    cases e with
    | n =>
      simp only [andThen] at h2
      obtain ⟨σ2, h3, rfl⟩ := Option.map_eq_some_iff.1 h2
      obtain ⟨k2, hk2⟩ := krun_cont Tb E h3
      refine ⟨max k1 k2, ?_⟩
      rw [up (Nat.le_max_left k1 k2) hk1]
      simp only [Option.bind_some, andThen]
      rw [krun_mono (ev_mono Tb E (Nat.le_max_right k1 k2)) hk2]; rfl
    | ex id => exact ⟨k1, by rw [hk1]; exact h2⟩
    | ret => exact ⟨k1, by rw [hk1]; exact h2⟩
  | skip => intro σ q h; exact ⟨0, h⟩
  | seq a b iha ihb =>
    intro σ q h
    simp only [den] at h ⊢
    obtain ⟨⟨e, σ1⟩, h1, h2⟩ := Option.bind_eq_some_iff.1 h
    obtain ⟨k1, hk1⟩ := iha h1
    cases e with
    | n =>
      obtain ⟨k2, hk2⟩ := ihb (show den (evL Tb E) n b σ1 = some q from h2)
      refine ⟨max k1 k2, ?_⟩
      rw [up (Nat.le_max_left k1 k2) hk1]
      exact up (Nat.le_max_right k1 k2) hk2
    | ex id => exact ⟨k1, by rw [hk1]; exact h2⟩
    | ret => exact ⟨k1, by rw [hk1]; exact h2⟩
  | cond o a b iha ihb =>
    intro σ q h
    simp only [den] at h ⊢
    split at h
    · rename_i t ht
      cases t
      · simp only [Bool.false_eq_true, if_false] at h ⊢; exact ihb h
      · simp only [if_true] at h ⊢; exact iha h
    · cases h
  | blk id c ih =>
    intro σ q h
    simp only [den] at h ⊢
    obtain ⟨q1, h1, rfl⟩ := Option.map_eq_some_iff.1 h
    obtain ⟨k, hk⟩ := ih h1
    exact ⟨k, by rw [hk]; rfl⟩
  | loop c ih =>
    intro σ q h
    simp only [den] at h ⊢
    have key : ∀ (m : Nat) {σ : St} {q : Ex × St}, rounds (den (evL Tb E) n c) m σ = some q → ∃ k, rounds (den (ev Tb E k) n c) m σ = some q := by
      intro m
      induction m with
      | zero => intro σ q h; simp [rounds] at h
      | succ m ihm =>
        intro σ q h
        simp only [rounds] at h ⊢
        obtain ⟨⟨e, σ1⟩, h1, h2⟩ := Option.bind_eq_some_iff.1 h
        obtain ⟨k1, hk1⟩ := ih h1
        cases e with
        | n =>
          obtain ⟨k2, hk2⟩ := ihm (show rounds (den (evL Tb E) n c) m σ1 = some q from h2)
          refine ⟨max k1 k2, ?_⟩
          rw [up (Nat.le_max_left k1 k2) hk1]
          exact rounds_mono (fun σ q h => up (Nat.le_max_right k1 k2) h) (Nat.le_refl m) hk2
        | ex id => exact ⟨k1, by rw [hk1]; exact h2⟩
        | ret => exact ⟨k1, by rw [hk1]; exact h2⟩
    exact key n h
  | ex id => intro σ q h; exact ⟨0, h⟩
  | ret => intro σ q h; exact ⟨0, h⟩

/-- A function of the table. -/
theorem evL_eq {f : Nat} {fn : Fn} (hf : Tb f = some fn) (ds : List AV) (obs : List Ob) : evL Tb E f ds obs = (entered fn ds obs).bind fun σ => (DL (evL Tb E) fn.body σ).bind (ended fn obs.length) := by
  refine opt_eq (fun r h => ?_) (fun r h => ?_)
  · obtain ⟨k, hk⟩ := evL_some Tb E h
    cases k with
    | zero => simp [ev] at hk
    | succ k =>
      simp only [ev, hf, evFn] at hk
      obtain ⟨σ, h1, hk⟩ := Option.bind_eq_some_iff.1 hk
      obtain ⟨q, h2, h3⟩ := Option.bind_eq_some_iff.1 hk
      rw [h1]
      simp only [Option.bind_some]
      rw [DL_of (den_mono (fun f ds obs r h => evL_of Tb E h) (Nat.le_refl k) _ h2)]
      exact h3
  · obtain ⟨σ, h1, h⟩ := Option.bind_eq_some_iff.1 h
    obtain ⟨q, h2, h3⟩ := Option.bind_eq_some_iff.1 h
    obtain ⟨n, hn⟩ := DL_some h2
    obtain ⟨k, hk⟩ := den_cont Tb E fn.body hn
    refine evL_of Tb E (k := max n k + 1) ?_
    simp only [ev, hf, evFn, h1, Option.bind_some]
    rw [den_mono (ev_mono Tb E (Nat.le_max_right n k)) (Nat.le_max_left n k) _ hk]
    exact h3
theorem evL_ext {f : Nat} (hf : Tb f = none) (ds : List AV) (obs : List Ob) : evL Tb E f ds obs = E f ds obs := by
  refine opt_eq (fun r h => ?_) (fun r h => ?_)
  · obtain ⟨k, hk⟩ := evL_some Tb E h
    cases k with
    | zero => simp [ev] at hk
    | succ k => simpa only [ev, hf] using hk
  · exact evL_of Tb E (k := 1) (by simpa only [ev, hf] using h)
end
end Go.Proofs.YtniakiefibpgmaaGreatDoorK
