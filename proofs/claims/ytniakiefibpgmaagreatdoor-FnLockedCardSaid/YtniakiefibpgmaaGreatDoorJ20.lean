/- Regions whose order is drawn: what two instructions that have nothing to do with each other do, they do in either order. -/
import Derived.Test.YtniakiefibpgmaaGreatDoorJ19
set_option linter.unusedVariables false
set_option linter.unusedSimpArgs false
namespace Go.Proofs.YtniakiefibpgmaaGreatDoorK
open Go.RowKit

section
variable {X : XF} {σ τ σ' τ' : St} {o : Nat}

/-! ### Names -/
mutual
theorem refs_names : ∀ (v : AV), v.refs o = true ↔ o ∈ v.names
  | .vw _ _ => by simp [AV.refs, AV.names]
  | .h _ _ _ => by simp [AV.refs, AV.names]
  | .p _ _ _ => by simp [AV.refs, AV.names]
  | .rp (some _) _ => by simp [AV.refs, AV.names]
  | .rp none _ => by simp [AV.refs, AV.names]
  | .rf v => by simp only [AV.refs, AV.names]; exact refs_names v
  | .agg l => by simp only [AV.refs, AV.names]; exact refsL_names l
  | .tup l => by simp only [AV.refs, AV.names]; exact refsL_names l
  | .clo _ l => by simp only [AV.refs, AV.names]; exact refsL_names l
  | .d _ => by simp [AV.refs, AV.names]
  | .nil _ => by simp [AV.refs, AV.names]
  | .junk => by simp [AV.refs, AV.names]
theorem refsL_names : ∀ (l : List AV), AV.refsL o l = true ↔ o ∈ AV.namesL l
  | [] => by simp [AV.refsL, AV.namesL]
  | v :: l => by simp [AV.refsL, AV.namesL, refs_names v, refsL_names l]
end
mutual
theorem looks_lnames : ∀ (v : AV), v.looks o = true ↔ o ∈ v.lnames
  | .vw _ _ => by simp [AV.looks, AV.lnames]
  | .h _ _ _ => by simp [AV.looks, AV.lnames]
  | .p _ _ _ => by simp [AV.looks, AV.lnames]
  | .rp (some _) _ => by simp [AV.looks, AV.lnames]
  | .rp none _ => by simp [AV.looks, AV.lnames]
  | .rf v => by simp only [AV.looks, AV.lnames]; exact looks_lnames v
  | .agg l => by simp only [AV.looks, AV.lnames]; exact looksL_lnames l
  | .tup l => by simp only [AV.looks, AV.lnames]; exact looksL_lnames l
  | .clo _ l => by simp only [AV.looks, AV.lnames]; exact looksL_lnames l
  | .d _ => by simp [AV.looks, AV.lnames]
  | .nil _ => by simp [AV.looks, AV.lnames]
  | .junk => by simp [AV.looks, AV.lnames]
theorem looksL_lnames : ∀ (l : List AV), AV.looksL o l = true ↔ o ∈ AV.lnamesL l
  | [] => by simp [AV.looksL, AV.lnamesL]
  | v :: l => by simp [AV.looksL, AV.lnamesL, looks_lnames v, looksL_lnames l]
end
theorem lends_lentN : ∀ {hs : List (Nat × Nat × Option Nat)}, lends o hs = true ↔ o ∈ lentN hs
  | [] => by simp [lends, lentN]
  | (_, _, some x) :: r => by
    simp only [lends, lentN, Bool.or_eq_true, decide_eq_true_eq, Option.some.injEq, List.mem_cons, lends_lentN (hs := r)]
    exact ⟨fun h => h.imp Eq.symm id, fun h => h.imp Eq.symm id⟩
  | (_, _, none) :: r => by simp only [lends, lentN, Bool.or_eq_true, decide_eq_true_eq, reduceCtorEq, false_or, lends_lentN (hs := r)]
theorem Ob.refs_names {ob : Ob} : ob.refs o = true ↔ o ∈ ob.names := by
  cases ob with
  | ls t fz l k hs => exact lends_lentN
  | fn v => exact Go.Proofs.YtniakiefibpgmaaGreatDoorK.refs_names v
theorem off_mem {A l : List Nat} : off A l = true ↔ ∀ o ∈ l, inN A o = false := by simp [off]
theorem unlent_id : ∀ {hs : List (Nat × Nat × Option Nat)}, ¬ o ∈ lentN hs → unlent o hs = hs
  | [], _ => rfl
  | (a, b, some x) :: r, h => by
    simp only [lentN, List.mem_cons, not_or] at h
    simp only [unlent, unlent_id h.2, Option.some.injEq, if_neg (fun e => h.1 (Eq.symm e))]
  | (a, b, none) :: r, h => by
    simp only [lentN] at h
    simp [unlent, unlent_id h]
theorem Ob.unref_id {ob : Ob} (h : ¬ o ∈ ob.names) : ob.unref o = ob := by
  cases ob with
  | ls t fz l k hs => simp only [Ob.unref, unlent_id h]
  | fn v =>
    have : ¬ v.refs o = true := fun e => h ((Go.Proofs.YtniakiefibpgmaaGreatDoorK.refs_names v).1 e)
    simp only [Ob.unref, if_neg this]

/-! ### Changes -/
inductive Pr where
  | gone (o : Nat)
  | new (o : Nat) (ob : Ob)
  | turn (o : Nat) (ob : Ob)
  | less (o : Nat) (ob : Ob)
def Pr.ap : Pr → St → St
  | .gone o, σ => σ.gone o
  | .new o ob, σ => σ.new o ob
  | .turn o ob, σ => σ.turn o ob
  | .less o ob, σ => σ.less o ob
def apP : List Pr → St → St
  | [], σ => σ
  | p :: l, σ => apP l (p.ap σ)
def Pr.kl : Pr → List Nat
  | .gone o => [o]
  | .new o _ => [o]
  | _ => []
def Pr.lk : Pr → List Nat
  | .turn o _ => [o]
  | .less o _ => [o]
  | _ => []
def Pr.tn : Pr → List Nat
  | .turn o _ => [o]
  | _ => []
def jk (K L : List Nat) (v : AV) : AV := if (K.any fun o => v.refs o) || (L.any fun o => v.looks o) then .junk else v
theorem jk_nil (v : AV) : jk [] [] v = v := by simp [jk]
theorem jk_junk (K L : List Nat) : jk K L .junk = .junk := by simp [jk]
theorem jk_jk (K L K' L' : List Nat) (v : AV) : jk K' L' (jk K L v) = jk (K ++ K') (L ++ L') v := by
  unfold jk
  simp only [List.any_append]
  cases (K.any fun o => v.refs o) <;> cases (L.any fun o => v.looks o) <;> simp [AV.refs, AV.looks]
theorem jk_comm (K L K' L' : List Nat) (v : AV) : jk K' L' (jk K L v) = jk K L (jk K' L' v) := by
  rw [jk_jk, jk_jk]
  unfold jk
  simp only [List.any_append]
  cases (K.any fun o => v.refs o) <;> cases (L.any fun o => v.looks o) <;> cases (K'.any fun o => v.refs o) <;> cases (L'.any fun o => v.looks o) <;> rfl
theorem jk_id {K L : List Nat} {v : AV} (h1 : ∀ o ∈ K, ¬ o ∈ v.names) (h2 : ∀ o ∈ L, ¬ o ∈ v.lnames) : jk K L v = v := by
  unfold jk
  rw [if_neg]
  simp only [Bool.or_eq_true, List.any_eq_true, not_or, not_exists, not_and]
  exact ⟨fun o ho e => h1 o ho ((refs_names v).1 e), fun o ho e => h2 o ho ((looks_lnames v).1 e)⟩
theorem jk_solid {K L : List Nat} {v : AV} (h : (jk K L v).solid = true) : jk K L v = v := by
  unfold jk at h ⊢
  split
  · rename_i e; rw [if_pos e] at h; cases h
  · rfl
theorem Pr.regs (p : Pr) (σ : St) (t : Nat) : klook (p.ap σ).regs t = (klook σ.regs t).map (jk p.kl p.tn) := by
  have e1 : ∀ o, jk [o] [] = fun v => if v.refs o then AV.junk else v := fun o => funext fun v => by simp [jk]
  have e2 : ∀ o, jk [] [o] = fun v => if v.looks o then AV.junk else v := fun o => funext fun v => by simp [jk]
  cases p with
  | gone o => simp only [Pr.ap, St.gone, St.unref, Pr.kl, Pr.tn, e1]; exact klook_map (fun v : AV => if v.refs o then AV.junk else v) σ.regs t
  | new o ob => simp only [Pr.ap, St.new, St.unref, Pr.kl, Pr.tn, e1]; exact klook_map (fun v : AV => if v.refs o then AV.junk else v) σ.regs t
  | turn o ob => simp only [Pr.ap, St.turn, St.unlook, Pr.kl, Pr.tn, e2]; exact klook_map (fun v : AV => if v.looks o then AV.junk else v) σ.regs t
  | less o ob => have : jk [] [] = id := funext jk_nil
                 simp [Pr.ap, St.less, Pr.kl, Pr.tn, this]
def Pr.ob (p : Pr) (k : Nat) (x : Option Ob) : Option Ob :=
  match p with
  | .gone o => if k = o then none else x.map (Ob.unref o)
  | .new o ob => if k = o then some ob else x.map (Ob.unref o)
  | .turn o ob => if k = o then some ob else x
  | .less o ob => if k = o then some ob else x
theorem klook_kput {α : Type} (l : List (Nat × α)) (o k : Nat) (v : α) : klook (kput l o v) k = if k = o then some v else klook l k := by
  by_cases h : k = o
  · subst h; rw [if_pos rfl, klook_kput_same]
  · rw [if_neg h, klook_kput_ne _ _ h]
theorem Pr.objs (p : Pr) (σ : St) (k : Nat) : klook (p.ap σ).objs k = p.ob k (klook σ.objs k) := by
  cases p with
  | gone o => simp only [Pr.ap, St.gone, St.unref, klook_kdel, klook_map, Pr.ob]
  | new o ob => simp only [Pr.ap, St.new, St.unref, klook_kput, klook_map, Pr.ob]
  | turn o ob => simp only [Pr.ap, St.turn, St.unlook, klook_kput, Pr.ob]
  | less o ob => simp only [Pr.ap, St.less, klook_kput, Pr.ob]
def kills (l : List Pr) : List Nat := l.flatMap Pr.kl
def turns (l : List Pr) : List Nat := l.flatMap Pr.tn
def lesss (l : List Pr) : List Nat := l.flatMap Pr.lk
def objP : List Pr → Nat → Option Ob → Option Ob
  | [], _, x => x
  | p :: l, k, x => objP l k (p.ob k x)
theorem apP_regs : ∀ (l : List Pr) (σ : St) (t : Nat), klook (apP l σ).regs t = (klook σ.regs t).map (jk (kills l) (turns l))
  | [], σ, t => by
    have : jk [] [] = id := funext jk_nil
    simp [apP, kills, turns, this]
  | p :: l, σ, t => by
    simp only [apP, apP_regs l, Pr.regs, Option.map_map]
    have : jk (kills l) (turns l) ∘ jk p.kl p.tn = jk (kills (p :: l)) (turns (p :: l)) := funext fun v => by
      simp only [Function.comp, jk_jk, kills, turns, List.flatMap_cons]
    rw [this]
theorem apP_objs : ∀ (l : List Pr) (σ : St) (k : Nat), klook (apP l σ).objs k = objP l k (klook σ.objs k)
  | [], _, _ => rfl
  | p :: l, σ, k => by simp only [apP, apP_objs l, Pr.objs, objP]
theorem apP_app : ∀ (l r : List Pr) (σ : St), apP (l ++ r) σ = apP r (apP l σ)
  | [], _, _ => rfl
  | p :: l, r, σ => apP_app l r (p.ap σ)
theorem objP_app : ∀ (l r : List Pr) (k : Nat) (x : Option Ob), objP (l ++ r) k x = objP r k (objP l k x)
  | [], _, _, _ => rfl
  | p :: l, r, k, x => objP_app l r k (p.ob k x)
theorem kills_app (l r : List Pr) : kills (l ++ r) = kills l ++ kills r := by simp [kills]
theorem turns_app (l r : List Pr) : turns (l ++ r) = turns l ++ turns r := by simp [turns]
theorem lesss_app (l r : List Pr) : lesss (l ++ r) = lesss l ++ lesss r := by simp [lesss]
theorem objP_id : ∀ {l : List Pr} {k : Nat} {x : Option Ob}, ¬ k ∈ kills l → ¬ k ∈ lesss l → (∀ ob, x = some ob → ∀ o ∈ kills l, ¬ o ∈ ob.names) → objP l k x = x
  | [], _, _, _, _, _ => rfl
  | p :: l, k, x, h1, h2, h3 => by
    simp only [kills, lesss, List.flatMap_cons, List.mem_append, not_or] at h1 h2
    have e : p.ob k x = x := by
      have un : ∀ o, o ∈ p.kl → x.map (Ob.unref o) = x := fun o ho => by
        cases x with
        | none => rfl
        | some ob => simp only [Option.map_some, Ob.unref_id (h3 ob rfl o (by simp [kills, ho]))]
      cases p with
      | gone o => simp only [Pr.kl, List.mem_singleton] at h1; simp only [Pr.ob, if_neg h1.1, un o (by simp [Pr.kl])]
      | new o ob => simp only [Pr.kl, List.mem_singleton] at h1; simp only [Pr.ob, if_neg h1.1, un o (by simp [Pr.kl])]
      | turn o ob => simp only [Pr.lk, List.mem_singleton] at h2; simp only [Pr.ob, if_neg h2.1]
      | less o ob => simp only [Pr.lk, List.mem_singleton] at h2; simp only [Pr.ob, if_neg h2.1]
    simp only [objP, e]
    exact objP_id h1.2 h2.2 fun ob e o ho => h3 ob e o (by simp only [kills, List.flatMap_cons, List.mem_append]; exact .inr ho)
def fin (d : Option Nat) (u : AV) (σ : St) : St := match d with | some d => σ.set d u | none => σ
theorem fin_objs (d : Option Nat) (u : AV) (σ : St) : (fin d u σ).objs = σ.objs := by cases d <;> rfl
theorem fin_regs (d : Option Nat) (u : AV) (σ : St) (t : Nat) : klook (fin d u σ).regs t = if d = some t then some u else klook σ.regs t := by
  cases d with
  | none => rfl
  | some d =>
    simp only [fin, St.set, klook_kput, Option.some.injEq]
    by_cases h : t = d
    · rw [if_pos h, if_pos h.symm]
    · rw [if_neg h, if_neg (Ne.symm h)]

/-! ### What is read -/
def oreads : O → List Nat
  | .t n => [n]
  | .c _ => []
def osreads (l : List O) : List Nat := l.flatMap oreads
theorem op_eq {x : O} (hr : ∀ t ∈ oreads x, τ.reg t = σ.reg t) : τ.op x = σ.op x := by
  cases x with
  | t n => exact hr n (by simp [oreads])
  | c v => rfl
theorem op_eq' {l : List O} (hr : ∀ t ∈ osreads l, τ.reg t = σ.reg t) {x : O} (hx : x ∈ l) : τ.op x = σ.op x := op_eq fun t ht => hr t (List.mem_flatMap.2 ⟨x, hx, ht⟩)
theorem allOf_congr {α β : Type} {f g : α → Option β} : ∀ {l : List α}, (∀ x ∈ l, f x = g x) → allOf f l = allOf g l
  | [], _ => rfl
  | a :: l, h => by
    simp only [allOf]
    rw [h a (by simp), allOf_congr (l := l) fun x hx => h x (by simp [hx])]
theorem allOf_mem {α β : Type} {f : α → Option β} : ∀ {l : List α} {r : List β}, allOf f l = some r → ∀ y ∈ r, ∃ x ∈ l, f x = some y
  | [], r, h, y, hy => by simp only [allOf, Option.some.injEq] at h; subst h; cases hy
  | a :: l, r, h, y, hy => by
    simp only [allOf] at h
    obtain ⟨b, h1, h⟩ := Option.bind_eq_some_iff.1 h
    obtain ⟨r', h2, rfl⟩ := Option.map_eq_some_iff.1 h
    rcases List.mem_cons.1 hy with e | e
    · subst e; exact ⟨a, by simp, h1⟩
    · obtain ⟨x, hx, e⟩ := allOf_mem h2 y e; exact ⟨x, by simp [hx], e⟩
theorem klook_mem {α : Type} : ∀ {l : List (Nat × α)} {k : Nat} {v : α}, klook l k = some v → (k, v) ∈ l
  | (a, u) :: r, k, v, h => by
    simp only [klook] at h
    split at h
    · rename_i e; subst e; cases h; exact List.mem_cons_self ..
    · exact List.mem_cons_of_mem _ (klook_mem h)
/-- They agree on these objects. -/
def AgO (l : List Nat) (σ τ : St) : Prop := ∀ k ∈ l, klook τ.objs k = klook σ.objs k
theorem AgO.flat {α : Type} {f : α → List Nat} {l : List α} (h : AgO (l.flatMap f) σ τ) {x : α} (hx : x ∈ l) : AgO (f x) σ τ := fun k hk => h k (List.mem_flatMap.2 ⟨x, hx, hk⟩)
theorem rdv_congr : ∀ (n : Fu) (v : AV), AgO (rdv σ n v) σ τ → rdv τ n v = rdv σ n v
  | .z, _, _ => rfl
  | .s n, v, h => by
    cases v with
    | p k i j =>
      simp only [rdv] at h ⊢
      have e := h k (by simp)
      rw [e]
      cases hk : klook σ.objs k with
      | none => rfl
      | some ob =>
        rw [hk] at h
        cases ob with
        | ls t fz l kk hs => rfl
        | fn u => simp only at h ⊢; rw [rdv_congr n u fun k hk => h k (by simp [hk])]
    | rf u => simp only [rdv] at h ⊢; exact rdv_congr n u h
    | agg l => simp only [rdv, List.flatMap_def] at h ⊢; rw [List.map_congr_left fun x hx => rdv_congr n x (AgO.flat h hx)]
    | clo f l => simp only [rdv, List.flatMap_def] at h ⊢; rw [List.map_congr_left fun x hx => rdv_congr n x (AgO.flat h hx)]
    | rp q cs => cases q <;> rfl
    | _ => rfl
theorem rowsOf_ag {k off n : Nat} (h : klook τ.objs k = klook σ.objs k) : rowsOf τ k off n = rowsOf σ k off n := by simp only [rowsOf, h]
theorem arg_ag (ps : List Nat) : ∀ (n : Fu) (v : AV), AgO (rdv σ n v) σ τ → τ.arg ps n v = σ.arg ps n v
  | .z, _, _ => rfl
  | .s n, v, h => by
    cases v with
    | h k off m => simp only [St.arg, rowsOf_ag (h k (by simp [rdv]))]
    | p k i j =>
      simp only [rdv] at h
      simp only [St.arg, h k (by simp)]
      cases place ps k with
      | some _ => rfl
      | none =>
        cases e : klook σ.objs k with
        | none => rfl
        | some ob =>
          cases ob with
          | ls t fz l kk hs => rfl
          | fn u =>
            rw [e] at h
            simp only [Option.bind_some, arg_ag ps n u fun k hk => h k (by simp [hk])]
    | rf u =>
      simp only [rdv] at h
      simp only [St.arg, arg_ag ps n u h]
    | agg l =>
      simp only [rdv] at h
      simp only [St.arg]
      rw [allOf_congr fun x hx => arg_ag ps n x (AgO.flat h hx)]
    | clo f l =>
      simp only [rdv] at h
      simp only [St.arg]
      rw [allOf_congr fun x hx => arg_ag ps n x (AgO.flat h hx)]
    | rp q cs => cases q <;> rfl
    | _ => rfl
theorem lent_cvs {fz : Bool} {k : Nat} {hs : List (Nat × Nat × Option Nat)} {i : Nat} : ∀ {l : List D} {j o2 : Nat}, CV.lent o2 ∈ cvs fz k hs i j l → o2 ∈ lentN hs
  | [], j, o2, h => by cases h
  | x :: l, j, o2, h => by
    simp only [cvs] at h
    rcases List.mem_cons.1 h with e | e
    · unfold cv at e
      split at e
      · cases e
      · split at e
        · cases e
        · split at e
          · rename_i o3 hh
            split at e
            · cases e
            cases e
            clear h
            induction hs with
            | nil => cases hh
            | cons q hs ih =>
              obtain ⟨a, b, x⟩ := q
              simp only [holeAt] at hh
              split at hh
              · simp only [Option.some.injEq] at hh; subst hh; simp [lentN]
              · cases x with
                | none => exact ih hh
                | some y => simp only [lentN, List.mem_cons]; exact .inr (ih hh)
          · cases e
          · split at e <;> cases e
    · exact lent_cvs e
theorem viewOf_ag {k : Nat} {c : CV} (hc : ∀ o2, c = .lent o2 → klook τ.objs o2 = klook σ.objs o2) : viewOf τ k c = viewOf σ k c := by
  cases c with
  | lent o2 => simp only [viewOf, hc o2 rfl]
  | own x => cases x <;> rfl
  | _ => rfl
theorem bnds_eq {n : Nat} {lo hi : Option O} (h1 : ∀ x ∈ ooL lo, τ.op x = σ.op x) (h2 : ∀ x ∈ ooL hi, τ.op x = σ.op x) : bnds τ n lo hi = bnds σ n lo hi := by
  have e1 : ∀ l, lo = some l → τ.op l = σ.op l := fun l e => h1 l (by subst e; simp [ooL])
  have e2 : ∀ l, hi = some l → τ.op l = σ.op l := fun l e => h2 l (by subst e; simp [ooL])
  cases lo <;> cases hi <;> simp only [Option.some.injEq, reduceCtorEq, forall_eq', false_implies, implies_true] at e1 e2 <;> simp only [bnds, *]

/-! ### Quiet instructions -/
/-- A quiet instruction: what it writes. -/
def qI : I → Bool
  | .mv _ _ => true
  | .pick _ _ _ _ => true
  | .bd _ _ _ => true
  | .bsz _ _ _ _ _ => true
  | .ld _ _ _ _ => true
  | .fa _ _ _ => true
  | .fd _ _ _ _ _ => true
  | .ia _ _ _ _ => true
  | .ix _ _ _ => true
  | .len _ _ => true
  | .lns _ _ => true
  | .bin _ _ _ _ _ => true
  | .not _ _ => true
  | .neg _ _ => true
  | .cvi _ _ _ => true
  | .b2s _ _ => true
  | .slc _ _ _ _ _ => true
  | .ext _ _ _ => true
  | .nchk _ _ => true
  | .mkf _ _ _ => true
  | .mm _ _ _ _ => true
  | .call _ fz ps _ _ => fz && ps.isEmpty
  | _ => false
theorem takeL_d : ∀ (l : List RC) (id : Nat) (σ : St) (q : List AV × St), takeL id (l.map (RC.cv true)) σ = some q → ∃ vs, q = (vs, σ) ∧ ∀ τ : St, takeL id (l.map (RC.cv true)) τ = some (vs, τ)
  | [], _, σ, q, h => by
    simp only [List.map_nil, takeL, Option.some.injEq] at h
    exact ⟨[], h.symm, fun _ => rfl⟩
  | c :: l, id, σ, q, h => by
    have go : ∀ x, RC.cv true c = .d x → ∃ vs, q = (vs, σ) ∧ ∀ τ : St, takeL id ((c :: l).map (RC.cv true)) τ = some (vs, τ) := fun x e => by
      simp only [List.map_cons, e, takeL] at h
      obtain ⟨r, h1, rfl⟩ := Option.map_eq_some_iff.1 h
      obtain ⟨vs, rfl, h2⟩ := takeL_d l (id + 1) σ r h1
      exact ⟨.d x :: vs, rfl, fun τ => by simp only [List.map_cons, e, takeL, h2, Option.map_some]⟩
    cases c with
    | fz x => exact go x rfl
    | own x => exact go x rfl
    | bx t f x => simp [RC.cv, takeL] at h
theorem openOne_fz {id : Nat} {r : RV} {q : AV × St} (h : r.openOne true id σ = some q) : q.2 = σ ∧ ∀ τ : St, r.openOne true id τ = some (q.1, τ) := by
  cases r with
  | one c =>
    simp only [RV.openOne] at h ⊢
    obtain ⟨r, h1, h2⟩ := Option.bind_eq_some_iff.1 h
    obtain ⟨vs, rfl, e⟩ := takeL_d [c] id σ r h1
    simp only [List.map_cons, List.map_nil] at e
    simp only at h2
    split at h2
    case h_2 => cases h2
    obtain rfl := Option.some.inj h2
    exact ⟨rfl, fun τ => by rw [e]; rfl⟩
  | agg l =>
    simp only [RV.openOne] at h ⊢
    split at h
    case isFalse => cases h
    rename_i e
    obtain ⟨r, h1, rfl⟩ := Option.map_eq_some_iff.1 h
    obtain ⟨vs, rfl, e2⟩ := takeL_d l id σ r h1
    exact ⟨rfl, fun τ => by rw [if_pos e, e2]; rfl⟩
  | tup l => simp [RV.openOne] at h
theorem openTup_fz : ∀ (l : List RV) {id : Nat} {q : List AV × St}, openTup true id l σ = some q → q.2 = σ ∧ ∀ τ : St, openTup true id l τ = some (q.1, τ)
  | [], id, q, h => by simp only [openTup, Option.some.injEq] at h; subst h; exact ⟨rfl, fun _ => rfl⟩
  | r :: l, id, q, h => by
    simp only [openTup] at h
    obtain ⟨q1, h1, h⟩ := Option.bind_eq_some_iff.1 h
    obtain ⟨q2, h2, rfl⟩ := Option.map_eq_some_iff.1 h
    obtain ⟨e1, e2⟩ := openOne_fz h1
    rw [e1] at h2
    obtain ⟨e3, e4⟩ := openTup_fz l h2
    exact ⟨e3, fun τ => by simp only [openTup, e2 τ, e4 τ, Option.bind_some, Option.map_some]⟩
theorem opened_fz {id : Nat} {r : RV} {q : AV × St} (h : r.opened true id σ = some q) : q.2 = σ ∧ ∀ τ : St, r.opened true id τ = some (q.1, τ) := by
  cases r with
  | tup l =>
    simp only [RV.opened] at h ⊢
    split at h
    case isFalse => cases h
    rename_i e60
    obtain ⟨q2, h2, rfl⟩ := Option.map_eq_some_iff.1 h
    obtain ⟨e3, e4⟩ := openTup_fz l h2
    exact ⟨e3, fun τ => by simp only [if_pos e60, e4 τ, Option.map_some]⟩
  | one c => exact openOne_fz (r := .one c) (show RV.openOne true id σ (.one c) = some q from h)
  | agg l => exact openOne_fz (r := .agg l) (show RV.openOne true id σ (.agg l) = some q from h)
/-- What a value leads to is alike. -/
def AgV (v : AV) (σ τ : St) : Prop := AgO (rdv σ fu7 v) σ τ
theorem rdv_succ : ∀ (n : Fu) (v : AV) {k : Nat}, k ∈ rdv σ n v → k ∈ rdv σ (.s n) v
  | .z, _, _, h => by simp [rdv] at h
  | .s n, v, k, h => by
    cases v with
    | p o i j =>
      simp only [rdv, List.mem_cons] at h ⊢
      refine h.imp id fun h => ?_
      cases e : klook σ.objs o with
      | none => rw [e] at h; exact h
      | some ob =>
        rw [e] at h
        cases ob with
        | ls t fz l kk hs => exact h
        | fn u => exact rdv_succ n u h
    | rf u => simp only [rdv] at h ⊢; exact rdv_succ n u h
    | agg l =>
      simp only [rdv, List.mem_flatMap] at h ⊢
      obtain ⟨x, hx, h⟩ := h
      exact ⟨x, hx, rdv_succ n x h⟩
    | clo f l =>
      simp only [rdv, List.mem_flatMap] at h ⊢
      obtain ⟨x, hx, h⟩ := h
      exact ⟨x, hx, rdv_succ n x h⟩
    | rp q cs => cases q <;> exact h
    | _ => exact h
theorem quiet1 (i : I) (hq : qI i = true) (hs : kstep X i σ = some σ') :
    ∃ u, σ' = fin (dstI i) u σ ∧ ∀ τ : St, (∀ x ∈ opsI i, τ.op x = σ.op x) → (rdC i = true → ∀ x ∈ opsI i, AgV (σ.op x) σ τ) → kstep X i τ = some (fin (dstI i) u τ) := by
  cases i with
  | mv d x =>
    simp only [kstep, Option.some.injEq] at hs
    exact ⟨_, hs.symm, fun τ hr _ => by simp only [kstep, fin, dstI]; rw [hr x (by simp [opsI])]⟩
  | pick d c x y =>
    simp only [kstep] at hs
    split at hs
    case h_2 => cases hs
    rename_i t ht
    simp only [Option.some.injEq] at hs
    exact ⟨_, hs.symm, fun τ hr _ => by simp only [kstep, fin, dstI]; rw [hr c (by simp [opsI]), hr x (by simp [opsI]), hr y (by simp [opsI]), ht]⟩
  | bd d z ps =>
    simp only [kstep] at hs
    obtain ⟨l, h1, hs⟩ := Option.bind_eq_some_iff.1 hs
    obtain ⟨r, h2, hs⟩ := Option.map_eq_some_iff.1 hs
    refine ⟨_, hs.symm, fun τ hr _ => ?_⟩
    simp only [kstep, fin, dstI]
    rw [allOf_congr (g := fun q => ((σ.op q.2.2).parts).map fun cs => (q.1, q.2.1, cs)) (fun q hq => by
      rw [hr _ (List.mem_map.2 ⟨q, hq, rfl⟩)]), h1]
    simp only [Option.bind_some, h2, Option.map_some]
  | bsz d t n z ps =>
    simp only [kstep] at hs
    obtain ⟨l, h1, hs⟩ := Option.bind_eq_some_iff.1 hs
    obtain ⟨r, h2, hs⟩ := Option.bind_eq_some_iff.1 hs
    obtain ⟨cs, h3, hs⟩ := Option.bind_eq_some_iff.1 hs
    split at hs
    case isFalse => cases hs
    rename_i hc
    obtain ⟨vs, h4, hs⟩ := Option.map_eq_some_iff.1 hs
    refine ⟨_, hs.symm, fun τ hr _ => ?_⟩
    simp only [kstep, fin, dstI]
    rw [allOf_congr (g := fun q => ((σ.op q.2).parts).map fun cs => (q.1 * t.w, t.w, cs)) (fun q hq => by
      rw [hr _ (List.mem_map.2 ⟨q, hq, rfl⟩)]), h1]
    simp only [Option.bind_some, h2, h3, if_pos hc, h4, Option.map_some]
  | ld d sz ag p =>
    simp only [kstep] at hs
    have hmem : p ∈ opsI (.ld d sz ag p) := by simp [opsI]
    generalize hp : σ.op p = q at hs
    cases q <;> simp only [reduceCtorEq] at hs
    case p k i j =>
      obtain ⟨ob, h1, hs⟩ := Option.bind_eq_some_iff.1 hs
      cases ob with
      | ls t fz l kk hs2 =>
        simp only at hs
        obtain ⟨cs, h2, hs⟩ := Option.bind_eq_some_iff.1 hs
        obtain ⟨cs2, h3, hs⟩ := Option.bind_eq_some_iff.1 hs
        obtain ⟨v, h4, hs⟩ := Option.map_eq_some_iff.1 hs
        refine ⟨v, hs.symm, fun τ hr ha => ?_⟩
        have hag := ha rfl p hmem
        rw [hp] at hag
        have e1 := hag k (by simp [rdv])
        simp only [kstep, fin, dstI]
        rw [hr p hmem, hp]
        simp only [e1, h1, h2, h3, Option.bind_some]
        rw [List.map_congr_left (fun c hc => viewOf_ag (σ := σ) (fun o2 e => hag o2 (by subst e; simp only [rdv, h1, List.mem_cons]; exact .inr (lent_cvs hc)))), h4]
        rfl
      | fn v =>
        simp only at hs
        split at hs
        case isFalse => cases hs
        rename_i e
        refine ⟨v, (Option.some.inj hs).symm, fun τ hr ha => ?_⟩
        have hag := ha rfl p hmem
        rw [hp] at hag
        have e1 := hag k (by simp [rdv])
        simp only [kstep, fin, dstI]
        rw [hr p hmem, hp]
        simp only [e1, h1, Option.bind_some]
        rw [if_pos e]
    case rp k cs =>
      obtain ⟨l, h3, hs⟩ := Option.bind_eq_some_iff.1 hs
      obtain ⟨v, h4, hs⟩ := Option.map_eq_some_iff.1 hs
      refine ⟨v, hs.symm, fun τ hr _ => ?_⟩
      simp only [kstep, fin, dstI]
      rw [hr p hmem, hp]
      simp only [h3, h4, Option.bind_some, Option.map_some]
    case rf v =>
      split at hs
      case isFalse => cases hs
      rename_i e
      refine ⟨v, (Option.some.inj hs).symm, fun τ hr _ => ?_⟩
      simp only [kstep, fin, dstI]
      rw [hr p hmem, hp]
      simp only [if_pos e]
  | fa d p off =>
    simp only [kstep] at hs
    generalize hp : σ.op p = q at hs
    cases q <;> simp only [reduceCtorEq] at hs
    case p k i j => exact ⟨_, (Option.some.inj hs).symm, fun τ hr _ => by simp only [kstep, fin, dstI]; rw [hr p (by simp [opsI]), hp]⟩
    case rp k cs =>
      split at hs
      case isFalse => cases hs
      rename_i e
      exact ⟨_, (Option.some.inj hs).symm, fun τ hr _ => by simp only [kstep, fin, dstI]; rw [hr p (by simp [opsI]), hp]; simp only [e, if_true]⟩
  | fd d x off sz ag =>
    simp only [kstep] at hs
    generalize hp : σ.op x = q at hs
    cases q <;> simp only [reduceCtorEq] at hs
    case agg l =>
      obtain ⟨l2, h3, hs⟩ := Option.bind_eq_some_iff.1 hs
      obtain ⟨v, h4, hs⟩ := Option.map_eq_some_iff.1 hs
      exact ⟨v, hs.symm, fun τ hr _ => by simp only [kstep, fin, dstI]; rw [hr x (by simp [opsI]), hp]; simp only [h3, h4, Option.bind_some, Option.map_some]⟩
  | ia d sz x i =>
    simp only [kstep] at hs
    obtain ⟨n, h1, hs⟩ := Option.bind_eq_some_iff.1 hs
    split at hs
    case isFalse => cases hs
    rename_i e
    have hx : x ∈ opsI (.ia d sz x i) := by simp [opsI]
    have hi : i ∈ opsI (.ia d sz x i) := by simp [opsI]
    generalize hp : σ.op x = q at hs
    split at hs
    · obtain ⟨cs, h2, hs⟩ := Option.bind_eq_some_iff.1 hs
      split at hs
      case isFalse => cases hs
      rename_i e2
      exact ⟨_, (Option.some.inj hs).symm, fun τ hr _ => by simp only [kstep, fin, dstI]; rw [hr x hx, hr i hi, hp, h1]; simp only [Option.bind_some, e, if_true, h2, e2]⟩
    · obtain ⟨cs, h2, hs⟩ := Option.bind_eq_some_iff.1 hs
      split at hs
      case isFalse => cases hs
      rename_i e2
      exact ⟨_, (Option.some.inj hs).symm, fun τ hr _ => by simp only [kstep, fin, dstI]; rw [hr x hx, hr i hi, hp, h1]; simp only [Option.bind_some, e, if_true, h2, e2]⟩
    · rename_i k off m
      obtain ⟨ob, h2, hs⟩ := Option.bind_eq_some_iff.1 hs
      split at hs
      case isFalse => cases hs
      rename_i e2
      refine ⟨_, (Option.some.inj hs).symm, fun τ hr ha => ?_⟩
      have hag := ha rfl x hx
      rw [hp] at hag
      simp only [kstep, fin, dstI]
      rw [hr x hx, hr i hi, hp, h1]
      simp only [Option.bind_some, e, if_true, hag k (by simp [rdv]), h2]
      rw [if_pos e2]
    · cases hs
  | ix d x i =>
    simp only [kstep] at hs
    obtain ⟨n, h1, hs⟩ := Option.bind_eq_some_iff.1 hs
    split at hs
    case isFalse => cases hs
    rename_i e
    generalize hp : σ.op x = q at hs
    split at hs
    · obtain ⟨cs, h2, hs⟩ := Option.map_eq_some_iff.1 hs
      exact ⟨_, hs.symm, fun τ hr _ => by simp only [kstep, fin, dstI]; rw [hr x (by simp [opsI]), hr i (by simp [opsI]), hp, h1]; simp only [Option.bind_some, e, if_true, h2, Option.map_some]⟩
    · cases hs
  | len d x =>
    simp only [kstep] at hs
    generalize hp : σ.op x = q at hs
    split at hs <;> first | exact ⟨_, (Option.some.inj hs).symm, fun τ hr _ => by simp only [kstep, fin, dstI]; rw [hr x (by simp [opsI]), hp]⟩ | cases hs
  | lns d x =>
    simp only [kstep] at hs
    generalize hp : σ.op x = q at hs
    split at hs <;> first | exact ⟨_, (Option.some.inj hs).symm, fun τ hr _ => by simp only [kstep, fin, dstI]; rw [hr x (by simp [opsI]), hp]⟩ | cases hs
  | bin d op ty x y =>
    simp only [kstep] at hs
    obtain ⟨v, h4, hs⟩ := Option.map_eq_some_iff.1 hs
    refine ⟨_, hs.symm, fun τ hr _ => ?_⟩
    simp only [kstep, fin, dstI]
    rw [hr x (by simp [opsI]), hr y (by simp [opsI]), h4]
    rfl
  | not d x =>
    simp only [kstep] at hs
    generalize hp : σ.op x = q at hs
    split at hs <;> first | exact ⟨_, (Option.some.inj hs).symm, fun τ hr _ => by simp only [kstep, fin, dstI]; rw [hr x (by simp [opsI]), hp]⟩ | cases hs
  | neg d x =>
    simp only [kstep] at hs
    generalize hp : σ.op x = q at hs
    split at hs <;> first | exact ⟨_, (Option.some.inj hs).symm, fun τ hr _ => by simp only [kstep, fin, dstI]; rw [hr x (by simp [opsI]), hp]⟩ | cases hs
  | cvi d k x =>
    simp only [kstep] at hs
    generalize hp : σ.op x = q at hs
    split at hs
    · split at hs <;> rename_i e <;> exact ⟨_, (Option.some.inj hs).symm, fun τ hr _ => by simp only [kstep, fin, dstI]; rw [hr x (by simp [opsI]), hp]; dsimp only; first | rw [if_pos e] | rw [if_neg e]⟩
    · split at hs <;> rename_i e <;> exact ⟨_, (Option.some.inj hs).symm, fun τ hr _ => by simp only [kstep, fin, dstI]; rw [hr x (by simp [opsI]), hp]; dsimp only; first | rw [if_pos e] | rw [if_neg e]⟩
    · cases hs
  | b2s d x =>
    simp only [kstep] at hs
    have hx : x ∈ opsI (.b2s d x) := by simp [opsI]
    generalize hp : σ.op x = q at hs
    split at hs
    · exact ⟨_, (Option.some.inj hs).symm, fun τ hr _ => by simp only [kstep, fin, dstI]; rw [hr x hx, hp]⟩
    · exact ⟨_, (Option.some.inj hs).symm, fun τ hr _ => by simp only [kstep, fin, dstI]; rw [hr x hx, hp]⟩
    · exact ⟨_, (Option.some.inj hs).symm, fun τ hr _ => by simp only [kstep, fin, dstI]; rw [hr x hx, hp]⟩
    · rename_i k off n
      obtain ⟨ob, h1, hs⟩ := Option.bind_eq_some_iff.1 hs
      cases ob with
      | ls t fz l kk hs2 =>
        obtain ⟨v, h4, hs⟩ := Option.map_eq_some_iff.1 hs
        refine ⟨_, hs.symm, fun τ hr ha => ?_⟩
        have hag := ha rfl x hx
        rw [hp] at hag
        simp only [kstep, fin, dstI]
        rw [hr x hx, hp]
        simp only [hag k (by simp [rdv]), h1, Option.bind_some, h4, Option.map_some]
      | fn v => cases hs
    · cases hs
  | slc d sz x lo hi =>
    simp only [kstep] at hs
    have hx : x ∈ opsI (.slc d sz x lo hi) := by simp [opsI]
    have hb : ∀ τ : St, (∀ y ∈ opsI (.slc d sz x lo hi), τ.op y = σ.op y) → ∀ n, bnds τ n lo hi = bnds σ n lo hi := fun τ hr n => bnds_eq (fun x hx => hr x (by simp [opsI, hx])) (fun x hx => hr x (by simp [opsI, hx]))
    generalize hp : σ.op x = q at hs
    split at hs
    · split at hs
      case isFalse => cases hs
      rename_i e
      obtain ⟨l, h5, hs⟩ := Option.map_eq_some_iff.1 hs
      exact ⟨_, hs.symm, fun τ hr _ => by simp only [kstep, fin, dstI]; rw [hr x hx, hp]; simp only [e, if_true, hb τ hr, h5, Option.map_some]⟩
    · split at hs
      case isTrue => cases hs
      rename_i e
      obtain ⟨l, h5, hs⟩ := Option.map_eq_some_iff.1 hs
      exact ⟨_, hs.symm, fun τ hr _ => by simp only [kstep, fin, dstI]; rw [hr x hx, hp]; simp only [e, if_false, hb τ hr, h5, Option.map_some]⟩
    · split at hs
      case isFalse => cases hs
      rename_i e
      obtain ⟨l, h5, hs⟩ := Option.map_eq_some_iff.1 hs
      exact ⟨_, hs.symm, fun τ hr _ => by simp only [kstep, fin, dstI]; rw [hr x hx, hp]; simp only [if_pos e, hb τ hr, h5, Option.map_some]⟩
    · split at hs
      case isFalse => cases hs
      rename_i e
      obtain ⟨l, h5, hs⟩ := Option.map_eq_some_iff.1 hs
      exact ⟨_, hs.symm, fun τ hr _ => by simp only [kstep, fin, dstI]; rw [hr x hx, hp]; simp only [if_pos e, hb τ hr, h5, Option.map_some]⟩
    · rename_i k off n
      obtain ⟨ob, h6, hs⟩ := Option.bind_eq_some_iff.1 hs
      split at hs
      case isFalse => cases hs
      rename_i e
      obtain ⟨l, h5, hs⟩ := Option.map_eq_some_iff.1 hs
      refine ⟨_, hs.symm, fun τ hr ha => ?_⟩
      have hag := ha rfl x hx
      rw [hp] at hag
      simp only [kstep, fin, dstI]
      rw [hr x hx, hp]
      simp only [hag k (by simp [rdv]), h6, Option.bind_some, if_pos e, hb τ hr, h5, Option.map_some]
    · cases hs
  | ext d x j =>
    simp only [kstep] at hs
    generalize hp : σ.op x = q at hs
    split at hs
    · obtain ⟨l, h5, hs⟩ := Option.map_eq_some_iff.1 hs
      exact ⟨_, hs.symm, fun τ hr _ => by simp only [kstep, fin, dstI]; rw [hr x (by simp [opsI]), hp]; simp only [h5, Option.map_some]⟩
    · cases hs
  | nchk d x =>
    simp only [kstep] at hs
    generalize hp : σ.op x = q at hs
    split at hs <;> first | exact ⟨_, (Option.some.inj hs).symm, fun τ hr _ => by simp only [kstep, fin, dstI]; rw [hr x (by simp [opsI]), hp]⟩ | cases hs
  | mkf d f caps =>
    simp only [kstep, Option.some.injEq] at hs
    exact ⟨_, hs.symm, fun τ hr _ => by simp only [kstep, fin, dstI]; rw [List.map_congr_left (fun x hx => hr x (by simpa [opsI] using hx))]⟩
  | mm d big x y =>
    simp only [kstep] at hs
    generalize hp : σ.op x = q at hs
    generalize hp2 : σ.op y = r at hs
    split at hs
    · split at hs
      case isFalse => cases hs
      rename_i e
      exact ⟨_, (Option.some.inj hs).symm, fun τ hr _ => by simp only [kstep, fin, dstI]; rw [hr x (by simp [opsI]), hr y (by simp [opsI]), hp, hp2]; simp only [if_pos e]⟩
    · cases hs
  | call d fz ps f args =>
    simp only [qI, Bool.and_eq_true, List.isEmpty_iff] at hq
    obtain ⟨rfl, rfl⟩ := hq
    simp only [kstep] at hs
    generalize hp : σ.op f = q at hs
    split at hs
    · rename_i fn caps
      obtain ⟨ds, h1, hs⟩ := Option.bind_eq_some_iff.1 hs
      simp only [passed, Option.bind_some] at hs
      obtain ⟨r, h2, hs⟩ := Option.bind_eq_some_iff.1 hs
      obtain ⟨ro, rv⟩ := r
      unfold called at hs
      split at hs
      case isFalse => cases hs
      rename_i e
      obtain ⟨σ1, h3, hs2⟩ := Option.bind_eq_some_iff.1 hs
      clear hs
      obtain ⟨q, h4, hs3⟩ := Option.map_eq_some_iff.1 hs2
      clear hs2
      simp only at h3 h4 e
      cases ro with
      | cons _ _ => simp [backs] at h3
      | nil =>
        simp only [backs, Option.some.injEq] at h3
        subst h3
        obtain ⟨e1, e2⟩ := opened_fz h4
        rw [e1] at hs3
        refine ⟨_, hs3.symm, fun τ hr ha => ?_⟩
        simp only [kstep, fin, dstI]
        have hargs : args.map τ.op = args.map σ.op := List.map_congr_left fun x hx => hr x (by simp [opsI, hx])
        have hv : ∀ v ∈ args.map σ.op ++ caps, τ.arg [] fu6 v = σ.arg [] fu6 v := fun v hv => by
          refine arg_ag [] fu6 v ?_
          rcases List.mem_append.1 hv with hv | hv
          · obtain ⟨x, hx, rfl⟩ := List.mem_map.1 hv
            exact fun k hk => ha rfl x (by simp [opsI, hx]) k (rdv_succ fu6 _ hk)
          · have := ha rfl f (by simp [opsI])
            rw [hp] at this
            exact fun k hk => this k (by simp only [fu7, rdv, List.mem_flatMap]; exact ⟨v, hv, hk⟩)
        rw [hr f (by simp [opsI]), hp, hargs]
        simp only [allOf_congr hv, h1, h2, Option.bind_some, passed]
        unfold called
        rw [if_pos e]
        simp only [backs, Option.bind_some, e2 τ, Option.map_some]
    · cases hs
  | _ => simp [qI] at hq

/-! ### What makes, moves and turns objects -/
def KOk (K : List Nat) (ps : List Pr) : Prop := ∀ o ∈ kills ps, inN K o = true
def LOk (K L : List Nat) (ps : List Pr) : Prop := (∀ o ∈ lesss ps, inN K o = true ∨ inN L o = true) ∧ ∀ o ∈ turns ps, inN L o = true
def AgN (A : List Nat) (σ τ : St) : Prop := ∀ k, inN A k = true → klook τ.objs k = klook σ.objs k
theorem AgN.ap (A : List Nat) (h : AgN A σ τ) (ps : List Pr) : AgN A (apP ps σ) (apP ps τ) := fun k hk => by rw [apP_objs, apP_objs, h k hk]
theorem cellsOf_eff {fz : Bool} {K : List Nat} : ∀ {l : List AV} {σ : St} {ds : List D} {σ1 : St}, cellsOf fz l σ = some (ds, σ1) → l.all (inK K) = true →
    ∃ ps, σ1 = apP ps σ ∧ KOk K ps ∧ lesss ps = [] ∧ turns ps = [] ∧ ∀ τ : St, AgN K σ τ → cellsOf fz l τ = some (ds, apP ps τ)
  | [], σ, ds, σ1, h, _ => by
    simp only [cellsOf, Option.some.injEq, Prod.mk.injEq] at h
    obtain ⟨rfl, rfl⟩ := h
    exact ⟨[], rfl, fun o ho => by simp [kills] at ho, rfl, rfl, fun τ _ => rfl⟩
  | v :: l, σ, ds, σ1, h, hk => by
    simp only [List.all_cons, Bool.and_eq_true] at hk
    simp only [cellsOf] at h
    obtain ⟨⟨c, σ2⟩, h1, h2⟩ := Option.bind_eq_some_iff.1 h
    obtain ⟨⟨cs, σ3⟩, h3, h4⟩ := Option.map_eq_some_iff.1 h2
    simp only [Prod.mk.injEq] at h4
    obtain ⟨rfl, rfl⟩ := h4
    have one : ∃ ps, σ2 = apP ps σ ∧ KOk K ps ∧ lesss ps = [] ∧ turns ps = [] ∧ ∀ τ : St, AgN K σ τ → cellOf fz τ v = some (c, apP ps τ) := by
      cases v with
      | d x =>
        simp only [cellOf] at h1 ⊢
        split at h1
        · rename_i e
          simp only [Option.some.injEq, Prod.mk.injEq] at h1
          obtain ⟨rfl, rfl⟩ := h1
          exact ⟨[], rfl, fun o ho => by simp [kills] at ho, rfl, rfl, fun τ _ => by rw [if_pos e]; rfl⟩
        · cases h1
      | nil t =>
        simp only [cellOf, Option.some.injEq, Prod.mk.injEq] at h1
        obtain ⟨rfl, rfl⟩ := h1
        exact ⟨[], rfl, fun o ho => by simp [kills] at ho, rfl, rfl, fun τ _ => rfl⟩
      | h o off n =>
        simp only [cellOf] at h1 ⊢
        obtain ⟨r, h5, h6⟩ := Option.bind_eq_some_iff.1 h1
        split at h6
        · cases h6
        rename_i e
        simp only [Option.some.injEq, Prod.mk.injEq] at h6
        obtain ⟨rfl, rfl⟩ := h6
        refine ⟨[.gone o], rfl, fun o' ho => ?_, rfl, rfl, fun τ ha => ?_⟩
        · simp only [kills, List.flatMap_cons, List.flatMap_nil, Pr.kl, List.append_nil, List.mem_singleton] at ho
          subst ho; exact hk.1
        · rw [rowsOf_ag (ha o hk.1), h5]
          simp only [Option.bind_some, if_neg e]
          rfl
      | _ => simp [cellOf] at h1
    obtain ⟨p1, rfl, k1, l1, t1, r1⟩ := one
    obtain ⟨p2, rfl, k2, l2, t2, r2⟩ := cellsOf_eff h3 hk.2
    refine ⟨p1 ++ p2, by rw [apP_app], fun o ho => ?_, by rw [lesss_app, l1, l2]; rfl, by rw [turns_app, t1, t2]; rfl, fun τ ha => ?_⟩
    · rw [kills_app] at ho
      exact (List.mem_append.1 ho).elim (k1 o) (k2 o)
    · simp only [cellsOf, r1 τ ha, Option.bind_some, r2 _ (ha.ap K p1), Option.map_some, apP_app]
theorem fillO_all {P : AV → Prop} : ∀ {ps : List (Nat × Nat × List AV)} {z r : List AV}, fillO z ps = some r → (∀ x ∈ z, P x) → (∀ q ∈ ps, ∀ x ∈ q.2.2, P x) → ∀ x ∈ r, P x
  | [], z, r, h, hz, _ => by simp only [fillO, Option.some.injEq] at h; subst h; exact hz
  | (off, sz, cs) :: ps, z, r, h, hz, hp => by
    simp only [fillO] at h
    split at h
    case isFalse => cases h
    refine fillO_all h (fun x hx => ?_) fun q hq => hp q (by simp [hq])
    simp only [List.mem_append] at hx
    rcases hx with (hx | hx) | hx
    · exact hz x (List.mem_of_mem_take hx)
    · exact hp (off, sz, cs) (by simp) x hx
    · exact hz x (List.mem_of_mem_drop hx)
theorem takeL_eff : ∀ {l : List CV} {id : Nat} {σ : St} {vs : List AV} {σ1 : St}, takeL id l σ = some (vs, σ1) →
    ∃ ps, σ1 = apP ps σ ∧ (∀ o ∈ kills ps, id ≤ o ∧ o < id + l.length) ∧ lesss ps = [] ∧ turns ps = [] ∧ (∀ o, ¬ (id ≤ o ∧ o < id + l.length) → objP ps o none = none) ∧ ∀ τ : St, takeL id l τ = some (vs, apP ps τ)
  | [], id, σ, vs, σ1, h => by
    simp only [takeL, Option.some.injEq, Prod.mk.injEq] at h
    obtain ⟨rfl, rfl⟩ := h
    exact ⟨[], rfl, fun o ho => by simp [kills] at ho, rfl, rfl, fun _ _ => rfl, fun τ => rfl⟩
  | c :: l, id, σ, vs, σ1, h => by
    have plain : ∀ {x : D}, (takeL (id + 1) l σ).map (fun q => (AV.d x :: q.1, q.2)) = some (vs, σ1) → (∀ τ : St, takeL id (c :: l) τ = (takeL (id + 1) l τ).map fun q => (AV.d x :: q.1, q.2)) →
        ∃ ps, σ1 = apP ps σ ∧ (∀ o ∈ kills ps, id ≤ o ∧ o < id + (c :: l).length) ∧ lesss ps = [] ∧ turns ps = [] ∧ (∀ o, ¬ (id ≤ o ∧ o < id + (c :: l).length) → objP ps o none = none) ∧ ∀ τ : St, takeL id (c :: l) τ = some (vs, apP ps τ) := fun h hf => by
      obtain ⟨⟨vs', σ2⟩, h1, h2⟩ := Option.map_eq_some_iff.1 h
      simp only [Prod.mk.injEq] at h2
      obtain ⟨rfl, rfl⟩ := h2
      obtain ⟨ps, e1, e2, e3, e4, e6, e5⟩ := takeL_eff h1
      exact ⟨ps, e1, fun o ho => by have := e2 o ho; simp only [List.length_cons]; omega, e3, e4, fun o ho => e6 o (by simp only [List.length_cons] at ho; omega), fun τ => by rw [hf, e5]; rfl⟩
    cases c with
    | own x =>
      cases x with
      | sl t r =>
        simp only [takeL] at h
        obtain ⟨⟨vs', σ2⟩, h1, h2⟩ := Option.map_eq_some_iff.1 h
        simp only [Prod.mk.injEq] at h2
        obtain ⟨rfl, rfl⟩ := h2
        obtain ⟨ps, e1, e2, e3, e4, e6, e5⟩ := takeL_eff h1
        refine ⟨.new id (.ls t false r 0 []) :: ps, e1, fun o ho => ?_, by simpa [lesss, Pr.lk] using e3, by simpa [turns, Pr.tn] using e4, fun o ho => ?_, fun τ => by simp only [takeL, e5]; rfl⟩
        · simp only [kills, List.flatMap_cons, Pr.kl, List.mem_append, List.mem_singleton] at ho
          simp only [List.length_cons]
          rcases ho with ho | ho
          · omega
          · have := e2 o ho; omega
        · simp only [List.length_cons] at ho
          simp only [objP, Pr.ob]
          rw [if_neg (by omega)]
          exact e6 o (by omega)
      | _ => exact plain (by simpa only [takeL] using h) (fun τ => by simp only [takeL])
    | d x => exact plain (by simpa only [takeL] using h) (fun τ => by simp only [takeL])
    | pb t f x =>
      simp only [takeL] at h
      obtain ⟨⟨vs', σ2⟩, h1, h2⟩ := Option.map_eq_some_iff.1 h
      simp only [Prod.mk.injEq] at h2
      obtain ⟨rfl, rfl⟩ := h2
      obtain ⟨ps, e1, e2, e3, e4, e6, e5⟩ := takeL_eff h1
      refine ⟨.new id (.ls t f [x] 0 []) :: ps, e1, fun o ho => ?_, by simpa [lesss, Pr.lk] using e3, by simpa [turns, Pr.tn] using e4, fun o ho => ?_, fun τ => by simp only [takeL, e5]; rfl⟩
      · simp only [kills, List.flatMap_cons, Pr.kl, List.mem_append, List.mem_singleton] at ho
        simp only [List.length_cons]
        rcases ho with ho | ho
        · omega
        · have := e2 o ho; omega
      · simp only [List.length_cons] at ho
        simp only [objP, Pr.ob]
        rw [if_neg (by omega)]
        exact e6 o (by omega)
    | _ => simp [takeL] at h
/-- New objects of names from lo on, ahead of hi. -/
def NewP (lo hi : Nat) (ps : List Pr) : Prop := (∀ o ∈ kills ps, lo ≤ o ∧ o < hi) ∧ lesss ps = [] ∧ turns ps = [] ∧ ∀ o, ¬ (lo ≤ o ∧ o < hi) → objP ps o none = none
theorem NewP.mono {lo hi lo' hi' : Nat} {ps : List Pr} (h : NewP lo hi ps) (h1 : lo' ≤ lo) (h2 : hi ≤ hi') : NewP lo' hi' ps :=
  ⟨fun o ho => by have := h.1 o ho; omega, h.2.1, h.2.2.1, fun o ho => h.2.2.2 o (by omega)⟩
theorem openOne_eff {fz : Bool} {id : Nat} {r : RV} {v : AV} {σ1 : St} (h : r.openOne fz id σ = some (v, σ1)) : ∃ ps, σ1 = apP ps σ ∧ NewP id (id + 16) ps ∧ ∀ τ : St, r.openOne fz id τ = some (v, apP ps τ) := by
  cases r with
  | one c =>
    simp only [RV.openOne] at h ⊢
    obtain ⟨⟨vs, σ2⟩, h1, h2⟩ := Option.bind_eq_some_iff.1 h
    obtain ⟨ps, e1, e2, e3, e4, e6, e5⟩ := takeL_eff h1
    simp only at h2
    split at h2
    case h_2 => cases h2
    simp only [Option.some.injEq, Prod.mk.injEq] at h2
    obtain ⟨rfl, rfl⟩ := h2
    exact ⟨ps, e1, NewP.mono (lo := id) (hi := id + 1) ⟨e2, e3, e4, e6⟩ (by omega) (by omega), fun τ => by rw [e5]; rfl⟩
  | agg l =>
    simp only [RV.openOne] at h ⊢
    split at h
    case isFalse => cases h
    rename_i e
    obtain ⟨⟨vs, σ2⟩, h1, h2⟩ := Option.map_eq_some_iff.1 h
    obtain ⟨ps, e1, e2, e3, e4, e6, e5⟩ := takeL_eff h1
    simp only [Prod.mk.injEq] at h2
    obtain ⟨rfl, rfl⟩ := h2
    simp only [List.length_map] at e2 e6
    exact ⟨ps, e1, NewP.mono (lo := id) (hi := id + l.length) ⟨e2, e3, e4, e6⟩ (by omega) (by omega), fun τ => by rw [if_pos e, e5]; rfl⟩
  | tup l => simp [RV.openOne] at h
theorem objP_none {lo hi : Nat} {ps : List Pr} (h : NewP lo hi ps) {o : Nat} (ho : ¬ (lo ≤ o ∧ o < hi)) : objP ps o none = none := h.2.2.2 o ho
theorem openTup_eff {fz : Bool} : ∀ {l : List RV} {id : Nat} {σ : St} {vs : List AV} {σ1 : St}, openTup fz id l σ = some (vs, σ1) → ∃ ps, σ1 = apP ps σ ∧ NewP id (id + 16 * l.length) ps ∧ ∀ τ : St, openTup fz id l τ = some (vs, apP ps τ)
  | [], id, σ, vs, σ1, h => by
    simp only [openTup, Option.some.injEq, Prod.mk.injEq] at h
    obtain ⟨rfl, rfl⟩ := h
    exact ⟨[], rfl, ⟨fun o ho => by simp [kills] at ho, rfl, rfl, fun _ _ => rfl⟩, fun τ => rfl⟩
  | v :: l, id, σ, vs, σ1, h => by
    simp only [openTup] at h
    obtain ⟨⟨v1, σ2⟩, h1, h⟩ := Option.bind_eq_some_iff.1 h
    obtain ⟨⟨vs2, σ3⟩, h2, h3⟩ := Option.map_eq_some_iff.1 h
    simp only [Prod.mk.injEq] at h3
    obtain ⟨rfl, rfl⟩ := h3
    obtain ⟨p1, rfl, n1, r1⟩ := openOne_eff h1
    obtain ⟨p2, rfl, n2, r2⟩ := openTup_eff h2
    refine ⟨p1 ++ p2, by rw [apP_app], ⟨fun o ho => ?_, by rw [lesss_app, n1.2.1, n2.2.1]; rfl, by rw [turns_app, n1.2.2.1, n2.2.2.1]; rfl, fun o ho => ?_⟩, fun τ => ?_⟩
    · simp only [List.length_cons]
      rw [kills_app] at ho
      rcases List.mem_append.1 ho with e | e
      · have := n1.1 o e; omega
      · have := n2.1 o e; omega
    · simp only [List.length_cons] at ho
      rw [objP_app, n1.2.2.2 o (by omega), n2.2.2.2 o (by omega)]
    · simp only [openTup, r1, Option.bind_some, r2, Option.map_some, apP_app]
theorem opened_eff {fz : Bool} {id : Nat} {r : RV} {v : AV} {σ1 : St} (h : r.opened fz id σ = some (v, σ1)) : ∃ ps, σ1 = apP ps σ ∧ NewP id (id + 1000) ps ∧ ∀ τ : St, r.opened fz id τ = some (v, apP ps τ) := by
  have one : ∀ {r : RV}, r.openOne fz id σ = some (v, σ1) → ∃ ps, σ1 = apP ps σ ∧ NewP id (id + 1000) ps ∧ ∀ τ : St, r.openOne fz id τ = some (v, apP ps τ) := fun h => by
    obtain ⟨ps, e1, e2, e3⟩ := openOne_eff h
    exact ⟨ps, e1, e2.mono (by omega) (by omega), e3⟩
  cases r with
  | tup l =>
    simp only [RV.opened] at h ⊢
    split at h
    case isFalse => cases h
    rename_i e60
    obtain ⟨⟨vs, σ2⟩, h2, h3⟩ := Option.map_eq_some_iff.1 h
    simp only [Prod.mk.injEq] at h3
    obtain ⟨rfl, rfl⟩ := h3
    obtain ⟨ps, e1, e2, e3⟩ := openTup_eff h2
    exact ⟨ps, e1, e2.mono (by omega) (by omega), fun τ => by rw [if_pos e60, e3]; rfl⟩
  | one c => exact one (r := .one c) h
  | agg l => exact one (r := .agg l) h
theorem cn_blk {d o : Nat} (h1 : nid (1000 * (d + 1)) ≤ o) (h2 : o < nid (1000 * (d + 1)) + 1000) : cn o = nid (1000 * (d + 1)) := by
  unfold nid at *
  unfold cn
  rw [if_neg (by omega)]
  omega
theorem place_not {l : List Nat} {o : Nat} (h : place l o = none) : ¬ o ∈ l := fun hm => by
  obtain ⟨k, hk⟩ := List.mem_iff_getElem?.1 hm
  exact place_none h k hk
theorem passed_ag : ∀ {ps : List Nat} {σ : St} {obs : List Ob}, passed σ ps = some obs → ps.Nodup ∧ ∀ τ : St, (∀ o ∈ ps, klook τ.objs o = klook σ.objs o) → passed τ ps = some obs
  | [], σ, obs, h => ⟨List.nodup_nil, fun _ _ => h⟩
  | o :: ps, σ, obs, h => by
    simp only [passed] at h ⊢
    obtain ⟨ob, h1, h2⟩ := Option.bind_eq_some_iff.1 h
    split at h2
    case isFalse => cases h2
    rename_i e
    obtain ⟨l, h3, h4⟩ := Option.map_eq_some_iff.1 h2
    obtain ⟨n1, n2⟩ := passed_ag h3
    simp only [Bool.and_eq_true, beq_iff_eq] at e
    refine ⟨List.nodup_cons.2 ⟨place_not e.2, n1⟩, fun τ ha => ?_⟩
    rw [ha o (by simp), h1]
    simp only [Option.bind_some]
    rw [if_pos (by simp [e]), n2 τ fun k hk => ha k (by simp [hk])]
    exact congrArg some h4
theorem backs_eff : ∀ {ps : List Nat} {l : List (Option Ob)} {σ σ1 : St}, ps.Nodup → backs ps l σ = some σ1 →
    ∃ qs, σ1 = apP qs σ ∧ (∀ o ∈ kills qs, o ∈ ps ∧ ∀ x, objP qs o x = none) ∧ (∀ o ∈ lesss qs, o ∈ ps) ∧ (∀ o ∈ turns qs, o ∈ ps) ∧ ∀ τ : St, backs ps l τ = some (apP qs τ)
  | [], [], σ, σ1, _, h => by
    simp only [backs, Option.some.injEq] at h
    subst h
    exact ⟨[], rfl, fun o ho => by simp [kills] at ho, fun o ho => by simp [lesss] at ho, fun o ho => by simp [turns] at ho, fun τ => rfl⟩
  | [], _ :: _, _, _, _, h => by simp [backs] at h
  | _ :: _, [], _, _, _, h => by simp [backs] at h
  | o :: ps, some ob :: l, σ, σ1, hn, h => by
    obtain ⟨hn1, hn2⟩ := List.nodup_cons.1 hn
    simp only [backs] at h
    obtain ⟨qs, e1, e2, e3, e4, e5⟩ := backs_eff hn2 h
    refine ⟨.turn o ob :: qs, e1, fun o' ho => ?_, fun o' ho => ?_, fun o' ho => ?_, fun τ => by simp only [backs, e5]; rfl⟩
    · simp only [kills, List.flatMap_cons, Pr.kl, List.nil_append] at ho
      exact ⟨List.mem_cons_of_mem _ (e2 o' ho).1, fun x => (e2 o' ho).2 _⟩
    · simp only [lesss, List.flatMap_cons, Pr.lk, List.mem_append, List.mem_singleton] at ho
      exact ho.elim (fun e => by rw [e]; simp) fun e => List.mem_cons_of_mem _ (e3 o' e)
    · simp only [turns, List.flatMap_cons, Pr.tn, List.mem_append, List.mem_singleton] at ho
      exact ho.elim (fun e => by rw [e]; simp) fun e => List.mem_cons_of_mem _ (e4 o' e)
  | o :: ps, none :: l, σ, σ1, hn, h => by
    obtain ⟨hn1, hn2⟩ := List.nodup_cons.1 hn
    simp only [backs] at h
    obtain ⟨qs, e1, e2, e3, e4, e5⟩ := backs_eff hn2 h
    refine ⟨.gone o :: qs, e1, fun o' ho => ?_, fun o' ho => ?_, fun o' ho => ?_, fun τ => by simp only [backs, e5]; rfl⟩
    · simp only [kills, List.flatMap_cons, Pr.kl, List.mem_append, List.mem_singleton] at ho
      by_cases e : o' = o
      · subst e
        refine ⟨by simp, fun x => ?_⟩
        simp only [objP, Pr.ob, if_true]
        exact objP_id (fun hk => hn1 (e2 _ hk).1) (fun hk => hn1 (e3 _ hk)) (fun ob e => by cases e)
      · have ho' : o' ∈ kills qs := ho.resolve_left e
        exact ⟨List.mem_cons_of_mem _ (e2 o' ho').1, fun x => (e2 o' ho').2 _⟩
    · simp only [lesss, List.flatMap_cons, Pr.lk, List.nil_append] at ho
      exact List.mem_cons_of_mem _ (e3 o' ho)
    · simp only [turns, List.flatMap_cons, Pr.tn, List.nil_append] at ho
      exact List.mem_cons_of_mem _ (e4 o' ho)

/-- What an instruction does, whatever else there is. -/
def Eff (X : XF) (K L : List Nat) (i : I) (σ σ' : St) : Prop :=
  ∃ ps u, σ' = fin (dstI i) u (apP ps σ) ∧ KOk K ps ∧ LOk K L ps ∧
    ∀ τ : St, (∀ x ∈ opsI i, τ.op x = σ.op x) → (rdC i = true → ∀ x ∈ opsI i, AgV (σ.op x) σ τ) → AgN K σ τ → AgN L σ τ → kstep X i τ = some (fin (dstI i) u (apP ps τ))
/-- An instruction that makes, moves or turns objects. -/
def wI : I → Bool
  | .al _ _ _ => true
  | .mk _ _ _ _ => true
  | .s2b _ _ => true
  | .bx _ _ _ _ => true
  | .bs _ _ _ _ _ _ => true
  | .app _ _ _ _ _ _ => true
  | .st _ _ _ => true
  | .ldm _ _ => true
  | .ldt _ _ _ _ => true
  | .call _ _ _ _ _ => true
  | _ => false
def psOk (K : List Nat) (i : I) (σ' : St) : Prop := ∀ o ∈ psI i, inN K o = true ∨ (klook σ'.objs o).isSome = true
theorem KOk.one {K : List Nat} {o : Nat} {ob : Ob} (h : inN K o = true) : KOk K [.new o ob] := fun o' ho => by
  simp only [kills, List.flatMap_cons, List.flatMap_nil, Pr.kl, List.append_nil, List.mem_singleton] at ho; subst ho; exact h
theorem LOk.nil {K L : List Nat} {ps : List Pr} (h1 : lesss ps = []) (h2 : turns ps = []) : LOk K L ps := by
  refine ⟨fun o ho => ?_, fun o ho => ?_⟩
  · rw [h1] at ho; exact absurd ho (by simp)
  · rw [h2] at ho; exact absurd ho (by simp)
theorem KOk.app {K : List Nat} {p q : List Pr} (h1 : KOk K p) (h2 : KOk K q) : KOk K (p ++ q) := fun o ho => by
  rw [kills_app] at ho; exact (List.mem_append.1 ho).elim (h1 o) (h2 o)
theorem LOk.app {K L : List Nat} {p q : List Pr} (h1 : LOk K L p) (h2 : LOk K L q) : LOk K L (p ++ q) :=
  ⟨fun o ho => by rw [lesss_app] at ho; exact (List.mem_append.1 ho).elim (h1.1 o) (h2.1 o), fun o ho => by rw [turns_app] at ho; exact (List.mem_append.1 ho).elim (h1.2 o) (h2.2 o)⟩
theorem KOk.turn {K : List Nat} {o : Nat} {ob : Ob} : KOk K [.turn o ob] := fun o' ho => by simp [kills, Pr.kl] at ho
theorem LOk.turn {K L : List Nat} {o : Nat} {ob : Ob} (h : inN L o = true) : LOk K L [.turn o ob] :=
  ⟨fun o' ho => by simp only [lesss, List.flatMap_cons, List.flatMap_nil, Pr.lk, List.append_nil, List.mem_singleton] at ho; subst ho; exact .inr h,
   fun o' ho => by simp only [turns, List.flatMap_cons, List.flatMap_nil, Pr.tn, List.append_nil, List.mem_singleton] at ho; subst ho; exact h⟩
theorem KOk.nil {K : List Nat} : KOk K [] := fun o ho => by simp [kills] at ho
theorem tailOf_eff {K L : List Nat} {t : T} {fz : Bool} {v : AV} {l : List t.den} {σ1 : St} (h : tailOf t fz σ v = some (l, σ1)) (hl : (t.flat || inK L v) = true) :
    ∃ ps, σ1 = apP ps σ ∧ KOk K ps ∧ LOk K L ps ∧ ∀ τ : St, AgV v σ τ → tailOf t fz τ v = some (l, apP ps τ) := by
  unfold tailOf at h ⊢
  split at h
  · simp only [Option.some.injEq, Prod.mk.injEq] at h
    obtain ⟨rfl, rfl⟩ := h
    exact ⟨[], rfl, KOk.nil, LOk.nil rfl rfl, fun τ _ => rfl⟩
  · split at h
    case isFalse => cases h
    rename_i e
    obtain ⟨l', h1, h2⟩ := Option.map_eq_some_iff.1 h
    simp only [Prod.mk.injEq] at h2
    obtain ⟨rfl, rfl⟩ := h2
    exact ⟨[], rfl, KOk.nil, LOk.nil rfl rfl, fun τ _ => by rw [if_pos e, h1]; rfl⟩
  · obtain ⟨l', h1, h2⟩ := Option.map_eq_some_iff.1 h
    simp only [Prod.mk.injEq] at h2
    obtain ⟨rfl, rfl⟩ := h2
    exact ⟨[], rfl, KOk.nil, LOk.nil rfl rfl, fun τ _ => by rw [h1]; rfl⟩
  · split at h
    case isFalse => cases h
    rename_i e
    obtain ⟨l', h1, h2⟩ := Option.map_eq_some_iff.1 h
    simp only [Prod.mk.injEq] at h2
    obtain ⟨rfl, rfl⟩ := h2
    exact ⟨[], rfl, KOk.nil, LOk.nil rfl rfl, fun τ _ => by rw [if_pos e, h1]; rfl⟩
  · rename_i o off n
    obtain ⟨ob, h1, h2⟩ := Option.bind_eq_some_iff.1 h
    split at h2
    case h_2 => cases h2
    rename_i t' fz' l0 k hs
    split at h2
    · rename_i e
      obtain ⟨l', h3, h4⟩ := Option.map_eq_some_iff.1 h2
      simp only [Prod.mk.injEq] at h4
      obtain ⟨rfl, rfl⟩ := h4
      exact ⟨[], rfl, KOk.nil, LOk.nil rfl rfl, fun τ ha => by rw [ha o (by simp [rdv]), h1]; simp only [Option.bind_some, if_pos e, h3]; rfl⟩
    · rename_i e0
      split at h2
      case isFalse => cases h2
      rename_i e
      obtain ⟨l', h3, h4⟩ := Option.map_eq_some_iff.1 h2
      simp only [Prod.mk.injEq] at h4
      obtain ⟨rfl, rfl⟩ := h4
      have hl' : inN L o = true := by simpa [e0, inK] using hl
      exact ⟨[.turn o (.ls t' fz' l0 (off + n) hs)], rfl, KOk.turn, LOk.turn hl', fun τ ha => by rw [ha o (by simp [rdv]), h1]; simp only [Option.bind_some, if_neg e0, if_pos e, h3]; rfl⟩
  · cases h
theorem appTo_eff {K L : List Nat} {d : Nat} {t : T} {fz : Bool} {bytes : Nat} {new : List t.den} {v : AV} (h : appTo d t fz bytes new σ v = some σ') (hd : inN K (nid d) = true) (hk : inK K v = true) :
    ∃ ps u, σ' = (apP ps σ).set d u ∧ KOk K ps ∧ LOk K L ps ∧ ∀ τ : St, AgN K σ τ → appTo d t fz bytes new τ v = some ((apP ps τ).set d u) := by
  unfold appTo at h ⊢
  split at h
  · split at h
    case isFalse => cases h
    rename_i e
    exact ⟨[.new (nid d) (.ls t fz new 0 [])], _, (Option.some.inj h).symm, KOk.one hd, LOk.nil rfl rfl, fun τ _ => by rw [if_pos e]; rfl⟩
  · rename_i o off n
    obtain ⟨ob, h1, h2⟩ := Option.bind_eq_some_iff.1 h
    split at h2
    case h_2 => cases h2
    split at h2
    case isFalse => cases h2
    rename_i e
    obtain ⟨old, h3, h4⟩ := Option.map_eq_some_iff.1 h2
    refine ⟨[.gone o, .new (nid d) (.ls t fz (old ++ new) 0 [])], _, h4.symm, fun o' ho => ?_, LOk.nil rfl rfl, fun τ ha => ?_⟩
    · simp only [kills, List.flatMap_cons, List.flatMap_nil, Pr.kl, List.append_nil, List.cons_append, List.nil_append, List.mem_cons, List.mem_singleton, List.not_mem_nil, or_false] at ho
      rcases ho with ho | ho <;> subst ho
      · exact hk
      · exact hd
    · rw [ha o hk, h1]
      simp only [Option.bind_some]
      rw [if_pos e, h3]
      rfl
  · cases h
theorem eff0 {K L : List Nat} (i : I) (hq : wI i = true) (hs : kstep X i σ = some σ') (ht : touchB K L σ i = true) (hp : psOk K i σ') : Eff X K L i σ σ' := by
  cases i with
  | al d t fz =>
    simp only [kstep, Option.some.injEq] at hs
    exact ⟨[.new (nid d) (.ls t fz [t.zero] 0 [])], _, hs.symm, KOk.one ht, LOk.nil rfl rfl, fun τ _ _ _ _ => rfl⟩
  | mk d t bytes n =>
    simp only [kstep] at hs
    obtain ⟨m, h1, hs1⟩ := Option.bind_eq_some_iff.1 hs
    split at hs1
    case isFalse => cases hs1
    rename_i hc
    refine ⟨[.new (nid d) (.ls t false (List.replicate m.toNat t.zero) 0 [])], _, (Option.some.inj hs1).symm, KOk.one ht, LOk.nil rfl rfl, fun τ hr _ _ _ => ?_⟩
    simp only [kstep]
    rw [hr n (by simp [opsI]), h1]
    simp only [Option.bind_some]
    rw [if_pos hc]
    rfl
  | s2b d x =>
    simp only [kstep] at hs
    split at hs
    case h_2 => cases hs
    rename_i b hb
    refine ⟨[.new (nid d) (.ls .u8 false b 0 [])], _, (Option.some.inj hs).symm, KOk.one ht, LOk.nil rfl rfl, fun τ hr _ _ _ => ?_⟩
    simp only [kstep]
    rw [hr x (by simp [opsI]), hb]
    rfl
  | bx d t fz x =>
    simp only [touchB, Bool.and_eq_true] at ht
    simp only [kstep] at hs
    obtain ⟨⟨cs, σ1⟩, h3, hs3⟩ := Option.bind_eq_some_iff.1 hs
    obtain ⟨v, h4, hs4⟩ := Option.map_eq_some_iff.1 hs3
    obtain ⟨ps, rfl, k1, l1, t1, r1⟩ := cellsOf_eff h3 ht.2
    refine ⟨ps ++ [.new (nid d) (.ls t fz [v] 0 [])], _, by rw [apP_app]; exact hs4.symm, k1.app (KOk.one ht.1), (LOk.nil l1 t1).app (LOk.nil rfl rfl), fun τ hr _ ha _ => ?_⟩
    simp only [kstep]
    rw [hr x (by simp [opsI]), r1 τ ha]
    simp only [Option.bind_some, h4, Option.map_some, apP_app]
    rfl
  | bs d t fz n z ps =>
    simp only [touchB, Bool.and_eq_true] at ht
    simp only [kstep] at hs
    obtain ⟨l, h1, hs1⟩ := Option.bind_eq_some_iff.1 hs
    obtain ⟨r, h2, hs2⟩ := Option.bind_eq_some_iff.1 hs1
    obtain ⟨⟨cs, σ1⟩, h3, hs3⟩ := Option.bind_eq_some_iff.1 hs2
    clear hs hs1 hs2
    simp only at hs3
    split at hs3
    case isFalse => cases hs3
    rename_i hc
    obtain ⟨vs, h4, hs4⟩ := Option.map_eq_some_iff.1 hs3
    have hrk : r.all (inK K) = true := List.all_eq_true.2 (fillO_all (P := fun x => inK K x = true) h2 (fun x hx => by
      obtain ⟨y, hy, hx'⟩ := List.mem_flatten.1 hx
      obtain ⟨_, rfl⟩ := List.mem_replicate.1 hy
      exact List.all_eq_true.1 ht.1.2 x hx') fun q hq x hx => by
        obtain ⟨p, hpm, e⟩ := allOf_mem h1 q hq
        obtain ⟨cs', e1, rfl⟩ := Option.map_eq_some_iff.1 e
        have := List.all_eq_true.1 ht.2 p hpm
        rw [e1] at this
        exact List.all_eq_true.1 this x hx)
    obtain ⟨qs, rfl, k1, l1, t1, r1⟩ := cellsOf_eff h3 hrk
    refine ⟨qs ++ [.new (nid d) (.ls t fz vs 0 [])], _, by rw [apP_app]; exact hs4.symm, k1.app (KOk.one ht.1.1), (LOk.nil l1 t1).app (LOk.nil rfl rfl), fun τ hr _ ha _ => ?_⟩
    simp only [kstep]
    rw [allOf_congr (g := fun q => ((σ.op q.2).parts).map fun cs => (q.1 * t.w, t.w, cs)) (fun q hq => by rw [hr _ (List.mem_map.2 ⟨q, hq, rfl⟩)]), h1]
    simp only [Option.bind_some, h2, r1 τ ha]
    rw [if_pos hc, h4]
    simp only [Option.map_some, apP_app]
    rfl
  | app d t fz bytes x y =>
    simp only [touchB, Bool.and_eq_true] at ht
    simp only [kstep] at hs
    obtain ⟨⟨l, σ1⟩, h1, h2⟩ := Option.bind_eq_some_iff.1 hs
    obtain ⟨ps, rfl, k1, l1, r1⟩ := tailOf_eff (K := K) h1 ht.2
    obtain ⟨qs, u, rfl, k2, l2, r2⟩ := appTo_eff (L := L) h2 ht.1.1 ht.1.2
    refine ⟨ps ++ qs, u, by rw [apP_app]; rfl, k1.app k2, l1.app l2, fun τ hr hv ha _ => ?_⟩
    simp only [kstep]
    rw [hr x (by simp [opsI]), hr y (by simp [opsI]), r1 τ (hv rfl y (by simp [opsI]))]
    simp only [Option.bind_some, r2 _ (ha.ap K ps), apP_app]
    rfl
  | st sz p v =>
    simp only [touchB, Bool.and_eq_true] at ht
    simp only [kstep] at hs
    generalize hpv : σ.op p = pv at hs ht
    cases pv <;> simp only [reduceCtorEq] at hs
    case p o i j =>
      simp only at ht
      obtain ⟨ob, h1, h2⟩ := Option.bind_eq_some_iff.1 hs
      cases ob with
      | ls t fz l0 k0 hs0 =>
        simp only at h2
        obtain ⟨⟨ds, σ1⟩, h3, h4⟩ := Option.bind_eq_some_iff.1 h2
        obtain ⟨ob2, h5, h6⟩ := Option.bind_eq_some_iff.1 h4
        obtain ⟨ps, rfl, k1, l1, t1, r1⟩ := cellsOf_eff h3 ht.2
        cases ob2 with
        | fn _ => simp only [reduceCtorEq] at h6
        | ls t' fz' l' k' hs' =>
          simp only at h6
          obtain ⟨x, h7, h8⟩ := Option.bind_eq_some_iff.1 h6
          split at h8
          case isFalse => cases h8
          rename_i e
          obtain ⟨y, h9, h10⟩ := Option.map_eq_some_iff.1 h8
          refine ⟨ps ++ [.turn o (.ls t' fz' (l'.set i y) k' (fillH i j sz hs'))], .junk, by rw [apP_app]; exact h10.symm, k1.app KOk.turn, (LOk.nil l1 t1).app (LOk.turn ht.1), fun τ hr _ ha hb => ?_⟩
          simp only [kstep]
          rw [hr p (by simp [opsI]), hr v (by simp [opsI]), hpv]
          simp only [hb o ht.1, h1, Option.bind_some, r1 τ ha]
          rw [hb.ap L ps o ht.1, h5]
          simp only [Option.bind_some, h7]
          rw [if_pos e, h9]
          simp only [Option.map_some, apP_app]
          rfl
      | fn w =>
        simp only at h2
        split at h2
        case h_2 => cases h2
        rename_i f l hv
        split at h2
        case isFalse => cases h2
        rename_i e
        refine ⟨[.turn o (.fn (.clo f l))], .junk, (Option.some.inj h2).symm, KOk.turn, LOk.turn ht.1, fun τ hr _ _ hb => ?_⟩
        simp only [kstep]
        rw [hr p (by simp [opsI]), hr v (by simp [opsI]), hpv]
        simp only [hb o ht.1, h1, Option.bind_some, hv]
        rw [if_pos e]
        rfl
  | ldm d p =>
    simp only [touchB, Bool.and_eq_true] at ht
    simp only [kstep] at hs
    generalize hpv : σ.op p = pv at hs ht
    cases pv <;> simp only [reduceCtorEq] at hs
    case p o i j =>
      simp only at ht
      obtain ⟨ob, h1, h2⟩ := Option.bind_eq_some_iff.1 hs
      cases ob with
      | fn _ => simp only [reduceCtorEq] at h2
      | ls t fz l0 k0 hs0 =>
        simp only at h2
        obtain ⟨x, h3, h4⟩ := Option.bind_eq_some_iff.1 h2
        obtain ⟨c, h5, h6⟩ := Option.bind_eq_some_iff.1 h4
        split at h6
        · rename_i t' l' hcv
          split at h6
          case isTrue => cases h6
          rename_i e
          refine ⟨[.turn o (.ls t fz l0 k0 ((i, j, none) :: hs0)), .new (nid d) (.ls t' false l' 0 []), .less o (.ls t fz l0 k0 ((i, j, some (nid d)) :: unlent (nid d) hs0))], _, (Option.some.inj h6).symm, fun o' ho => ?_, ⟨fun o' ho => ?_, fun o' ho => ?_⟩, fun τ hr _ _ hb => ?_⟩
          · simp [kills, Pr.kl] at ho; subst ho; exact ht.1
          · simp [lesss, Pr.lk] at ho; subst ho; exact .inr ht.2
          · simp [turns, Pr.tn] at ho; subst ho; exact ht.2
          · simp only [kstep]
            rw [hr p (by simp [opsI]), hpv]
            simp only [hb o ht.2, h1, Option.bind_some, h3, h5, hcv]
            rw [if_neg e]
            rfl
        · rename_i o2 hcv
          obtain ⟨ob2, h7, h8⟩ := Option.map_eq_some_iff.1 h6
          refine ⟨[], _, h8.symm, KOk.nil, LOk.nil rfl rfl, fun τ hr hv _ hb => ?_⟩
          have hag := hv rfl p (by simp [opsI])
          rw [hpv] at hag
          have hl : o2 ∈ lentN hs0 := lent_cvs (fz := fz) (k := k0) (i := i) (l := [c]) (j := j) (by simp only [cvs]; rw [hcv]; simp)
          simp only [kstep]
          rw [hr p (by simp [opsI]), hpv]
          simp only [hb o ht.2, h1, Option.bind_some, h3, h5, hcv]
          rw [hag o2 (by simp only [rdv, h1, List.mem_cons]; exact .inr hl), h7]
          rfl
        · cases h6
  | ldt d sz ag p =>
    simp only [touchB, Bool.and_eq_true, decide_eq_true_eq] at ht
    simp only [kstep] at hs
    generalize hpv : σ.op p = pv at hs ht
    cases pv <;> simp only [reduceCtorEq] at hs
    case p o i j =>
      simp only at ht
      obtain ⟨ob, h1, h2⟩ := Option.bind_eq_some_iff.1 hs
      cases ob with
      | fn _ => simp only [reduceCtorEq] at h2
      | ls t fz l0 k0 hs0 =>
        simp only at h2
        obtain ⟨x, h3, h4⟩ := Option.bind_eq_some_iff.1 h2
        split at h4
        case isFalse => cases h4
        rename_i e
        obtain ⟨⟨vs, σ1⟩, h5, h6⟩ := Option.bind_eq_some_iff.1 h4
        obtain ⟨v, h7, h8⟩ := Option.map_eq_some_iff.1 h6
        obtain ⟨ps, rfl, e2, e3, e4, _, e5⟩ := takeL_eff h5
        have hlen : (cvs fz k0 hs0 i j (((cellsT t x).drop j).take sz)).length = sz := by rw [cvs_len, List.length_take, List.length_drop, cellsT_len]; have := e.2.1; omega
        rw [hlen] at e2
        refine ⟨.turn o (.ls t fz l0 (i + 1) hs0) :: ps, v, h8.symm, fun o' ho => ?_, (LOk.turn (ob := .ls t fz l0 (i + 1) hs0) ht.2).app (LOk.nil e3 e4), fun τ hr _ _ hb => ?_⟩
        · simp only [kills, List.flatMap_cons, Pr.kl, List.nil_append] at ho
          have := e2 o' ho
          unfold inN
          rw [cn_blk this.1 (by omega)]
          exact ht.1.1
        · simp only [kstep]
          rw [hr p (by simp [opsI]), hpv]
          simp only [hb o ht.2, h1, Option.bind_some, h3]
          rw [if_pos e]
          simp only [e5, Option.bind_some, h7, Option.map_some]
          rfl
  | call d fz ps f args =>
    simp only [touchB, Bool.and_eq_true, List.all_eq_true] at ht
    simp only [kstep] at hs
    generalize hpv : σ.op f = pv at hs
    split at hs
    case h_2 => cases hs
    rename_i fn caps
    obtain ⟨as, h1, hs1⟩ := Option.bind_eq_some_iff.1 hs
    obtain ⟨obs, h2, hs2⟩ := Option.bind_eq_some_iff.1 hs1
    obtain ⟨r, h3, hs3⟩ := Option.bind_eq_some_iff.1 hs2
    clear hs hs1 hs2
    unfold called at hs3
    split at hs3
    case isFalse => cases hs3
    rename_i hfree
    obtain ⟨σ1, h4, hs4⟩ := Option.bind_eq_some_iff.1 hs3
    obtain ⟨⟨v, σ2⟩, h5, hs5⟩ := Option.map_eq_some_iff.1 hs4
    clear hs3 hs4
    obtain ⟨nd, pg⟩ := passed_ag h2
    obtain ⟨qs, rfl, b1, b2, b3, b4⟩ := backs_eff nd h4
    obtain ⟨ns, rfl, n1, n2⟩ := opened_eff h5
    have kn : ∀ o, nid (1000 * (d + 1)) ≤ o ∧ o < nid (1000 * (d + 1)) + 1000 → inN K o = true := fun o ho => by
      unfold inN; rw [cn_blk ho.1 ho.2]; exact ht.1
    refine ⟨qs ++ ns, v, by rw [apP_app]; exact hs5.symm, KOk.app (fun o ho => ?_) fun o ho => kn o (n1.1 o ho), LOk.app ⟨fun o ho => .inr (ht.2 o (b2 o ho)), fun o ho => ht.2 o (b3 o ho)⟩ (LOk.nil n1.2.1 n1.2.2.1), fun τ hr hv _ hb => ?_⟩
    · obtain ⟨h6, h7⟩ := b1 o ho
      by_cases hin : nid (1000 * (d + 1)) ≤ o ∧ o < nid (1000 * (d + 1)) + 1000
      · exact kn o hin
      · refine (hp o h6).resolve_right fun hsm => ?_
        rw [← hs5] at hsm
        have : klook ((apP ns (apP qs σ)).set d v).objs o = none := by
          show klook (apP ns (apP qs σ)).objs o = none
          rw [apP_objs, apP_objs, h7, n1.2.2.2 o hin]
        rw [this] at hsm
        cases hsm
    · simp only [kstep]
      have hargs : args.map τ.op = args.map σ.op := List.map_congr_left fun x hx => hr x (by simp [opsI, hx])
      have hva : ∀ v ∈ args.map σ.op ++ caps, τ.arg ps fu6 v = σ.arg ps fu6 v := fun v hv' => by
        refine arg_ag ps fu6 v ?_
        rcases List.mem_append.1 hv' with hv' | hv'
        · obtain ⟨x, hx, rfl⟩ := List.mem_map.1 hv'
          exact fun k hk => hv rfl x (by simp [opsI, hx]) k (rdv_succ fu6 _ hk)
        · have := hv rfl f (by simp [opsI])
          rw [hpv] at this
          exact fun k hk => this k (by simp only [fu7, rdv, List.mem_flatMap]; exact ⟨v, hv', hk⟩)
      rw [hr f (by simp [opsI]), hpv, hargs]
      simp only [allOf_congr hva, h1, Option.bind_some, pg τ fun o ho => hb o (ht.2 o ho), h3]
      unfold called
      rw [if_pos hfree]
      simp only [b4, Option.bind_some, n2, Option.map_some, apP_app]
      rfl
  | _ => simp [wI] at hq

/-! ### With words on names -/
def fI : I → Bool
  | .gd _ _ d i => d == dstI i && (wI i || qI i)
  | i => wI i || qI i
def fQ : I → Bool
  | .gd _ _ d i => d == dstI i && qI i
  | i => qI i
theorem eff_q {K L : List Nat} {i : I} (hq : qI i = true) (hs : kstep X i σ = some σ') : Eff X K L i σ σ' := by
  obtain ⟨u, h1, h2⟩ := quiet1 i hq hs
  exact ⟨[], u, h1, KOk.nil, LOk.nil rfl rfl, fun τ hr hv _ _ => h2 τ hr hv⟩
theorem eff1 {K L : List Nat} (i : I) (hf : fI i = true) (hs : kstep X i σ = some σ') (ht : touchB K L σ i = true) (hp : psOk K i σ') : Eff X K L i σ σ' := by
  have base : ∀ {i : I}, (wI i || qI i) = true → kstep X i σ = some σ' → touchB K L σ i = true → psOk K i σ' → Eff X K L i σ σ' := fun {i} h hs ht hp => by
    simp only [Bool.or_eq_true] at h
    rcases h with h | h
    · exact eff0 i h hs ht hp
    · exact eff_q h hs
  cases i with
  | gd g want d i =>
    simp only [fI, Bool.and_eq_true, beq_iff_eq] at hf
    obtain ⟨rfl, hf⟩ := hf
    have skip : ∀ {τ : St}, skipped (dstI i) τ = fin (dstI i) (.tup []) τ := fun {τ} => by cases dstI i <;> rfl
    have hg : ∀ {τ : St}, (∀ x ∈ opsI (.gd g want (dstI i) i), τ.op x = σ.op x) → τ.reg g = σ.reg g := fun h => h (.t g) (by simp [opsI])
    simp only [kstep] at hs
    split at hs
    · rename_i t hb
      split at hs
      · rename_i e
        obtain ⟨ps, u, h1, h2, h3, h4⟩ := base hf hs (by simpa only [touchB] using ht) hp
        refine ⟨ps, u, h1, h2, h3, fun τ hr hv ha hb2 => ?_⟩
        simp only [kstep]
        rw [hg hr, hb]
        simp only [e, if_true]
        exact h4 τ (fun x hx => hr x (by simp [opsI, hx])) (fun hc x hx => hv (by simpa only [rdC] using hc) x (by simp [opsI, hx])) ha hb2
      · rename_i e
        refine ⟨[], .tup [], (Option.some.inj hs).symm.trans skip, KOk.nil, LOk.nil rfl rfl, fun τ hr _ _ _ => ?_⟩
        simp only [kstep]
        rw [hg hr, hb]
        simp only [e, if_false, skip]
        rfl
    · rename_i hb
      refine ⟨[], .tup [], (Option.some.inj hs).symm.trans skip, KOk.nil, LOk.nil rfl rfl, fun τ hr _ _ _ => ?_⟩
      simp only [kstep]
      rw [hg hr, hb]
      simp only [skip]
      rfl
    · cases hs
  | _ => exact base (by simpa only [fI] using hf) hs ht hp
theorem touchB_congr {K L : List Nat} (i : I) (hr : ∀ x ∈ opsI i, τ.op x = σ.op x) : touchB K L τ i = touchB K L σ i := by
  induction i with
  | bs d t fz n z ps =>
    simp only [touchB]
    congr 1
    rw [Bool.eq_iff_iff, List.all_eq_true, List.all_eq_true]
    constructor <;> intro h q hq <;> have := h q hq <;> rw [hr q.2 (List.mem_map.2 ⟨q, hq, rfl⟩)] at * <;> exact this
  | bx d t fz x => simp only [touchB]; rw [hr x (by simp [opsI])]
  | app d t fz b x y => simp only [touchB]; rw [hr x (by simp [opsI]), hr y (by simp [opsI])]
  | st sz p v => simp only [touchB]; rw [hr p (by simp [opsI]), hr v (by simp [opsI])]
  | ldm d p => simp only [touchB]; rw [hr p (by simp [opsI])]
  | ldt d sz ag p => simp only [touchB]; rw [hr p (by simp [opsI])]
  | gd g want d i ih => simp only [touchB]; exact ih fun x hx => hr x (by simp [opsI, hx])
  | _ => rfl
def aA : I → List Nat
  | .an A _ _ _ _ => A
  | _ => []
def aB : I → List Nat
  | .an _ B _ _ _ => B
  | _ => []
def aK : I → List Nat
  | .an _ _ K _ _ => K
  | _ => []
def aL : I → List Nat
  | .an _ _ _ L _ => L
  | _ => []
def aI : I → I
  | .an _ _ _ _ i => i
  | i => i
def okAn : I → Bool
  | .an _ _ _ _ i => fI i
  | i => fQ i
def TN (a : I) (k : Nat) : Prop := inN (aK a) k = true ∨ inN (aL a) k = true
def Apart (a : I) (σ : St) : Prop := ∀ k ob, klook σ.objs k = some ob → (TN a k → off (aA a) ob.names = true) ∧ (¬ TN a k → off (aK a) ob.names = true)
def OpsOk (a : I) (σ : St) : Prop := ∀ x ∈ opsI (aI a), (aA a = [] ∧ aB a = [] ∧ aK a = [] ∧ aL a = [] ∨ (σ.op x).solid = true) ∧ off (aA a) (σ.op x).names = true ∧ off (aB a) (σ.op x).lnames = true ∧
  (rdC (aI a) = true → off (aA a) (rdv σ fu7 (σ.op x)) = true ∧ off (aB a) (rdv σ fu7 (σ.op x)) = true)
def Post (a : I) (u : AV) (σ' : St) : Prop := (dstI (aI a) ≠ none → off (aA a) u.names = true ∧ off (aB a) u.lnames = true) ∧ ∀ k ob, klook σ'.objs k = some ob → TN a k → off (aA a) ob.names = true
theorem off_nil (l : List Nat) : off [] l = true := by simp [off, inN]
theorem inN_nil (k : Nat) : inN [] k = false := rfl
theorem fin_reg {d : Nat} (u : AV) (σ : St) : (fin (some d) u σ).reg d = u := by
  unfold St.reg; rw [fin_regs, if_pos rfl]; rfl
theorem reg_fin {d : Option Nat} {t : Nat} (u : AV) (σ : St) (h : d ≠ some t) : (fin d u σ).reg t = σ.reg t := by
  unfold St.reg; rw [fin_regs, if_neg h]
theorem reg_ap (ps : List Pr) (σ : St) (t : Nat) : (apP ps σ).reg t = jk (kills ps) (turns ps) (σ.reg t) := by
  unfold St.reg
  rw [apP_regs]
  cases klook σ.regs t with
  | none => simp [jk_junk]
  | some v => rfl
theorem fq_fi {i : I} (h : fQ i = true) : fI i = true := by
  cases i <;> simp_all [fQ, fI]
theorem eff_fq {K L : List Nat} {i : I} (h : fQ i = true) (hs : kstep X i σ = some σ') : Eff X K L i σ σ' := by
  cases i with
  | gd g want d i =>
    simp only [fQ, Bool.and_eq_true, beq_iff_eq] at h
    obtain ⟨rfl, hf⟩ := h
    have skip : ∀ {τ : St}, skipped (dstI i) τ = fin (dstI i) (.tup []) τ := fun {τ} => by cases dstI i <;> rfl
    have hg : ∀ {τ : St}, (∀ x ∈ opsI (.gd g want (dstI i) i), τ.op x = σ.op x) → τ.reg g = σ.reg g := fun h => h (.t g) (by simp [opsI])
    simp only [kstep] at hs
    split at hs
    · rename_i t hb
      split at hs
      · rename_i e
        obtain ⟨ps, u, h1, h2, h3, h4⟩ := eff_q (K := K) (L := L) hf hs
        refine ⟨ps, u, h1, h2, h3, fun τ hr hv ha hb2 => ?_⟩
        simp only [kstep]
        rw [hg hr, hb]
        simp only [e, if_true]
        exact h4 τ (fun x hx => hr x (by simp [opsI, hx])) (fun hc x hx => hv (by simpa only [rdC] using hc) x (by simp [opsI, hx])) ha hb2
      · rename_i e
        refine ⟨[], .tup [], (Option.some.inj hs).symm.trans skip, KOk.nil, LOk.nil rfl rfl, fun τ hr _ _ _ => ?_⟩
        simp only [kstep]
        rw [hg hr, hb]
        simp only [e, if_false, skip]
        rfl
    · rename_i hb
      refine ⟨[], .tup [], (Option.some.inj hs).symm.trans skip, KOk.nil, LOk.nil rfl rfl, fun τ hr _ _ _ => ?_⟩
      simp only [kstep]
      rw [hg hr, hb]
      simp only [skip]
      rfl
    · cases hs
  | _ => exact eff_q (by simpa only [fQ] using h) hs
theorem apartB_iff {A K L : List Nat} {σ : St} : apartB A K L σ = true ↔ ∀ k ob, klook σ.objs k = some ob → (inN K k = true ∨ inN L k = true → off A ob.names = true) ∧ (¬ (inN K k = true ∨ inN L k = true) → off K ob.names = true) := by
  unfold apartB
  rw [List.all_eq_true]
  constructor
  · intro h k ob hk
    have := h _ (klook_mem hk)
    simp only [hk] at this
    split at this
    · rename_i e
      simp only [Bool.or_eq_true] at e
      exact ⟨fun _ => this, fun hn => absurd e hn⟩
    · rename_i e
      simp only [Bool.or_eq_true] at e
      exact ⟨fun hy => absurd hy e, fun _ => this⟩
  · intro h q hq
    split
    · rename_i ob hk
      obtain ⟨h1, h2⟩ := h _ ob hk
      split
      · rename_i e
        simp only [Bool.or_eq_true] at e
        exact h1 e
      · rename_i e
        simp only [Bool.or_eq_true] at e
        exact h2 e
    · rfl
theorem touch_ps {K L : List Nat} (i : I) (h : touchB K L σ i = true) (hf : fI i = true) : ∀ o ∈ psI i, inN L o = true := by
  have base : ∀ {i : I}, (wI i || qI i) = true → touchB K L σ i = true → ∀ o ∈ psI i, inN L o = true := fun {i} h ht => by
    cases i with
    | call d fz ps f args =>
      simp only [touchB, Bool.and_eq_true, List.all_eq_true] at ht
      exact ht.2
    | gd _ _ _ _ => simp [wI, qI] at h
    | _ => intro o ho; simp [psI] at ho
  cases i with
  | gd g want d i =>
    simp only [fI, Bool.and_eq_true] at hf
    simp only [psI]
    exact base hf.2 (by simpa only [touchB] using h)
  | _ => exact base (by simpa only [fI] using hf) h
/-- One step of a drawn region. -/
theorem step_eff (a : I) (hf : okAn a = true) (hs : kstep X a σ = some σ') :
    ∃ ps u, σ' = fin (dstI (aI a)) u (apP ps σ) ∧ KOk (aK a) ps ∧ LOk (aK a) (aL a) ps ∧ OpsOk a σ ∧ Apart a σ ∧ Post a u σ' ∧
      ∀ τ : St, (∀ x ∈ opsI (aI a), τ.op x = σ.op x) → (rdC (aI a) = true → ∀ x ∈ opsI (aI a), AgV (σ.op x) σ τ) → AgN (aK a) σ τ → AgN (aL a) σ τ → Apart a τ → kstep X a τ = some (fin (dstI (aI a)) u (apP ps τ)) := by
  cases a with
  | an A B K L i =>
    simp only [okAn] at hf
    simp only [aA, aB, aK, aL, aI, OpsOk, Apart, Post, TN] at *
    obtain ⟨h1, h2, h3⟩ := an_step hs
    simp only [preB, Bool.and_eq_true, List.all_eq_true] at h1
    simp only [postB, Bool.and_eq_true, List.all_eq_true, Bool.or_eq_true] at h3
    obtain ⟨⟨p1, p2⟩, p3⟩ := h1
    obtain ⟨⟨q1, q2⟩, q3⟩ := h3
    obtain ⟨ps, u, e1, e2, e3, e4⟩ := eff1 i hf h2 p3 q3
    have p2' := apartB_iff.1 p2
    have po : ∀ x ∈ opsI i, (σ.op x).solid = true ∧ off A (σ.op x).names = true ∧ off B (σ.op x).lnames = true ∧ (rdC i = true → off A (rdv σ fu7 (σ.op x)) = true ∧ off B (rdv σ fu7 (σ.op x)) = true) := fun x hx => by
      have := p1 x hx
      simp only [okOp, Bool.and_eq_true, Bool.or_eq_true, Bool.not_eq_true'] at this
      obtain ⟨⟨⟨a1, a2⟩, a3⟩, a4⟩ := this
      exact ⟨a1, a2, a3, fun hc => a4.resolve_left (by rw [hc]; simp)⟩
    refine ⟨ps, u, e1, e2, e3, fun x hx => ⟨.inr (po x hx).1, (po x hx).2⟩, fun k ob hk => ⟨(p2' k ob hk).1, (p2' k ob hk).2⟩, ⟨fun hd => ?_, fun k ob hk ht => ?_⟩, fun τ hr hv ha hb hap => ?_⟩
    · cases hdst : dstI i with
      | none => exact absurd hdst hd
      | some d =>
        rw [hdst] at q1 e1
        simp only [Bool.and_eq_true, e1, fin_reg] at q1
        exact q1
    · have := q2 _ (klook_mem hk)
      simp only [hk, Bool.or_eq_true, Bool.not_eq_true', Bool.or_eq_false_iff] at this
      rcases this with h | h
      · rcases ht with ht | ht
        · rw [h.1] at ht; cases ht
        · rw [h.2] at ht; cases ht
      · exact h
    · have s1 := e4 τ hr hv ha hb
      simp only [kstep]
      rw [if_pos, s1]
      · simp only [Option.bind_some]
        rw [if_pos]
        simp only [postB, Bool.and_eq_true, List.all_eq_true, Bool.or_eq_true]
        have same : ∀ k, inN K k = true ∨ inN L k = true → klook (fin (dstI i) u (apP ps τ)).objs k = klook σ'.objs k := fun k hk => by
          rw [e1, fin_objs, fin_objs, apP_objs, apP_objs]
          rcases hk with hk | hk
          · rw [ha k hk]
          · rw [hb k hk]
        refine ⟨⟨?_, fun q hq => ?_⟩, fun o ho => ?_⟩
        · cases hdst : dstI i with
          | none => rfl
          | some d =>
            rw [hdst] at q1 e1
            simp only [Bool.and_eq_true, e1, fin_reg] at q1
            simp only [fin_reg, Bool.and_eq_true]
            exact q1
        · split
          · rename_i ob hk
            by_cases ht : inN K q.1 = true ∨ inN L q.1 = true
            · rw [same _ ht] at hk
              have := q2 _ (klook_mem hk)
              simp only [hk] at this
              exact this
            · simp only [not_or, Bool.not_eq_true] at ht
              simp [ht.1, ht.2]
          · rfl
        · rw [same o (.inr (touch_ps i p3 hf o ho))]
          exact q3 o ho
      · simp only [preB, Bool.and_eq_true, List.all_eq_true]
        refine ⟨⟨fun x hx => ?_, apartB_iff.2 hap⟩, by rw [touchB_congr i hr]; exact p3⟩
        rw [hr x hx]
        have := p1 x hx
        cases hc : rdC i with
        | false => rw [hc] at this; simpa [okOp] using this
        | true =>
          rw [hc] at this
          simpa only [okOp, rdv_congr fu7 _ (hv hc x hx)] using this
  | _ =>
    obtain ⟨ps, u, e1, e2, e3, e4⟩ := eff_fq (K := []) (L := []) (by simpa only [okAn] using hf) hs
    exact ⟨ps, u, e1, e2, e3, fun x hx => ⟨.inl ⟨rfl, rfl, rfl, rfl⟩, off_nil _, off_nil _, fun _ => ⟨off_nil _, off_nil _⟩⟩, fun k ob hk => ⟨fun _ => off_nil _, fun _ => off_nil _⟩, ⟨fun _ => ⟨off_nil _, off_nil _⟩, fun _ _ _ _ => off_nil _⟩, fun τ hr hv ha hb _ => e4 τ hr hv ha hb⟩

/-! ### States that are one to whoever looks up -/
def Eqv (σ τ : St) : Prop := (∀ t, klook τ.regs t = klook σ.regs t) ∧ ∀ k, klook τ.objs k = klook σ.objs k
theorem Eqv.refl (σ : St) : Eqv σ σ := ⟨fun _ => rfl, fun _ => rfl⟩
theorem Eqv.trans {ρ : St} (h1 : Eqv σ τ) (h2 : Eqv τ ρ) : Eqv σ ρ := ⟨fun t => (h2.1 t).trans (h1.1 t), fun k => (h2.2 k).trans (h1.2 k)⟩
theorem Eqv.reg (h : Eqv σ τ) (t : Nat) : τ.reg t = σ.reg t := by unfold St.reg; rw [h.1]
theorem Eqv.op (h : Eqv σ τ) (x : O) : τ.op x = σ.op x := op_eq fun t _ => h.reg t
theorem Eqv.fin (h : Eqv σ τ) (d : Option Nat) (u : AV) : Eqv (fin d u σ) (fin d u τ) := ⟨fun t => by rw [fin_regs, fin_regs, h.1], fun k => by rw [fin_objs, fin_objs, h.2]⟩
theorem Eqv.ap (h : Eqv σ τ) (ps : List Pr) : Eqv (apP ps σ) (apP ps τ) := ⟨fun t => by rw [apP_regs, apP_regs, h.1], fun k => by rw [apP_objs, apP_objs, h.2]⟩
theorem step_eqv (a : I) (hf : okAn a = true) (hs : kstep X a σ = some σ') (he : Eqv σ τ) : ∃ τ', kstep X a τ = some τ' ∧ Eqv σ' τ' := by
  obtain ⟨ps, u, rfl, _, _, _, h1, _, h2⟩ := step_eff a hf hs
  exact ⟨_, h2 τ (fun x _ => he.op x) (fun _ x _ k _ => he.2 k) (fun k _ => he.2 k) (fun k _ => he.2 k) (fun k ob hk => h1 k ob (by rw [← he.2]; exact hk)), (he.ap ps).fin _ _⟩
theorem krun_eqv : ∀ {l : List I} {σ τ : St}, (∀ a ∈ l, okAn a = true) → krun X l σ = some σ' → Eqv σ τ → ∃ τ', krun X l τ = some τ' ∧ Eqv σ' τ'
  | [], σ, τ, _, hs, he => by simp only [krun, Option.some.injEq] at hs ⊢; subst hs; exact ⟨_, rfl, he⟩
  | a :: l, σ, τ, hf, hs, he => by
    simp only [krun] at hs ⊢
    obtain ⟨σ1, s1, hs⟩ := Option.bind_eq_some_iff.1 hs
    obtain ⟨τ1, e1, e2⟩ := step_eqv a (hf a (by simp)) s1 he
    obtain ⟨τ2, e3, e4⟩ := krun_eqv (fun b hb => hf b (by simp [hb])) hs e2
    exact ⟨τ2, by rw [e1]; exact e3, e4⟩

/-! ### They change places -/
def subB (l r : List Nat) : Bool := l.all r.contains
def dstNe : Option Nat → Option Nat → Bool
  | some d, some d' => d != d'
  | _, _ => true
def notIn (d : Option Nat) (l : List Nat) : Bool := match d with | some d => !l.contains d | none => true
def indep (j i : I) : Bool := okAn j && okAn i && dstNe (dstI (aI j)) (dstI (aI i)) && notIn (dstI (aI j)) (osreads (opsI (aI i))) && notIn (dstI (aI i)) (osreads (opsI (aI j))) &&
  subB (aK i) (aA j) && subB (aL i) (aB j) && subB (aK j) (aA i) && subB (aL j) (aB i) && ((aK i ++ aL i).all fun k => !(aK j ++ aL j).contains k)
theorem subB_in {l r : List Nat} (h : subB l r = true) {k : Nat} (hk : inN l k = true) : inN r k = true := by
  simp only [inN, List.contains_eq_mem, decide_eq_true_eq, subB, List.all_eq_true] at *
  exact h _ hk
theorem off_sub {l r : List Nat} (h : subB l r = true) {n : List Nat} (hn : off r n = true) : off l n = true := by
  rw [off_mem] at *
  intro o ho
  cases e : inN l o with
  | false => rfl
  | true => have := hn o ho; rw [subB_in h e] at this; cases this
theorem notIn_ne {d : Option Nat} {l : List Nat} (h : notIn d l = true) {t : Nat} (ht : t ∈ l) : d ≠ some t := fun e => by
  subst e
  simp only [notIn, Bool.not_eq_true', List.contains_eq_mem, decide_eq_false_iff_not] at h
  exact h ht
/-- What another does leaves this as it is. -/
theorem keep_obj {a : I} {ps : List Pr} (hk : KOk (aK a) ps) (hl : LOk (aK a) (aL a) ps) {k : Nat} (hn : ¬ TN a k) {x : Option Ob} (hx : ∀ ob, x = some ob → off (aK a) ob.names = true) : objP ps k x = x := by
  refine objP_id (fun h => hn (.inl (hk k h))) (fun h => hn (hl.1 k h)) fun ob e o ho hm => ?_
  have := off_mem.1 (hx ob e) o hm
  rw [hk o ho] at this
  cases this
theorem keep_val {a : I} {ps : List Pr} (hk : KOk (aK a) ps) (hl : LOk (aK a) (aL a) ps) {v : AV} (h1 : off (aK a) v.names = true) (h2 : off (aL a) v.lnames = true) : jk (kills ps) (turns ps) v = v := by
  refine jk_id (fun o ho hm => ?_) fun o ho hm => ?_
  · have := off_mem.1 h1 o hm
    rw [hk o ho] at this
    cases this
  · have := off_mem.1 h2 o hm
    rw [hl.2 o ho] at this
    cases this
theorem swap {j i : I} (h : indep j i = true) {σ1 σ2 : St} (hj : kstep X j σ = some σ1) (hi : kstep X i σ1 = some σ2) :
    ∃ τ1 τ2, kstep X i σ = some τ1 ∧ kstep X j τ1 = some τ2 ∧ Eqv σ2 τ2 := by
  simp only [indep, Bool.and_eq_true] at h
  obtain ⟨⟨⟨⟨⟨⟨⟨⟨⟨fj, fi⟩, hd⟩, hji⟩, hij⟩, kij⟩, lij⟩, kji⟩, lji⟩, hdis⟩ := h
  obtain ⟨pj, uj, e1, kj, lj, oj, aj, qj, rj⟩ := step_eff j fj hj
  obtain ⟨pi, ui, e2, ki, li, oi, ai, qi, ri⟩ := step_eff i fi hi
  have dis : ∀ k, TN i k → ¬ TN j k := fun k h1 h2 => by
    simp only [TN, inN, List.contains_eq_mem, decide_eq_true_eq] at h1 h2
    have := List.all_eq_true.1 hdis (cn k) (List.mem_append.2 h1)
    simp only [Bool.not_eq_true', List.contains_eq_mem, decide_eq_false_iff_not] at this
    exact this (List.mem_append.2 h2)
  -- what j leaves of the objects
  have oσ1 : ∀ k, klook σ1.objs k = objP pj k (klook σ.objs k) := fun k => by rw [e1, fin_objs, apP_objs]
  have kσ1 : ∀ k, ¬ TN j k → klook σ1.objs k = klook σ.objs k := fun k hk => by
    rw [oσ1]; exact keep_obj kj lj hk fun ob e => (aj k ob e).2 hk
  have opi : ∀ x ∈ opsI (aI i), σ.op x = σ1.op x := fun x hx => by
    cases x with
    | c v => rfl
    | t n =>
      have hne : dstI (aI j) ≠ some n := notIn_ne hji (List.mem_flatMap.2 ⟨_, hx, by simp [oreads]⟩)
      have hv := oi _ hx
      show σ.reg n = σ1.reg n
      have e : σ1.reg n = jk (kills pj) (turns pj) (σ.reg n) := by rw [e1, reg_fin _ _ hne, reg_ap]
      rcases hv.1 with ⟨a1, a2, _, _⟩ | hs
      · have k0 : aK j = [] := by
          cases hk : aK j with
          | nil => rfl
          | cons x l => rw [hk, a1] at kji; simp [subB] at kji
        have l0 : aL j = [] := by
          cases hk : aL j with
          | nil => rfl
          | cons x l => rw [hk, a2] at lji; simp [subB] at lji
        rw [e]
        exact (keep_val kj lj (by rw [k0]; exact off_nil _) (by rw [l0]; exact off_nil _)).symm
      · rw [e]
        exact (jk_solid (by rw [← e]; exact hs)).symm
  have agi : rdC (aI i) = true → ∀ x ∈ opsI (aI i), AgV (σ1.op x) σ1 σ := fun hc x hx k hk => by
    obtain ⟨b1, b2⟩ := (oi x hx).2.2.2 hc
    refine (kσ1 k fun ht => ?_).symm
    rcases ht with ht | ht
    · have := off_mem.1 b1 k hk; rw [subB_in kji ht] at this; cases this
    · have := off_mem.1 b2 k hk; rw [subB_in lji ht] at this; cases this
  have si := ri σ opi agi (fun k hk => (kσ1 k (dis k (.inl hk))).symm) (fun k hk => (kσ1 k (dis k (.inr hk))).symm) (fun k ob hk => by
    by_cases hkj : TN j k
    · refine ⟨fun hi => absurd hkj (dis k hi), fun _ => off_sub kij ((aj k ob hk).1 hkj)⟩
    · exact ai k ob (by rw [kσ1 k hkj]; exact hk))
  generalize hτ1 : fin (dstI (aI i)) ui (apP pi σ) = τ1 at si
  have oτ1 : ∀ k, klook τ1.objs k = objP pi k (klook σ.objs k) := fun k => by rw [← hτ1, fin_objs, apP_objs]
  -- what i needs of σ
  have ai' : ∀ k ob, klook σ.objs k = some ob → ¬ TN i k → off (aK i) ob.names = true := fun k ob hk hn => by
    by_cases hkj : TN j k
    · exact off_sub kij ((aj k ob hk).1 hkj)
    · exact (ai k ob (by rw [kσ1 k hkj]; exact hk)).2 hn
  have kτ1 : ∀ k, ¬ TN i k → klook τ1.objs k = klook σ.objs k := fun k hk => by
    rw [oτ1]; exact keep_obj ki li hk fun ob e => ai' k ob e hk
  have iτ1 : ∀ k, TN i k → klook τ1.objs k = klook σ2.objs k := fun k hk => by
    rw [oτ1, e2, fin_objs, apP_objs, kσ1 k (dis k hk)]
  have opj : ∀ x ∈ opsI (aI j), τ1.op x = σ.op x := fun x hx => by
    cases x with
    | c v => rfl
    | t n =>
      have hne : dstI (aI i) ≠ some n := notIn_ne hij (List.mem_flatMap.2 ⟨_, hx, by simp [oreads]⟩)
      have hv := oj _ hx
      show τ1.reg n = σ.reg n
      rw [← hτ1, reg_fin _ _ hne, reg_ap]
      exact keep_val ki li (off_sub kij hv.2.1) (off_sub lij hv.2.2.1)
  have agj : rdC (aI j) = true → ∀ x ∈ opsI (aI j), AgV (σ.op x) σ τ1 := fun hc x hx k hk => by
    obtain ⟨b1, b2⟩ := (oj x hx).2.2.2 hc
    refine kτ1 k fun ht => ?_
    rcases ht with ht | ht
    · have := off_mem.1 b1 k hk; rw [subB_in kij ht] at this; cases this
    · have := off_mem.1 b2 k hk; rw [subB_in lij ht] at this; cases this
  have ndis : ∀ k, TN j k → ¬ TN i k := fun k h1 h2 => dis k h2 h1
  have sj := rj τ1 opj agj (fun k hk => kτ1 k (ndis k (.inl hk))) (fun k hk => kτ1 k (ndis k (.inr hk))) (fun k ob hk => by
    by_cases hki : TN i k
    · refine ⟨fun hj => absurd hj (dis k hki), fun _ => off_sub kji (qi.2 k ob (by rw [← iτ1 k hki]; exact hk) hki)⟩
    · exact aj k ob (by rw [← kτ1 k hki]; exact hk))
  refine ⟨τ1, _, si, sj, fun t => ?_, fun k => ?_⟩
  · have hvj : ∀ {d}, dstI (aI j) = some d → jk (kills pi) (turns pi) uj = uj := fun e => by
      obtain ⟨b1, b2⟩ := qj.1 (by rw [e]; simp)
      exact keep_val ki li (off_sub kij b1) (off_sub lij b2)
    have hvi : ∀ {d}, dstI (aI i) = some d → jk (kills pj) (turns pj) ui = ui := fun e => by
      obtain ⟨b1, b2⟩ := qi.1 (by rw [e]; simp)
      exact keep_val kj lj (off_sub kji b1) (off_sub lji b2)
    rw [← hτ1, e2, e1]
    simp only [fin_regs, apP_regs]
    by_cases h1 : dstI (aI j) = some t
    · have h2 : dstI (aI i) ≠ some t := fun e => by rw [h1, e] at hd; simp [dstNe] at hd
      rw [if_pos h1, if_neg h2, if_pos h1, Option.map_some, hvj h1]
    · rw [if_neg h1, if_neg h1]
      by_cases h2 : dstI (aI i) = some t
      · rw [if_pos h2, if_pos h2, Option.map_some, hvi h2]
      · rw [if_neg h2, if_neg h2, Option.map_map, Option.map_map]
        congr 1
        funext v
        exact jk_comm _ _ _ _ v
  · rw [fin_objs, apP_objs, e2, fin_objs, apP_objs]
    by_cases hki : TN i k
    · rw [kσ1 k (dis k hki), ← oτ1 k]
      exact keep_obj kj lj (dis k hki) fun ob e => off_sub kji (qi.2 k ob (by rw [← iτ1 k hki]; exact e) hki)
    · rw [kτ1 k hki, ← oσ1 k]
      refine (keep_obj ki li hki fun ob e => ?_).symm
      by_cases hkj : TN j k
      · exact off_sub kij (qj.2 k ob e hkj)
      · exact (ai k ob e).2 hki
theorem krun_front {i : I} {post : List I} : ∀ {pre : List I} {σ : St}, (∀ j ∈ pre, indep j i = true) → (∀ a ∈ post, okAn a = true) →
    krun X (pre ++ i :: post) σ = some σ' → ∃ τ', krun X (i :: (pre ++ post)) σ = some τ' ∧ Eqv σ' τ'
  | [], σ, _, _, hs => ⟨_, hs, Eqv.refl _⟩
  | j :: pre, σ, h, hp, hs => by
    simp only [List.cons_append, krun] at hs
    obtain ⟨σ1, s1, hs⟩ := Option.bind_eq_some_iff.1 hs
    obtain ⟨σ3, h3, q3⟩ := krun_front (fun k hk => h k (by simp [hk])) hp hs
    simp only [krun] at h3
    obtain ⟨σ2, s2, h3⟩ := Option.bind_eq_some_iff.1 h3
    obtain ⟨τ1, τ2, t1, t2, t3⟩ := swap (h j (by simp)) s1 s2
    have hok : ∀ a ∈ pre ++ post, okAn a = true := fun a ha => by
      rcases List.mem_append.1 ha with ha | ha
      · have := h a (by simp [ha])
        simp only [indep, Bool.and_eq_true] at this
        exact this.1.1.1.1.1.1.1.1.1
      · exact hp a ha
    obtain ⟨τ3, r1, r2⟩ := krun_eqv hok h3 t3
    refine ⟨τ3, ?_, q3.trans r2⟩
    simp only [List.cons_append, krun, t1, t2, Option.bind_some, r1]
end
end Go.Proofs.YtniakiefibpgmaaGreatDoorK
