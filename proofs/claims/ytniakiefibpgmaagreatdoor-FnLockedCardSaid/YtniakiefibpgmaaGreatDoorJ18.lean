/- Behind a call. -/
import Derived.Test.YtniakiefibpgmaaGreatDoorJ17
set_option linter.unusedVariables false
set_option linter.unusedSimpArgs false
namespace Go.Proofs.YtniakiefibpgmaaGreatDoorK
open Go.RowKit

theorem Ob.closed_unref {ob : Ob} (h : ob.closed = true) (o : Nat) : ob.unref o = ob := by
  cases ob with
  | ls t fz l k hs =>
    simp only [Ob.closed, List.isEmpty_iff] at h
    subst h
    rfl
  | fn v => simp [Ob.closed] at h
theorem Ob.closed_refs {ob : Ob} (h : ob.closed = true) (o : Nat) : ob.refs o = false := by
  cases ob with
  | ls t fz l k hs =>
    simp only [Ob.closed, List.isEmpty_iff] at h
    subst h
    rfl
  | fn v => simp [Ob.closed] at h
/-- Less is known of it, and nothing of G. -/
def Thin (G : Nat → Prop) (ob2 ob0 : Ob) : Prop := ob2.sz = ob0.sz ∧ ob2.len = ob0.len ∧ ∀ i j c, ob2.cell i j = some c → c = .junk ∨ (∃ a, ob0.cell i j = some (.fn a) ∧ c = .fn .junk) ∨ (ob0.cell i j = some c ∧ ∀ o, G o → c.refs o = false)
theorem Thin.refl (ob : Ob) : Thin (fun _ => False) ob ob := ⟨rfl, rfl, fun _ _ _ h => .inr (.inr ⟨h, fun _ q => q.elim⟩)⟩
theorem Thin.trans {G G' : Nat → Prop} {a b c : Ob} (h : Thin G a b) (k : Thin G' b c) : Thin (fun o => G o ∨ G' o) a c := by
  refine ⟨h.1.trans k.1, h.2.1.trans k.2.1, fun i j x hx => ?_⟩
  rcases h.2.2 i j x hx with e | ⟨a', e1, e2⟩ | ⟨e1, e2⟩
  · exact .inl e
  · subst e2
    rcases k.2.2 i j _ e1 with q | ⟨b', q1, q2⟩ | ⟨q1, q2⟩
    · cases q
    · exact .inr (.inl ⟨b', q1, rfl⟩)
    · exact .inr (.inl ⟨a', q1, rfl⟩)
  · rcases k.2.2 i j x e1 with q | q | ⟨q1, q2⟩
    · exact .inl q
    · exact .inr (.inl q)
    · exact .inr (.inr ⟨q1, fun o ho => ho.elim (e2 o) (q2 o)⟩)
theorem Thin.weaken {G G' : Nat → Prop} {a b : Ob} (h : Thin G a b) (hg : ∀ o, G' o → G o) : Thin G' a b :=
  ⟨h.1, h.2.1, fun i j c hc => by
    rcases h.2.2 i j c hc with e | e | ⟨e1, e2⟩
    · exact .inl e
    · exact .inr (.inl e)
    · exact .inr (.inr ⟨e1, fun o ho => e2 o (hg o ho)⟩)⟩
theorem Thin.unref (o : Nat) (ob : Ob) : Thin (fun o' => o' = o) (ob.unref o) ob :=
  ⟨Ob.unref_sz _ _, Ob.unref_len _ _, fun i j c hc => by
    rcases Ob.cell_unref hc with e | e | ⟨e1, e2⟩
    · exact .inl e
    · exact .inr (.inl e)
    · exact .inr (.inr ⟨e1, fun o' ho' => by subst ho'; exact e2⟩)⟩

/-- Those that are gone. -/
def Gone (ps : List Nat) (l : List (Option Ob)) (o : Nat) : Prop := ∃ k : Nat, ps[k]? = some o ∧ l[k]? = some none
theorem Gone.cons_some {p : Nat} {ps : List Nat} {ob : Ob} {l : List (Option Ob)} {o : Nat} : Gone (p :: ps) (some ob :: l) o ↔ Gone ps l o := by
  constructor
  · rintro ⟨k, h1, h2⟩
    cases k with
    | zero => simp at h2
    | succ k => exact ⟨k, by simpa using h1, by simpa using h2⟩
  · rintro ⟨k, h1, h2⟩
    exact ⟨k + 1, by simpa using h1, by simpa using h2⟩
theorem Gone.cons_none {p : Nat} {ps : List Nat} {l : List (Option Ob)} {o : Nat} : Gone (p :: ps) (none :: l) o ↔ o = p ∨ Gone ps l o := by
  constructor
  · rintro ⟨k, h1, h2⟩
    cases k with
    | zero => exact .inl (by simpa using h1.symm)
    | succ k => exact .inr ⟨k, by simpa using h1, by simpa using h2⟩
  · rintro (e | ⟨k, h1, h2⟩)
    · exact ⟨0, by simp [e], by simp⟩
    · exact ⟨k + 1, by simpa using h1, by simpa using h2⟩

structure Backs (ps : List Nat) (l : List (Option Ob)) (σ σ2 : St) : Prop where
  some' : ∀ (k o : Nat) (ob : Ob), ps[k]? = some o → l[k]? = some (some ob) → klook σ2.objs o = some ob
  none' : ∀ (k o : Nat), ps[k]? = some o → l[k]? = some none → klook σ2.objs o = none
  thin : ∀ o, (∀ k : Nat, ps[k]? ≠ some o) → ∀ ob2, klook σ2.objs o = some ob2 → ∃ ob0, klook σ.objs o = some ob0 ∧ Thin (Gone ps l) ob2 ob0
  stay : ∀ o, (∀ k : Nat, ps[k]? ≠ some o) → ∀ ob0, klook σ.objs o = some ob0 → ∃ ob2, klook σ2.objs o = some ob2 ∧ ob2.sz = ob0.sz ∧ ob2.len = ob0.len ∧ (ob0.closed = true → ob2 = ob0)
  regs : ∀ t v, klook σ2.regs t = some v → v = .junk ∨ (klook σ.regs t = some v ∧ (∀ k o : Nat, ps[k]? = some o → v.looks o = false) ∧ ∀ o, Gone ps l o → v.refs o = false)

theorem backs_spec : ∀ (ps : List Nat) (l : List (Option Ob)) {σ σ2 : St}, backs ps l σ = some σ2 → (∀ k k' o : Nat, ps[k]? = some o → ps[k']? = some o → k = k') → (∀ ob, some ob ∈ l → ob.closed = true) → Backs ps l σ σ2
  | [], [], σ, σ2, h, _, _ => by
    simp only [backs, Option.some.injEq] at h
    subst h
    exact ⟨fun k o ob h => by simp at h, fun k o h => by simp at h, fun o _ ob2 h => ⟨ob2, h, (Thin.refl ob2).weaken fun o ⟨k, q, _⟩ => by simp at q⟩, fun o _ ob0 h => ⟨ob0, h, rfl, rfl, fun _ => rfl⟩, fun t v hk => .inr ⟨hk, fun k o h => by simp at h, fun o ⟨k, q, _⟩ => by simp at q⟩⟩
  | [], _ :: _, _, _, h, _, _ => by simp [backs] at h
  | _ :: _, [], _, _, h, _, _ => by simp [backs] at h
  | p :: ps, some ob :: l, σ, σ2, h, hnd, hcl => by
    simp only [backs] at h
    have hnd' : ∀ k k' o : Nat, ps[k]? = some o → ps[k']? = some o → k = k' := fun k k' o h1 h2 => by have := hnd (k + 1) (k' + 1) o (by simpa using h1) (by simpa using h2); omega
    have hp : ∀ k : Nat, ps[k]? ≠ some p := fun k hk => by have := hnd 0 (k + 1) p rfl (by simpa using hk); omega
    have ih := backs_spec ps l h hnd' (fun ob' hm => hcl ob' (by simp [hm]))
    have hself : klook (σ.turn p ob).objs p = some ob := by simp only [St.turn, klook_kput_same]
    refine ⟨fun k o ob' h1 h2 => ?_, fun k o h1 h2 => ?_, fun o ho ob2 h2 => ?_, fun o ho ob0 h0 => ?_, fun t v hk => ?_⟩
    · cases k with
      | zero =>
        simp only [List.getElem?_cons_zero, Option.some.injEq] at h1 h2
        subst h1 h2
        obtain ⟨ob2, q1, _, _, q2⟩ := ih.stay _ hp _ hself
        rw [q1, q2 (hcl _ (by simp))]
      | succ k => exact ih.some' k o ob' (by simpa using h1) (by simpa using h2)
    · cases k with
      | zero => simp at h2
      | succ k => exact ih.none' k o (by simpa using h1) (by simpa using h2)
    · have hne : o ≠ p := fun e => ho 0 (by simp [e])
      obtain ⟨ob0, q1, q2⟩ := ih.thin o (fun k hk => ho (k + 1) (by simpa using hk)) ob2 h2
      simp only [St.turn, klook_kput_ne _ _ hne] at q1
      exact ⟨ob0, q1, q2.weaken fun o' h' => Gone.cons_some.1 h'⟩
    · have hne : o ≠ p := fun e => ho 0 (by simp [e])
      exact ih.stay o (fun k hk => ho (k + 1) (by simpa using hk)) ob0 (by simp only [St.turn, klook_kput_ne _ _ hne]; exact h0)
    · rcases ih.regs t v hk with e | ⟨e1, e2, e3⟩
      · exact .inl e
      · rcases unlook_regs σ p t v e1 with e | ⟨q1, q2⟩
        · exact .inl e
        · refine .inr ⟨q1, fun k o h1 => ?_, fun o ho => e3 o (Gone.cons_some.1 ho)⟩
          cases k with
          | zero => simp only [List.getElem?_cons_zero, Option.some.injEq] at h1; subst h1; exact q2
          | succ k => exact e2 k o (by simpa using h1)
  | p :: ps, none :: l, σ, σ2, h, hnd, hcl => by
    simp only [backs] at h
    have hnd' : ∀ k k' o : Nat, ps[k]? = some o → ps[k']? = some o → k = k' := fun k k' o h1 h2 => by have := hnd (k + 1) (k' + 1) o (by simpa using h1) (by simpa using h2); omega
    have hp : ∀ k : Nat, ps[k]? ≠ some p := fun k hk => by have := hnd 0 (k + 1) p rfl (by simpa using hk); omega
    have ih := backs_spec ps l h hnd' (fun ob' hm => hcl ob' (by simp [hm]))
    refine ⟨fun k o ob' h1 h2 => ?_, fun k o h1 h2 => ?_, fun o ho ob2 h2 => ?_, fun o ho ob0 h0 => ?_, fun t v hk => ?_⟩
    · cases k with
      | zero => simp at h2
      | succ k => exact ih.some' k o ob' (by simpa using h1) (by simpa using h2)
    · cases k with
      | zero =>
        simp only [List.getElem?_cons_zero, Option.some.injEq] at h1
        subst h1
        cases hx : klook σ2.objs p with
        | none => rfl
        | some ob2 =>
          obtain ⟨ob0, q1, _⟩ := ih.thin p hp ob2 hx
          exact absurd rfl (gone_objs σ q1).1
      | succ k => exact ih.none' k o (by simpa using h1) (by simpa using h2)
    · obtain ⟨ob1, q1, q2⟩ := ih.thin o (fun k hk => ho (k + 1) (by simpa using hk)) ob2 h2
      obtain ⟨_, ob0, q3, rfl⟩ := gone_objs σ q1
      exact ⟨ob0, q3, (q2.trans (Thin.unref p ob0)).weaken fun o' h' => (Gone.cons_none.1 h').elim .inr .inl⟩
    · have hne : o ≠ p := fun e => ho 0 (by simp [e])
      obtain ⟨ob2, q1, q2, q3, q4⟩ := ih.stay o (fun k hk => ho (k + 1) (by simpa using hk)) _ (gone_objs' σ hne h0)
      exact ⟨ob2, q1, by rw [q2, Ob.unref_sz], by rw [q3, Ob.unref_len], fun hc => by rw [q4 (by rw [Ob.closed_unref hc]; exact hc), Ob.closed_unref hc]⟩
    · rcases ih.regs t v hk with e | ⟨e1, e2, e3⟩
      · exact .inl e
      · rcases unref_regs σ p t v e1 with e | ⟨q1, q2⟩
        · exact .inl e
        · refine .inr ⟨q1, fun k o h1 => ?_, fun o ho => ?_⟩
          · cases k with
            | zero => simp only [List.getElem?_cons_zero, Option.some.injEq] at h1; subst h1; exact looks_false_of_refs q2
            | succ k => exact e2 k o (by simpa using h1)
          · rcases Gone.cons_none.1 ho with e | e
            · subst e; exact q2
            · exact e3 o e

section rep
variable {P : Program} {N : Nat} {E : Ent} {loc : Nat → Option (Nat × Nat × Nat)} {So : Nat → Nat → Prop} {Pd : Nat → Prop} {σ σ' : St} {a : Act} {w : World} {X : XF} {o : Oper}

/-- The objects' blocks behind a call. -/
def So2 (So : Nat → Nat → Prop) (ps : List Nat) (So' : Nat → Nat → Prop) (o x : Nat) : Prop := (∃ k : Nat, ps[k]? = some o ∧ So' k x) ∨ ((∀ k : Nat, ps[k]? ≠ some o) ∧ So o x)
def Pd2 (Pd : Nat → Prop) (fz : Bool) (Sr : Nat → Nat → Prop) (x : Nat) : Prop := Pd x ∨ (fz = false ∧ ∃ j, Sr j x)

theorem RepW.recall (h : RepW N E loc So Pd σ a w) {ps : List Nat} {obs : List Ob} (hps : passed σ ps = some obs) {fr fz : Bool} {w' : World} {r : List (Option Ob) × RV} {v : Value} {So' Sr : Nat → Nat → Prop} {us : List Value}
    (ex : Exit' w w' (Seen E So Pd w ps fr) (Own1 So ps) (loc1 loc ps) obs r v So' Sr us) (hfree : fr = true ∨ r.1.all obFree = true) {σ2 : St} (hb : backs ps r.1 σ = some σ2) :
    RepW N E loc (So2 So ps So') (Pd2 Pd fz Sr) σ2 a w' ∧ (∀ x, ((fr = true ∧ Fz E So Pd w x) ∨ Own1 So ps x ∨ w.heap.size ≤ x) → x < w'.heap.size → (∀ k, ¬ So' k x) → (fz = false → ∀ j, ¬ Sr j x) → Fz E (So2 So ps So') (Pd2 Pd fz Sr) w' x) := by
  obtain ⟨hlen, hget, hnd⟩ := passed_get hps
  have hcl : ∀ ob, some ob ∈ r.1 → ob.closed = true := fun ob hm => by
    obtain ⟨k, hk, e⟩ := List.getElem_of_mem hm
    obtain ⟨ob0, _, _, _, hc, _⟩ := ex.objs k ob (by rw [List.getElem?_eq_getElem hk, e])
    exact hc
  have B := backs_spec ps r.1 hb hnd hcl
  -- blocks that were handed on, or are new
  have hown : ∀ x, Own1 So ps x → E.mine x ∧ x < w.heap.size ∧ ¬ Pd x := fun x ⟨k, o, _, hx⟩ => by
    obtain ⟨q1, q2, q3, q4⟩ := h.has o x hx
    exact ⟨q2, q3, q4⟩
  have hmine : ∀ x, (Own1 So ps x ∨ w.heap.size ≤ x) → E.mine x ∧ ¬ Pd x ∧ ∀ o, (∀ k : Nat, ps[k]? ≠ some o) → ¬ So o x := fun x hx => by
    rcases hx with hx | hx
    · obtain ⟨q1, q2, q3⟩ := hown x hx
      refine ⟨q1, q3, fun o ho hq => ?_⟩
      obtain ⟨k, o', hk, hx⟩ := hx
      have := h.dis o o' x hq hx
      subst this
      exact ho k hk
    · refine ⟨.inr (Nat.le_trans h.keep.size hx), fun q => by have := h.pdlt x q; omega, fun o ho hq => by have := (h.has o x hq).2.2.1; omega⟩
  have hsame : ∀ o, (∀ k : Nat, ps[k]? ≠ some o) → ∀ x, So o x → w'.heap[x]? = w.heap[x]? := fun o ho x hx =>
    ex.keep.block x (h.has o x hx).2.2.1 (fun ⟨k, o', hk, hq⟩ => by have := h.dis o o' x hx hq; subst this; exact ho k hk)
  have hF : ∀ x, Fz E So Pd w x → Fz E (So2 So ps So') (Pd2 Pd fz Sr) w' x ∧ w'.heap[x]? = w.heap[x]? := fun x hx => by
    have hn : ¬ (Own1 So ps x ∨ w.heap.size ≤ x) := fun q => by
      rcases q with ⟨k, o, _, q⟩ | q
      · exact hx.2.2.1 o q
      · have := hx.2.1; omega
    refine ⟨⟨hx.1, Nat.lt_of_lt_of_le hx.2.1 ex.keep.size, fun o q => ?_, fun q => ?_⟩, ex.keep.block x hx.2.1 (fun q => hn (.inl q))⟩
    · rcases q with ⟨k, _, q⟩ | ⟨_, q⟩
      · exact hn (ex.has k x q).1
      · exact hx.2.2.1 o q
    · rcases q with q | ⟨_, j, q⟩
      · exact hx.2.2.2 q
      · exact hn (ex.ret j x q).1
  have hfz2 : ∀ x, ((fr = true ∧ Fz E So Pd w x) ∨ Own1 So ps x ∨ w.heap.size ≤ x) → x < w'.heap.size → (∀ k, ¬ So' k x) → (fz = false → ∀ j, ¬ Sr j x) → Fz E (So2 So ps So') (Pd2 Pd fz Sr) w' x := fun x hx hlt hs hr => by
    rcases hx with ⟨_, hx⟩ | hx
    · exact (hF x hx).1
    · obtain ⟨q1, q2, q3⟩ := hmine x hx
      refine ⟨.inr q1, hlt, fun o q => ?_, fun q => ?_⟩
      · rcases q with ⟨k, _, q⟩ | ⟨ho, q⟩
        · exact hs k q
        · exact q3 o ho q
      · rcases q with q | ⟨hf, j, q⟩
        · exact q2 q
        · exact hr hf j q
  refine ⟨?_, hfz2⟩
  have hback : ∀ (k o : Nat), ps[k]? = some o → Gone ps r.1 o ∨ ∃ ob, r.1[k]? = some (some ob) := fun k o hk => by
    have hkl : k < r.1.length := by rw [ex.len, hlen]; exact get_lt hk
    cases hx : r.1[k] with
    | none => exact .inl ⟨k, hk, by rw [List.getElem?_eq_getElem hkl, hx]⟩
    | some ob => exact .inr ⟨ob, by rw [List.getElem?_eq_getElem hkl, hx]⟩
  have hkr : ∀ o, ¬ Gone ps r.1 o → KeepR σ.objs σ2.objs loc loc o := fun o hng => by
    refine ⟨fun ob0 h0 => ?_, rfl⟩
    by_cases ho : ∃ k : Nat, ps[k]? = some o
    · obtain ⟨k, hk⟩ := ho
      rcases hback k o hk with q | ⟨ob, q⟩
      · exact absurd q hng
      · obtain ⟨ob1, p1, p2, p3, _⟩ := ex.objs k ob q
        obtain ⟨ob2, r1, r2, _⟩ := hget k o hk
        rw [r2] at h0
        obtain rfl := Option.some.inj h0
        rw [p1] at r1
        obtain rfl := Option.some.inj r1
        exact ⟨ob, B.some' k o ob hk q, p2, p3⟩
    · obtain ⟨ob2, q1, q2, q3, _⟩ := B.stay o (fun k hk => ho ⟨k, hk⟩) ob0 h0
      exact ⟨ob2, q1, q2, q3⟩
  refine ⟨h.size, h.defers, ?_, h.ok, h.lt, fun o x hx => ?_, fun o o' x hx hx' => ?_, fun x hx => ?_, fun o ob ho => ?_, fun t v' hk => ?_, fun k ob hk ho => ?_⟩
  · refine ⟨ex.keep.os.trans h.keep.os, ex.keep.tape.trans h.keep.tape, ex.keep.output.trans h.keep.output, Nat.le_trans h.keep.size ex.keep.size, fun x hx hn => ?_⟩
    rw [ex.keep.block x (Nat.lt_of_lt_of_le hx h.keep.size) (fun q => (hown x q).1.elim hn (by omega)), h.keep.block x hx hn]
  · rcases hx with ⟨k, hk, hx⟩ | ⟨ho, hx⟩
    · obtain ⟨q1, q2, ob, q3⟩ := ex.has k x hx
      obtain ⟨p1, p2, _⟩ := hmine x q1
      refine ⟨by rw [B.some' k o ob hk q3]; rfl, p1, q2, fun q => ?_⟩
      rcases q with q | ⟨_, j, q⟩
      · exact p2 q
      · exact (ex.ret j x q).2.2 k hx
    · obtain ⟨q1, q2, q3, q4⟩ := h.has o x hx
      obtain ⟨ob0, h0⟩ := Option.isSome_iff_exists.1 q1
      obtain ⟨ob2, p1, _⟩ := B.stay o ho ob0 h0
      refine ⟨by rw [p1]; rfl, q2, Nat.lt_of_lt_of_le q3 ex.keep.size, fun q => ?_⟩
      rcases q with q | ⟨_, j, q⟩
      · exact q4 q
      · exact (hmine x (ex.ret j x q).1).2.2 o ho hx
  · rcases hx with ⟨k, hk, hx⟩ | ⟨ho, hx⟩ <;> rcases hx' with ⟨k', hk', hx'⟩ | ⟨ho', hx'⟩
    · have := ex.dis k k' x hx hx'
      subst this
      rw [hk] at hk'
      exact Option.some.inj hk'
    · exact absurd hx' ((hmine x (ex.has k x hx).1).2.2 o' ho')
    · exact absurd hx ((hmine x (ex.has k' x hx').1).2.2 o ho)
    · exact h.dis o o' x hx hx'
  · rcases hx with hx | ⟨_, j, hx⟩
    · exact Nat.lt_of_lt_of_le (h.pdlt x hx) ex.keep.size
    · exact (ex.ret j x hx).2.1
  · by_cases hin : ∃ k : Nat, ps[k]? = some o
    · obtain ⟨k, hk⟩ := hin
      rcases hback k o hk with ⟨k', q1, q2⟩ | ⟨ob', q⟩
      · rw [B.none' k' o q1 q2] at ho; cases ho
      · rw [B.some' k o ob' hk q] at ho
        obtain rfl := Option.some.inj ho
        obtain ⟨ob0, p1, p2, p3, p4, p5⟩ := ex.objs k ob' q
        have hl : loc1 loc ps k = loc o := by simp only [loc1, hk]
        rw [hl] at p5
        refine ⟨p5.none', fun b off cap e => ?_⟩
        obtain ⟨c1, vs, Sf, c2, c3, c4, c5⟩ := p5.some' b off cap e
        refine ⟨.inl ⟨k, hk, c1⟩, vs, Sf, c2, fun i j x hx => ⟨.inl ⟨k, hk, (c3 i j x hx).1⟩, (c3 i j x hx).2⟩, c4, fun i j c hc => ?_⟩
        have hcc := c5 i j c hc
        cases ob' with
        | fn u => simp [Ob.closed] at p4
        | ls t f l kk hs =>
          simp only [Ob.closed, List.isEmpty_iff] at p4
          subst p4
          simp only [Ob.cell] at hc
          obtain ⟨y, hy, hc⟩ := Option.bind_eq_some_iff.1 hc
          obtain ⟨d, hd, rfl⟩ := Option.map_eq_some_iff.1 hc
          simp only [cv, holeAt] at hcc ⊢
          by_cases hsc : d.scalar = true
          · rw [if_pos hsc] at hcc ⊢
            exact scalar_rd hcc hsc _ _
          · rw [if_neg hsc] at hcc ⊢
            by_cases hik : i < kk
            · rw [if_pos hik]; trivial
            · rw [if_neg hik] at hcc ⊢
              cases f with
              | false => exact Own.mono hcc (fun _ hb => hb) (fun _ _ => rfl)
              | true =>
                simp only [if_true] at hcc ⊢
                rcases hfree with hfr | hfree
                · subst hfr
                  refine Rd.mono (fun b hb => ?_) (fun _ _ => rfl) hcc
                  exact hfz2 b (hb.1.elim (fun q => .inl ⟨rfl, q⟩) .inr) hb.2.1 hb.2.2.1 (fun _ => hb.2.2.2)
                · have := List.all_eq_true.1 hfree _ (List.mem_of_getElem? q)
                  simp only [obFree, Bool.not_true, Bool.false_or] at this
                  exact absurd (cellsT_flat t y this d (List.mem_of_getElem? hd)) hsc
    · have ho' : ∀ k : Nat, ps[k]? ≠ some o := fun k hk => hin ⟨k, hk⟩
      obtain ⟨ob0, h0, t1, t2, t3⟩ := B.thin o ho' ob ho
      refine (h.objs o ob0 h0).less hF (fun b hb => ⟨.inr ⟨ho', hb⟩, hsame o ho' b hb⟩) t1 t2 (fun i j c hc => ?_)
      rcases t3 i j c hc with e | e | ⟨e1, e2⟩
      · exact .inl e
      · exact .inr (.inl e)
      · exact .inr (.inr ⟨e1, fun o2 h2 => hkr o2 (fun hg => by rw [e2 o2 hg] at h2; cases h2)⟩)
  · rcases B.regs t v' hk with e | ⟨e1, e2, e3⟩
    · subst e; simp only [RegOK]
    · refine RegOK.mono hF _ _ (h.regs t v' e1) (fun o2 h2 => hkr o2 (fun hg => by rw [e3 o2 hg] at h2; cases h2)) (fun o2 h2 b hb => ?_)
      have ho' : ∀ k : Nat, ps[k]? ≠ some o2 := fun k hk => by rw [e2 k o2 hk] at h2; cases h2
      exact ⟨.inr ⟨ho', hb⟩, hsame o2 ho' b hb⟩
  · by_cases hin : ∃ k' : Nat, ps[k']? = some k
    · obtain ⟨k', hk'⟩ := hin
      rcases hback k' k hk' with ⟨k2, q1, q2⟩ | ⟨ob', q⟩
      · rw [B.none' k2 k q1 q2] at ho; cases ho
      · rw [B.some' k' k ob' hk' q] at ho
        obtain rfl := Option.some.inj ho
        obtain ⟨ob0, p1, p2, p3, _⟩ := ex.objs k' ob' q
        obtain ⟨ob2, r1, r2, _⟩ := hget k' k hk'
        rw [p1] at r1
        obtain rfl := Option.some.inj r1
        obtain ⟨s1, s2, s3⟩ := h.pin k ob0 hk r2
        exact ⟨s1, by rw [p2]; exact s2, by rw [p3]; exact s3⟩
    · obtain ⟨ob0, h0, t1, t2, _⟩ := B.thin k (fun k' hk' => hin ⟨k', hk'⟩) ob ho
      obtain ⟨s1, s2, s3⟩ := h.pin k ob0 hk h0
      exact ⟨s1, by rw [t1]; exact s2, by rw [t2]; exact s3⟩

/-! ### What comes back is kept -/
theorem OpenFit.sub' {okf Pd : Nat → Prop} {okf' Pd' : Nat → Prop} {vs1 vs2 : List Value} {cs1 cs2 : List CV} {Sf : Nat → Nat → Prop} (f : OpenFit w E okf Pd (vs1 ++ vs2) (cs1 ++ cs2) Sf) (hl : cs1.length = vs1.length) :
    OpenFit w E okf Pd vs1 cs1 (fun j x => j < vs1.length ∧ Sf j x) ∧ ((∀ x, okf x → okf' x) → (∀ x, Pd x → (∀ j, j < vs1.length → ¬ Sf j x) → Pd' x) → OpenFit w E okf' Pd' vs2 cs2 (fun j => Sf (vs1.length + j))) := by
  have hl2 : cs2.length = vs2.length := by have := f.len; simp only [List.length_append] at this; omega
  refine ⟨⟨hl, fun j v x hv hc => ?_, fun j v x hv hc => ?_, fun j v t f' x hv hc => ?_, fun j x hx => f.sub j x hx.2, fun j j' x hx hx' => f.dis j j' x hx.2 hx'.2⟩, fun h1 h2 => ⟨hl2, fun j v x hv hc => ?_, fun j v x hv hc => ?_, fun j v t f' x hv hc => ?_, fun j x hx => ?_, fun j j' x hx hx' => by have := f.dis _ _ x hx hx'; omega⟩⟩
  · exact f.frz j v x (by rw [List.getElem?_append_left (get_lt hv)]; exact hv) (by rw [List.getElem?_append_left (get_lt hc)]; exact hc)
  · exact (f.cell j v x (by rw [List.getElem?_append_left (get_lt hv)]; exact hv) (by rw [List.getElem?_append_left (get_lt hc)]; exact hc)).mono (fun b hb => ⟨get_lt hv, hb⟩) (fun _ _ => rfl)
  · exact (f.box j v t f' x (by rw [List.getElem?_append_left (get_lt hv)]; exact hv) (by rw [List.getElem?_append_left (get_lt hc)]; exact hc)).mono (fun _ _ b hb => hb) (fun b hb => ⟨get_lt hv, hb⟩)
  · exact (f.frz (vs1.length + j) v x (by rw [List.getElem?_append_right (by omega)]; simpa using hv) (by rw [List.getElem?_append_right (by omega), hl]; simpa using hc)).mono h1 (fun _ _ => rfl)
  · exact f.cell (vs1.length + j) v x (by rw [List.getElem?_append_right (by omega)]; simpa using hv) (by rw [List.getElem?_append_right (by omega), hl]; simpa using hc)
  · exact (f.box (vs1.length + j) v t f' x (by rw [List.getElem?_append_right (by omega)]; simpa using hv) (by rw [List.getElem?_append_right (by omega), hl]; simpa using hc)).mono (fun _ _ => h1) (fun b hb => hb)
  · exact ⟨h2 x (f.sub _ x hx).1 (fun j' hj' q => by have := f.dis _ _ x hx q; omega), (f.sub _ x hx).2⟩

theorem openOne_ok {fz : Bool} {id : Nat} (h : RepW N E loc So Pd σ a w) {r : RV} {v : Value} {us : List Value} {Sf : Nat → Nat → Prop} (hsh : Shape v r us) (f : OpenFit w E (Fz E So Pd w) Pd us (r.cells.map (RC.cv fz)) Sf) (hid : 64 ≤ id) {q : AV × St} (hs : r.openOne fz id σ = some q) :
    ∃ loc' So' Pd', RepW N E loc' So' Pd' q.2 a w ∧ RegOK w (Fz E So' Pd' w) loc' So' q.2.objs v q.1 ∧ (∀ x, Fz E So Pd w x → Fz E So' Pd' w x) ∧ (∀ o, (o < id ∨ id + 16 ≤ o) → KeepR σ.objs q.2.objs loc loc' o) ∧
      (∀ x, Pd x → (∀ j, ¬ Sf j x) → Pd' x) ∧ q.1.blind = true ∧ (∀ o, q.1.refs o = true → id ≤ o ∧ o < id + 16) := by
  cases r with
  | one c =>
    simp only [Shape] at hsh
    subst hsh
    simp only [RV.openOne] at hs
    obtain ⟨⟨l, σ1⟩, ht, hs⟩ := Option.bind_eq_some_iff.1 hs
    simp only at hs
    split at hs
    case h_2 => cases hs
    rename_i _ av
    obtain rfl := Option.some.inj hs
    obtain ⟨loc', So', Pd', r1, r2, r3, r4, r5, r6, r7⟩ := takeL_ok _ [v] h f hid ht
    simp only [RegsOK] at r2
    refine ⟨loc', So', Pd', r1, r2.1, r3, fun o ho => r4 o ?_, r5, by simpa [AV.blindL] using r6, fun o ho => ?_⟩
    · simp only [RV.cells, List.map_cons, List.map_nil, List.length_cons, List.length_nil]; omega
    · have := r7 o (by simp [AV.refsL, ho]); simp only [RV.cells, List.map_cons, List.map_nil, List.length_cons, List.length_nil] at this; omega
  | agg l =>
    simp only [Shape] at hsh
    obtain ⟨rfl, hl⟩ := hsh
    simp only [RV.openOne] at hs
    split at hs
    case isFalse => cases hs
    rename_i h16
    obtain ⟨⟨l1, σ1⟩, ht, rfl⟩ := Option.map_eq_some_iff.1 hs
    obtain ⟨loc', So', Pd', r1, r2, r3, r4, r5, r6, r7⟩ := takeL_ok _ us h f hid ht
    refine ⟨loc', So', Pd', r1, by simp only [RegOK]; exact ⟨us, rfl, r2⟩, r3, fun o ho => r4 o ?_, r5, by simp only [AV.blind]; exact r6, fun o ho => ?_⟩
    · simp only [RV.cells, List.length_map]; omega
    · have := r7 o (by simpa [AV.refs] using ho)
      simp only [RV.cells, List.length_map] at this; omega
  | tup l => simp [RV.openOne] at hs

theorem openTup_ok {fz : Bool} : ∀ (l : List RV) (vs us : List Value) {id : Nat} {loc : Nat → Option (Nat × Nat × Nat)} {So : Nat → Nat → Prop} {Pd : Nat → Prop} {σ : St} {Sf : Nat → Nat → Prop} {q : List AV × St}, RepW N E loc So Pd σ a w → ShapeL vs l us → OpenFit w E (Fz E So Pd w) Pd us ((RV.cellsL l).map (RC.cv fz)) Sf → 64 ≤ id → openTup fz id l σ = some q →
    ∃ loc' So' Pd', RepW N E loc' So' Pd' q.2 a w ∧ RegsOK w (Fz E So' Pd' w) loc' So' q.2.objs vs q.1 ∧ (∀ x, Fz E So Pd w x → Fz E So' Pd' w x) ∧ (∀ o, o < id → KeepR σ.objs q.2.objs loc loc' o) ∧ AV.blindL q.1 = true
  | [], vs, us, id, loc, So, Pd, σ, Sf, q, h, hsh, f, hid, hs => by
    cases vs with
    | cons _ _ => simp [ShapeL] at hsh
    | nil =>
      simp only [openTup, Option.some.injEq] at hs
      subst hs
      exact ⟨loc, So, Pd, h, by simp only [RegsOK], fun x hx => hx, fun o _ => KeepR.refl _ _ o, rfl⟩
  | r :: l, vs, us, id, loc, So, Pd, σ, Sf, q, h, hsh, f, hid, hs => by
    cases vs with
    | nil => simp [ShapeL] at hsh
    | cons v vs =>
      simp only [ShapeL] at hsh
      obtain ⟨us1, us2, rfl, h1, h2⟩ := hsh
      simp only [openTup] at hs
      obtain ⟨q1, hq1, hs⟩ := Option.bind_eq_some_iff.1 hs
      obtain ⟨q2, hq2, rfl⟩ := Option.map_eq_some_iff.1 hs
      simp only [RV.cellsL, List.map_append] at f
      have hl1 : (r.cells.map (RC.cv fz)).length = us1.length := by rw [List.length_map, shape_len r v us1 h1]
      obtain ⟨loc1, So1, Pd1, r1, r2, r3, r4, r5, r6, r7⟩ := openOne_ok h h1 (f.sub' (okf' := Fz E So Pd w) (Pd' := Pd) hl1).1 hid hq1
      obtain ⟨loc', So', Pd', s1, s2, s3, s4, s5⟩ := openTup_ok l vs us2 r1 h2 ((f.sub' hl1).2 r3 (fun x hx hn => r5 x hx (fun j q => hn j q.1 q.2))) (by omega) hq2
      refine ⟨loc', So', Pd', s1, ?_, fun x hx => s3 x (r3 x hx), fun o ho => (r4 o (.inl ho)).trans (s4 o (by omega)), by simp only [AV.blindL, r6, s5, Bool.and_self]⟩
      simp only [RegsOK]
      exact ⟨RegOK.mono (fun b hb => ⟨s3 b hb, rfl⟩) _ _ r2 (fun o ho => s4 o (r7 o ho).2) (fun o ho => by rw [AV.blind_looks _ r6] at ho; cases ho), s2⟩

theorem RV.free_cells {r : RV} (h : r.free = true) {j : Nat} {c : RC} (hc : r.cells[j]? = some c) : c.free = true := by
  have hm := List.mem_of_getElem? hc
  cases r with
  | one x => simp only [RV.cells, List.mem_singleton] at hm; subst hm; exact h
  | agg l => exact List.all_eq_true.1 h c hm
  | tup l =>
    simp only [RV.free] at h
    simp only [RV.cells] at hm
    clear hc
    induction l with
    | nil => simp [RV.cellsL] at hm
    | cons x l ih =>
      simp only [List.all_cons, Bool.and_eq_true] at h
      simp only [RV.cellsL, List.mem_append] at hm
      rcases hm with hm | hm
      · cases x with
        | one y => simp only [RV.cells, List.mem_singleton] at hm; subst hm; exact h.1
        | agg y => exact List.all_eq_true.1 h.1 c hm
        | tup y => simp at h
      · exact ih h.2 hm
theorem ok_call {gl : Globs} (hX : ∀ f as obs r, X f as obs = some r → Ctr P gl f as obs r) (hE : EntOK gl E) (h : RepW N E loc So Pd σ a w) {d : Nat} {fz : Bool} {ps : List Nat} {f : O} {args : List O} (hq : okC1 N o (.call d fz ps f args) = true) (hs : kstep X (.call d fz ps f args) σ = some σ') : Outc P o a w (Rep N E σ') := by
  simp only [okC1, Bool.and_eq_true] at hq
  obtain ⟨hd, hq⟩ := hq
  obtain ⟨hd, hn⟩ := dstB_ok hd
  split at hq
  case h_2 => cases hq
  rename_i g as ts hop
  simp only [Bool.and_eq_true] at hq
  have hg := h.op hq.1
  simp only [kstep] at hs
  split at hs
  case h_2 => cases hs
  rename_i f' caps hf
  rw [hf] at hg
  simp only [RegOK] at hg
  obtain ⟨cvs, hgv, hcvs⟩ := hg
  obtain ⟨ds, hds, hs⟩ := Option.bind_eq_some_iff.1 hs
  obtain ⟨obs, hps, hs⟩ := Option.bind_eq_some_iff.1 hs
  obtain ⟨r, hr, hs⟩ := Option.bind_eq_some_iff.1 hs
  obtain ⟨⟨fn, hfn, hname, hbody⟩, hctr⟩ := hX _ _ _ _ hr
  have hall := (h.ops hq.2).append hcvs
  have hlist : (as.map a.eval ++ cvs.toArray) = ((as.toList.map a.eval) ++ cvs).toArray := by
    apply Array.ext'; simp
  have hrun : (execOp a.eval o).run P w = .ok (.enter f' ((as.toList.map a.eval) ++ cvs).toArray) w := by
    rw [← hlist]
    have e1 : ¬ fn.name = "runtime.NumGoroutine" := by simpa using hname
    have e2 : ¬ fn.body = none := by intro e; simp [e] at hbody
    simp [execOp, hop, resolve, hgv, Deferred.ofValue, invoke, callFunc, hfn, e1, e2]
  simp only [called] at hs
  by_cases hc : ((r.2.free && r.1.all obFree) || AV.frPL ps (args.map σ.op ++ caps)) = true
  case neg => rw [if_neg hc] at hs; cases hs
  rw [if_pos hc] at hs
  obtain ⟨σ2, hb, hs⟩ := Option.bind_eq_some_iff.1 hs
  obtain ⟨q, hopen, rfl⟩ := Option.map_eq_some_iff.1 hs
  let fr : Bool := AV.frPL ps (args.map σ.op ++ caps)
  have hfr : fr = true → AV.frPL ps (args.map σ.op ++ caps) = true := fun e => e
  obtain ⟨hseen, _⟩ := allOf_args (fr := fr) (fun v av av' => arg_seen h hps fu6 v av av') _ _ _ hall hds hfr
  obtain ⟨hlen, hget, hnd⟩ := passed_get hps
  have hentry : Entry w (Seen E So Pd w ps fr) (Own1 So ps) (loc1 loc ps) (So1 So ps) ds obs ((as.toList.map a.eval) ++ cvs) := by
    refine ⟨fun x hx => ?_, fun x ⟨k, o', _, hx⟩ => (h.has o' x hx).2.2.1, fun k x ⟨o', hk, hx⟩ => ⟨⟨k, o', hk, hx⟩, by rw [hlen]; exact get_lt hk⟩, fun k k' x ⟨o', hk, hx⟩ ⟨o2, hk', hx'⟩ => ?_, fun k ob hob => ?_, hseen⟩
    · cases hfe : fr with
      | true => rw [hfe] at hx; exact ⟨hx.2.1, fun ⟨k, o', _, q⟩ => hx.2.2.1 o' q⟩
      | false => rw [hfe] at hx; exact hx
    · have := h.dis o' o2 x hx hx'
      subst this
      exact hnd k k' o' hk hk'
    · have hk : k < ps.length := by rw [← hlen]; exact get_lt hob
      obtain ⟨ob', q1, q2, q3⟩ := hget k _ (List.getElem?_eq_getElem hk)
      rw [hob] at q1
      obtain rfl := Option.some.inj q1
      refine ⟨q3, ?_⟩
      have hl : loc1 loc ps k = loc ps[k] := by simp only [loc1, List.getElem?_eq_getElem hk]
      rw [hl]
      exact (h.objs _ ob q2).mono (fun b hb => ⟨Seen.of_fz hb, rfl⟩) (fun b hb => ⟨⟨_, List.getElem?_eq_getElem hk, hb⟩, rfl⟩) (fun o' ho' => by rw [Ob.closed_refs q3] at ho'; cases ho')
  have hBw : gl.B ≤ w.heap.size := Nat.le_trans hE.2.1 h.keep.size
  have hmineB : ∀ x, E.mine x → gl.B ≤ x := fun x hx => hx.elim (hE.2.2 x) (fun q => Nat.le_trans hE.2.1 q)
  have hGw : gl.G w := gl.stay E.w0 w hE.1 (h.keep.below hE.2.1 (fun x hx => hE.2.2 x hx))
  refine .enter f' _ w hrun ((hctr w _ _ _ _ _ hGw hBw (fun x ⟨k, o', _, hx⟩ => hmineB x (h.has o' x hx).2.1) hentry).mono fun e w' ⟨v, So', Sr, us, he, ex⟩ => ⟨v, he, ?_⟩)
  rw [hd]
  have hfree : fr = true ∨ r.1.all obFree = true := by
    simp only [Bool.or_eq_true, Bool.and_eq_true] at hc
    exact hc.elim (fun q => .inr q.2) .inl
  obtain ⟨hrep, hfz2⟩ := h.recall hps (fz := fz) ex hfree hb
  -- the cells of what comes back
  have hfit : OpenFit w' E (Fz E (So2 So ps So') (Pd2 Pd fz Sr) w') (Pd2 Pd fz Sr) us (r.2.cells.map (RC.cv fz)) (fun j x => fz = false ∧ Sr j x) := by
    have hsl := shape_len r.2 v us ex.shape
    refine ⟨by rw [List.length_map, hsl], fun j u x hu hx => ?_, fun j u x hu hx => ?_, fun j u t f' x hu hx => ?_, fun j x hx => ?_, fun j j' x hx hx' => ex.rdis j j' x hx.2 hx'.2⟩
    · rw [List.getElem?_map] at hx
      obtain ⟨c, hc1, hc2⟩ := Option.map_eq_some_iff.1 hx
      have hcell := ex.cell j u c hu hc1
      cases c with
      | fz y =>
        simp only [RC.cv, CV.d.injEq] at hc2
        subst hc2
        simp only [RetC] at hcell
        by_cases hsc : y.scalar = true
        · exact scalar_rd hcell hsc _ _
        · have hfe : fr = true := by
            simp only [Bool.or_eq_true, Bool.and_eq_true] at hc
            rcases hc with q | q
            · exfalso
              have hy := RV.free_cells q.1 hc1
              simp only [RC.free] at hy
              exact hsc hy
            · exact q
          refine hcell.mono (fun b hb => hfz2 b ?_ hb.2.1 hb.2.2.1 (fun _ => hb.2.2.2)) (fun _ _ => rfl)
          rcases hb.1 with q | q
          · rw [hfe] at q; exact .inl ⟨hfe, q⟩
          · exact .inr q
      | own y =>
        simp only [RC.cv] at hc2
        split at hc2
        · rename_i hf
          obtain rfl := CV.d.inj hc2
          simp only [RetC] at hcell
          refine hcell.rd.mono (fun b hb => ?_) (fun _ _ => rfl)
          obtain ⟨q1, q2, q3⟩ := ex.ret j b hb
          exact hfz2 b (.inr q1) q2 q3 (fun e => by rw [hf] at e; cases e)
        · cases hc2
      | bx t f' y => simp only [RC.cv] at hc2; split at hc2 <;> cases hc2
    · rw [List.getElem?_map] at hx
      obtain ⟨c, hc1, hc2⟩ := Option.map_eq_some_iff.1 hx
      have hcell := ex.cell j u c hu hc1
      cases c with
      | fz y => simp [RC.cv] at hc2
      | own y =>
        simp only [RC.cv] at hc2
        split at hc2
        · cases hc2
        · rename_i hf
          obtain rfl := CV.own.inj hc2
          exact Own.mono hcell (fun b hb => ⟨by simpa using hf, hb⟩) (fun _ _ => rfl)
      | bx t f' y => simp only [RC.cv] at hc2; split at hc2 <;> cases hc2
    · rw [List.getElem?_map] at hx
      obtain ⟨c, hc1, hc2⟩ := Option.map_eq_some_iff.1 hx
      have hcell := ex.cell j u c hu hc1
      cases c with
      | fz y => simp [RC.cv] at hc2
      | own y => simp only [RC.cv] at hc2; split at hc2 <;> cases hc2
      | bx t' f2 y =>
        simp only [RC.cv] at hc2
        split at hc2
        · cases hc2
        · rename_i hf
          cases hc2
          simp only [RetC] at hcell
          refine hcell.mono (fun e1 e2 b hb => ?_) (fun b hb => ⟨by simpa using hf, hb⟩)
          have hfe : fr = true := by
            simp only [Bool.or_eq_true, Bool.and_eq_true] at hc
            rcases hc with q | q
            · exfalso
              have hy := RV.free_cells q.1 hc1
              simp only [RC.free, e1, e2] at hy
              cases hy
            · exact q
          refine hfz2 b ?_ hb.2.1 hb.2.2.1 (fun _ => hb.2.2.2)
          rcases hb.1 with q | q
          · rw [hfe] at q; exact .inl ⟨hfe, q⟩
          · exact .inr q
    · obtain ⟨q1, q2, q3⟩ := ex.ret j x hx.2
      refine ⟨.inr ⟨hx.1, j, hx.2⟩, ?_, q2⟩
      rcases q1 with ⟨k, o', _, q⟩ | q
      · exact (h.has o' x q).2.1
      · exact .inr (Nat.le_trans h.keep.size q)
  have h64 : 64 ≤ nid (1000 * (d + 1)) := by simp [nid]
  have hone : ∀ {q : AV × St}, r.2.openOne fz (nid (1000 * (d + 1))) σ2 = some q → Rep N E (q.2.set d q.1) (a.put (some d) v) w' := fun {q} hq => by
    obtain ⟨loc', So3, Pd3, s1, s2, _⟩ := openOne_ok hrep ex.shape hfit h64 hq
    exact ⟨loc', So3, Pd3, s1.set hn s2⟩
  cases hr2 : r.2 with
  | one c => rw [hr2] at hopen hone; exact hone hopen
  | agg l => rw [hr2] at hopen hone; exact hone hopen
  | tup l =>
    rw [hr2] at hopen
    simp only [RV.opened] at hopen
    split at hopen
    case isFalse => cases hopen
    obtain ⟨q', hq', rfl⟩ := Option.map_eq_some_iff.1 hopen
    have hsh := ex.shape
    rw [hr2] at hsh hfit
    simp only [Shape] at hsh
    obtain ⟨vs, rfl, hsh⟩ := hsh
    obtain ⟨loc', So3, Pd3, s1, s2, _⟩ := openTup_ok l vs us hrep hsh hfit h64 hq'
    exact ⟨loc', So3, Pd3, s1.set hn (by simp only [RegOK]; exact ⟨vs, rfl, s2⟩)⟩

end rep
end Go.Proofs.YtniakiefibpgmaaGreatDoorK
