/- What an abstract state outlasts: new blocks, objects that are made, turned, handed on. -/
import Derived.Test.YtniakiefibpgmaaGreatDoorJ3
set_option linter.unusedVariables false
set_option linter.unusedSimpArgs false
namespace Go.Proofs.YtniakiefibpgmaaGreatDoorK
open Go.RowKit

theorem Ob.unref_sz (o : Nat) (ob : Ob) : (ob.unref o).sz = ob.sz := by cases ob <;> rfl
theorem Ob.unref_len (o : Nat) (ob : Ob) : (ob.unref o).len = ob.len := by cases ob <;> rfl
theorem holeAt_unlent (o : Nat) (hs : List (Nat × Nat × Option Nat)) (i j : Nat) : holeAt (unlent o hs) i j = (holeAt hs i j).map fun x => if x = some o then none else x := by
  induction hs with
  | nil => rfl
  | cons q hs ih =>
    obtain ⟨a, b, x⟩ := q
    simp only [unlent, holeAt]
    split
    · rfl
    · exact ih
theorem cv_unlent (o : Nat) (fz : Bool) (k : Nat) (hs : List (Nat × Nat × Option Nat)) (i j : Nat) (x : D) : cv fz k (unlent o hs) i j x = .junk ∨ (cv fz k (unlent o hs) i j x = cv fz k hs i j x ∧ (cv fz k hs i j x).refs o = false) := by
  simp only [cv, holeAt_unlent]
  split
  · exact .inr ⟨rfl, rfl⟩
  · split
    · exact .inl rfl
    · cases hh : holeAt hs i j with
      | none => simp only [Option.map_none]; right; refine ⟨by trivial, ?_⟩; split <;> rfl
      | some y =>
        cases y with
        | none => simp
        | some o' =>
          simp only [Option.map_some, Option.some.injEq]
          by_cases e : o' = o
          · simp [e]
          · by_cases e2 : o' = 63
            · subst e2; simp [e, CV.refs]
            · simp [e, e2, CV.refs]; omega
theorem Ob.cell_unref {o : Nat} {ob : Ob} {i j : Nat} {c : CV} (h : (ob.unref o).cell i j = some c) :
    c = .junk ∨ (∃ a, ob.cell i j = some (.fn a) ∧ c = .fn .junk) ∨ (ob.cell i j = some c ∧ c.refs o = false) := by
  cases ob with
  | ls t fz l k hs =>
    simp only [Ob.unref, Ob.cell] at h ⊢
    obtain ⟨x, hx, h⟩ := Option.bind_eq_some_iff.1 h
    obtain ⟨d, hd, rfl⟩ := Option.map_eq_some_iff.1 h
    rcases cv_unlent o fz k hs i j d with e | ⟨e1, e2⟩
    · exact .inl e
    · right; right; rw [e1]; exact ⟨by rw [hx]; simp [hd], e2⟩
  | fn v =>
    simp only [Ob.unref, Ob.cell] at h ⊢
    split at h
    · rename_i hij
      have h := (Option.some.inj h).symm
      subst h
      by_cases e : v.refs o = true
      · right; left; simp only [e, if_true]; exact ⟨v, by rw [if_pos hij], by trivial⟩
      · right; right; simp only [e, Bool.false_eq_true, if_false]; exact ⟨by rw [if_pos hij], by simpa [CV.refs] using e⟩
    · cases h

section mono
variable {w w' : World} {fz fz' : Nat → Prop} {loc loc' : Nat → Option (Nat × Nat × Nat)} {So So' : Nat → Nat → Prop} {objs objs' : List (Nat × Ob)}
/-- Less is known of an object. -/
theorem ObjOK.less {l : Option (Nat × Nat × Nat)} {ob ob' : Ob} {S S' : Nat → Prop} (h : ObjOK w fz loc So objs l ob S) (h1 : ∀ b, fz b → fz' b ∧ w'.heap[b]? = w.heap[b]?) (h3 : ∀ b, S b → S' b ∧ w'.heap[b]? = w.heap[b]?)
    (hs : ob'.sz = ob.sz) (hn : ob'.len = ob.len)
    (hc' : ∀ i j c, ob'.cell i j = some c → c = .junk ∨ (∃ a, ob.cell i j = some (.fn a) ∧ c = .fn .junk) ∨ (ob.cell i j = some c ∧ ∀ o, c.refs o = true → KeepR objs objs' loc loc' o)) : ObjOK w' fz' loc' So' objs' l ob' S' := by
  refine ⟨fun e => by rw [hn]; exact h.none' e, fun b off cap e => ?_⟩
  obtain ⟨hb, vs, Sf, hrow, hsub, hd, hc⟩ := h.some' b off cap e
  refine ⟨(h3 b hb).1, vs, Sf, by rw [hs, hn]; exact hrow.mono (h3 b hb).2, fun i j x hx => ⟨(h3 x (hsub i j x hx).1).1, (hsub i j x hx).2⟩, hd, fun i j c p => ?_⟩
  rcases hc' i j c p with e | ⟨a, e1, e2⟩ | ⟨e1, e2⟩
  · subst e; trivial
  · subst e2
    have := hc i j _ e1
    exact ⟨rfl, this.2.1, by simp only [RegOK]⟩
  · exact (hc i j c e1).mono h1 (fun b hb => ⟨hb, (h3 b (hsub i j b hb).1).2⟩) e2
end mono

section rep
variable {N : Nat} {E : Ent} {loc : Nat → Option (Nat × Nat × Nat)} {So : Nat → Nat → Prop} {Pd : Nat → Prop} {σ : St} {a : Act} {w : World}

theorem Fz.grow {w' : World} (hs : w.heap.size ≤ w'.heap.size) {x : Nat} (h : Fz E So Pd w x) : Fz E So Pd w' x :=
  ⟨h.1, Nat.lt_of_lt_of_le h.2.1 hs, h.2.2⟩

theorem Keep.trans_below {own : Nat → Prop} {a b c : World} (h : Keep own a b) (k : Below a.heap.size b c) : Keep own a c :=
  ⟨k.os.trans h.os, k.tape.trans h.tape, k.output.trans h.output, Nat.le_trans h.size k.size, fun i hi ho => (k.block i hi).trans (h.block i hi ho)⟩

theorem RepW.below (h : RepW N E loc So Pd σ a w) {w' : World} (hb : Below w.heap.size w w') : RepW N E loc So Pd σ a w' := by
  have hf : ∀ x, Fz E So Pd w x → Fz E So Pd w' x ∧ w'.heap[x]? = w.heap[x]? := fun x hx => ⟨hx.grow hb.size, hb.block x hx.2.1⟩
  have hso : ∀ o x, So o x → w'.heap[x]? = w.heap[x]? := fun o x hx => hb.block x (h.has o x hx).2.2.1
  refine ⟨h.size, h.defers, h.keep.trans_below (hb.mono h.keep.size), h.ok, h.lt, fun o x hx => ?_, h.dis, fun x hx => Nat.lt_of_lt_of_le (h.pdlt x hx) hb.size, fun o ob ho => ?_, fun t v hv => ?_, h.pin⟩
  · obtain ⟨h1, h2, h3, h4⟩ := h.has o x hx
    exact ⟨h1, h2, Nat.lt_of_lt_of_le h3 hb.size, h4⟩
  · exact (h.objs o ob ho).mono hf (fun b hb => ⟨hb, hso o b hb⟩) (fun o' _ => KeepR.refl _ _ o')
  · exact RegOK.mono hf _ _ (h.regs t v hv) (fun o _ => KeepR.refl _ _ o) (fun o _ b hb => ⟨hb, hso o b hb⟩)

/-- Another frame with the same registers. -/
theorem RepW.frame (h : RepW N E loc So Pd σ a w) {t : Nat} (v : Value) (hn : klook σ.regs t = none ∨ klook σ.regs t = some .junk) : RepW N E loc So Pd σ (a.put (some t) v) w :=
  ⟨by simp [Act.put, h.size], h.defers, h.keep, h.ok, h.lt, h.has, h.dis, h.pdlt, h.objs, fun t' v' hk => by
    by_cases e : t' = t
    · subst e
      rcases hn with hn | hn
      · rw [hn] at hk; cases hk
      · rw [hn] at hk; obtain rfl := Option.some.inj hk; simp only [RegOK]
    · simp only [Act.put]
      rw [getD_set_other v e]
      exact h.regs t' v' hk, h.pin⟩

theorem unref_regs (σ : St) (o : Nat) (t : Nat) (v : AV) (hk : klook (σ.unref o).regs t = some v) : v = .junk ∨ (klook σ.regs t = some v ∧ v.refs o = false) := by
  have hk : (klook σ.regs t).map (fun v => if v.refs o then AV.junk else v) = some v := by rw [← klook_map]; exact hk
  obtain ⟨u, hu, hv⟩ := Option.map_eq_some_iff.1 hk
  by_cases hr : u.refs o = true
  · rw [if_pos hr] at hv; exact .inl hv.symm
  · rw [if_neg hr] at hv; subst hv; exact .inr ⟨hu, by simpa using hr⟩
theorem unref_objs (σ : St) (o o' : Nat) : klook (σ.unref o).objs o' = (klook σ.objs o').map (Ob.unref o) := by
  show klook (σ.objs.map fun q => (q.1, q.2.unref o)) o' = _
  rw [klook_map]
theorem unlook_regs (σ : St) (o : Nat) (t : Nat) (v : AV) (hk : klook (σ.unlook o).regs t = some v) : v = .junk ∨ (klook σ.regs t = some v ∧ v.looks o = false) := by
  have hk : (klook σ.regs t).map (fun v => if v.looks o then AV.junk else v) = some v := by rw [← klook_map]; exact hk
  obtain ⟨u, hu, hv⟩ := Option.map_eq_some_iff.1 hk
  by_cases hr : u.looks o = true
  · rw [if_pos hr] at hv; exact .inl hv.symm
  · rw [if_neg hr] at hv; subst hv; exact .inr ⟨hu, by simpa using hr⟩
theorem looks_false_of_refs {o : Nat} {v : AV} (h : v.refs o = false) : v.looks o = false := by
  cases hl : v.looks o with
  | false => rfl
  | true => rw [AV.refs_of_looks v hl] at h; cases h
theorem gone_objs (σ : St) {o o' : Nat} {ob : Ob} (h : klook (σ.gone o).objs o' = some ob) : o' ≠ o ∧ ∃ ob0, klook σ.objs o' = some ob0 ∧ ob = ob0.unref o := by
  simp only [St.gone] at h
  have hne : o' ≠ o := by intro e; subst e; rw [klook_kdel_same] at h; cases h
  rw [klook_kdel_ne _ hne, unref_objs] at h
  obtain ⟨ob0, h0, h1⟩ := Option.map_eq_some_iff.1 h
  exact ⟨hne, ob0, h0, h1.symm⟩
theorem gone_objs' (σ : St) {o o' : Nat} {ob : Ob} (hne : o' ≠ o) (h : klook σ.objs o' = some ob) : klook (σ.gone o).objs o' = some (ob.unref o) := by
  simp only [St.gone]
  rw [klook_kdel_ne _ hne, unref_objs, h]; rfl

/-- An object is given up: its blocks are set aside, or frozen. -/
theorem RepW.lose (h : RepW N E loc So Pd σ a w) (o : Nat) {Pd' : Nat → Prop} (p2 : ∀ x, Pd' x → Pd x ∨ So o x) :
    RepW N E loc (fun o' x => o' ≠ o ∧ So o' x) Pd' (σ.gone o) a w := by
  have hf : ∀ x, Fz E So Pd w x → Fz E (fun o' x => o' ≠ o ∧ So o' x) Pd' w x ∧ w.heap[x]? = w.heap[x]? := fun x hx =>
    ⟨⟨hx.1, hx.2.1, fun o' hq => hx.2.2.1 o' hq.2, fun hq => (p2 x hq).elim hx.2.2.2 (hx.2.2.1 o)⟩, rfl⟩
  have hkeep : ∀ o', o' ≠ o → KeepR σ.objs (σ.gone o).objs loc loc o' := fun o' hne =>
    ⟨fun ob hob => ⟨_, gone_objs' σ hne hob, Ob.unref_sz _ _, Ob.unref_len _ _⟩, rfl⟩
  refine ⟨h.size, h.defers, h.keep, h.ok, h.lt, fun o' x hx => ?_, fun o' o'' x hx hy => h.dis o' o'' x hx.2 hy.2, fun x hx => (p2 x hx).elim (h.pdlt x) (fun q => (h.has o x q).2.2.1), fun o' ob ho => ?_, fun t v hk => ?_, fun k ob hk ho => ?_⟩
  · obtain ⟨h1, h2, h3, h4⟩ := h.has o' x hx.2
    obtain ⟨ob, hob⟩ := Option.isSome_iff_exists.1 h1
    refine ⟨by rw [gone_objs' σ hx.1 hob]; rfl, h2, h3, fun hq => (p2 x hq).elim h4 (fun hq => hx.1 (h.dis o' o x hx.2 hq))⟩
  · obtain ⟨hne, ob0, h0, rfl⟩ := gone_objs σ ho
    refine (h.objs o' ob0 h0).less hf (fun b hb => ⟨⟨hne, hb⟩, rfl⟩) (Ob.unref_sz _ _) (Ob.unref_len _ _) (fun i j c hc => ?_)
    rcases Ob.cell_unref hc with e | e | ⟨e1, e2⟩
    · exact .inl e
    · exact .inr (.inl e)
    · exact .inr (.inr ⟨e1, fun o2 h2 => hkeep o2 (by intro e; subst e; rw [e2] at h2; cases h2)⟩)
  · rcases unref_regs σ o t v hk with e | ⟨e1, e2⟩
    · subst e; simp only [RegOK]
    · refine RegOK.mono hf _ _ (h.regs t v e1) (fun o' ho' => hkeep o' (by intro e; subst e; rw [e2] at ho'; cases ho')) (fun o' ho' b hb => ?_)
      have hne : o' ≠ o := by intro e; subst e; rw [looks_false_of_refs e2] at ho'; cases ho'
      exact ⟨⟨hne, hb⟩, rfl⟩
  · obtain ⟨_, ob0, h0, rfl⟩ := gone_objs σ ho
    rw [Ob.unref_sz, Ob.unref_len]
    exact h.pin k ob0 hk h0
theorem RepW.gone (h : RepW N E loc So Pd σ a w) (o : Nat) : RepW N E loc (fun o' x => o' ≠ o ∧ So o' x) (fun x => Pd x ∨ So o x) (σ.gone o) a w :=
  h.lose o (fun _ hx => hx)
theorem RepW.freeze (h : RepW N E loc So Pd σ a w) (o : Nat) : RepW N E loc (fun o' x => o' ≠ o ∧ So o' x) Pd (σ.gone o) a w :=
  h.lose o (fun _ hx => .inl hx)

def soN (So : Nat → Nat → Prop) (o b : Nat) (Sf : Nat → Nat → Nat → Prop) (o' x : Nat) : Prop := (o' = o ∧ (x = b ∨ ∃ i j, Sf i j x)) ∨ (o' ≠ o ∧ So o' x)
def pdN (Pd : Nat → Prop) (So : Nat → Nat → Prop) (o b : Nat) (Sf : Nat → Nat → Nat → Prop) (x : Nat) : Prop := (Pd x ∨ So o x) ∧ ¬ (x = b ∨ ∃ i j, Sf i j x)
/-- An object is made, or turned: its row lies in block b. -/
theorem RepW.adopt (h : RepW N E loc So Pd σ a w) {w' : World} (o b off cap : Nat) (ob : Ob) (vs : Nat → Nat → Value) (Sf : Nat → Nat → Nat → Prop) (σ' : St)
    (hw : ∀ x, x < w.heap.size → x ≠ b → w'.heap[x]? = w.heap[x]?) (hsz : w.heap.size ≤ w'.heap.size) (hb' : b < w'.heap.size) (hos : w'.os = w.os) (htape : w'.tape = w.tape) (hout : w'.output = w.output)
    (hb : w.heap.size ≤ b ∨ Pd b ∨ So o b) (hb0 : E.mine b)
    (hrow : RowAt w' b off cap ob.sz ob.len vs)
    (KO : Prop) (hcell : ∀ (i j : Nat) (c : CV), ob.cell i j = some c → CellOK w (Fz E So Pd w) loc So σ.objs (vs i j) c (Sf i j) ∧ (c.refs o = true → KO))
    (hsub : ∀ i j x, Sf i j x → x ≠ b ∧ x < w.heap.size ∧ E.mine x ∧ (Pd x ∨ So o x))
    (hdis : ∀ i j i' j' x, Sf i j x → Sf i' j' x → i = i' ∧ j = j')
    (hKO : KO → loc o = some (b, off, cap) ∧ ∀ ob0, klook σ.objs o = some ob0 → ob.sz = ob0.sz ∧ ob.len = ob0.len)
    (hpin : 64 ≤ o ∨ (KO ∧ (klook σ.objs o).isSome))
    (hob : klook σ'.objs o = some ob)
    (hobjs : ∀ o' ob', o' ≠ o → klook σ'.objs o' = some ob' → ∃ ob0, klook σ.objs o' = some ob0 ∧ ((ob' = ob0 ∧ (ob0.refs o = true → KO)) ∨ ob' = ob0.unref o))
    (hobjs2 : ∀ o' ob0, o' ≠ o → klook σ.objs o' = some ob0 → ∃ ob', klook σ'.objs o' = some ob' ∧ ob'.sz = ob0.sz ∧ ob'.len = ob0.len)
    (hregs : ∀ t v, klook σ'.regs t = some v → v = .junk ∨ (klook σ.regs t = some v ∧ v.looks o = false ∧ (v.refs o = true → KO))) :
    RepW N E (fun o' => if o' = o then some (b, off, cap) else loc o') (soN So o b Sf) (pdN Pd So o b Sf) σ' a w' := by
  let So' : Nat → Nat → Prop := soN So o b Sf
  let Pd' : Nat → Prop := pdN Pd So o b Sf
  have hnb : ∀ o' x, o' ≠ o → So o' x → x ≠ b ∧ ∀ i j, ¬ Sf i j x := by
    intro o' x hne hx
    obtain ⟨q1, q2, q3, q4⟩ := h.has o' x hx
    refine ⟨fun e => ?_, fun i j hq => ?_⟩
    · subst e
      rcases hb with hb | hb | hb
      · omega
      · exact q4 hb
      · exact hne (h.dis o' o x hx hb)
    · rcases (hsub i j x hq).2.2.2 with hp | hp
      · exact q4 hp
      · exact hne (h.dis o' o x hx hp)
  have hfb : ∀ x, Fz E So Pd w x → x ≠ b ∧ ∀ i j, ¬ Sf i j x := by
    intro x hx
    refine ⟨fun e => ?_, fun i j hq => ?_⟩
    · subst e
      rcases hb with hb | hb | hb
      · have := hx.2.1; omega
      · exact hx.2.2.2 hb
      · exact hx.2.2.1 o hb
    · rcases (hsub i j x hq).2.2.2 with hp | hp
      · exact hx.2.2.2 hp
      · exact hx.2.2.1 o hp
  have hf : ∀ x, Fz E So Pd w x → Fz E So' Pd' w' x ∧ w'.heap[x]? = w.heap[x]? := by
    intro x hx
    obtain ⟨q1, q2⟩ := hfb x hx
    refine ⟨⟨hx.1, Nat.lt_of_lt_of_le hx.2.1 hsz, fun o' hq => ?_, fun hq => ?_⟩, hw x hx.2.1 q1⟩
    · rcases hq with ⟨_, hq | ⟨i, j, hq⟩⟩ | ⟨_, hq⟩
      · exact q1 hq
      · exact q2 i j hq
      · exact hx.2.2.1 o' hq
    · rcases hq.1 with hp | hp
      · exact hx.2.2.2 hp
      · exact hx.2.2.1 o hp
  have hkr : ∀ o', (o' = o → KO) → KeepR σ.objs σ'.objs loc (fun o' => if o' = o then some (b, off, cap) else loc o') o' := by
    intro o' hq
    by_cases e : o' = o
    · subst e
      obtain ⟨q1, q2⟩ := hKO (hq rfl)
      exact ⟨fun ob0 hob0 => ⟨ob, hob, (q2 ob0 hob0).1, (q2 ob0 hob0).2⟩, by rw [if_pos rfl, q1]⟩
    · exact ⟨fun ob0 hob0 => hobjs2 o' ob0 e hob0, by rw [if_neg e]⟩
  refine ⟨h.size, h.defers, ?_, h.ok, h.lt, ?_, ?_, fun x hx => Nat.lt_of_lt_of_le (hx.1.elim (h.pdlt x) (fun q => (h.has o x q).2.2.1)) hsz, ?_, ?_, ?_⟩
  · refine ⟨hos.trans h.keep.os, htape.trans h.keep.tape, hout.trans h.keep.output, Nat.le_trans h.keep.size hsz, fun x hx ho => ?_⟩
    rw [hw x (Nat.lt_of_lt_of_le hx h.keep.size) (by intro e; subst e; exact hb0.elim ho (by omega))]
    exact h.keep.block x hx ho
  · intro o' x hx
    rcases hx with ⟨e, hx⟩ | ⟨hne, hx⟩
    · subst e
      refine ⟨by rw [hob]; rfl, ?_, ?_, fun hq => hq.2 hx⟩
      · rcases hx with e | ⟨i, j, hq⟩
        · subst e; exact hb0
        · exact (hsub i j x hq).2.2.1
      · rcases hx with e | ⟨i, j, hq⟩
        · omega
        · have := (hsub i j x hq).2.1; omega
    · obtain ⟨q1, q2, q3, q4⟩ := h.has o' x hx
      obtain ⟨ob0, h0⟩ := Option.isSome_iff_exists.1 q1
      obtain ⟨ob', h1, _⟩ := hobjs2 o' ob0 hne h0
      refine ⟨by rw [h1]; rfl, q2, by omega, fun hq => ?_⟩
      rcases hq.1 with hp | hp
      · exact q4 hp
      · exact hne (h.dis o' o x hx hp)
  · intro o' o'' x hx hy
    rcases hx with ⟨e, hx⟩ | ⟨hne, hx⟩ <;> rcases hy with ⟨e', hy⟩ | ⟨hne', hy⟩
    · rw [e, e']
    · obtain ⟨q1, q2⟩ := hnb o'' x hne' hy
      rcases hx with hx | ⟨i, j, hx⟩
      · exact absurd hx q1
      · exact absurd hx (q2 i j)
    · obtain ⟨q1, q2⟩ := hnb o' x hne hx
      rcases hy with hy | ⟨i, j, hy⟩
      · exact absurd hy q1
      · exact absurd hy (q2 i j)
    · exact h.dis o' o'' x hx hy
  · intro o' ob' ho'
    by_cases e : o' = o
    · subst e
      rw [hob] at ho'
      obtain rfl := Option.some.inj ho'
      refine ⟨fun e => by simp at e, fun b' off' cap' e => ?_⟩
      simp only [if_true, Option.some.injEq, Prod.mk.injEq] at e
      obtain ⟨rfl, rfl, rfl⟩ := e
      refine ⟨.inl ⟨rfl, .inl rfl⟩, vs, Sf, hrow, fun i j x hx => ⟨.inl ⟨rfl, .inr ⟨i, j, hx⟩⟩, (hsub i j x hx).1⟩, hdis, fun i j c hc => ?_⟩
      obtain ⟨c1, c2⟩ := hcell i j c hc
      exact c1.mono hf (fun x hx => ⟨hx, hw x (hsub i j x hx).2.1 (hsub i j x hx).1⟩) (fun o2 h2 => hkr o2 (fun e => by subst e; exact c2 h2))
    · obtain ⟨ob0, h0, hor⟩ := hobjs o' ob' e ho'
      have hsame : ∀ x, So o' x → So' o' x ∧ w'.heap[x]? = w.heap[x]? := fun x hx => ⟨.inr ⟨e, hx⟩, hw x (h.has o' x hx).2.2.1 (hnb o' x e hx).1⟩
      simp only [if_neg e]
      rcases hor with ⟨rfl, hk⟩ | rfl
      · exact (h.objs o' ob' h0).mono hf hsame (fun o2 h2 => hkr o2 (fun e2 => by subst e2; exact hk h2))
      · refine (h.objs o' ob0 h0).less hf hsame (Ob.unref_sz _ _) (Ob.unref_len _ _) (fun i j c hc => ?_)
        rcases Ob.cell_unref hc with e | e | ⟨e1, e2⟩
        · exact .inl e
        · exact .inr (.inl e)
        · exact .inr (.inr ⟨e1, fun o2 h2 => hkr o2 (fun e => by subst e; rw [e2] at h2; cases h2)⟩)
  · intro t v hk
    rcases hregs t v hk with e | ⟨h1, h2, h3⟩
    · subst e; simp only [RegOK]
    · refine RegOK.mono hf _ _ (h.regs t v h1) (fun o' ho' => hkr o' (fun e => by subst e; exact h3 ho')) (fun o' ho' x hx => ?_)
      have hne : o' ≠ o := by intro e; subst e; rw [h2] at ho'; cases ho'
      exact ⟨.inr ⟨hne, hx⟩, hw x (h.has o' x hx).2.2.1 (hnb o' x hne hx).1⟩
  · intro k ob' hk ho'
    by_cases e : k = o
    · subst e
      rw [hob] at ho'
      obtain rfl := Option.some.inj ho'
      rcases hpin with hp | ⟨hp, hs⟩
      · omega
      obtain ⟨ob0, h0⟩ := Option.isSome_iff_exists.1 hs
      obtain ⟨q1, q2⟩ := hKO hp
      obtain ⟨p1, p2, p3⟩ := h.pin k ob0 hk h0
      exact ⟨by rw [if_pos rfl, ← q1]; exact p1, by rw [(q2 ob0 h0).1]; exact p2, by rw [(q2 ob0 h0).2]; exact p3⟩
    · obtain ⟨ob0, h0, hor⟩ := hobjs k ob' e ho'
      simp only [if_neg e]
      obtain ⟨p1, p2, p3⟩ := h.pin k ob0 hk h0
      rcases hor with ⟨rfl, _⟩ | rfl
      · exact ⟨p1, p2, p3⟩
      · rw [Ob.unref_sz, Ob.unref_len]; exact ⟨p1, p2, p3⟩

/-- In the state of a new name. -/
theorem new_objs (σ : St) (o : Nat) (ob : Ob) (o' : Nat) (ob' : Ob) (hne : o' ≠ o) (h : klook (σ.new o ob).objs o' = some ob') : ∃ ob0, klook σ.objs o' = some ob0 ∧ ob' = ob0.unref o := by
  simp only [St.new] at h
  rw [klook_kput_ne _ _ hne, unref_objs] at h
  obtain ⟨ob0, h0, h1⟩ := Option.map_eq_some_iff.1 h
  exact ⟨ob0, h0, h1.symm⟩
theorem new_objs2 (σ : St) (o : Nat) (ob : Ob) (o' : Nat) (ob0 : Ob) (hne : o' ≠ o) (h : klook σ.objs o' = some ob0) : klook (σ.new o ob).objs o' = some (ob0.unref o) := by
  simp only [St.new]
  rw [klook_kput_ne _ _ hne, unref_objs, h]; rfl
theorem new_self (σ : St) (o : Nat) (ob : Ob) : klook (σ.new o ob).objs o = some ob := by simp only [St.new, klook_kput_same]

/-- A new block, its cells out of what is set aside: an object of ours. -/
theorem RepW.new (h : RepW N E loc So Pd σ a w) (o cap : Nat) (ho : 64 ≤ o) (ob : Ob) (arr : Array Value) (T : TypeId) (vs : Nat → Nat → Value) (Sf : Nat → Nat → Nat → Prop)
    (hsz : arr.size = cap * ob.sz) (hn : ob.len ≤ cap) (harr : ∀ i j, i < ob.len → j < ob.sz → arr[i * ob.sz + j]? = some (vs i j))
    (hcell : ∀ (i j : Nat) (c : CV), ob.cell i j = some c → CellOK w (Fz E So Pd w) loc So σ.objs (vs i j) c (Sf i j) ∧ c.refs o = false)
    (hsub : ∀ i j x, Sf i j x → x < w.heap.size ∧ E.mine x ∧ Pd x)
    (hdis : ∀ i j i' j' x, Sf i j x → Sf i' j' x → i = i' ∧ j = j') :
    ∃ So' Pd', RepW N E (fun o' => if o' = o then some (w.heap.size, 0, cap) else loc o') So' Pd' (σ.new o ob) a (w.alloc (.cells arr T)) := by
  refine ⟨_, _, h.adopt (w' := w.alloc (.cells arr T)) o w.heap.size 0 cap ob vs Sf (σ.new o ob) (fun x hx _ => Below.heap_alloc _ _ _ hx) (by simp) (by simp) rfl rfl rfl (.inl (Nat.le_refl _)) (.inr h.keep.size) ?_ False (fun i j c hc => ⟨(hcell i j c hc).1, fun q => by rw [(hcell i j c hc).2] at q; cases q⟩)
    (fun i j x hx => ⟨by have := (hsub i j x hx).1; omega, (hsub i j x hx).1, (hsub i j x hx).2.1, .inl (hsub i j x hx).2.2⟩) hdis (fun q => q.elim) (.inl ho) (new_self _ _ _) (fun o' ob' hne hh => ?_) (fun o' ob0 hne hh => ⟨_, new_objs2 σ o ob o' ob0 hne hh, Ob.unref_sz _ _, Ob.unref_len _ _⟩) (fun t v hk => ?_)⟩
  · refine ⟨arr, T, (0, 0), by show (w.heap.push _)[w.heap.size]? = _; simp, fun o _ hq => by simp at hq, by omega, hn, fun i j hi hj => ?_⟩
    rw [Nat.zero_add]; exact harr i j hi hj
  · obtain ⟨ob0, h0, e⟩ := new_objs σ o ob o' ob' hne hh
    exact ⟨ob0, h0, .inr e⟩
  · rcases unref_regs σ o t v hk with e | ⟨h1, h2⟩
    · exact .inl e
    · exact .inr ⟨h1, looks_false_of_refs h2, fun hq => by rw [h2] at hq; cases hq⟩

/-- An object is turned in its place: what its block holds may be another. -/
theorem RepW.turn (h : RepW N E loc So Pd σ a w) {w' : World} {o b off cap : Nat} {ob0 ob : Ob} (h0 : klook σ.objs o = some ob0) (hloc : loc o = some (b, off, cap)) (hz : ob.sz = ob0.sz) (hn : ob.len = ob0.len) (vs : Nat → Nat → Value) (Sf : Nat → Nat → Nat → Prop)
    (hw : ∀ x, x < w.heap.size → x ≠ b → w'.heap[x]? = w.heap[x]?) (hsz : w.heap.size ≤ w'.heap.size) (hb' : b < w'.heap.size) (hos : w'.os = w.os) (htape : w'.tape = w.tape) (hout : w'.output = w.output)
    (hb : So o b)
    (hrow : RowAt w' b off cap ob.sz ob.len vs)
    (hcell : ∀ (i j : Nat) (c : CV), ob.cell i j = some c → CellOK w (Fz E So Pd w) loc So σ.objs (vs i j) c (Sf i j))
    (hsub : ∀ i j x, Sf i j x → x ≠ b ∧ x < w.heap.size ∧ E.mine x ∧ (Pd x ∨ So o x))
    (hdis : ∀ i j i' j' x, Sf i j x → Sf i' j' x → i = i' ∧ j = j') :
    RepW N E loc (soN So o b Sf) (pdN Pd So o b Sf) (σ.turn o ob) a w' := by
  have hregs : ∀ t v, klook (σ.turn o ob).regs t = some v → v = .junk ∨ (klook σ.regs t = some v ∧ v.looks o = false ∧ (v.refs o = true → True)) := fun t v hk => by
    rcases unlook_regs σ o t v hk with e | ⟨e1, e2⟩
    · exact .inl e
    · exact .inr ⟨e1, e2, fun _ => trivial⟩
  have hr := h.adopt o b off cap ob vs Sf (σ.turn o ob) hw hsz hb' hos htape hout (.inr (.inr hb)) (h.has o b hb).2.1 hrow True (fun i j c hc => ⟨hcell i j c hc, fun _ => trivial⟩) hsub hdis (fun _ => ⟨hloc, fun ob1 h1 => by
      rw [h0] at h1; obtain rfl := Option.some.inj h1; exact ⟨hz, hn⟩⟩) (.inr ⟨trivial, by rw [h0]; rfl⟩) (by simp only [St.turn, klook_kput_same])
    (fun o' ob' hne hh => by simp only [St.turn, klook_kput_ne _ _ hne] at hh; exact ⟨ob', hh, .inl ⟨rfl, fun _ => trivial⟩⟩)
    (fun o' ob1 hne hh => ⟨ob1, by simp only [St.turn, klook_kput_ne _ _ hne]; exact hh, rfl, rfl⟩) hregs
  have : (fun o' => if o' = o then some (b, off, cap) else loc o') = loc := by
    funext o'
    by_cases e : o' = o
    · subst e; rw [if_pos rfl, hloc]
    · rw [if_neg e]
  rw [this] at hr
  exact hr

/-- A state is what its look-ups are. -/
theorem RepW.congr (h : RepW N E loc So Pd σ a w) (σ' : St) (h1 : ∀ o, klook σ'.objs o = klook σ.objs o) (h2 : ∀ t v, klook σ'.regs t = some v → v = .junk ∨ klook σ.regs t = some v) : RepW N E loc So Pd σ' a w :=
  have hk : ∀ o, KeepR σ.objs σ'.objs loc loc o := fun o => ⟨fun ob hob => ⟨ob, by rw [h1]; exact hob, rfl, rfl⟩, rfl⟩
  ⟨h.size, h.defers, h.keep, h.ok, h.lt, fun o x hx => by rw [h1]; exact h.has o x hx, h.dis, h.pdlt, fun o ob ho => (h.objs o ob (by rw [← h1]; exact ho)).mono (fun b hb => ⟨hb, rfl⟩) (fun b hb => ⟨hb, rfl⟩) (fun o _ => hk o), fun t v ht => by
    rcases h2 t v ht with e | e
    · subst e; simp only [RegOK]
    · exact RegOK.mono (fun b hb => ⟨hb, rfl⟩) _ _ (h.regs t v e) (fun o _ => hk o) (fun o _ b hb => ⟨hb, rfl⟩), fun k ob hk' ho => h.pin k ob hk' (by rw [← h1]; exact ho)⟩

/-- What is known of an object, without the frame's registers: one that has nothing, of a new name. -/
theorem RepW.bareX (h : RepW N E loc So Pd σ a w) (o : Nat) (ho : 64 ≤ o) (ob : Ob) (hnone : ob.len = 0) : RepW N E (fun q => if q = o then none else loc q) (fun o' x => o' ≠ o ∧ So o' x) (fun x => Pd x ∨ So o x) (σ.new o ob) a w := by
  have hg := h.gone o
  have hkr : ∀ o2, o2 ≠ o → KeepR (σ.gone o).objs (σ.new o ob).objs loc (fun q => if q = o then none else loc q) o2 := fun o2 hne =>
    ⟨fun ob2 hob2 => by
      obtain ⟨_, ob0, h0, e⟩ := gone_objs σ hob2
      exact ⟨ob2, by rw [e]; exact new_objs2 σ o ob o2 ob0 hne h0, rfl, rfl⟩, by simp only [hne, if_false]⟩
  refine ⟨hg.size, hg.defers, hg.keep, hg.ok, hg.lt, fun o2 x hx => ?_, hg.dis, hg.pdlt, fun o2 ob2 ho2 => ?_, fun t v hk => ?_, fun k ob2 hk ho2 => ?_⟩
  · obtain ⟨q1, q2, q3, q4⟩ := hg.has o2 x hx
    obtain ⟨ob2, h2⟩ := Option.isSome_iff_exists.1 q1
    obtain ⟨_, ob0, h0, e⟩ := gone_objs σ h2
    exact ⟨by rw [new_objs2 σ o ob o2 ob0 hx.1 h0]; rfl, q2, q3, q4⟩
  · by_cases e : o2 = o
    · subst e
      rw [new_self] at ho2
      obtain rfl := Option.some.inj ho2
      exact ⟨fun _ => hnone, fun b off cap e => by simp at e⟩
    · obtain ⟨ob0, h0, rfl⟩ := new_objs σ o ob o2 ob2 e ho2
      have := hg.objs o2 _ (gone_objs' σ e h0)
      simp only [e, if_false]
      refine this.less (fun b hb => ⟨hb, rfl⟩) (fun b hb => ⟨hb, rfl⟩) rfl rfl (fun i j c hc => ?_)
      rcases Ob.cell_unref hc with q | ⟨x, q1, q2⟩ | ⟨q1, q2⟩
      · exact .inl q
      · subst q2
        exact .inr (.inr ⟨hc, fun o3 h3 => by simp [CV.refs, AV.refs] at h3⟩)
      · exact .inr (.inr ⟨hc, fun o3 h3 => hkr o3 (by intro e; subst e; rw [q2] at h3; cases h3)⟩)
  · rcases unref_regs σ o t v hk with e | ⟨e1, e2⟩
    · subst e; simp only [RegOK]
    · have h1 : klook (σ.gone o).regs t = some v := hk
      refine RegOK.mono (fun b hb => ⟨hb, rfl⟩) _ _ (hg.regs t v h1) (fun o2 ho2 => hkr o2 (by intro e; subst e; rw [e2] at ho2; cases ho2)) (fun o2 ho2 b hb => ⟨hb, rfl⟩)
  · have hne : k ≠ o := by omega
    obtain ⟨ob0, h0, rfl⟩ := new_objs σ o ob k ob2 hne ho2
    simp only [hne, if_false]
    exact hg.pin k _ hk (gone_objs' σ hne h0)

theorem RepW.bare (h : RepW N E loc So Pd σ a w) (o : Nat) (ho : 64 ≤ o) (ob : Ob) (hnone : ob.len = 0) : ∃ loc' So' Pd', RepW N E loc' So' Pd' (σ.new o ob) a w ∧ loc' o = none :=
  ⟨_, _, _, h.bareX o ho ob hnone, by simp⟩

end rep
end Go.Proofs.YtniakiefibpgmaaGreatDoorK
