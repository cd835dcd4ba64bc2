/- What an abstract state outlasts: new blocks, objects that are made, turned, handed on. -/
import Derived.Test.YtmccpbabpnffcaaK3
set_option linter.unusedVariables false
set_option linter.unusedSimpArgs false
namespace Go.Proofs.YtmccpbabpnffcaaK
open Go.RowKit

section rep
variable {N : Nat} {w0 : World} {ok0 : Nat → Prop} {loc : Nat → Option (Nat × Nat × Nat)} {So : Nat → Nat → Prop} {Pd : Nat → Prop} {σ : St} {a : Act} {w : World}

theorem Fz.grow {w' : World} (hs : w.heap.size ≤ w'.heap.size) {x : Nat} (h : Fz w0 ok0 So Pd w x) : Fz w0 ok0 So Pd w' x :=
  ⟨h.1, Nat.lt_of_lt_of_le h.2.1 hs, h.2.2⟩

theorem RepW.below (h : RepW N w0 ok0 loc So Pd σ a w) {w' : World} (hb : Below w.heap.size w w') : RepW N w0 ok0 loc So Pd σ a w' := by
  have hf : ∀ x, Fz w0 ok0 So Pd w x → Fz w0 ok0 So Pd w' x ∧ w'.heap[x]? = w.heap[x]? := fun x hx => ⟨hx.grow hb.size, hb.block x hx.2.1⟩
  have hso : ∀ o x, So o x → w'.heap[x]? = w.heap[x]? := fun o x hx => hb.block x (h.has o x hx).2.2.1
  refine ⟨h.size, h.defers, h.keep.trans (hb.mono h.keep.size), h.ok, fun o x hx => ?_, h.dis, fun x hx => Nat.lt_of_lt_of_le (h.pdlt x hx) hb.size, fun o ob ho => ?_, fun t v hv => ?_⟩
  · obtain ⟨h1, h2, h3, h4⟩ := h.has o x hx
    exact ⟨h1, h2, Nat.lt_of_lt_of_le h3 hb.size, h4⟩
  · exact (h.objs o ob ho).mono (fun b hb => (hf b hb).1) (fun b hb => (hf b hb).2) (hso o)
  · exact RegOK.mono hf _ _ (h.regs t v hv) (fun o _ => KeepR.refl _ _ o) (fun o _ b hb => ⟨hb, hso o b hb⟩)

/-- Another frame with the same registers. -/
theorem RepW.frame (h : RepW N w0 ok0 loc So Pd σ a w) {t : Nat} (v : Value) (hn : klook σ.regs t = none ∨ klook σ.regs t = some .junk) : RepW N w0 ok0 loc So Pd σ (a.put (some t) v) w :=
  ⟨by simp [Act.put, h.size], h.defers, h.keep, h.ok, h.has, h.dis, h.pdlt, h.objs, fun t' v' hk => by
    by_cases e : t' = t
    · subst e
      rcases hn with hn | hn
      · rw [hn] at hk; cases hk
      · rw [hn] at hk; obtain rfl := Option.some.inj hk; simp only [RegOK]
    · simp only [Act.put]
      rw [getD_set_other v e]
      exact h.regs t' v' hk⟩

/-- An object is set aside. -/
theorem RepW.gone (h : RepW N w0 ok0 loc So Pd σ a w) (o : Nat) :
    RepW N w0 ok0 loc (fun o' x => o' ≠ o ∧ So o' x) (fun x => Pd x ∨ So o x) (σ.gone o) a w := by
  have hf : ∀ x, Fz w0 ok0 So Pd w x → Fz w0 ok0 (fun o' x => o' ≠ o ∧ So o' x) (fun x => Pd x ∨ So o x) w x ∧ w.heap[x]? = w.heap[x]? := fun x hx =>
    ⟨⟨hx.1, hx.2.1, fun o' hq => hx.2.2.1 o' hq.2, fun hq => hq.elim hx.2.2.2 (hx.2.2.1 o)⟩, rfl⟩
  refine ⟨h.size, h.defers, h.keep, h.ok, fun o' x hx => ?_, fun o' o'' x hx hy => h.dis o' o'' x hx.2 hy.2, fun x hx => hx.elim (h.pdlt x) (fun q => (h.has o x q).2.2.1), fun o' ob ho => ?_, fun t v hk => ?_⟩
  · obtain ⟨h1, h2, h3, h4⟩ := h.has o' x hx.2
    refine ⟨?_, h2, h3, fun hq => hq.elim h4 (fun hq => hx.1 (h.dis o' o x hx.2 hq))⟩
    simp only [St.gone, klook_kdel_ne _ hx.1]; exact h1
  · simp only [St.gone] at ho
    have hne : o' ≠ o := by intro e; subst e; rw [klook_kdel_same] at ho; cases ho
    rw [klook_kdel_ne _ hne] at ho
    have := (h.objs o' ob ho).mono (S := So o') (w' := w) (fun b hb => (hf b hb).1) (fun _ _ => rfl) (fun _ _ => rfl)
    refine ⟨this.size, this.none', fun b off cap e => ?_⟩
    obtain ⟨q1, vs, Sf, q2, q3, q4, q5⟩ := this.some' b off cap e
    exact ⟨⟨hne, q1⟩, vs, Sf, q2, fun i j x hx => ⟨⟨hne, (q3 i j x hx).1⟩, (q3 i j x hx).2⟩, q4, q5⟩
  · have hk : (klook σ.regs t).map (fun v => if v.refs o then AV.junk else v) = some v := by rw [← klook_map]; exact hk
    obtain ⟨u, hu, hv⟩ := Option.map_eq_some_iff.1 hk
    by_cases hr : u.refs o = true
    · rw [if_pos hr] at hv; subst hv; simp only [RegOK]
    · rw [if_neg hr] at hv; subst hv
      refine RegOK.mono hf _ _ (h.regs t u hu) (fun o' ho' => ?_) (fun o' ho' b hb => ?_)
      · have hne : o' ≠ o := by intro e; subst e; exact hr ho'
        refine ⟨fun ob hob => ⟨ob, ?_, rfl, Nat.le_refl _⟩, rfl⟩
        simp only [St.gone]; rw [klook_kdel_ne _ hne]; exact hob
      · have hne : o' ≠ o := by intro e; subst e; exact hr (AV.refs_of_looks _ ho')
        exact ⟨⟨hne, hb⟩, rfl⟩

/-- An object is made, or turned: its row lies in block b. -/
theorem RepW.adopt (h : RepW N w0 ok0 loc So Pd σ a w) {w' : World} (o b off cap : Nat) (ob : Ob) (vs : Nat → Nat → Value) (Sf : Nat → Nat → Nat → Prop) (regs' : List (Nat × AV))
    (hw : ∀ x, x < w.heap.size → x ≠ b → w'.heap[x]? = w.heap[x]?) (hsz : w.heap.size ≤ w'.heap.size) (hb' : b < w'.heap.size) (hos : w'.os = w.os) (htape : w'.tape = w.tape) (hout : w'.output = w.output)
    (hb : w.heap.size ≤ b ∨ Pd b ∨ So o b) (hb0 : w0.heap.size ≤ b)
    (hrow : RowAt w' b off cap ob.sz ob.es.length vs) (hcs : ∀ (i : Nat) (cs : List AV), ob.es[i]? = some cs → cs.length = ob.sz)
    (hcell : ∀ (i : Nat) (cs : List AV) (j : Nat) (av : AV), ob.es[i]? = some cs → cs[j]? = some av → CellOK w (Fz w0 ok0 So Pd w) (vs i j) av (Sf i j))
    (hsub : ∀ i j x, Sf i j x → x ≠ b ∧ x < w.heap.size ∧ w0.heap.size ≤ x ∧ (Pd x ∨ So o x))
    (hdis : ∀ i j i' j' x, Sf i j x → Sf i' j' x → i = i' ∧ j = j')
    (hregs : ∀ t v, klook regs' t = some v → v = .junk ∨ (klook σ.regs t = some v ∧ v.looks o = false ∧
      (v.refs o = true → loc o = some (b, off, cap) ∧ ∀ ob', klook σ.objs o = some ob' → ob.sz = ob'.sz ∧ ob'.es.length ≤ ob.es.length))) :
    ∃ So' Pd', RepW N w0 ok0 (fun o' => if o' = o then some (b, off, cap) else loc o') So' Pd' ⟨regs', kput σ.objs o ob⟩ a w' := by
  let So' : Nat → Nat → Prop := fun o' x => (o' = o ∧ (x = b ∨ ∃ i j, Sf i j x)) ∨ (o' ≠ o ∧ So o' x)
  let Pd' : Nat → Prop := fun x => (Pd x ∨ So o x) ∧ ¬ (x = b ∨ ∃ i j, Sf i j x)
  have hnb : ∀ o' x, o' ≠ o → So o' x → x ≠ b ∧ ∀ i j, ¬ Sf i j x := by
    intro o' x hne hx
    obtain ⟨q1, q2, q3, q4⟩ := h.has o' x hx
    refine ⟨fun e => ?_, fun i j hq => ?_⟩
    · subst e
      rcases hb with hb | hb | hb
      · omega
      · exact q4 hb
      · exact hne (h.dis o' o x hx hb)
    · rcases (hsub i j x hq).2.2.2 with hp | hp
      · exact q4 hp
      · exact hne (h.dis o' o x hx hp)
  have hfb : ∀ x, Fz w0 ok0 So Pd w x → x ≠ b ∧ ∀ i j, ¬ Sf i j x := by
    intro x hx
    refine ⟨fun e => ?_, fun i j hq => ?_⟩
    · subst e
      rcases hb with hb | hb | hb
      · have := hx.2.1; omega
      · exact hx.2.2.2 hb
      · exact hx.2.2.1 o hb
    · rcases (hsub i j x hq).2.2.2 with hp | hp
      · exact hx.2.2.2 hp
      · exact hx.2.2.1 o hp
  have hf : ∀ x, Fz w0 ok0 So Pd w x → Fz w0 ok0 So' Pd' w' x ∧ w'.heap[x]? = w.heap[x]? := by
    intro x hx
    obtain ⟨q1, q2⟩ := hfb x hx
    refine ⟨⟨hx.1, Nat.lt_of_lt_of_le hx.2.1 hsz, fun o' hq => ?_, fun hq => ?_⟩, hw x hx.2.1 q1⟩
    · rcases hq with ⟨_, hq | ⟨i, j, hq⟩⟩ | ⟨_, hq⟩
      · exact q1 hq
      · exact q2 i j hq
      · exact hx.2.2.1 o' hq
    · rcases hq.1 with hp | hp
      · exact hx.2.2.2 hp
      · exact hx.2.2.1 o hp
  refine ⟨So', Pd', h.size, h.defers, ?_, h.ok, ?_, ?_, fun x hx => Nat.lt_of_lt_of_le (hx.1.elim (h.pdlt x) (fun q => (h.has o x q).2.2.1)) hsz, ?_, ?_⟩
  · refine h.keep.trans ⟨hos, htape, hout, hsz, fun x hx => ?_⟩
    exact hw x (Nat.lt_of_lt_of_le hx h.keep.size) (by omega)
  · intro o' x hx
    rcases hx with ⟨e, hx⟩ | ⟨hne, hx⟩
    · subst e
      refine ⟨by simp only [klook_kput_same]; rfl, ?_, ?_, fun hq => hq.2 hx⟩
      · rcases hx with e | ⟨i, j, hq⟩
        · omega
        · exact (hsub i j x hq).2.2.1
      · rcases hx with e | ⟨i, j, hq⟩
        · omega
        · have := (hsub i j x hq).2.1; omega
    · obtain ⟨q1, q2, q3, q4⟩ := h.has o' x hx
      refine ⟨by simp only [klook_kput_ne _ _ hne]; exact q1, q2, by omega, fun hq => ?_⟩
      rcases hq.1 with hp | hp
      · exact q4 hp
      · exact hne (h.dis o' o x hx hp)
  · intro o' o'' x hx hy
    rcases hx with ⟨e, hx⟩ | ⟨hne, hx⟩ <;> rcases hy with ⟨e', hy⟩ | ⟨hne', hy⟩
    · rw [e, e']
    · obtain ⟨q1, q2⟩ := hnb o'' x hne' hy
      rcases hx with hx | ⟨i, j, hx⟩
      · exact absurd hx q1
      · exact absurd hx (q2 i j)
    · obtain ⟨q1, q2⟩ := hnb o' x hne hx
      rcases hy with hy | ⟨i, j, hy⟩
      · exact absurd hy q1
      · exact absurd hy (q2 i j)
    · exact h.dis o' o'' x hx hy
  · intro o' ob' ho'
    by_cases e : o' = o
    · subst e
      simp only [klook_kput_same] at ho'
      obtain rfl := Option.some.inj ho'
      refine ⟨hcs, fun e => by simp at e, fun b' off' cap' e => ?_⟩
      simp only [if_true, Option.some.injEq, Prod.mk.injEq] at e
      obtain ⟨rfl, rfl, rfl⟩ := e
      refine ⟨.inl ⟨rfl, .inl rfl⟩, vs, Sf, hrow, fun i j x hx => ⟨.inl ⟨rfl, .inr ⟨i, j, hx⟩⟩, (hsub i j x hx).1⟩, hdis, fun i cs j av hi hj => ?_⟩
      exact (hcell i cs j av hi hj).mono (fun b hb => (hf b hb).1) (fun b hb => (hf b hb).2) (fun x hx => hw x (hsub i j x hx).2.1 (hsub i j x hx).1)
    · simp only [klook_kput_ne _ _ e] at ho'
      have hsame : ∀ x, So o' x → w'.heap[x]? = w.heap[x]? := fun x hx => hw x (h.has o' x hx).2.2.1 (hnb o' x e hx).1
      have := (h.objs o' ob' ho').mono (fun b hb => (hf b hb).1) (fun b hb => (hf b hb).2) hsame
      rw [if_neg e]
      refine ⟨this.size, this.none', fun b' off' cap' e' => ?_⟩
      obtain ⟨q1, vs', Sf', q2, q3, q4, q5⟩ := this.some' b' off' cap' e'
      exact ⟨.inr ⟨e, q1⟩, vs', Sf', q2, fun i j x hx => ⟨.inr ⟨e, (q3 i j x hx).1⟩, (q3 i j x hx).2⟩, q4, q5⟩
  · intro t v hk
    rcases hregs t v hk with e | ⟨h1, h2, h3⟩
    · subst e; simp only [RegOK]
    · refine RegOK.mono hf _ _ (h.regs t v h1) (fun o' ho' => ?_) (fun o' ho' x hx => ?_)
      · by_cases e : o' = o
        · subst e
          obtain ⟨q1, q2⟩ := h3 ho'
          exact ⟨fun ob' hob' => ⟨ob, by simp only [klook_kput_same], (q2 ob' hob').1, (q2 ob' hob').2⟩, by rw [if_pos rfl, q1]⟩
        · exact ⟨fun ob' hob' => ⟨ob', by simp only [klook_kput_ne _ _ e]; exact hob', rfl, Nat.le_refl _⟩, by rw [if_neg e]⟩
      · have hne : o' ≠ o := by intro e; subst e; rw [h2] at ho'; cases ho'
        exact ⟨.inr ⟨hne, hx⟩, hw x (h.has o' x hx).2.2.1 (hnb o' x hne hx).1⟩

/-- The registers of an object that is made anew. -/
theorem unref_regs (σ : St) (o : Nat) (t : Nat) (v : AV) (hk : klook (σ.unref o).regs t = some v) : v = .junk ∨ (klook σ.regs t = some v ∧ v.refs o = false) := by
  have hk : (klook σ.regs t).map (fun v => if v.refs o then AV.junk else v) = some v := by rw [← klook_map]; exact hk
  obtain ⟨u, hu, hv⟩ := Option.map_eq_some_iff.1 hk
  by_cases hr : u.refs o = true
  · rw [if_pos hr] at hv; exact .inl hv.symm
  · rw [if_neg hr] at hv; subst hv; exact .inr ⟨hu, by simpa using hr⟩
theorem unlook_regs (σ : St) (o : Nat) (t : Nat) (v : AV) (hk : klook (σ.unlook o).regs t = some v) : v = .junk ∨ (klook σ.regs t = some v ∧ v.looks o = false) := by
  have hk : (klook σ.regs t).map (fun v => if v.looks o then AV.junk else v) = some v := by rw [← klook_map]; exact hk
  obtain ⟨u, hu, hv⟩ := Option.map_eq_some_iff.1 hk
  by_cases hr : u.looks o = true
  · rw [if_pos hr] at hv; exact .inl hv.symm
  · rw [if_neg hr] at hv; subst hv; exact .inr ⟨hu, by simpa using hr⟩
theorem looks_false_of_refs {o : Nat} {v : AV} (h : v.refs o = false) : v.looks o = false := by
  cases hl : v.looks o with
  | false => rfl
  | true => rw [AV.refs_of_looks v hl] at h; cases h

/-- A new block, its cells out of what is set aside: an object of ours. -/
theorem RepW.new (h : RepW N w0 ok0 loc So Pd σ a w) (o cap : Nat) (ob : Ob) (arr : Array Value) (T : TypeId) (vs : Nat → Nat → Value) (Sf : Nat → Nat → Nat → Prop)
    (hsz : arr.size = cap * ob.sz) (hn : ob.es.length ≤ cap) (harr : ∀ i j, i < ob.es.length → j < ob.sz → arr[i * ob.sz + j]? = some (vs i j))
    (hcs : ∀ (i : Nat) (cs : List AV), ob.es[i]? = some cs → cs.length = ob.sz)
    (hcell : ∀ (i : Nat) (cs : List AV) (j : Nat) (av : AV), ob.es[i]? = some cs → cs[j]? = some av → CellOK w (Fz w0 ok0 So Pd w) (vs i j) av (Sf i j))
    (hsub : ∀ i j x, Sf i j x → x < w.heap.size ∧ w0.heap.size ≤ x ∧ Pd x)
    (hdis : ∀ i j i' j' x, Sf i j x → Sf i' j' x → i = i' ∧ j = j') :
    ∃ So' Pd', RepW N w0 ok0 (fun o' => if o' = o then some (w.heap.size, 0, cap) else loc o') So' Pd' (σ.new o ob) a (w.alloc (.cells arr T)) := by
  refine h.adopt (w' := w.alloc (.cells arr T)) o w.heap.size 0 cap ob vs Sf (σ.unref o).regs (fun x hx _ => Below.heap_alloc _ _ _ hx) (by simp) (by simp) rfl rfl rfl (.inl (Nat.le_refl _)) h.keep.size ?_ hcs hcell
    (fun i j x hx => ⟨by have := (hsub i j x hx).1; omega, (hsub i j x hx).1, (hsub i j x hx).2.1, .inl (hsub i j x hx).2.2⟩) hdis (fun t v hk => ?_)
  · refine ⟨arr, T, (0, 0), by show (w.heap.push _)[w.heap.size]? = _; simp, fun o _ hq => by simp at hq, by omega, hn, fun i j hi hj => ?_⟩
    rw [Nat.zero_add]; exact harr i j hi hj
  · rcases unref_regs σ o t v hk with e | ⟨h1, h2⟩
    · exact .inl e
    · exact .inr ⟨h1, looks_false_of_refs h2, fun hq => by rw [h2] at hq; cases hq⟩

end rep
end Go.Proofs.YtmccpbabpnffcaaK
