/- What is taken out of an object, lent, and put back; and what is forgotten. -/
import Derived.Test.YtniakiefibpgmaaGreatDoorJ15
set_option linter.unusedVariables false
set_option linter.unusedSimpArgs false
namespace Go.Proofs.YtniakiefibpgmaaGreatDoorK
open Go.RowKit

section rep
variable {P : Program} {N : Nat} {E : Ent} {loc : Nat → Option (Nat × Nat × Nat)} {So : Nat → Nat → Prop} {Pd : Nat → Prop} {σ σ' : St} {a : Act} {w : World} {X : XF} {o : Oper}

/-- An object has other words. -/
theorem RepW.relabel (h : RepW N E loc So Pd σ a w) {o : Nat} {ob ob' : Ob} (hob : klook σ.objs o = some ob) (hz : ob'.sz = ob.sz) (hn : ob'.len = ob.len)
    (hO : ObjOK w (Fz E So Pd w) loc So (σ.less o ob').objs (loc o) ob' (So o)) : RepW N E loc So Pd (σ.less o ob') a w := by
  have hkr : ∀ o2, KeepR σ.objs (σ.less o ob').objs loc loc o2 := fun o2 => by
    refine ⟨fun ob2 h2 => ?_, rfl⟩
    simp only [St.less]
    by_cases e : o2 = o
    · subst e
      rw [hob] at h2
      obtain rfl := Option.some.inj h2
      exact ⟨_, klook_kput_same _ _ _, hz, hn⟩
    · exact ⟨ob2, by rw [klook_kput_ne _ _ e]; exact h2, rfl, rfl⟩
  refine ⟨h.size, h.defers, h.keep, h.ok, h.lt, fun o2 x hx => ?_, h.dis, h.pdlt, fun o2 ob2 h2 => ?_, fun t v hk => ?_, fun k2 ob2 hk2 h2 => ?_⟩
  · obtain ⟨q1, q2⟩ := h.has o2 x hx
    exact ⟨(hkr o2).some q1, q2⟩
  · by_cases e : o2 = o
    · subst e
      simp only [St.less, klook_kput_same] at h2
      obtain rfl := Option.some.inj h2
      exact hO
    · simp only [St.less, klook_kput_ne _ _ e] at h2
      exact (h.objs o2 ob2 h2).mono (fun b hb => ⟨hb, rfl⟩) (fun b hb => ⟨hb, rfl⟩) (fun o3 _ => hkr o3)
  · exact RegOK.mono (fun b hb => ⟨hb, rfl⟩) _ _ (h.regs t v hk) (fun o2 _ => hkr o2) (fun o2 _ b hb => ⟨hb, rfl⟩)
  · by_cases e : k2 = o
    · subst e
      simp only [St.less, klook_kput_same] at h2
      obtain rfl := Option.some.inj h2
      obtain ⟨p1, p2, p3⟩ := h.pin k2 ob hk2 hob
      exact ⟨p1, by rw [hz]; exact p2, by rw [hn]; exact p3⟩
    · simp only [St.less, klook_kput_ne _ _ e] at h2
      exact h.pin k2 ob2 hk2 h2

/-- A tree that is set aside becomes an object. -/
theorem RepW.open (h : RepW N E loc So Pd σ a w) {id : Nat} (hid : 64 ≤ id) {v : Value} {t : T} {r : List t.den} {S : Nat → Prop} (hv : Own w v (.sl t r) S) (hS : ∀ x, S x → Pd x ∧ E.mine x ∧ x < w.heap.size) :
    ∃ loc' So' Pd', RepW N E loc' So' Pd' (σ.new id (.ls t false r 0 [])) a w ∧ HVal (loc' id) t.w 0 r.length v ∧ (∀ x, Fz E So Pd w x → Fz E So' Pd' w x) ∧ (∀ o, o ≠ id → loc' o = loc o) ∧ (∀ x, Pd x → ¬ S x → Pd' x) ∧ (∀ o x, o ≠ id → So o x → So' o x) := by
  cases hv with
  | nil A =>
    refine ⟨_, _, _, h.bareX id hid (.ls t false [] 0 []) rfl, ?_, fun x hx => ?_, fun o ho => by simp only [ho, if_false], fun x hx _ => .inl hx, fun o x ho hx => ⟨ho, hx⟩⟩
    · simp only [if_true]; exact ⟨rfl, rfl, A, rfl⟩
    · exact ⟨hx.1, hx.2.1, fun o' hq => hx.2.2.1 o' hq.2, fun hq => hq.elim hx.2.2.2 (hx.2.2.1 id)⟩
  | sl _ b off cap _ _ vs Sf hb hm hsub hdis hr =>
    have hR := h.adopt (w' := w) id b off cap (.ls t false r 0 []) vs Sf (σ.new id (.ls t false r 0 [])) (fun _ _ _ => rfl) (Nat.le_refl _) (hS b hb).2.2 rfl rfl rfl (.inr (.inl (hS b hb).1)) (hS b hb).2.1 hm False
      (fun i j c hc => by
        refine ⟨?_, fun hq => by rw [ls_refs hc] at hq; cases hq⟩
        obtain ⟨y, dd, h1, h2, rfl⟩ := ls_cell hc
        exact cell_in (show (if false = true then _ else _) from by simp only [Bool.false_eq_true, if_false]; exact hr i y j dd h1 h2))
      (fun i j x hx => ⟨(hsub i j x hx).2, (hS x (hsub i j x hx).1).2.2, (hS x (hsub i j x hx).1).2.1, .inl (hS x (hsub i j x hx).1).1⟩) hdis (fun q => q.elim) (.inl hid) (new_self _ _ _)
      (fun o2 ob2 hne hh => by obtain ⟨ob0, h0, e⟩ := new_objs _ _ _ o2 ob2 hne hh; exact ⟨ob0, h0, .inr e⟩)
      (fun o2 ob2 hne hh => ⟨_, new_objs2 _ _ _ o2 ob2 hne hh, Ob.unref_sz _ _, Ob.unref_len _ _⟩)
      (fun t v hk => by
        rcases unref_regs σ id t v hk with e | ⟨h1, h2⟩
        · exact .inl e
        · exact .inr ⟨h1, looks_false_of_refs h2, fun hq => by rw [h2] at hq; cases hq⟩)
    refine ⟨_, _, _, hR, ?_, fun x hx => ?_, fun o ho => by simp only [ho, if_false], fun x hx hn => ⟨.inl hx, fun q => ?_⟩, fun o x ho hx => .inr ⟨ho, hx⟩⟩
    · simp only [if_true]
      exact ⟨by have := hm.cap; omega, some ⟨b, off, none⟩, by simp, fun _ => by simp⟩
    · refine ⟨hx.1, hx.2.1, fun o' q => ?_, fun q => ?_⟩
      · rcases q with ⟨_, q | ⟨i, j, q⟩⟩ | ⟨_, q⟩
        · subst q; exact hx.2.2.2 (hS x hb).1
        · exact hx.2.2.2 (hS x (hsub i j x q).1).1
        · exact hx.2.2.1 o' q
      · exact q.1.elim hx.2.2.2 (hx.2.2.1 id)
    · rcases q with q | ⟨i, j, q⟩
      · subst q; exact hn hb
      · exact hn (hsub i j x q).1

/-- A pointer to a variable in blocks of S. -/
def BoxC (w : World) (ok S : Nat → Prop) (v : Value) (t : T) (f : Bool) (x : t.den) : Prop :=
  ∃ (b off cap : Nat) (vs : Nat → Nat → Value) (Sf : Nat → Nat → Prop), v = .pointer (some ⟨b, off, none⟩) ∧ S b ∧ RowAt w b off cap t.w 1 vs ∧ (∀ j y, Sf j y → S y ∧ y ≠ b) ∧ (∀ j j' y, Sf j y → Sf j' y → j = j') ∧
    ∀ (j : Nat) (d : D), (cellsT t x)[j]? = some d → if f = true then Rd w ok (vs 0 j) d else Own w (vs 0 j) d (Sf j)
theorem BoxC.mono {w : World} {ok ok' S S' : Nat → Prop} {v : Value} {t : T} {f : Bool} {x : t.den} (h : BoxC w ok S v t f x) (h1 : f = true → t.flat = false → ∀ b, ok b → ok' b) (h2 : ∀ b, S b → S' b) : BoxC w ok' S' v t f x := by
  obtain ⟨b, off, cap, vs, Sf, q1, q2, q3, q4, q5, q6⟩ := h
  refine ⟨b, off, cap, vs, Sf, q1, h2 b q2, q3, fun j y hy => ⟨h2 y (q4 j y hy).1, (q4 j y hy).2⟩, q5, fun j d hd => ?_⟩
  have := q6 j d hd
  cases f with
  | false => exact this
  | true =>
    simp only [if_true] at this ⊢
    cases hf : t.flat with
    | true => exact scalar_rd this (cellsT_flat t x hf d (List.mem_of_getElem? hd)) _ _
    | false => exact this.mono (h1 rfl hf) (fun _ _ => rfl)
/-- A variable that is set aside becomes an object. -/
theorem RepW.openB (h : RepW N E loc So Pd σ a w) {id : Nat} (hid : 64 ≤ id) {v : Value} {t : T} {f : Bool} {x : t.den} {S : Nat → Prop} (hv : BoxC w (Fz E So Pd w) S v t f x) (hS : ∀ x, S x → Pd x ∧ E.mine x ∧ x < w.heap.size) :
    ∃ loc' So' Pd', RepW N E loc' So' Pd' (σ.new id (.ls t f [x] 0 [])) a w ∧ (∃ b base cap, loc' id = some (b, base, cap) ∧ v = .pointer (some ⟨b, base, none⟩)) ∧ (∀ x, Fz E So Pd w x → Fz E So' Pd' w x) ∧ (∀ o, o ≠ id → loc' o = loc o) ∧ (∀ x, Pd x → ¬ S x → Pd' x) := by
  obtain ⟨b, off, cap, vs, Sf, rfl, hb, hm, hsub, hdis, hr⟩ := hv
  have hR := h.adopt (w' := w) id b off cap (.ls t f [x] 0 []) vs (fun i j y => i = 0 ∧ Sf j y) (σ.new id (.ls t f [x] 0 [])) (fun _ _ _ => rfl) (Nat.le_refl _) (hS b hb).2.2 rfl rfl rfl (.inr (.inl (hS b hb).1)) (hS b hb).2.1 hm False
    (fun i j c hc => by
      refine ⟨?_, fun hq => by rw [ls_refs hc] at hq; cases hq⟩
      obtain ⟨y, dd, h1, h2, rfl⟩ := ls_cell hc
      cases i with
      | succ i => simp at h1
      | zero =>
        simp only [List.getElem?_cons_zero, Option.some.injEq] at h1
        subst h1
        have := hr j dd h2
        refine cell_in ?_
        cases f with
        | true => exact this
        | false =>
          simp only [Bool.false_eq_true, if_false] at this ⊢
          exact this.mono (fun y hy => ⟨trivial, hy⟩) (fun _ _ => rfl))
    (fun i j y hy => ⟨(hsub j y hy.2).2, (hS y (hsub j y hy.2).1).2.2, (hS y (hsub j y hy.2).1).2.1, .inl (hS y (hsub j y hy.2).1).1⟩) (fun i j i' j' y hy hy' => ⟨by rw [hy.1, hy'.1], hdis j j' y hy.2 hy'.2⟩) (fun q => q.elim) (.inl hid) (new_self _ _ _)
    (fun o2 ob2 hne hh => by obtain ⟨ob0, h0, e⟩ := new_objs _ _ _ o2 ob2 hne hh; exact ⟨ob0, h0, .inr e⟩)
    (fun o2 ob2 hne hh => ⟨_, new_objs2 _ _ _ o2 ob2 hne hh, Ob.unref_sz _ _, Ob.unref_len _ _⟩)
    (fun t v hk => by
      rcases unref_regs σ id t v hk with e | ⟨h1, h2⟩
      · exact .inl e
      · exact .inr ⟨h1, looks_false_of_refs h2, fun hq => by rw [h2] at hq; cases hq⟩)
  refine ⟨_, _, _, hR, ⟨b, off, cap, by simp only [if_true], rfl⟩, fun x hx => ?_, fun o ho => by simp only [ho, if_false], fun x hx hn => ⟨.inl hx, fun q => ?_⟩⟩
  · refine ⟨hx.1, hx.2.1, fun o' q => ?_, fun q => ?_⟩
    · rcases q with ⟨_, q | ⟨i, j, q⟩⟩ | ⟨_, q⟩
      · subst q; exact hx.2.2.2 (hS x hb).1
      · exact hx.2.2.2 (hS x (hsub j x q.2).1).1
      · exact hx.2.2.1 o' q
    · exact q.1.elim hx.2.2.2 (hx.2.2.1 id)
  · rcases q with q | ⟨i, j, q⟩
    · subst q; exact hn hb
    · exact hn (hsub j x q.2).1

/-- Cells that are to be taken out. -/
structure OpenFit (w : World) (E : Ent) (okf Pd : Nat → Prop) (vs : List Value) (cs : List CV) (Sf : Nat → Nat → Prop) : Prop where
  len : cs.length = vs.length
  frz : ∀ (j : Nat) (v : Value) (x : D), vs[j]? = some v → cs[j]? = some (.d x) → Rd w okf v x
  cell : ∀ (j : Nat) (v : Value) (x : D), vs[j]? = some v → cs[j]? = some (.own x) → Own w v x (Sf j)
  box : ∀ (j : Nat) (v : Value) (t : T) (f : Bool) (x : t.den), vs[j]? = some v → cs[j]? = some (.pb t f x) → BoxC w okf (Sf j) v t f x
  sub : ∀ j x, Sf j x → Pd x ∧ E.mine x ∧ x < w.heap.size
  dis : ∀ j j' x, Sf j x → Sf j' x → j = j'

theorem KeepR.trans {objs objs' objs'' : List (Nat × Ob)} {loc loc' loc'' : Nat → Option (Nat × Nat × Nat)} {o : Nat} (h : KeepR objs objs' loc loc' o) (k : KeepR objs' objs'' loc' loc'' o) : KeepR objs objs'' loc loc'' o :=
  ⟨fun ob hob => by
    obtain ⟨ob', h1, h2, h3⟩ := h.ob ob hob
    obtain ⟨ob'', k1, k2, k3⟩ := k.ob ob' h1
    exact ⟨ob'', k1, k2.trans h2, k3.trans h3⟩, k.loc.trans h.loc⟩

theorem takeL_ok : ∀ (cs : List CV) (vs : List Value) {id : Nat} {l : List AV} {σ σ' : St} {loc : Nat → Option (Nat × Nat × Nat)} {So : Nat → Nat → Prop} {Pd : Nat → Prop} {Sf : Nat → Nat → Prop}, RepW N E loc So Pd σ a w →
    OpenFit w E (Fz E So Pd w) Pd vs cs Sf → 64 ≤ id → takeL id cs σ = some (l, σ') →
    ∃ loc' So' Pd', RepW N E loc' So' Pd' σ' a w ∧ RegsOK w (Fz E So' Pd' w) loc' So' σ'.objs vs l ∧ (∀ x, Fz E So Pd w x → Fz E So' Pd' w x) ∧
      (∀ o, (o < id ∨ id + cs.length ≤ o) → KeepR σ.objs σ'.objs loc loc' o) ∧ (∀ x, Pd x → (∀ j, ¬ Sf j x) → Pd' x) ∧ AV.blindL l = true ∧ (∀ o, AV.refsL o l = true → id ≤ o ∧ o < id + cs.length)
  | [], vs, id, l, σ, σ', loc, So, Pd, Sf, h, f, hid, hs => by
    simp only [takeL, Option.some.injEq, Prod.mk.injEq] at hs
    obtain ⟨rfl, rfl⟩ := hs
    have : vs = [] := List.eq_nil_of_length_eq_zero (by have := f.len; simpa using this.symm)
    subst this
    exact ⟨loc, So, Pd, h, by simp only [RegsOK], fun x hx => hx, fun o _ => KeepR.refl _ _ o, fun x hx _ => hx, rfl, fun o ho => by simp [AV.refsL] at ho⟩
  | c :: cs, [], id, l, σ, σ', loc, So, Pd, Sf, h, f, hid, hs => by have := f.len; simp at this
  | c :: cs, v :: vs, id, l, σ, σ', loc, So, Pd, Sf, h, f, hid, hs => by
    have frest : ∀ {Pd1 : Nat → Prop} {okf : Nat → Prop}, (∀ x, Fz E So Pd w x → okf x) → (∀ x, Pd x → ¬ Sf 0 x → Pd1 x) → OpenFit w E okf Pd1 vs cs (fun j => Sf (j + 1)) := fun h1 h2 =>
      ⟨by simpa using f.len, fun j v' x hv hc => (f.frz (j + 1) v' x (by simpa using hv) (by simpa using hc)).mono h1 (fun _ _ => rfl), fun j v' x hv hc => f.cell (j + 1) v' x (by simpa using hv) (by simpa using hc),
        fun j v' t f' x hv hc => (f.box (j + 1) v' t f' x (by simpa using hv) (by simpa using hc)).mono (fun _ _ => h1) (fun _ hb => hb),
        fun j x hx => ⟨h2 x (f.sub _ x hx).1 (fun q => by have := f.dis _ _ x hx q; omega), (f.sub _ x hx).2⟩, fun j j' x hx hx' => by have := f.dis _ _ x hx hx'; omega⟩
    have plain : ∀ (x : D) (l1 : List AV) (σ1 : St), Rd w (Fz E So Pd w) v x → takeL (id + 1) cs σ = some (l1, σ1) → l = .d x :: l1 → σ' = σ1 →
        ∃ loc' So' Pd', RepW N E loc' So' Pd' σ' a w ∧ RegsOK w (Fz E So' Pd' w) loc' So' σ'.objs (v :: vs) l ∧ (∀ x, Fz E So Pd w x → Fz E So' Pd' w x) ∧
          (∀ o, (o < id ∨ id + (c :: cs).length ≤ o) → KeepR σ.objs σ'.objs loc loc' o) ∧ (∀ x, Pd x → (∀ j, ¬ Sf j x) → Pd' x) ∧ AV.blindL l = true ∧ (∀ o, AV.refsL o l = true → id ≤ o ∧ o < id + (c :: cs).length) := by
      intro x l1 σ1 hx ht e1 e2
      subst e1 e2
      obtain ⟨loc', So', Pd', r1, r2, r3, r4, r5, r6, r7⟩ := takeL_ok cs vs h (frest (fun x hx => hx) (fun x hx _ => hx)) (by omega) ht
      refine ⟨loc', So', Pd', r1, by simp only [RegsOK, RegOK]; exact ⟨hx.mono r3 (fun _ _ => rfl), r2⟩, r3, fun o ho => r4 o ?_, fun x hx hn => r5 x hx (fun j => hn (j + 1)), by simp only [AV.blindL, AV.blind, Bool.true_and]; exact r6, fun o ho => ?_⟩
      · simp only [List.length_cons] at ho; omega
      · simp only [AV.refsL, AV.refs, Bool.false_or] at ho
        have := r7 o ho
        simp only [List.length_cons]; omega
    simp only [takeL] at hs
    split at hs
    · rename_i t r
      obtain ⟨⟨l1, σ1⟩, ht, he⟩ := Option.map_eq_some_iff.1 hs
      simp only [Prod.mk.injEq] at he
      obtain ⟨rfl, rfl⟩ := he
      obtain ⟨loc1, So1, Pd1, q1, q2, q3, q4, q5, q6⟩ := h.open hid (f.cell 0 v _ rfl rfl) (fun x hx => f.sub 0 x hx)
      obtain ⟨loc', So', Pd', r1, r2, r3, r4, r5, r6, r7⟩ := takeL_ok cs vs q1 (frest q3 q5) (by omega) ht
      have hk := r4 id (by omega)
      refine ⟨loc', So', Pd', r1, ?_, fun x hx => r3 x (q3 x hx), fun o ho => ?_, fun x hx hn => r5 x (q5 x hx (hn 0)) (fun j => hn (j + 1)), by simp only [AV.blindL, AV.blind, Bool.true_and]; exact r6, fun o ho => ?_⟩
      · simp only [RegsOK, RegOK]
        obtain ⟨ob', k1, k2, k3⟩ := hk.ob _ (new_self _ _ _)
        refine ⟨⟨ob', k1, by rw [k3]; simp [Ob.len], ?_⟩, r2⟩
        rw [hk.loc, k2]
        exact q2
      · simp only [List.length_cons] at ho
        refine KeepR.trans ⟨fun ob hob => ⟨_, new_objs2 _ _ _ o ob (by omega) hob, Ob.unref_sz _ _, Ob.unref_len _ _⟩, q4 o (by omega)⟩ (r4 o (by omega))
      · simp only [AV.refsL, AV.refs, Bool.or_eq_true, beq_iff_eq] at ho
        simp only [List.length_cons]
        rcases ho with ho | ho
        · omega
        · have := r7 o ho; omega
    · rename_i x hx
      obtain ⟨⟨l1, σ1⟩, ht, he⟩ := Option.map_eq_some_iff.1 hs
      simp only [Prod.mk.injEq] at he
      have hown := f.cell 0 v _ rfl rfl
      refine plain x l1 σ1 (scalar_rd hown.rd ?_ _ _) ht he.1.symm he.2.symm
      cases x with
      | sl t r => exact absurd rfl (hx t r)
      | _ => rfl
    · rename_i t f' x
      obtain ⟨⟨l1, σ1⟩, ht, he⟩ := Option.map_eq_some_iff.1 hs
      simp only [Prod.mk.injEq] at he
      obtain ⟨rfl, rfl⟩ := he
      obtain ⟨loc1, So1, Pd1, q1, ⟨b, base, cap, q2, q2'⟩, q3, q4, q5⟩ := h.openB hid (f.box 0 v t f' x rfl rfl) (fun x hx => f.sub 0 x hx)
      obtain ⟨loc', So', Pd', r1, r2, r3, r4, r5, r6, r7⟩ := takeL_ok cs vs q1 (frest q3 q5) (by omega) ht
      have hk := r4 id (by omega)
      refine ⟨loc', So', Pd', r1, ?_, fun x hx => r3 x (q3 x hx), fun o ho => ?_, fun x hx hn => r5 x (q5 x hx (hn 0)) (fun j => hn (j + 1)), by simp only [AV.blindL, AV.blind, Bool.true_and]; exact r6, fun o ho => ?_⟩
      · simp only [RegsOK, RegOK]
        obtain ⟨ob', k1, k2, k3⟩ := hk.ob _ (new_self _ _ _)
        refine ⟨⟨ob', b, base, cap, k1, by rw [hk.loc, q2], by rw [k3]; simp [Ob.len], by rw [q2']; simp⟩, r2⟩
      · simp only [List.length_cons] at ho
        refine KeepR.trans ⟨fun ob hob => ⟨_, new_objs2 _ _ _ o ob (by omega) hob, Ob.unref_sz _ _, Ob.unref_len _ _⟩, q4 o (by omega)⟩ (r4 o (by omega))
      · simp only [AV.refsL, AV.refs, Bool.or_eq_true, beq_iff_eq] at ho
        simp only [List.length_cons]
        rcases ho with ho | ho
        · omega
        · have := r7 o ho; omega
    · rename_i x
      obtain ⟨⟨l1, σ1⟩, ht, he⟩ := Option.map_eq_some_iff.1 hs
      simp only [Prod.mk.injEq] at he
      exact plain x l1 σ1 (f.frz 0 v x rfl rfl) ht he.1.symm he.2.symm
    · cases hs

def okN (P : Program) (N : Nat) (o : Oper) : I → Bool
  | .ldm d p => dstB o N d && (match o.op with | .load t q => okO q p && szB P t 1 && aggB P t false | _ => false)
  | .ldt d sz ag p => dstB o N d && (match o.op with | .load t q => okO q p && szB P t sz && aggB P t ag | _ => false)
  | .bxl d _ x => dstB o N d && (match o.op with | .box _ q => okO q x | _ => false)
  | .stl sz p v => o.dst == none && (match o.op with | .store t q r => okO q p && okO r v && szB P t sz | _ => false)
  | _ => false

theorem ok_ldt (h : RepW N E loc So Pd σ a w) {d sz : Nat} {ag : Bool} {p : O} (hq : okN P N o (.ldt d sz ag p) = true) (hs : kstep X (.ldt d sz ag p) σ = some σ') : Outc P o a w (Rep N E σ') := by
  simp only [okN, Bool.and_eq_true] at hq
  obtain ⟨hd, hq⟩ := hq
  obtain ⟨hd, hn⟩ := dstB_ok hd
  split at hq
  case h_2 => cases hq
  rename_i t q hop
  simp only [Bool.and_eq_true] at hq
  obtain ⟨⟨h1, h2⟩, h3⟩ := hq
  have hp := h.op h1
  simp only [kstep] at hs
  split at hs
  case h_2 => cases hs
  rename_i o' i j e
  rw [e] at hp
  simp only [RegOK] at hp
  obtain ⟨ob, b, base, cap, hob, hloc, hi, hv⟩ := hp
  rw [hob] at hs
  simp only [Option.bind_some] at hs
  cases ob with
  | fn v => simp at hs
  | ls ty fz l k hs' =>
    simp only at hs
    obtain ⟨x, hx, hs2⟩ := Option.bind_eq_some_iff.1 hs
    clear hs
    by_cases hc : k ≤ i ∧ j + sz ≤ ty.w ∧ hs'.isEmpty = true
    case neg => rw [if_neg hc] at hs2; cases hs2
    rw [if_pos hc] at hs2
    obtain ⟨hki, hjs, hh⟩ := hc
    have hh : hs' = [] := by simpa using hh
    subst hh
    obtain ⟨⟨l1, σ1⟩, ht, hs2⟩ := Option.bind_eq_some_iff.1 hs2
    obtain ⟨v, hpk, rfl⟩ := Option.map_eq_some_iff.1 hs2
    have hO := h.objs o' _ hob
    obtain ⟨hb, vs, Sf, hrow, hsub, hdis, hcl⟩ := hO.some' b base cap hloc
    have hskip := skip_some h hob (k' := i + 1) (by omega) hloc hb hrow hsub hdis hcl
    simp only [Ob.len, Ob.sz] at hi hv
    have hff : ∀ x, Fz E So Pd w x → Fz E (soN So o' b fun i' j x => i + 1 ≤ i' ∧ Sf i' j x) (pdN Pd So o' b fun i' j x => i + 1 ≤ i' ∧ Sf i' j x) w x := fun x hx =>
      ⟨hx.1, hx.2.1, fun o2 q => by
        rcases q with ⟨_, q | ⟨i', j, _, q⟩⟩ | ⟨_, q⟩
        · subst q; exact hx.2.2.1 o' hb
        · exact hx.2.2.1 o' (hsub i' j x q).1
        · exact hx.2.2.1 o2 q, fun q => q.1.elim hx.2.2.2 (hx.2.2.1 o')⟩
    have hcell : ∀ (j : Nat) (d : D), (cellsT ty x)[j]? = some d → FitC w fz (Fz E So Pd w) (Sf i j) (vs i j) d := fun j d hj => by
      have hcc := hcl i j _ (ob_cell hx hj)
      rw [cv_nohole fz j d hki] at hcc
      by_cases hsc : d.scalar = true
      · rw [if_pos hsc] at hcc
        cases fz with
        | true => exact hcc
        | false => exact scalar_own hcc hsc _ _
      · rw [if_neg hsc] at hcc
        cases fz with
        | true => exact hcc
        | false => exact hcc
    let us : List Value := (List.range sz).map fun q => vs i (j + q)
    have hus : ∀ (q : Nat) (v : Value), us[q]? = some v → q < sz ∧ v = vs i (j + q) := fun q v hj => by
      simp only [us, List.getElem?_map] at hj
      obtain ⟨j', h1, h2⟩ := Option.map_eq_some_iff.1 hj
      have h3 : q < sz := by simpa using get_lt h1
      rw [List.getElem?_range h3] at h1
      obtain rfl := Option.some.inj h1
      exact ⟨h3, h2.symm⟩
    have hcv : ∀ (q : Nat) (c : CV), (cvs fz k [] i j (((cellsT ty x).drop j).take sz))[q]? = some c → ∃ d, (cellsT ty x)[j + q]? = some d ∧ c = if d.scalar then .d d else if fz then .d d else .own d := fun q c hc => by
      rw [cvs_get] at hc
      obtain ⟨d, h1, rfl⟩ := Option.map_eq_some_iff.1 hc
      refine ⟨d, ?_, by rw [cv_nohole fz (j + q) d hki]⟩
      rw [List.getElem?_take] at h1
      split at h1
      · rwa [List.getElem?_drop] at h1
      · cases h1
    have fit : OpenFit w E (Fz E (soN So o' b fun i' j x => i + 1 ≤ i' ∧ Sf i' j x) (pdN Pd So o' b fun i' j x => i + 1 ≤ i' ∧ Sf i' j x) w) (pdN Pd So o' b fun i' j x => i + 1 ≤ i' ∧ Sf i' j x) us (cvs fz k [] i j (((cellsT ty x).drop j).take sz)) (fun q x => q < sz ∧ Sf i (j + q) x) := by
      refine ⟨by rw [cvs_len, List.length_take, List.length_drop, cellsT_len]; simp [us]; omega, fun q v y hv hc => ?_, fun q v y hv hc => ?_, fun q v t' f' y hv hc => ?_, fun q x hx => ?_, fun q q' x hx hx' => by have := (hdis _ _ _ _ x hx.2 hx'.2).2; omega⟩
      · obtain ⟨hj, rfl⟩ := hus q v hv
        obtain ⟨d, h1, h2⟩ := hcv q _ hc
        have hcc := hcell (j + q) d h1
        split at h2
        · rename_i hsc
          obtain rfl := CV.d.inj h2
          cases fz with
          | true => exact Rd.mono hff (fun _ _ => rfl) hcc
          | false => exact scalar_rd (Own.rd hcc) hsc _ _
        · split at h2
          · rename_i hf
            subst hf
            obtain rfl := CV.d.inj h2
            exact Rd.mono hff (fun _ _ => rfl) hcc
          · cases h2
      · obtain ⟨hj, rfl⟩ := hus q v hv
        obtain ⟨d, h1, h2⟩ := hcv q _ hc
        have hcc := hcell (j + q) d h1
        split at h2
        · cases h2
        · split at h2
          · cases h2
          · rename_i hf
            have hf : fz = false := by simpa using hf
            subst hf
            obtain rfl := CV.own.inj h2
            exact Own.mono hcc (fun x hx => ⟨hj, hx⟩) (fun _ _ => rfl)
      · obtain ⟨d, h1, h2⟩ := hcv q _ hc
        split at h2
        · cases h2
        · split at h2 <;> cases h2
      · obtain ⟨q1, q2⟩ := hsub _ _ x hx.2
        obtain ⟨p1, p2, p3, p4⟩ := h.has o' x q1
        refine ⟨⟨.inr q1, fun q => ?_⟩, p2, p3⟩
        rcases q with q | ⟨i', j', h1, q⟩
        · exact q2 q
        · have := hdis _ _ _ _ x hx.2 q
          omega
    obtain ⟨loc', So', Pd', r1, r2, r3, r4, r5, r6, r7⟩ := takeL_ok _ us hskip fit (by simp [nid]) ht
    obtain ⟨u, s1, s2⟩ := run_load_any (P := P) (w := w) (b := b) (o := base + i * ty.w + j) h2 h3 (by simp [us]) (fun q v hj => by
      obtain ⟨hj2, rfl⟩ := hus q v hj
      have hlt : j + q < ty.w := by omega
      rw [Nat.add_assoc]
      exact hrow.cell hi hlt) r2 hpk
    refine .val u w (by simp [execOp, hop, hv, Instr.loadAt, Instr.sureAddr, s1]) ?_
    rw [hd]
    exact ⟨loc', So', Pd', r1.set hn s2⟩

theorem ok_ldm (h : RepW N E loc So Pd σ a w) {d : Nat} {p : O} (hq : okN P N o (.ldm d p) = true) (hs : kstep X (.ldm d p) σ = some σ') : Outc P o a w (Rep N E σ') := by
  simp only [okN, Bool.and_eq_true] at hq
  obtain ⟨hd, hq⟩ := hq
  obtain ⟨hd, hn⟩ := dstB_ok hd
  split at hq
  case h_2 => cases hq
  rename_i t q hop
  simp only [Bool.and_eq_true] at hq
  obtain ⟨⟨h1, h2⟩, h3⟩ := hq
  have hp := h.op h1
  simp only [kstep] at hs
  split at hs
  case h_2 => cases hs
  rename_i o' i j e
  rw [e] at hp
  simp only [RegOK] at hp
  obtain ⟨ob, b, base, cap, hob, hloc, hi, hv⟩ := hp
  rw [hob] at hs
  simp only [Option.bind_some] at hs
  cases ob with
  | fn v => simp at hs
  | ls ty fz l k hs' =>
    simp only at hs
    obtain ⟨x, hx, hs2⟩ := Option.bind_eq_some_iff.1 hs
    clear hs
    obtain ⟨c, hc, hs2⟩ := Option.bind_eq_some_iff.1 hs2
    split at hs2
    case h_3 => cases hs2
    case h_2 =>
      rename_i o2 hcv
      obtain ⟨ob2, hob2, rfl⟩ := Option.map_eq_some_iff.1 hs2
      have hO := h.objs o' _ hob
      obtain ⟨hb, vs, Sf, hrow, hsub, hdis, hcl⟩ := hO.some' b base cap hloc
      simp only [Ob.len, Ob.sz] at hi hv
      have hjw := cells_lt hc
      have hcell := hcl i j _ (ob_cell hx hc)
      rw [hcv] at hcell
      obtain ⟨ob3, h3', hv3⟩ := hcell
      rw [hob2] at h3'
      obtain rfl := Option.some.inj h3'
      have hmem := hrow.cell (i := i) (j := j) hi hjw
      simp only [Ob.sz] at hmem
      have hr := run_loadVar_one (P := P) h3 b (base + i * ty.w + j) (vs i j) hmem
      refine .val (vs i j) w (by simp [execOp, hop, hv, Instr.loadAt, Instr.sureAddr, hr]) ?_
      rw [hd]
      exact ⟨_, _, _, h.set hn (by simp only [RegOK]; exact ⟨ob2, hob2, by omega, hv3⟩)⟩
    rename_i t' l' hcv
    by_cases hne : o' = nid d
    · rw [if_pos hne] at hs2; cases hs2
    rw [if_neg hne] at hs2
    obtain rfl := Option.some.inj hs2
    have hO := h.objs o' _ hob
    obtain ⟨hb, vs, Sf, hrow, hsub, hdis, hcl⟩ := hO.some' b base cap hloc
    simp only [Ob.len, Ob.sz] at hi hv
    have hjw := cells_lt hc
    have hown : Own w (vs i j) (.sl t' l') (Sf i j) := by
      have := hcl i j _ (ob_cell hx hc)
      rw [hcv] at this
      exact this
    have hmem := hrow.cell (i := i) (j := j) hi hjw
    simp only [Ob.sz] at hmem
    -- the cell is passed over
    have hturn := h.turn (ob := .ls ty fz l k ((i, j, none) :: hs')) hob hloc rfl rfl vs (fun i' j' x => ¬ (i' = i ∧ j' = j) ∧ Sf i' j' x) (fun _ _ _ => rfl) (Nat.le_refl _) (h.has o' b hb).2.2.1 rfl rfl rfl hb hrow
      (fun i' j' c' hcc => by
        simp only [Ob.cell] at hcc
        obtain ⟨x', hx', hcc⟩ := Option.bind_eq_some_iff.1 hcc
        obtain ⟨d', hd', rfl⟩ := Option.map_eq_some_iff.1 hcc
        have hold := hcl i' j' _ (ob_cell hx' hd')
        by_cases hsc : d'.scalar = true
        · have e1 : ∀ k hs2, cv fz k hs2 i' j' d' = .d d' := fun k hs2 => by simp only [cv, if_pos hsc]
          rw [e1] at hold ⊢
          exact hold
        · by_cases e2 : i' = i ∧ j' = j
          · have : cv fz k ((i, j, none) :: hs') i' j' d' = .junk := by
              simp only [cv, if_neg hsc, holeAt, if_pos e2]
              split <;> rfl
            rw [this]; trivial
          · have : cv fz k ((i, j, none) :: hs') i' j' d' = cv fz k hs' i' j' d' := by
              simp only [cv, if_neg hsc, holeAt, if_neg e2]
            rw [this]
            exact hold.mono (fun b hb => ⟨hb, rfl⟩) (fun b hb => ⟨⟨e2, hb⟩, rfl⟩) (fun o2 _ => KeepR.refl _ _ o2))
      (fun i' j' x hx => ⟨(hsub i' j' x hx.2).2, (h.has o' x (hsub i' j' x hx.2).1).2.2.1, (h.has o' x (hsub i' j' x hx.2).1).2.1, .inr (hsub i' j' x hx.2).1⟩)
      (fun i1 j1 i2 j2 x hx hx' => hdis _ _ _ _ x hx.2 hx'.2)
    obtain ⟨loc1, So1, Pd1, q1, q2, q3, q4, q5, q6⟩ := hturn.open (id := nid d) (by simp [nid]) hown (fun x hx => by
      obtain ⟨p1, p2⟩ := hsub i j x hx
      obtain ⟨r1, r2, r3, r4⟩ := h.has o' x p1
      refine ⟨⟨.inr p1, fun q => ?_⟩, r2, r3⟩
      rcases q with q | ⟨i', j', hn', q⟩
      · exact p2 q
      · exact hn' (by have := hdis _ _ _ _ x hx q; exact ⟨this.1.symm, this.2.symm⟩))
    -- and lent
    have hob1 : klook ((σ.turn o' (.ls ty fz l k ((i, j, none) :: hs'))).new (nid d) (.ls t' false l' 0 [])).objs o' = some (.ls ty fz l k ((i, j, none) :: unlent (nid d) hs')) := by
      rw [new_objs2 _ (nid d) _ o' (.ls ty fz l k ((i, j, none) :: hs')) hne (by simp only [St.turn, klook_kput_same])]
      simp [Ob.unref, unlent]
    have hrel := q1.relabel (o := o') (ob' := .ls ty fz l k ((i, j, some (nid d)) :: unlent (nid d) hs')) hob1 rfl rfl (by
      have hO1 := q1.objs o' _ hob1
      refine ⟨hO1.none', fun b' off' cap' e' => ?_⟩
      obtain ⟨w1, us, Sg, w2, w3, w4, w5⟩ := hO1.some' b' off' cap' e'
      refine ⟨w1, us, Sg, w2, w3, w4, fun i' j' c' hcc => ?_⟩
      have hkr : ∀ o2, KeepR ((σ.turn o' (.ls ty fz l k ((i, j, none) :: hs'))).new (nid d) (.ls t' false l' 0 [])).objs (((σ.turn o' (.ls ty fz l k ((i, j, none) :: hs'))).new (nid d) (.ls t' false l' 0 [])).less o' (.ls ty fz l k ((i, j, some (nid d)) :: unlent (nid d) hs'))).objs loc1 loc1 o2 := fun o2 => by
        refine ⟨fun ob2 h2 => ?_, rfl⟩
        simp only [St.less]
        by_cases e : o2 = o'
        · subst e
          rw [hob1] at h2
          obtain rfl := Option.some.inj h2
          exact ⟨_, klook_kput_same _ _ _, rfl, rfl⟩
        · exact ⟨ob2, by rw [klook_kput_ne _ _ e]; exact h2, rfl, rfl⟩
      simp only [Ob.cell] at hcc
      obtain ⟨x', hx', hcc⟩ := Option.bind_eq_some_iff.1 hcc
      obtain ⟨d', hd', rfl⟩ := Option.map_eq_some_iff.1 hcc
      have hold := w5 i' j' _ (ob_cell hx' hd')
      by_cases hsc : d'.scalar = true
      · have e1 : ∀ k hs2, cv fz k hs2 i' j' d' = .d d' := fun k hs2 => by simp only [cv, if_pos hsc]
        rw [e1] at hold ⊢
        exact hold
      · by_cases e2 : i' = i ∧ j' = j
        · obtain ⟨rfl, rfl⟩ := e2
          by_cases hik : i' < k
          · have : ∀ hs2, cv fz k hs2 i' j' d' = .junk := fun hs2 => by simp only [cv, if_neg hsc, if_pos hik]
            rw [this]; trivial
          · have : cv fz k ((i', j', some (nid d)) :: unlent (nid d) hs') i' j' d' = .lent (nid d) := by
              simp only [cv, if_neg hsc, if_neg hik, holeAt]
              simp [nid]
            rw [this]
            have hmem' := w2.cell (i := i') (j := j') (by simpa [Ob.len] using hi) (by simpa [Ob.sz] using hjw)
            simp only [Ob.sz] at hmem'
            have hl1 : loc1 o' = loc o' := q4 o' hne
            rw [hl1, hloc] at e'
            simp only [Option.some.injEq, Prod.mk.injEq] at e'
            obtain ⟨rfl, rfl, rfl⟩ := e'
            rw [hmem] at hmem'
            obtain hveq := Option.some.inj hmem'
            refine ⟨.ls t' false l' 0 [], ?_, ?_⟩
            · simp only [St.less, klook_kput_ne _ _ (show nid d ≠ o' from fun q => hne q.symm)]
              exact new_self _ _ _
            · simp only [Ob.sz, Ob.len]
              rw [← hveq]
              exact q2
        · have : ∀ z, cv fz k ((i, j, z) :: unlent (nid d) hs') i' j' d' = cv fz k (unlent (nid d) hs') i' j' d' := fun z => by
            simp only [cv, if_neg hsc, holeAt, if_neg e2]
          rw [this] at hold ⊢
          exact hold.mono (fun b hb => ⟨hb, rfl⟩) (fun b hb => ⟨hb, rfl⟩) (fun o2 _ => hkr o2))
    have hr := run_loadVar_one (P := P) h3 b (base + i * ty.w + j) (vs i j) hmem
    refine .val (vs i j) w (by simp [execOp, hop, hv, Instr.loadAt, Instr.sureAddr, hr]) ?_
    rw [hd]
    refine ⟨_, _, _, hrel.set hn ?_⟩
    simp only [RegOK]
    refine ⟨.ls t' false l' 0 [], ?_, by simp [Ob.len], ?_⟩
    · simp only [St.less, klook_kput_ne _ _ (show nid d ≠ o' from fun q => hne q.symm)]
      exact new_self _ _ _
    · simp only [Ob.sz]
      exact q2

/-! ### Stores that lend -/
/-- What is lent, or a value that is whole in its cell. -/
def LendOK (w : World) (fz : Nat → Prop) (loc : Nat → Option (Nat × Nat × Nat)) (objs : List (Nat × Ob)) (u : Value) (q : D × Option Nat) : Prop :=
  match q.2 with
  | none => ∀ S, Own w u q.1 S
  | some o => q.1.scalar = false ∧ u.oneCell' = true ∧ if o = 63 then Rd w fz u q.1 else ∃ ob, klook objs o = some ob ∧ HVal (loc o) ob.sz 0 ob.len u
theorem hval_one {l : Option (Nat × Nat × Nat)} {sz off n : Nat} {v : Value} (h : HVal l sz off n v) : v.oneCell' = true := by
  unfold HVal at h
  cases l with
  | none => obtain ⟨_, _, A, rfl⟩ := h; rfl
  | some q => obtain ⟨b, base, cap⟩ := q; obtain ⟨_, A, rfl, _⟩ := h; rfl
theorem lendC_ok {v : Value} {av : AV} {q : D × Option Nat} (hv : RegOK w (Fz E So Pd w) loc So σ.objs v av) (hs : lendC σ av = some q) : LendOK w (Fz E So Pd w) loc σ.objs v q := by
  cases av with
  | d x =>
    simp only [lendC] at hs
    simp only [RegOK] at hv
    split at hs
    · rename_i hsc
      obtain rfl := Option.some.inj hs
      exact fun S => scalar_own hv hsc _ _
    · rename_i hsc
      obtain rfl := Option.some.inj hs
      exact ⟨by simpa using hsc, rd_one hv, by rw [if_pos rfl]; exact hv⟩
  | nil t =>
    simp only [lendC, Option.some.injEq] at hs
    subst hs
    simp only [RegOK] at hv
    subst hv
    exact fun S => .nil _ _ _
  | h o off n =>
    simp only [lendC] at hs
    obtain ⟨ob, hob, hs2⟩ := Option.bind_eq_some_iff.1 hs
    cases ob with
    | fn u => simp at hs2
    | ls t f l k hh =>
      simp only at hs2
      split at hs2
      · rename_i hc
        obtain rfl := Option.some.inj hs2
        obtain ⟨rfl, rfl, h63⟩ := hc
        simp only [RegOK] at hv
        obtain ⟨ob', hob', _, hval⟩ := hv
        rw [hob] at hob'
        obtain rfl := Option.some.inj hob'
        exact ⟨rfl, hval_one hval, by rw [if_neg h63]; exact ⟨_, hob, hval⟩⟩
      · cases hs2
  | _ => simp [lendC] at hs
theorem lend_one {u : Value} {q : D × Option Nat} (h : LendOK w (Fz E So Pd w) loc σ.objs u q) : u.oneCell' = true := by
  unfold LendOK at h
  split at h
  · exact own_one (h (fun _ => False))
  · exact h.2.1
theorem lends_ok {v : Value} {av : AV} {qs : List (D × Option Nat)} (hv : RegOK w (Fz E So Pd w) loc So σ.objs v av) (hs : allOf (lendC σ) av.cells = some qs) :
    ∃ vs : List Value, v.cells = vs.toArray ∧ qs.length = vs.length ∧ (∀ (j : Nat) (u : Value) (q : D × Option Nat), vs[j]? = some u → qs[j]? = some q → LendOK w (Fz E So Pd w) loc σ.objs u q) ∧ ∀ u ∈ vs, u.oneCell' = true := by
  have main : ∀ (vs : List Value) (l : List AV), RegsOK w (Fz E So Pd w) loc So σ.objs vs l → allOf (lendC σ) l = some qs → qs.length = vs.length ∧ (∀ (j : Nat) (u : Value) (q : D × Option Nat), vs[j]? = some u → qs[j]? = some q → LendOK w (Fz E So Pd w) loc σ.objs u q) ∧ ∀ u ∈ vs, u.oneCell' = true := fun vs l hr ha => by
    have hl := allOf_len ha
    have hl2 := hr.length
    have hc : ∀ (j : Nat) (u : Value) (q : D × Option Nat), vs[j]? = some u → qs[j]? = some q → LendOK w (Fz E So Pd w) loc σ.objs u q := fun j u q h1 h2 => by
      obtain ⟨av, h3, h4⟩ := allOf_get ha h2
      obtain ⟨u', h5, h6⟩ := hr.get h3
      rw [h1] at h5
      obtain rfl := Option.some.inj h5
      exact lendC_ok h6 h4
    refine ⟨by omega, hc, fun u hu => ?_⟩
    obtain ⟨j, hj, rfl⟩ := List.getElem_of_mem hu
    exact lend_one (hc j _ _ (List.getElem?_eq_getElem hj) (List.getElem?_eq_getElem (by omega)))
  have one : allOf (lendC σ) [av] = some qs → ∃ vs : List Value, v.cells = vs.toArray ∧ qs.length = vs.length ∧ (∀ (j : Nat) (u : Value) (q : D × Option Nat), vs[j]? = some u → qs[j]? = some q → LendOK w (Fz E So Pd w) loc σ.objs u q) ∧ ∀ u ∈ vs, u.oneCell' = true := fun hs => by
    obtain ⟨h1, h2, h3⟩ := main [v] [av] (by simp only [RegsOK]; exact ⟨hv, trivial⟩) hs
    exact ⟨[v], by rw [cells_of_one (h3 v (by simp))], h1, h2, h3⟩
  cases av with
  | agg l =>
    simp only [RegOK] at hv
    obtain ⟨vs, rfl, hvs⟩ := hv
    obtain ⟨h1, h2, h3⟩ := main vs l hvs hs
    exact ⟨vs, rfl, h1, h2, h3⟩
  | _ => exact one hs
theorem holeAt_lendH (i : Nat) (rest : List (Nat × Nat × Option Nat)) : ∀ (qs : List (D × Option Nat)) (j i' j' : Nat),
    holeAt (lendH i j qs ++ rest) i' j' = if i' = i ∧ j ≤ j' then (match qs[j' - j]? with | some (_, some o) => some (some o) | _ => holeAt rest i' j') else holeAt rest i' j'
  | [], j, i', j' => by simp [lendH]
  | q :: qs, j, i', j' => by
    obtain ⟨d, oo⟩ := q
    have ih := holeAt_lendH i rest qs (j + 1) i' j'
    by_cases hi : i' = i
    · subst hi
      by_cases hj : j' = j
      · subst hj
        have e : ¬ (j' + 1 ≤ j') := by omega
        cases oo with
        | none => simp only [lendH, ih, e, and_false, if_false, true_and, Nat.le_refl, if_true, Nat.sub_self, List.getElem?_cons_zero]
        | some o => simp only [lendH, List.cons_append, holeAt, and_self, if_true, Nat.le_refl, Nat.sub_self, List.getElem?_cons_zero]
      · by_cases hlt : j ≤ j'
        · have e1 : j + 1 ≤ j' := by omega
          have e2 : j' - j = (j' - (j + 1)) + 1 := by omega
          cases oo with
          | none => simp only [lendH, ih, e1, hlt, and_self, if_true, e2, List.getElem?_cons_succ]
          | some o => simp only [lendH, List.cons_append, holeAt, hj, and_false, if_false, ih, e1, hlt, and_self, if_true, e2, List.getElem?_cons_succ]
        · have e1 : ¬ (j + 1 ≤ j') := by omega
          cases oo with
          | none => simp only [lendH, ih, e1, hlt, and_false, if_false]
          | some o => simp only [lendH, List.cons_append, holeAt, hj, and_false, if_false, ih, e1, hlt]
    · cases oo with
      | none => simp only [lendH, ih, hi, false_and, if_false]
      | some o => simp only [lendH, List.cons_append, holeAt, hi, false_and, if_false, ih]
theorem lends_at {o : Nat} : ∀ {hs : List (Nat × Nat × Option Nat)} {i j : Nat}, lends o hs = false → holeAt hs i j ≠ some (some o)
  | [], i, j, _ => by simp [holeAt]
  | (a, b, x) :: r, i, j, h => by
    simp only [lends, Bool.or_eq_false_iff, decide_eq_false_iff_not] at h
    simp only [holeAt]
    split
    · intro e; exact h.1 (Option.some.inj e)
    · exact lends_at h.2
/-- A cell that was stored so. -/
theorem lend_cell {k i j i' j' : Nat} {hs : List (Nat × Nat × Option Nat)} {qs : List (D × Option Nat)} {q : D × Option Nat} {u : Value} {S : Nat → Prop} (hki : k ≤ i) (hj : j ≤ j') (hi : i' = i) (hq : qs[j' - j]? = some q) (hno : holeAt hs i' j' = none) (hl : LendOK w (Fz E So Pd w) loc σ.objs u q) :
    CellOK w (Fz E So Pd w) loc So σ.objs u (cv false k (lendH i j qs ++ hs) i' j' q.1) S := by
  obtain ⟨d, oo⟩ := q
  subst hi
  have hh := holeAt_lendH i' hs qs j i' j'
  rw [if_pos ⟨rfl, hj⟩, hq] at hh
  unfold LendOK at hl
  cases oo with
  | none =>
    simp only at hl hh
    rw [hno] at hh
    simp only [cv, hh]
    by_cases hsc : d.scalar = true
    · rw [if_pos hsc]; exact scalar_rd (hl S).rd hsc _ _
    · rw [if_neg hsc, if_neg (by omega)]; exact hl S
  | some o =>
    simp only at hl hh
    simp only [cv, hh, hl.1, Bool.false_eq_true, if_false]
    rw [if_neg (by omega)]
    have h3 := hl.2.2
    split at h3
    · rename_i e; rw [if_pos e]; exact h3
    · rename_i e; rw [if_neg e]; exact h3
theorem ok_bxl (h : RepW N E loc So Pd σ a w) {d : Nat} {ty : T} {x : O} (hq : okN P N o (.bxl d ty x) = true) (hs : kstep X (.bxl d ty x) σ = some σ') : Outc P o a w (Rep N E σ') := by
  simp only [okN, Bool.and_eq_true] at hq
  obtain ⟨hd, hq⟩ := hq
  obtain ⟨hd, hn⟩ := dstB_ok hd
  split at hq
  case h_2 => cases hq
  rename_i t q hop
  have hx := h.op hq
  simp only [kstep] at hs
  obtain ⟨qs, hqs, hs2⟩ := Option.bind_eq_some_iff.1 hs
  split at hs2
  case isFalse => cases hs2
  rename_i hself
  obtain ⟨y, hy, rfl⟩ := Option.map_eq_some_iff.1 hs2
  clear hs hs2
  obtain ⟨vs, hvs, hlen, hl, hone⟩ := lends_ok hx hqs
  refine .val (.pointer (some ⟨w.heap.size, 0, none⟩)) (w.alloc (.cells vs.toArray t)) ?_ ?_
  · simp [execOp, hop, Instr.box, newVar, newRow, hvs]
  · rw [hd]
    have hcx := cells_mkT ty _ y hy
    have hw : ty.w = vs.length := by rw [← hlen, ← cellsT_len ty y, hcx, List.length_map]
    have hcellE : ∀ (i j : Nat) (c : CV), (Ob.ls ty false [y] 0 (lendH 0 0 qs)).cell i j = some c → i = 0 ∧ ∃ q, qs[j]? = some q ∧ c = cv false 0 (lendH 0 0 qs) 0 j q.1 := fun i j c hc => by
      simp only [Ob.cell] at hc
      obtain ⟨x', hx', hc2⟩ := Option.bind_eq_some_iff.1 hc
      obtain ⟨dd, hdd, rfl⟩ := Option.map_eq_some_iff.1 hc2
      cases i with
      | succ i => simp at hx'
      | zero =>
        simp only [List.getElem?_cons_zero, Option.some.injEq] at hx'
        subst hx'
        rw [hcx, List.getElem?_map] at hdd
        obtain ⟨q, hq, rfl⟩ := Option.map_eq_some_iff.1 hdd
        exact ⟨rfl, q, hq, rfl⟩
    obtain ⟨So', Pd', hR⟩ := h.new (nid d) 1 (by simp [nid]) (.ls ty false [y] 0 (lendH 0 0 qs)) vs.toArray t (fun _ j => vs.getD j undef) (fun _ _ _ => False) (by simp [Ob.sz, hw]) (by simp [Ob.len])
      (fun i j hi hj => by
        simp only [Ob.len, List.length_cons, List.length_nil] at hi
        have : i = 0 := by omega
        subst this
        simp only [Ob.sz, hw] at hj
        simp only [Nat.zero_mul, Nat.zero_add, List.getElem?_toArray, List.getD_eq_getElem?_getD]
        simp [List.getElem?_eq_getElem hj])
      (fun i j c hc => by
        obtain ⟨rfl, q, hq, rfl⟩ := hcellE i j c hc
        have hj : j < vs.length := by rw [← hlen]; exact get_lt hq
        have hlj := hl j _ q (List.getElem?_eq_getElem hj) hq
        refine ⟨?_, ?_⟩
        · simp only [List.getD_eq_getElem?_getD, List.getElem?_eq_getElem hj, Option.getD_some]
          have := lend_cell (E := E) (So := So) (Pd := Pd) (S := fun _ => False) (k := 0) (i := 0) (j := 0) (i' := 0) (j' := j) (hs := []) (Nat.le_refl _) (Nat.zero_le _) rfl (by simpa using hq) rfl hlj
          simpa only [List.append_nil] using this
        · simp only [cv]
          split
          · rfl
          · split
            · rfl
            · split
              · rename_i o2 hh
                split
                · rfl
                · simp only [CV.refs, beq_eq_false_iff_ne, ne_eq]
                  rintro rfl
                  exact lends_at hself hh
              · rfl
              · rfl)
      (fun i j y hy => hy.elim) (fun i j i' j' y hy => hy.elim)
    refine ⟨_, So', Pd', hR.set hn ?_⟩
    simp only [RegOK]
    exact ⟨_, w.heap.size, 0, 1, new_self _ _ _, by simp, by simp [Ob.len], by simp⟩
theorem ok_stl (h : RepW N E loc So Pd σ a w) {sz : Nat} {p v : O} (hq : okN P N o (.stl sz p v) = true) (hs : kstep X (.stl sz p v) σ = some σ') : Outc P o a w (Rep N E σ') := by
  simp only [okN, Bool.and_eq_true, beq_iff_eq] at hq
  obtain ⟨hd, hq⟩ := hq
  split at hq
  case h_2 => cases hq
  rename_i t q r hop
  simp only [Bool.and_eq_true] at hq
  obtain ⟨⟨h1, h2⟩, h3⟩ := hq
  have hp := h.op h1
  have hx := h.op h2
  simp only [kstep] at hs
  split at hs
  case h_2 => cases hs
  rename_i o' i j ep
  obtain ⟨ob0, hob0, hs2⟩ := Option.bind_eq_some_iff.1 hs
  clear hs
  rw [ep] at hp
  simp only [RegOK] at hp
  obtain ⟨ob', b, base, cap, hob', hloc, hi, hv⟩ := hp
  rw [hob0] at hob'
  obtain rfl := Option.some.inj hob'
  cases ob0 with
  | fn u => simp at hs2
  | ls ty fz l k hs1 =>
    simp only at hs2
    obtain ⟨qs, hqs, hs3⟩ := Option.bind_eq_some_iff.1 hs2
    obtain ⟨x, hxl, hs4⟩ := Option.bind_eq_some_iff.1 hs3
    clear hs2 hs3
    by_cases hle : fz = false ∧ k ≤ i ∧ qs.length = sz ∧ j + sz ≤ ty.w
    case neg => rw [if_neg hle] at hs4; cases hs4
    rw [if_pos hle] at hs4
    obtain ⟨y, hy, rfl⟩ := Option.map_eq_some_iff.1 hs4
    obtain ⟨rfl, hki, hql, hjs⟩ := hle
    obtain ⟨vs, hvs, hlen, hl, hone⟩ := lends_ok hx hqs
    obtain ⟨hb, us, Sf, hrow, hsub, hdis, hcl⟩ := (h.objs o' _ hob0).some' b base cap hloc
    obtain ⟨arr, T, fr, g1, g2, g3, g4, g5⟩ := hrow
    simp only [Ob.sz, Ob.len] at g3 g4 hi
    have hvl : vs.length = sz := by omega
    have hmul : i * ty.w + ty.w ≤ cap * ty.w := by rw [← Nat.succ_mul]; exact Nat.mul_le_mul_right _ (by omega)
    obtain ⟨w', arr', r1, r2, r3, r4, r5, r6, r7, r8, r9⟩ := run_storeCells_own (P := P) b (base + i * ty.w + j) T fr vs 0 arr w g1 g2 (by omega) hone
    have hrun : (execOp a.eval o).run P w = .ok .skip w' := by
      simp only [Ob.sz] at hv
      simp [execOp, hop, hv, Instr.storeAt, Instr.sureAddr, storeVar, hvs, szB_ok h3, hvl, r1]
    refine .skip w' hrun ?_
    rw [hd]
    have hcy := cells_mkT _ _ _ hy
    have hdl : (qs.map Prod.fst).length = sz := by simp [hql]
    obtain ⟨So', Pd', hfin⟩ := turn_row h (o := o') (ob := .ls ty false l k hs1) (ob' := .ls ty false (l.set i y) k (lendH i j qs ++ fillH i j sz hs1)) hob0 rfl (by simp [Ob.len]) hloc (i := i) (j := j) (sz := sz) (by simp only [Ob.len]; omega) hjs hvl (Sf1 := fun _ _ => False) (Pd0 := Pd) (fun x hx => hx) (fun q x hx => hx.elim) (fun q q' x hx => hx.elim) g1 r2 r3 r4 r5 r6 r7 r8 r9
      (fun i' j' c hcc => by
        simp only [Ob.cell] at hcc ⊢
        obtain ⟨x', hx', hcc⟩ := Option.bind_eq_some_iff.1 hcc
        obtain ⟨d, hd', rfl⟩ := Option.map_eq_some_iff.1 hcc
        rw [List.getElem?_set] at hx'
        by_cases e : i = i'
        · subst e
          rw [if_pos rfl, if_pos (by omega)] at hx'
          obtain rfl := Option.some.inj hx'
          rw [hcy] at hd'
          rcases take_set_get hdl (by rw [cellsT_len]; exact hjs) hd' with ⟨p1, p2, p3⟩ | ⟨p1, p2⟩
          · left
            rw [List.getElem?_map] at p3
            obtain ⟨q, hq, rfl⟩ := Option.map_eq_some_iff.1 p3
            have hjl : j' - j < vs.length := by rw [← hlen]; exact get_lt hq
            refine ⟨rfl, p1, p2, _, List.getElem?_eq_getElem hjl, ?_⟩
            exact lend_cell hki p1 rfl hq (by rw [holeAt_fillH, if_pos ⟨rfl, p1, p2⟩]) (hl _ _ q (List.getElem?_eq_getElem hjl) hq)
          · right
            refine ⟨fun q => p1 q.2, ?_⟩
            rw [hxl]
            simp only [Option.bind_some, p2, Option.map_some]
            have : holeAt (lendH i j qs ++ fillH i j sz hs1) i j' = holeAt hs1 i j' := by
              have hfill : holeAt (fillH i j sz hs1) i j' = holeAt hs1 i j' := by rw [holeAt_fillH, if_neg (fun q => p1 q.2)]
              rw [holeAt_lendH, hfill]
              by_cases hc : i = i ∧ j ≤ j'
              · have : qs[j' - j]? = none := List.getElem?_eq_none (by omega)
                rw [if_pos hc, this]
              · rw [if_neg hc]
            simp only [cv, this]
        · rw [if_neg e] at hx'
          right
          refine ⟨fun q => e q.1.symm, ?_⟩
          rw [hx']
          simp only [Option.bind_some, hd', Option.map_some]
          have : holeAt (lendH i j qs ++ fillH i j sz hs1) i' j' = holeAt hs1 i' j' := by
            rw [holeAt_lendH, holeAt_fillH, if_neg (fun q => e q.1.symm), if_neg (fun q => e q.1.symm)]
          simp only [cv, this])
    exact ⟨_, So', Pd', hfin⟩

/-! ### Words alone -/
theorem cv_whole {k i j : Nat} {hs : List (Nat × Nat × Option Nat)} {d d' : D} (h : (match cv false k hs i j d with | .d x => some x | .own x => some x | _ => none) = some d') :
    d' = d ∧ ∀ fz, cv fz k hs i j d = .d d ∨ cv fz k hs i j d = .own d := by
  simp only [cv] at h ⊢
  by_cases hsc : d.scalar = true
  · simp only [if_pos hsc] at h ⊢
    exact ⟨(Option.some.inj h).symm, fun _ => .inl trivial⟩
  · simp only [if_neg hsc] at h ⊢
    by_cases hk : i < k
    · simp only [if_pos hk] at h; cases h
    · simp only [if_neg hk] at h ⊢
      cases hh : holeAt hs i j with
      | none =>
        simp only [hh, Bool.false_eq_true, if_false] at h ⊢
        exact ⟨(Option.some.inj h).symm, fun fz => by cases fz <;> simp⟩
      | some y =>
        cases y with
        | none => simp [hh] at h
        | some o =>
          simp only [hh] at h ⊢
          by_cases e : o = 63
          · rw [if_pos e] at h ⊢
            exact ⟨(Option.some.inj h).symm, fun _ => .inl rfl⟩
          · rw [if_neg e] at h; cases h
theorem ok_frz (h : RepW N E loc So Pd σ a w) {t : Nat} (hs : kstep X (.frz t) σ = some σ') : Rep N E σ' a w := by
  simp only [kstep] at hs
  have hr := h.reg t
  split at hs
  · rename_i o off n e
    rw [e] at hr
    simp only [RegOK] at hr
    obtain ⟨q, hq, rfl⟩ := Option.map_eq_some_iff.1 hs
    obtain ⟨ty, f, l, k, hob, hk, rfl⟩ := rowsOf_some hq
    obtain ⟨ob, hob', hle, hv⟩ := hr
    rw [hob] at hob'
    obtain rfl := Option.some.inj hob'
    have hrd := read_ok (h.objs o _ hob) hk hle hv
    refine ⟨_, _, _, (h.freeze o).known ?_⟩
    simp only [RegOK]
    refine hrd.mono (fun b hb => ?_) (fun _ _ => rfl)
    rcases hb with hb | hb
    · exact ⟨hb.1, hb.2.1, fun o' hq => hb.2.2.1 o' hq.2, hb.2.2.2⟩
    · obtain ⟨q1, q2, q3, q4⟩ := h.has o b hb
      exact ⟨.inr q2, q3, fun o' hq => hq.1 (h.dis o' o b hq.2 hb), q4⟩
  · rename_i ty e
    rw [e] at hr
    simp only [RegOK] at hr
    obtain rfl := Option.some.inj hs
    refine ⟨_, _, _, h.known ?_⟩
    simp only [RegOK]
    simp only [Act.eval] at hr
    rw [hr]
    exact .nil _ _ _
  · rename_i o i j e
    rw [e] at hr
    simp only [RegOK] at hr
    obtain ⟨ob', b, base, cap, h4, h5, h6, h7⟩ := hr
    obtain ⟨ob, hob, hs2⟩ := Option.bind_eq_some_iff.1 hs
    rw [hob] at h4
    obtain rfl := Option.some.inj h4
    cases ob with
    | fn u =>
      simp only at hs2
      obtain rfl := Option.some.inj hs2
      exact ⟨_, _, _, h⟩
    | ls ty fz l k hs' =>
      simp only at hs2
      obtain ⟨x, hx, hs3⟩ := Option.bind_eq_some_iff.1 hs2
      obtain ⟨cs, hcs, rfl⟩ := Option.map_eq_some_iff.1 hs3
      obtain ⟨hb, vs, Sf, hrow, hsub, hdis, hcl⟩ := (h.objs o _ hob).some' b base cap h5
      simp only [Ob.sz, Ob.len] at h6 h7
      refine ⟨_, _, _, (h.freeze o).known ?_⟩
      simp only [RegOK]
      refine ⟨b, base + i * ty.w + j, h7, fun o' e => by simp at e, fun _ => ?_, fun q => vs i (j + q), fun q d hq => ?_⟩
      · simp only [okAt]
        obtain ⟨q1, q2, q3, q4⟩ := h.has o b hb
        exact ⟨.inr q2, q3, fun o' hq => hq.1 (h.dis o' o b hq.2 hb), q4⟩
      · unfold rowD at hcs
        obtain ⟨c, h1, h2⟩ := allOf_get hcs hq
        rw [cvs_get] at h1
        obtain ⟨d', h3, rfl⟩ := Option.map_eq_some_iff.1 h1
        rw [List.getElem?_drop] at h3
        have hcell := hcl i (j + q) _ (ob_cell hx h3)
        have hmem := hrow.cell (i := i) (j := j + q) h6 (cells_lt h3)
        simp only [Ob.sz] at hmem
        refine ⟨by rw [Nat.add_assoc (base + i * ty.w) j q]; exact hmem, ?_⟩
        simp only [okAt]
        obtain ⟨rfl, hcv⟩ := cv_whole h2
        rcases hcv fz with e | e <;> rw [e] at hcell
        · refine Rd.mono (fun b hb => ?_) (fun _ _ => rfl) hcell
          exact ⟨hb.1, hb.2.1, fun o' hq => hb.2.2.1 o' hq.2, hb.2.2.2⟩
        · refine (Own.rd hcell).mono (fun b hb => ?_) (fun _ _ => rfl)
          obtain ⟨q1, q2, q3, q4⟩ := h.has o b (hsub _ _ b hb).1
          exact ⟨.inr q2, q3, fun o' hq => hq.1 (h.dis o' o b hq.2 (hsub _ _ b hb).1), q4⟩
  · obtain rfl := Option.some.inj hs
    exact ⟨_, _, _, h⟩
theorem ok_opn (h : RepW N E loc So Pd σ a w) {t o : Nat} {fz : Bool} (hs : kstep X (.opn t o fz) σ = some σ') : Rep N E σ' a w := by
  simp only [kstep] at hs
  have hr := h.reg t
  split at hs
  · rename_i ty e
    rw [e] at hr
    simp only [RegOK] at hr
    obtain rfl := Option.some.inj hs
    obtain ⟨loc', So', Pd', hR, hl⟩ := h.bare (nid o) (by simp [nid]) (.ls ty fz [] 0 []) rfl
    refine ⟨_, _, _, hR.known ?_⟩
    simp only [RegOK]
    refine ⟨_, new_self _ _ _, by simp [Ob.len], ?_⟩
    rw [hl]
    exact ⟨rfl, rfl, none, hr⟩
  · cases hs
/-! ### Other names -/
theorem klook_kdel {α : Type} : ∀ (l : List (Nat × α)) (o k : Nat), klook (kdel l o) k = if k = o then none else klook l k
  | [], _, _ => by simp [kdel, klook]
  | (a, v) :: l, o, k => by
    simp only [kdel]
    by_cases h : o = a
    · subst h
      rw [if_pos rfl, klook_kdel l o k]
      by_cases h2 : k = o
      · rw [if_pos h2, if_pos h2]
      · rw [if_neg h2, if_neg h2]; simp only [klook, if_neg h2]
    · rw [if_neg h]
      simp only [klook]
      by_cases h2 : k = a
      · rw [if_pos h2, if_pos h2, if_neg (fun e => h (e.symm.trans h2))]
      · rw [if_neg h2, if_neg h2]; exact klook_kdel l o k
theorem holeAt_ren (o o' : Nat) : ∀ (hs : List (Nat × Nat × Option Nat)) (i j : Nat), holeAt (renH o o' hs) i j = (holeAt hs i j).map (fun x => x.map (rn o o'))
  | [], _, _ => rfl
  | (a, b, x) :: r, i, j => by
    simp only [renH, holeAt]
    split
    · rfl
    · exact holeAt_ren o o' r i j
def CV.ren (o o' : Nat) : CV → CV
  | .lent x => .lent (rn o o' x)
  | .fn v => .fn (v.ren o o')
  | c => c
theorem cv_ren (o o' : Nat) (ho : 64 ≤ o) (ho' : 64 ≤ o') (fz : Bool) (k : Nat) (hs : List (Nat × Nat × Option Nat)) (i j : Nat) (d : D) : cv fz k (renH o o' hs) i j d = (cv fz k hs i j d).ren o o' := by
  simp only [cv, holeAt_ren]
  by_cases h : d.scalar = true
  · rw [if_pos h, if_pos h]; rfl
  · rw [if_neg h, if_neg h]
    by_cases h2 : i < k
    · rw [if_pos h2, if_pos h2]; rfl
    · rw [if_neg h2, if_neg h2]
      cases h3 : holeAt hs i j with
      | none => cases fz <;> rfl
      | some x =>
        cases x with
        | none => rfl
        | some y =>
          simp only [Option.map_some]
          by_cases e : y = o
          · subst e
            rw [if_neg (show ¬ rn y o' y = 63 by simp only [rn, if_true]; omega), if_neg (show ¬ y = 63 by omega)]; rfl
          · rw [show rn o o' y = y by simp only [rn, if_neg e]]
            by_cases e2 : y = 63
            · rw [if_pos e2]; rfl
            · rw [if_neg e2]; simp only [CV.ren, rn, if_neg e]
theorem cell_ren (o o' : Nat) (ho : 64 ≤ o) (ho' : 64 ≤ o') (ob : Ob) (i j : Nat) : (ob.ren o o').cell i j = (ob.cell i j).map (CV.ren o o') := by
  cases ob with
  | ls t fz l k hs =>
    simp only [Ob.ren, Ob.cell]
    cases l[i]? with
    | none => rfl
    | some x =>
      simp only [Option.bind_some]
      cases (cellsT t x)[j]? with
      | none => rfl
      | some d => simp only [Option.map_some, cv_ren o o' ho ho']
  | fn v =>
    simp only [Ob.ren, Ob.cell]
    split <;> rfl
theorem ren_sz (o o' : Nat) (ob : Ob) : (ob.ren o o').sz = ob.sz := by cases ob <;> rfl
theorem ren_len (o o' : Nat) (ob : Ob) : (ob.ren o o').len = ob.len := by cases ob <;> rfl
mutual
theorem blind_ren (o o' : Nat) : ∀ v : AV, (v.ren o o').blind = v.blind
  | .d _ => rfl
  | .nil _ => rfl
  | .vw _ _ => rfl
  | .h _ _ _ => rfl
  | .p _ _ _ => rfl
  | .rp (some _) _ => rfl
  | .rp none _ => rfl
  | .rf v => by simp only [AV.ren, AV.blind, blind_ren o o' v]
  | .agg l => by simp only [AV.ren, AV.blind, blind_renL o o' l]
  | .tup l => by simp only [AV.ren, AV.blind, blind_renL o o' l]
  | .clo _ l => by simp only [AV.ren, AV.blind, blind_renL o o' l]
  | .junk => rfl
theorem blind_renL (o o' : Nat) : ∀ l : List AV, AV.blindL (AV.renL o o' l) = AV.blindL l
  | [] => rfl
  | v :: l => by simp only [AV.renL, AV.blindL, blind_ren o o' v, blind_renL o o' l]
end
/-- The names turn. -/
structure Turns (o o' : Nat) (objs objs' : List (Nat × Ob)) (loc loc' : Nat → Option (Nat × Nat × Nat)) (So So' : Nat → Nat → Prop) : Prop where
  ob : ∀ x ob, klook objs x = some ob → klook objs' (rn o o' x) = some (ob.ren o o') ∧ loc' (rn o o' x) = loc x ∧ ∀ b, So x b → So' (rn o o' x) b
mutual
theorem reg_ren {fz : Nat → Prop} {loc loc' : Nat → Option (Nat × Nat × Nat)} {So So' : Nat → Nat → Prop} {objs objs' : List (Nat × Ob)} {o o' : Nat} (T : Turns o o' objs objs' loc loc' So So') : ∀ (v : Value) (av : AV), RegOK w fz loc So objs v av → RegOK w fz loc' So' objs' v (av.ren o o')
  | v, .d x, h => by simp only [AV.ren, RegOK] at h ⊢; exact h
  | v, .nil _, h => by simp only [AV.ren, RegOK] at h ⊢; exact h
  | v, .vw x d, h => by
    simp only [AV.ren, RegOK] at h ⊢
    obtain ⟨ob, hob⟩ := Option.isSome_iff_exists.1 h.1
    obtain ⟨t1, t2, t3⟩ := T.ob x ob hob
    exact ⟨by rw [t1]; rfl, h.2.mono t3 (fun _ _ => rfl)⟩
  | v, .h x off n, h => by
    simp only [AV.ren, RegOK] at h ⊢
    obtain ⟨ob, hob, h1, h2⟩ := h
    obtain ⟨t1, t2, t3⟩ := T.ob x ob hob
    exact ⟨_, t1, by rw [ren_len]; exact h1, by rw [t2, ren_sz]; exact h2⟩
  | v, .p x i j, h => by
    simp only [AV.ren, RegOK] at h ⊢
    obtain ⟨ob, b, base, cap, hob, h1, h2, h3⟩ := h
    obtain ⟨t1, t2, t3⟩ := T.ob x ob hob
    exact ⟨_, b, base, cap, t1, by rw [t2]; exact h1, by rw [ren_len]; exact h2, by rw [ren_sz]; exact h3⟩
  | v, .rp none cs, h => by
    simp only [AV.ren, RegOK, okAt] at h ⊢
    obtain ⟨b, off, h1, h2, h3, vs, h4⟩ := h
    exact ⟨b, off, h1, fun o' e => by simp at e, h3, vs, h4⟩
  | v, .rp (some x) cs, h => by
    simp only [AV.ren, RegOK, okAt] at h ⊢
    obtain ⟨b, off, h1, h2, h3, vs, h4⟩ := h
    obtain ⟨ob, hob⟩ := Option.isSome_iff_exists.1 (h2 x rfl)
    obtain ⟨t1, t2, t3⟩ := T.ob x ob hob
    exact ⟨b, off, h1, fun o2 e => by obtain rfl := Option.some.inj e; rw [t1]; rfl, fun hne => t3 b (h3 hne), vs, fun j d hj => ⟨(h4 j d hj).1, (h4 j d hj).2.mono t3 (fun _ _ => rfl)⟩⟩
  | v, .rf a, h => by
    simp only [AV.ren, RegOK] at h ⊢
    obtain ⟨b, off, u, h1, h2, h3, h4, h5⟩ := h
    exact ⟨b, off, u, h1, h2, h3, by rw [blind_ren]; exact h4, reg_ren T u a h5⟩
  | v, .agg l, h => by
    simp only [AV.ren, RegOK] at h ⊢
    obtain ⟨vs, h1, h2⟩ := h
    exact ⟨vs, h1, regs_ren T vs l h2⟩
  | v, .tup l, h => by
    simp only [AV.ren, RegOK] at h ⊢
    obtain ⟨vs, h1, h2⟩ := h
    exact ⟨vs, h1, regs_ren T vs l h2⟩
  | v, .clo f l, h => by
    simp only [AV.ren, RegOK] at h ⊢
    obtain ⟨vs, h1, h2⟩ := h
    exact ⟨vs, h1, regs_ren T vs l h2⟩
  | v, .junk, h => by simp only [AV.ren, RegOK]
theorem regs_ren {fz : Nat → Prop} {loc loc' : Nat → Option (Nat × Nat × Nat)} {So So' : Nat → Nat → Prop} {objs objs' : List (Nat × Ob)} {o o' : Nat} (T : Turns o o' objs objs' loc loc' So So') : ∀ (vs : List Value) (l : List AV), RegsOK w fz loc So objs vs l → RegsOK w fz loc' So' objs' vs (AV.renL o o' l)
  | [], [], _ => by simp only [AV.renL, RegsOK]
  | [], _ :: _, h => by simp only [RegsOK] at h
  | _ :: _, [], h => by simp only [RegsOK] at h
  | v :: vs, a :: l, h => by
    simp only [AV.renL, RegsOK] at h ⊢
    exact ⟨reg_ren T v a h.1, regs_ren T vs l h.2⟩
end
theorem cell_ren_ok {fz : Nat → Prop} {loc loc' : Nat → Option (Nat × Nat × Nat)} {So So' : Nat → Nat → Prop} {objs objs' : List (Nat × Ob)} {o o' : Nat} (T : Turns o o' objs objs' loc loc' So So') {v : Value} {c : CV} {S : Nat → Prop} (h : CellOK w fz loc So objs v c S) : CellOK w fz loc' So' objs' v (c.ren o o') S := by
  cases c with
  | lent x =>
    obtain ⟨ob, hob, h1⟩ := h
    obtain ⟨t1, t2, t3⟩ := T.ob x ob hob
    exact ⟨_, t1, by rw [t2, ren_sz, ren_len]; exact h1⟩
  | fn u =>
    obtain ⟨h1, h2, h3⟩ := h
    exact ⟨by rw [blind_ren]; exact h1, h2, reg_ren T v u h3⟩
  | d x => exact h
  | own x => exact h
  | pb t f x => exact h.elim
  | junk => trivial
theorem RepW.rename (h : RepW N E loc So Pd σ a w) {o o' : Nat} {ob : Ob} (hne : o ≠ o') (ho : 64 ≤ o) (ho' : 64 ≤ o') (hob : klook σ.objs o = some ob) (hno : klook σ.objs o' = none) :
    RepW N E (fun x => if x = o' then loc o else loc x) (fun x b => if x = o' then So o b else x ≠ o ∧ So x b) Pd (σ.rename o o' ob) a w := by
  have hno2 : ∀ b, ¬ So o' b := fun b hb => by have := (h.has o' b hb).1; rw [hno] at this; cases this
  have hlook : ∀ x, klook (σ.rename o o' ob).objs x = if x = o' then some (ob.ren o o') else if x = o then none else (klook σ.objs x).map (Ob.ren o o') := fun x => by
    simp only [St.rename]
    by_cases e : x = o'
    · subst e; rw [klook_kput_same, if_pos rfl]
    · rw [klook_kput_ne _ _ e, if_neg e, klook_kdel, klook_map]
  have T : Turns o o' σ.objs (σ.rename o o' ob).objs loc (fun x => if x = o' then loc o else loc x) So (fun x b => if x = o' then So o b else x ≠ o ∧ So x b) := ⟨fun x ob2 h2 => by
    by_cases e : x = o
    · subst e
      rw [hob] at h2
      obtain rfl := Option.some.inj h2
      refine ⟨?_, ?_, fun b hb => ?_⟩
      · rw [hlook]; simp only [rn, if_true]
      · simp only [rn, if_true]
      · simp only [rn, if_true]; exact hb
    · have e' : x ≠ o' := fun q => by subst q; rw [hno] at h2; cases h2
      refine ⟨?_, ?_, fun b hb => ?_⟩
      · rw [hlook]; simp only [rn, if_neg e, if_neg e', h2, Option.map_some]
      · simp only [rn, if_neg e, if_neg e']
      · simp only [rn, if_neg e, if_neg e']; exact ⟨e, hb⟩⟩
  have hfz : ∀ x, Fz E So Pd w x → Fz E (fun x b => if x = o' then So o b else x ≠ o ∧ So x b) Pd w x := fun x hx => ⟨hx.1, hx.2.1, fun o2 q => by
    dsimp only at q
    split at q
    · exact hx.2.2.1 o q
    · exact hx.2.2.1 o2 q.2, hx.2.2.2⟩
  have hback : ∀ o2 x, (if o2 = o' then So o x else o2 ≠ o ∧ So o2 x) → ∃ o3, So o3 x ∧ o2 = rn o o' o3 := fun o2 x q => by
    split at q
    · rename_i e; exact ⟨o, q, by simp [rn, e]⟩
    · exact ⟨o2, q.2, by simp [rn, q.1]⟩
  refine ⟨h.size, h.defers, h.keep, h.ok, h.lt, fun o2 x hx => ?_, fun o2 o3 x hx hx' => ?_, h.pdlt, fun o2 ob2 h2 => ?_, fun t v hk => ?_, fun k2 ob2 hk2 h2 => ?_⟩
  · obtain ⟨o3, q1, q2⟩ := hback o2 x hx
    obtain ⟨p1, p2⟩ := h.has o3 x q1
    obtain ⟨ob3, h3⟩ := Option.isSome_iff_exists.1 p1
    rw [q2, (T.ob o3 ob3 h3).1]
    exact ⟨rfl, p2⟩
  · obtain ⟨o4, q1, q2⟩ := hback o2 x hx
    obtain ⟨o5, q3, q4⟩ := hback o3 x hx'
    rw [q2, q4, h.dis o4 o5 x q1 q3]
  · rw [hlook] at h2
    have go : ∀ (o3 : Nat) (ob3 : Ob), klook σ.objs o3 = some ob3 → ob3.ren o o' = ob2 → rn o o' o3 = o2 → ObjOK w (Fz E (fun x b => if x = o' then So o b else x ≠ o ∧ So x b) Pd w) (fun x => if x = o' then loc o else loc x) (fun x b => if x = o' then So o b else x ≠ o ∧ So x b) (σ.rename o o' ob).objs ((fun x => if x = o' then loc o else loc x) o2) ob2 ((fun x b => if x = o' then So o b else x ≠ o ∧ So x b) o2) := fun o3 ob3 h3 e1 e2 => by
      subst e1 e2
      obtain ⟨t1, t2, t3⟩ := T.ob o3 ob3 h3
      have hO := h.objs o3 ob3 h3
      have t2' : (fun x => if x = o' then loc o else loc x) (rn o o' o3) = loc o3 := t2
      rw [t2']
      refine ⟨fun e => by rw [ren_len]; exact hO.none' e, fun b off cap e => ?_⟩
      obtain ⟨hb, vs, Sf, hrow, hsub, hdis, hcl⟩ := hO.some' b off cap e
      refine ⟨t3 b hb, vs, Sf, by rw [ren_sz, ren_len]; exact hrow, fun i j x hx => ⟨t3 x (hsub i j x hx).1, (hsub i j x hx).2⟩, hdis, fun i j c hc => ?_⟩
      rw [cell_ren o o' ho ho'] at hc
      obtain ⟨c0, hc0, rfl⟩ := Option.map_eq_some_iff.1 hc
      exact (cell_ren_ok T (hcl i j c0 hc0)).mono (fun b hb => ⟨hfz b hb, rfl⟩) (fun b hb => ⟨hb, rfl⟩) (fun o2 _ => KeepR.refl _ _ o2)
    split at h2
    · rename_i e
      exact go o ob hob (Option.some.inj h2) (by simp [rn, e])
    · split at h2
      · cases h2
      · rename_i e1 e2
        obtain ⟨ob3, h3, e3⟩ := Option.map_eq_some_iff.1 h2
        exact go o2 ob3 h3 e3 (by simp [rn, e2])
  · simp only [St.rename, klook_map] at hk
    obtain ⟨v0, h0, rfl⟩ := Option.map_eq_some_iff.1 hk
    have := reg_ren T _ v0 (h.regs t v0 h0)
    exact RegOK.mono (fun b hb => ⟨hfz b hb, rfl⟩) _ _ this (fun o2 _ => KeepR.refl _ _ o2) (fun o2 _ b hb => ⟨hb, rfl⟩)
  · rw [hlook, if_neg (by omega), if_neg (by omega)] at h2
    obtain ⟨ob3, h3, rfl⟩ := Option.map_eq_some_iff.1 h2
    have := h.pin k2 ob3 hk2 h3
    rw [if_neg (by omega), ren_sz, ren_len]
    exact this
theorem ok_ren (h : RepW N E loc So Pd σ a w) {o o' : Nat} (hs : kstep X (.ren o o') σ = some σ') : Rep N E σ' a w := by
  simp only [kstep] at hs
  split at hs
  · rename_i hc
    obtain rfl := Option.some.inj hs
    unfold St.renamed
    split
    · exact ⟨_, _, _, h⟩
    · have hg := h.gone o'
      split
      · rename_i ob hob
        refine ⟨_, _, _, hg.rename hc.1 hc.2.1 hc.2.2 hob ?_⟩
        cases hk : klook (σ.gone o').objs o' with
        | none => rfl
        | some ob' => exact absurd rfl (gone_objs σ hk).1
      · exact ⟨_, _, _, hg⟩
  · obtain rfl := Option.some.inj hs
    exact ⟨_, _, _, h⟩
theorem cells_scalar : ∀ (t : T) (x y : t.den), (cellsT t x).map D.scalar = (cellsT t y).map D.scalar
  | .int _, _, _ => rfl
  | .u8, _, _ => rfl
  | .bool, _, _ => rfl
  | .str, _, _ => rfl
  | .sl _, _, _ => rfl
  | .pr a b, x, y => by simp only [cellsT, List.map_append, cells_scalar a x.1 y.1, cells_scalar b x.2 y.2]
  | .node, .mk _ _ _ _, .mk _ _ _ _ => rfl
theorem ok_cls (h : RepW N E loc So Pd σ a w) {o o2 : Nat} (hs : kstep X (.cls o o2) σ = some σ') : Rep N E σ' a w := by
  simp only [kstep] at hs
  obtain ⟨ob, hob, hs2⟩ := Option.bind_eq_some_iff.1 hs
  clear hs
  cases ob with
  | fn v => simp at hs2
  | ls t fz l k hs' =>
    simp only at hs2
    obtain ⟨⟨i, j⟩, _, hs4⟩ := Option.bind_eq_some_iff.1 hs2
    clear hs2
    simp only at hs4
    split at hs4
    case isFalse => cases hs4
    rename_i hhole
    obtain ⟨hhole, h63⟩ := hhole
    have hs2 := hs4
    clear hs4
    obtain ⟨ob2, hob2, hs3⟩ := Option.bind_eq_some_iff.1 hs2
    clear hs2
    cases ob2 with
    | fn v => simp at hs3
    | ls t2 fz2 l2 k2 hs2 =>
      simp only at hs3
      by_cases hc : k2 = 0 ∧ hs2.isEmpty = true ∧ fz = false ∧ (fz2 = false ∨ t2.flat = true) ∧ o ≠ o2 ∧ k ≤ i
      case neg => rw [if_neg hc] at hs3; cases hs3
      rw [if_pos hc] at hs3
      obtain ⟨rfl, hh, rfl, hf, hne, hki⟩ := hc
      have hh : hs2 = [] := by simpa using hh
      subst hh
      obtain ⟨x, hx, hs4⟩ := Option.bind_eq_some_iff.1 hs3
      obtain ⟨y, hy, rfl⟩ := Option.map_eq_some_iff.1 hs4
      clear hs3 hs4
      have hcy := cells_mkT _ _ _ hy
      have hg := h.gone o2
      have hobg := gone_objs' σ hne hob
      simp only [Ob.unref] at hobg
      cases hloc : loc o with
      | none =>
        have := (h.objs o _ hob).none' hloc
        simp only [Ob.len] at this
        have := get_lt hx
        omega
      | some q3 =>
        obtain ⟨b, base, cap⟩ := q3
        have hO := h.objs o _ hob
        obtain ⟨hb, vs, Sf, hrow, hsub, hdis, hcl⟩ := hO.some' b base cap hloc
        have hilt := get_lt hx
        -- the cell is a slice's
        have hjw : j + 1 ≤ t.w := by
          have := cellsT_len t y
          rw [hcy] at this
          simp only [List.length_append, List.length_take, List.length_drop, cellsT_len, List.length_cons, List.length_nil] at this
          omega
        have hcyl : (cellsT t y)[j]? = some (.sl t2 l2) := by
          rw [hcy, List.append_assoc, List.getElem?_append_right (by simp; omega)]
          simp [Nat.min_eq_left (show j ≤ (cellsT t x).length by rw [cellsT_len]; omega)]
        obtain ⟨dd, hdd⟩ : ∃ dd, (cellsT t x)[j]? = some dd := ⟨_, List.getElem?_eq_getElem (show j < (cellsT t x).length by rw [cellsT_len]; omega)⟩
        have hsc : dd.scalar = false := by
          have e := cells_scalar t x y
          have e1 : ((cellsT t x).map D.scalar)[j]? = some dd.scalar := by rw [List.getElem?_map, hdd]; rfl
          rw [e, List.getElem?_map, hcyl] at e1
          simpa [D.scalar] using e1.symm
        have hlent : cv false k hs' i j dd = .lent o2 := by
          simp only [cv, hsc, Bool.false_eq_true, if_false, hhole]
          rw [if_neg (by omega), if_neg h63]
        have hcell := hcl i j _ (ob_cell hx hdd)
        rw [hlent] at hcell
        obtain ⟨ob3, h3, hv3⟩ := hcell
        rw [hob2] at h3
        obtain rfl := Option.some.inj h3
        simp only [Ob.sz, Ob.len] at hv3
        have hown : Own w (vs i j) (.sl t2 l2) (So o2) := by
          have := fold_ok (h.objs o2 _ hob2) (Nat.le_refl 0) (by simp) hv3 hf
          simpa using this
        have hmem := hrow.cell (i := i) (j := j) hilt (show j < t.w by omega)
        simp only [Ob.sz] at hmem
        obtain ⟨gb, us, Sg, grow, gsub, gdis, gcl⟩ := (hg.objs o _ hobg).some' b base cap hloc
        have hveq : us i j = vs i j := by
          have := grow.cell (i := i) (j := j) hilt (show j < t.w by omega)
          simp only [Ob.sz] at this
          rw [hmem] at this
          exact (Option.some.inj this).symm
        have hhh : ∀ i' j', ¬ (i' = i ∧ j' = j) → ∀ d, cv false k (unlent o2 (fillH i j 1 hs')) i' j' d = cv false k (unlent o2 hs') i' j' d := fun i' j' hn d => by
          simp only [cv, holeAt_unlent, holeAt_fillH]
          rw [if_neg (show ¬ (i' = i ∧ j ≤ j' ∧ j' < j + 1) from fun q => hn ⟨q.1, by omega⟩)]
        have hR := hg.turn (ob := .ls t false (l.set i y) k (unlent o2 (fillH i j 1 hs'))) hobg hloc rfl (by simp [Ob.len]) us (fun i' j' x => if i' = i ∧ j' = j then So o2 x else Sg i' j' x) (fun _ _ _ => rfl) (Nat.le_refl _) (hg.has o b gb).2.2.1 rfl rfl rfl gb (by simpa [Ob.len, Ob.sz] using grow)
          (fun i' j' c hcc => by
            simp only [Ob.cell] at hcc
            obtain ⟨x', hx', hcc⟩ := Option.bind_eq_some_iff.1 hcc
            obtain ⟨d', hd', rfl⟩ := Option.map_eq_some_iff.1 hcc
            rw [List.getElem?_set] at hx'
            by_cases e : i = i'
            · subst e
              rw [if_pos rfl, if_pos hilt] at hx'
              obtain rfl := Option.some.inj hx'
              rw [hcy] at hd'
              rcases take_set_get (n := 1) rfl (by rw [cellsT_len]; exact hjw) hd' with ⟨p1, p2, p3⟩ | ⟨p1, p2⟩
              · have hj : j' = j := by omega
                subst hj
                simp only [Nat.sub_self, List.getElem?_cons_zero, Option.some.injEq] at p3
                subst p3
                have : cv false k (unlent o2 (fillH i j' 1 hs')) i j' (.sl t2 l2) = .own (.sl t2 l2) := by
                  simp only [cv, holeAt_unlent, holeAt_fillH, D.scalar, Bool.false_eq_true, if_false]
                  rw [if_neg (by omega), if_pos ⟨trivial, Nat.le_refl _, by omega⟩]
                  rfl
                rw [this]
                simp only [and_self, if_true, hveq]
                exact hown
              · have hn : ¬ (i = i ∧ j' = j) := fun q => p1 (by omega)
                rw [hhh i j' hn]
                rw [show (fun x => if i = i ∧ j' = j then So o2 x else Sg i j' x) = Sg i j' from funext fun x => if_neg hn]
                exact gcl i j' _ (ob_cell hx p2)
            · rw [if_neg e] at hx'
              have hn : ¬ (i' = i ∧ j' = j) := fun q => e q.1.symm
              rw [hhh i' j' hn]
              simp only [hn, if_false]
              exact gcl i' j' _ (ob_cell hx' hd'))
          (fun i' j' x hx => by
            by_cases hn : i' = i ∧ j' = j
            · simp only [hn, and_self, if_true] at hx
              obtain ⟨q1, q2, q3, q4⟩ := h.has o2 x hx
              refine ⟨fun e => ?_, q3, q2, .inl (.inr hx)⟩
              subst e
              exact hne (h.dis o o2 x hb hx)
            · simp only [hn, if_false] at hx
              obtain ⟨q1, q2⟩ := gsub _ _ x hx
              exact ⟨q2, (hg.has o x q1).2.2.1, (hg.has o x q1).2.1, .inr q1⟩)
          (fun i1 j1 i2 j2 x hx hx' => by
            by_cases hn : i1 = i ∧ j1 = j <;> by_cases hn' : i2 = i ∧ j2 = j
            · exact ⟨by rw [hn.1, hn'.1], by rw [hn.2, hn'.2]⟩
            · simp only [hn, and_self, if_true] at hx
              simp only [hn', if_false] at hx'
              exact absurd (h.dis o2 o x hx (gsub _ _ x hx').1.2) (fun q => hne q.symm)
            · simp only [hn, if_false] at hx
              simp only [hn', and_self, if_true] at hx'
              exact absurd (h.dis o2 o x hx' (gsub _ _ x hx).1.2) (fun q => hne q.symm)
            · simp only [hn, if_false] at hx
              simp only [hn', if_false] at hx'
              exact gdis _ _ _ _ x hx hx')
        exact ⟨_, _, _, hR⟩

end rep
end Go.Proofs.YtniakiefibpgmaaGreatDoorK
