/- An abstract state stands for a frame and a world: what that says, and what it outlasts. -/
import Derived.Test.YtniakiefibpgmaaGreatDoorJ2
set_option linter.unusedVariables false
set_option linter.unusedSimpArgs false
namespace Go.Proofs.YtniakiefibpgmaaGreatDoorK
open Go.RowKit

section lists
variable {α β : Type}
theorem klook_kput_same (l : List (Nat × α)) (k : Nat) (v : α) : klook (kput l k v) k = some v := by
  induction l with
  | nil => simp [kput, klook]
  | cons q l ih =>
    obtain ⟨a, u⟩ := q
    simp only [kput]
    split
    · rename_i h; subst h; simp [klook]
    · rename_i h
      split
      · simp [klook]
      · simp [klook, h, ih]
theorem klook_kput_ne (l : List (Nat × α)) {k k' : Nat} (v : α) (h : k' ≠ k) : klook (kput l k v) k' = klook l k' := by
  induction l with
  | nil => simp [kput, klook, h]
  | cons q l ih =>
    obtain ⟨a, u⟩ := q
    simp only [kput]
    split
    · rename_i e; subst e; simp [klook, h]
    · split
      · simp [klook, h]
      · simp [klook, ih]
theorem klook_kdel_same (l : List (Nat × α)) (k : Nat) : klook (kdel l k) k = none := by
  induction l with
  | nil => rfl
  | cons q l ih =>
    obtain ⟨a, u⟩ := q
    simp only [kdel]
    split
    · exact ih
    · rename_i h; simp [klook, h, ih]
theorem klook_kdel_ne (l : List (Nat × α)) {k k' : Nat} (h : k' ≠ k) : klook (kdel l k) k' = klook l k' := by
  induction l with
  | nil => rfl
  | cons q l ih =>
    obtain ⟨a, u⟩ := q
    simp only [kdel]
    split
    · rename_i e; subst e; simp [klook, h, ih]
    · simp [klook, ih]
theorem klook_map (f : α → β) (l : List (Nat × α)) (k : Nat) : klook (l.map fun q => (q.1, f q.2)) k = (klook l k).map f := by
  induction l with
  | nil => rfl
  | cons q l ih =>
    obtain ⟨a, u⟩ := q
    simp only [List.map_cons, klook]
    split
    · rfl
    · exact ih
end lists

/-- What an object keeps for whoever refers to it. -/
structure KeepR (objs objs' : List (Nat × Ob)) (loc loc' : Nat → Option (Nat × Nat × Nat)) (o : Nat) : Prop where
  ob : ∀ ob, klook objs o = some ob → ∃ ob', klook objs' o = some ob' ∧ ob'.sz = ob.sz ∧ ob'.len = ob.len
  loc : loc' o = loc o
theorem KeepR.refl (objs : List (Nat × Ob)) (loc : Nat → Option (Nat × Nat × Nat)) (o : Nat) : KeepR objs objs loc loc o := ⟨fun ob h => ⟨ob, h, rfl, rfl⟩, rfl⟩
/-- And for whoever looks into it. -/
def KeepL (w w' : World) (So So' : Nat → Nat → Prop) (o : Nat) : Prop := ∀ b, So o b → So' o b ∧ w'.heap[b]? = w.heap[b]?

mutual
theorem AV.refs_of_looks {o : Nat} : ∀ (av : AV), av.looks o = true → av.refs o = true
  | .vw _ _, hh => by simpa [AV.looks, AV.refs] using hh
  | .rp (some _) _, hh => by simpa [AV.looks, AV.refs] using hh
  | .rp none _, hh => by simp [AV.looks] at hh
  | .rf v, hh => by simp only [AV.looks, AV.refs] at *; exact AV.refs_of_looks v hh
  | .agg l, hh => by simp only [AV.looks, AV.refs] at *; exact AV.refsL_of_looksL l hh
  | .tup l, hh => by simp only [AV.looks, AV.refs] at *; exact AV.refsL_of_looksL l hh
  | .clo _ l, hh => by simp only [AV.looks, AV.refs] at *; exact AV.refsL_of_looksL l hh
  | .d _, hh => by simp [AV.looks] at hh
  | .nil _, hh => by simp [AV.looks] at hh
  | .h _ _ _, hh => by simp [AV.looks] at hh
  | .p _ _ _, hh => by simp [AV.looks] at hh
  | .junk, hh => by simp [AV.looks] at hh
theorem AV.refsL_of_looksL {o : Nat} : ∀ (l : List AV), AV.looksL o l = true → AV.refsL o l = true
  | [], hh => by simp [AV.looksL] at hh
  | a :: l, hh => by
    simp only [AV.looksL, AV.refsL, Bool.or_eq_true] at *
    rcases hh with hh | hh
    · exact .inl (AV.refs_of_looks a hh)
    · exact .inr (AV.refsL_of_looksL l hh)
end
mutual
theorem AV.blind_looks {o : Nat} : ∀ (av : AV), av.blind = true → av.looks o = false
  | .vw _ _, hh => by simp [AV.blind] at hh
  | .rp (some _) _, hh => by simp [AV.blind] at hh
  | .rp none _, _ => rfl
  | .rf v, hh => by simp only [AV.blind, AV.looks] at *; exact AV.blind_looks v hh
  | .agg l, hh => by simp only [AV.blind, AV.looks] at *; exact AV.blindL_looks l hh
  | .tup l, hh => by simp only [AV.blind, AV.looks] at *; exact AV.blindL_looks l hh
  | .clo _ l, hh => by simp only [AV.blind, AV.looks] at *; exact AV.blindL_looks l hh
  | .d _, _ => rfl
  | .nil _, _ => rfl
  | .h _ _ _, _ => rfl
  | .p _ _ _, _ => rfl
  | .junk, _ => rfl
theorem AV.blindL_looks {o : Nat} : ∀ (l : List AV), AV.blindL l = true → AV.looksL o l = false
  | [], _ => rfl
  | a :: l, hh => by
    simp only [AV.blindL, AV.looksL, Bool.and_eq_true, Bool.or_eq_false_iff] at *
    exact ⟨AV.blind_looks a hh.1, AV.blindL_looks l hh.2⟩
end

section mono
variable {w w' : World} {fz fz' : Nat → Prop} {loc loc' : Nat → Option (Nat × Nat × Nat)} {So So' : Nat → Nat → Prop} {objs objs' : List (Nat × Ob)}

theorem KeepR.some {o : Nat} (h : KeepR objs objs' loc loc' o) (hs : (klook objs o).isSome) : (klook objs' o).isSome := by
  obtain ⟨ob, hob⟩ := Option.isSome_iff_exists.1 hs
  obtain ⟨ob', h', _⟩ := h.ob ob hob
  rw [h']; rfl

mutual
theorem RegOK.mono (h1 : ∀ b, fz b → fz' b ∧ w'.heap[b]? = w.heap[b]?) : ∀ (v : Value) (av : AV), RegOK w fz loc So objs v av →
    (∀ o, av.refs o = true → KeepR objs objs' loc loc' o) → (∀ o, av.looks o = true → KeepL w w' So So' o) → RegOK w' fz' loc' So' objs' v av
  | v, .d x, h, _, _ => by
    simp only [RegOK] at h ⊢
    exact h.mono (fun b hb => (h1 b hb).1) (fun b hb => (h1 b hb).2)
  | v, .nil _, h, _, _ => by simpa only [RegOK] using h
  | v, .vw o x, h, hr, hl => by
    simp only [RegOK] at h ⊢
    refine ⟨(hr o (by simp [AV.refs])).some h.1, h.2.mono (fun b hb => (hl o (by simp [AV.looks]) b hb).1) (fun b hb => (hl o (by simp [AV.looks]) b hb).2)⟩
  | v, .h o off n, h, hr, _ => by
    simp only [RegOK] at h ⊢
    obtain ⟨ob, hob, hn, hv⟩ := h
    have hk := hr o (by simp [AV.refs])
    obtain ⟨ob', hob', hs, hlen⟩ := hk.ob ob hob
    exact ⟨ob', hob', by omega, by rw [hk.loc, hs]; exact hv⟩
  | v, .p o i j, h, hr, _ => by
    simp only [RegOK] at h ⊢
    obtain ⟨ob, b, base, cap, hob, hloc, hi, hv⟩ := h
    have hk := hr o (by simp [AV.refs])
    obtain ⟨ob', hob', hs, hlen⟩ := hk.ob ob hob
    exact ⟨ob', b, base, cap, hob', by rw [hk.loc]; exact hloc, by omega, by rw [hs]; exact hv⟩
  | v, .rp none cs, h, _, _ => by
    simp only [RegOK, okAt] at h ⊢
    obtain ⟨b, off, hv, hs, hok, vs, hc⟩ := h
    refine ⟨b, off, hv, ?_, fun hne => (h1 b (hok hne)).1, vs, ?_⟩
    · intro o' e; cases e
    intro j d hj
    have hne : cs ≠ [] := by intro e; subst e; simp at hj
    refine ⟨by rw [World.cell?_of_block (w := w) (h1 b (hok hne)).2]; exact (hc j d hj).1, (hc j d hj).2.mono (fun b hb => (h1 b hb).1) (fun b hb => (h1 b hb).2)⟩
  | v, .rp (some o) cs, h, hr, hl => by
    simp only [RegOK, okAt] at h ⊢
    obtain ⟨b, off, hv, hs, hok, vs, hc⟩ := h
    have hL := hl o (by simp [AV.looks])
    refine ⟨b, off, hv, ?_, fun hne => (hL b (hok hne)).1, vs, ?_⟩
    · intro o' e; cases e; exact (hr o (by simp [AV.refs])).some (hs o rfl)
    intro j d hj
    have hne : cs ≠ [] := by intro e; subst e; simp at hj
    refine ⟨by rw [World.cell?_of_block (w := w) (hL b (hok hne)).2]; exact (hc j d hj).1, (hc j d hj).2.mono (fun b hb => (hL b hb).1) (fun b hb => (hL b hb).2)⟩
  | v, .rf a, h, hr, hl => by
    simp only [RegOK] at h ⊢
    obtain ⟨b, off, u, hv, hb, hc, hbl, hu⟩ := h
    exact ⟨b, off, u, hv, (h1 b hb).1, by rw [World.cell?_of_block (w := w) (h1 b hb).2]; exact hc, hbl, RegOK.mono h1 u a hu (fun o ho => hr o (by simpa [AV.refs] using ho)) (fun o ho => hl o (by simpa [AV.looks] using ho))⟩
  | v, .agg l, h, hr, hl => by
    simp only [RegOK] at h ⊢
    obtain ⟨vs, hv, hvs⟩ := h
    exact ⟨vs, hv, RegsOK.mono h1 vs l hvs (fun o ho => hr o (by simpa [AV.refs] using ho)) (fun o ho => hl o (by simpa [AV.looks] using ho))⟩
  | v, .tup l, h, hr, hl => by
    simp only [RegOK] at h ⊢
    obtain ⟨vs, hv, hvs⟩ := h
    exact ⟨vs, hv, RegsOK.mono h1 vs l hvs (fun o ho => hr o (by simpa [AV.refs] using ho)) (fun o ho => hl o (by simpa [AV.looks] using ho))⟩
  | v, .clo f l, h, hr, hl => by
    simp only [RegOK] at h ⊢
    obtain ⟨vs, hv, hvs⟩ := h
    exact ⟨vs, hv, RegsOK.mono h1 vs l hvs (fun o ho => hr o (by simpa [AV.refs] using ho)) (fun o ho => hl o (by simpa [AV.looks] using ho))⟩
  | v, .junk, h, _, _ => by simp only [RegOK]
theorem RegsOK.mono (h1 : ∀ b, fz b → fz' b ∧ w'.heap[b]? = w.heap[b]?) : ∀ (vs : List Value) (l : List AV), RegsOK w fz loc So objs vs l →
    (∀ o, AV.refsL o l = true → KeepR objs objs' loc loc' o) → (∀ o, AV.looksL o l = true → KeepL w w' So So' o) → RegsOK w' fz' loc' So' objs' vs l
  | [], [], _, _, _ => by simp only [RegsOK]
  | [], _ :: _, h, _, _ => by simp only [RegsOK] at h
  | _ :: _, [], h, _, _ => by simp only [RegsOK] at h
  | v :: vs, a :: l, h, hr, hl => by
    simp only [RegsOK] at h ⊢
    exact ⟨RegOK.mono h1 v a h.1 (fun o ho => hr o (by simp [AV.refsL, ho])) (fun o ho => hl o (by simp [AV.looksL, ho])),
      RegsOK.mono h1 vs l h.2 (fun o ho => hr o (by simp [AV.refsL, ho])) (fun o ho => hl o (by simp [AV.looksL, ho]))⟩
end

/-- The objects that a cell refers to. -/
def CV.refs (o : Nat) : CV → Bool
  | .lent o' => o == o'
  | .fn a => a.refs o
  | _ => false
theorem CellOK.mono {v : Value} {c : CV} {S S' : Nat → Prop} (h : CellOK w fz loc So objs v c S) (h1 : ∀ b, fz b → fz' b ∧ w'.heap[b]? = w.heap[b]?) (h3 : ∀ b, S b → S' b ∧ w'.heap[b]? = w.heap[b]?)
    (hr : ∀ o, c.refs o = true → KeepR objs objs' loc loc' o) : CellOK w' fz' loc' So' objs' v c S' := by
  cases c with
  | d x => exact Rd.mono (fun b hb => (h1 b hb).1) (fun b hb => (h1 b hb).2) h
  | own x => exact Own.mono h (fun b hb => (h3 b hb).1) (fun b hb => (h3 b hb).2)
  | lent o =>
    obtain ⟨ob, hob, hv⟩ := h
    have hk := hr o (by simp [CV.refs])
    obtain ⟨ob', hob', hs, hlen⟩ := hk.ob ob hob
    exact ⟨ob', hob', by rw [hk.loc, hs, hlen]; exact hv⟩
  | fn a =>
    obtain ⟨hb, ho, hv⟩ := h
    exact ⟨hb, ho, RegOK.mono h1 v a hv (fun o ho => hr o (by simpa [CV.refs] using ho)) (fun o ho => by rw [AV.blind_looks a hb] at ho; cases ho)⟩
  | pb t f x => exact h.elim
  | junk => trivial
theorem holeAt_lends {hs : List (Nat × Nat × Option Nat)} {i j o : Nat} (h : holeAt hs i j = some (some o)) : lends o hs = true := by
  induction hs with
  | nil => simp [holeAt] at h
  | cons q hs ih =>
    obtain ⟨a, b, x⟩ := q
    simp only [holeAt] at h
    simp only [lends, Bool.or_eq_true, decide_eq_true_eq]
    split at h
    · exact .inl (Option.some.inj h)
    · exact .inr (ih h)
theorem Ob.cell_refs {ob : Ob} {i j o : Nat} {c : CV} (h : ob.cell i j = some c) (hr : c.refs o = true) : ob.refs o = true := by
  cases ob with
  | ls t fz l k hs =>
    simp only [Ob.cell] at h
    obtain ⟨x, hx, h⟩ := Option.bind_eq_some_iff.1 h
    obtain ⟨d, hd, rfl⟩ := Option.map_eq_some_iff.1 h
    simp only [cv] at hr
    split at hr
    · simp [CV.refs] at hr
    · split at hr
      · simp [CV.refs] at hr
      · split at hr
        · rename_i o' e
          split at hr
          · simp [CV.refs] at hr
          · simp only [CV.refs, beq_iff_eq] at hr
            subst hr
            exact holeAt_lends e
        · simp [CV.refs] at hr
        · split at hr <;> simp [CV.refs] at hr
  | fn v =>
    simp only [Ob.cell] at h
    split at h
    · rw [← Option.some.inj h] at hr; exact hr
    · cases h
theorem ObjOK.mono {l : Option (Nat × Nat × Nat)} {ob : Ob} {S S' : Nat → Prop} (h : ObjOK w fz loc So objs l ob S) (h1 : ∀ b, fz b → fz' b ∧ w'.heap[b]? = w.heap[b]?) (h3 : ∀ b, S b → S' b ∧ w'.heap[b]? = w.heap[b]?)
    (hr : ∀ o, ob.refs o = true → KeepR objs objs' loc loc' o) : ObjOK w' fz' loc' So' objs' l ob S' := by
  refine ⟨h.none', fun b off cap e => ?_⟩
  obtain ⟨hb, vs, Sf, hrow, hs, hd, hc⟩ := h.some' b off cap e
  exact ⟨(h3 b hb).1, vs, Sf, hrow.mono (h3 b hb).2, fun i j x hx => ⟨(h3 x (hs i j x hx).1).1, (hs i j x hx).2⟩, hd,
    fun i j c p => (hc i j c p).mono h1 (fun b hb => ⟨hb, (h3 b (hs i j b hb).1).2⟩) (fun o ho => hr o (Ob.cell_refs p ho))⟩
end mono

/-- What was there at the entry: the world, the frozen blocks, those that were handed over, and what was handed over in them. -/
structure Ent where
  w0 : World
  ok0 : Nat → Prop
  own0 : Nat → Prop
  loc0 : Nat → Option (Nat × Nat × Nat)
  shp0 : Nat → Nat × Nat
/-- Blocks that the call may turn. -/
def Ent.mine (E : Ent) (x : Nat) : Prop := E.own0 x ∨ E.w0.heap.size ≤ x
/-- But for these blocks the world is as it was. -/
structure Keep (own : Nat → Prop) (w w' : World) : Prop where
  os : w'.os = w.os
  tape : w'.tape = w.tape
  output : w'.output = w.output
  size : w.heap.size ≤ w'.heap.size
  block : ∀ k, k < w.heap.size → ¬ own k → w'.heap[k]? = w.heap[k]?
theorem Keep.of_below {own : Nat → Prop} {w w' : World} (h : Below w.heap.size w w') : Keep own w w' := ⟨h.os, h.tape, h.output, h.size, fun k hk _ => h.block k hk⟩
theorem Keep.below {own : Nat → Prop} {w w' : World} {B : Nat} (h : Keep own w w') (hB : B ≤ w.heap.size) (ho : ∀ x, own x → B ≤ x) : Below B w w' :=
  ⟨h.os, h.tape, h.output, h.size, fun k hk => h.block k (by omega) (fun hq => by have := ho k hq; omega)⟩

/-- The frozen blocks: those of the arguments and those made since, but for the objects' and what is set aside. -/
def Fz (E : Ent) (So : Nat → Nat → Prop) (Pd : Nat → Prop) (w : World) (x : Nat) : Prop :=
  (E.ok0 x ∨ E.mine x) ∧ x < w.heap.size ∧ (∀ o, ¬ So o x) ∧ ¬ Pd x

structure RepW (N : Nat) (E : Ent) (loc : Nat → Option (Nat × Nat × Nat)) (So : Nat → Nat → Prop) (Pd : Nat → Prop) (σ : St) (a : Act) (w : World) : Prop where
  size : a.tmps.size = N
  defers : a.defers = []
  keep : Keep E.own0 E.w0 w
  ok : ∀ x, E.ok0 x → x < E.w0.heap.size ∧ ¬ E.own0 x
  lt : ∀ x, E.own0 x → x < E.w0.heap.size
  has : ∀ o x, So o x → (klook σ.objs o).isSome = true ∧ E.mine x ∧ x < w.heap.size ∧ ¬ Pd x
  dis : ∀ o o' x, So o x → So o' x → o = o'
  pdlt : ∀ x, Pd x → x < w.heap.size
  objs : ∀ o ob, klook σ.objs o = some ob → ObjOK w (Fz E So Pd w) loc So σ.objs (loc o) ob (So o)
  regs : ∀ t v, klook σ.regs t = some v → RegOK w (Fz E So Pd w) loc So σ.objs (a.tmps.getD t undef) v
  pin : ∀ k ob, k < 64 → klook σ.objs k = some ob → loc k = E.loc0 k ∧ ob.sz = (E.shp0 k).1 ∧ ob.len = (E.shp0 k).2

/-- The state stands for this frame and this world. -/
def Rep (N : Nat) (E : Ent) (σ : St) (a : Act) (w : World) : Prop := ∃ loc So Pd, RepW N E loc So Pd σ a w

section rep
variable {N : Nat} {E : Ent} {loc : Nat → Option (Nat × Nat × Nat)} {So : Nat → Nat → Prop} {Pd : Nat → Prop} {σ : St} {a : Act} {w : World}

theorem RepW.reg (h : RepW N E loc So Pd σ a w) (t : Nat) : RegOK w (Fz E So Pd w) loc So σ.objs (a.eval (.tmp t)) (σ.reg t) := by
  unfold St.reg
  cases hk : klook σ.regs t with
  | none => simp only [Option.getD_none, RegOK]
  | some v => exact h.regs t v hk

theorem getD_set_same {x : Array Value} {t : Nat} (v : Value) (ht : t < x.size) : (x.setIfInBounds t v).getD t undef = v := by
  simp [ht]
theorem getD_set_other {x : Array Value} {t t' : Nat} (v : Value) (h : t' ≠ t) : (x.setIfInBounds t v).getD t' undef = x.getD t' undef := by
  simp only [Array.getD_eq_getD_getElem?, Array.getElem?_setIfInBounds]
  rw [if_neg (by omega)]

theorem RepW.set (h : RepW N E loc So Pd σ a w) {t : Nat} {v : Value} {av : AV} (ht : t < N) (hv : RegOK w (Fz E So Pd w) loc So σ.objs v av) :
    RepW N E loc So Pd (σ.set t av) (a.put (some t) v) w := by
  refine ⟨by simp [Act.put, h.size], h.defers, h.keep, h.ok, h.lt, h.has, h.dis, h.pdlt, h.objs, fun t' v' hk => ?_, h.pin⟩
  simp only [St.set] at hk
  by_cases e : t' = t
  · subst e
    rw [klook_kput_same] at hk
    obtain rfl := Option.some.inj hk
    simp only [Act.put]
    rw [getD_set_same v (by rw [h.size]; exact ht)]
    exact hv
  · rw [klook_kput_ne _ _ e] at hk
    simp only [Act.put]
    rw [getD_set_other v e]
    exact h.regs t' v' hk

/-- A register is known anew. -/
theorem RepW.known (h : RepW N E loc So Pd σ a w) {t : Nat} {av : AV} (hv : RegOK w (Fz E So Pd w) loc So σ.objs (a.tmps.getD t undef) av) : RepW N E loc So Pd (σ.set t av) a w := by
  refine ⟨h.size, h.defers, h.keep, h.ok, h.lt, h.has, h.dis, h.pdlt, h.objs, fun t' v' hk => ?_, h.pin⟩
  simp only [St.set] at hk
  by_cases e : t' = t
  · subst e
    rw [klook_kput_same] at hk
    obtain rfl := Option.some.inj hk
    exact hv
  · rw [klook_kput_ne _ _ e] at hk
    exact h.regs t' v' hk

/-- Less is known of the registers. -/
theorem RepW.weaken (h : RepW N E loc So Pd σ a w) {regs : List (Nat × AV)} (hr : ∀ t v, klook regs t = some v → v = .junk ∨ klook σ.regs t = some v) : RepW N E loc So Pd { σ with regs } a w :=
  ⟨h.size, h.defers, h.keep, h.ok, h.lt, h.has, h.dis, h.pdlt, h.objs, fun t v hk => by
    rcases hr t v hk with e | e
    · subst e; simp only [RegOK]
    · exact h.regs t v e, h.pin⟩
theorem RepW.kill (h : RepW N E loc So Pd σ a w) (t : Nat) : RepW N E loc So Pd { σ with regs := kdel σ.regs t } a w :=
  h.weaken fun t' v hk => .inr (by
    by_cases e : t' = t
    · subst e; rw [klook_kdel_same] at hk; cases hk
    · rwa [klook_kdel_ne _ e] at hk)
theorem RepW.killAll (l : List Nat) : ∀ {σ : St}, RepW N E loc So Pd σ a w → RepW N E loc So Pd (killAll l σ) a w := by
  induction l with
  | nil => exact fun h => h
  | cons t l ih => exact fun h => ih (h.kill t)

end rep
end Go.Proofs.YtniakiefibpgmaaGreatDoorK
