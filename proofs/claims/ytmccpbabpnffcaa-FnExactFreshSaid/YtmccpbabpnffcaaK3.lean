/- An abstract state stands for a frame and a world: what that says, and what it outlasts. -/
import Derived.Test.YtmccpbabpnffcaaK2
set_option linter.unusedVariables false
set_option linter.unusedSimpArgs false
namespace Go.Proofs.YtmccpbabpnffcaaK
open Go.RowKit

section lists
variable {α β : Type}
theorem klook_kput_same (l : List (Nat × α)) (k : Nat) (v : α) : klook (kput l k v) k = some v := by
  induction l with
  | nil => simp [kput, klook]
  | cons q l ih =>
    obtain ⟨a, u⟩ := q
    simp only [kput]
    split
    · rename_i h; subst h; simp [klook]
    · rename_i h
      split
      · simp [klook]
      · simp [klook, h, ih]
theorem klook_kput_ne (l : List (Nat × α)) {k k' : Nat} (v : α) (h : k' ≠ k) : klook (kput l k v) k' = klook l k' := by
  induction l with
  | nil => simp [kput, klook, h]
  | cons q l ih =>
    obtain ⟨a, u⟩ := q
    simp only [kput]
    split
    · rename_i e; subst e; simp [klook, h]
    · split
      · simp [klook, h]
      · simp [klook, ih]
theorem klook_kdel_same (l : List (Nat × α)) (k : Nat) : klook (kdel l k) k = none := by
  induction l with
  | nil => rfl
  | cons q l ih =>
    obtain ⟨a, u⟩ := q
    simp only [kdel]
    split
    · exact ih
    · rename_i h; simp [klook, h, ih]
theorem klook_kdel_ne (l : List (Nat × α)) {k k' : Nat} (h : k' ≠ k) : klook (kdel l k) k' = klook l k' := by
  induction l with
  | nil => rfl
  | cons q l ih =>
    obtain ⟨a, u⟩ := q
    simp only [kdel]
    split
    · rename_i e; subst e; simp [klook, h, ih]
    · simp [klook, ih]
theorem klook_map (f : α → β) (l : List (Nat × α)) (k : Nat) : klook (l.map fun q => (q.1, f q.2)) k = (klook l k).map f := by
  induction l with
  | nil => rfl
  | cons q l ih =>
    obtain ⟨a, u⟩ := q
    simp only [List.map_cons, klook]
    split
    · rfl
    · exact ih
end lists

/-- What an object keeps for whoever refers to it. -/
structure KeepR (objs objs' : List (Nat × Ob)) (loc loc' : Nat → Option (Nat × Nat × Nat)) (o : Nat) : Prop where
  ob : ∀ ob, klook objs o = some ob → ∃ ob', klook objs' o = some ob' ∧ ob'.sz = ob.sz ∧ ob.es.length ≤ ob'.es.length
  loc : loc' o = loc o
theorem KeepR.refl (objs : List (Nat × Ob)) (loc : Nat → Option (Nat × Nat × Nat)) (o : Nat) : KeepR objs objs loc loc o := ⟨fun ob h => ⟨ob, h, rfl, Nat.le_refl _⟩, rfl⟩
/-- And for whoever looks into it. -/
def KeepL (w w' : World) (So So' : Nat → Nat → Prop) (o : Nat) : Prop := ∀ b, So o b → So' o b ∧ w'.heap[b]? = w.heap[b]?

section mono
variable {w w' : World} {fz fz' : Nat → Prop} {loc loc' : Nat → Option (Nat × Nat × Nat)} {So So' : Nat → Nat → Prop} {objs objs' : List (Nat × Ob)}

theorem KeepR.some {o : Nat} (h : KeepR objs objs' loc loc' o) (hs : (klook objs o).isSome) : (klook objs' o).isSome := by
  obtain ⟨ob, hob⟩ := Option.isSome_iff_exists.1 hs
  obtain ⟨ob', h', _⟩ := h.ob ob hob
  rw [h']; rfl

mutual
theorem RegOK.mono (h1 : ∀ b, fz b → fz' b ∧ w'.heap[b]? = w.heap[b]?) : ∀ (v : Value) (av : AV), RegOK w fz loc So objs v av →
    (∀ o, av.refs o = true → KeepR objs objs' loc loc' o) → (∀ o, av.looks o = true → KeepL w w' So So' o) → RegOK w' fz' loc' So' objs' v av
  | v, .d x, h, _, _ => by
    simp only [RegOK] at h ⊢
    exact h.mono (fun b hb => (h1 b hb).1) (fun b hb => (h1 b hb).2)
  | v, .nil, h, _, _ => by simpa only [RegOK] using h
  | v, .own x, h, _, _ => by simp only [RegOK] at h
  | v, .vw o x, h, hr, hl => by
    simp only [RegOK] at h ⊢
    refine ⟨(hr o (by simp [AV.refs])).some h.1, h.2.mono (fun b hb => (hl o (by simp [AV.looks]) b hb).1) (fun b hb => (hl o (by simp [AV.looks]) b hb).2)⟩
  | v, .h o off n, h, hr, _ => by
    simp only [RegOK] at h ⊢
    obtain ⟨ob, hob, hn, hv⟩ := h
    have hk := hr o (by simp [AV.refs])
    obtain ⟨ob', hob', hs, hlen⟩ := hk.ob ob hob
    exact ⟨ob', hob', by omega, by rw [hk.loc, hs]; exact hv⟩
  | v, .p o i j, h, hr, _ => by
    simp only [RegOK] at h ⊢
    obtain ⟨ob, b, base, cap, hob, hloc, hi, hv⟩ := h
    have hk := hr o (by simp [AV.refs])
    obtain ⟨ob', hob', hs, hlen⟩ := hk.ob ob hob
    exact ⟨ob', b, base, cap, hob', by rw [hk.loc]; exact hloc, by omega, by rw [hs]; exact hv⟩
  | v, .rp none cs, h, _, _ => by
    simp only [RegOK, okAt] at h ⊢
    obtain ⟨b, off, hv, hs, hok, vs, hc⟩ := h
    refine ⟨b, off, hv, ?_, fun hne => (h1 b (hok hne)).1, vs, ?_⟩
    · intro o' e; cases e
    intro j d hj
    have hne : cs ≠ [] := by intro e; subst e; simp at hj
    refine ⟨by rw [World.cell?_of_block (w := w) (h1 b (hok hne)).2]; exact (hc j d hj).1, (hc j d hj).2.mono (fun b hb => (h1 b hb).1) (fun b hb => (h1 b hb).2)⟩
  | v, .rp (some o) cs, h, hr, hl => by
    simp only [RegOK, okAt] at h ⊢
    obtain ⟨b, off, hv, hs, hok, vs, hc⟩ := h
    have hL := hl o (by simp [AV.looks])
    refine ⟨b, off, hv, ?_, fun hne => (hL b (hok hne)).1, vs, ?_⟩
    · intro o' e; cases e; exact (hr o (by simp [AV.refs])).some (hs o rfl)
    intro j d hj
    have hne : cs ≠ [] := by intro e; subst e; simp at hj
    refine ⟨by rw [World.cell?_of_block (w := w) (hL b (hok hne)).2]; exact (hc j d hj).1, (hc j d hj).2.mono (fun b hb => (hL b hb).1) (fun b hb => (hL b hb).2)⟩
  | v, .agg l, h, hr, hl => by
    simp only [RegOK] at h ⊢
    obtain ⟨vs, hv, hvs⟩ := h
    exact ⟨vs, hv, RegsOK.mono h1 vs l hvs (fun o ho => hr o (by simpa [AV.refs] using ho)) (fun o ho => hl o (by simpa [AV.looks] using ho))⟩
  | v, .tup l, h, hr, hl => by
    simp only [RegOK] at h ⊢
    obtain ⟨vs, hv, hvs⟩ := h
    exact ⟨vs, hv, RegsOK.mono h1 vs l hvs (fun o ho => hr o (by simpa [AV.refs] using ho)) (fun o ho => hl o (by simpa [AV.looks] using ho))⟩
  | v, .clo f l, h, hr, hl => by
    simp only [RegOK] at h ⊢
    obtain ⟨vs, hv, hvs⟩ := h
    exact ⟨vs, hv, RegsOK.mono h1 vs l hvs (fun o ho => hr o (by simpa [AV.refs] using ho)) (fun o ho => hl o (by simpa [AV.looks] using ho))⟩
  | v, .junk, h, _, _ => by simp only [RegOK]
theorem RegsOK.mono (h1 : ∀ b, fz b → fz' b ∧ w'.heap[b]? = w.heap[b]?) : ∀ (vs : List Value) (l : List AV), RegsOK w fz loc So objs vs l →
    (∀ o, AV.refsL o l = true → KeepR objs objs' loc loc' o) → (∀ o, AV.looksL o l = true → KeepL w w' So So' o) → RegsOK w' fz' loc' So' objs' vs l
  | [], [], _, _, _ => by simp only [RegsOK]
  | [], _ :: _, h, _, _ => by simp only [RegsOK] at h
  | _ :: _, [], h, _, _ => by simp only [RegsOK] at h
  | v :: vs, a :: l, h, hr, hl => by
    simp only [RegsOK] at h ⊢
    exact ⟨RegOK.mono h1 v a h.1 (fun o ho => hr o (by simp [AV.refsL, ho])) (fun o ho => hl o (by simp [AV.looksL, ho])),
      RegsOK.mono h1 vs l h.2 (fun o ho => hr o (by simp [AV.refsL, ho])) (fun o ho => hl o (by simp [AV.looksL, ho]))⟩
end
end mono

mutual
theorem AV.refs_of_looks {o : Nat} : ∀ (av : AV), av.looks o = true → av.refs o = true
  | .vw _ _, hh => by simpa [AV.looks, AV.refs] using hh
  | .rp (some _) _, hh => by simpa [AV.looks, AV.refs] using hh
  | .rp none _, hh => by simp [AV.looks] at hh
  | .agg l, hh => by simp only [AV.looks, AV.refs] at *; exact AV.refsL_of_looksL l hh
  | .tup l, hh => by simp only [AV.looks, AV.refs] at *; exact AV.refsL_of_looksL l hh
  | .clo _ l, hh => by simp only [AV.looks, AV.refs] at *; exact AV.refsL_of_looksL l hh
  | .d _, hh => by simp [AV.looks] at hh
  | .nil, hh => by simp [AV.looks] at hh
  | .own _, hh => by simp [AV.looks] at hh
  | .h _ _ _, hh => by simp [AV.looks] at hh
  | .p _ _ _, hh => by simp [AV.looks] at hh
  | .junk, hh => by simp [AV.looks] at hh
theorem AV.refsL_of_looksL {o : Nat} : ∀ (l : List AV), AV.looksL o l = true → AV.refsL o l = true
  | [], hh => by simp [AV.looksL] at hh
  | a :: l, hh => by
    simp only [AV.looksL, AV.refsL, Bool.or_eq_true] at *
    rcases hh with hh | hh
    · exact .inl (AV.refs_of_looks a hh)
    · exact .inr (AV.refsL_of_looksL l hh)
end

/-- The frozen blocks: those of the arguments and those made since, but for the objects' and what is set aside. -/
def Fz (w0 : World) (ok0 : Nat → Prop) (So : Nat → Nat → Prop) (Pd : Nat → Prop) (w : World) (x : Nat) : Prop :=
  (ok0 x ∨ w0.heap.size ≤ x) ∧ x < w.heap.size ∧ (∀ o, ¬ So o x) ∧ ¬ Pd x

structure RepW (N : Nat) (w0 : World) (ok0 : Nat → Prop) (loc : Nat → Option (Nat × Nat × Nat)) (So : Nat → Nat → Prop) (Pd : Nat → Prop) (σ : St) (a : Act) (w : World) : Prop where
  size : a.tmps.size = N
  defers : a.defers = []
  keep : Below w0.heap.size w0 w
  ok : ∀ x, ok0 x → x < w0.heap.size
  has : ∀ o x, So o x → (klook σ.objs o).isSome = true ∧ w0.heap.size ≤ x ∧ x < w.heap.size ∧ ¬ Pd x
  dis : ∀ o o' x, So o x → So o' x → o = o'
  pdlt : ∀ x, Pd x → x < w.heap.size
  objs : ∀ o ob, klook σ.objs o = some ob → ObjOK w (Fz w0 ok0 So Pd w) (loc o) ob (So o)
  regs : ∀ t v, klook σ.regs t = some v → RegOK w (Fz w0 ok0 So Pd w) loc So σ.objs (a.tmps.getD t undef) v

/-- The state stands for this frame and this world. -/
def Rep (N : Nat) (w0 : World) (ok0 : Nat → Prop) (σ : St) (a : Act) (w : World) : Prop := ∃ loc So Pd, RepW N w0 ok0 loc So Pd σ a w

section rep
variable {N : Nat} {w0 : World} {ok0 : Nat → Prop} {loc : Nat → Option (Nat × Nat × Nat)} {So : Nat → Nat → Prop} {Pd : Nat → Prop} {σ : St} {a : Act} {w : World}

theorem RepW.reg (h : RepW N w0 ok0 loc So Pd σ a w) (t : Nat) : RegOK w (Fz w0 ok0 So Pd w) loc So σ.objs (a.eval (.tmp t)) (σ.reg t) := by
  unfold St.reg
  cases hk : klook σ.regs t with
  | none => simp only [Option.getD_none, RegOK]
  | some v => exact h.regs t v hk

theorem getD_set_same {x : Array Value} {t : Nat} (v : Value) (ht : t < x.size) : (x.setIfInBounds t v).getD t undef = v := by
  simp [ht]
theorem getD_set_other {x : Array Value} {t t' : Nat} (v : Value) (h : t' ≠ t) : (x.setIfInBounds t v).getD t' undef = x.getD t' undef := by
  simp only [Array.getD_eq_getD_getElem?, Array.getElem?_setIfInBounds]
  rw [if_neg (by omega)]

theorem RepW.set (h : RepW N w0 ok0 loc So Pd σ a w) {t : Nat} {v : Value} {av : AV} (ht : t < N) (hv : RegOK w (Fz w0 ok0 So Pd w) loc So σ.objs v av) :
    RepW N w0 ok0 loc So Pd (σ.set t av) (a.put (some t) v) w := by
  refine ⟨by simp [Act.put, h.size], h.defers, h.keep, h.ok, h.has, h.dis, h.pdlt, h.objs, fun t' v' hk => ?_⟩
  simp only [St.set] at hk
  by_cases e : t' = t
  · subst e
    rw [klook_kput_same] at hk
    obtain rfl := Option.some.inj hk
    simp only [Act.put]
    rw [getD_set_same v (by rw [h.size]; exact ht)]
    exact hv
  · rw [klook_kput_ne _ _ e] at hk
    simp only [Act.put]
    rw [getD_set_other v e]
    exact h.regs t' v' hk

/-- Less is known of the registers. -/
theorem RepW.weaken (h : RepW N w0 ok0 loc So Pd σ a w) {regs : List (Nat × AV)} (hr : ∀ t v, klook regs t = some v → v = .junk ∨ klook σ.regs t = some v) : RepW N w0 ok0 loc So Pd { σ with regs } a w :=
  ⟨h.size, h.defers, h.keep, h.ok, h.has, h.dis, h.pdlt, h.objs, fun t v hk => by
    rcases hr t v hk with e | e
    · subst e; simp only [RegOK]
    · exact h.regs t v e⟩
theorem RepW.kill (h : RepW N w0 ok0 loc So Pd σ a w) (t : Nat) : RepW N w0 ok0 loc So Pd { σ with regs := kdel σ.regs t } a w :=
  h.weaken fun t' v hk => .inr (by
    by_cases e : t' = t
    · subst e; rw [klook_kdel_same] at hk; cases hk
    · rwa [klook_kdel_ne _ e] at hk)
theorem RepW.killAll (l : List Nat) : ∀ {σ : St}, RepW N w0 ok0 loc So Pd σ a w → RepW N w0 ok0 loc So Pd (killAll l σ) a w := by
  induction l with
  | nil => exact fun h => h
  | cons t l ih => exact fun h => ih (h.kill t)

end rep
end Go.Proofs.YtmccpbabpnffcaaK
