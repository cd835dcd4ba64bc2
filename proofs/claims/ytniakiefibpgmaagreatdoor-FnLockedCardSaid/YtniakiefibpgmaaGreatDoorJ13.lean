/- What comes behind in an append. -/
import Derived.Test.YtniakiefibpgmaaGreatDoorJ12
import Derived.Lib.ConvBytes
import Derived.Laws.MakeOwn
import Derived.Laws.Append
set_option linter.unusedVariables false
set_option linter.unusedSimpArgs false
namespace Go.Proofs.YtniakiefibpgmaaGreatDoorK
open Go.RowKit

def flatV (vs : Nat → Nat → Value) (n sz : Nat) : List Value := (List.range (n * sz)).map fun k => vs (k / sz) (k % sz)
theorem flatV_len (vs : Nat → Nat → Value) (n sz : Nat) : (flatV vs n sz).length = n * sz := by simp [flatV]
theorem idx_lt {i j n sz : Nat} (hi : i < n) (hj : j < sz) : i * sz + j < n * sz := by
  have : i * sz + sz ≤ n * sz := by rw [← Nat.succ_mul]; exact Nat.mul_le_mul_right _ hi
  omega
theorem flatV_get {vs : Nat → Nat → Value} {n sz i j : Nat} (hi : i < n) (hj : j < sz) : (flatV vs n sz)[i * sz + j]? = some (vs i j) := by
  have h := idx_lt hi hj
  simp only [flatV, List.getElem?_map, List.getElem?_range h, Option.map_some]
  rw [Nat.add_comm, Nat.add_mul_div_right _ _ (by omega), Nat.div_eq_of_lt hj, Nat.add_mul_mod_self_right, Nat.mod_eq_of_lt hj, Nat.zero_add]
theorem flatV_cell {w : World} {b off n sz : Nat} {vs : Nat → Nat → Value} (h : ∀ i j, i < n → j < sz → w.cell? ⟨b, off + i * sz + j, none⟩ = some (vs i j)) {k : Nat} {v : Value} (hk : (flatV vs n sz)[k]? = some v) : w.cell? ⟨b, off + k, none⟩ = some v := by
  have hlt : k < n * sz := by rw [← flatV_len vs n sz]; exact getElem?_lt hk
  have hsz : 0 < sz := by rcases Nat.eq_zero_or_pos sz with e | e; · subst e; simp at hlt
                          · exact e
  have h1 : k / sz < n := Nat.div_lt_of_lt_mul (by rw [Nat.mul_comm]; exact hlt)
  have h2 := Nat.mod_lt k hsz
  have h3 : k / sz * sz + k % sz = k := by rw [Nat.mul_comm]; exact Nat.div_add_mod k sz
  have h4 := flatV_get (vs := vs) h1 h2
  rw [h3, hk] at h4
  have h5 := h _ _ h1 h2
  rw [Nat.add_assoc, h3] at h5
  rw [h5, h4]

theorem cell_heap {w w2 : World} (h : w2.heap = w.heap) (x : Addr) : w2.cell? x = w.cell? x := by unfold World.cell?; rw [h]
/-- What stands behind in an append. -/
structure SrcFit (P : Program) (N : Nat) (E : Ent) (loc : Nat → Option (Nat × Nat × Nat)) (So : Nat → Nat → Prop) (Pd : Nat → Prop) (σ : St) (a : Act) (w : World) (x : Value) (t : T) (fz : Bool) (new : List t.den) (σ' : St) (So' : Nat → Nat → Prop) (Pd' : Nat → Prop) (nv : List Value) (Sf : Nat → Nat → Nat → Prop) : Prop where
  rep : RepW N E loc So' Pd' σ' a w
  len : nv.length = new.length * t.w
  lenOf : (Builtin.lenOf x).run P w = .ok new.length w
  first : ∀ w2 : World, w2.heap = w.heap → (Builtin.firstCells t.w new.length x).run P w2 = .ok nv.toArray w2
  cell : ∀ (i : Nat) (y : t.den) (j : Nat) (d : D), new[i]? = some y → (cellsT t y)[j]? = some d → if fz then Rd w (Fz E So' Pd' w) (nv.getD (i * t.w + j) undef) d else Own w (nv.getD (i * t.w + j) undef) d (Sf i j)
  one : ∀ u ∈ nv, u.oneCell' = true
  sub : ∀ i j x, Sf i j x → Pd' x ∧ ¬ Pd x ∧ E.mine x ∧ x < w.heap.size
  dis : ∀ i j i' j' x, Sf i j x → Sf i' j' x → i = i' ∧ j = j'
  objs : ∀ o ob, klook σ'.objs o = some ob → ∃ ob0, klook σ.objs o = some ob0 ∧ ob.sz = ob0.sz ∧ ob.len = ob0.len
  regs : ∀ t v, klook σ'.regs t = some v → v = .junk ∨ klook σ.regs t = some v

theorem T.w_pos : ∀ t : T, 0 < t.w
  | .pr a b => by simp only [T.w]; have := T.w_pos a; omega
  | .int _ => by simp [T.w]
  | .u8 => by simp [T.w]
  | .bool => by simp [T.w]
  | .str => by simp [T.w]
  | .sl _ => by simp [T.w]
  | .node => by simp [T.w]

def Old (w : World) (x : Nat) : Prop := x < w.heap.size

section rep
variable {P : Program} {So' : Nat → Nat → Prop} {Pd' : Nat → Prop} {N : Nat} {E : Ent} {loc : Nat → Option (Nat × Nat × Nat)} {So : Nat → Nat → Prop} {Pd : Nat → Prop} {σ σ' : St} {a : Act} {w : World} {X : XF} {o : Oper}

theorem row_src {t : T} {l : List t.den} {b off c : Nat} {vs : Nat → Nat → Value} (hcell : ∀ i j, i < l.length → j < t.w → w.cell? ⟨b, off + i * t.w + j, none⟩ = some (vs i j)) (hone : ∀ i j, i < l.length → j < t.w → (vs i j).oneCell' = true) :
    (flatV vs l.length t.w).length = l.length * t.w ∧ (Builtin.lenOf (.slice (some ⟨b, off, none⟩) l.length c)).run P w = .ok l.length w ∧
      (∀ w2 : World, w2.heap = w.heap → (Builtin.firstCells t.w l.length (.slice (some ⟨b, off, none⟩) l.length c)).run P w2 = .ok (flatV vs l.length t.w).toArray w2) ∧
      (∀ i j, i < l.length → j < t.w → (flatV vs l.length t.w).getD (i * t.w + j) undef = vs i j) ∧ (∀ u ∈ flatV vs l.length t.w, u.oneCell' = true) := by
  refine ⟨flatV_len _ _ _, by simp [Builtin.lenOf], fun w2 h2 => run_firstCells_some (P := P) w2 t.w l.length ⟨b, off, none⟩ l.length c _ (flatV_len _ _ _) (fun k v hk => by rw [add_plain, cell_heap h2]; exact flatV_cell hcell hk), fun i j hi hj => by rw [List.getD_eq_getElem?_getD, flatV_get hi hj]; rfl, fun u hu => ?_⟩
  simp only [flatV, List.mem_map, List.mem_range] at hu
  obtain ⟨k, hk, rfl⟩ := hu
  exact hone _ _ (Nat.div_lt_of_lt_mul (by rw [Nat.mul_comm]; exact hk)) (Nat.mod_lt _ t.w_pos)

theorem src_rd {ok : Nat → Prop} {v : Value} {t : T} {l : List t.den} (h : Rd w ok v (.sl t l)) :
    ∃ nv : List Value, nv.length = l.length * t.w ∧ (Builtin.lenOf v).run P w = .ok l.length w ∧ (∀ w2 : World, w2.heap = w.heap → (Builtin.firstCells t.w l.length v).run P w2 = .ok nv.toArray w2) ∧
      (∀ (i : Nat) (y : t.den) (j : Nat) (d : D), l[i]? = some y → (cellsT t y)[j]? = some d → Rd w ok (nv.getD (i * t.w + j) undef) d) ∧ (∀ u ∈ nv, u.oneCell' = true) := by
  cases h with
  | nil A c =>
    refine ⟨[], by simp, by simp [Builtin.lenOf], ?_, fun i y j d hi => by simp at hi, fun u hu => by simp at hu⟩
    intro w2 _
    cases A <;> simp [Builtin.firstCells, loadCells, loadCellsFrom]
  | sl b off c _ _ vs hb hc hm hr =>
    have get : ∀ i j, i < l.length → j < t.w → ∃ y d, l[i]? = some y ∧ (cellsT t y)[j]? = some d := fun i j hi hj =>
      ⟨_, _, List.getElem?_eq_getElem hi, List.getElem?_eq_getElem (show j < (cellsT t l[i]).length by rw [cellsT_len]; exact hj)⟩
    obtain ⟨h1, h2, h3, h4, h5⟩ := row_src (P := P) (w := w) (t := t) (l := l) (b := b) (off := off) (c := c) (vs := vs)
      (fun i j hi hj => by obtain ⟨y, d, q1, q2⟩ := get i j hi hj; exact hm i y j d q1 q2) (fun i j hi hj => by obtain ⟨y, d, q1, q2⟩ := get i j hi hj; exact rd_one (hr i y j d q1 q2))
    exact ⟨_, h1, h2, h3, fun i y j d hi hj => by rw [h4 i j (get_lt hi) (cells_lt hj)]; exact hr i y j d hi hj, h5⟩

/-- Frozen data, or flat data, stand behind. -/
theorem src_plain (h : RepW N E loc So Pd σ a w) {x : Value} {t : T} {fz : Bool} {l : List t.den} {ok : Nat → Prop} (hx : Rd w ok x (.sl t l)) (hc : l = [] ∨ t.flat = true ∨ (fz = true ∧ ∀ b, ok b → Fz E So Pd w b)) :
    ∃ So' Pd' nv Sf, SrcFit P N E loc So Pd σ a w x t fz l σ So' Pd' nv Sf := by
  obtain ⟨nv, n1, n2, n3, n4, n5⟩ := src_rd (P := P) hx
  refine ⟨So, Pd, nv, fun _ _ _ => False, h, n1, n2, n3, fun i y j d hi hj => ?_, n5, fun i j x hx => hx.elim, fun i j i' j' x hx => hx.elim, fun o ob ho => ⟨ob, ho, rfl, rfl⟩, fun t v hv => .inr hv⟩
  have hr := n4 i y j d hi hj
  rcases hc with hf | hf | ⟨hf, hok⟩
  · subst hf; simp at hi
  · have hsc := cellsT_flat t y hf d (List.mem_of_getElem? hj)
    cases fz with
    | true => exact scalar_rd hr hsc _ _
    | false => exact scalar_own hr hsc _ _
  · subst hf
    exact hr.mono hok (fun _ _ => rfl)

theorem castL_elim {t t' : T} {l : List t.den} {l' : List t'.den} (h : castL t t' l = some l') {motive : (t' : T) → List t'.den → Prop} (hm : motive t l) : motive t' l' := by
  obtain ⟨e, h⟩ := castL_some h
  subst e
  subst h
  exact hm

theorem bytes_src (l : List UInt8) (h : RepW N E loc So Pd σ a w) (fz : Bool) : ∃ So' Pd' nv Sf, SrcFit P N E loc So Pd σ a w (strV l) .u8 fz l σ So' Pd' nv Sf := by
  refine ⟨So, Pd, l.map fun b => .int .u8 b.toNat, fun _ _ _ => False, h, by simp [T.w], ?_, ?_, fun i y j d hi hj => ?_, fun u hu => ?_, fun i j x hx => hx.elim, fun i j i' j' x hx => hx.elim, fun o ob ho => ⟨ob, ho, rfl, rfl⟩, fun t v hv => .inr hv⟩
  · simp [Builtin.lenOf, strV, ← ByteArray.size_data]
  · intro w2 _
    simp only [Builtin.firstCells, strV, Sem.run_pure, ByteArray.extract_mk]
    simp
  · simp only [cellsT] at hj
    cases j with
    | succ j => simp at hj
    | zero =>
      simp only [List.getElem?_cons_zero, Option.some.injEq] at hj
      subst hj
      have e : (l.map fun b => Value.int .u8 b.toNat).getD (i * T.u8.w + 0) undef = .int .u8 y.toNat := by
        simp [T.w, List.getD_eq_getElem?_getD, List.getElem?_map, hi]
      rw [e]
      cases fz with
      | true => exact .u _
      | false => exact .u _ _
  · simp only [List.mem_map] at hu
    obtain ⟨b, _, rfl⟩ := hu
    rfl

theorem turn_objs (σ : St) {o : Nat} {ob ob' : Ob} (h : klook σ.objs o = some ob) (hz : ob'.sz = ob.sz) (hn : ob'.len = ob.len) : ∀ o2 ob2, klook (σ.turn o ob').objs o2 = some ob2 → ∃ ob0, klook σ.objs o2 = some ob0 ∧ ob2.sz = ob0.sz ∧ ob2.len = ob0.len := by
  intro o2 ob2 h2
  simp only [St.turn] at h2
  by_cases e : o2 = o
  · subst e
    rw [klook_kput_same] at h2
    obtain rfl := Option.some.inj h2
    exact ⟨ob, h, hz, hn⟩
  · rw [klook_kput_ne _ _ e] at h2
    exact ⟨ob2, h2, rfl, rfl⟩
theorem turn_regs (σ : St) (o : Nat) (ob : Ob) : ∀ t v, klook (σ.turn o ob).regs t = some v → v = .junk ∨ klook σ.regs t = some v := fun t v hk => by
  rcases unlook_regs σ o t v hk with e | ⟨e, _⟩
  · exact .inl e
  · exact .inr e
/-- Rows that have no cells are passed over. -/
theorem skip_none (h : RepW N E loc So Pd σ a w) {o : Nat} {t : T} {fz : Bool} {l : List t.den} {k k' : Nat} {hs : List (Nat × Nat × Option Nat)} (hob : klook σ.objs o = some (.ls t fz l k hs)) (hl : loc o = none) :
    RepW N E loc So Pd (σ.turn o (.ls t fz l k' hs)) a w := by
  have hkr : ∀ o2, KeepR σ.objs (σ.turn o (.ls t fz l k' hs)).objs loc loc o2 := fun o2 => by
    refine ⟨fun ob2 h2 => ?_, rfl⟩
    simp only [St.turn]
    by_cases e : o2 = o
    · subst e
      rw [hob] at h2
      obtain rfl := Option.some.inj h2
      exact ⟨_, klook_kput_same _ _ _, rfl, rfl⟩
    · exact ⟨ob2, by rw [klook_kput_ne _ _ e]; exact h2, rfl, rfl⟩
  refine ⟨h.size, h.defers, h.keep, h.ok, h.lt, fun o2 x hx => ?_, h.dis, h.pdlt, fun o2 ob2 h2 => ?_, fun t v hk => ?_, fun k2 ob2 hk2 h2 => ?_⟩
  · obtain ⟨q1, q2⟩ := h.has o2 x hx
    exact ⟨(hkr o2).some q1, q2⟩
  · by_cases e : o2 = o
    · subst e
      simp only [St.turn, klook_kput_same] at h2
      obtain rfl := Option.some.inj h2
      have := (h.objs o2 _ hob).none' hl
      exact ⟨fun _ => this, fun b off cap q => by rw [hl] at q; cases q⟩
    · simp only [St.turn, klook_kput_ne _ _ e] at h2
      exact (h.objs o2 ob2 h2).mono (fun b hb => ⟨hb, rfl⟩) (fun b hb => ⟨hb, rfl⟩) (fun o3 _ => hkr o3)
  · rcases unlook_regs σ o t v hk with e | ⟨e, e2⟩
    · subst e; simp only [RegOK]
    · exact RegOK.mono (fun b hb => ⟨hb, rfl⟩) _ _ (h.regs t v e) (fun o2 _ => hkr o2) (fun o2 _ b hb => ⟨hb, rfl⟩)
  · obtain ⟨ob0, h0, hz, hn⟩ := turn_objs σ hob (ob' := .ls t fz l k' hs) rfl rfl k2 ob2 h2
    obtain ⟨p1, p2, p3⟩ := h.pin k2 ob0 hk2 h0
    exact ⟨p1, by rw [hz]; exact p2, by rw [hn]; exact p3⟩
/-- Rows are passed over: what was theirs is set aside. -/
theorem skip_some (h : RepW N E loc So Pd σ a w) {o : Nat} {t : T} {fz : Bool} {l : List t.den} {k k' : Nat} {hs : List (Nat × Nat × Option Nat)} (hob : klook σ.objs o = some (.ls t fz l k hs)) (hk : k ≤ k') {b base cap : Nat} (hl : loc o = some (b, base, cap)) {vs : Nat → Nat → Value} {Sf : Nat → Nat → Nat → Prop}
    (hb : So o b) (hrow : RowAt w b base cap t.w l.length vs) (hsub : ∀ i j x, Sf i j x → So o x ∧ x ≠ b) (hdis : ∀ i j i' j' x, Sf i j x → Sf i' j' x → i = i' ∧ j = j')
    (hc : ∀ (i j : Nat) (c : CV), (Ob.ls t fz l k hs).cell i j = some c → CellOK w (Fz E So Pd w) loc So σ.objs (vs i j) c (Sf i j)) :
    RepW N E loc (soN So o b fun i j x => k' ≤ i ∧ Sf i j x) (pdN Pd So o b fun i j x => k' ≤ i ∧ Sf i j x) (σ.turn o (.ls t fz l k' hs)) a w := by
  refine h.turn (ob := .ls t fz l k' hs) hob hl rfl rfl vs (fun i j x => k' ≤ i ∧ Sf i j x) (fun _ _ _ => rfl) (Nat.le_refl _) (h.has o b hb).2.2.1 rfl rfl rfl hb hrow (fun i j c hcc => ?_) (fun i j x hx => ?_) (fun i j i' j' x hx hx' => hdis i j i' j' x hx.2 hx'.2)
  · simp only [Ob.cell] at hcc
    obtain ⟨x, hx, hcc⟩ := Option.bind_eq_some_iff.1 hcc
    obtain ⟨d, hd, rfl⟩ := Option.map_eq_some_iff.1 hcc
    by_cases hsc : d.scalar = true
    · have e1 : ∀ k, cv fz k hs i j d = .d d := fun k => by simp only [cv, if_pos hsc]
      rw [e1]
      have := hc i j _ (ob_cell hx hd)
      rw [e1] at this
      exact this
    · by_cases h2 : i < k'
      · have : cv fz k' hs i j d = .junk := by simp only [cv, if_neg hsc, if_pos h2]
        rw [this]; trivial
      · have : cv fz k' hs i j d = cv fz k hs i j d := by
          have h3 : ¬ i < k := by omega
          simp only [cv, if_neg hsc, if_neg h2, if_neg h3]
        rw [this]
        exact (hc i j _ (ob_cell hx hd)).mono (fun b hb => ⟨hb, rfl⟩) (fun b hb => ⟨⟨by omega, hb⟩, rfl⟩) (fun o2 _ => KeepR.refl _ _ o2)
  · obtain ⟨q1, q2⟩ := hsub i j x hx.2
    exact ⟨q2, (h.has o x q1).2.2.1, (h.has o x q1).2.1, .inr q1⟩

theorem hval_zero {lo : Option (Nat × Nat × Nat)} {sz off : Nat} {v : Value} (h : HVal lo sz off 0 v) : ∃ A c, v = .slice A 0 c := hval_slice h
theorem src_empty (h : RepW N E loc So' Pd' σ' a w) {t : T} {fz : Bool} (A : Option Addr) (c : Nat) (ho : ∀ o ob, klook σ'.objs o = some ob → ∃ ob0, klook σ.objs o = some ob0 ∧ ob.sz = ob0.sz ∧ ob.len = ob0.len) (hr : ∀ t v, klook σ'.regs t = some v → v = .junk ∨ klook σ.regs t = some v) :
    SrcFit P N E loc So Pd σ a w (.slice A 0 c) t fz [] σ' So' Pd' [] (fun _ _ _ => False) := by
  refine ⟨h, by simp, by simp [Builtin.lenOf], fun w2 _ => ?_, fun i y j d hi => by simp at hi, fun u hu => by simp at hu, fun i j x hx => hx.elim, fun i j i' j' x hx => hx.elim, ho, hr⟩
  cases A <;> simp [Builtin.firstCells, loadCells, loadCellsFrom]

theorem tailOf_ok (h : RepW N E loc So Pd σ a w) {x : Value} {av : AV} {t : T} {fz : Bool} {q : List t.den × St} (hx : RegOK w (Fz E So Pd w) loc So σ.objs x av) (ht : tailOf t fz σ av = some q) :
    ∃ So' Pd' nv Sf, SrcFit P N E loc So Pd σ a w x t fz q.1 q.2 So' Pd' nv Sf := by
  cases av with
  | nil ty =>
    simp only [tailOf, Option.some.injEq] at ht
    subst ht
    simp only [RegOK] at hx
    exact src_plain h (ok := fun _ => False) (by rw [hx]; exact .nil _ _ _) (.inl rfl)
  | d dd =>
    cases dd with
    | sl t' l =>
      simp only [tailOf] at ht
      split at ht
      · rename_i hc
        obtain ⟨l', hl', rfl⟩ := Option.map_eq_some_iff.1 ht
        simp only [RegOK] at hx
        obtain ⟨e, hl'⟩ := castL_some hl'
        subst e; subst hl'
        refine src_plain h hx ?_
        simp only [Bool.or_eq_true] at hc
        rcases hc with hc | hc
        · exact .inr (.inl hc)
        · exact .inr (.inr ⟨hc, fun b hb => hb⟩)
      · cases ht
    | s l =>
      simp only [tailOf] at ht
      obtain ⟨l', hl', rfl⟩ := Option.map_eq_some_iff.1 ht
      obtain ⟨e, hl'⟩ := castL_some hl'
      subst e; subst hl'
      have e := reg_s hx
      subst e
      exact bytes_src l h fz
    | _ => simp [tailOf] at ht
  | vw o' dd =>
    cases dd with
    | sl t' l =>
      simp only [tailOf] at ht
      split at ht
      · rename_i hc
        obtain ⟨l', hl', rfl⟩ := Option.map_eq_some_iff.1 ht
        simp only [RegOK] at hx
        obtain ⟨e, hl'⟩ := castL_some hl'
        subst e; subst hl'
        exact src_plain h hx.2 (.inr (.inl hc))
      · cases ht
    | _ => simp [tailOf] at ht
  | h o' off n =>
    simp only [tailOf] at ht
    obtain ⟨ob, hob, ht2⟩ := Option.bind_eq_some_iff.1 ht
    clear ht
    simp only [RegOK] at hx
    obtain ⟨ob', hob', hle, hv⟩ := hx
    rw [hob] at hob'
    obtain rfl := Option.some.inj hob'
    cases ob with
    | fn v => simp at ht2
    | ls t' fz' l k hs =>
      simp only at ht2
      simp only [Ob.len] at hle
      simp only [Ob.sz] at hv
      have hO := h.objs o' _ hob
      have hlen : ((l.drop off).take n).length = n := by simp; omega
      by_cases hf : t.flat = true
      · rw [if_pos hf] at ht2
        obtain ⟨l', hl', rfl⟩ := Option.map_eq_some_iff.1 ht2
        obtain ⟨e, hl'⟩ := castL_some hl'
        subst e; subst hl'
        refine src_plain h (ok := Old w) (l := (l.drop off).take n) ?_ (.inr (.inl hf))
        -- flat rows read as they are
        cases hloc : loc o' with
        | none =>
          rw [hloc] at hv
          obtain ⟨rfl, rfl, A, rfl⟩ := hv
          simp only [List.take_zero]
          exact .nil _ _ _
        | some q3 =>
          obtain ⟨b, base, cap⟩ := q3
          rw [hloc] at hv
          obtain ⟨hcap, A, rfl, hA⟩ := hv
          obtain ⟨hb, vs, Sf, hrow, hsub, hdis, hc⟩ := hO.some' b base cap hloc
          by_cases h0 : cap - off = 0
          · have hn : n = 0 := by omega
            subst hn
            simp only [List.take_zero]
            exact .nil _ _ _
          · have hA := hA (by omega)
            subst hA
            have := Rd.sl (w := w) (ok := Old w) b (base + off * t'.w) (cap - off) t' ((l.drop off).take n) (fun i j => vs (off + i) j) (h.has o' b hb).2.2.1 (by rw [hlen]; omega)
              (fun i x j d hi hj => by
                obtain ⟨hi, _⟩ := sub_get hi
                have := hrow.cell (i := off + i) (j := j) (get_lt hi) (cells_lt hj)
                simp only [Ob.sz] at this
                rw [Nat.add_mul, ← Nat.add_assoc] at this
                exact this)
              (fun i x j d hi hj => by
                obtain ⟨hi, _⟩ := sub_get hi
                have hsc := cellsT_flat t' x hf d (List.mem_of_getElem? hj)
                have hcl := hc (off + i) j _ (ob_cell hi hj)
                have e1 : cv fz' k hs (off + i) j d = .d d := by simp only [cv, if_pos hsc]
                rw [e1] at hcl
                exact scalar_rd hcl hsc _ _)
            rw [hlen] at this
            exact this
      · rw [if_neg hf] at ht2
        split at ht2
        case isFalse => cases ht2
        rename_i hcond
        obtain ⟨hk, hh, hfz⟩ := hcond
        have hh : hs = [] := by simpa using hh
        subst hh hfz
        obtain ⟨l', hl', rfl⟩ := Option.map_eq_some_iff.1 ht2
        obtain ⟨e, hl'⟩ := castL_some hl'
        subst e; subst hl'
        have ho := turn_objs σ hob (ob' := .ls t' fz' l (off + n) []) rfl rfl
        have hr := turn_regs σ o' (.ls t' fz' l (off + n) [])
        cases hloc : loc o' with
        | none =>
          rw [hloc] at hv
          obtain ⟨rfl, rfl, A, rfl⟩ := hv
          simp only [List.take_zero]
          exact ⟨_, _, _, _, src_empty (skip_none h hob hloc) A 0 ho hr⟩
        | some q3 =>
          obtain ⟨b, base, cap⟩ := q3
          rw [hloc] at hv
          obtain ⟨hcap, A, rfl, hA⟩ := hv
          obtain ⟨hb, vs, Sf, hrow, hsub, hdis, hc⟩ := hO.some' b base cap hloc
          have hskip := skip_some h hob (k' := off + n) (by omega) hloc hb hrow hsub hdis hc
          have hpd : ∀ x, Pd x → pdN Pd So o' b (fun i j x => off + n ≤ i ∧ Sf i j x) x := fun x hx => ⟨.inl hx, fun q => by
            rcases q with q | ⟨i, j, _, q⟩
            · subst q; exact (h.has o' x hb).2.2.2 hx
            · exact (h.has o' x (hsub i j x q).1).2.2.2 hx⟩
          by_cases h0 : cap - off = 0
          · have hn : n = 0 := by omega
            subst hn
            simp only [List.take_zero]
            exact ⟨_, _, _, _, src_empty hskip A _ ho hr⟩
          · have hA := hA (by omega)
            subst hA
            have hcell : ∀ i j, i < n → j < t'.w → w.cell? ⟨b, base + off * t'.w + i * t'.w + j, none⟩ = some (vs (off + i) j) := fun i j hi hj => by
              have := hrow.cell (i := off + i) (j := j) (by simp only [Ob.len]; omega) hj
              simp only [Ob.sz] at this
              rw [Nat.add_mul, ← Nat.add_assoc] at this
              exact this
            have hcl : ∀ i y j d, ((l.drop off).take n)[i]? = some y → (cellsT t' y)[j]? = some d → (if fz' then Rd w (Fz E So Pd w) (vs (off + i) j) d else Own w (vs (off + i) j) d (Sf (off + i) j)) := fun i y j d hi hj => by
              obtain ⟨hi, _⟩ := sub_get hi
              have hcl := hc (off + i) j _ (ob_cell hi hj)
              rw [cv_nohole fz' j d (by omega)] at hcl
              by_cases hsc : d.scalar = true
              · rw [if_pos hsc] at hcl
                cases fz' with
                | true => exact hcl
                | false => exact scalar_own hcl hsc _ _
              · rw [if_neg hsc] at hcl
                cases fz' with
                | true => exact hcl
                | false => exact hcl
            obtain ⟨s1, s2, s3, s4, s5⟩ := row_src (P := P) (w := w) (t := t') (l := (l.drop off).take n) (b := b) (off := base + off * t'.w) (c := cap - off) (vs := fun i j => vs (off + i) j)
              (fun i j hi hj => hcell i j (by omega) hj) (fun i j hi hj => by
                have h1 := List.getElem?_eq_getElem hi
                have h2 := List.getElem?_eq_getElem (show j < (cellsT t' ((l.drop off).take n)[i]).length by rw [cellsT_len]; exact hj)
                have := hcl i _ j _ h1 h2
                cases fz' with
                | true => exact rd_one this
                | false => exact own_one this)
            rw [hlen] at s1 s2 s3 s4 s5
            have hff : ∀ x, Fz E So Pd w x → Fz E (soN So o' b fun i j x => off + n ≤ i ∧ Sf i j x) (pdN Pd So o' b fun i j x => off + n ≤ i ∧ Sf i j x) w x := fun x hx =>
              ⟨hx.1, hx.2.1, fun o2 q => by
                rcases q with ⟨_, q | ⟨i, j, _, q⟩⟩ | ⟨_, q⟩
                · subst q; exact hx.2.2.1 o' hb
                · exact hx.2.2.1 o' (hsub i j x q).1
                · exact hx.2.2.1 o2 q, fun q => q.1.elim hx.2.2.2 (hx.2.2.1 o')⟩
            refine ⟨_, _, _, fun i j x => i < n ∧ Sf (off + i) j x, hskip, by rw [hlen]; exact s1, by rw [hlen]; exact s2, by rw [hlen]; exact s3, fun i y j d hi hj => ?_, s5, fun i j x hx => ?_, fun i j i' j' x hx hx' => by have := hdis _ _ _ _ x hx.2 hx'.2; omega, ho, hr⟩
            · have hin : i < n := (sub_get hi).2
              rw [s4 i j hin (cells_lt hj)]
              have := hcl i y j d hi hj
              cases fz' with
              | true => exact Rd.mono hff (fun _ _ => rfl) this
              | false => exact Own.mono this (fun x hx => ⟨hin, hx⟩) (fun _ _ => rfl)
            · obtain ⟨q1, q2⟩ := hsub _ _ x hx.2
              obtain ⟨p1, p2, p3, p4⟩ := h.has o' x q1
              refine ⟨⟨.inr q1, fun q => ?_⟩, p4, p2, p3⟩
              rcases q with q | ⟨i', j', h1, q⟩
              · exact q2 q
              · have := hdis _ _ _ _ x hx.2 q
                omega
  | _ => simp [tailOf] at ht

end rep
end Go.Proofs.YtniakiefibpgmaaGreatDoorK
