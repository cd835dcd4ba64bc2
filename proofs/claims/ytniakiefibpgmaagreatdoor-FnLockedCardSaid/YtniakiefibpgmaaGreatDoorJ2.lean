/- Reading and owning trees in memory: the relations between values and data, and how they outlast what the world does. -/
import Derived.Test.YtniakiefibpgmaaGreatDoorJ1
import Derived.Below
set_option linter.unusedVariables false
set_option linter.unusedSimpArgs false
namespace Go.Proofs.YtniakiefibpgmaaGreatDoorK

theorem cellsT_len : ∀ (t : T) (x : t.den), (cellsT t x).length = t.w
  | .int _, _ => rfl
  | .u8, _ => rfl
  | .bool, _ => rfl
  | .str, _ => rfl
  | .sl _, _ => rfl
  | .pr a b, x => by simp only [cellsT, List.length_append, T.w, cellsT_len a, cellsT_len b]
  | .node, .mk _ _ _ _ => rfl
theorem castL_self (t : T) (l : List t.den) : castL t t l = some l := by simp [castL]
theorem castL_some {t t' : T} {l : List t.den} {l' : List t'.den} (h : castL t t' l = some l') : ∃ e : t = t', e ▸ l = l' := by
  unfold castL at h
  split at h
  · rename_i e; exact ⟨e, Option.some.inj h⟩
  · cases h
theorem cellsT_of_ofD : ∀ (t : T) (d : D) (x : t.den), ofD t d = some x → cellsT t x = [d]
  | .int k, .i k' n, x, h => by
    simp only [ofD] at h
    split at h
    · rename_i e; subst e; rw [← Option.some.inj h]; rfl
    · cases h
  | .u8, .u b, x, h => by simp only [ofD, Option.some.injEq] at h; subst h; rfl
  | .bool, .b b, x, h => by simp only [ofD, Option.some.injEq] at h; subst h; rfl
  | .str, .s l, x, h => by simp only [ofD, Option.some.injEq] at h; subst h; rfl
  | .sl t, .sl t' l, x, h => by
    simp only [ofD] at h
    obtain ⟨e, h⟩ := castL_some h
    subst e; subst h; rfl
  | .int _, .u _, _, h => by simp [ofD] at h
  | .int _, .b _, _, h => by simp [ofD] at h
  | .int _, .s _, _, h => by simp [ofD] at h
  | .int _, .sl _ _, _, h => by simp [ofD] at h
  | .int _, .e _, _, h => by simp [ofD] at h
  | .int _, .x _, _, h => by simp [ofD] at h
  | .u8, .i _ _, _, h => by simp [ofD] at h
  | .u8, .b _, _, h => by simp [ofD] at h
  | .u8, .s _, _, h => by simp [ofD] at h
  | .u8, .sl _ _, _, h => by simp [ofD] at h
  | .u8, .e _, _, h => by simp [ofD] at h
  | .u8, .x _, _, h => by simp [ofD] at h
  | .bool, .i _ _, _, h => by simp [ofD] at h
  | .bool, .u _, _, h => by simp [ofD] at h
  | .bool, .s _, _, h => by simp [ofD] at h
  | .bool, .sl _ _, _, h => by simp [ofD] at h
  | .bool, .e _, _, h => by simp [ofD] at h
  | .bool, .x _, _, h => by simp [ofD] at h
  | .str, .i _ _, _, h => by simp [ofD] at h
  | .str, .u _, _, h => by simp [ofD] at h
  | .str, .b _, _, h => by simp [ofD] at h
  | .str, .sl _ _, _, h => by simp [ofD] at h
  | .str, .e _, _, h => by simp [ofD] at h
  | .str, .x _, _, h => by simp [ofD] at h
  | .sl _, .i _ _, _, h => by simp [ofD] at h
  | .sl _, .u _, _, h => by simp [ofD] at h
  | .sl _, .b _, _, h => by simp [ofD] at h
  | .sl _, .s _, _, h => by simp [ofD] at h
  | .sl _, .e _, _, h => by simp [ofD] at h
  | .sl _, .x _, _, h => by simp [ofD] at h
  | .pr _ _, _, _, h => by simp [ofD] at h
  | .node, _, _, h => by simp [ofD] at h
theorem cells_mkT : ∀ (t : T) (cs : List D) (x : t.den), mkT t cs = some x → cellsT t x = cs
  | .pr a b, cs, x, h => by
    simp only [mkT] at h
    obtain ⟨p, hp, h⟩ := Option.bind_eq_some_iff.1 h
    obtain ⟨q, hq, rfl⟩ := Option.map_eq_some_iff.1 h
    simp only [cellsT, cells_mkT a _ _ hp, cells_mkT b _ _ hq, List.take_append_drop]
  | .node, cs, x, h => by
    simp only [mkT] at h
    split at h
    · obtain ⟨k, hk, rfl⟩ := Option.map_eq_some_iff.1 h
      obtain ⟨e, hk⟩ := castL_some hk
      subst e; subst hk; rfl
    · cases h
  | .int k, cs, x, h => by
    simp only [mkT] at h
    split at h
    · exact cellsT_of_ofD _ _ _ h
    · cases h
  | .u8, cs, x, h => by
    simp only [mkT] at h
    split at h
    · exact cellsT_of_ofD _ _ _ h
    · cases h
  | .bool, cs, x, h => by
    simp only [mkT] at h
    split at h
    · exact cellsT_of_ofD _ _ _ h
    · cases h
  | .str, cs, x, h => by
    simp only [mkT] at h
    split at h
    · exact cellsT_of_ofD _ _ _ h
    · cases h
  | .sl t, cs, x, h => by
    simp only [mkT] at h
    split at h
    · exact cellsT_of_ofD _ _ _ h
    · cases h
theorem cellsT_flat : ∀ (t : T) (x : t.den), t.flat = true → ∀ d ∈ cellsT t x, d.scalar = true
  | .int _, _, _, d, hd => by simp only [cellsT, List.mem_singleton] at hd; subst hd; rfl
  | .u8, _, _, d, hd => by simp only [cellsT, List.mem_singleton] at hd; subst hd; rfl
  | .bool, _, _, d, hd => by simp only [cellsT, List.mem_singleton] at hd; subst hd; rfl
  | .str, _, _, d, hd => by simp only [cellsT, List.mem_singleton] at hd; subst hd; rfl
  | .sl _, _, h, _, _ => by simp [T.flat] at h
  | .node, _, h, _, _ => by simp [T.flat] at h
  | .pr a b, x, h, d, hd => by
    simp only [T.flat, Bool.and_eq_true] at h
    simp only [cellsT, List.mem_append] at hd
    rcases hd with hd | hd
    · exact cellsT_flat a _ h.1 d hd
    · exact cellsT_flat b _ h.2 d hd

def strV (l : List UInt8) : Value := .string ⟨l.toArray⟩

/-- The value reads as this, by blocks of a kind alone. -/
inductive Rd (w : World) (ok : Nat → Prop) : Value → D → Prop
  | i (k : IntKind) (n : Int) : Rd w ok (.int k n) (.i k n)
  | u (b : UInt8) : Rd w ok (.int .u8 b.toNat) (.u b)
  | b (t : Bool) : Rd w ok (.bool t) (.b t)
  | s (l : List UInt8) : Rd w ok (strV l) (.s l)
  | e0 : Rd w ok .nilIface (.e true)
  | e1 (t : TypeId) (v : Value) : Rd w ok (.iface t v) (.e false)
  | x (v : Value) (h1 : v.oneCell' = true) : Rd w ok v (.x v)
  | nil (A : Option Addr) (c : Nat) (t : T) : Rd w ok (.slice A 0 c) (.sl t [])
  | sl (b off c : Nat) (t : T) (l : List t.den) (vs : Nat → Nat → Value) (hb : ok b) (hc : l.length ≤ c)
      (hm : ∀ (i : Nat) (x : t.den) (j : Nat) (d : D), l[i]? = some x → (cellsT t x)[j]? = some d → w.cell? ⟨b, off + i * t.w + j, none⟩ = some (vs i j))
      (hr : ∀ (i : Nat) (x : t.den) (j : Nat) (d : D), l[i]? = some x → (cellsT t x)[j]? = some d → Rd w ok (vs i j) d) :
      Rd w ok (.slice (some ⟨b, off, none⟩) l.length c) (.sl t l)

theorem Rd.mono {w w' : World} {ok ok' : Nat → Prop} (h1 : ∀ b, ok b → ok' b) (h2 : ∀ b, ok b → w'.heap[b]? = w.heap[b]?) {v : Value} {d : D} (h : Rd w ok v d) : Rd w' ok' v d := by
  induction h with
  | i k n => exact .i k n
  | u b => exact .u b
  | b t => exact .b t
  | s l => exact .s l
  | e0 => exact .e0
  | e1 t v => exact .e1 t v
  | x v hv => exact .x v hv
  | nil A c t => exact .nil A c t
  | sl b off c t l vs hb hc hm hr ih =>
    exact .sl b off c t l vs (h1 b hb) hc (fun i x j d h h' => by
      rw [World.cell?_of_block (w := w) (h2 b hb)]; exact hm i x j d h h') ih

/-- A row of cells in a block of ours: where it lies, what it holds. -/
structure RowAt (w : World) (b off cap sz n : Nat) (vs : Nat → Nat → Value) : Prop where
  out : ∃ arr T fr, w.heap[b]? = some (.cells arr T fr) ∧ (∀ o, o < arr.size → ¬ (fr.1 ≤ o ∧ o < fr.2)) ∧ arr.size = off + cap * sz ∧ n ≤ cap ∧
    ∀ i j, i < n → j < sz → arr[off + i * sz + j]? = some (vs i j)

theorem RowAt.mono {w w' : World} {b off cap sz n : Nat} {vs : Nat → Nat → Value} (h : RowAt w b off cap sz n vs) (e : w'.heap[b]? = w.heap[b]?) : RowAt w' b off cap sz n vs := by
  obtain ⟨arr, T, fr, h1, h2⟩ := h
  exact ⟨arr, T, fr, by rw [e]; exact h1, h2⟩

theorem RowAt.cell {w : World} {b off cap sz n : Nat} {vs : Nat → Nat → Value} (h : RowAt w b off cap sz n vs) {i j : Nat} (hi : i < n) (hj : j < sz) : w.cell? ⟨b, off + i * sz + j, none⟩ = some (vs i j) := by
  obtain ⟨arr, T, fr, h1, h2, h3, h4, h5⟩ := h
  simp only [World.cell?, h1]
  simpa using h5 i j hi hj
theorem RowAt.cap {w : World} {b off cap sz n : Nat} {vs : Nat → Nat → Value} (h : RowAt w b off cap sz n vs) : n ≤ cap := by
  obtain ⟨arr, T, fr, _, _, _, h4, _⟩ := h; exact h4

/-- The value is this tree, all of it in blocks of S, no block twice. -/
inductive Own (w : World) : Value → D → (Nat → Prop) → Prop
  | i (k : IntKind) (n : Int) (S : Nat → Prop) : Own w (.int k n) (.i k n) S
  | u (b : UInt8) (S : Nat → Prop) : Own w (.int .u8 b.toNat) (.u b) S
  | b (t : Bool) (S : Nat → Prop) : Own w (.bool t) (.b t) S
  | s (l : List UInt8) (S : Nat → Prop) : Own w (strV l) (.s l) S
  | e0 (S : Nat → Prop) : Own w .nilIface (.e true) S
  | e1 (t : TypeId) (v : Value) (S : Nat → Prop) : Own w (.iface t v) (.e false) S
  | x (v : Value) (h1 : v.oneCell' = true) (S : Nat → Prop) : Own w v (.x v) S
  | nil (A : Option Addr) (t : T) (S : Nat → Prop) : Own w (.slice A 0 0) (.sl t []) S
  | sl (S : Nat → Prop) (b off cap : Nat) (t : T) (l : List t.den) (vs : Nat → Nat → Value) (Sf : Nat → Nat → Nat → Prop)
      (hS : S b) (hm : RowAt w b off cap t.w l.length vs)
      (hsub : ∀ i j x, Sf i j x → S x ∧ x ≠ b)
      (hdis : ∀ i j i' j' x, Sf i j x → Sf i' j' x → i = i' ∧ j = j')
      (hr : ∀ (i : Nat) (x : t.den) (j : Nat) (d : D), l[i]? = some x → (cellsT t x)[j]? = some d → Own w (vs i j) d (Sf i j)) :
      Own w (.slice (some ⟨b, off, none⟩) l.length cap) (.sl t l) S

theorem Own.mono {w w' : World} {S S' : Nat → Prop} {v : Value} {d : D} (h : Own w v d S) (h1 : ∀ b, S b → S' b) (h2 : ∀ b, S b → w'.heap[b]? = w.heap[b]?) : Own w' v d S' := by
  induction h generalizing S' with
  | i k n => exact .i k n _
  | u b => exact .u b _
  | b t => exact .b t _
  | s l => exact .s l _
  | e0 => exact .e0 _
  | e1 t v => exact .e1 t v _
  | x v hv => exact .x v hv _
  | nil A t => exact .nil A t _
  | sl S b off cap t l vs Sf hS hm hsub hdis hr ih =>
    refine .sl S' b off cap t l vs Sf (h1 b hS) (hm.mono (h2 b hS)) (fun i j x hx => ⟨h1 x (hsub i j x hx).1, (hsub i j x hx).2⟩) hdis (fun i x j d h h' => ?_)
    exact ih i x j d h h' (fun b hb => hb) (fun b hb => h2 b (hsub i j b hb).1)

theorem get_lt {α : Type} {l : List α} {i : Nat} {x : α} (h : l[i]? = some x) : i < l.length := (List.getElem?_eq_some_iff.1 h).1
theorem cells_lt {t : T} {x : t.den} {j : Nat} {d : D} (h : (cellsT t x)[j]? = some d) : j < t.w := by
  have := get_lt h
  rwa [cellsT_len] at this

theorem Own.rd {w : World} {S : Nat → Prop} {v : Value} {d : D} (h : Own w v d S) : Rd w S v d := by
  induction h with
  | i k n => exact .i k n
  | u b => exact .u b
  | b t => exact .b t
  | s l => exact .s l
  | e0 => exact .e0
  | e1 t v => exact .e1 t v
  | x v hv => exact .x v hv
  | nil A t => exact .nil A 0 t
  | sl S b off cap t l vs Sf hS hm hsub hdis hr ih =>
    refine .sl b off cap t l vs hS hm.cap (fun i x j d h h' => ?_) (fun i x j d h h' => ?_)
    · exact hm.cell (get_lt h) (cells_lt h')
    · exact (ih i x j d h h').mono (fun b hb => (hsub i j b hb).1) (fun _ _ => rfl)

theorem scalar_rd {w : World} {ok : Nat → Prop} {v : Value} {d : D} (h : Rd w ok v d) (hs : d.scalar = true) (w' : World) (ok' : Nat → Prop) : Rd w' ok' v d := by
  cases h with
  | i k n => exact .i k n
  | u b => exact .u b
  | b t => exact .b t
  | s l => exact .s l
  | e0 => exact .e0
  | e1 t v => exact .e1 t v
  | x v hv => exact .x v hv
  | nil A c t => simp [D.scalar] at hs
  | sl => simp [D.scalar] at hs
theorem scalar_own {w : World} {ok : Nat → Prop} {v : Value} {d : D} (h : Rd w ok v d) (hs : d.scalar = true) (w' : World) (S : Nat → Prop) : Own w' v d S := by
  cases h with
  | i k n => exact .i k n _
  | u b => exact .u b _
  | b t => exact .b t _
  | s l => exact .s l _
  | e0 => exact .e0 _
  | e1 t v => exact .e1 t v _
  | x v hv => exact .x v hv _
  | nil A c t => simp [D.scalar] at hs
  | sl => simp [D.scalar] at hs

/-- The slice value that a handle stands for. -/
def HVal (l : Option (Nat × Nat × Nat)) (sz off n : Nat) (v : Value) : Prop :=
  match l with
  | none => n = 0 ∧ off = 0 ∧ ∃ A, v = .slice A 0 0
  | some (b, base, cap) => off + n ≤ cap ∧ ∃ A, v = .slice A n (cap - off) ∧ (0 < cap - off → A = some ⟨b, base + off * sz, none⟩)

/-- The blocks that a pointer which only reads may go to. -/
def okAt (fz : Nat → Prop) (So : Nat → Nat → Prop) : Option Nat → Nat → Prop
  | none => fz
  | some o => So o
mutual
/-- What a register's value is. fz: the frozen blocks; So: the objects' blocks; loc: where they lie. -/
def RegOK (w : World) (fz : Nat → Prop) (loc : Nat → Option (Nat × Nat × Nat)) (So : Nat → Nat → Prop) (objs : List (Nat × Ob)) : Value → AV → Prop
  | v, .d x => Rd w fz v x
  | v, .nil _ => v = .slice none 0 0
  | v, .vw o x => (klook objs o).isSome ∧ Rd w (So o) v x
  | v, .h o off n => ∃ ob, klook objs o = some ob ∧ off + n ≤ ob.len ∧ HVal (loc o) ob.sz off n v
  | v, .p o i j => ∃ ob b base cap, klook objs o = some ob ∧ loc o = some (b, base, cap) ∧ i < ob.len ∧ v = .pointer (some ⟨b, base + i * ob.sz + j, none⟩)
  | v, .rp o cs => ∃ b off, v = .pointer (some ⟨b, off, none⟩) ∧ (∀ o', o = some o' → (klook objs o').isSome) ∧
      (cs ≠ [] → okAt fz So o b) ∧
      ∃ vs : Nat → Value, ∀ (j : Nat) (d : D), cs[j]? = some d → w.cell? ⟨b, off + j, none⟩ = some (vs j) ∧ Rd w (okAt fz So o) (vs j) d
  | v, .rf a => ∃ b off u, v = .pointer (some ⟨b, off, none⟩) ∧ fz b ∧ w.cell? ⟨b, off, none⟩ = some u ∧ a.blind = true ∧ RegOK w fz loc So objs u a
  | v, .agg l => ∃ vs : List Value, v = .agg vs.toArray ∧ RegsOK w fz loc So objs vs l
  | v, .tup l => ∃ vs : List Value, v = .tuple vs.toArray ∧ RegsOK w fz loc So objs vs l
  | v, .clo f l => ∃ vs : List Value, v = .func (.func f) #[] vs.toArray ∧ RegsOK w fz loc So objs vs l
  | _, .junk => True
def RegsOK (w : World) (fz : Nat → Prop) (loc : Nat → Option (Nat × Nat × Nat)) (So : Nat → Nat → Prop) (objs : List (Nat × Ob)) : List Value → List AV → Prop
  | [], [] => True
  | v :: vs, a :: l => RegOK w fz loc So objs v a ∧ RegsOK w fz loc So objs vs l
  | _, _ => False
end

/-- What a cell of an object of ours is. -/
def CellOK (w : World) (fz : Nat → Prop) (loc : Nat → Option (Nat × Nat × Nat)) (So : Nat → Nat → Prop) (objs : List (Nat × Ob)) (v : Value) (c : CV) (S : Nat → Prop) : Prop :=
  match c with
  | .d x => Rd w fz v x
  | .own x => Own w v x S
  | .lent o => ∃ ob, klook objs o = some ob ∧ HVal (loc o) ob.sz 0 ob.len v
  | .fn a => a.blind = true ∧ v.oneCell' = true ∧ RegOK w fz loc So objs v a
  | .pb _ _ _ => False
  | .junk => True

/-- An object of ours in memory: l says where its row lies (none: it has none). -/
structure ObjOK (w : World) (fz : Nat → Prop) (loc : Nat → Option (Nat × Nat × Nat)) (So : Nat → Nat → Prop) (objs : List (Nat × Ob)) (l : Option (Nat × Nat × Nat)) (ob : Ob) (S : Nat → Prop) : Prop where
  none' : l = none → ob.len = 0
  some' : ∀ b off cap, l = some (b, off, cap) → S b ∧ ∃ (vs : Nat → Nat → Value) (Sf : Nat → Nat → Nat → Prop), RowAt w b off cap ob.sz ob.len vs ∧
    (∀ i j x, Sf i j x → S x ∧ x ≠ b) ∧ (∀ i j i' j' x, Sf i j x → Sf i' j' x → i = i' ∧ j = j') ∧
    ∀ (i j : Nat) (c : CV), ob.cell i j = some c → CellOK w fz loc So objs (vs i j) c (Sf i j)

end Go.Proofs.YtniakiefibpgmaaGreatDoorK
