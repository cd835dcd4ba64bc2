/- Reading and owning trees in memory: the two relations between values and data, and how they outlast what the world does. -/
import Derived.Test.YtmccpbabpnffcaaK1
import Derived.Below
set_option linter.unusedVariables false
set_option linter.unusedSimpArgs false
namespace Go.Proofs.YtmccpbabpnffcaaK

def strV (l : List UInt8) : Value := .string ⟨l.toArray⟩

/-- The value reads as this, by blocks of a kind alone. -/
inductive Rd (w : World) (ok : Nat → Prop) : Value → D → Prop
  | i (k : IntKind) (n : Int) : Rd w ok (.int k n) (.i k n)
  | b (t : Bool) : Rd w ok (.bool t) (.b t)
  | s (l : List UInt8) : Rd w ok (strV l) (.s l)
  | x (v : Value) (h1 : v.oneCell' = true) : Rd w ok v (.x v)
  | nil (A : Option Addr) (c : Nat) : Rd w ok (.slice A 0 c) (.sl [])
  | sl (b off sz c : Nat) (es : List (List D)) (vs : Nat → Nat → Value) (hb : ok b) (hc : es.length ≤ c)
      (hz : ∀ (i : Nat) (cs : List D), es[i]? = some cs → cs.length = sz)
      (hm : ∀ (i : Nat) (cs : List D) (j : Nat) (d : D), es[i]? = some cs → cs[j]? = some d → w.cell? ⟨b, off + i * sz + j, none⟩ = some (vs i j))
      (hr : ∀ (i : Nat) (cs : List D) (j : Nat) (d : D), es[i]? = some cs → cs[j]? = some d → Rd w ok (vs i j) d) :
      Rd w ok (.slice (some ⟨b, off, none⟩) es.length c) (.sl es)

theorem Rd.mono {w w' : World} {ok ok' : Nat → Prop} (h1 : ∀ b, ok b → ok' b) (h2 : ∀ b, ok b → w'.heap[b]? = w.heap[b]?) {v : Value} {d : D} (h : Rd w ok v d) : Rd w' ok' v d := by
  induction h with
  | i k n => exact .i k n
  | b t => exact .b t
  | s l => exact .s l
  | x v hv => exact .x v hv
  | nil A c => exact .nil A c
  | sl b off sz c es vs hb hc hz hm hr ih =>
    exact .sl b off sz c es vs (h1 b hb) hc hz (fun i cs j d h h' => by
      rw [World.cell?_of_block (w := w) (h2 b hb)]; exact hm i cs j d h h') ih

/-- A row of cells in a block of ours: where it lies, what it holds. -/
structure RowAt (w : World) (b off cap sz n : Nat) (vs : Nat → Nat → Value) : Prop where
  out : ∃ arr T fr, w.heap[b]? = some (.cells arr T fr) ∧ (∀ o, o < arr.size → ¬ (fr.1 ≤ o ∧ o < fr.2)) ∧ arr.size = off + cap * sz ∧ n ≤ cap ∧
    ∀ i j, i < n → j < sz → arr[off + i * sz + j]? = some (vs i j)

theorem RowAt.mono {w w' : World} {b off cap sz n : Nat} {vs : Nat → Nat → Value} (h : RowAt w b off cap sz n vs) (e : w'.heap[b]? = w.heap[b]?) : RowAt w' b off cap sz n vs := by
  obtain ⟨arr, T, fr, h1, h2⟩ := h
  exact ⟨arr, T, fr, by rw [e]; exact h1, h2⟩

theorem RowAt.cell {w : World} {b off cap sz n : Nat} {vs : Nat → Nat → Value} (h : RowAt w b off cap sz n vs) {i j : Nat} (hi : i < n) (hj : j < sz) : w.cell? ⟨b, off + i * sz + j, none⟩ = some (vs i j) := by
  obtain ⟨arr, T, fr, h1, h2, h3, h4, h5⟩ := h
  simp only [World.cell?, h1]
  simpa using h5 i j hi hj

/-- The value is this tree, all of it in blocks of S, no block twice. -/
inductive Own (w : World) : Value → D → (Nat → Prop) → Prop
  | i (k : IntKind) (n : Int) (S : Nat → Prop) : Own w (.int k n) (.i k n) S
  | b (t : Bool) (S : Nat → Prop) : Own w (.bool t) (.b t) S
  | s (l : List UInt8) (S : Nat → Prop) : Own w (strV l) (.s l) S
  | x (v : Value) (h1 : v.oneCell' = true) (S : Nat → Prop) : Own w v (.x v) S
  | nil (A : Option Addr) (S : Nat → Prop) : Own w (.slice A 0 0) (.sl []) S
  | sl (S : Nat → Prop) (b off sz cap : Nat) (es : List (List D)) (vs : Nat → Nat → Value) (Sf : Nat → Nat → Nat → Prop)
      (hS : S b) (hm : RowAt w b off cap sz es.length vs) (hz : ∀ (i : Nat) (cs : List D), es[i]? = some cs → cs.length = sz)
      (hsub : ∀ i j x, Sf i j x → S x ∧ x ≠ b)
      (hdis : ∀ i j i' j' x, Sf i j x → Sf i' j' x → i = i' ∧ j = j')
      (hr : ∀ (i : Nat) (cs : List D) (j : Nat) (d : D), es[i]? = some cs → cs[j]? = some d → Own w (vs i j) d (Sf i j)) :
      Own w (.slice (some ⟨b, off, none⟩) es.length cap) (.sl es) S

theorem Own.mono {w w' : World} {S S' : Nat → Prop} {v : Value} {d : D} (h : Own w v d S) (h1 : ∀ b, S b → S' b) (h2 : ∀ b, S b → w'.heap[b]? = w.heap[b]?) : Own w' v d S' := by
  induction h generalizing S' with
  | i k n => exact .i k n _
  | b t => exact .b t _
  | s l => exact .s l _
  | x v hv => exact .x v hv _
  | nil A => exact .nil A _
  | sl S b off sz cap es vs Sf hS hm hz hsub hdis hr ih =>
    refine .sl S' b off sz cap es vs Sf (h1 b hS) (hm.mono (h2 b hS)) hz (fun i j x hx => ⟨h1 x (hsub i j x hx).1, (hsub i j x hx).2⟩) hdis (fun i cs j d h h' => ?_)
    exact ih i cs j d h h' (fun b hb => hb) (fun b hb => h2 b (hsub i j b hb).1)

theorem Own.rd {w : World} {S : Nat → Prop} {v : Value} {d : D} (h : Own w v d S) : Rd w S v d := by
  induction h with
  | i k n => exact .i k n
  | b t => exact .b t
  | s l => exact .s l
  | x v hv => exact .x v hv
  | nil A => exact .nil A 0
  | sl S b off sz cap es vs Sf hS hm hz hsub hdis hr ih =>
    have hcap : es.length ≤ cap := by obtain ⟨arr, T, fr, _, _, _, h4, _⟩ := hm; exact h4
    refine .sl b off sz cap es vs hS hcap hz (fun i cs j d h h' => ?_) (fun i cs j d h h' => ?_)
    · have hi : i < es.length := by
        rcases Nat.lt_or_ge i es.length with q | q
        · exact q
        · rw [List.getElem?_eq_none q] at h; cases h
      have hj : j < sz := by
        rw [← hz i cs h]
        rcases Nat.lt_or_ge j cs.length with q | q
        · exact q
        · rw [List.getElem?_eq_none q] at h'; cases h'
      exact hm.cell hi hj
    · exact (ih i cs j d h h').mono (fun b hb => (hsub i j b hb).1) (fun _ _ => rfl)

theorem scalar_rd {w : World} {ok : Nat → Prop} {v : Value} {d : D} (h : Rd w ok v d) (hs : d.scalar = true) (w' : World) (ok' : Nat → Prop) : Rd w' ok' v d := by
  cases h with
  | i k n => exact .i k n
  | b t => exact .b t
  | s l => exact .s l
  | x v hv => exact .x v hv
  | nil A c => simp [D.scalar] at hs
  | sl => simp [D.scalar] at hs
theorem scalar_own {w : World} {ok : Nat → Prop} {v : Value} {d : D} (h : Rd w ok v d) (hs : d.scalar = true) (w' : World) (S : Nat → Prop) : Own w' v d S := by
  cases h with
  | i k n => exact .i k n _
  | b t => exact .b t _
  | s l => exact .s l _
  | x v hv => exact .x v hv _
  | nil A c => simp [D.scalar] at hs
  | sl => simp [D.scalar] at hs

/-- What a cell of an object of ours is. -/
def CellOK (w : World) (fz : Nat → Prop) (v : Value) (av : AV) (S : Nat → Prop) : Prop :=
  match av with
  | .d x => Rd w fz v x
  | .nil => v = .slice none 0 0
  | .own x => Own w v x S
  | .junk => True
  | _ => False
theorem CellOK.mono {w w' : World} {fz fz' S : Nat → Prop} {v : Value} {av : AV} (h : CellOK w fz v av S) (h1 : ∀ b, fz b → fz' b) (h2 : ∀ b, fz b → w'.heap[b]? = w.heap[b]?) (h3 : ∀ b, S b → w'.heap[b]? = w.heap[b]?) : CellOK w' fz' v av S := by
  cases av <;> simp only [CellOK] at h ⊢
  · exact h.mono h1 h2
  · exact h
  · exact h.mono (fun _ h => h) h3

/-- An object of ours in memory: l says where its row lies (none: it has none). -/
structure ObjOK (w : World) (fz : Nat → Prop) (l : Option (Nat × Nat × Nat)) (ob : Ob) (S : Nat → Prop) : Prop where
  size : ∀ (i : Nat) (cs : List AV), ob.es[i]? = some cs → cs.length = ob.sz
  none' : l = none → ob.es = []
  some' : ∀ b off cap, l = some (b, off, cap) → S b ∧ ∃ (vs : Nat → Nat → Value) (Sf : Nat → Nat → Nat → Prop), RowAt w b off cap ob.sz ob.es.length vs ∧
    (∀ i j x, Sf i j x → S x ∧ x ≠ b) ∧ (∀ i j i' j' x, Sf i j x → Sf i' j' x → i = i' ∧ j = j') ∧
    ∀ (i : Nat) (cs : List AV) (j : Nat) (av : AV), ob.es[i]? = some cs → cs[j]? = some av → CellOK w fz (vs i j) av (Sf i j)
theorem ObjOK.mono {w w' : World} {fz fz' S : Nat → Prop} {l : Option (Nat × Nat × Nat)} {ob : Ob} (h : ObjOK w fz l ob S) (h1 : ∀ b, fz b → fz' b) (h2 : ∀ b, fz b → w'.heap[b]? = w.heap[b]?) (h3 : ∀ b, S b → w'.heap[b]? = w.heap[b]?) : ObjOK w' fz' l ob S := by
  refine ⟨h.size, h.none', fun b off cap e => ?_⟩
  obtain ⟨hb, vs, Sf, hr, hs, hd, hc⟩ := h.some' b off cap e
  exact ⟨hb, vs, Sf, hr.mono (h3 b hb), hs, hd, fun i cs j av p q => (hc i cs j av p q).mono h1 h2 (fun b hb => h3 b (hs i j b hb).1)⟩

/-- The slice value that a handle stands for. -/
def HVal (l : Option (Nat × Nat × Nat)) (sz off n : Nat) (v : Value) : Prop :=
  match l with
  | none => n = 0 ∧ off = 0 ∧ ∃ A, v = .slice A 0 0
  | some (b, base, cap) => off + n ≤ cap ∧ ∃ A, v = .slice A n (cap - off) ∧ (0 < cap - off → A = some ⟨b, base + off * sz, none⟩)

/-- The blocks that a pointer which only reads may go to. -/
def okAt (fz : Nat → Prop) (So : Nat → Nat → Prop) : Option Nat → Nat → Prop
  | none => fz
  | some o => So o
mutual
/-- What a register's value is. fz: the frozen blocks; So: the objects' blocks; loc: where they lie. -/
def RegOK (w : World) (fz : Nat → Prop) (loc : Nat → Option (Nat × Nat × Nat)) (So : Nat → Nat → Prop) (objs : List (Nat × Ob)) : Value → AV → Prop
  | v, .d x => Rd w fz v x
  | v, .nil => v = .slice none 0 0
  | _, .own _ => False
  | v, .vw o x => (klook objs o).isSome ∧ Rd w (So o) v x
  | v, .h o off n => ∃ ob, klook objs o = some ob ∧ off + n ≤ ob.es.length ∧ HVal (loc o) ob.sz off n v
  | v, .p o i j => ∃ ob b base cap, klook objs o = some ob ∧ loc o = some (b, base, cap) ∧ i < ob.es.length ∧ v = .pointer (some ⟨b, base + i * ob.sz + j, none⟩)
  | v, .rp o cs => ∃ b off, v = .pointer (some ⟨b, off, none⟩) ∧ (∀ o', o = some o' → (klook objs o').isSome) ∧
      (cs ≠ [] → okAt fz So o b) ∧
      ∃ vs : Nat → Value, ∀ (j : Nat) (d : D), cs[j]? = some d → w.cell? ⟨b, off + j, none⟩ = some (vs j) ∧ Rd w (okAt fz So o) (vs j) d
  | v, .agg l => ∃ vs : List Value, v = .agg vs.toArray ∧ RegsOK w fz loc So objs vs l
  | v, .tup l => ∃ vs : List Value, v = .tuple vs.toArray ∧ RegsOK w fz loc So objs vs l
  | v, .clo f l => ∃ vs : List Value, v = .func (.func f) #[] vs.toArray ∧ RegsOK w fz loc So objs vs l
  | _, .junk => True
def RegsOK (w : World) (fz : Nat → Prop) (loc : Nat → Option (Nat × Nat × Nat)) (So : Nat → Nat → Prop) (objs : List (Nat × Ob)) : List Value → List AV → Prop
  | [], [] => True
  | v :: vs, a :: l => RegOK w fz loc So objs v a ∧ RegsOK w fz loc So objs vs l
  | _, _ => False
end

end Go.Proofs.YtmccpbabpnffcaaK
