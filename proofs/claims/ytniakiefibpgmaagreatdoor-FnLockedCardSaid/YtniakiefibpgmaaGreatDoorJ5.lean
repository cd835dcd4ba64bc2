/- The checker: does an instruction say what an operation of the translation does? And the operations that change no memory. -/
import Derived.Test.YtniakiefibpgmaaGreatDoorJ4
set_option linter.unusedVariables false
set_option linter.unusedSimpArgs false
namespace Go.Proofs.YtniakiefibpgmaaGreatDoorK
open Go.RowKit

def okVi (k : IntKind) (n : Int) : Value → Bool
  | .int k' n' => k == k' && n == n'
  | _ => false
def okVb (t : Bool) : Value → Bool
  | .bool t' => t == t'
  | _ => false
def okVs' (l : List UInt8) : Value → Bool
  | .string s => s.data.toList == l
  | _ => false
def okNil : Value → Bool
  | .slice none 0 0 => true
  | _ => false
def okF (f : Nat) : Value → Bool
  | .func (.func f') ⟨[]⟩ ⟨[]⟩ => f == f'
  | _ => false
def aggOf : Value → Option (List Value)
  | .agg cs => some cs.toList
  | _ => none
def okX : Value → Value → Bool
  | .pointer none, .pointer none => true
  | .nilIface, .nilIface => true
  | _, _ => false
def okE : Value → Bool
  | .nilIface => true
  | _ => false
def okVD (v : Value) : D → Bool
  | .i k n => okVi k n v
  | .u b => okVi .u8 b.toNat v
  | .e b => b && okE v
  | .b t => okVb t v
  | .s l => okVs' l v
  | .x u => okX u v
  | .sl _ _ => false
mutual
def okV (v : Value) : AV → Bool
  | .d x => okVD v x
  | .nil _ => okNil v
  | .clo f l => l.isEmpty && okF f v
  | .agg l => match aggOf v with | some vs => okVs vs l | none => false
  | .junk => true
  | _ => false
def okVs : List Value → List AV → Bool
  | [], [] => true
  | v :: vs, a :: l => okV v a && okVs vs l
  | _, _ => false
end
def okO : Operand → O → Bool
  | .tmp n, .t m => n == m
  | .const v, .c av => okV v av
  | .func f, .c (.clo f' []) => f == f'
  | _, _ => false
def okOs : List Operand → List O → Bool
  | [], [] => true
  | x :: xs, o :: os => okO x o && okOs xs os
  | _, _ => false
def okOo : Option Operand → Option O → Bool
  | none, none => true
  | some x, some o => okO x o
  | _, _ => false

section
variable {w : World} {fz : Nat → Prop} {loc : Nat → Option (Nat × Nat × Nat)} {So : Nat → Nat → Prop} {objs : List (Nat × Ob)}
theorem okVD_ok (v : Value) (x : D) (h : okVD v x = true) : Rd w fz v x := by
  cases x with
  | i k n =>
    cases v with
    | int k' n' =>
      simp only [okVD, okVi, Bool.and_eq_true, beq_iff_eq] at h
      obtain ⟨rfl, rfl⟩ := h
      exact .i _ _
    | _ => cases h
  | u b =>
    cases v with
    | int k' n' =>
      simp only [okVD, okVi, Bool.and_eq_true, beq_iff_eq] at h
      obtain ⟨rfl, rfl⟩ := h
      exact .u _
    | _ => cases h
  | e b =>
    simp only [okVD, Bool.and_eq_true] at h
    obtain ⟨rfl, h⟩ := h
    cases v with
    | nilIface => exact .e0
    | _ => cases h
  | b t =>
    cases v with
    | bool t' =>
      simp only [okVD, okVb, beq_iff_eq] at h
      subst h
      exact .b _
    | _ => cases h
  | s l =>
    cases v with
    | string s =>
      simp only [okVD, okVs', beq_iff_eq] at h
      subst h
      have : Value.string s = strV s.data.toList := by simp [strV]
      rw [this]; exact .s _
    | _ => cases h
  | x u =>
    have : u = v ∧ u.oneCell' = true := by
      cases u with
      | pointer p => cases p with
        | none => cases v with
          | pointer q => cases q with
            | none => exact ⟨rfl, rfl⟩
            | some _ => cases h
          | _ => cases h
        | some _ => cases h
      | nilIface => cases v with
        | nilIface => exact ⟨rfl, rfl⟩
        | _ => cases h
      | _ => cases h
    obtain ⟨rfl, h1⟩ := this
    exact .x _ h1
  | sl t l => cases h
theorem okNil_ok (v : Value) (h : okNil v = true) : v = .slice none 0 0 := by
  unfold okNil at h
  split at h
  · rfl
  · cases h
theorem okF_ok (f : Nat) (v : Value) (h : okF f v = true) : v = .func (.func f) #[] #[] := by
  unfold okF at h
  split at h
  · rename_i f'
    have : f = f' := by simpa using h
    subst this; rfl
  · cases h
theorem aggOf_ok {v : Value} {vs : List Value} (h : aggOf v = some vs) : v = .agg vs.toArray := by
  cases v with
  | agg cs => simp only [aggOf, Option.some.injEq] at h; subst h; simp
  | _ => cases h
mutual
theorem okV_ok (v : Value) : ∀ (av : AV), okV v av = true → RegOK w fz loc So objs v av
  | .d x, hh => by simp only [RegOK]; exact okVD_ok v x hh
  | .nil _, hh => by simp only [RegOK]; exact okNil_ok v hh
  | .clo f l, hh => by
    simp only [okV, Bool.and_eq_true, List.isEmpty_iff] at hh
    obtain ⟨rfl, h2⟩ := hh
    simp only [RegOK]
    exact ⟨[], okF_ok f v h2, by simp only [RegsOK]⟩
  | .agg l, hh => by
    simp only [okV] at hh
    split at hh
    · rename_i vs hv
      simp only [RegOK]
      exact ⟨vs, aggOf_ok hv, okVs_ok vs l hh⟩
    · cases hh
  | .junk, _ => by simp only [RegOK]
  | .rf _, hh => by cases hh
  | .vw _ _, hh => by cases hh
  | .h _ _ _, hh => by cases hh
  | .p _ _ _, hh => by cases hh
  | .rp _ _, hh => by cases hh
  | .tup _, hh => by cases hh
theorem okVs_ok : ∀ (vs : List Value) (l : List AV), okVs vs l = true → RegsOK w fz loc So objs vs l
  | [], [], _ => by simp only [RegsOK]
  | [], _ :: _, hh => by simp [okVs] at hh
  | _ :: _, [], hh => by simp [okVs] at hh
  | v :: vs, a :: l, hh => by
    simp only [okVs, Bool.and_eq_true] at hh
    simp only [RegsOK]
    exact ⟨okV_ok v a hh.1, okVs_ok vs l hh.2⟩
end
end

section rep
variable {N : Nat} {E : Ent} {loc : Nat → Option (Nat × Nat × Nat)} {So : Nat → Nat → Prop} {Pd : Nat → Prop} {σ : St} {a : Act} {w : World}
theorem RepW.op (h : RepW N E loc So Pd σ a w) {x : Operand} {o : O} (hx : okO x o = true) : RegOK w (Fz E So Pd w) loc So σ.objs (a.eval x) (σ.op o) := by
  cases o with
  | t m =>
    cases x <;> simp [okO] at hx
    subst hx
    exact h.reg _
  | c av =>
    cases x with
    | const v => simp only [okO] at hx; exact okV_ok v av hx
    | func f =>
      unfold okO at hx
      split at hx <;> simp_all
      simp only [St.op, RegOK, Act.eval]
      exact ⟨[], by simp, by simp only [RegsOK]⟩
    | tmp t => simp [okO] at hx
    | global g => simp [okO] at hx
theorem RepW.ops (h : RepW N E loc So Pd σ a w) : ∀ {xs : List Operand} {os : List O}, okOs xs os = true → RegsOK w (Fz E So Pd w) loc So σ.objs (xs.map a.eval) (os.map σ.op)
  | [], [], _ => by simp only [List.map_nil, RegsOK]
  | [], _ :: _, h => by simp [okOs] at h
  | _ :: _, [], h => by simp [okOs] at h
  | x :: xs, o :: os, hx => by
    simp only [okOs, Bool.and_eq_true] at hx
    simp only [List.map_cons, RegsOK]
    exact ⟨h.op hx.1, h.ops hx.2⟩
end rep

/-- What an operation comes to. -/
inductive Outc (P : Program) (o : Oper) (a : Act) (w : World) (R : Act → World → Prop) : Prop
  | val (v : Value) (w' : World) (h : (execOp a.eval o).run P w = .ok (.value v) w') (r : R (a.put o.dst v) w')
  | skip (w' : World) (h : (execOp a.eval o).run P w = .ok .skip w') (r : R (a.put o.dst undef) w')
  | enter (f : FuncId) (args : Array Value) (w' : World) (h : (execOp a.eval o).run P w = .ok (.enter f args) w')
      (r : Calls P f args w' fun e w'' => ∃ v, e = .returned v ∧ R (a.put o.dst v) w'')

theorem Outc.wp {P : Program} {o : Oper} {a : Act} {w : World} {R : Act → World → Prop} (h : Outc P o a w R) (Q : Exit → Act → World → Prop) : o.wp P a w R Q := by
  unfold Oper.wp
  cases h with
  | val v w' h r => rw [h]; exact r
  | skip w' h r => rw [h]; exact r
  | enter f args w' h r =>
    rw [h]
    simp only [Oper.upon]
    exact r.mono fun e w'' ⟨v, he, hr⟩ => by subst he; exact hr

/-! ### What the types say -/
def szB (P : Program) (t : TypeId) (sz : Nat) : Bool := match P.info? t with | some i => i.size == sz | none => false
def aggB (P : Program) (t : TypeId) (ag : Bool) : Bool := match P.underlying t with | some (.struct _) => ag | some (.array _ _) => ag | some _ => !ag | none => false
theorem szB_ok {P : Program} {t : TypeId} {sz : Nat} (h : szB P t sz = true) (w : World) : (sizeOf t).run P w = .ok sz w := by
  unfold szB at h
  split at h
  · rename_i i hi
    simp only [beq_iff_eq] at h
    simp [sizeOf, typeInfo, hi, h]
  · cases h
theorem aggB_ok {P : Program} {t : TypeId} {ag : Bool} (h : aggB P t ag = true) (w : World) : (isAgg t).run P w = .ok ag w := by
  unfold aggB at h
  cases hu : P.underlying t with
  | none => rw [hu] at h; cases h
  | some d =>
    rw [hu] at h
    cases d <;> simp_all [isAgg, underlying]

theorem add_plain (b o j : Nat) : (⟨b, o, none⟩ : Addr).add j = ⟨b, o + j, none⟩ := by unfold Addr.add; split <;> simp_all

theorem run_loadVar_ag {P : Program} {w : World} {t : TypeId} {sz : Nat} (hs : szB P t sz = true) (hg : aggB P t true = true) (b o : Nat) (vs : List Value) (hl : vs.length = sz)
    (h : ∀ (j : Nat) (v : Value), vs[j]? = some v → w.cell? ⟨b, o + j, none⟩ = some v) : (loadVar t ⟨b, o, none⟩).run P w = .ok (.agg vs.toArray) w := by
  unfold loadVar
  have h1 := run_loadCells_list (P := P) w ⟨b, o, none⟩ vs (fun j v hj => by rw [add_plain]; exact h j v hj)
  rw [hl] at h1
  simp [aggB_ok hg, szB_ok hs, h1]
theorem run_loadVar_one {P : Program} {w : World} {t : TypeId} (hg : aggB P t false = true) (b o : Nat) (v : Value)
    (h : w.cell? ⟨b, o, none⟩ = some v) : (loadVar t ⟨b, o, none⟩).run P w = .ok v w := by
  unfold loadVar
  simp [aggB_ok hg, h]

end Go.Proofs.YtniakiefibpgmaaGreatDoorK
