/- New variables. -/
import Derived.Test.YtniakiefibpgmaaGreatDoorJ10
set_option linter.unusedVariables false
set_option linter.unusedSimpArgs false
namespace Go.Proofs.YtniakiefibpgmaaGreatDoorK
open Go.RowKit

section rep
variable {N : Nat} {E : Ent} {loc : Nat → Option (Nat × Nat × Nat)} {So : Nat → Nat → Prop} {Pd : Nat → Prop} {σ σ' : St} {a : Act} {w : World}

theorem rd_one {ok : Nat → Prop} {v : Value} {d : D} (h : Rd w ok v d) : v.oneCell' = true := by
  cases h with
  | x v hv => exact hv
  | _ => rfl
theorem own_one {S : Nat → Prop} {v : Value} {d : D} (h : Own w v d S) : v.oneCell' = true := rd_one h.rd
theorem cells_of_one {v : Value} (h : v.oneCell' = true) : v.cells = #[v] := by
  cases v <;> first | rfl | simp [Value.oneCell'] at h

/-- What a register holds, cell by cell. -/
theorem reg_cells {fz : Bool} {v : Value} {av : AV} (hv : RegOK w (Fz E So Pd w) loc So σ.objs v av) (h : RepW N E loc So Pd σ a w) {ds : List D} (hs : cellsOf fz av.cells σ = some (ds, σ')) :
    ∃ vs : List Value, v.cells = vs.toArray ∧ (∃ So' Pd' Sf, CellFit N E loc So Pd σ a w fz vs ds σ' So' Pd' Sf) ∧ ∀ u ∈ vs, u.oneCell' = true := by
  have fin : ∀ vs : List Value, (∃ So' Pd' Sf, CellFit N E loc So Pd σ a w fz vs ds σ' So' Pd' Sf) → ∀ u ∈ vs, u.oneCell' = true := by
    rintro vs ⟨So', Pd', Sf, f⟩ u hu
    obtain ⟨j, hj, rfl⟩ := List.getElem_of_mem hu
    have hj' : j < ds.length := by rw [f.len]; exact hj
    have := f.cell j _ _ (List.getElem?_eq_getElem hj) (List.getElem?_eq_getElem hj')
    cases fz with
    | true => exact rd_one (by simpa using this)
    | false => exact own_one (by simpa using this)
  have one : cellsOf fz [av] σ = some (ds, σ') → ∃ vs : List Value, v.cells = vs.toArray ∧ (∃ So' Pd' Sf, CellFit N E loc So Pd σ a w fz vs ds σ' So' Pd' Sf) ∧ ∀ u ∈ vs, u.oneCell' = true := fun hs => by
    have f := cellsOf_regs h (vs := [v]) (l := [av]) (by simp only [RegsOK]; exact ⟨hv, trivial⟩) hs
    have h1 := fin [v] f
    exact ⟨[v], by rw [cells_of_one (h1 v (by simp))], f, h1⟩
  cases av with
  | agg l =>
    simp only [RegOK] at hv
    obtain ⟨vs, rfl, hvs⟩ := hv
    have f := cellsOf_regs h hvs hs
    exact ⟨vs, rfl, f, fin vs f⟩
  | _ => exact one hs

theorem ls_cell {t : T} {fz : Bool} {l : List t.den} {i j : Nat} {c : CV} (h : (Ob.ls t fz l 0 []).cell i j = some c) : ∃ x d, l[i]? = some x ∧ (cellsT t x)[j]? = some d ∧ c = if d.scalar then .d d else if fz then .d d else .own d := by
  simp only [Ob.cell] at h
  obtain ⟨x, hx, h⟩ := Option.bind_eq_some_iff.1 h
  obtain ⟨d, hd, rfl⟩ := Option.map_eq_some_iff.1 h
  exact ⟨x, d, hx, hd, cv_nohole fz j d (Nat.zero_le _)⟩
theorem ls_refs {t : T} {fz : Bool} {l : List t.den} {i j : Nat} {c : CV} (h : (Ob.ls t fz l 0 []).cell i j = some c) (o : Nat) : c.refs o = false := by
  obtain ⟨x, d, _, _, rfl⟩ := ls_cell h
  split
  · rfl
  · split <;> rfl
/-- A cell that was stored, in its object. -/
theorem cell_in {fz : Bool} {okf : Nat → Prop} {objs : List (Nat × Ob)} {v : Value} {d : D} {S : Nat → Prop} (h : if fz then Rd w okf v d else Own w v d S) : CellOK w okf loc So objs v (if d.scalar then .d d else if fz then .d d else .own d) S := by
  cases fz with
  | true => simp only [if_true] at h; split <;> exact h
  | false =>
    simp only [Bool.false_eq_true, if_false] at h
    split
    · rename_i hs; exact scalar_rd h.rd hs _ _
    · simp only [Bool.false_eq_true, if_false]; exact h

/-- A new variable. -/
theorem new_ptr {fz : Bool} {vs : List Value} {ds : List D} {σ1 : St} {So1 : Nat → Nat → Prop} {Pd1 : Nat → Prop} {Sf : Nat → Nat → Prop} (f : CellFit N E loc So Pd σ a w fz vs ds σ1 So1 Pd1 Sf) {t : T} {x : t.den} (hx : mkT t ds = some x) {d : Nat} (hn : d < N) (T : TypeId) :
    Rep N E ((σ1.new (nid d) (.ls t fz [x] 0 [])).set d (.p (nid d) 0 0)) (a.put (some d) (.pointer (some ⟨w.heap.size, 0, none⟩))) (w.alloc (.cells vs.toArray T)) := by
  have hcx := cells_mkT t ds x hx
  have hw : t.w = vs.length := by rw [← f.len, ← hcx, cellsT_len]
  obtain ⟨So', Pd', hR⟩ := f.rep.new (nid d) 1 (by simp [nid]) (.ls t fz [x] 0 []) vs.toArray T (fun _ j => vs.getD j undef) (fun i j y => i = 0 ∧ Sf j y) (by simp [Ob.sz, hw]) (by simp [Ob.len])
    (fun i j hi hj => by
      simp only [Ob.len, List.length_cons, List.length_nil] at hi
      have : i = 0 := by omega
      subst this
      simp only [Ob.sz, hw] at hj
      simp only [Nat.zero_mul, Nat.zero_add, List.getElem?_toArray, List.getD_eq_getElem?_getD]
      simp [List.getElem?_eq_getElem hj])
    (fun i j c hc => by
      refine ⟨?_, ls_refs hc _⟩
      obtain ⟨y, dd, h1, h2, rfl⟩ := ls_cell hc
      cases i with
      | zero =>
        simp only [List.getElem?_cons_zero, Option.some.injEq] at h1
        subst h1
        rw [hcx] at h2
        have hj : j < vs.length := by rw [← f.len]; exact get_lt h2
        have := f.cell j _ dd (List.getElem?_eq_getElem hj) h2
        simp only [List.getD_eq_getElem?_getD, List.getElem?_eq_getElem hj, Option.getD_some]
        refine cell_in ?_
        cases fz with
        | true => exact this
        | false => exact Own.mono this (fun b hb => ⟨by trivial, hb⟩) (fun _ _ => rfl)
      | succ i => simp at h1)
    (fun i j y hy => by obtain ⟨q1, q2, q3, q4⟩ := f.sub j y hy.2; exact ⟨q4, q3, q1⟩)
    (fun i j i' j' y hy hy' => ⟨by rw [hy.1, hy'.1], f.dis j j' y hy.2 hy'.2⟩)
  refine ⟨_, So', Pd', hR.set hn ?_⟩
  simp only [RegOK]
  exact ⟨_, w.heap.size, 0, 1, new_self _ _ _, by simp, by simp [Ob.len], by simp⟩

/-- A new variable of functions. -/
theorem new_fn (h : RepW N E loc So Pd σ a w) {v : Value} {av : AV} (hv : RegOK w (Fz E So Pd w) loc So σ.objs v av) (hb : av.blind = true) (h1 : v.oneCell' = true) {d : Nat} (hr : av.refs (nid d) = false) (hn : d < N) (T : TypeId) :
    Rep N E ((σ.new (nid d) (.fn av)).set d (.p (nid d) 0 0)) (a.put (some d) (.pointer (some ⟨w.heap.size, 0, none⟩))) (w.alloc (.cells #[v] T)) := by
  obtain ⟨So', Pd', hR⟩ := h.new (nid d) 1 (by simp [nid]) (.fn av) #[v] T (fun _ _ => v) (fun _ _ _ => False) (by simp [Ob.sz]) (by simp [Ob.len])
    (fun i j hi hj => by
      simp only [Ob.len, Ob.sz] at hi hj ⊢
      have : i = 0 := by omega
      have : j = 0 := by omega
      subst i j
      simp)
    (fun i j c hc => by
      simp only [Ob.cell] at hc
      split at hc
      · obtain rfl := Option.some.inj hc
        exact ⟨⟨hb, h1, hv⟩, hr⟩
      · cases hc)
    (fun i j y hy => hy.elim) (fun i j i' j' y hy => hy.elim)
  refine ⟨_, So', Pd', hR.set hn ?_⟩
  simp only [RegOK]
  exact ⟨_, w.heap.size, 0, 1, new_self _ _ _, by simp, by simp [Ob.len], by simp⟩

end rep

def okVZ (v : Value) : D → Bool
  | .sl _ l => l.isEmpty && okNil v
  | d => okVD v d
def okVZs : List Value → List D → Bool
  | [], [] => true
  | v :: vs, d :: ds => okVZ v d && okVZs vs ds
  | _, _ => false
/-- A type's zero value. -/
def zeroTB (P : Program) (t : TypeId) (ty : T) : Bool := match P.info? t with | some i => (match i.zero with | some v => okVZs v.cells.toList (cellsT ty ty.zero) | none => false) | none => false
def okM (P : Program) (N : Nat) (o : Oper) : I → Bool
  | .al d ty _ => dstB o N d && (match o.op with | .alloc t => zeroTB P t ty | _ => false)
  | .alf d => dstB o N d && (match o.op with | .alloc t => (match P.info? t with | some i => (match i.zero with | some .nilFunc => true | _ => false) | none => false) | _ => false)
  | .bx d _ _ x => dstB o N d && (match o.op with | .box _ q => okO q x | _ => false)
  | .bxf d x => dstB o N d && (match o.op with | .box _ q => okO q x | _ => false)
  | _ => false

section rep
variable {P : Program} {N : Nat} {E : Ent} {loc : Nat → Option (Nat × Nat × Nat)} {So : Nat → Nat → Prop} {Pd : Nat → Prop} {σ σ' : St} {a : Act} {w : World} {X : XF} {o : Oper}

theorem okVZ_ok {v : Value} {d : D} (h : okVZ v d = true) (fz : Bool) (ok S : Nat → Prop) : if fz then Rd w ok v d else Own w v d S := by
  cases d with
  | sl t l =>
    simp only [okVZ, Bool.and_eq_true, List.isEmpty_iff] at h
    obtain ⟨rfl, h⟩ := h
    rw [okNil_ok v h]
    cases fz with
    | true => exact .nil _ _ _
    | false => exact .nil _ _ _
  | _ =>
    simp only [okVZ] at h
    have hr : Rd w ok v _ := okVD_ok v _ h
    cases fz with
    | true => exact hr
    | false => exact scalar_own hr rfl _ _
theorem okVZs_get : ∀ {vs : List Value} {ds : List D}, okVZs vs ds = true → ds.length = vs.length ∧ ∀ (j : Nat) (v : Value) (d : D), vs[j]? = some v → ds[j]? = some d → okVZ v d = true
  | [], [], _ => ⟨rfl, fun j v d h => by simp at h⟩
  | [], _ :: _, h => by simp [okVZs] at h
  | _ :: _, [], h => by simp [okVZs] at h
  | v :: vs, d :: ds, h => by
    simp only [okVZs, Bool.and_eq_true] at h
    obtain ⟨h1, h2⟩ := okVZs_get h.2
    refine ⟨by simp [h1], fun j v' d' hv hd => ?_⟩
    cases j with
    | zero => simp only [List.getElem?_cons_zero, Option.some.injEq] at hv hd; subst hv hd; exact h.1
    | succ j => exact h2 j v' d' (by simpa using hv) (by simpa using hd)
/-- Cells that are the same everywhere. -/
theorem still_fit (h : RepW N E loc So Pd σ a w) {fz : Bool} {vs : List Value} {ds : List D} (hz : okVZs vs ds = true) : CellFit N E loc So Pd σ a w fz vs ds σ So Pd (fun _ _ => False) :=
  ⟨h, (okVZs_get hz).1, fun j v d hv hd => okVZ_ok ((okVZs_get hz).2 j v d hv hd) fz _ _, fun j x hx => hx.elim, fun j j' x hx => hx.elim, fun x hx => hx, fun x hx => hx, fun o ob ho => ⟨ob, ho, rfl, rfl, fun x hx => hx⟩, fun t v ht => .inr ht⟩
theorem castL_refl (t : T) (l : List t.den) : castL t t l = some l := by simp [castL]
theorem mkT_cells : ∀ (t : T) (x : t.den), mkT t (cellsT t x) = some x
  | .int _, x => by simp [mkT, cellsT, ofD]
  | .u8, x => by simp [mkT, cellsT, ofD]
  | .bool, x => by simp [mkT, cellsT, ofD]
  | .str, x => by simp [mkT, cellsT, ofD]
  | .sl _, x => by simp [mkT, cellsT, ofD, castL]
  | .pr a b, x => by
    simp only [mkT, cellsT]
    rw [List.take_left' (cellsT_len a x.1), List.drop_left' (cellsT_len a x.1), mkT_cells a, mkT_cells b]
    rfl
  | .node, .mk _ _ _ _ => by simp [mkT, cellsT, castL]
theorem zeroTB_ok {t : Nat} {ty : T} (h : zeroTB P t ty = true) : ∃ v, (zeroValue t).run P w = .ok v w ∧ okVZs v.cells.toList (cellsT ty ty.zero) = true := by
  unfold zeroTB at h
  split at h
  · rename_i i hi
    split at h
    · rename_i v hv
      exact ⟨v, by simp [zeroValue, typeInfo, hi, hv], h⟩
    · cases h
  · cases h

theorem ok_al (h : RepW N E loc So Pd σ a w) {d : Nat} {ty : T} {fz : Bool} (hq : okM P N o (.al d ty fz) = true) (hs : kstep X (.al d ty fz) σ = some σ') : Outc P o a w (Rep N E σ') := by
  simp only [okM, Bool.and_eq_true] at hq
  obtain ⟨hd, hq⟩ := hq
  obtain ⟨hd, hn⟩ := dstB_ok hd
  split at hq
  · rename_i t hop
    obtain ⟨v, hv, hz⟩ := zeroTB_ok (w := w) hq
    simp only [kstep, Option.some.injEq] at hs
    subst hs
    refine .val (.pointer (some ⟨w.heap.size, 0, none⟩)) (w.alloc (.cells v.cells t)) ?_ ?_
    · simp [execOp, hop, Instr.alloc, hv, newVar, newRow]
    · rw [hd]
      have := new_ptr (still_fit h (fz := fz) hz) (mkT_cells ty ty.zero) hn t
      simpa using this
  · cases hq
theorem ok_alf (h : RepW N E loc So Pd σ a w) {d : Nat} (hq : okM P N o (.alf d) = true) (hs : kstep X (.alf d) σ = some σ') : Outc P o a w (Rep N E σ') := by
  simp only [okM, Bool.and_eq_true] at hq
  obtain ⟨hd, hq⟩ := hq
  obtain ⟨hd, hn⟩ := dstB_ok hd
  split at hq
  · rename_i t hop
    split at hq
    · rename_i i hi
      split at hq
      · rename_i hz
        simp only [kstep, Option.some.injEq] at hs
        subst hs
        refine .val (.pointer (some ⟨w.heap.size, 0, none⟩)) (w.alloc (.cells #[.nilFunc] t)) ?_ ?_
        · have hv : (zeroValue t).run P w = .ok .nilFunc w := by simp [zeroValue, typeInfo, hi, hz]
          simp [execOp, hop, Instr.alloc, hv, newVar, newRow, Value.cells]
        · rw [hd]
          exact new_fn h (v := .nilFunc) (av := .junk) (by simp only [RegOK]) rfl rfl rfl hn t
      · cases hq
    · cases hq
  · cases hq
theorem ok_bx (h : RepW N E loc So Pd σ a w) {d : Nat} {ty : T} {fz : Bool} {x : O} (hq : okM P N o (.bx d ty fz x) = true) (hs : kstep X (.bx d ty fz x) σ = some σ') : Outc P o a w (Rep N E σ') := by
  simp only [okM, Bool.and_eq_true] at hq
  obtain ⟨hd, hq⟩ := hq
  obtain ⟨hd, hn⟩ := dstB_ok hd
  split at hq
  · rename_i t q hop
    have hx := h.op hq
    simp only [kstep] at hs
    obtain ⟨⟨cs, σ1⟩, hc, hs⟩ := Option.bind_eq_some_iff.1 hs
    obtain ⟨y, hy, rfl⟩ := Option.map_eq_some_iff.1 hs
    obtain ⟨vs, hvs, ⟨So1, Pd1, Sf, f⟩, _⟩ := reg_cells hx h hc
    refine .val (.pointer (some ⟨w.heap.size, 0, none⟩)) (w.alloc (.cells vs.toArray t)) ?_ ?_
    · simp [execOp, hop, Instr.box, newVar, newRow, hvs]
    · rw [hd]
      exact new_ptr f hy hn t
  · cases hq
theorem ok_bxf (h : RepW N E loc So Pd σ a w) {d : Nat} {x : O} (hq : okM P N o (.bxf d x) = true) (hs : kstep X (.bxf d x) σ = some σ') : Outc P o a w (Rep N E σ') := by
  simp only [okM, Bool.and_eq_true] at hq
  obtain ⟨hd, hq⟩ := hq
  obtain ⟨hd, hn⟩ := dstB_ok hd
  split at hq
  · rename_i t q hop
    have hx := h.op hq
    simp only [kstep] at hs
    split at hs
    · rename_i f l ex
      split at hs
      · rename_i hc
        obtain rfl := Option.some.inj hs
        rw [ex] at hx
        have hx' := hx
        simp only [RegOK] at hx
        obtain ⟨vs, hv, _⟩ := hx
        refine .val (.pointer (some ⟨w.heap.size, 0, none⟩)) (w.alloc (.cells #[a.eval q] t)) ?_ ?_
        · simp [execOp, hop, Instr.box, newVar, newRow, hv, Value.cells]
        · rw [hd]
          exact new_fn h hx' (by simp only [AV.blind]; exact hc.1) (by rw [hv]; rfl) (by simp only [AV.refs]; exact hc.2) hn t
      · cases hs
    · cases hs
  · cases hq
end rep
end Go.Proofs.YtniakiefibpgmaaGreatDoorK
