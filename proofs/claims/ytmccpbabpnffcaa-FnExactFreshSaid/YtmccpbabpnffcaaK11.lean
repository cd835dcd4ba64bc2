/- Instructions that make memory. -/
import Derived.Test.YtmccpbabpnffcaaK10
set_option linter.unusedVariables false
set_option linter.unusedSimpArgs false
namespace Go.Proofs.YtmccpbabpnffcaaK
open Go.RowKit

section rep
variable {P : Program} {N : Nat} {w0 : World} {ok0 : Nat → Prop} {loc : Nat → Option (Nat × Nat × Nat)} {So : Nat → Nat → Prop} {Pd : Nat → Prop} {σ σ' : St} {a : Act} {w : World} {X : Nat → List DA → Option (Bool × RV)} {o : Oper}

theorem rd_one {ok : Nat → Prop} {v : Value} {d : D} (h : Rd w ok v d) : v.oneCell' = true := by
  cases h with
  | x v h1 => exact h1
  | _ => rfl
theorem own_one {S : Nat → Prop} {v : Value} {d : D} (h : Own w v d S) : v.oneCell' = true := by
  cases h with
  | x v h1 => exact h1
  | _ => rfl
theorem cell_one {fz S : Nat → Prop} {v : Value} {av : AV} (h : CellOK w fz v av S) (hj : av ≠ .junk) : v.oneCell' = true := by
  cases av with
  | d x => exact rd_one h
  | nil => simp only [CellOK] at h; subst h; rfl
  | own x => exact own_one h
  | junk => exact absurd rfl hj
  | _ => simp only [CellOK] at h
theorem cells_of_one {v : Value} (h : v.oneCell' = true) : v.cells = #[v] := by
  cases v <;> first | rfl | cases h

theorem cellOf_nojunk {av c : AV} (h : cellOf σ av = some (c, σ')) : c ≠ .junk := by
  cases av with
  | d x => simp only [cellOf, Option.some.injEq, Prod.mk.injEq] at h; rw [← h.1]; intro e; cases e
  | nil => simp only [cellOf, Option.some.injEq, Prod.mk.injEq] at h; rw [← h.1]; intro e; cases e
  | h o off n =>
    simp only [cellOf] at h
    obtain ⟨ob, _, h⟩ := Option.bind_eq_some_iff.1 h
    obtain ⟨es, _, h⟩ := Option.map_eq_some_iff.1 h
    simp only [Prod.mk.injEq] at h
    rw [← h.1]; intro e; cases e
  | _ => simp [cellOf] at h
theorem cellsOf_nojunk : ∀ {l : List AV} {σ σ' : St} {cs : List AV}, cellsOf l σ = some (cs, σ') → ∀ c ∈ cs, c ≠ .junk := by
  intro l
  induction l with
  | nil => intro σ σ' cs h c hc; simp only [cellsOf, Option.some.injEq, Prod.mk.injEq] at h; rw [← h.1] at hc; cases hc
  | cons av l ih =>
    intro σ σ' cs h c hc
    simp only [cellsOf] at h
    obtain ⟨⟨c', σ1⟩, h1, h⟩ := Option.bind_eq_some_iff.1 h
    obtain ⟨⟨cs', σ2⟩, h2, h⟩ := Option.map_eq_some_iff.1 h
    simp only [Prod.mk.injEq] at h
    rw [← h.1] at hc
    rcases List.mem_cons.1 hc with e | e
    · rw [e]; exact cellOf_nojunk h1
    · exact ih h2 c e

/-- What a register holds, cell by cell. -/
theorem reg_cells {v : Value} {av : AV} (hv : RegOK w (Fz w0 ok0 So Pd w) loc So σ.objs v av) (h : RepW N w0 ok0 loc So Pd σ a w) {cs : List AV} (hs : cellsOf av.cells σ = some (cs, σ')) :
    ∃ vs : List Value, v.cells = vs.toArray ∧ (∃ So' Pd' Sf, CellFit N w0 ok0 loc So Pd σ a w vs cs σ' So' Pd' Sf) ∧ ∀ u ∈ vs, u.oneCell' = true := by
  have fin : ∀ vs : List Value, (∃ So' Pd' Sf, CellFit N w0 ok0 loc So Pd σ a w vs cs σ' So' Pd' Sf) → ∀ u ∈ vs, u.oneCell' = true := by
    rintro vs ⟨So', Pd', Sf, f⟩ u hu
    obtain ⟨j, hj, rfl⟩ := List.getElem_of_mem hu
    have hj' : j < cs.length := by rw [f.len]; exact hj
    exact cell_one (f.cell j _ _ (List.getElem?_eq_getElem hj) (List.getElem?_eq_getElem hj')) (cellsOf_nojunk hs _ (List.getElem_mem hj'))
  have one : cellsOf [av] σ = some (cs, σ') → ∃ vs : List Value, v.cells = vs.toArray ∧ (∃ So' Pd' Sf, CellFit N w0 ok0 loc So Pd σ a w vs cs σ' So' Pd' Sf) ∧ ∀ u ∈ vs, u.oneCell' = true := fun hs => by
    have f := cellsOf_regs h (vs := [v]) (l := [av]) (by simp only [RegsOK]; exact ⟨hv, trivial⟩) hs
    have h1 := fin [v] f
    exact ⟨[v], by rw [cells_of_one (h1 v (by simp))], f, h1⟩
  cases av with
  | agg l =>
    simp only [RegOK] at hv
    obtain ⟨vs, rfl, hvs⟩ := hv
    have f := cellsOf_regs h hvs hs
    exact ⟨vs, rfl, f, fin vs f⟩
  | _ => exact one hs

/-- A new variable. -/
theorem new_ptr {vs : List Value} {cs : List AV} {σ1 : St} {So1 : Nat → Nat → Prop} {Pd1 : Nat → Prop} {Sf : Nat → Nat → Prop} (f : CellFit N w0 ok0 loc So Pd σ a w vs cs σ1 So1 Pd1 Sf) {d : Nat} (hn : d < N) (T : TypeId) :
    Rep N w0 ok0 ((σ1.new d ⟨cs.length, [cs]⟩).set d (.p d 0 0)) (a.put (some d) (.pointer (some ⟨w.heap.size, 0, none⟩))) (w.alloc (.cells vs.toArray T)) := by
  obtain ⟨So', Pd', hR⟩ := f.rep.new d 1 ⟨cs.length, [cs]⟩ vs.toArray T (fun _ j => vs.getD j undef) (fun i j x => i = 0 ∧ Sf j x) (by simp [f.len]) (by simp)
    (fun i j hi hj => by
      simp only [List.length_cons, List.length_nil] at hi
      have : i = 0 := by omega
      subst this
      simp only [Nat.zero_mul, Nat.zero_add, List.getElem?_toArray, List.getD_eq_getElem?_getD]
      have hj' : j < vs.length := by rw [← f.len]; exact hj
      simp [List.getElem?_eq_getElem hj'])
    (fun i cs' hi => by
      cases i with
      | zero => simp only [List.getElem?_cons_zero, Option.some.injEq] at hi; rw [← hi]
      | succ i => simp at hi)
    (fun i cs' j av hi hj => by
      cases i with
      | zero =>
        simp only [List.getElem?_cons_zero, Option.some.injEq] at hi
        subst hi
        have hj' : j < vs.length := by rw [← f.len]; exact getElem?_lt hj
        have := f.cell j _ av (List.getElem?_eq_getElem hj') hj
        simp only [List.getD_eq_getElem?_getD, List.getElem?_eq_getElem hj', Option.getD_some]
        exact this.mono (fun b hb => hb) (fun _ _ => rfl) (fun _ _ => rfl) |> fun q => by
          cases av <;> simp only [CellOK] at q ⊢ <;> first | exact q | exact q.mono (fun b hb => ⟨by first | rfl | trivial, hb⟩) (fun _ _ => rfl)
      | succ i => simp at hi)
    (fun i j x hx => by obtain ⟨q1, q2, q3, q4⟩ := f.sub j x hx.2; exact ⟨q4, q3, q1⟩)
    (fun i j i' j' x hx hx' => ⟨by rw [hx.1, hx'.1], f.dis j j' x hx.2 hx'.2⟩)
  refine ⟨_, So', Pd', hR.set hn ?_⟩
  simp only [RegOK, St.new]
  exact ⟨_, w.heap.size, 0, 1, klook_kput_same _ _ _, by simp, by simp, by simp⟩

end rep

def okM (P : Program) (N : Nat) (o : Oper) : I → Bool
  | .al d z => dstB o N d && (match o.op with | .alloc t => zeroB P t z | _ => false)
  | .bx d x => dstB o N d && (match o.op with | .box _ q => okO q x | _ => false)
  | _ => false

section rep
variable {P : Program} {N : Nat} {w0 : World} {ok0 : Nat → Prop} {loc : Nat → Option (Nat × Nat × Nat)} {So : Nat → Nat → Prop} {Pd : Nat → Prop} {σ σ' : St} {a : Act} {w : World} {X : Nat → List DA → Option (Bool × RV)} {o : Oper}

theorem zeroB_ok {t : Nat} {z : List AV} (h : zeroB P t z = true) : ∃ v, (zeroValue t).run P w = .ok v w ∧ okVs v.cells.toList z = true := by
  unfold zeroB at h
  split at h
  · rename_i i hi
    split at h
    · rename_i v hv
      exact ⟨v, by simp [zeroValue, typeInfo, hi, hv], h⟩
    · cases h
  · cases h

theorem ok_al (h : RepW N w0 ok0 loc So Pd σ a w) {d : Nat} {z : List AV} (hq : okM P N o (.al d z) = true) (hs : kstep X (.al d z) σ = some σ') : Outc P o a w (Rep N w0 ok0 σ') := by
  simp only [okM, Bool.and_eq_true] at hq
  obtain ⟨hd, hq⟩ := hq
  obtain ⟨hd, hn⟩ := dstB_ok hd
  split at hq
  · rename_i t hop
    obtain ⟨v, hv, hz⟩ := zeroB_ok (w := w) hq
    simp only [kstep] at hs
    obtain ⟨⟨cs, σ1⟩, hc, rfl⟩ := Option.map_eq_some_iff.1 hs
    obtain ⟨So1, Pd1, Sf, f⟩ := cellsOf_regs h (okVs_ok _ _ hz) hc
    refine .val (.pointer (some ⟨w.heap.size, 0, none⟩)) (w.alloc (.cells v.cells t)) ?_ ?_
    · simp [execOp, hop, Instr.alloc, hv, newVar, newRow]
    · rw [hd]
      have := new_ptr f hn t
      simpa using this
  · cases hq
theorem ok_bx (h : RepW N w0 ok0 loc So Pd σ a w) {d : Nat} {x : O} (hq : okM P N o (.bx d x) = true) (hs : kstep X (.bx d x) σ = some σ') : Outc P o a w (Rep N w0 ok0 σ') := by
  simp only [okM, Bool.and_eq_true] at hq
  obtain ⟨hd, hq⟩ := hq
  obtain ⟨hd, hn⟩ := dstB_ok hd
  split at hq
  · rename_i t q hop
    have hx := h.op hq
    simp only [kstep] at hs
    obtain ⟨⟨cs, σ1⟩, hc, rfl⟩ := Option.map_eq_some_iff.1 hs
    obtain ⟨vs, hvs, ⟨So1, Pd1, Sf, f⟩, _⟩ := reg_cells hx h hc
    refine .val (.pointer (some ⟨w.heap.size, 0, none⟩)) (w.alloc (.cells vs.toArray t)) ?_ ?_
    · simp [execOp, hop, Instr.box, newVar, newRow, hvs]
    · rw [hd]
      exact new_ptr f hn t
  · cases hq
end rep
end Go.Proofs.YtmccpbabpnffcaaK
