/- Appends. -/
import Derived.Test.YtniakiefibpgmaaGreatDoorJ13
set_option linter.unusedVariables false
set_option linter.unusedSimpArgs false
namespace Go.Proofs.YtniakiefibpgmaaGreatDoorK
open Go.RowKit

def app2B (P : Program) (t u : TypeId) (sz bytes : Nat) : Bool :=
  match P.underlying t with
  | some (.slice e) => (match P.info? e with | some i => i.size == sz && i.bytes == bytes && decide (0 < bytes) && decide (0 < sz) && (match i.zero with | some z => z.cells.size == sz | none => false) | none => false) &&
      (match P.underlying u with | some (.slice _) => true | some .string => true | _ => false)
  | _ => false

theorem app2B_ok {P : Program} {t u : TypeId} {sz bytes : Nat} (h : app2B P t u sz bytes = true) :
    ∃ e i z, P.underlying t = some (.slice e) ∧ P.info? e = some i ∧ i.size = sz ∧ i.bytes = bytes ∧ 0 < bytes ∧ 0 < sz ∧ i.zero = some z ∧ z.cells.size = sz ∧
      ((∃ e', P.underlying u = some (.slice e')) ∨ P.underlying u = some .string) := by
  unfold app2B at h
  split at h
  · rename_i e he
    simp only [Bool.and_eq_true] at h
    obtain ⟨h1, h2⟩ := h
    split at h1
    · rename_i i hi
      simp only [Bool.and_eq_true, beq_iff_eq, decide_eq_true_eq] at h1
      obtain ⟨⟨⟨⟨q1, q2⟩, q3⟩, q4⟩, q5⟩ := h1
      split at q5
      · rename_i z hz
        refine ⟨e, i, z, he, hi, q1, q2, q3, q4, hz, by simpa using q5, ?_⟩
        split at h2
        · exact .inl ⟨_, by assumption⟩
        · exact .inr (by assumption)
        · cases h2
      · cases q5
    · cases h1
  · cases h

section runs
variable {P : Program} {w : World}

theorem run_zeros {u : TypeId} (h : (∃ e', P.underlying u = some (.slice e')) ∨ P.underlying u = some .string) : ∃ d, P.underlying u = some d ∧ ∀ k, d ≠ .int k := by
  rcases h with ⟨e, h⟩ | h
  · exact ⟨_, h, fun k => by simp⟩
  · exact ⟨_, h, fun k => by simp⟩

theorem run_app_room {t u e ty : TypeId} {i : TypeInfo} {x : Value} {n : Nat} {nv : List Value} (ht : P.underlying t = some (.slice e)) (hi : P.info? e = some i) (hu : (∃ e', P.underlying u = some (.slice e')) ∨ P.underlying u = some .string)
    (hlen : (Builtin.lenOf x).run P w = .ok n w) (hf : (Builtin.firstCells i.size n x).run P w = .ok nv.toArray w) (A : Option Addr) {sLen sCap : Nat} (hroom : sLen + n ≤ sCap) :
    (Builtin.append_ #[t, u] ty #[.slice A sLen sCap, x]).run P w =
      match A with
      | none => .ok (.slice none (sLen + n) sCap) w
      | some ad => ((storeCells (ad.add (sLen * i.size)) nv 0).run P w).andThen fun _ w' => .ok (.slice (some ad) (sLen + n) sCap) w' := by
  rcases hu with ⟨e', hu⟩ | hu <;> cases A <;> simp [Builtin.append_, run_underlying ht, run_underlying hu, sizeOf, typeInfo, hi, hlen, hf, hroom]

theorem run_app_grow {t u e ty : TypeId} {i : TypeInfo} {z : Value} {x : Value} {n : Nat} {ov nv : List Value} (ht : P.underlying t = some (.slice e)) (hi : P.info? e = some i) (hz : i.zero = some z) (hu : (∃ e', P.underlying u = some (.slice e')) ∨ P.underlying u = some .string)
    (hlen : (Builtin.lenOf x).run P w = .ok n w) (hf : (Builtin.firstCells i.size n x).run P w.drew = .ok nv.toArray w.drew) (A : Option Addr) {sLen sCap : Nat} (ho : (Builtin.firstCells i.size sLen (.slice A sLen sCap)).run P w.drew = .ok ov.toArray w.drew) (hroom : ¬ sLen + n ≤ sCap)
    (hb : 0 < i.bytes) (hfit : Builtin.nextslicecap (sLen + n) sCap * i.bytes ≤ 281474976710656) :
    (Builtin.append_ #[t, u] ty #[.slice A sLen sCap, x]).run P w =
      .ok (.slice (some ⟨w.heap.size, 0, none⟩) (sLen + n) (grownCap w (sLen + n) sCap e)) (w.drew.alloc (.cells (ov.toArray ++ nv.toArray ++ Builtin.zeroCells z.cells (grownCap w (sLen + n) sCap e - (sLen + n))) e)) := by
  have h1 : ¬ (281474976710656 < Builtin.nextslicecap (sLen + n) sCap * i.bytes) := by omega
  have h2 : ¬ i.bytes = 0 := by omega
  rcases hu with ⟨e', hu⟩ | hu <;>
    simp [Builtin.append_, run_underlying ht, run_underlying hu, sizeOf, typeInfo, zeroValue, hi, hz, hlen, hf, ho, hroom, h1, h2, Question.forced, newRow, grownCap] <;>
    (congr 2; apply Array.ext'; simp [List.append_assoc])
end runs

section rep
variable {P : Program} {N : Nat} {E : Ent} {loc : Nat → Option (Nat × Nat × Nat)} {So : Nat → Nat → Prop} {Pd : Nat → Prop} {σ σ' : St} {a : Act} {w : World} {X : XF} {o : Oper}

def okA (P : Program) (N : Nat) (o : Oper) : I → Bool
  | .app d ty _ bytes x y => dstB o N d && (match o.op with | .call ⟨.builtin .append, ⟨[q, r]⟩, ⟨[t, u]⟩⟩ => okO q x && okO r y && app2B P t u ty.w bytes | _ => false)
  | _ => false

/-- A cell fits as frozen data, or as its own. -/
def FitC (w : World) (fz : Bool) (okf S : Nat → Prop) (v : Value) (d : D) : Prop := if fz then Rd w okf v d else Own w v d S
theorem FitC.mono {w w' : World} {fz : Bool} {okf okf' S S' : Nat → Prop} {v : Value} {d : D} (h : FitC w fz okf S v d) (h1 : ∀ b, okf b → okf' b ∧ w'.heap[b]? = w.heap[b]?) (h2 : ∀ b, S b → S' b ∧ w'.heap[b]? = w.heap[b]?) : FitC w' fz okf' S' v d := by
  cases fz with
  | true => exact Rd.mono (fun b hb => (h1 b hb).1) (fun b hb => (h1 b hb).2) h
  | false => exact Own.mono h (fun b hb => (h2 b hb).1) (fun b hb => (h2 b hb).2)

/-- A row that grew: an object, out of old cells and new ones. -/
theorem grown_ok {x : Value} {t : T} {fz : Bool} {new : List t.den} {σ1 : St} {So1 : Nat → Nat → Prop} {Pd1 : Nat → Prop} {nv : List Value} {Sf1 : Nat → Nat → Nat → Prop}
    (f : SrcFit P N E loc So Pd σ a w x t fz new σ1 So1 Pd1 nv Sf1) {old : List t.den} {ov : List Value} {So2 : Nat → Nat → Prop} {Pd2 : Nat → Prop} {σ2 : St} {Sf2 : Nat → Nat → Nat → Prop} (hR : RepW N E loc So2 Pd2 σ2 a w)
    (hov : ov.length = old.length * t.w)
    (hcell : ∀ (i : Nat) (y : t.den) (j : Nat) (d : D), old[i]? = some y → (cellsT t y)[j]? = some d → FitC w fz (Fz E So2 Pd2 w) (Sf2 i j) (ov.getD (i * t.w + j) undef) d)
    (hsub : ∀ i j x, Sf2 i j x → Pd2 x ∧ ¬ Pd1 x ∧ E.mine x ∧ x < w.heap.size) (hdis : ∀ i j i' j' x, Sf2 i j x → Sf2 i' j' x → i = i' ∧ j = j')
    (hfz : ∀ x, Fz E So1 Pd1 w x → Fz E So2 Pd2 w x) (hpd : ∀ x, Pd1 x → Pd2 x)
    {o' : Nat} (ho' : 64 ≤ o') (cap : Nat) (T : TypeId) (zs : Array Value) (hcap : old.length + new.length ≤ cap) (hzs : zs.size = (cap - (old.length + new.length)) * t.w) {d : Nat} (hn : d < N) :
    Rep N E ((σ2.new o' (.ls t fz (old ++ new) 0 [])).set d (.h o' 0 (old.length + new.length))) (a.put (some d) (.slice (some ⟨w.heap.size, 0, none⟩) (old.length + new.length) cap)) (w.drew.alloc (.cells (ov.toArray ++ nv.toArray ++ zs) T)) := by
  have hRd : RepW N E loc So2 Pd2 σ2 a w.drew := hR.below (Below.drew (Below.refl _ _))
  have hnl := f.len
  obtain ⟨So', Pd', hfin⟩ := hRd.new o' cap ho' (.ls t fz (old ++ new) 0 []) (ov.toArray ++ nv.toArray ++ zs) T
    (fun i j => if i < old.length then ov.getD (i * t.w + j) undef else nv.getD ((i - old.length) * t.w + j) undef)
    (fun i j x => if i < old.length then Sf2 i j x else Sf1 (i - old.length) j x)
    (by
      simp only [Array.size_append, List.size_toArray, hov, hnl, hzs, Ob.sz, ← Nat.add_mul]
      congr 1
      omega)
    (by simpa [Ob.len] using hcap)
    (fun i j hi hj => by
      simp only [Ob.len, List.length_append] at hi
      simp only [Ob.sz] at hj ⊢
      by_cases hlo : i < old.length
      · have h1 := idx_lt hlo hj
        rw [if_pos hlo, Array.getElem?_append_left (by simp; omega), Array.getElem?_append_left (by simp; omega)]
        simp [List.getElem?_eq_getElem (show i * t.w + j < ov.length by omega)]
      · have h1 := idx_lt (show i - old.length < new.length by omega) hj
        have h2 : i * t.w + j = ov.length + ((i - old.length) * t.w + j) := by
          rw [hov, ← Nat.add_assoc, ← Nat.add_mul]; congr 2; omega
        rw [if_neg hlo, Array.getElem?_append_left (by simp; omega), Array.getElem?_append_right (by simp; omega)]
        simp [h2, List.getElem?_eq_getElem (show (i - old.length) * t.w + j < nv.length by omega)])
    (fun i j c hc => by
      refine ⟨?_, ls_refs hc _⟩
      obtain ⟨y, dd, hi, hj, rfl⟩ := ls_cell hc
      have hdr : ∀ x, Fz E So2 Pd2 w x → Fz E So2 Pd2 w.drew x := fun x hx => hx
      by_cases hlo : i < old.length
      · rw [List.getElem?_append_left hlo] at hi
        simp only [hlo, if_true]
        exact cell_in ((hcell i y j dd hi hj).mono (fun b hb => ⟨hdr b hb, rfl⟩) (fun b hb => ⟨hb, rfl⟩))
      · rw [List.getElem?_append_right (by omega)] at hi
        simp only [hlo, if_false]
        exact cell_in (FitC.mono (f.cell _ y j dd hi hj) (fun b hb => ⟨hdr b (hfz b hb), rfl⟩) (fun b hb => ⟨hb, rfl⟩)))
    (fun i j x hx => by
      by_cases hlo : i < old.length
      · simp only [hlo, if_true] at hx
        obtain ⟨q1, q2, q3, q4⟩ := hsub i j x hx
        exact ⟨q4, q3, q1⟩
      · simp only [hlo, if_false] at hx
        obtain ⟨q1, q2, q3, q4⟩ := f.sub _ j x hx
        exact ⟨q4, q3, hpd x q1⟩)
    (fun i j i' j' x hx hx' => by
      by_cases hlo : i < old.length <;> by_cases hlo' : i' < old.length
      · simp only [hlo, hlo', if_true] at hx hx'; exact hdis _ _ _ _ x hx hx'
      · simp only [hlo, hlo', if_true, if_false] at hx hx'; exact absurd (f.sub _ _ x hx').1 (hsub _ _ x hx).2.1
      · simp only [hlo, hlo', if_true, if_false] at hx hx'; exact absurd (f.sub _ _ x hx).1 (hsub _ _ x hx').2.1
      · simp only [hlo, hlo', if_false] at hx hx'; have := f.dis _ _ _ _ x hx hx'; exact ⟨by omega, this.2⟩)
  refine ⟨_, So', Pd', hfin.set hn ?_⟩
  simp only [RegOK]
  refine ⟨_, new_self _ _ _, by simp [Ob.len], ?_⟩
  simp only [if_true]
  refine ⟨by omega, some ⟨w.heap.size, 0, none⟩, by simp, fun _ => by simp⟩

theorem first_nil (P : Program) (w : World) (A : Option Addr) (sz c : Nat) : (Builtin.firstCells sz 0 (.slice A 0 c)).run P w = .ok ([] : List Value).toArray w := by
  cases A <;> simp [Builtin.firstCells, loadCells, loadCellsFrom]

theorem ok_app (h : RepW N E loc So Pd σ a w) {d bytes : Nat} {ty : T} {fz : Bool} {x y : O} (hq : okA P N o (.app d ty fz bytes x y) = true) (hs : kstep X (.app d ty fz bytes x y) σ = some σ') : Outc P o a w (Rep N E σ') := by
  simp only [okA, Bool.and_eq_true] at hq
  obtain ⟨hd, hq⟩ := hq
  obtain ⟨hd, hn⟩ := dstB_ok hd
  split at hq
  case h_2 => cases hq
  rename_i q r t u hop
  simp only [Bool.and_eq_true] at hq
  obtain ⟨⟨h1, h2⟩, h3⟩ := hq
  obtain ⟨e, i, z, ht, hi, hiw, rfl, hby, hsz, hz, hzs, hu⟩ := app2B_ok h3
  have hx := h.op h1
  have hy := h.op h2
  simp only [kstep] at hs
  obtain ⟨⟨new, σ1⟩, htl, hs⟩ := Option.bind_eq_some_iff.1 hs
  simp only at hs
  obtain ⟨So1, Pd1, nv, Sf1, f⟩ := tailOf_ok (P := P) h hy htl
  simp only at f
  -- how the operation runs
  have hexec : ∀ v w', (Builtin.append_ #[t, u] o.type #[a.eval q, a.eval r]).run P w = .ok v w' → Rep N E σ' (a.put (some d) v) w' → Outc P o a w (Rep N E σ') := fun v w' hr hR => by
    refine .val v w' ?_ (by rw [hd]; exact hR)
    simp only [execOp, hop, resolve, invoke, builtin, Sem.run_bind, Sem.run_pure, Result.andThen_ok, List.map_toArray, List.map_cons, List.map_nil, hr]
  have hfd := f.first w.drew rfl
  have hfw := f.first w rfl
  rw [← hiw] at hfd hfw
  have hgc : ∀ (n0 c0 : Nat), (n0 + new.length) * i.bytes ≤ 140737488355328 → c0 < n0 + new.length → Builtin.nextslicecap (n0 + new.length) c0 * i.bytes ≤ 281474976710656 := fun n0 c0 hb hc => growslice_fits hc hb
  have hzsize : ∀ m, (Builtin.zeroCells z.cells m).size = m * ty.w := fun m => by rw [size_zeroCells, hzs]
  have hnid : 64 ≤ nid d := by simp [nid]
  have hfl := f.len
  cases hav : σ.op x with
  | nil ty' =>
    rw [hav] at hs hx
    simp only [RegOK] at hx
    simp only [appTo] at hs
    by_cases hb : new.length * i.bytes ≤ 140737488355328
    case neg => rw [if_neg hb] at hs; cases hs
    rw [if_pos hb] at hs
    obtain rfl := Option.some.inj hs
    by_cases h0 : new = []
    · subst h0
      refine hexec (.slice none 0 0) w ?_ ?_
      · rw [hx]
        exact run_app_room ht hi hu f.lenOf hfw none (Nat.le_refl 0)
      · obtain ⟨loc', So', Pd', hR, hl⟩ := f.rep.bare (nid d) hnid (.ls ty fz [] 0 []) rfl
        refine ⟨loc', So', Pd', hR.set hn ?_⟩
        simp only [RegOK]
        exact ⟨_, new_self _ _ _, by simp [Ob.len], by rw [hl]; exact ⟨rfl, rfl, none, rfl⟩⟩
    · have hpos : 0 < new.length := List.length_pos_iff.2 h0
      have hge := grownCap_ge w (0 + new.length) 0 e
      refine hexec _ _ (by rw [hx]; exact run_app_grow ht hi hz hu f.lenOf hfd none (first_nil P w.drew none i.size 0) (by omega) hby (hgc 0 0 (by rw [Nat.zero_add]; exact hb) (by omega))) ?_
      have := grown_ok f (old := []) (ov := []) (Sf2 := fun _ _ _ => False) f.rep (by simp) (fun i y j d hi => by simp at hi) (fun i j x hx => hx.elim) (fun i j i' j' x hx => hx.elim) (fun x hx => hx) (fun x hx => hx)
        (o' := nid d) hnid (grownCap w (0 + new.length) 0 e) e (Builtin.zeroCells z.cells (grownCap w (0 + new.length) 0 e - (0 + new.length))) (by simpa using hge) (hzsize _) hn
      simpa using this
  | h o' off n =>
    rw [hav] at hs hx
    simp only [appTo] at hs
    obtain ⟨ob, hob, hs2⟩ := Option.bind_eq_some_iff.1 hs
    clear hs
    obtain ⟨ob0, hob0, hz0, hn0⟩ := f.objs o' ob hob
    simp only [RegOK] at hx
    obtain ⟨ob', hob', _, hv⟩ := hx
    rw [hob0] at hob'
    obtain rfl := Option.some.inj hob'
    rw [← hz0] at hv
    have hO := f.rep.objs o' ob hob
    cases ob with
    | fn v => simp at hs2
    | ls ty' fz' l k hs' =>
    simp only at hs2
    by_cases hc : off = 0 ∧ k = 0 ∧ hs'.isEmpty = true ∧ (ty.flat || fz' == fz) = true ∧ n ≤ l.length ∧ (n + new.length) * i.bytes ≤ 140737488355328
    case neg => rw [if_neg hc] at hs2; cases hs2
    rw [if_pos hc] at hs2
    obtain ⟨old, hold, rfl⟩ := Option.map_eq_some_iff.1 hs2
    obtain ⟨rfl, rfl, hh, hfc, hnle, hbb⟩ := hc
    have hh : hs' = [] := by simpa using hh
    subst hh
    obtain ⟨e1, hold⟩ := castL_some hold
    subst e1; subst hold
    simp only [Ob.sz] at hv
    have htake : (l.take n).length = n := by simp; omega
    have hg := f.rep.gone o'
    cases hloc : loc o' with
    | none =>
      rw [hloc] at hv
      obtain ⟨rfl, _, A, hA⟩ := hv
      by_cases h0 : new = []
      · subst h0
        refine hexec (.slice A 0 0) w ?_ ?_
        · rw [hA, run_app_room ht hi hu f.lenOf hfw A (Nat.le_refl 0)]
          have hnv : nv = [] := List.eq_nil_of_length_eq_zero (by rw [hfl]; simp)
          cases A <;> simp [hnv, storeCells]
        · obtain ⟨loc', So', Pd', hR, hl⟩ := hg.bare (nid d) hnid (.ls ty' fz ([] ++ []) 0 []) rfl
          refine ⟨loc', So', Pd', ?_⟩
          simp only [List.take_zero]
          refine hR.set hn ?_
          simp only [RegOK]
          exact ⟨_, new_self _ _ _, by simp [Ob.len], by rw [hl]; exact ⟨rfl, rfl, A, rfl⟩⟩
      · have hpos : 0 < new.length := List.length_pos_iff.2 h0
        have hge := grownCap_ge w (0 + new.length) 0 e
        refine hexec _ _ (by rw [hA]; exact run_app_grow ht hi hz hu f.lenOf hfd A (first_nil P w.drew A i.size 0) (by omega) hby (hgc 0 0 hbb (by omega))) ?_
        have := grown_ok f (old := []) (ov := []) (Sf2 := fun _ _ _ => False) hg (by simp) (fun i y j d hi => by simp at hi) (fun i j x hx => hx.elim) (fun i j i' j' x hx => hx.elim)
          (fun x hx => ⟨hx.1, hx.2.1, fun o2 hq => hx.2.2.1 o2 hq.2, fun hq => hq.elim hx.2.2.2 (hx.2.2.1 o')⟩) (fun x hx => .inl hx)
          (o' := nid d) hnid (grownCap w (0 + new.length) 0 e) e (Builtin.zeroCells z.cells (grownCap w (0 + new.length) 0 e - (0 + new.length))) (by simpa using hge) (hzsize _) hn
        simpa using this
    | some q3 =>
      obtain ⟨b, base, cap⟩ := q3
      rw [hloc] at hv
      obtain ⟨hcap, A, hA, hAA⟩ := hv
      simp only [Nat.zero_add, Nat.sub_zero, Nat.zero_mul, Nat.add_zero] at hcap hA hAA
      obtain ⟨hb, us, Sf, hrow, hsub, hdis, hcl⟩ := hO.some' b base cap hloc
      have hrowcell : ∀ i' j', i' < l.length → j' < ty'.w → w.cell? ⟨b, base + i' * ty'.w + j', none⟩ = some (us i' j') := fun i' j' hi' hj' => hrow.cell hi' hj'
      have hfit : ∀ (i' : Nat) (y : ty'.den) (j' : Nat) (dd : D), l[i']? = some y → (cellsT ty' y)[j']? = some dd → FitC w fz (Fz E So1 Pd1 w) (Sf i' j') (us i' j') dd := fun i' y j' dd hi' hj' => by
        have hcc := hcl i' j' _ (ob_cell hi' hj')
        rw [cv_nohole fz' j' dd (Nat.zero_le _)] at hcc
        by_cases hsc : dd.scalar = true
        · rw [if_pos hsc] at hcc
          cases fz with
          | true => exact hcc
          | false => exact scalar_own hcc hsc _ _
        · rw [if_neg hsc] at hcc
          simp only [Bool.or_eq_true, beq_iff_eq] at hfc
          rcases hfc with hfc | hfc
          · exact absurd (cellsT_flat ty' y hfc dd (List.mem_of_getElem? hj')) hsc
          · subst hfc
            cases fz' with
            | true => exact hcc
            | false => exact hcc
      have hfzg : ∀ x, Fz E So1 Pd1 w x → Fz E (fun o2 x => o2 ≠ o' ∧ So1 o2 x) (fun x => Pd1 x ∨ So1 o' x) w x := fun x hx => ⟨hx.1, hx.2.1, fun o2 hq => hx.2.2.1 o2 hq.2, fun hq => hq.elim hx.2.2.2 (hx.2.2.1 o')⟩
      by_cases hroom : n + new.length ≤ cap
      · -- in place
        obtain ⟨arr, T, fr, g1, g2, g3, g4, g5⟩ := hrow
        simp only [Ob.sz, Ob.len] at g3 g4 g5
        have hplace : ∃ w' arr', (Builtin.append_ #[t, u] o.type #[a.eval q, a.eval r]).run P w = .ok (.slice A (n + new.length) cap) w' ∧ w'.heap[b]? = some (.cells arr' T fr) ∧ arr'.size = arr.size ∧
            (∀ k, arr'[k]? = if base + n * ty'.w ≤ k ∧ k < base + n * ty'.w + nv.length then nv[k - (base + n * ty'.w)]? else arr[k]?) ∧
            (∀ x, x ≠ b → w'.heap[x]? = w.heap[x]?) ∧ w'.heap.size = w.heap.size ∧ w'.os = w.os ∧ w'.tape = w.tape ∧ w'.output = w.output := by
          rw [hA, run_app_room ht hi hu f.lenOf hfw A hroom]
          by_cases h0 : new = []
          · have hnv : nv = [] := List.eq_nil_of_length_eq_zero (by rw [hfl, h0]; simp)
            subst hnv
            refine ⟨w, arr, ?_, g1, rfl, fun k => ?_, fun _ _ => rfl, rfl, rfl, rfl, rfl⟩
            · cases A <;> simp [storeCells]
            · rw [if_neg (by simp only [List.length_nil]; omega)]
          · have hpos : 0 < new.length := List.length_pos_iff.2 h0
            rw [hAA (by omega)]
            have hfit : base + n * ty'.w + 0 + nv.length ≤ arr.size := by
              rw [hfl, g3, Nat.add_zero, Nat.add_assoc, ← Nat.add_mul]
              exact Nat.add_le_add_left (Nat.mul_le_mul_right _ hroom) _
            obtain ⟨w', arr', r1, r2, r3, r4, r5, r6, r7, r8, r9⟩ := run_storeCells_own (P := P) b (base + n * ty'.w) T fr nv 0 arr w g1 g2 hfit f.one
            refine ⟨w', arr', ?_, r2, r3, fun k => by simpa using r4 k, r5, r6, r7, r8, r9⟩
            simp only [add_plain, hiw, r1, Result.andThen_ok]
        obtain ⟨w', arr', hrun, r2, r3, r4, r5, r6, r7, r8, r9⟩ := hplace
        refine hexec _ w' hrun ?_
        have hfin := hg.adopt (w' := w') (nid d) b base cap (.ls ty' fz (l.take n ++ new) 0 [])
          (fun i' j' => if i' < n then us i' j' else nv.getD ((i' - n) * ty'.w + j') undef)
          (fun i' j' x => if i' < n then i' < n ∧ Sf i' j' x else Sf1 (i' - n) j' x) ((σ1.gone o').new (nid d) (.ls ty' fz (l.take n ++ new) 0 []))
          (fun x _ hx => r5 x hx) (by omega) (by rw [r6]; exact (f.rep.has o' b hb).2.2.1) r7 r8 r9 (.inr (.inl (.inr hb))) (f.rep.has o' b hb).2.1
          ⟨arr', T, fr, r2, by rw [r3]; exact g2, by rw [r3]; exact g3, by simp only [Ob.len, List.length_append, htake]; exact hroom, fun i' j' hi' hj' => by
            simp only [Ob.len, List.length_append, htake] at hi'
            simp only [Ob.sz] at hj' ⊢
            rw [r4]
            by_cases hlo : i' < n
            · have := idx_lt hlo hj'
              rw [if_neg (by omega), if_pos hlo]
              exact g5 i' j' (by omega) hj'
            · have h5 := idx_lt (show i' - n < new.length by omega) hj'
              have h6 : i' * ty'.w = n * ty'.w + (i' - n) * ty'.w := by rw [← Nat.add_mul]; congr 1; omega
              rw [if_pos (by omega), if_neg hlo, h6, show base + (n * ty'.w + (i' - n) * ty'.w) + j' - (base + n * ty'.w) = (i' - n) * ty'.w + j' by omega]
              simp [List.getElem?_eq_getElem (show (i' - n) * ty'.w + j' < nv.length by omega)]⟩
          False
          (fun i' j' c hc => by
            refine ⟨?_, fun hq => by rw [ls_refs hc] at hq; cases hq⟩
            obtain ⟨y, dd, hi', hj', rfl⟩ := ls_cell hc
            by_cases hlo : i' < n
            · rw [List.getElem?_append_left (by rw [htake]; exact hlo), List.getElem?_take, if_pos hlo] at hi'
              simp only [hlo, if_true]
              exact cell_in ((hfit i' y j' dd hi' hj').mono (fun b hb => ⟨hfzg b hb, rfl⟩) (fun b hb => ⟨⟨trivial, hb⟩, rfl⟩))
            · rw [List.getElem?_append_right (by rw [htake]; omega), htake] at hi'
              simp only [hlo, if_false]
              exact cell_in (FitC.mono (f.cell _ y j' dd hi' hj') (fun b hb => ⟨hfzg b hb, rfl⟩) (fun b hb => ⟨hb, rfl⟩)))
          (fun i' j' x hx => by
            by_cases hlo : i' < n
            · simp only [hlo, if_true] at hx
              obtain ⟨q1, q2⟩ := hsub _ _ x hx.2
              exact ⟨q2, (f.rep.has o' x q1).2.2.1, (f.rep.has o' x q1).2.1, .inl (.inr q1)⟩
            · simp only [hlo, if_false] at hx
              obtain ⟨q1, q2, q3, q4⟩ := f.sub _ _ x hx
              refine ⟨fun e => ?_, q4, q3, .inl (.inl q1)⟩
              subst e
              exact (f.rep.has o' x hb).2.2.2 q1)
          (fun i1 j1 i2 j2 x hx hx' => by
            by_cases hlo : i1 < n <;> by_cases hlo' : i2 < n
            · simp only [hlo, hlo', if_true] at hx hx'; exact hdis _ _ _ _ x hx.2 hx'.2
            · simp only [hlo, hlo', if_true, if_false] at hx hx'; exact absurd (f.sub _ _ x hx').1 (f.rep.has o' x (hsub _ _ x hx.2).1).2.2.2
            · simp only [hlo, hlo', if_true, if_false] at hx hx'; exact absurd (f.sub _ _ x hx).1 (f.rep.has o' x (hsub _ _ x hx'.2).1).2.2.2
            · simp only [hlo, hlo', if_false] at hx hx'; have := f.dis _ _ _ _ x hx hx'; exact ⟨by omega, this.2⟩)
          (fun q => q.elim) (.inl hnid) (new_self _ _ _)
          (fun o2 ob2 hne hh => by obtain ⟨ob0, h0, e⟩ := new_objs _ _ _ o2 ob2 hne hh; exact ⟨ob0, h0, .inr e⟩)
          (fun o2 ob2 hne hh => ⟨_, new_objs2 _ _ _ o2 ob2 hne hh, Ob.unref_sz _ _, Ob.unref_len _ _⟩)
          (fun t v hk => by
            rcases unref_regs _ (nid d) t v hk with e | ⟨e1, e2⟩
            · exact .inl e
            · exact .inr ⟨e1, looks_false_of_refs e2, fun hq => by rw [e2] at hq; cases hq⟩)
        refine ⟨_, _, _, hfin.set hn ?_⟩
        simp only [RegOK]
        refine ⟨_, new_self _ _ _, by simp only [Ob.len, List.length_append, htake]; omega, ?_⟩
        simp only [if_true]
        exact ⟨by omega, A, by simp, fun hp => by simpa using hAA (by omega)⟩
      · -- it grows
        have hge := grownCap_ge w (n + new.length) cap e
        have hov : (Builtin.firstCells i.size n (.slice A n cap)).run P w.drew = .ok (flatV us n i.size).toArray w.drew := by
          by_cases h0 : n = 0
          · subst h0
            have : flatV us 0 i.size = [] := List.eq_nil_of_length_eq_zero (by rw [flatV_len]; simp)
            rw [this]
            exact first_nil P w.drew A i.size cap
          · rw [hAA (by omega), hiw]
            exact run_firstCells_some (P := P) w.drew ty'.w n ⟨b, base, none⟩ n cap _ (flatV_len _ _ _) (fun k v hk => by rw [add_plain]; exact flatV_cell (fun i' j' hi' hj' => hrowcell i' j' (by omega) hj') hk)
        refine hexec _ _ (by rw [hA]; exact run_app_grow ht hi hz hu f.lenOf hfd A hov hroom hby (hgc n cap hbb (by omega))) ?_
        have hgr := grown_ok f (old := l.take n) (ov := flatV us n ty'.w) (Sf2 := fun i' j' x => i' < n ∧ j' < ty'.w ∧ Sf i' j' x) hg
          (by rw [flatV_len, htake])
          (fun i' y j' dd hi' hj' => by
            rw [List.getElem?_take] at hi'
            split at hi'
            · rename_i hlo
              have hj2 := cells_lt hj'
              rw [List.getD_eq_getElem?_getD, flatV_get hlo hj2]
              exact (hfit i' y j' dd hi' hj').mono (fun b hb => ⟨hfzg b hb, rfl⟩) (fun b hb => ⟨⟨hlo, hj2, hb⟩, rfl⟩)
            · cases hi')
          (fun i' j' x hx => by
            obtain ⟨q1, q2⟩ := hsub _ _ x hx.2.2
            obtain ⟨p1, p2, p3, p4⟩ := f.rep.has o' x q1
            exact ⟨.inr q1, p4, p2, p3⟩)
          (fun i1 j1 i2 j2 x hx hx' => hdis _ _ _ _ x hx.2.2 hx'.2.2)
          hfzg (fun x hx => .inl hx)
          (o' := nid d) hnid (grownCap w (n + new.length) cap e) e (Builtin.zeroCells z.cells (grownCap w (n + new.length) cap e - (n + new.length))) (by rw [htake]; exact hge) (by rw [htake]; exact hzsize _) hn
        rw [htake] at hgr
        rw [hiw]
        exact hgr
  | _ => rw [hav] at hs; simp [appTo] at hs

end rep
end Go.Proofs.YtniakiefibpgmaaGreatDoorK
