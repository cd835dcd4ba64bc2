/- Appends. -/
import Derived.Test.YtmccpbabpnffcaaK13
set_option linter.unusedVariables false
set_option linter.unusedSimpArgs false
namespace Go.Proofs.YtmccpbabpnffcaaK
open Go.RowKit

def app2B (P : Program) (t u : TypeId) (sz bytes : Nat) : Bool :=
  match P.underlying t with
  | some (.slice e) => (match P.info? e with | some i => i.size == sz && i.bytes == bytes && decide (0 < bytes) && decide (0 < sz) && (match i.zero with | some z => z.cells.size == sz | none => false) | none => false) &&
      (match P.underlying u with | some (.slice _) => true | some .string => true | _ => false)
  | _ => false

theorem app2B_ok {P : Program} {t u : TypeId} {sz bytes : Nat} (h : app2B P t u sz bytes = true) :
    ∃ e i z, P.underlying t = some (.slice e) ∧ P.info? e = some i ∧ i.size = sz ∧ i.bytes = bytes ∧ 0 < bytes ∧ 0 < sz ∧ i.zero = some z ∧ z.cells.size = sz ∧
      ((∃ e', P.underlying u = some (.slice e')) ∨ P.underlying u = some .string) := by
  unfold app2B at h
  split at h
  · rename_i e he
    simp only [Bool.and_eq_true] at h
    obtain ⟨h1, h2⟩ := h
    split at h1
    · rename_i i hi
      simp only [Bool.and_eq_true, beq_iff_eq, decide_eq_true_eq] at h1
      obtain ⟨⟨⟨⟨q1, q2⟩, q3⟩, q4⟩, q5⟩ := h1
      split at q5
      · rename_i z hz
        refine ⟨e, i, z, he, hi, q1, q2, q3, q4, hz, by simpa using q5, ?_⟩
        split at h2
        · exact .inl ⟨_, by assumption⟩
        · exact .inr (by assumption)
        · cases h2
      · cases q5
    · cases h1
  · cases h

section runs
variable {P : Program} {w : World}

theorem run_zeros {u : TypeId} (h : (∃ e', P.underlying u = some (.slice e')) ∨ P.underlying u = some .string) : ∃ d, P.underlying u = some d ∧ ∀ k, d ≠ .int k := by
  rcases h with ⟨e, h⟩ | h
  · exact ⟨_, h, fun k => by simp⟩
  · exact ⟨_, h, fun k => by simp⟩

theorem run_app_room {t u e ty : TypeId} {i : TypeInfo} {x : Value} {n : Nat} {nv : List Value} (ht : P.underlying t = some (.slice e)) (hi : P.info? e = some i) (hu : (∃ e', P.underlying u = some (.slice e')) ∨ P.underlying u = some .string)
    (hlen : (Builtin.lenOf x).run P w = .ok n w) (hf : (Builtin.firstCells i.size n x).run P w = .ok nv.toArray w) (A : Option Addr) {sLen sCap : Nat} (hroom : sLen + n ≤ sCap) :
    (Builtin.append_ #[t, u] ty #[.slice A sLen sCap, x]).run P w =
      match A with
      | none => .ok (.slice none (sLen + n) sCap) w
      | some ad => ((storeCells (ad.add (sLen * i.size)) nv 0).run P w).andThen fun _ w' => .ok (.slice (some ad) (sLen + n) sCap) w' := by
  rcases hu with ⟨e', hu⟩ | hu <;> cases A <;> simp [Builtin.append_, run_underlying ht, run_underlying hu, sizeOf, typeInfo, hi, hlen, hf, hroom]

theorem run_app_grow {t u e ty : TypeId} {i : TypeInfo} {z : Value} {x : Value} {n : Nat} {ov nv : List Value} (ht : P.underlying t = some (.slice e)) (hi : P.info? e = some i) (hz : i.zero = some z) (hu : (∃ e', P.underlying u = some (.slice e')) ∨ P.underlying u = some .string)
    (hlen : (Builtin.lenOf x).run P w = .ok n w) (hf : (Builtin.firstCells i.size n x).run P w.drew = .ok nv.toArray w.drew) (A : Option Addr) {sLen sCap : Nat} (ho : (Builtin.firstCells i.size sLen (.slice A sLen sCap)).run P w.drew = .ok ov.toArray w.drew) (hroom : ¬ sLen + n ≤ sCap)
    (hb : 0 < i.bytes) (hfit : Builtin.nextslicecap (sLen + n) sCap * i.bytes ≤ 281474976710656) :
    (Builtin.append_ #[t, u] ty #[.slice A sLen sCap, x]).run P w =
      .ok (.slice (some ⟨w.heap.size, 0, none⟩) (sLen + n) (grownCap w (sLen + n) sCap e)) (w.drew.alloc (.cells (ov.toArray ++ nv.toArray ++ Builtin.zeroCells z.cells (grownCap w (sLen + n) sCap e - (sLen + n))) e)) := by
  have h1 : ¬ (281474976710656 < Builtin.nextslicecap (sLen + n) sCap * i.bytes) := by omega
  have h2 : ¬ i.bytes = 0 := by omega
  rcases hu with ⟨e', hu⟩ | hu <;>
    simp [Builtin.append_, run_underlying ht, run_underlying hu, sizeOf, typeInfo, zeroValue, hi, hz, hlen, hf, ho, hroom, h1, h2, Question.forced, newRow, grownCap] <;>
    (congr 2; apply Array.ext'; simp [List.append_assoc])
end runs

section rep
variable {P : Program} {N : Nat} {w0 : World} {ok0 : Nat → Prop} {loc : Nat → Option (Nat × Nat × Nat)} {So : Nat → Nat → Prop} {Pd : Nat → Prop} {σ σ' : St} {a : Act} {w : World} {X : Nat → List DA → Option (Bool × RV)} {o : Oper}

def okA (P : Program) (N : Nat) (o : Oper) : I → Bool
  | .app d sz bytes x y => dstB o N d && (match o.op with | .call ⟨.builtin .append, ⟨[q, r]⟩, ⟨[t, u]⟩⟩ => okO q x && okO r y && app2B P t u sz bytes | _ => false)
  | _ => false

/-- A row that grew: an object, out of old cells and new ones. -/
theorem grown_ok {x : Value} {sz : Nat} {new : List (List AV)} {σ1 : St} {So1 : Nat → Nat → Prop} {Pd1 : Nat → Prop} {nv : List Value} {Sf1 : Nat → Nat → Nat → Prop}
    (f : SrcFit P N w0 ok0 loc So Pd σ a w x sz new σ1 So1 Pd1 nv Sf1) (hnew : ∀ cs ∈ new, cs.length = sz) {old : List (List AV)} {ov : List Value} {So2 : Nat → Nat → Prop} {Pd2 : Nat → Prop} {σ2 : St} {Sf2 : Nat → Nat → Nat → Prop} (hR : RepW N w0 ok0 loc So2 Pd2 σ2 a w)
    (hold : ∀ cs ∈ old, cs.length = sz) (hov : ov.length = old.length * sz)
    (hcell : ∀ (i : Nat) (cs : List AV) (j : Nat) (av : AV), old[i]? = some cs → cs[j]? = some av → CellOK w (Fz w0 ok0 So2 Pd2 w) (ov.getD (i * sz + j) undef) av (Sf2 i j))
    (hsub : ∀ i j x, Sf2 i j x → Pd2 x ∧ ¬ Pd1 x ∧ w0.heap.size ≤ x ∧ x < w.heap.size) (hdis : ∀ i j i' j' x, Sf2 i j x → Sf2 i' j' x → i = i' ∧ j = j')
    (hfz : ∀ x, Fz w0 ok0 So1 Pd1 w x → Fz w0 ok0 So2 Pd2 w x) (hpd : ∀ x, Pd1 x → Pd2 x)
    {o' : Nat} (cap : Nat) (T : TypeId) (zs : Array Value) (hcap : old.length + new.length ≤ cap) (hzs : zs.size = (cap - (old.length + new.length)) * sz) {d : Nat} (hn : d < N) :
    Rep N w0 ok0 ((σ2.new o' ⟨sz, old ++ new⟩).set d (.h o' 0 (old.length + new.length))) (a.put (some d) (.slice (some ⟨w.heap.size, 0, none⟩) (old.length + new.length) cap)) (w.drew.alloc (.cells (ov.toArray ++ nv.toArray ++ zs) T)) := by
  have hRd : RepW N w0 ok0 loc So2 Pd2 σ2 a w.drew := hR.below (Below.drew (Below.refl _ _))
  have hnl := f.len
  obtain ⟨So', Pd', hfin⟩ := hRd.new o' cap ⟨sz, old ++ new⟩ (ov.toArray ++ nv.toArray ++ zs) T
    (fun i j => if i < old.length then ov.getD (i * sz + j) undef else nv.getD ((i - old.length) * sz + j) undef)
    (fun i j x => if i < old.length then Sf2 i j x else Sf1 (i - old.length) j x)
    (by
      simp only [Array.size_append, List.size_toArray, hov, hnl, hzs, ← Nat.add_mul]
      congr 1
      omega)
    (by simpa using hcap)
    (fun i j hi hj => by
      simp only [List.length_append] at hi
      simp only at hj
      by_cases hlo : i < old.length
      · have h1 := idx_lt hlo hj
        rw [if_pos hlo, Array.getElem?_append_left (by simp; omega), Array.getElem?_append_left (by simp; omega)]
        simp [List.getElem?_eq_getElem (show i * sz + j < ov.length by omega)]
      · have h1 := idx_lt (show i - old.length < new.length by omega) hj
        have h2 : i * sz + j = ov.length + ((i - old.length) * sz + j) := by
          rw [hov, ← Nat.add_assoc, ← Nat.add_mul]; congr 2; omega
        rw [if_neg hlo, Array.getElem?_append_left (by simp; omega), Array.getElem?_append_right (by simp; omega)]
        simp [h2, List.getElem?_eq_getElem (show (i - old.length) * sz + j < nv.length by omega)])
    (fun i cs hi => by
      have hm := List.mem_of_getElem? hi
      rcases List.mem_append.1 hm with q | q
      · exact hold cs q
      · exact hnew cs q)
    (fun i cs j av hi hj => by
      simp only at hi
      have hdr : ∀ x, Fz w0 ok0 So2 Pd2 w x → Fz w0 ok0 So2 Pd2 w.drew x := fun x hx => hx
      by_cases hlo : i < old.length
      · rw [List.getElem?_append_left hlo] at hi
        simp only [hlo, if_true]
        exact (hcell i cs j av hi hj).mono hdr (fun _ _ => rfl) (fun _ _ => rfl)
      · rw [List.getElem?_append_right (by omega)] at hi
        simp only [hlo, if_false]
        exact (f.cell _ cs j av hi hj).mono (fun b hb => hdr b (hfz b hb)) (fun _ _ => rfl) (fun _ _ => rfl))
    (fun i j x hx => by
      by_cases hlo : i < old.length
      · simp only [hlo, if_true] at hx
        obtain ⟨q1, q2, q3, q4⟩ := hsub i j x hx
        exact ⟨q4, q3, q1⟩
      · simp only [hlo, if_false] at hx
        obtain ⟨q1, q2, q3, q4⟩ := f.sub _ j x hx
        exact ⟨q4, q3, hpd x q1⟩)
    (fun i j i' j' x hx hx' => by
      by_cases hlo : i < old.length <;> by_cases hlo' : i' < old.length
      · simp only [hlo, hlo', if_true] at hx hx'; exact hdis _ _ _ _ x hx hx'
      · simp only [hlo, hlo', if_true, if_false] at hx hx'; exact absurd (f.sub _ _ x hx').1 (hsub _ _ x hx).2.1
      · simp only [hlo, hlo', if_true, if_false] at hx hx'; exact absurd (f.sub _ _ x hx).1 (hsub _ _ x hx').2.1
      · simp only [hlo, hlo', if_false] at hx hx'; have := f.dis _ _ _ _ x hx hx'; exact ⟨by omega, this.2⟩)
  refine ⟨_, So', Pd', hfin.set hn ?_⟩
  simp only [RegOK, St.new]
  refine ⟨_, klook_kput_same _ _ _, by simp, ?_⟩
  simp only [if_true]
  refine ⟨by omega, some ⟨w.heap.size, 0, none⟩, by simp, fun _ => by simp⟩

theorem unref_junk (h : RepW N w0 ok0 loc So Pd σ a w) (o' : Nat) (ob : Ob) (hnone : ob.es = []) : ∃ loc' So' Pd', RepW N w0 ok0 loc' So' Pd' (σ.new o' ob) a w ∧ loc' o' = none := by
  have hg := h.gone o'
  refine ⟨fun q => if q = o' then none else loc q, _, (fun x => Pd x ∨ So o' x), ⟨hg.size, hg.defers, hg.keep, hg.ok, fun o2 x hx => ?_, hg.dis, hg.pdlt, fun o2 ob2 ho2 => ?_, fun t v hk => ?_⟩, by simp⟩
  · obtain ⟨q1, q2, q3, q4⟩ := hg.has o2 x hx
    refine ⟨?_, q2, q3, q4⟩
    simp only [St.new, klook_kput_ne _ _ hx.1]
    simpa only [St.gone, klook_kdel_ne _ hx.1] using q1
  · simp only [St.new] at ho2
    by_cases e : o2 = o'
    · subst e
      rw [klook_kput_same] at ho2
      obtain rfl := Option.some.inj ho2
      exact ⟨fun i cs hi => by rw [hnone] at hi; simp at hi, fun _ => hnone, fun b off cap e => by simp at e⟩
    · rw [klook_kput_ne _ _ e] at ho2
      have := hg.objs o2 ob2 (by simp only [St.gone, klook_kdel_ne _ e]; exact ho2)
      simp only [e, if_false]
      exact this
  · rcases unref_regs σ o' t v hk with e | ⟨e1, e2⟩
    · subst e; simp only [RegOK]
    · have h1 : klook (σ.gone o').regs t = some v := by
        simp only [St.gone]
        have : klook (σ.unref o').regs t = some v := hk
        exact this
      refine RegOK.mono (fun b hb => ⟨hb, rfl⟩) _ _ (hg.regs t v h1) (fun o2 ho2 => ?_) (fun o2 ho2 b hb => ⟨hb, rfl⟩)
      have hne : o2 ≠ o' := by intro e; subst e; rw [e2] at ho2; cases ho2
      exact ⟨fun ob2 hob2 => ⟨ob2, by simp only [St.new, klook_kput_ne _ _ hne]; simpa only [St.gone, klook_kdel_ne _ hne] using hob2, rfl, Nat.le_refl _⟩, by simp only [hne, if_false]⟩

end rep
end Go.Proofs.YtmccpbabpnffcaaK
