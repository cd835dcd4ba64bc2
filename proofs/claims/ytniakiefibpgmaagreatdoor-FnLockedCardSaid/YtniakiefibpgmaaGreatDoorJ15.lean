/- Literals, makes, conversions. -/
import Derived.Test.YtniakiefibpgmaaGreatDoorJ14
set_option linter.unusedVariables false
set_option linter.unusedSimpArgs false
namespace Go.Proofs.YtniakiefibpgmaaGreatDoorK
open Go.RowKit


theorem foldl_set (off : Nat) : ∀ (vs zs : List Value) (k : Nat), off + k + vs.length ≤ zs.length →
    (vs.zipIdx k).foldl (fun (cs : Array Value) p => cs.setIfInBounds (off + p.2) p.1) zs.toArray = (zs.take (off + k) ++ vs ++ zs.drop (off + k + vs.length)).toArray := by
  intro vs
  induction vs with
  | nil => intro zs k _; simp
  | cons v vs ih =>
    intro zs k h
    simp only [List.length_cons] at h
    simp only [List.zipIdx_cons, List.foldl_cons]
    have e : zs.toArray.setIfInBounds (off + k) v = (zs.set (off + k) v).toArray := by simp
    rw [e, ih (zs.set (off + k) v) (k + 1) (by simp; omega)]
    congr 1
    have h1 : (zs.set (off + k) v).take (off + (k + 1)) = zs.take (off + k) ++ [v] := by
      rw [show off + (k + 1) = off + k + 1 by omega, List.take_add_one, List.take_set_of_le (by omega)]
      simp [List.getElem?_set, show off + k < zs.length by omega]
    have h2 : (zs.set (off + k) v).drop (off + (k + 1) + vs.length) = zs.drop (off + k + (vs.length + 1)) := by
      rw [show off + (k + 1) + vs.length = off + k + (vs.length + 1) by omega, List.drop_set_of_lt (by omega)]
    rw [h1, h2]
    simp

theorem fill_step (vs zs : List Value) (off : Nat) (h : off + vs.length ≤ zs.length) :
    vs.toArray.zipIdx.foldl (fun cs (c, j) => cs.setIfInBounds (off + j) c) zs.toArray = (zs.take off ++ vs ++ zs.drop (off + vs.length)).toArray := by
  have := foldl_set off vs zs 0 (by simpa using h)
  rw [← Array.foldl_toList]
  simpa using this

section rep
variable {P : Program} {N : Nat} {E : Ent} {loc : Nat → Option (Nat × Nat × Nat)} {So : Nat → Nat → Prop} {Pd : Nat → Prop} {σ σ' : St} {a : Act} {w : World} {X : XF} {o : Oper}

theorem parts_ok {v : Value} {av : AV} {cs : List AV} {fz : Nat → Prop} {objs : List (Nat × Ob)} (h : RegOK w fz loc So objs v av) (hp : av.parts = some cs) : ∃ vs : List Value, v.cells = vs.toArray ∧ RegsOK w fz loc So objs vs cs := by
  have one : v.oneCell' = true → av.parts = some [av] → ∃ vs : List Value, v.cells = vs.toArray ∧ RegsOK w fz loc So objs vs cs := fun h1 h2 => by
    rw [h2] at hp
    obtain rfl := Option.some.inj hp
    exact ⟨[v], by rw [cells_of_one h1], by simp only [RegsOK]; exact ⟨h, trivial⟩⟩
  have h' := h
  cases av with
  | agg l =>
    simp only [AV.parts, Option.some.injEq] at hp
    subst hp
    simp only [RegOK] at h
    obtain ⟨vs, rfl, hvs⟩ := h
    exact ⟨vs, rfl, hvs⟩
  | junk => simp [AV.parts] at hp
  | tup l => simp [AV.parts] at hp
  | d x => simp only [RegOK] at h; exact one (rd_one h) rfl
  | nil ty => simp only [RegOK] at h; subst h; exact one rfl rfl
  | vw o x => simp only [RegOK] at h; exact one (rd_one h.2) rfl
  | h o off n =>
    simp only [RegOK] at h
    obtain ⟨ob, _, _, hv⟩ := h
    obtain ⟨A, c, rfl⟩ := hval_slice hv
    exact one rfl rfl
  | p o i j => simp only [RegOK] at h; obtain ⟨ob, b, base, cap, _, _, _, rfl⟩ := h; exact one rfl rfl
  | rp o cs => simp only [RegOK] at h; obtain ⟨b, off, rfl, _⟩ := h; exact one rfl rfl
  | rf a => simp only [RegOK] at h; obtain ⟨b, off, u, rfl, _⟩ := h; exact one rfl rfl
  | clo f l => simp only [RegOK] at h; obtain ⟨vs, rfl, _⟩ := h; exact one rfl rfl

theorem fill_ok {fz : Nat → Prop} {objs : List (Nat × Ob)} {place : Nat → Option (Nat × Nat)} : ∀ (ps : List (Nat × Value)) (l : List (Nat × Nat × List AV)) (zs : List Value) (z r : List AV),
    ps.length = l.length → (∀ (k i : Nat) (v : Value) (off sz : Nat) (cs : List AV), ps[k]? = some (i, v) → l[k]? = some (off, sz, cs) → place i = some (off, sz) ∧ ∃ vs : List Value, v.cells = vs.toArray ∧ RegsOK w fz loc So objs vs cs) →
    RegsOK w fz loc So objs zs z → fillO z l = some r → ∃ rs : List Value, Instr.fill place zs.toArray ps = some rs.toArray ∧ RegsOK w fz loc So objs rs r := by
  intro ps
  induction ps with
  | nil =>
    intro l zs z r hl _ hz hf
    have : l = [] := List.eq_nil_of_length_eq_zero (by simpa using hl.symm)
    subst this
    simp only [fillO, Option.some.injEq] at hf
    subst hf
    exact ⟨zs, rfl, hz⟩
  | cons p ps ih =>
    intro l zs z r hl hp hz hf
    obtain ⟨i, v⟩ := p
    cases l with
    | nil => simp at hl
    | cons q l =>
      obtain ⟨off, sz, cs⟩ := q
      simp only [fillO] at hf
      by_cases hc : cs.length = sz ∧ off + sz ≤ z.length
      case neg => rw [if_neg hc] at hf; cases hf
      rw [if_pos hc] at hf
      obtain ⟨h1, vs, h2, h3⟩ := hp 0 i v off sz cs (by simp) (by simp)
      have hvl : vs.length = sz := by rw [h3.length]; exact hc.1
      have hzl := hz.length
      obtain ⟨rs, r1, r2⟩ := ih l (zs.take off ++ vs ++ zs.drop (off + vs.length)) (z.take off ++ cs ++ z.drop (off + sz)) r (by simpa using hl) (fun k i v off sz cs q1 q2 => hp (k + 1) i v off sz cs (by simpa using q1) (by simpa using q2))
        (by rw [hvl]; exact ((hz.take off).append h3).append (hz.drop _)) hf
      refine ⟨rs, ?_, r2⟩
      simp only [Instr.fill, h1]
      have e1 : v.cells.size = sz := by rw [h2]; simpa using hvl
      rw [if_neg (by simp only [e1, List.size_toArray, ne_eq, not_true_eq_false, decide_false, Bool.false_or, decide_eq_true_eq]; omega)]
      rw [h2, fill_step vs zs off (by omega)]
      exact r1

def bdB (P : Program) (t : TypeId) (z : List AV) (ps : List (Nat × Operand)) (os : List (Nat × Nat × O)) : Bool :=
  zeroB P t z && (match P.underlying t with
    | some (.struct fs) => fs.toList.all (fun f => (P.info? f.type).isSome) && ps.length == os.length && (ps.zip os).all (fun q => (match fs[q.1.1]? with | some f => f.offset == q.2.1 && szB P f.type q.2.2.1 | none => false) && okO q.1.2 q.2.2.2)
    | _ => false)
def bsB (P : Program) (t : TypeId) (n sz : Nat) (z : List AV) (ps : List (Nat × Operand)) (os : List (Nat × O)) : Bool :=
  decide (n * sz ≤ 16777216) && (match P.underlying t with
    | some (.slice e) => szB P e sz && zeroB P e z && ps.length == os.length && (ps.zip os).all (fun q => q.1.1 == q.2.1 && okO q.1.2 q.2.2)
    | _ => false)
def mkB (P : Program) (t : TypeId) (sz bytes : Nat) (ty : T) : Bool :=
  match P.underlying t with
  | some (.slice e) => zeroTB P e ty && (match P.info? e with | some i => i.size == sz && i.bytes == bytes && decide (0 < bytes) | none => false)
  | _ => false
def s2bB (P : Program) (s t : TypeId) : Bool :=
  (match P.underlying s with | some .string => true | _ => false) && (match P.underlying t with | some (.slice e) => (match P.underlying e with | some (.int .u8) => true | _ => false) | _ => false)

def okL (P : Program) (N : Nat) (o : Oper) : I → Bool
  | .bd d z ps => dstB o N d && (match o.op with | .build t qs => bdB P t z qs.toList ps | _ => false)
  | .bsz d ty n z ps => dstB o N d && (match o.op with | .buildSlice t n' qs => n == n' && bsB P t n ty.w z qs.toList ps | _ => false)
  | .bs d ty _ n z ps => dstB o N d && (match o.op with | .buildSlice t n' qs => n == n' && bsB P t n ty.w z qs.toList ps | _ => false)
  | .mk d ty bytes n => dstB o N d && (match o.op with | .makeSlice t q r => okO q n && okO r n && mkB P t ty.w bytes ty | _ => false)
  | .s2b d x => dstB o N d && (match o.op with | .convert s t q => okO q x && s2bB P s t | _ => false)
  | .b2s d x => dstB o N d && (match o.op with | .convert s t q => okO q x && s2bB P t s | _ => false)
  | _ => false

theorem zeroB_ok {t : Nat} {z : List AV} (h : zeroB P t z = true) : ∃ v, (zeroValue t).run P w = .ok v w ∧ okVs v.cells.toList z = true := by
  unfold zeroB at h
  split at h
  · rename_i i hi
    split at h
    · rename_i v hv
      exact ⟨v, by simp [zeroValue, typeInfo, hi, hv], h⟩
    · cases h
  · cases h
theorem run_mapM_fields {w : World} (fs : List Field) (h : fs.all (fun f => (P.info? f.type).isSome) = true) : ∃ ps : List (Nat × Nat), (fs.mapM fun f => (do pure (f.offset, ← sizeOf f.type) : Sem (Nat × Nat))).run P w = .ok ps w ∧ ps.length = fs.length ∧
    ∀ (k : Nat) (f : Field), fs[k]? = some f → ∃ i, P.info? f.type = some i ∧ ps[k]? = some (f.offset, i.size) := by
  induction fs with
  | nil => exact ⟨[], by simp, rfl, fun k f hk => by simp at hk⟩
  | cons f fs ih =>
    simp only [List.all_cons, Bool.and_eq_true] at h
    obtain ⟨i, hi⟩ := Option.isSome_iff_exists.1 h.1
    obtain ⟨ps, h1, h2, h3⟩ := ih h.2
    refine ⟨(f.offset, i.size) :: ps, ?_, by simp [h2], fun k g hk => ?_⟩
    · have e : (sizeOf f.type).run P w = .ok i.size w := by simp [sizeOf, typeInfo, hi]
      rw [List.mapM_cons, Sem.run_bind, Sem.run_bind, e]
      simp only [Result.andThen_ok, Sem.run_pure, Sem.run_bind, h1]
    · cases k with
      | zero => simp only [List.getElem?_cons_zero, Option.some.injEq] at hk; subst hk; exact ⟨i, hi, by simp⟩
      | succ k => simpa using h3 k g (by simpa using hk)

theorem ok_bd (h : RepW N E loc So Pd σ a w) {d : Nat} {z : List AV} {ps : List (Nat × Nat × O)} (hq : okL P N o (.bd d z ps) = true) (hs : kstep X (.bd d z ps) σ = some σ') : Outc P o a w (Rep N E σ') := by
  simp only [okL, Bool.and_eq_true] at hq
  obtain ⟨hd, hq⟩ := hq
  obtain ⟨hd, hn⟩ := dstB_ok hd
  split at hq
  case h_2 => cases hq
  rename_i t qs hop
  simp only [bdB, Bool.and_eq_true] at hq
  obtain ⟨hz, hq⟩ := hq
  split at hq
  case h_2 => cases hq
  rename_i fs hu
  simp only [Bool.and_eq_true, beq_iff_eq] at hq
  obtain ⟨⟨hall, hlen⟩, hps⟩ := hq
  simp only [kstep] at hs
  obtain ⟨l, hl, hs⟩ := Option.bind_eq_some_iff.1 hs
  obtain ⟨r, hr, rfl⟩ := Option.map_eq_some_iff.1 hs
  obtain ⟨v, hv, hvz⟩ := zeroB_ok (w := w) hz
  obtain ⟨pl, p1, p2, p3⟩ := run_mapM_fields (P := P) (w := w) fs.toList hall
  have hzr := okVs_ok (w := w) (fz := Fz E So Pd w) (loc := loc) (So := So) (objs := σ.objs) _ _ hvz
  obtain ⟨rs, r1, r2⟩ := fill_ok (w := w) (loc := loc) (So := So) (objs := σ.objs) (fz := Fz E So Pd w) (place := fun i => pl.toArray[i]?) (qs.toList.map fun q => (q.1, a.eval q.2)) l v.cells.toList z r
    (by rw [allOf_len hl, List.length_map, hlen]) (fun k i v' off sz cs q1 q2 => by
      rw [List.getElem?_map] at q1
      obtain ⟨⟨i', x'⟩, q3, q4⟩ := Option.map_eq_some_iff.1 q1
      simp only [Prod.mk.injEq] at q4
      obtain ⟨rfl, rfl⟩ := q4
      obtain ⟨⟨off', sz', o'⟩, q5, q6⟩ := allOf_get hl q2
      obtain ⟨cs', q7, q8⟩ := Option.map_eq_some_iff.1 q6
      simp only [Prod.mk.injEq] at q8
      obtain ⟨rfl, rfl, rfl⟩ := q8
      have hzip : (qs.toList.zip ps)[k]? = some ((i', x'), (off', sz', o')) := List.getElem?_zip_eq_some.2 ⟨q3, q5⟩
      have hb := List.all_eq_true.1 hps _ (List.mem_of_getElem? hzip)
      simp only [Bool.and_eq_true] at hb
      obtain ⟨hb1, hb2⟩ := hb
      split at hb1
      case h_2 => cases hb1
      rename_i f hf
      simp only [Bool.and_eq_true, beq_iff_eq] at hb1
      obtain ⟨i2, q9, q10⟩ := p3 i' f (by simpa using hf)
      have hsz : i2.size = sz' := by have := hb1.2; unfold szB at this; rw [q9] at this; simpa using this
      refine ⟨by simp [q10, hb1.1, hsz], parts_ok (h.op hb2) q7⟩) hzr hr
  refine outc_val h hd hn (v := .agg rs.toArray) ?_ (by simp only [RegOK]; exact ⟨rs, rfl, r2⟩)
  have p1' : (fs.mapM fun f => (do pure (f.offset, ← sizeOf f.type) : Sem (Nat × Nat))).run P w = .ok pl.toArray w := by
    rw [Array.mapM_eq_mapM_toList, Sem.run_map, p1]
    rfl
  have hfill : Instr.fill (fun i => pl.toArray[i]?) v.cells (qs.map fun q => (q.1, a.eval q.2)).toList = some rs.toArray := by
    have : (qs.map fun q => (q.1, a.eval q.2)).toList = qs.toList.map fun q => (q.1, a.eval q.2) := by simp
    rw [this]
    simpa using r1
  simp only [execOp, hop, Instr.build, Sem.run_bind, hv, Result.andThen_ok, run_underlying hu, p1', Sem.run_pure]
  rw [show (qs.map fun (i, x) => (i, a.eval x)) = (qs.map fun q => (q.1, a.eval q.2)) from rfl, hfill]
  rfl

theorem chunks_get {α : Type} (sz : Nat) : ∀ (n : Nat) (l : List α) (i : Nat) (cs : List α), (chunks sz n l)[i]? = some cs → cs = (l.drop (i * sz)).take sz ∧ i < n
  | 0, _, i, cs, h => by simp [chunks] at h
  | n + 1, l, 0, cs, h => by
    simp only [chunks, List.getElem?_cons_zero, Option.some.injEq] at h
    rw [← h]; simp
  | n + 1, l, i + 1, cs, h => by
    simp only [chunks, List.getElem?_cons_succ] at h
    obtain ⟨h1, h2⟩ := chunks_get sz n _ i cs h
    refine ⟨?_, by omega⟩
    rw [h1, List.drop_drop]
    congr 2
    rw [Nat.succ_mul, Nat.add_comm]
theorem chunks_len {α : Type} (sz : Nat) : ∀ (n : Nat) (l : List α), (chunks sz n l).length = n
  | 0, _ => rfl
  | n + 1, l => by simp [chunks, chunks_len sz n]
/-- A literal's row. -/
theorem new_row {fz : Bool} {vs : List Value} {ds : List D} {σ1 : St} {So1 : Nat → Nat → Prop} {Pd1 : Nat → Prop} {Sf : Nat → Nat → Prop} (f : CellFit N E loc So Pd σ a w fz vs ds σ1 So1 Pd1 Sf) {t : T} {n : Nat} {xs : List t.den} (hl : ds.length = n * t.w) (hx : allOf (mkT t) (chunks t.w n ds) = some xs) {d : Nat} (hn : d < N) (T : TypeId) :
    Rep N E ((σ1.new (nid d) (.ls t fz xs 0 [])).set d (.h (nid d) 0 n)) (a.put (some d) (.slice (some ⟨w.heap.size, 0, none⟩) n n)) (w.alloc (.cells vs.toArray T)) := by
  have hxl : xs.length = n := by rw [allOf_len hx, chunks_len]
  have hvl : vs.length = n * t.w := by rw [← f.len, hl]
  obtain ⟨So', Pd', hR⟩ := f.rep.new (nid d) n (by simp [nid]) (.ls t fz xs 0 []) vs.toArray T (fun i j => vs.getD (i * t.w + j) undef) (fun i j x => j < t.w ∧ Sf (i * t.w + j) x) (by simp [Ob.sz, hvl]) (by simp [Ob.len, hxl])
    (fun i j hi hj => by
      simp only [Ob.len, hxl] at hi
      simp only [Ob.sz] at hj ⊢
      have := idx_lt hi hj
      simp [List.getElem?_eq_getElem (show i * t.w + j < vs.length by omega)])
    (fun i j c hc => by
      refine ⟨?_, ls_refs hc _⟩
      obtain ⟨y, dd, h1, h2, rfl⟩ := ls_cell hc
      obtain ⟨cs, h3, h4⟩ := allOf_get hx h1
      obtain ⟨h5, h6⟩ := chunks_get _ _ _ _ _ h3
      rw [cells_mkT _ _ _ h4, h5, List.getElem?_take] at h2
      split at h2
      case isFalse => cases h2
      rename_i hj
      rw [List.getElem?_drop] at h2
      have hk : i * t.w + j < vs.length := by rw [← f.len]; exact get_lt h2
      have := f.cell (i * t.w + j) _ dd (List.getElem?_eq_getElem hk) h2
      simp only [List.getD_eq_getElem?_getD, List.getElem?_eq_getElem hk, Option.getD_some]
      exact cell_in (FitC.mono (show FitC w fz _ _ _ _ from this) (fun b hb => ⟨hb, rfl⟩) (fun b hb => ⟨⟨hj, hb⟩, rfl⟩)))
    (fun i j x hx => by obtain ⟨q1, q2, q3, q4⟩ := f.sub _ x hx.2; exact ⟨q4, q3, q1⟩)
    (fun i j i' j' x hx hx' => by
      have e := f.dis _ _ x hx.2 hx'.2
      by_cases h : i' = i
      · subst h; exact ⟨rfl, by omega⟩
      · exact absurd e.symm (idx_ne hx'.1 hx.1 h))
  refine ⟨_, So', Pd', hR.set hn ?_⟩
  simp only [RegOK]
  refine ⟨_, new_self _ _ _, by simp [Ob.len, hxl], ?_⟩
  simp only [if_true]
  exact ⟨by omega, some ⟨w.heap.size, 0, none⟩, by simp, fun _ => by simp⟩

theorem flatten_replicate_ok {fz : Nat → Prop} {objs : List (Nat × Ob)} {zs : List Value} {z : List AV} (h : RegsOK w fz loc So objs zs z) : ∀ n, RegsOK w fz loc So objs (List.replicate n zs).flatten (List.replicate n z).flatten
  | 0 => by simp only [List.replicate_zero, List.flatten_nil, RegsOK]
  | n + 1 => by simp only [List.replicate_succ, List.flatten_cons]; exact h.append (flatten_replicate_ok h n)

theorem madeCells_eq (zs : List Value) (n : Nat) (h : 0 < zs.length) : madeCells zs.toArray (n * zs.length) = (List.replicate n zs).flatten.toArray := by
  apply Array.ext'
  apply List.ext_getElem?
  intro k
  have hlen : ((List.replicate n zs).flatten).length = n * zs.length := by simp
  by_cases hk : k < n * zs.length
  · have h1 : ((List.replicate n zs).flatten)[k]? = some (zs[k % zs.length]'(Nat.mod_lt _ h)) := by
      clear hlen
      induction n generalizing k with
      | zero => simp at hk
      | succ n ih =>
        rw [List.replicate_succ, List.flatten_cons]
        by_cases hlo : k < zs.length
        · rw [List.getElem?_append_left hlo, List.getElem?_eq_getElem hlo]
          simp [Nat.mod_eq_of_lt hlo]
        · rw [List.getElem?_append_right (by omega), ih (k - zs.length) (by rw [Nat.succ_mul] at hk; omega)]
          congr 2
          conv => rhs; rw [show k = k - zs.length + zs.length by omega, Nat.add_mod_right]
    rw [List.toList_toArray, h1]
    simp only [madeCells, Array.toList_map, Array.toList_range, List.getElem?_map, List.getElem?_range hk, Option.map_some, List.size_toArray]
    simp [List.getElem?_eq_getElem (Nat.mod_lt k h)]
  · rw [List.getElem?_eq_none (by simp [madeCells]; omega), List.toList_toArray, List.getElem?_eq_none (by rw [hlen]; omega)]

theorem ok_bs (h : RepW N E loc So Pd σ a w) {d n : Nat} {ty : T} {fz : Bool} {z : List AV} {ps : List (Nat × O)} (hq : okL P N o (.bs d ty fz n z ps) = true) (hs : kstep X (.bs d ty fz n z ps) σ = some σ') : Outc P o a w (Rep N E σ') := by
  simp only [okL, Bool.and_eq_true] at hq
  obtain ⟨hd, hq⟩ := hq
  obtain ⟨hd, hn⟩ := dstB_ok hd
  split at hq
  case h_2 => cases hq
  rename_i t n' qs hop
  simp only [bsB, Bool.and_eq_true, beq_iff_eq, decide_eq_true_eq] at hq
  obtain ⟨rfl, hbig, hq⟩ := hq
  split at hq
  case h_2 => cases hq
  rename_i e hu
  simp only [Bool.and_eq_true, beq_iff_eq] at hq
  obtain ⟨⟨⟨he, hz⟩, hlen⟩, hps⟩ := hq
  simp only [kstep] at hs
  obtain ⟨l, hl, hs⟩ := Option.bind_eq_some_iff.1 hs
  obtain ⟨r, hr, hs⟩ := Option.bind_eq_some_iff.1 hs
  obtain ⟨⟨cs, σ1⟩, hc, hs⟩ := Option.bind_eq_some_iff.1 hs
  simp only at hs
  by_cases hb : z.length = ty.w ∧ cs.length = n * ty.w
  case neg => rw [if_neg hb] at hs; cases hs
  rw [if_pos hb] at hs
  obtain ⟨xs, hxs, rfl⟩ := Option.map_eq_some_iff.1 hs
  have hwp := ty.w_pos
  generalize hsz : ty.w = sz at *
  obtain ⟨v, hv, hvz⟩ := zeroB_ok (w := w) hz
  have hzr := okVs_ok (w := w) (fz := Fz E So Pd w) (loc := loc) (So := So) (objs := σ.objs) _ _ hvz
  have hvl : v.cells.toList.length = sz := by rw [hzr.length]; exact hb.1
  obtain ⟨rs, r1, r2⟩ := fill_ok (w := w) (loc := loc) (So := So) (objs := σ.objs) (fz := Fz E So Pd w) (place := fun i => some (i * sz, sz)) (qs.toList.map fun q => (q.1, a.eval q.2)) l _ (List.replicate n z).flatten r
    (by rw [allOf_len hl, List.length_map, hlen]) (fun k i v' off sz' cs' q1 q2 => by
      rw [List.getElem?_map] at q1
      obtain ⟨⟨i', x'⟩, q3, q4⟩ := Option.map_eq_some_iff.1 q1
      simp only [Prod.mk.injEq] at q4
      obtain ⟨rfl, rfl⟩ := q4
      obtain ⟨⟨i2, o'⟩, q5, q6⟩ := allOf_get hl q2
      obtain ⟨cs2, q7, q8⟩ := Option.map_eq_some_iff.1 q6
      simp only [Prod.mk.injEq] at q8
      obtain ⟨rfl, rfl, rfl⟩ := q8
      have hzip : (qs.toList.zip ps)[k]? = some ((i', x'), (i2, o')) := List.getElem?_zip_eq_some.2 ⟨q3, q5⟩
      have hb := List.all_eq_true.1 hps _ (List.mem_of_getElem? hzip)
      simp only [Bool.and_eq_true, beq_iff_eq] at hb
      refine ⟨by rw [hb.1], parts_ok (h.op hb.2) q7⟩) (flatten_replicate_ok hzr n) hr
  obtain ⟨So1, Pd1, Sf, f⟩ := cellsOf_regs h r2 hc
  refine .val (.slice (some ⟨w.heap.size, 0, none⟩) n n) (w.alloc (.cells rs.toArray e)) ?_ (by rw [hd]; subst hsz; exact new_row f hb.2 hxs hn e)
  have hfill : Instr.fill (fun i => some (i * sz, sz)) (madeCells v.cells (n * sz)) (qs.map fun q => (q.1, a.eval q.2)).toList = some rs.toArray := by
    have e1 : (qs.map fun q => (q.1, a.eval q.2)).toList = qs.toList.map fun q => (q.1, a.eval q.2) := by simp
    rw [e1]
    have e2 := madeCells_eq v.cells.toList n (by omega)
    rw [hvl] at e2
    rw [show v.cells = v.cells.toList.toArray by simp, e2]
    exact r1
  have hnb : ¬ (n * sz > 2 ^ 24) := by omega
  simp only [execOp, hop, Instr.buildSlice, Sem.run_bind, run_underlying hu, Result.andThen_ok, szB_ok he, Sem.run_ite, if_neg hnb, Sem.run_pure]
  rw [show (qs.map fun (i, x) => (i, a.eval x)) = (qs.map fun q => (q.1, a.eval q.2)) from rfl]
  by_cases h0 : n * sz = 0
  · rw [if_pos h0]
    have hm : ((Array.range (n * sz)).map fun x => (#[] : Array Value)[x % (#[] : Array Value).size]!) = madeCells v.cells (n * sz) := by
      rw [h0]; simp [madeCells, Array.range_zero']
    rw [hm, hfill]
    simp [newRow]
  · rw [if_neg h0]
    simp only [hv, Sem.run_bind, Result.andThen_ok, Sem.run_pure]
    rw [show ((Array.range (n * sz)).map fun x => v.cells[x % v.cells.size]!) = madeCells v.cells (n * sz) from rfl, hfill]
    simp [newRow]

theorem ok_bsz (h : RepW N E loc So Pd σ a w) {d n : Nat} {ty : T} {z : List AV} {ps : List (Nat × O)} (hq : okL P N o (.bsz d ty n z ps) = true) (hs : kstep X (.bsz d ty n z ps) σ = some σ') : Outc P o a w (Rep N E σ') := by
  simp only [okL, Bool.and_eq_true] at hq
  obtain ⟨hd, hq⟩ := hq
  obtain ⟨hd, hn⟩ := dstB_ok hd
  split at hq
  case h_2 => cases hq
  rename_i t n' qs hop
  simp only [bsB, Bool.and_eq_true, beq_iff_eq, decide_eq_true_eq] at hq
  obtain ⟨rfl, hbig, hq⟩ := hq
  split at hq
  case h_2 => cases hq
  rename_i e hu
  simp only [Bool.and_eq_true, beq_iff_eq] at hq
  obtain ⟨⟨⟨he, hz⟩, hlen⟩, hps⟩ := hq
  simp only [kstep] at hs
  obtain ⟨l, hl, hs⟩ := Option.bind_eq_some_iff.1 hs
  obtain ⟨r, hr, hs⟩ := Option.bind_eq_some_iff.1 hs
  obtain ⟨cs, hc, hs⟩ := Option.bind_eq_some_iff.1 hs
  by_cases hb : z.length = ty.w ∧ cs.length = n * ty.w
  case neg => rw [if_neg hb] at hs; cases hs
  rw [if_pos hb] at hs
  obtain ⟨xs, hxs, rfl⟩ := Option.map_eq_some_iff.1 hs
  have hwp := ty.w_pos
  generalize hsz : ty.w = sz at *
  obtain ⟨v, hv, hvz⟩ := zeroB_ok (w := w) hz
  have hzr := okVs_ok (w := w) (fz := Fz E So Pd w) (loc := loc) (So := So) (objs := σ.objs) _ _ hvz
  have hvl : v.cells.toList.length = sz := by rw [hzr.length]; exact hb.1
  obtain ⟨rs, r1, r2⟩ := fill_ok (w := w) (loc := loc) (So := So) (objs := σ.objs) (fz := Fz E So Pd w) (place := fun i => some (i * sz, sz)) (qs.toList.map fun q => (q.1, a.eval q.2)) l _ (List.replicate n z).flatten r
    (by rw [allOf_len hl, List.length_map, hlen]) (fun k i v' off sz' cs' q1 q2 => by
      rw [List.getElem?_map] at q1
      obtain ⟨⟨i', x'⟩, q3, q4⟩ := Option.map_eq_some_iff.1 q1
      simp only [Prod.mk.injEq] at q4
      obtain ⟨rfl, rfl⟩ := q4
      obtain ⟨⟨i2, o'⟩, q5, q6⟩ := allOf_get hl q2
      obtain ⟨cs2, q7, q8⟩ := Option.map_eq_some_iff.1 q6
      simp only [Prod.mk.injEq] at q8
      obtain ⟨rfl, rfl, rfl⟩ := q8
      have hzip : (qs.toList.zip ps)[k]? = some ((i', x'), (i2, o')) := List.getElem?_zip_eq_some.2 ⟨q3, q5⟩
      have hb := List.all_eq_true.1 hps _ (List.mem_of_getElem? hzip)
      simp only [Bool.and_eq_true, beq_iff_eq] at hb
      refine ⟨by rw [hb.1], parts_ok (h.op hb.2) q7⟩) (flatten_replicate_ok hzr n) hr
  have hcl := allOf_len hc
  have hrl := r2.length
  have hcell : ∀ (k : Nat) (x : D), cs[k]? = some x → ∃ v, rs[k]? = some v ∧ ∀ (w' : World) (ok' : Nat → Prop), Rd w' ok' v x := fun k x hx => by
    obtain ⟨av, h1, h2⟩ := allOf_get hc hx
    obtain ⟨v, h3, h4⟩ := r2.get h1
    cases av with
    | d y =>
      simp only [plainD] at h2
      split at h2
      · rename_i hsc
        obtain rfl := Option.some.inj h2
        simp only [RegOK] at h4
        exact ⟨v, h3, fun w' ok' => scalar_rd h4 hsc w' ok'⟩
      · cases h2
    | _ => simp [plainD] at h2
  have hbel : Below w.heap.size w (w.alloc (.cells rs.toArray e)) := ⟨rfl, rfl, rfl, by show w.heap.size ≤ (w.heap.push _).size; rw [Array.size_push]; exact Nat.le_succ _, fun k hk => by
    show (w.heap.push _)[k]? = w.heap[k]?
    rw [Array.getElem?_push, if_neg (by omega)]⟩
  have hR := h.below hbel
  have hxl : xs.length = n := by rw [allOf_len hxs, chunks_len]
  have hkey : ∀ (i : Nat) (x : ty.den) (j : Nat) (dd : D), xs[i]? = some x → (cellsT ty x)[j]? = some dd → j < sz ∧ cs[i * sz + j]? = some dd := fun i x j dd h1 h2 => by
    obtain ⟨c1, h3, h4⟩ := allOf_get hxs h1
    obtain ⟨h5, h6⟩ := chunks_get _ _ _ _ _ h3
    rw [cells_mkT _ _ _ h4, h5, List.getElem?_take] at h2
    split at h2
    case isFalse => cases h2
    rename_i hj
    rw [List.getElem?_drop] at h2
    exact ⟨hj, h2⟩
  refine .val (.slice (some ⟨w.heap.size, 0, none⟩) n n) (w.alloc (.cells rs.toArray e)) ?_ (by
    rw [hd]
    refine ⟨_, _, _, hR.set hn ?_⟩
    simp only [RegOK]
    rw [← hxl]
    refine Rd.sl w.heap.size 0 xs.length ty xs (fun i j => rs.getD (i * sz + j) undef) ?_ (Nat.le_refl _) (fun i x j dd h1 h2 => ?_) (fun i x j dd h1 h2 => ?_)
    · refine ⟨.inr ?_, by show w.heap.size < (w.heap.push _).size; rw [Array.size_push]; exact Nat.lt_succ_self _, fun o' q => ?_, fun q => ?_⟩
      · exact .inr h.keep.size
      · have := (h.has o' _ q).2.2.1; omega
      · have := h.pdlt _ q; omega
    · obtain ⟨hj, h3⟩ := hkey i x j dd h1 h2
      obtain ⟨v, h4, h5⟩ := hcell _ dd h3
      rw [World.cell?_alloc_at _ _ _ _ rfl]
      simp only [hsz, Nat.zero_add, List.getElem?_toArray, h4, List.getD_eq_getElem?_getD, Option.getD_some]
    · obtain ⟨hj, h3⟩ := hkey i x j dd h1 h2
      obtain ⟨v, h4, h5⟩ := hcell _ dd h3
      simp only [List.getD_eq_getElem?_getD, h4, Option.getD_some]
      exact h5 _ _)
  have hfill : Instr.fill (fun i => some (i * sz, sz)) (madeCells v.cells (n * sz)) (qs.map fun q => (q.1, a.eval q.2)).toList = some rs.toArray := by
    have e1 : (qs.map fun q => (q.1, a.eval q.2)).toList = qs.toList.map fun q => (q.1, a.eval q.2) := by simp
    rw [e1]
    have e2 := madeCells_eq v.cells.toList n (by omega)
    rw [hvl] at e2
    rw [show v.cells = v.cells.toList.toArray by simp, e2]
    exact r1
  have hnb : ¬ (n * sz > 2 ^ 24) := by omega
  simp only [execOp, hop, Instr.buildSlice, Sem.run_bind, run_underlying hu, Result.andThen_ok, szB_ok he, Sem.run_ite, if_neg hnb, Sem.run_pure]
  rw [show (qs.map fun (i, x) => (i, a.eval x)) = (qs.map fun q => (q.1, a.eval q.2)) from rfl]
  by_cases h0 : n * sz = 0
  · rw [if_pos h0]
    have hm : ((Array.range (n * sz)).map fun x => (#[] : Array Value)[x % (#[] : Array Value).size]!) = madeCells v.cells (n * sz) := by
      rw [h0]; simp [madeCells, Array.range_zero']
    rw [hm, hfill]
    simp [newRow]
  · rw [if_neg h0]
    simp only [hv, Sem.run_bind, Result.andThen_ok, Sem.run_pure]
    rw [show ((Array.range (n * sz)).map fun x => v.cells[x % v.cells.size]!) = madeCells v.cells (n * sz) from rfl, hfill]
    simp [newRow]

theorem ok_mk (h : RepW N E loc So Pd σ a w) {d bytes : Nat} {ty : T} {n : O} (hq : okL P N o (.mk d ty bytes n) = true) (hs : kstep X (.mk d ty bytes n) σ = some σ') : Outc P o a w (Rep N E σ') := by
  simp only [okL, Bool.and_eq_true] at hq
  obtain ⟨hd, hq⟩ := hq
  obtain ⟨hd, hn⟩ := dstB_ok hd
  split at hq
  case h_2 => cases hq
  rename_i t q r hop
  simp only [Bool.and_eq_true] at hq
  obtain ⟨⟨h1, h2⟩, hq⟩ := hq
  unfold mkB at hq
  split at hq
  case h_2 => cases hq
  rename_i e hu
  simp only [Bool.and_eq_true] at hq
  obtain ⟨hz, hq⟩ := hq
  split at hq
  case h_2 => cases hq
  rename_i i hi
  simp only [Bool.and_eq_true, beq_iff_eq, decide_eq_true_eq] at hq
  obtain ⟨⟨hiw, rfl⟩, hby⟩ := hq
  simp only [kstep] at hs
  obtain ⟨m, hm, hs⟩ := Option.bind_eq_some_iff.1 hs
  by_cases hc : 0 ≤ m ∧ m * i.bytes ≤ 140737488355328
  case neg => rw [if_neg hc] at hs; cases hs
  rw [if_pos hc] at hs
  obtain rfl := Option.some.inj hs
  obtain ⟨h0, hbb⟩ := hc
  obtain ⟨k1, hk1⟩ := asInt_ok (h.op h1) hm
  obtain ⟨k2, hk2⟩ := asInt_ok (h.op h2) hm
  obtain ⟨v, hv, hvz⟩ := zeroTB_ok (P := P) (w := w) hz
  have hvi : i.zero = some v := by
    unfold zeroTB at hz
    rw [hi] at hz
    simp only at hz
    cases hzz : i.zero with
    | none => rw [hzz] at hz; cases hz
    | some v' => simp [zeroValue, typeInfo, hi, hzz] at hv; rw [hv]
  have hvl : v.cells.toList.length = i.size := by rw [← (okVZs_get hvz).1, cellsT_len, hiw]
  have hm1 : m ≤ 140737488355328 := by
    have : m * 1 ≤ m * i.bytes := Int.mul_le_mul_of_nonneg_left (by omega) h0
    omega
  have hrun := run_make (P := P) w t e i v hu hi hvi k1 k2 m m h0 (Int.le_refl _) (by rw [Int.mul_comm]; omega) (by omega)
  obtain ⟨So', Pd', hR⟩ := h.new (nid d) m.toNat (by simp [nid]) (.ls ty false (List.replicate m.toNat ty.zero) 0 []) (madeCells v.cells (m.toNat * i.size)) e (fun _ j => v.cells.toList.getD j undef) (fun _ _ _ => False) (by simp [size_madeCells, Ob.sz, hiw]) (by simp [Ob.len])
    (fun i' j hi' hj => by
      simp only [Ob.sz] at hj ⊢
      rw [← hiw] at hj ⊢
      simp only [Ob.len, List.length_replicate] at hi'
      have h5 := idx_lt hi' hj
      show (madeCells v.cells (m.toNat * i.size))[i' * i.size + j]? = _
      have h6 : v.cells.size = i.size := by simpa using hvl
      have h7 : (i' * i.size + j) % i.size = j := by rw [Nat.add_comm, Nat.add_mul_mod_self_right, Nat.mod_eq_of_lt hj]
      simp only [madeCells, Array.getElem?_map, Array.getElem?_range, h5, if_true, Option.map_some, h6, h7]
      rw [List.getD_eq_getElem?_getD]
      simp [show j < v.cells.size by omega])
    (fun i' j c hc => by
      refine ⟨?_, ls_refs hc _⟩
      obtain ⟨y, dd, h1, h2, rfl⟩ := ls_cell hc
      rw [List.getElem?_replicate] at h1
      split at h1
      case isFalse => cases h1
      obtain rfl := Option.some.inj h1
      have hj : j < v.cells.toList.length := by rw [← (okVZs_get hvz).1]; exact get_lt h2
      have := (okVZs_get hvz).2 j _ dd (List.getElem?_eq_getElem hj) h2
      rw [List.getD_eq_getElem?_getD, List.getElem?_eq_getElem hj]
      exact cell_in (okVZ_ok this false _ _))
    (fun i j x hx => hx.elim) (fun i j i' j' x hx => hx.elim)
  refine .val (.slice (some ⟨w.heap.size, 0, none⟩) m.toNat m.toNat) (w.alloc (.cells (madeCells v.cells (m.toNat * i.size)) e)) ?_ ?_
  · simp only [execOp, hop, hk1, hk2, Sem.run_bind, hrun, Result.andThen_ok, Sem.run_pure]
  · rw [hd]
    refine ⟨_, So', Pd', hR.set hn ?_⟩
    simp only [RegOK]
    refine ⟨_, new_self _ _ _, by simp [Ob.len], ?_⟩
    simp only [if_true]
    exact ⟨by omega, some ⟨w.heap.size, 0, none⟩, by simp, fun _ => by simp⟩

theorem s2bB_ok {s t : Nat} (h : s2bB P s t = true) : P.underlying s = some .string ∧ ∃ e, P.underlying t = some (.slice e) ∧ P.underlying e = some (.int .u8) := by
  unfold s2bB at h
  simp only [Bool.and_eq_true] at h
  obtain ⟨h1, h2⟩ := h
  split at h1
  case h_2 => cases h1
  split at h2
  case h_2 => cases h2
  rename_i e ht
  split at h2
  case h_2 => cases h2
  exact ⟨by assumption, e, ht, by assumption⟩

theorem ok_s2b (h : RepW N E loc So Pd σ a w) {d : Nat} {x : O} (hq : okL P N o (.s2b d x) = true) (hs : kstep X (.s2b d x) σ = some σ') : Outc P o a w (Rep N E σ') := by
  simp only [okL, Bool.and_eq_true] at hq
  obtain ⟨hd, hq⟩ := hq
  obtain ⟨hd, hn⟩ := dstB_ok hd
  split at hq
  case h_2 => cases hq
  rename_i s t q hop
  simp only [Bool.and_eq_true] at hq
  have hx := h.op hq.1
  obtain ⟨hus, e, hut, hue⟩ := s2bB_ok hq.2
  simp only [kstep] at hs
  split at hs
  case h_2 => cases hs
  rename_i l ex
  obtain rfl := Option.some.inj hs
  rw [ex] at hx
  have hxv := reg_s hx
  have hsz : (⟨l.toArray⟩ : ByteArray).size = l.length := by simp [← ByteArray.size_data]
  have hge := grownCap_ge w l.length 0 e
  have hrun := Lib.run_convert_string_bytes (P := P) w s t e ⟨l.toArray⟩ hus hut hue
  rw [hsz] at hrun
  have hcsz : (Lib.bytesCells w e ⟨l.toArray⟩).size = grownCap w l.length 0 e := by
    simp only [Lib.bytesCells, Array.size_append, Array.size_map, Array.size_replicate, hsz]
    simp; omega
  have hR := h.adopt (w' := Lib.bytesWorld w e ⟨l.toArray⟩) (nid d) w.heap.size 0 (grownCap w l.length 0 e) (.ls .u8 false l 0 []) (fun i _ => .int .u8 (l.getD i 0).toNat) (fun _ _ _ => False) (σ.new (nid d) (.ls .u8 false l 0 []))
    (fun x hx _ => Lib.bytesWorld_at_old w e _ x hx) (by rw [Lib.bytesWorld_size]; omega) (by rw [Lib.bytesWorld_size]; omega) rfl rfl rfl (.inl (Nat.le_refl _)) (.inr h.keep.size)
    ⟨_, _, _, Lib.bytesWorld_at_new w e _, fun o ho hq => by simp only at hq; omega, by simp only [Ob.sz, T.w, hcsz]; omega, by simpa [Ob.len] using hge, fun i j hi hj => by
      simp only [Ob.sz, T.w] at hj ⊢
      have hj0 : j = 0 := by omega
      subst hj0
      simp only [Ob.len] at hi
      show (Lib.bytesCells w e ⟨l.toArray⟩)[0 + i * 1 + 0]? = _
      simp only [Nat.zero_add, Nat.mul_one, Nat.add_zero, Lib.bytesCells]
      rw [Array.getElem?_append_left (by simpa using hi)]
      simp [hi]⟩
    False
    (fun i j c hc => by
      refine ⟨?_, fun hq => by rw [ls_refs hc] at hq; cases hq⟩
      obtain ⟨y, dd, h1, h2, rfl⟩ := ls_cell hc
      simp only [cellsT] at h2
      cases j with
      | succ j => simp at h2
      | zero =>
        simp only [List.getElem?_cons_zero, Option.some.injEq] at h2
        subst h2
        simp only [D.scalar, if_true, CellOK, List.getD_eq_getElem?_getD, h1, Option.getD_some]
        exact .u _)
    (fun i j x hx => hx.elim) (fun i j i' j' x hx => hx.elim) (fun q => q.elim) (.inl (by simp [nid])) (new_self _ _ _)
    (fun o2 ob2 hne hh => by obtain ⟨ob0, h0, e⟩ := new_objs _ _ _ o2 ob2 hne hh; exact ⟨ob0, h0, .inr e⟩)
    (fun o2 ob2 hne hh => ⟨_, new_objs2 _ _ _ o2 ob2 hne hh, Ob.unref_sz _ _, Ob.unref_len _ _⟩)
    (fun t v hk => by
      rcases unref_regs σ (nid d) t v hk with e | ⟨h1, h2⟩
      · exact .inl e
      · exact .inr ⟨h1, looks_false_of_refs h2, fun hq => by rw [h2] at hq; cases hq⟩)
  refine .val (.slice (some ⟨w.heap.size, 0, none⟩) l.length (grownCap w l.length 0 e)) (Lib.bytesWorld w e ⟨l.toArray⟩) ?_ ?_
  · simp only [execOp, hop, hxv, strV, Sem.run_bind]
    rw [hrun]
    rfl
  · rw [hd]
    refine ⟨_, _, _, hR.set hn ?_⟩
    simp only [RegOK]
    refine ⟨_, new_self _ _ _, by simp [Ob.len], ?_⟩
    simp only [if_true]
    exact ⟨by omega, some ⟨w.heap.size, 0, none⟩, by simp, fun _ => by simp⟩

theorem run_b2s {s t e : Nat} (hut : P.underlying t = some .string) (hus : P.underlying s = some (.slice e)) (hue : P.underlying e = some (.int .u8)) {ok : Nat → Prop} {v : Value} {l : List UInt8} (hr : Rd w ok v (.sl .u8 l)) : (convert s t v).run P w = .ok (strV l) w := by
  cases hr with
  | nil A c =>
    cases A with
    | none => exact run_convert_bytes_nil (P := P) w s e hus hue 0 c t hut
    | some ad =>
      obtain ⟨b, off, sp⟩ := ad
      rw [run_convert_bytes_string w s t e _ 0 c hus hue hut]
      simp [Conv.bytesToString, loadCells, loadCellsFrom, strV]
      rfl
  | sl b off c _ _ vs hb hc hm hrr =>
    have hget : ∀ i (hi : i < l.length), w.cell? ⟨b, off + i, none⟩ = some (.int .u8 (l[i].toNat : Int)) := fun i hi => by
      have h1 := List.getElem?_eq_getElem hi
      have h3 := hm i _ 0 (.u l[i]) h1 (by simp [cellsT])
      have h4 := hrr i _ 0 (.u l[i]) h1 (by simp [cellsT])
      simp only [T.w, Nat.mul_one, Nat.add_zero] at h3
      generalize vs i 0 = u at h3 h4
      cases h4
      exact h3
    let xs : List Int := l.map fun b => (b.toNat : Int)
    have hxs : ∀ i (hi : i < l.length), xs.getD i 0 = (l[i].toNat : Int) := fun i hi => by
      simp only [xs, List.getD_eq_getElem?_getD, List.getElem?_map, List.getElem?_eq_getElem hi, Option.map_some, Option.getD_some]
    rw [run_convert_bytes_arg (P := P) w s e hus hue b off l.length c xs (by simp [xs]) (fun i hi => by rw [hget i hi, hxs i hi]) t hut]
    congr 1
    have : (strOfNums xs) = ⟨l.toArray⟩ := by
      simp only [strOfNums]
      congr 1
      apply Array.ext'
      apply List.ext_getElem?
      intro i
      by_cases hi : i < l.length
      · simp [xs, List.getElem?_eq_getElem hi]
      · rw [List.getElem?_eq_none (by simp [xs]; omega), List.getElem?_eq_none (by simp; omega)]
    rw [this]
    rfl
/-- Rows of bytes are read, wherever they lie. -/
theorem flat_read (h : RepW N E loc So Pd σ a w) {v : Value} {o off n : Nat} {t : T} {fz : Bool} {l : List t.den} {k : Nat} {hs : List (Nat × Nat × Option Nat)} (hob : klook σ.objs o = some (.ls t fz l k hs)) (hv : RegOK w (Fz E So Pd w) loc So σ.objs v (.h o off n)) (hf : t.flat = true) : Rd w (Old w) v (.sl t ((l.drop off).take n)) := by
  obtain ⟨So', Pd', nv, Sf, f⟩ := tailOf_ok (P := default) (fz := true) (t := t) (q := ((l.drop off).take n, σ)) h hv (by simp only [tailOf, hob, Option.bind_some, hf, if_true, castL_refl, Option.map_some])
  simp only [RegOK] at hv
  obtain ⟨ob, hob', hle, hval⟩ := hv
  rw [hob] at hob'
  obtain rfl := Option.some.inj hob'
  simp only [Ob.len, Ob.sz] at hle hval
  have hlen : ((l.drop off).take n).length = n := by simp; omega
  cases hloc : loc o with
  | none =>
    rw [hloc] at hval
    obtain ⟨rfl, rfl, A, rfl⟩ := hval
    simp only [List.take_zero]
    exact .nil _ _ _
  | some q3 =>
    obtain ⟨b, base, cap⟩ := q3
    rw [hloc] at hval
    obtain ⟨hcap, A, rfl, hA⟩ := hval
    obtain ⟨hb, vs, Sg, hrow, hsub, hdis, hc⟩ := (h.objs o _ hob).some' b base cap hloc
    by_cases h0 : cap - off = 0
    · have hn : n = 0 := by omega
      subst hn
      simp only [List.take_zero]
      exact .nil _ _ _
    · have hA := hA (by omega)
      subst hA
      have := Rd.sl (w := w) (ok := Old w) b (base + off * t.w) (cap - off) t ((l.drop off).take n) (fun i j => vs (off + i) j) (h.has o b hb).2.2.1 (by rw [hlen]; omega)
        (fun i x j d hi hj => by
          obtain ⟨hi, _⟩ := sub_get hi
          have := hrow.cell (i := off + i) (j := j) (get_lt hi) (cells_lt hj)
          simp only [Ob.sz] at this
          rw [Nat.add_mul, ← Nat.add_assoc] at this
          exact this)
        (fun i x j d hi hj => by
          obtain ⟨hi, _⟩ := sub_get hi
          have hsc := cellsT_flat t x hf d (List.mem_of_getElem? hj)
          have hcl := hc (off + i) j _ (ob_cell hi hj)
          have e1 : cv fz k hs (off + i) j d = .d d := by simp only [cv, if_pos hsc]
          rw [e1] at hcl
          exact scalar_rd hcl hsc _ _)
      rw [hlen] at this
      exact this

theorem ok_b2s (h : RepW N E loc So Pd σ a w) {d : Nat} {x : O} (hq : okL P N o (.b2s d x) = true) (hs : kstep X (.b2s d x) σ = some σ') : Outc P o a w (Rep N E σ') := by
  simp only [okL, Bool.and_eq_true] at hq
  obtain ⟨hd, hq⟩ := hq
  obtain ⟨hd, hn⟩ := dstB_ok hd
  split at hq
  case h_2 => cases hq
  rename_i s t q hop
  simp only [Bool.and_eq_true] at hq
  have hx := h.op hq.1
  obtain ⟨hut, e, hus, hue⟩ := s2bB_ok hq.2
  have key : ∀ (ok : Nat → Prop) (l : List UInt8), Rd w ok (a.eval q) (.sl .u8 l) → σ' = σ.set d (.d (.s l)) → Outc P o a w (Rep N E σ') := fun ok l hr hs => by
    subst hs
    refine outc_val h hd hn (v := strV l) ?_ (by simp only [RegOK]; exact .s _)
    simp only [execOp, hop, Sem.run_bind, run_b2s hut hus hue hr]
    rfl
  simp only [kstep] at hs
  split at hs
  · rename_i l ex
    rw [ex] at hx
    simp only [RegOK] at hx
    exact key _ l hx (Option.some.inj hs).symm
  · rename_i o' l ex
    rw [ex] at hx
    simp only [RegOK] at hx
    exact key _ l hx.2 (Option.some.inj hs).symm
  · rename_i ty ex
    rw [ex] at hx
    simp only [RegOK] at hx
    exact key (fun _ => True) [] (by rw [hx]; exact .nil _ _ _) (Option.some.inj hs).symm
  · rename_i o' off n ex
    rw [ex] at hx
    obtain ⟨ob, hob, hs2⟩ := Option.bind_eq_some_iff.1 hs
    clear hs
    cases ob with
    | fn v => simp at hs2
    | ls ty fz l k hs' =>
      simp only at hs2
      obtain ⟨l', hl', rfl⟩ := Option.map_eq_some_iff.1 hs2
      obtain ⟨e1, hl'⟩ := castL_some hl'
      subst e1; subst hl'
      exact key _ _ (flat_read h hob hx rfl) rfl
  · cases hs

end rep
end Go.Proofs.YtniakiefibpgmaaGreatDoorK
