/- The quiet instructions: each says what its operation does. -/
import Derived.Test.YtniakiefibpgmaaGreatDoorJ7
set_option linter.unusedVariables false
set_option linter.unusedSimpArgs false
namespace Go.Proofs.YtniakiefibpgmaaGreatDoorK
open Go.RowKit

def dstB (o : Oper) (N d : Nat) : Bool := o.dst == some d && decide (d < N)
theorem dstB_ok {o : Oper} {N d : Nat} (h : dstB o N d = true) : o.dst = some d ∧ d < N := by simpa [dstB] using h
/-- The offset of a field that has cells. -/
def fieldB (P : Program) (s : TypeId) (f off : Nat) : Bool :=
  match P.underlying s with
  | some (.struct fs) => match fs[f]? with
    | some g => g.offset == off && !(szB P g.type 0) && (P.info? g.type).isSome
    | none => false
  | _ => false
def partB (P : Program) (s : TypeId) (f off sz : Nat) (ag : Bool) : Bool :=
  match P.underlying s with
  | some (.struct fs) => match fs[f]? with
    | some g => g.offset == off && szB P g.type sz && aggB P g.type ag
    | none => false
  | _ => false
def sliceB (P : Program) (t : TypeId) (sz : Nat) : Bool := match P.underlying t with | some (.slice e) => szB P e sz | _ => false
def strB (P : Program) (t : TypeId) : Bool := match P.underlying t with | some .string => true | _ => false
def intB (P : Program) (t : TypeId) (k : IntKind) : Bool := match P.underlying t with | some (.int k') => k == k' | _ => false
def isSlice (P : Program) (t : TypeId) : Bool := match P.underlying t with | some (.slice _) => true | _ => false
def ofTy (P : Program) (t : TypeId) (y : Operand) : Ty → Bool
  | .num => true
  | .flag => kindB P t 1
  | .st ks => eqTB P t ks
  | .ifc => ifcB P t y
def zeroB (P : Program) (t : TypeId) (z : List AV) : Bool := match P.info? t with | some i => (match i.zero with | some v => okVs v.cells.toList z | none => false) | none => false
/-- A struct's parts: where each goes. -/
def partsB (P : Program) (fs : Array Field) : List (Nat × Operand) → List (Nat × O) → List AV → Bool
  | [], [], _ => true
  | (f, x) :: xs, (off, o) :: os, z => okO x o && (match fs[f]? with | some g => g.offset == off && (P.info? g.type).isSome | none => false) && partsB P fs xs os z
  | _, _, _ => false

/-- Does this instruction say what this operation does (its guard apart)? -/
def okQ (P : Program) (N : Nat) (o : Oper) : I → Bool
  | .mv d x => dstB o N d && (match o.op with | .move y => okO y x | .assign y => okO y x | _ => false)
  | .pick d c x y => dstB o N d && (match o.op with | .pick c' x' y' => okO c' c && okO x' x && okO y' y | _ => false)
  | .ld d sz ag p => dstB o N d && (match o.op with | .load t q => okO q p && szB P t sz && aggB P t ag | _ => false)
  | .fa d p off => dstB o N d && (match o.op with | .fieldAddr s q f => okO q p && fieldB P s f off | _ => false)
  | .fd d x off sz ag => dstB o N d && (match o.op with | .field s q f => okO q x && partB P s f off sz ag | _ => false)
  | .ia d sz x i => dstB o N d && (match o.op with | .indexAddr t q r => okO q x && okO r i && sliceB P t sz | _ => false)
  | .ix d x i => dstB o N d && (match o.op with | .index t q r => okO q x && okO r i && strB P t | _ => false)
  | .len d x => dstB o N d && (match o.op with | .call ⟨.builtin .len, ⟨[q]⟩, ⟨[t]⟩⟩ => okO q x && isSlice P t | _ => false)
  | .lns d x => dstB o N d && (match o.op with | .call ⟨.builtin .len, ⟨[q]⟩, ⟨[t]⟩⟩ => okO q x && strB P t | _ => false)
  | .bin d op ty x y => dstB o N d && (match o.op with | .binOp op' t q r _ => op == op' && okO q x && okO r y && ofTy P t r ty | _ => false)
  | .not d x => dstB o N d && (match o.op with | .unOp .not _ q => okO q x | _ => false)
  | .neg d x => dstB o N d && (match o.op with | .unOp .neg _ q => okO q x | _ => false)
  | .cvi d k x => dstB o N d && (match o.op with | .convert s t q => okO q x && intB P t k && (P.underlying s).isSome | _ => false)
  | .slc d sz x lo hi => dstB o N d && (match o.op with | .slice t q l h none => okO q x && okOo l lo && okOo h hi && (if sz = 0 then strB P t else sliceB P t sz) | _ => false)
  | .ext d x j => dstB o N d && (match o.op with | .extract q j' => okO q x && j == j' | _ => false)
  | .nchk d x => dstB o N d && (match o.op with | .nilCheck q => okO q x | _ => false)
  | .mkf d f caps => dstB o N d && (match o.op with | .makeFunc (.func f') ⟨[]⟩ cs => f == f' && okOs cs.toList caps | _ => false)
  | .mm d big x y => dstB o N d && (match o.op with | .call ⟨.builtin b, ⟨[q, r]⟩, ⟨[_, _]⟩⟩ => okO q x && okO r y && (match b with | .max => big | .min => !big | _ => false) | _ => false)
  | _ => false

section rep
variable {P : Program} {N : Nat} {E : Ent} {loc : Nat → Option (Nat × Nat × Nat)} {So : Nat → Nat → Prop} {Pd : Nat → Prop} {σ σ' : St} {a : Act} {w : World} {X : XF} {o : Oper}

theorem ok_mv (h : RepW N E loc So Pd σ a w) {d : Nat} {x : O} (hq : okQ P N o (.mv d x) = true) (hs : kstep X (.mv d x) σ = some σ') : Outc P o a w (Rep N E σ') := by
  simp only [okQ, Bool.and_eq_true] at hq
  obtain ⟨hd, hq⟩ := hq
  obtain ⟨hd, hn⟩ := dstB_ok hd
  obtain rfl := Option.some.inj hs
  split at hq
  · rename_i y hop
    exact outc_val h hd hn (by simp [execOp, hop]) (h.op hq)
  · rename_i y hop
    exact outc_val h hd hn (by simp [execOp, hop]) (h.op hq)
  · cases hq

theorem ok_pick (h : RepW N E loc So Pd σ a w) {d : Nat} {c x y : O} (hq : okQ P N o (.pick d c x y) = true) (hs : kstep X (.pick d c x y) σ = some σ') : Outc P o a w (Rep N E σ') := by
  simp only [okQ, Bool.and_eq_true] at hq
  obtain ⟨hd, hq⟩ := hq
  obtain ⟨hd, hn⟩ := dstB_ok hd
  split at hq
  · rename_i c' x' y' hop
    simp only [Bool.and_eq_true] at hq
    simp only [kstep] at hs
    split at hs
    · rename_i t ht
      obtain rfl := Option.some.inj hs
      have hc := h.op hq.1.1
      rw [ht] at hc
      simp only [RegOK] at hc
      have e : a.eval c' = .bool t := by generalize a.eval c' = u at hc; cases hc; rfl
      exact outc_val h hd hn (by simp [execOp, hop, e, asBool]) (pickV_ok (h.op hq.1.2) (h.op hq.2))
    · cases hs
  · cases hq

theorem run_load_one {t : TypeId} {ag : Bool} (hs : szB P t 1 = true) (hg : aggB P t ag = true) (hag : ag = false) {b o : Nat} {v : Value} (h : w.cell? ⟨b, o, none⟩ = some v) : (loadVar t ⟨b, o, none⟩).run P w = .ok v w := by
  subst hag
  exact run_loadVar_one hg b o v h
theorem ok_ld (h : RepW N E loc So Pd σ a w) {d sz : Nat} {ag : Bool} {p : O} (hq : okQ P N o (.ld d sz ag p) = true) (hs : kstep X (.ld d sz ag p) σ = some σ') : Outc P o a w (Rep N E σ') := by
  simp only [okQ, Bool.and_eq_true] at hq
  obtain ⟨hd, hq⟩ := hq
  obtain ⟨hd, hn⟩ := dstB_ok hd
  split at hq
  · rename_i t q hop
    simp only [Bool.and_eq_true] at hq
    obtain ⟨⟨h1, h2⟩, h3⟩ := hq
    have hp := h.op h1
    simp only [kstep] at hs
    split at hs
    · rename_i o' i j e
      rw [e] at hp
      simp only [RegOK] at hp
      obtain ⟨ob, b, base, cap, hob, hloc, hi, hv⟩ := hp
      rw [hob] at hs
      simp only [Option.bind_some] at hs
      cases ob with
      | ls ty fz l k hs' =>
        simp only at hs
        obtain ⟨x, hx, hs⟩ := Option.bind_eq_some_iff.1 hs
        obtain ⟨cs, hl, hs⟩ := Option.bind_eq_some_iff.1 hs
        obtain ⟨v, hpk, rfl⟩ := Option.map_eq_some_iff.1 hs
        obtain ⟨vs, q1, q2, q3⟩ := views_ok h hob hloc hx hl
        obtain ⟨u, r1, r2⟩ := run_load_any (P := P) h2 h3 q1 q2 q3 hpk
        exact outc_val h hd hn (by simp [execOp, hop, hv, Ob.sz, Instr.loadAt, Instr.sureAddr, r1]) r2
      | fn v =>
        simp only at hs
        by_cases hz : i = 0 ∧ j = 0 ∧ sz = 1 ∧ ag = false
        case neg => rw [if_neg hz] at hs; cases hs
        rw [if_pos hz] at hs
        obtain rfl := Option.some.inj hs
        obtain ⟨rfl, rfl, rfl, hag⟩ := hz
        obtain ⟨hb, vs, Sf, hrow, hsub, hdd, hc⟩ := (h.objs o' _ hob).some' b base cap hloc
        have hcell := hrow.cell (i := 0) (j := 0) hi (by simp [Ob.sz])
        have hr := run_load_one (P := P) h2 h3 hag hcell
        refine outc_val h hd hn (v := vs 0 0) ?_ (hc 0 0 (.fn v) rfl).2.2
        simp only [Nat.zero_mul, Nat.add_zero] at hr
        simp [execOp, hop, hv, Instr.loadAt, Instr.sureAddr, hr]
    · rename_i o' cs e
      rw [e] at hp
      simp only [RegOK] at hp
      obtain ⟨b, off, hv, hs', hok, vs, hc⟩ := hp
      obtain ⟨l, hl, hs⟩ := Option.bind_eq_some_iff.1 hs
      obtain ⟨v, hpk, rfl⟩ := Option.map_eq_some_iff.1 hs
      obtain ⟨us, q1, q2, q3⟩ := viewsD_ok (loc := loc) hs' vs hc hl
      simp only [Nat.zero_add] at q2
      obtain ⟨u, r1, r2⟩ := run_load_any (P := P) h2 h3 q1 q2 q3 hpk
      exact outc_val h hd hn (by simp [execOp, hop, hv, Instr.loadAt, Instr.sureAddr, r1]) r2
    · rename_i v e
      rw [e] at hp
      simp only [RegOK] at hp
      obtain ⟨b, off, u, hv, hb, hc, hbl, hu⟩ := hp
      by_cases hz : sz = 1 ∧ ag = false
      case neg => rw [if_neg hz] at hs; cases hs
      rw [if_pos hz] at hs
      obtain rfl := Option.some.inj hs
      obtain ⟨rfl, hag⟩ := hz
      have hr := run_load_one (P := P) h2 h3 hag hc
      exact outc_val h hd hn (v := u) (by simp [execOp, hop, hv, Instr.loadAt, Instr.sureAddr, hr]) hu
    · cases hs
  · cases hq

theorem fieldB_ok {s f off : Nat} (h : fieldB P s f off = true) (b o : Nat) (w : World) : (Instr.fieldAt s (.pointer (some ⟨b, o, none⟩)) f).run P w = .ok (.pointer (some ⟨b, o + off, none⟩)) w := by
  unfold fieldB at h
  split at h
  · rename_i fs hu
    split at h
    · rename_i g hg
      simp only [Bool.and_eq_true, beq_iff_eq, Bool.not_eq_true'] at h
      obtain ⟨⟨h1, h2⟩, h3⟩ := h
      obtain ⟨i, hi⟩ := Option.isSome_iff_exists.1 h3
      have hne : i.size ≠ 0 := by
        intro e
        simp [szB, hi, e] at h2
      simp [Instr.fieldAt, run_underlying hu, hg, Instr.sureAddr, fieldPlace, sizeOf, typeInfo, hi, hne, h1, add_plain]
    · cases h
  · cases h

theorem ok_fa (h : RepW N E loc So Pd σ a w) {d off : Nat} {p : O} (hq : okQ P N o (.fa d p off) = true) (hs : kstep X (.fa d p off) σ = some σ') : Outc P o a w (Rep N E σ') := by
  simp only [okQ, Bool.and_eq_true] at hq
  obtain ⟨hd, hq⟩ := hq
  obtain ⟨hd, hn⟩ := dstB_ok hd
  split at hq
  · rename_i s q f hop
    simp only [Bool.and_eq_true] at hq
    have hp := h.op hq.1
    simp only [kstep] at hs
    split at hs
    · rename_i o' i j e
      obtain rfl := Option.some.inj hs
      rw [e] at hp
      simp only [RegOK] at hp
      obtain ⟨ob, b, base, cap, hob, hloc, hi, hv⟩ := hp
      refine outc_val h hd hn (v := .pointer (some ⟨b, base + i * ob.sz + j + off, none⟩)) (by simp [execOp, hop, hv, fieldB_ok hq.2]) ?_
      simp only [RegOK]
      exact ⟨ob, b, base, cap, hob, hloc, hi, by rw [Nat.add_assoc]⟩
    · rename_i o' cs e
      rw [e] at hp
      simp only [RegOK] at hp
      obtain ⟨b, off', hv, hs', hok, vs, hc⟩ := hp
      by_cases hle : off ≤ cs.length
      · rw [if_pos hle] at hs
        obtain rfl := Option.some.inj hs
        refine outc_val h hd hn (v := .pointer (some ⟨b, off' + off, none⟩)) (by simp [execOp, hop, hv, fieldB_ok hq.2]) ?_
        simp only [RegOK]
        refine ⟨b, off' + off, rfl, hs', fun hne => hok (fun e => hne (by rw [e]; simp)), fun j => vs (off + j), fun j dd hj => ?_⟩
        have := hc (off + j) dd (by simpa using hj)
        rw [← Nat.add_assoc] at this
        exact this
      · rw [if_neg hle] at hs; cases hs
    · cases hs
  · cases hq

theorem partB_ok {s f off sz : Nat} {ag : Bool} (h : partB P s f off sz ag = true) {vs : List Value} {l m : List AV} {v : AV} {fz : Nat → Prop} {objs : List (Nat × Ob)} (hv : RegsOK w fz loc So objs vs l)
    (hm : kcut l off sz = some m) (hp : packed ag m = some v) : ∃ u, (Instr.field s (.agg vs.toArray) f).run P w = .ok u w ∧ RegOK w fz loc So objs u v := by
  unfold partB at h
  split at h
  · rename_i fs hu
    split at h
    · rename_i g hg
      simp only [Bool.and_eq_true, beq_iff_eq] at h
      obtain ⟨⟨h1, h2⟩, h3⟩ := h
      have hlen := hv.length
      unfold kcut at hm
      by_cases hle : off + sz ≤ l.length
      case neg => rw [if_neg hle] at hm; cases hm
      rw [if_pos hle] at hm
      obtain rfl := Option.some.inj hm
      have hr := (hv.drop off).take sz
      rcases packed_ok hr hp with ⟨rfl, r1⟩ | ⟨rfl, u, r0, r1⟩
      · refine ⟨_, ?_, r1⟩
        simp only [Instr.field, Sem.run_bind, run_underlying hu, Result.andThen_ok, hg, asAgg, Sem.run_pure, part, aggB_ok h3, if_true, szB_ok h2, h1]
        congr 2
        simp
      · refine ⟨u, ?_, r1⟩
        have : vs[off]? = some u := by
          have := congrArg (fun z => z[0]?) r0
          have hsz : 0 < sz := by
            rcases Nat.eq_zero_or_pos sz with e | e
            · subst e; simp at r0
            · exact e
          simpa [List.getElem?_take, hsz] using this
        simp only [Instr.field, Sem.run_bind, run_underlying hu, Result.andThen_ok, hg, asAgg, Sem.run_pure, part, aggB_ok h3, Bool.false_eq_true, if_false, h1]
        simp [this]
    · cases h
  · cases h

theorem ok_fd (h : RepW N E loc So Pd σ a w) {d off sz : Nat} {ag : Bool} {x : O} (hq : okQ P N o (.fd d x off sz ag) = true) (hs : kstep X (.fd d x off sz ag) σ = some σ') : Outc P o a w (Rep N E σ') := by
  simp only [okQ, Bool.and_eq_true] at hq
  obtain ⟨hd, hq⟩ := hq
  obtain ⟨hd, hn⟩ := dstB_ok hd
  split at hq
  · rename_i s q f hop
    simp only [Bool.and_eq_true] at hq
    have hp := h.op hq.1
    simp only [kstep] at hs
    split at hs
    · rename_i l e
      obtain ⟨m, hm, hs⟩ := Option.bind_eq_some_iff.1 hs
      obtain ⟨v, hpk, rfl⟩ := Option.map_eq_some_iff.1 hs
      rw [e] at hp
      simp only [RegOK] at hp
      obtain ⟨vs, hv, hvs⟩ := hp
      obtain ⟨u, r1, r2⟩ := partB_ok (P := P) hq.2 hvs hm hpk
      exact outc_val h hd hn (by simp [execOp, hop, hv, r1]) r2
    · cases hs
  · cases hq

theorem sliceB_ok {t sz : Nat} (h : sliceB P t sz = true) : ∃ e, P.underlying t = some (.slice e) ∧ szB P e sz = true := by
  unfold sliceB at h
  split at h
  · rename_i e hu; exact ⟨e, hu, h⟩
  · cases h

theorem run_indexAt {t e sz : Nat} {k : IntKind} {i : Int} {b off n c : Nat} (hu : P.underlying t = some (.slice e)) (hs : szB P e sz = true) (h0 : 0 ≤ i) (hn : i < (n : Int)) :
    (Instr.indexAt t (.slice (some ⟨b, off, none⟩) n c) (.int k i)).run P w = .ok (.pointer (some ⟨b, off + i.toNat * sz, none⟩)) w := by
  simp [Instr.indexAt, asIntOf, run_underlying hu, h0, hn, szB_ok hs, add_plain]

theorem getElem?_lt {α : Type} {l : List α} {i : Nat} {x : α} (h : l[i]? = some x) : i < l.length := by
  rcases Nat.lt_or_ge i l.length with q | q
  · exact q
  · rw [List.getElem?_eq_none q] at h; cases h

/-- An element of what only reads. -/
theorem elem_ok {ok : Nat → Prop} {v : Value} {t : T} {l : List t.den} {x : t.den} {i : Int} (h : Rd w ok v (.sl t l)) (h0 : 0 ≤ i) (hc : l[i.toNat]? = some x) :
    ∃ b off n c, v = .slice (some ⟨b, off, none⟩) n c ∧ i < (n : Int) ∧ ok b ∧
      ∃ vs : Nat → Value, ∀ (j : Nat) (d : D), (cellsT t x)[j]? = some d → w.cell? ⟨b, off + i.toNat * t.w + j, none⟩ = some (vs j) ∧ Rd w ok (vs j) d := by
  cases h with
  | nil A c => simp at hc
  | sl b off c _ _ vs hb hcap hm hr =>
    have hi := getElem?_lt hc
    exact ⟨b, off, l.length, c, rfl, by omega, hb, fun j => vs i.toNat j, fun j d hj => ⟨hm _ _ _ _ hc hj, hr _ _ _ _ hc hj⟩⟩

theorem ok_ia (h : RepW N E loc So Pd σ a w) {d sz : Nat} {x i : O} (hq : okQ P N o (.ia d sz x i) = true) (hs : kstep X (.ia d sz x i) σ = some σ') : Outc P o a w (Rep N E σ') := by
  simp only [okQ, Bool.and_eq_true] at hq
  obtain ⟨hd, hq⟩ := hq
  obtain ⟨hd, hn⟩ := dstB_ok hd
  split at hq
  · rename_i t q r hop
    simp only [Bool.and_eq_true] at hq
    have hx := h.op hq.1.1
    obtain ⟨e, hu, he⟩ := sliceB_ok hq.2
    simp only [kstep] at hs
    obtain ⟨n, hi, hs⟩ := Option.bind_eq_some_iff.1 hs
    obtain ⟨k, hk⟩ := asInt_ok (h.op hq.1.2) hi
    by_cases h0 : 0 ≤ n
    case neg => rw [if_neg h0] at hs; cases hs
    rw [if_pos h0] at hs
    split at hs
    · rename_i ty l ex
      obtain ⟨y, hy, hs⟩ := Option.bind_eq_some_iff.1 hs
      by_cases hl : ty.w = sz
      case neg => rw [if_neg hl] at hs; cases hs
      rw [if_pos hl] at hs
      obtain rfl := Option.some.inj hs
      rw [ex] at hx
      simp only [RegOK] at hx
      obtain ⟨b, off, m, c, hv, hlt, hok, vs, hc⟩ := elem_ok hx h0 hy
      rw [hl] at hc
      refine outc_val h hd hn (v := .pointer (some ⟨b, off + n.toNat * sz, none⟩)) (by simp [execOp, hop, hv, hk, run_indexAt hu he h0 hlt]) ?_
      simp only [RegOK]
      exact ⟨b, _, rfl, by simp, fun _ => hok, vs, hc⟩
    · rename_i o' ty l ex
      obtain ⟨y, hy, hs⟩ := Option.bind_eq_some_iff.1 hs
      by_cases hl : ty.w = sz
      case neg => rw [if_neg hl] at hs; cases hs
      rw [if_pos hl] at hs
      obtain rfl := Option.some.inj hs
      rw [ex] at hx
      simp only [RegOK] at hx
      obtain ⟨b, off, m, c, hv, hlt, hok, vs, hc⟩ := elem_ok hx.2 h0 hy
      rw [hl] at hc
      refine outc_val h hd hn (v := .pointer (some ⟨b, off + n.toNat * sz, none⟩)) (by simp [execOp, hop, hv, hk, run_indexAt hu he h0 hlt]) ?_
      simp only [RegOK]
      exact ⟨b, _, rfl, by intro o'' e; cases e; exact hx.1, fun _ => hok, vs, hc⟩
    · rename_i o' off m ex
      obtain ⟨ob, hob, hs⟩ := Option.bind_eq_some_iff.1 hs
      by_cases hl : n < (m : Int) ∧ ob.sz = sz
      case neg => rw [if_neg hl] at hs; cases hs
      rw [if_pos hl] at hs
      obtain rfl := Option.some.inj hs
      rw [ex] at hx
      simp only [RegOK] at hx
      obtain ⟨ob', hob', hle, hv⟩ := hx
      rw [hob] at hob'
      obtain rfl := Option.some.inj hob'
      cases hloc : loc o' with
      | none => rw [hloc] at hv; simp only [HVal] at hv; omega
      | some q3 =>
        obtain ⟨b, base, cap⟩ := q3
        rw [hloc] at hv
        simp only [HVal] at hv
        obtain ⟨hcap, A, hv, hA⟩ := hv
        have hA := hA (by omega)
        subst hA
        refine outc_val h hd hn (v := .pointer (some ⟨b, base + off * ob.sz + n.toNat * sz, none⟩)) (by simp [execOp, hop, hv, hk, run_indexAt hu he h0 hl.1]) ?_
        simp only [RegOK]
        refine ⟨ob, b, base, cap, hob, hloc, by omega, ?_⟩
        rw [hl.2, Nat.add_mul, Nat.add_zero, Nat.add_assoc]
    · cases hs
  · cases hq

end rep
end Go.Proofs.YtniakiefibpgmaaGreatDoorK
