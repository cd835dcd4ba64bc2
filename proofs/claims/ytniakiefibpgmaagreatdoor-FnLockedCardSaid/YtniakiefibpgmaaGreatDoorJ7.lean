/- The checker for operations that change no memory, and that it is right. -/
import Derived.Test.YtniakiefibpgmaaGreatDoorJ6
set_option linter.unusedVariables false
set_option linter.unusedSimpArgs false
namespace Go.Proofs.YtniakiefibpgmaaGreatDoorK
open Go.RowKit

section rep
variable {P : Program} {N : Nat} {E : Ent} {loc : Nat → Option (Nat × Nat × Nat)} {So : Nat → Nat → Prop} {Pd : Nat → Prop} {σ : St} {a : Act} {w : World}

theorem toList_strV (l : List UInt8) : (⟨l.toArray⟩ : ByteArray).toList = l := by rw [ByteArray.toList_eq]

theorem binS_ok {op : BinOp} {t : TypeId} {x y : List UInt8} {r : D} (h : binS op x y = some r) (q s : Operand) :
    ∃ v, (do eqGuard op t q s (strV x) (strV y); binOp op t (strV x) (strV y) : Sem Value).run P w = .ok v w ∧ (∀ w' ok, Rd w' ok v r) := by
  have hg : (eqGuard op t q s (strV x) (strV y)).run P w = .ok () w := by cases op <;> simp [eqGuard, strV]
  simp only [Sem.run_bind, hg, Result.andThen_ok]
  cases op <;> simp only [binS] at h <;> first | (cases h; done) | skip
  · by_cases hl : x.length + y.length ≤ 9223372036854775807
    · rw [if_pos hl] at h
      obtain rfl := Option.some.inj h
      refine ⟨strV (x ++ y), ?_, fun w' ok => .s _⟩
      have : ¬ (((x.length + y.length : Nat) : Int) > IntKind.i64.max) := by simp [IntKind.max, IntKind.signed, IntKind.bits]; omega
      simp only [binOp, strV, Op.stringOp]
      have e1 : (⟨x.toArray⟩ : ByteArray).size = x.length := by simp [ByteArray.size]
      have e2 : (⟨y.toArray⟩ : ByteArray).size = y.length := by simp [ByteArray.size]
      rw [e1, e2, if_neg this]
      simp only [Sem.run_pure]
      congr 2
    · rw [if_neg hl] at h; cases h
  · obtain rfl := Option.some.inj h
    refine ⟨.bool (decide (x = y)), ?_, fun w' ok => .b _⟩
    simp only [binOp, strV, Op.stringOp, toList_strV, Sem.run_pure]
    congr 2
    rw [Bool.eq_iff_iff]; simp
  · obtain rfl := Option.some.inj h
    refine ⟨.bool (!decide (x = y)), ?_, fun w' ok => .b _⟩
    simp only [binOp, strV, Op.stringOp, toList_strV, Sem.run_pure]
    congr 3
    rw [Bool.eq_iff_iff]; simp
  · obtain rfl := Option.some.inj h
    refine ⟨.bool (Op.bytesLess x y), ?_, fun w' ok => .b _⟩
    simp only [binOp, strV, Op.stringOp, toList_strV, Sem.run_pure]

theorem binSh_ok {op : BinOp} {t : TypeId} {k k' : IntKind} {x y : Int} {r : D} (h : binSh op k x y = some r) (q s : Operand) :
    ∃ v, (do eqGuard op t q s (.int k x) (.int k' y); binOp op t (.int k x) (.int k' y) : Sem Value).run P w = .ok v w ∧ (∀ w' ok, Rd w' ok v r) := by
  have hg : (eqGuard op t q s (.int k x) (.int k' y)).run P w = .ok () w := by cases op <;> simp [eqGuard]
  simp only [Sem.run_bind, hg, Result.andThen_ok]
  cases op <;> simp only [binSh] at h <;> first | (cases h; done) | skip
  all_goals
    by_cases hy : y < 0
    · rw [if_pos hy] at h; cases h
    · rw [if_neg hy] at h
      obtain rfl := Option.some.inj h
      refine ⟨.int k _, ?_, fun w' ok => .i _ _⟩
      simp only [binOp, Op.shift, if_neg hy, Sem.run_pure]

theorem binI_ok {op : BinOp} {t : TypeId} {k : IntKind} {x y : Int} {r : D} (hs : isSh op = false) (h : binI op k x y = some r) (q s : Operand) :
    ∃ v, (do eqGuard op t q s (.int k x) (.int k y); binOp op t (.int k x) (.int k y) : Sem Value).run P w = .ok v w ∧ (∀ w' ok, Rd w' ok v r) := by
  have hg : (eqGuard op t q s (.int k x) (.int k y)).run P w = .ok () w := by cases op <;> simp [eqGuard]
  simp only [Sem.run_bind, hg, Result.andThen_ok]
  cases op <;> simp only [binI] at h <;> first | (cases h; done) | skip
  case quo =>
    by_cases hy : y = 0
    · rw [if_pos hy] at h; cases h
    · rw [if_neg hy] at h
      obtain rfl := Option.some.inj h
      refine ⟨.int k (k.wrap (x.tdiv y)), ?_, fun w' ok => .i _ _⟩
      simp [binOp, Op.intDiv, hy]
  case rem =>
    by_cases hy : y = 0
    · rw [if_pos hy] at h; cases h
    · rw [if_neg hy] at h
      obtain rfl := Option.some.inj h
      refine ⟨.int k (x.tmod y), ?_, fun w' ok => .i _ _⟩
      simp [binOp, Op.intDiv, hy]
  case eql =>
    obtain rfl := Option.some.inj h
    refine ⟨.bool (decide (x = y)), ?_, fun w' ok => .b _⟩
    simp [binOp, Op.intCmp]; rw [Bool.eq_iff_iff]; simp
  case neq =>
    obtain rfl := Option.some.inj h
    refine ⟨.bool (!decide (x = y)), ?_, fun w' ok => .b _⟩
    simp [binOp, Op.intCmp]; rw [Bool.eq_iff_iff]; simp
  all_goals
    obtain rfl := Option.some.inj h
    first
      | (refine ⟨.bool _, ?_, fun w' ok => .b _⟩; simp [binOp, Op.intCmp]; done)
      | (refine ⟨.int k _, ?_, fun w' ok => .i _ _⟩; simp [binOp, Op.intArith, Op.intBits]; done)

def kindB (P : Program) (t : TypeId) (k : Nat) : Bool := match P.underlying t, k with | some (.int _), 0 => true | some .bool, 1 => true | some .string, 2 => true | _, _ => false
def flatB (P : Program) : Nat → List Field → List Nat → Bool
  | _, [], [] => true
  | k, f :: fs, q :: ks => f.offset == k && f.name != "_" && kindB P f.type q && flatB P (k + 1) fs ks
  | _, _, _ => false
def eqTB (P : Program) (t : TypeId) (ks : List Nat) : Bool :=
  match P.underlying t with
  | some (.struct fs) => flatB P 0 fs.toList ks && !P.stoodInHeld t && !P.eqGuardType P.depth t
  | _ => false

theorem kindB_0 {t : TypeId} (h : kindB P t 0 = true) : ∃ k, P.underlying t = some (.int k) := by
  unfold kindB at h
  cases hu : P.underlying t with
  | none => rw [hu] at h; cases h
  | some d => cases d <;> simp_all
theorem kindB_1 {t : TypeId} (h : kindB P t 1 = true) : P.underlying t = some .bool := by
  unfold kindB at h
  cases hu : P.underlying t with
  | none => rw [hu] at h; cases h
  | some d => cases d <;> simp_all
theorem kindB_2 {t : TypeId} (h : kindB P t 2 = true) : P.underlying t = some .string := by
  unfold kindB at h
  cases hu : P.underlying t with
  | none => rw [hu] at h; cases h
  | some d => cases d <;> simp_all
theorem eqD_ok {d : Nat} {t : TypeId} {k : Nat} {u v : Value} {x y : AV} {r : Bool} {fz : Nat → Prop} {objs : List (Nat × Ob)} (ht : kindB P t k = true)
    (hx : RegOK w fz loc So objs u x) (hy : RegOK w fz loc So objs v y) (h : eqD k x y = some r) : (Op.equalIn (d + 1) t u v).run P w = .ok r w := by
  unfold eqD at h
  split at h
  · rename_i k1 p k2 q
    by_cases e : k1 = k2
    · rw [if_pos e] at h
      obtain rfl := Option.some.inj h
      subst e
      obtain ⟨k0, hu⟩ := kindB_0 ht
      simp only [RegOK] at hx hy
      cases hx; cases hy
      rw [run_equalIn_int w d t _ _ _ _ hu]
      congr 1
    · rw [if_neg e] at h; cases h
  · obtain rfl := Option.some.inj h
    have hu := kindB_1 ht
    simp only [RegOK] at hx hy
    cases hx; cases hy
    rw [run_equalIn_bool' w d t _ _ hu]
  · obtain rfl := Option.some.inj h
    have hu := kindB_2 ht
    simp only [RegOK] at hx hy
    cases hx; cases hy
    rw [strV, strV, run_equalIn_string w d t _ _ hu, toList_strV, toList_strV]
    congr 1
    rw [Bool.eq_iff_iff]; simp
  · cases h

theorem kindB_agg {t : TypeId} {k : Nat} (h : kindB P t k = true) : aggB P t false = true := by
  unfold kindB at h
  unfold aggB
  split at h <;> simp_all
theorem run_part {t : TypeId} {cs : Array Value} {off : Nat} {v : Value} (hg : aggB P t false = true) (h : cs[off]? = some v) : (part t cs off).run P w = .ok v w := by
  simp [part, aggB_ok hg, h]

theorem eqFields_ok {d : Nat} {fz : Nat → Prop} {objs : List (Nat × Ob)} (us vs : List Value) : ∀ (fs : List Field) (ks : List Nat) (k : Nat) (l m : List AV) (r : Bool), flatB P k fs ks = true →
    RegsOK w fz loc So objs (us.drop k) l → RegsOK w fz loc So objs (vs.drop k) m → eqL ks l m = some r → (Op.eqFields (d + 1) us.toArray vs.toArray fs).run P w = .ok r w := by
  intro fs
  induction fs with
  | nil =>
    intro ks k l m r hf hx hy h
    cases ks with
    | nil =>
      unfold eqL at h
      split at h <;> simp_all
      simp [Op.eqFields, ← h]
    | cons _ _ => simp [flatB] at hf
  | cons f fs ih =>
    intro ks k l m r hf hx hy h
    cases ks with
    | nil => simp [flatB] at hf
    | cons q ks =>
      simp only [flatB, Bool.and_eq_true, beq_iff_eq, bne_iff_ne, ne_eq] at hf
      obtain ⟨⟨⟨h1, h2⟩, h3⟩, h4⟩ := hf
      unfold eqL at h
      split at h
      · simp_all
      · rename_i k' ks' x l' y m' e1
        simp only [List.cons.injEq] at e1
        obtain ⟨rfl, rfl⟩ := e1
        obtain ⟨t1, ht1, h⟩ := Option.bind_eq_some_iff.1 h
        obtain ⟨t2, ht2, h⟩ := Option.map_eq_some_iff.1 h
        subst h
        cases hu : us.drop k with
        | nil => rw [hu] at hx; simp only [RegsOK] at hx
        | cons u us' =>
          cases hv : vs.drop k with
          | nil => rw [hv] at hy; simp only [RegsOK] at hy
          | cons v vs' =>
            rw [hu] at hx; rw [hv] at hy
            simp only [RegsOK] at hx hy
            have eu : us.toArray[f.offset]? = some u := by
              rw [h1]; have := congrArg (fun z => z[0]?) hu; simpa using this
            have ev : vs.toArray[f.offset]? = some v := by
              rw [h1]; have := congrArg (fun z => z[0]?) hv; simpa using this
            have du : us.drop (k + 1) = us' := by rw [← List.drop_drop, hu]; rfl
            have dv : vs.drop (k + 1) = vs' := by rw [← List.drop_drop, hv]; rfl
            have hrec := ih ks (k + 1) l' m' t2 h4 (by rw [du]; exact hx.2) (by rw [dv]; exact hy.2) ht2
            simp only [Op.eqFields, ne_eq, h2, not_false_eq_true, if_true, Sem.run_bind, run_part (kindB_agg h3) eu, run_part (kindB_agg h3) ev, Result.andThen_ok, eqD_ok h3 hx.1 hy.1 ht1]
            cases t1
            · simp
            · simpa using hrec
      · cases h

def ifcB (P : Program) (t : TypeId) (y : Operand) : Bool := (match P.underlying t with | some (.interface _) => true | _ => false) && (match y with | .const _ => true | _ => false)
theorem wrap_u8 (n : Int) : IntKind.u8.wrap n = n % 256 := by
  simp [IntKind.wrap, IntKind.bits, IntKind.signed]
theorem u8_of_int {n : Int} {b : UInt8} (h : n = (b.toNat : Int)) {v : Value} (hv : ∀ w' ok, Rd w' ok v (.i .u8 n)) (w' : World) (ok : Nat → Prop) : Rd w' ok v (.u b) := by
  have := hv w' ok
  cases this
  subst h
  exact .u b
theorem u8_bits (b : UInt8) : BitVec.ofInt 8 (b.toNat : Int) = b.toBitVec := by
  apply BitVec.eq_of_toNat_eq
  simp
theorem binU_ok {op : BinOp} {t : TypeId} {x y : UInt8} {r : D} (h : binU op x y = some r) (q s : Operand) :
    ∃ v, (do eqGuard op t q s (.int .u8 x.toNat) (.int .u8 y.toNat); binOp op t (.int .u8 x.toNat) (.int .u8 y.toNat) : Sem Value).run P w = .ok v w ∧ (∀ w' ok, Rd w' ok v r) := by
  have hx := x.toNat_lt
  have hy := y.toNat_lt
  cases op <;> simp only [binU] at h <;> first | (cases h; done) | skip
  case add =>
    obtain rfl := Option.some.inj h
    obtain ⟨v, h1, h2⟩ := binI_ok (P := P) (w := w) (op := .add) (t := t) (k := .u8) (x := x.toNat) (y := y.toNat) rfl rfl q s
    refine ⟨v, h1, u8_of_int ?_ h2⟩
    rw [wrap_u8, UInt8.toNat_add]; omega
  case sub =>
    obtain rfl := Option.some.inj h
    obtain ⟨v, h1, h2⟩ := binI_ok (P := P) (w := w) (op := .sub) (t := t) (k := .u8) (x := x.toNat) (y := y.toNat) rfl rfl q s
    refine ⟨v, h1, u8_of_int ?_ h2⟩
    rw [wrap_u8, UInt8.toNat_sub]; omega
  case and =>
    obtain rfl := Option.some.inj h
    obtain ⟨v, h1, h2⟩ := binI_ok (P := P) (w := w) (op := .and) (t := t) (k := .u8) (x := x.toNat) (y := y.toNat) rfl rfl q s
    refine ⟨v, h1, u8_of_int ?_ h2⟩
    show IntKind.u8.wrap (BitVec.ofInt 8 (x.toNat : Int) &&& BitVec.ofInt 8 (y.toNat : Int)).toNat = _
    rw [wrap_u8, u8_bits, u8_bits, ← UInt8.toBitVec_and]
    have := (x &&& y).toNat_lt
    simp only [UInt8.toNat_toBitVec]; omega
  case or =>
    obtain rfl := Option.some.inj h
    obtain ⟨v, h1, h2⟩ := binI_ok (P := P) (w := w) (op := .or) (t := t) (k := .u8) (x := x.toNat) (y := y.toNat) rfl rfl q s
    refine ⟨v, h1, u8_of_int ?_ h2⟩
    show IntKind.u8.wrap (BitVec.ofInt 8 (x.toNat : Int) ||| BitVec.ofInt 8 (y.toNat : Int)).toNat = _
    rw [wrap_u8, u8_bits, u8_bits, ← UInt8.toBitVec_or]
    have := (x ||| y).toNat_lt
    simp only [UInt8.toNat_toBitVec]; omega
  case eql =>
    obtain rfl := Option.some.inj h
    have := binI_ok (P := P) (w := w) (op := .eql) (t := t) (k := .u8) (x := x.toNat) (y := y.toNat) rfl rfl q s
    have e : decide ((x.toNat : Int) = y.toNat) = decide (x = y) := by rw [Bool.eq_iff_iff]; simp only [decide_eq_true_eq, ← UInt8.toNat_inj]; omega
    rwa [e] at this
  case neq =>
    obtain rfl := Option.some.inj h
    have := binI_ok (P := P) (w := w) (op := .neq) (t := t) (k := .u8) (x := x.toNat) (y := y.toNat) rfl rfl q s
    have e : decide ((x.toNat : Int) = y.toNat) = decide (x = y) := by rw [Bool.eq_iff_iff]; simp only [decide_eq_true_eq, ← UInt8.toNat_inj]; omega
    rwa [e] at this
  case lss =>
    obtain rfl := Option.some.inj h
    have := binI_ok (P := P) (w := w) (op := .lss) (t := t) (k := .u8) (x := x.toNat) (y := y.toNat) rfl rfl q s
    have e : decide ((x.toNat : Int) < y.toNat) = decide (x < y) := by rw [Bool.eq_iff_iff]; simp [UInt8.lt_iff_toNat_lt]
    rwa [e] at this
  case leq =>
    obtain rfl := Option.some.inj h
    have := binI_ok (P := P) (w := w) (op := .leq) (t := t) (k := .u8) (x := x.toNat) (y := y.toNat) rfl rfl q s
    have e : decide ((x.toNat : Int) ≤ y.toNat) = decide (x ≤ y) := by rw [Bool.eq_iff_iff]; simp [UInt8.le_iff_toNat_le]
    rwa [e] at this
  case gtr =>
    obtain rfl := Option.some.inj h
    have := binI_ok (P := P) (w := w) (op := .gtr) (t := t) (k := .u8) (x := x.toNat) (y := y.toNat) rfl rfl q s
    have e : decide ((y.toNat : Int) < x.toNat) = decide (y < x) := by rw [Bool.eq_iff_iff]; simp [UInt8.lt_iff_toNat_lt]
    rwa [e] at this
  case geq =>
    obtain rfl := Option.some.inj h
    have := binI_ok (P := P) (w := w) (op := .geq) (t := t) (k := .u8) (x := x.toNat) (y := y.toNat) rfl rfl q s
    have e : decide ((y.toNat : Int) ≤ x.toNat) = decide (y ≤ x) := by rw [Bool.eq_iff_iff]; simp [UInt8.le_iff_toNat_le]
    rwa [e] at this
theorem binUS_ok {op : BinOp} {t : TypeId} {k' : IntKind} {x : UInt8} {y : Int} {r : D} (h : binUS op x y = some r) (q s : Operand) :
    ∃ v, (do eqGuard op t q s (.int .u8 x.toNat) (.int k' y); binOp op t (.int .u8 x.toNat) (.int k' y) : Sem Value).run P w = .ok v w ∧ (∀ w' ok, Rd w' ok v r) := by
  cases op <;> simp only [binUS] at h <;> first | (cases h; done) | skip
  by_cases hy : y < 0
  · rw [if_pos hy] at h; cases h
  · rw [if_neg hy] at h
    obtain rfl := Option.some.inj h
    obtain ⟨v, h1, h2⟩ := binSh_ok (P := P) (w := w) (op := .shr) (t := t) (k := .u8) (k' := k') (x := x.toNat) (y := y) (r := .i .u8 ((x.toNat : Int).fdiv (2 ^ (min y.toNat 8)))) (by simp only [binSh, if_neg hy]; rfl) q s
    refine ⟨v, h1, u8_of_int ?_ h2⟩
    have hx := x.toNat_lt
    show (x.toNat : Int).fdiv (2 ^ (min y.toNat 8)) = _
    have hle : x.toNat / 2 ^ (min y.toNat 8) ≤ x.toNat := Nat.div_le_self _ _
    rw [UInt8.toNat_ofNat_of_lt' (by simp [UInt8.size]; omega), Int.fdiv_eq_ediv_of_nonneg _ (by exact_mod_cast Nat.zero_le _)]
    simp

theorem run_equalIn_nil0 {t : TypeId} {ms : Array (String × TypeId)} (d : Nat) (hu : P.underlying t = some (.interface ms)) : (Op.equalIn (d + 1) t .nilIface .nilIface).run P w = .ok true w := by
  rw [Op.equalIn]
  simp [run_underlying hu]
theorem run_equalIn_nil1 {t : TypeId} {ms : Array (String × TypeId)} (d : Nat) (hu : P.underlying t = some (.interface ms)) (ty : TypeId) (z : Value) : (Op.equalIn (d + 1) t (.iface ty z) .nilIface).run P w = .ok false w := by
  rw [Op.equalIn]
  simp [run_underlying hu]
theorem binV_ok {op : BinOp} {t : TypeId} {ty : Ty} {x y : AV} {u v : Value} {r : D} {fz : Nat → Prop} {objs : List (Nat × Ob)} (q s : Operand) (hT : (match ty with | .num => true | .flag => kindB P t 1 | .st ks => eqTB P t ks | .ifc => ifcB P t s) = true)
    (hx : RegOK w fz loc So objs u x) (hy : RegOK w fz loc So objs v y) (h : binV op ty x y = some r) :
    ∃ z, (do eqGuard op t q s u v; binOp op t u v : Sem Value).run P w = .ok z w ∧ (∀ w' ok, Rd w' ok z r) := by
  unfold binV at h
  split at h
  · rename_i k p k' q'
    simp only [RegOK] at hx hy
    cases hx; cases hy
    cases hs : isSh op with
    | true => rw [hs] at h; exact binSh_ok (by simpa using h) q s
    | false =>
      rw [hs] at h
      simp only [Bool.false_eq_true, if_false] at h
      by_cases e : k = k'
      · rw [if_pos e] at h; subst e; exact binI_ok hs h q s
      · rw [if_neg e] at h; cases h
  · simp only [RegOK] at hx hy
    cases hx; cases hy
    exact binU_ok h q s
  · simp only [RegOK] at hx hy
    cases hx; cases hy
    exact binUS_ok h q s
  · simp only [RegOK] at hx hy
    cases hx; cases hy
    exact binS_ok h q s
  · rename_i p q'
    simp only [RegOK] at hx hy
    cases hx; cases hy
    have hu : P.underlying t = some .bool := by
      simp only [kindB] at hT
      split at hT <;> simp_all
    have hg : (eqGuard op t q s (.bool p) (.bool q')).run P w = .ok () w := by cases op <;> simp [eqGuard]
    simp only [Sem.run_bind, hg, Result.andThen_ok]
    split at h
    · obtain rfl := Option.some.inj h
      refine ⟨.bool (p == q'), ?_, fun w' ok => .b _⟩
      have := run_equalIn_bool' (P := P) w 9999 t p q' hu
      simp only [binOp, Op.equal, Op.maxDepth, Sem.run_bind, this, Result.andThen_ok, Sem.run_pure]
    · obtain rfl := Option.some.inj h
      refine ⟨.bool (p != q'), ?_, fun w' ok => .b _⟩
      have := run_equalIn_bool' (P := P) w 9999 t p q' hu
      simp only [binOp, Op.equal, Op.maxDepth, Sem.run_bind, this, Result.andThen_ok, Sem.run_pure]
      rfl
    · cases h
  · rename_i ks l m
    simp only [RegOK] at hx hy
    obtain ⟨us, rfl, hus⟩ := hx
    obtain ⟨vs, rfl, hvs⟩ := hy
    simp only [eqTB] at hT
    split at hT
    · rename_i fs hu
      simp only [Bool.and_eq_true, Bool.not_eq_true'] at hT
      have hfs : P.fieldsOf t = fs := by simp [Program.fieldsOf, hu]
      have hg := run_eqGuard_agg (P := P) w op t q s us.toArray vs.toArray hT.2
      simp only [Sem.run_bind, hg, Result.andThen_ok]
      have key : ∀ b, eqL ks l m = some b → (Op.equalIn 10000 t (.agg us.toArray) (.agg vs.toArray)).run P w = .ok b w := fun b hb => by
        rw [run_equalIn_struct (P := P) w 9999 t us.toArray vs.toArray (by rw [hfs]; exact hu) hT.1.2, hfs]
        exact eqFields_ok (d := 9998) us vs fs.toList ks 0 l m b hT.1.1 (by simpa using hus) (by simpa using hvs) hb
      split at h
      · obtain ⟨b, hb, rfl⟩ := Option.map_eq_some_iff.1 h
        refine ⟨.bool b, ?_, fun w' ok => .b _⟩
        rw [run_eql_struct, key b hb]; rfl
      · obtain ⟨b, hb, rfl⟩ := Option.map_eq_some_iff.1 h
        refine ⟨.bool (!b), ?_, fun w' ok => .b _⟩
        rw [run_neq_struct, key b hb]; rfl
      · cases h
    · cases hT
  · rename_i a b
    simp only [RegOK] at hx hy
    simp only [ifcB, Bool.and_eq_true] at hT
    obtain ⟨h1, h2⟩ := hT
    split at h1
    case h_2 => cases h1
    rename_i ms hu
    split at h2
    case h_2 => cases h2
    cases b with
    | false => simp at h
    | true =>
      cases hy
      simp only [if_true] at h
      cases hx with
      | e0 =>
        have hg : ∀ z0, (eqGuard op t q (.const z0) .nilIface .nilIface).run P w = .ok () w := by intro z0; cases op <;> simp [eqGuard]
        simp only [Sem.run_bind, hg, Result.andThen_ok]
        have he : (Op.equal t .nilIface .nilIface).run P w = .ok true w := run_equalIn_nil0 9999 hu
        split at h
        · obtain rfl := Option.some.inj h
          exact ⟨.bool true, by simp only [binOp, Sem.run_bind, he, Result.andThen_ok, Sem.run_pure], fun w' ok => .b _⟩
        · obtain rfl := Option.some.inj h
          exact ⟨.bool false, by simp only [binOp, Sem.run_bind, he, Result.andThen_ok, Sem.run_pure, Bool.not_true], fun w' ok => .b _⟩
        · cases h
      | e1 ty z =>
        have hg : ∀ z0, (eqGuard op t q (.const z0) (.iface ty z) .nilIface).run P w = .ok () w := by intro z0; cases op <;> simp [eqGuard]
        simp only [Sem.run_bind, hg, Result.andThen_ok]
        have he : (Op.equal t (.iface ty z) .nilIface).run P w = .ok false w := run_equalIn_nil1 9999 hu ty z
        split at h
        · obtain rfl := Option.some.inj h
          exact ⟨.bool false, by simp only [binOp, Sem.run_bind, he, Result.andThen_ok, Sem.run_pure], fun w' ok => .b _⟩
        · obtain rfl := Option.some.inj h
          exact ⟨.bool true, by simp only [binOp, Sem.run_bind, he, Result.andThen_ok, Sem.run_pure, Bool.not_false], fun w' ok => .b _⟩
        · cases h
  · cases h

end rep
end Go.Proofs.YtniakiefibpgmaaGreatDoorK
