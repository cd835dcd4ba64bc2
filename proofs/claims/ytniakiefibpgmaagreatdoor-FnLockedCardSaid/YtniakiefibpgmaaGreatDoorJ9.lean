/- The quiet instructions, continued. -/
import Derived.Test.YtniakiefibpgmaaGreatDoorJ8
import Derived.Laws.BytesArg
import Derived.Laws.Strings2
import Derived.Laws.Slices
import Derived.Lib.MinMax
set_option linter.unusedVariables false
set_option linter.unusedSimpArgs false
namespace Go.Proofs.YtniakiefibpgmaaGreatDoorK
open Go.RowKit

section rep
variable {P : Program} {N : Nat} {E : Ent} {loc : Nat → Option (Nat × Nat × Nat)} {So : Nat → Nat → Prop} {Pd : Nat → Prop} {σ σ' : St} {a : Act} {w : World} {X : XF} {o : Oper}

theorem strB_ok {t : Nat} (h : strB P t = true) : P.underlying t = some .string := by
  unfold strB at h
  split at h
  · assumption
  · cases h
theorem isSlice_ok {t : Nat} (h : isSlice P t = true) : ∃ e, P.underlying t = some (.slice e) := by
  unfold isSlice at h
  split at h
  · exact ⟨_, by assumption⟩
  · cases h

theorem reg_s {fz : Nat → Prop} {objs : List (Nat × Ob)} {v : Value} {l : List UInt8} (h : RegOK w fz loc So objs v (.d (.s l))) : v = strV l := by
  simp only [RegOK] at h; cases h; rfl
theorem reg_i {fz : Nat → Prop} {objs : List (Nat × Ob)} {v : Value} {k : IntKind} {n : Int} (h : RegOK w fz loc So objs v (.d (.i k n))) : v = .int k n := by
  simp only [RegOK] at h; cases h; rfl
theorem reg_u {fz : Nat → Prop} {objs : List (Nat × Ob)} {v : Value} {b : UInt8} (h : RegOK w fz loc So objs v (.d (.u b))) : v = .int .u8 b.toNat := by
  simp only [RegOK] at h; cases h; rfl
theorem reg_b {fz : Nat → Prop} {objs : List (Nat × Ob)} {v : Value} {t : Bool} (h : RegOK w fz loc So objs v (.d (.b t))) : v = .bool t := by
  simp only [RegOK] at h; cases h; rfl

theorem ok_ix (h : RepW N E loc So Pd σ a w) {d : Nat} {x i : O} (hq : okQ P N o (.ix d x i) = true) (hs : kstep X (.ix d x i) σ = some σ') : Outc P o a w (Rep N E σ') := by
  simp only [okQ, Bool.and_eq_true] at hq
  obtain ⟨hd, hq⟩ := hq
  obtain ⟨hd, hn⟩ := dstB_ok hd
  split at hq
  · rename_i t q r hop
    simp only [Bool.and_eq_true] at hq
    have hx := h.op hq.1.1
    have hu := strB_ok hq.2
    simp only [kstep] at hs
    obtain ⟨n, hi, hs⟩ := Option.bind_eq_some_iff.1 hs
    obtain ⟨k, hk⟩ := asInt_ok (h.op hq.1.2) hi
    by_cases h0 : 0 ≤ n
    case neg => rw [if_neg h0] at hs; cases hs
    rw [if_pos h0] at hs
    split at hs
    · rename_i l ex
      obtain ⟨b, hb, rfl⟩ := Option.map_eq_some_iff.1 hs
      rw [ex] at hx
      have e := reg_s hx
      refine outc_val h hd hn (v := .int .u8 b.toNat) ?_ (by simp only [RegOK]; exact .u _)
      have hlt := getElem?_lt hb
      have hb' : (⟨l.toArray⟩ : ByteArray)[n.toNat]? = some b := by
        rw [ByteArray.getElem?_lt' _ _ (show n.toNat < (⟨l.toArray⟩ : ByteArray).size by simpa [← ByteArray.size_data] using hlt)]
        have : l[n.toNat] = b := by have := List.getElem?_eq_getElem hlt; rw [hb] at this; exact (Option.some.inj this).symm
        rw [← this]; rfl
      simp only [execOp, hop, e, hk, strV, Instr.index, Sem.run_bind, asIntOf, Sem.run_pure, Result.andThen_ok, run_underlying hu, if_pos h0, hb']
    · cases hs
  · cases hq

theorem run_len_slice' {t e : Nat} (hu : P.underlying t = some (.slice e)) (A : Option Addr) (n c : Nat) (ty : TypeId) : (Builtin.len_ #[t] ty #[.slice A n c]).run P w = .ok (.int .i64 n) w := by
  simp [Builtin.len_, run_underlying hu, goInt]
theorem rd_slice {ok : Nat → Prop} {v : Value} {t : T} {l : List t.den} (h : Rd w ok v (.sl t l)) : ∃ A c, v = .slice A l.length c ∧ l.length ≤ c := by
  cases h with
  | nil A c => exact ⟨A, c, rfl, Nat.zero_le _⟩
  | sl b off c _ _ vs hb hc => exact ⟨_, c, rfl, hc⟩
theorem hval_slice {l : Option (Nat × Nat × Nat)} {sz off n : Nat} {v : Value} (h : HVal l sz off n v) : ∃ A c, v = .slice A n c := by
  cases l with
  | none => obtain ⟨rfl, rfl, A, rfl⟩ := h; exact ⟨A, 0, rfl⟩
  | some q => obtain ⟨b, base, cap⟩ := q; obtain ⟨_, A, rfl, _⟩ := h; exact ⟨A, _, rfl⟩

theorem ok_lns (h : RepW N E loc So Pd σ a w) {d : Nat} {x : O} (hq : okQ P N o (.lns d x) = true) (hs : kstep X (.lns d x) σ = some σ') : Outc P o a w (Rep N E σ') := by
  simp only [okQ, Bool.and_eq_true] at hq
  obtain ⟨hd, hq⟩ := hq
  obtain ⟨hd, hn⟩ := dstB_ok hd
  split at hq
  · rename_i q t hop
    simp only [Bool.and_eq_true] at hq
    have hx := h.op hq.1
    have hu := strB_ok hq.2
    simp only [kstep] at hs
    split at hs
    · rename_i l ex
      obtain rfl := Option.some.inj hs
      rw [ex] at hx
      have e := reg_s hx
      refine outc_val h hd hn (v := .int .i64 l.length) ?_ (by simp only [RegOK]; exact .i _ _)
      have := run_len_string (P := P) w t o.type ⟨l.toArray⟩ hu
      have e2 : goInt ((⟨l.toArray⟩ : ByteArray).size : Nat) = .int .i64 l.length := by simp only [goInt]; rw [show (⟨l.toArray⟩ : ByteArray).size = l.length from by simp [← ByteArray.size_data]]
      simp only [execOp, hop, resolve, invoke, builtin, e, strV, Sem.run_bind, Sem.run_pure, Result.andThen_ok, List.map_toArray, List.map_cons, List.map_nil]
      rw [this]
      simp only [Result.andThen_ok, Sem.run_pure, e2]
    · cases hs
  · cases hq

theorem ok_len (h : RepW N E loc So Pd σ a w) {d : Nat} {x : O} (hq : okQ P N o (.len d x) = true) (hs : kstep X (.len d x) σ = some σ') : Outc P o a w (Rep N E σ') := by
  simp only [okQ, Bool.and_eq_true] at hq
  obtain ⟨hd, hq⟩ := hq
  obtain ⟨hd, hn⟩ := dstB_ok hd
  split at hq
  · rename_i q t hop
    simp only [Bool.and_eq_true] at hq
    have hx := h.op hq.1
    obtain ⟨el, hu⟩ := isSlice_ok hq.2
    have key : ∀ (A : Option Addr) (m c : Nat), a.eval q = .slice A m c → σ' = σ.set d (.d (.i .i64 m)) → Outc P o a w (Rep N E σ') := fun A m c e hs => by
      subst hs
      refine outc_val h hd hn (v := .int .i64 m) ?_ (by simp only [RegOK]; exact .i _ _)
      simp only [execOp, hop, resolve, invoke, builtin, e, Sem.run_bind, Sem.run_pure, Result.andThen_ok, List.map_toArray, List.map_cons, List.map_nil]
      rw [run_len_slice' hu]
      simp only [Result.andThen_ok, Sem.run_pure]
    simp only [kstep] at hs
    split at hs
    · rename_i ty l ex
      rw [ex] at hx
      simp only [RegOK] at hx
      obtain ⟨A, c, e, _⟩ := rd_slice hx
      exact key A _ c e (Option.some.inj hs).symm
    · rename_i o' ty l ex
      rw [ex] at hx
      simp only [RegOK] at hx
      obtain ⟨A, c, e, _⟩ := rd_slice hx.2
      exact key A _ c e (Option.some.inj hs).symm
    · rename_i o' off n ex
      rw [ex] at hx
      simp only [RegOK] at hx
      obtain ⟨ob, _, _, hv⟩ := hx
      obtain ⟨A, c, e⟩ := hval_slice hv
      exact key A _ c e (Option.some.inj hs).symm
    · rename_i ty ex
      rw [ex] at hx
      simp only [RegOK] at hx
      exact key none 0 0 hx (Option.some.inj hs).symm
    · cases hs
  · cases hq

theorem ok_bin (h : RepW N E loc So Pd σ a w) {d : Nat} {op : BinOp} {ty : Ty} {x y : O} (hq : okQ P N o (.bin d op ty x y) = true) (hs : kstep X (.bin d op ty x y) σ = some σ') : Outc P o a w (Rep N E σ') := by
  simp only [okQ, Bool.and_eq_true] at hq
  obtain ⟨hd, hq⟩ := hq
  obtain ⟨hd, hn⟩ := dstB_ok hd
  split at hq
  · rename_i op' t q r yt hop
    simp only [Bool.and_eq_true, beq_iff_eq] at hq
    obtain ⟨⟨⟨rfl, h1⟩, h2⟩, h3⟩ := hq
    simp only [kstep] at hs
    obtain ⟨z, hz, rfl⟩ := Option.map_eq_some_iff.1 hs
    obtain ⟨v, r1, r2⟩ := binV_ok (P := P) (t := t) q r (by cases ty <;> exact h3) (h.op h1) (h.op h2) hz
    refine outc_val h hd hn (v := v) ?_ (by simp only [RegOK]; exact r2 _ _)
    simp only [execOp, hop]
    rw [Sem.run_bind, r1]
    rfl
  · cases hq

theorem ok_not (h : RepW N E loc So Pd σ a w) {d : Nat} {x : O} (hq : okQ P N o (.not d x) = true) (hs : kstep X (.not d x) σ = some σ') : Outc P o a w (Rep N E σ') := by
  simp only [okQ, Bool.and_eq_true] at hq
  obtain ⟨hd, hq⟩ := hq
  obtain ⟨hd, hn⟩ := dstB_ok hd
  split at hq
  · rename_i t q hop
    have hx := h.op hq
    simp only [kstep] at hs
    split at hs
    · rename_i b ex
      obtain rfl := Option.some.inj hs
      rw [ex] at hx
      have e := reg_b hx
      exact outc_val h hd hn (v := .bool (!b)) (by simp [execOp, hop, e, Op.unary]) (by simp only [RegOK]; exact .b _)
    · cases hs
  · cases hq
theorem ok_neg (h : RepW N E loc So Pd σ a w) {d : Nat} {x : O} (hq : okQ P N o (.neg d x) = true) (hs : kstep X (.neg d x) σ = some σ') : Outc P o a w (Rep N E σ') := by
  simp only [okQ, Bool.and_eq_true] at hq
  obtain ⟨hd, hq⟩ := hq
  obtain ⟨hd, hn⟩ := dstB_ok hd
  split at hq
  · rename_i t q hop
    have hx := h.op hq
    simp only [kstep] at hs
    split at hs
    · rename_i k n ex
      obtain rfl := Option.some.inj hs
      rw [ex] at hx
      have e := reg_i hx
      exact outc_val h hd hn (v := .int k (k.wrap (-n))) (by simp [execOp, hop, e, Op.unary, Op.intArith]) (by simp only [RegOK]; exact .i _ _)
    · cases hs
  · cases hq
theorem ok_cvi (h : RepW N E loc So Pd σ a w) {d : Nat} {k : IntKind} {x : O} (hq : okQ P N o (.cvi d k x) = true) (hs : kstep X (.cvi d k x) σ = some σ') : Outc P o a w (Rep N E σ') := by
  simp only [okQ, Bool.and_eq_true] at hq
  obtain ⟨hd, hq⟩ := hq
  obtain ⟨hd, hn⟩ := dstB_ok hd
  split at hq
  · rename_i s t q hop
    simp only [Bool.and_eq_true] at hq
    obtain ⟨⟨h1, h2⟩, h3⟩ := hq
    have hx := h.op h1
    have hu : P.underlying t = some (.int k) := by
      unfold intB at h2
      split at h2
      · rename_i k' hu
        simp only [beq_iff_eq] at h2
        rw [h2]; exact hu
      · cases h2
    obtain ⟨de, hde⟩ := Option.isSome_iff_exists.1 h3
    have hrun : ∀ k' n, a.eval q = .int k' n → (execOp a.eval o).run P w = .ok (.value (.int k (k.wrap n))) w := fun k' n e => by
      simp only [execOp, hop, e, convert, Sem.run_bind, run_underlying hde, run_underlying hu, Result.andThen_ok, Conv.intToInt, Sem.run_pure]
    simp only [kstep] at hs
    split at hs
    · rename_i k' n ex
      rw [ex] at hx
      have e := reg_i hx
      by_cases hk : k = .u8
      · rw [if_pos hk] at hs
        obtain rfl := Option.some.inj hs
        subst hk
        refine outc_val h hd hn (hrun _ _ e) ?_
        have : IntKind.u8.wrap n = ((UInt8.ofNat (n % 256).toNat).toNat : Int) := by
          rw [wrap_u8, UInt8.toNat_ofNat_of_lt' (by simp [UInt8.size]; omega)]; omega
        rw [this]
        simp only [RegOK]; exact .u _
      · rw [if_neg hk] at hs
        obtain rfl := Option.some.inj hs
        exact outc_val h hd hn (hrun _ _ e) (by simp only [RegOK]; exact .i _ _)
    · rename_i b ex
      rw [ex] at hx
      have e := reg_u hx
      by_cases hk : k = .u8
      · rw [if_pos hk] at hs
        obtain rfl := Option.some.inj hs
        subst hk
        refine outc_val h hd hn (hrun _ _ e) ?_
        have : IntKind.u8.wrap (b.toNat : Int) = (b.toNat : Int) := by
          have := b.toNat_lt
          rw [wrap_u8]; omega
        rw [this]
        simp only [RegOK]; exact .u _
      · rw [if_neg hk] at hs
        obtain rfl := Option.some.inj hs
        exact outc_val h hd hn (hrun _ _ e) (by simp only [RegOK]; exact .i _ _)
    · cases hs
  · cases hq
theorem ok_mm (h : RepW N E loc So Pd σ a w) {d : Nat} {big : Bool} {x y : O} (hq : okQ P N o (.mm d big x y) = true) (hs : kstep X (.mm d big x y) σ = some σ') : Outc P o a w (Rep N E σ') := by
  simp only [okQ, Bool.and_eq_true] at hq
  obtain ⟨hd, hq⟩ := hq
  obtain ⟨hd, hn⟩ := dstB_ok hd
  split at hq
  · rename_i bi q r t1 t2 hop
    simp only [Bool.and_eq_true] at hq
    obtain ⟨⟨h1, h2⟩, h3⟩ := hq
    have hx := h.op h1
    have hy := h.op h2
    simp only [kstep] at hs
    split at hs
    · rename_i k p k' p' ex ey
      by_cases hk : k = k' ∧ k ≠ .u8
      case neg => rw [if_neg hk] at hs; cases hs
      rw [if_pos hk] at hs
      obtain rfl := Option.some.inj hs
      rw [ex] at hx
      rw [ey] at hy
      have e1 := reg_i hx
      have e2 := reg_i hy
      split at h3
      · subst h3
        refine outc_val h hd hn (v := .int k (max p p')) ?_ (by simp only [RegOK, if_true]; exact .i _ _)
        simp only [execOp, hop, resolve, invoke, builtin, e1, e2, Sem.run_bind, Sem.run_pure, Result.andThen_ok, List.map_toArray, List.map_cons, List.map_nil]
        rw [Lib.run_max_ints]
        simp only [Result.andThen_ok, Sem.run_pure]
      · have : big = false := by simpa using h3
        subst this
        refine outc_val h hd hn (v := .int k (min p p')) ?_ (by simp only [RegOK, Bool.false_eq_true, if_false]; exact .i _ _)
        simp only [execOp, hop, resolve, invoke, builtin, e1, e2, Sem.run_bind, Sem.run_pure, Result.andThen_ok, List.map_toArray, List.map_cons, List.map_nil]
        rw [Lib.run_min_ints]
        simp only [Result.andThen_ok, Sem.run_pure]
      · cases h3
    · cases hs
  · cases hq
theorem ok_ext (h : RepW N E loc So Pd σ a w) {d j : Nat} {x : O} (hq : okQ P N o (.ext d x j) = true) (hs : kstep X (.ext d x j) σ = some σ') : Outc P o a w (Rep N E σ') := by
  simp only [okQ, Bool.and_eq_true] at hq
  obtain ⟨hd, hq⟩ := hq
  obtain ⟨hd, hn⟩ := dstB_ok hd
  split at hq
  · rename_i q j' hop
    simp only [Bool.and_eq_true, beq_iff_eq] at hq
    obtain ⟨h1, rfl⟩ := hq
    have hx := h.op h1
    simp only [kstep] at hs
    split at hs
    · rename_i l ex
      obtain ⟨v, hv, rfl⟩ := Option.map_eq_some_iff.1 hs
      rw [ex] at hx
      simp only [RegOK] at hx
      obtain ⟨vs, e, hvs⟩ := hx
      obtain ⟨u, hu, hr⟩ := hvs.get hv
      exact outc_val h hd hn (v := u) (by simp [execOp, hop, e, Instr.extract, hu]) hr
    · cases hs
  · cases hq
theorem ok_nchk (h : RepW N E loc So Pd σ a w) {d : Nat} {x : O} (hq : okQ P N o (.nchk d x) = true) (hs : kstep X (.nchk d x) σ = some σ') : Outc P o a w (Rep N E σ') := by
  simp only [okQ, Bool.and_eq_true] at hq
  obtain ⟨hd, hq⟩ := hq
  obtain ⟨hd, hn⟩ := dstB_ok hd
  split at hq
  · rename_i q hop
    have hx := h.op hq
    simp only [kstep] at hs
    split at hs
    · rename_i o' i j ex
      obtain rfl := Option.some.inj hs
      rw [ex] at hx
      have hx' := hx
      simp only [RegOK] at hx
      obtain ⟨ob, b, base, cap, _, _, _, e⟩ := hx
      exact outc_val h hd hn (v := a.eval q) (by simp [execOp, hop, e]) hx'
    · rename_i o' cs ex
      obtain rfl := Option.some.inj hs
      rw [ex] at hx
      have hx' := hx
      simp only [RegOK] at hx
      obtain ⟨b, off, e, _⟩ := hx
      exact outc_val h hd hn (v := a.eval q) (by simp [execOp, hop, e]) hx'
    · rename_i v ex
      obtain rfl := Option.some.inj hs
      rw [ex] at hx
      have hx' := hx
      simp only [RegOK] at hx
      obtain ⟨b, off, u, e, _⟩ := hx
      exact outc_val h hd hn (v := a.eval q) (by simp [execOp, hop, e]) hx'
    · cases hs
  · cases hq
theorem ok_mkf (h : RepW N E loc So Pd σ a w) {d f : Nat} {caps : List O} (hq : okQ P N o (.mkf d f caps) = true) (hs : kstep X (.mkf d f caps) σ = some σ') : Outc P o a w (Rep N E σ') := by
  simp only [okQ, Bool.and_eq_true] at hq
  obtain ⟨hd, hq⟩ := hq
  obtain ⟨hd, hn⟩ := dstB_ok hd
  split at hq
  · rename_i f' cs hop
    simp only [Bool.and_eq_true, beq_iff_eq] at hq
    obtain ⟨rfl, h1⟩ := hq
    have hx := h.ops h1
    obtain rfl := Option.some.inj hs
    refine outc_val h hd hn (v := .func (.func f) #[] (cs.toList.map a.eval).toArray) ?_ (by simp only [RegOK]; exact ⟨_, rfl, hx⟩)
    have e : Array.map a.eval cs = (List.map a.eval cs.toList).toArray := by rw [← Array.toList_map]
    simp [execOp, hop, Instr.makeFunc, e]
  · cases hq

/-! ### Slice expressions -/
theorem ok_bnds (h : RepW N E loc So Pd σ a w) {len cap l u : Nat} {lo hi : Option O} {lo' hi' : Option Operand} (h1 : okOo lo' lo = true) (h2 : okOo hi' hi = true) (hb : bnds σ len lo hi = some (l, u)) (hc : len ≤ cap) (is : Bool) :
    l ≤ u ∧ u ≤ len ∧ (Instr.sliceBounds is len cap (lo'.map a.eval) (hi'.map a.eval) none).run P w = .ok (l, u, cap) w := by
  unfold bnds at hb
  obtain ⟨l', hl, hb⟩ := Option.bind_eq_some_iff.1 hb
  obtain ⟨u', hu, hb⟩ := Option.bind_eq_some_iff.1 hb
  by_cases hle : 0 ≤ l' ∧ l' ≤ u' ∧ u' ≤ (len : Int)
  case neg => rw [if_neg hle] at hb; cases hb
  rw [if_pos hle] at hb
  simp only [Option.some.injEq, Prod.mk.injEq] at hb
  obtain ⟨rfl, rfl⟩ := hb
  refine ⟨by omega, by omega, ?_⟩
  have e1 : (u'.toNat : Int) = u' := Int.toNat_of_nonneg (by omega)
  have hlo : (lo' = none ∧ l' = 0) ∨ ∃ x k, lo' = some x ∧ a.eval x = .int k l' := by
    cases lo with
    | none => cases lo' with
      | none => exact .inl ⟨rfl, by simpa using hl.symm⟩
      | some _ => cases h1
    | some ol => cases lo' with
      | none => cases h1
      | some x => obtain ⟨k, hk⟩ := asInt_ok (h.op h1) hl; exact .inr ⟨x, k, rfl, hk⟩
  have hhi : (hi' = none ∧ u' = len) ∨ ∃ x k, hi' = some x ∧ a.eval x = .int k u' := by
    cases hi with
    | none => cases hi' with
      | none => exact .inl ⟨rfl, by simpa using hu.symm⟩
      | some _ => cases h2
    | some ol => cases hi' with
      | none => cases h2
      | some x => obtain ⟨k, hk⟩ := asInt_ok (h.op h2) hu; exact .inr ⟨x, k, rfl, hk⟩
  have hucap : 0 ≤ u' ∧ u' ≤ (cap : Int) := ⟨by omega, by omega⟩
  have hlu : 0 ≤ l' ∧ l' ≤ u' := ⟨hle.1, hle.2.1⟩
  rcases hlo with ⟨rfl, rfl⟩ | ⟨x, k, rfl, hx⟩ <;> rcases hhi with ⟨rfl, rfl⟩ | ⟨y, k', rfl, hy⟩
  · simp [Instr.sliceBounds]
  · simp [Instr.sliceBounds, hy, run_sliceBound w k' u' cap _ hucap.1 hucap.2]
  · simp [Instr.sliceBounds, hx, run_sliceBound w k l' len _ hlu.1 hlu.2]
  · simp only [Instr.sliceBounds, Option.map_some, Option.map_none, Sem.run_bind, Sem.run_pure, Result.andThen_ok, hx, hy, run_sliceBound w k' u' cap _ hucap.1 hucap.2]
    rw [run_sliceBound w k l' u'.toNat _ hlu.1 (by rw [e1]; exact hlu.2)]
    rfl

theorem run_sliceAt_rd {t sz len cap l u : Nat} (ht : sliceB P t sz = true) (A : Option Addr) {lo hi : Option Value} (hb : (Instr.sliceBounds true len cap lo hi none).run P w = .ok (l, u, cap) w) :
    (Instr.sliceAt t (.slice A len cap) lo hi none).run P w = .ok (.slice (if cap = l then A else A.map (·.add (l * sz))) (u - l) (cap - l)) w := by
  obtain ⟨e, hu, he⟩ := sliceB_ok ht
  simp [Instr.sliceAt, Instr.slice, run_underlying hu, hb, szB_ok he]

theorem sub_get {α : Type} {l : List α} {off n i : Nat} {x : α} (h : ((l.drop off).take n)[i]? = some x) : l[off + i]? = some x ∧ i < n := by
  rw [List.getElem?_take] at h
  split at h
  · rename_i e
    rw [List.getElem?_drop] at h
    exact ⟨h, e⟩
  · cases h
theorem rd_sub {ok : Nat → Prop} {sz len cap l u : Nat} {A : Option Addr} {t : T} {es : List t.den} (h : Rd w ok (.slice A len cap) (.sl t es)) (hz : t.w = sz) (hl : l ≤ u) (hu : u ≤ len) :
    Rd w ok (.slice (if cap = l then A else A.map (·.add (l * sz))) (u - l) (cap - l)) (.sl t ((es.drop l).take (u - l))) := by
  subst hz
  cases h with
  | nil A c =>
    have : u - l = 0 := by omega
    rw [this]
    simp only [List.drop_nil, List.take_nil]
    exact .nil _ _ _
  | sl b off c _ _ vs hb hc hm hr =>
    by_cases he : u - l = 0
    · rw [he]; simp only [List.take_zero]; exact .nil _ _ _
    · have h0 : 0 < es.length := by omega
      rw [if_neg (by omega)]
      simp only [Option.map_some, add_plain]
      have hlen : ((es.drop l).take (u - l)).length = u - l := by simp; omega
      have := Rd.sl (w := w) (ok := ok) b (off + l * t.w) (cap - l) t ((es.drop l).take (u - l)) (fun i j => vs (l + i) j) hb (by rw [hlen]; omega)
        (fun i x j d hi hj => by
          have := hm _ _ _ _ (sub_get hi).1 hj
          rw [Nat.add_mul, ← Nat.add_assoc] at this
          exact this)
        (fun i x j d hi hj => hr _ _ _ _ (sub_get hi).1 hj)
      rw [hlen] at this
      exact this

theorem ok_slc (h : RepW N E loc So Pd σ a w) {d sz : Nat} {x : O} {lo hi : Option O} (hq : okQ P N o (.slc d sz x lo hi) = true) (hs : kstep X (.slc d sz x lo hi) σ = some σ') : Outc P o a w (Rep N E σ') := by
  simp only [okQ, Bool.and_eq_true] at hq
  obtain ⟨hd, hq⟩ := hq
  obtain ⟨hd, hn⟩ := dstB_ok hd
  split at hq
  · rename_i t q lo' hi' hop
    simp only [Bool.and_eq_true] at hq
    obtain ⟨⟨⟨h1, h2⟩, h3⟩, h4⟩ := hq
    have hx := h.op h1
    simp only [kstep] at hs
    split at hs
    · rename_i l ex
      by_cases hz : sz = 0
      case neg => rw [if_neg hz] at hs; cases hs
      rw [if_pos hz] at hs h4
      obtain ⟨⟨p, u⟩, hb, rfl⟩ := Option.map_eq_some_iff.1 hs
      rw [ex] at hx
      have e := reg_s hx
      have hu := strB_ok h4
      obtain ⟨b1, b2, b3⟩ := ok_bnds (P := P) h h2 h3 hb (Nat.le_refl _) false
      refine outc_val h hd hn (v := strV ((l.drop p).take (u - p))) ?_ (by simp only [RegOK]; exact .s _)
      have e2 : (⟨l.toArray⟩ : ByteArray).size = l.length := by simp [← ByteArray.size_data]
      simp only [execOp, hop, e, strV, Sem.run_bind, Instr.sliceAt, run_underlying hu, Result.andThen_ok, Instr.slice, Option.map_none, Option.isSome_none, Bool.false_eq_true, if_false, e2, b3, Sem.run_pure, ByteArray.extract_mk]
    · rename_i ty ex
      by_cases hz : sz = 0
      · rw [if_pos hz] at hs; cases hs
      rw [if_neg hz] at hs h4
      obtain ⟨⟨p, u⟩, hb, rfl⟩ := Option.map_eq_some_iff.1 hs
      rw [ex] at hx
      simp only [RegOK] at hx
      obtain ⟨b1, b2, b3⟩ := ok_bnds (P := P) h h2 h3 hb (Nat.le_refl 0) true
      have hp : p = 0 := by omega
      have hu0 : u = 0 := by omega
      subst hp hu0
      refine outc_val h hd hn (v := .slice none 0 0) ?_ (by simp only [RegOK])
      simp only [execOp, hop, hx, Sem.run_bind, Option.map_none]
      rw [run_sliceAt_rd h4 none b3]
      simp
    · rename_i ty es ex
      by_cases hz : sz ≠ 0 ∧ ty.w = sz
      case neg => rw [if_neg hz] at hs; cases hs
      rw [if_pos hz] at hs
      rw [if_neg hz.1] at h4
      obtain ⟨⟨p, u⟩, hb, rfl⟩ := Option.map_eq_some_iff.1 hs
      rw [ex] at hx
      simp only [RegOK] at hx
      obtain ⟨A, c, e, hc⟩ := rd_slice hx
      obtain ⟨b1, b2, b3⟩ := ok_bnds (P := P) h h2 h3 hb hc true
      refine outc_val h hd hn (v := .slice (if c = p then A else A.map (·.add (p * sz))) (u - p) (c - p)) ?_ ?_
      · simp only [execOp, hop, e, Sem.run_bind, Option.map_none]
        rw [run_sliceAt_rd h4 A b3]
        simp
      · rw [e] at hx
        simp only [RegOK]
        exact rd_sub hx hz.2 b1 b2
    · rename_i o' ty es ex
      by_cases hz : sz ≠ 0 ∧ ty.w = sz
      case neg => rw [if_neg hz] at hs; cases hs
      rw [if_pos hz] at hs
      rw [if_neg hz.1] at h4
      obtain ⟨⟨p, u⟩, hb, rfl⟩ := Option.map_eq_some_iff.1 hs
      rw [ex] at hx
      simp only [RegOK] at hx
      obtain ⟨hx1, hx⟩ := hx
      obtain ⟨A, c, e, hc⟩ := rd_slice hx
      obtain ⟨b1, b2, b3⟩ := ok_bnds (P := P) h h2 h3 hb hc true
      refine outc_val h hd hn (v := .slice (if c = p then A else A.map (·.add (p * sz))) (u - p) (c - p)) ?_ ?_
      · simp only [execOp, hop, e, Sem.run_bind, Option.map_none]
        rw [run_sliceAt_rd h4 A b3]
        simp
      · rw [e] at hx
        simp only [RegOK]
        exact ⟨hx1, rd_sub hx hz.2 b1 b2⟩
    · rename_i o' off n ex
      obtain ⟨ob, hob, hs⟩ := Option.bind_eq_some_iff.1 hs
      by_cases hz : sz ≠ 0 ∧ ob.sz = sz
      case neg => rw [if_neg hz] at hs; cases hs
      rw [if_pos hz] at hs
      rw [if_neg hz.1] at h4
      obtain ⟨⟨p, u⟩, hb, rfl⟩ := Option.map_eq_some_iff.1 hs
      rw [ex] at hx
      simp only [RegOK] at hx
      obtain ⟨ob', hob', hle, hv⟩ := hx
      rw [hob] at hob'
      obtain rfl := Option.some.inj hob'
      cases hloc : loc o' with
      | none =>
        rw [hloc] at hv
        obtain ⟨rfl, rfl, A, e⟩ := hv
        obtain ⟨b1, b2, b3⟩ := ok_bnds (P := P) h h2 h3 hb (Nat.le_refl 0) true
        have hp : p = 0 := by omega
        have hu0 : u = 0 := by omega
        subst hp hu0
        refine outc_val h hd hn (v := .slice A 0 0) ?_ ?_
        · simp only [execOp, hop, e, Sem.run_bind, Option.map_none]
          rw [run_sliceAt_rd h4 A b3]
          simp
        · simp only [RegOK]
          exact ⟨ob, hob, by omega, by rw [hloc]; exact ⟨rfl, rfl, A, rfl⟩⟩
      | some q3 =>
        obtain ⟨b, base, cap⟩ := q3
        rw [hloc] at hv
        obtain ⟨hcap, A, e, hA⟩ := hv
        obtain ⟨b1, b2, b3⟩ := ok_bnds (P := P) h h2 h3 hb (show n ≤ cap - off by omega) true
        refine outc_val h hd hn (v := .slice (if cap - off = p then A else A.map (·.add (p * sz))) (u - p) (cap - off - p)) ?_ ?_
        · simp only [execOp, hop, e, Sem.run_bind, Option.map_none]
          rw [run_sliceAt_rd h4 A b3]
          simp
        · simp only [RegOK]
          refine ⟨ob, hob, by omega, ?_⟩
          rw [hloc]
          refine ⟨by omega, (if cap - off = p then A else A.map (·.add (p * sz))), by rw [show cap - (off + p) = cap - off - p by omega], fun hpos => ?_⟩
          rw [if_neg (by omega), hA (by omega)]
          simp only [Option.map_some, add_plain, hz.2, Nat.add_mul, Nat.add_assoc]
    · cases hs
  · cases hq

end rep
end Go.Proofs.YtniakiefibpgmaaGreatDoorK
