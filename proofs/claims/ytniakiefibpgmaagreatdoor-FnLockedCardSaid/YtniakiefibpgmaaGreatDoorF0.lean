/- Reckoning with the texts. -/
import Derived.Test.YtniakiefibpgmaaGreatDoorM
import Derived.Lib.ItoaNum
import Derived.Lib.Atoi
import Derived.Lib.AtoiAll
import Derived.Lib.Strings
import Derived.Lib.TrimByte
set_option linter.unusedVariables false
set_option linter.unusedSimpArgs false
namespace Go.Proofs.YtniakiefibpgmaaGreatDoorK
open Go.RowKit
theorem ite_bind' {α β : Type} (c : Prop) [Decidable c] (a b : Option α) (f : α → Option β) : (if c then a else b).bind f = if c then a.bind f else b.bind f := by split <;> rfl
theorem ite_map' {α β : Type} (c : Prop) [Decidable c] (a b : Option α) (f : α → β) : (if c then a else b).map f = if c then a.map f else b.map f := by split <;> rfl
theorem wrap_id {n : Int} (h1 : -9223372036854775808 ≤ n) (h2 : n ≤ 9223372036854775807) : IntKind.i64.wrap n = n := by
  simp only [IntKind.wrap, IntKind.min, IntKind.max, IntKind.signed, IntKind.bits] at *
  simp
  try omega
theorem wrap_succ {i n : Nat} (h : i < n) (hn : n ≤ 9223372036854775807) : IntKind.i64.wrap ((i : Int) + 1) = (i : Int) + 1 := wrap_id (by omega) (by omega)
theorem wrap_b (x : UInt8) : IntKind.i64.wrap (x.toNat : Int) = (x.toNat : Int) := wrap_id (by omega) (by have := x.toNat_lt; omega)
/-- A loop, by what each round comes to. -/
theorem loop_rec {X : XF} {c : C} {α : Type} (st : α → St) (out : α → Option (Ex × St)) (μ : α → Nat) (inv : α → Prop)
    (h : ∀ a, inv a → (∃ a', DL X c (st a) = some (.n, st a') ∧ inv a' ∧ μ a' < μ a ∧ out a' = out a) ∨ (∃ q : Ex × St, q.1 ≠ .n ∧ DL X c (st a) = some q ∧ out a = some q)) :
    ∀ a, inv a → DL X (.loop c) (st a) = out a := by
  have key : ∀ (n : Nat) (a : α), μ a < n → inv a → DL X (.loop c) (st a) = out a := by
    intro n
    induction n with
    | zero => intro a h1; omega
    | succ n ih =>
      intro a h1 h2
      rw [DL_loop]
      rcases h a h2 with ⟨a', e1, e2, e3, e4⟩ | ⟨q, e1, e2, e3⟩
      · rw [e1]
        simp only [Option.bind_some, andThen]
        rw [ih a' (by omega) e2, e4]
      · obtain ⟨e, σ⟩ := q
        rw [e2, e3]
        cases e with
        | n => exact absurd rfl e1
        | ex id => rfl
        | ret => rfl
  exact fun a ha => key _ a (Nat.lt_succ_self _) ha
theorem bind_cl {α β : Type} {x y : Option α} {f : α → Option β} (h : x = y) : x.bind f = y.bind f := by rw [h]
theorem map_cl {α β : Type} {x y : Option α} {f : α → β} (h : x = y) : x.map f = y.map f := by rw [h]
/-! Each step, part by part: nothing that follows stands below a binder, so the simplifier looks at a part only once what is ahead of it is known. -/
section parts
-- loads
def ldP (d : Nat) (ag : Bool) (σ : St) (l : List AV) : Option St := (packed ag l).map (σ.set d)
theorem ldP_f (d : Nat) (σ : St) (v : AV) : ldP d false σ [v] = some (σ.set d v) := rfl
theorem ldP_t (d : Nat) (σ : St) (l : List AV) : ldP d true σ l = some (σ.set d (.agg l)) := rfl
def ldC (d : Nat) (ag : Bool) (σ : St) (o i j : Nat) (fz : Bool) (k : Nat) (hs : List (Nat × Nat × Option Nat)) (cs : List D) : Option St := ldP d ag σ ((cvs fz k hs i j cs).map (viewOf σ o))
theorem ldC_eq (d : Nat) (ag : Bool) (σ : St) (o i j : Nat) (fz : Bool) (k : Nat) (hs : List (Nat × Nat × Option Nat)) (cs : List D) : ldC d ag σ o i j fz k hs cs = ldP d ag σ ((cvs fz k hs i j cs).map (viewOf σ o)) := rfl
def ldR (d sz : Nat) (ag : Bool) (σ : St) (o i j : Nat) (t : T) (fz : Bool) (k : Nat) (hs : List (Nat × Nat × Option Nat)) (x : t.den) : Option St := (kcut (cellsT t x) j sz).bind (ldC d ag σ o i j fz k hs)
theorem ldR_eq (d sz : Nat) (ag : Bool) (σ : St) (o i j : Nat) (t : T) (fz : Bool) (k : Nat) (hs : List (Nat × Nat × Option Nat)) (x : t.den) : ldR d sz ag σ o i j t fz k hs x = (kcut (cellsT t x) j sz).bind (ldC d ag σ o i j fz k hs) := rfl
def ldO (d sz : Nat) (ag : Bool) (σ : St) (o i j : Nat) : Ob → Option St
  | .ls t fz l k hs => (l[i]?).bind (ldR d sz ag σ o i j t fz k hs)
  | .fn v => if i = 0 ∧ j = 0 ∧ sz = 1 ∧ ag = false then some (σ.set d v) else none
theorem ldO_ls (d sz : Nat) (ag : Bool) (σ : St) (o i j : Nat) (t : T) (fz : Bool) (l : List t.den) (k : Nat) (hs : List (Nat × Nat × Option Nat)) : ldO d sz ag σ o i j (.ls t fz l k hs) = (l[i]?).bind (ldR d sz ag σ o i j t fz k hs) := rfl
theorem ldO_fn (d : Nat) (σ : St) (o : Nat) (v : AV) : ldO d 1 false σ o 0 0 (.fn v) = some (σ.set d v) := rfl
def ldV (d : Nat) (ag : Bool) (σ : St) (o : Option Nat) (l : List D) : Option St := ldP d ag σ (l.map (viewD o))
theorem ldV_eq (d : Nat) (ag : Bool) (σ : St) (o : Option Nat) (l : List D) : ldV d ag σ o l = ldP d ag σ (l.map (viewD o)) := rfl
def eLd (d sz : Nat) (ag : Bool) (σ : St) : AV → Option St
  | .p o i j => (klook σ.objs o).bind (ldO d sz ag σ o i j)
  | .rp o cs => (kcut cs 0 sz).bind (ldV d ag σ o)
  | .rf v => if sz = 1 ∧ ag = false then some (σ.set d v) else none
  | _ => none
theorem ld_p (d sz : Nat) (ag : Bool) (σ : St) (o i j : Nat) : eLd d sz ag σ (.p o i j) = (klook σ.objs o).bind (ldO d sz ag σ o i j) := rfl
theorem ld_rp (d sz : Nat) (ag : Bool) (σ : St) (o : Option Nat) (cs : List D) : eLd d sz ag σ (.rp o cs) = (kcut cs 0 sz).bind (ldV d ag σ o) := rfl
theorem ld_rf (d : Nat) (σ : St) (v : AV) : eLd d 1 false σ (.rf v) = some (σ.set d v) := rfl
theorem k_ld (X : XF) (d : Nat) (sz : Nat) (ag : Bool) (p : O) (σ : St) : kstep X (.ld d sz ag p) σ = eLd d sz ag σ (σ.op p) := by
  simp only [kstep]; cases σ.op p with
  | p o i j => simp only [eLd]; congr 1
  | _ => rfl
-- what a cell is
theorem sc_i (k : IntKind) (n : Int) : D.scalar (.i k n) = true := rfl
theorem sc_u (b : UInt8) : D.scalar (.u b) = true := rfl
theorem sc_b (b : Bool) : D.scalar (.b b) = true := rfl
theorem sc_s (b : List UInt8) : D.scalar (.s b) = true := rfl
theorem sc_e (b : Bool) : D.scalar (.e b) = true := rfl
theorem sc_sl (t : T) (l : List t.den) : D.scalar (.sl t l) = false := rfl
variable (fz : Bool) (k : Nat) (hs : List (Nat × Nat × Option Nat)) (i j : Nat)
theorem cv_i (q : IntKind) (n : Int) : cv fz k hs i j (.i q n) = .d (.i q n) := rfl
theorem cv_u (b : UInt8) : cv fz k hs i j (.u b) = .d (.u b) := rfl
theorem cv_b (b : Bool) : cv fz k hs i j (.b b) = .d (.b b) := rfl
theorem cv_s (b : List UInt8) : cv fz k hs i j (.s b) = .d (.s b) := rfl
theorem cv_e (b : Bool) : cv fz k hs i j (.e b) = .d (.e b) := rfl
def cvH (fz : Bool) (x : D) : Option (Option Nat) → CV
  | some (some o) => if o = 63 then .d x else .lent o
  | some none => .junk
  | none => if fz then .d x else .own x
theorem cvH_so (x : D) (o : Nat) : cvH fz x (some (some o)) = if o = 63 then .d x else .lent o := rfl
theorem cvH_sn (x : D) : cvH fz x (some none) = .junk := rfl
theorem cvH_t (x : D) : cvH true x none = .d x := rfl
theorem cvH_f (x : D) : cvH false x none = .own x := rfl
theorem cv_sl (t : T) (l : List t.den) : cv fz k hs i j (.sl t l) = if i < k then .junk else cvH fz (.sl t l) (holeAt hs i j) := by
  unfold cv cvH; rw [if_neg (by simp [D.scalar])]; split <;> rfl
variable (σ : St) (o : Nat)
theorem vo_sl (t : T) (l : List t.den) : viewOf σ o (.own (.sl t l)) = .vw o (.sl t l) := rfl
theorem vo_i (q : IntKind) (n : Int) : viewOf σ o (.own (.i q n)) = .d (.i q n) := rfl
theorem vo_u (b : UInt8) : viewOf σ o (.own (.u b)) = .d (.u b) := rfl
theorem vo_b (b : Bool) : viewOf σ o (.own (.b b)) = .d (.b b) := rfl
theorem vo_s (b : List UInt8) : viewOf σ o (.own (.s b)) = .d (.s b) := rfl
theorem vo_d (x : D) : viewOf σ o (.d x) = .d x := rfl
def viewL (o2 : Nat) : Option Ob → AV
  | some ob => .h o2 0 ob.len
  | none => .junk
theorem vl_s (o2 : Nat) (ob : Ob) : viewL o2 (some ob) = .h o2 0 ob.len := rfl
theorem vo_lent (o2 : Nat) : viewOf σ o (.lent o2) = viewL o2 (klook σ.objs o2) := by simp only [viewOf]; cases klook σ.objs o2 <;> rfl
theorem vd_sl (o : Nat) (t : T) (l : List t.den) : viewD (some o) (.sl t l) = .vw o (.sl t l) := rfl
theorem vd_sln (t : T) (l : List t.den) : viewD none (.sl t l) = .d (.sl t l) := rfl
variable (w : Option Nat)
theorem vd_i (q : IntKind) (n : Int) : viewD w (.i q n) = .d (.i q n) := rfl
theorem vd_u (b : UInt8) : viewD w (.u b) = .d (.u b) := rfl
theorem vd_b (b : Bool) : viewD w (.b b) = .d (.b b) := rfl
theorem vd_s (b : List UInt8) : viewD w (.s b) = .d (.s b) := rfl
theorem vd_e (b : Bool) : viewD w (.e b) = .d (.e b) := rfl
theorem pk_f (v : AV) : packed false [v] = some v := rfl
theorem pk_t (l : List AV) : packed true l = some (.agg l) := rfl
theorem pr_f (v : RC) : packR false [v] = some (.one v) := rfl
theorem pr_t (l : List RC) : packR true l = some (.agg l) := rfl
theorem ObLs (t : T) (fz : Bool) (l : List t.den) (k : Nat) (hs : List (Nat × Nat × Option Nat)) : Ob.len (.ls t fz l k hs) = l.length := rfl
theorem ObSz (t : T) (fz : Bool) (l : List t.den) (k : Nat) (hs : List (Nat × Nat × Option Nat)) : Ob.sz (.ls t fz l k hs) = t.w := rfl
attribute [simp] ldP_f ldP_t ldC_eq ldR_eq ldO_ls ldO_fn ldV_eq ld_p ld_rp ld_rf k_ld sc_i sc_u sc_b sc_s sc_e sc_sl cv_i cv_u cv_b cv_s cv_e cvH_so cvH_sn cvH_t cvH_f cv_sl vo_sl vo_i vo_u vo_b vo_s vo_d vl_s vo_lent vd_sl vd_sln vd_i vd_u vd_b vd_s vd_e pk_f pk_t pr_f pr_t ObLs ObSz
end parts
section more
abbrev Hs := List (Nat × Nat × Option Nat)
variable (X : XF) (σ : St) (d sz o i j k off n : Nat) (ag fz : Bool) (hs : Hs) (t : T) (v w : AV) (vs : List AV) (ps : List Nat)
-- lists of options
def allK {α β : Type} (f : α → Option β) (l : List α) (b : β) : Option (List β) := (allOf f l).map (List.cons b)
theorem all_nil {α β : Type} (f : α → Option β) : allOf f [] = some [] := rfl
theorem all_cons {α β : Type} (f : α → Option β) (a : α) (l : List α) : allOf f (a :: l) = (f a).bind (allK f l) := rfl
theorem allK_eq {α β : Type} (f : α → Option β) (l : List α) (b : β) : allK f l b = (allOf f l).map (List.cons b) := rfl
-- rows of a slice
def rowsK (off n : Nat) : Ob → Option ((t : T) × Bool × List t.den)
  | .ls t fz l k hs => if k ≤ off ∧ hs.isEmpty = true then some ⟨t, fz, (l.drop off).take n⟩ else none
  | .fn _ => none
theorem rowsK_ls (l : List t.den) : rowsK off n (.ls t fz l k hs) = if k ≤ off ∧ hs.isEmpty = true then some ⟨t, fz, (l.drop off).take n⟩ else none := rfl
theorem rowsOf_eq : rowsOf σ o off n = (klook σ.objs o).bind (rowsK off n) := by unfold rowsOf; congr 1
def frzRow (q : (t : T) × Bool × List t.den) : AV := .d (.sl q.1 q.2.2)
theorem frzRow_eq (q : (t : T) × Bool × List t.den) : frzRow q = .d (.sl q.1 q.2.2) := rfl
-- cells that are stored
def cellH (fz : Bool) (σ : St) (o : Nat) (q : (t : T) × Bool × List t.den) : Option (D × St) := if q.2.1 = true ∧ q.1.flat = false ∧ fz = false then none else some (.sl q.1 q.2.2, σ.gone o)
theorem cellH_eq (q : (t : T) × Bool × List t.den) : cellH fz σ o q = if q.2.1 = true ∧ q.1.flat = false ∧ fz = false then none else some (.sl q.1 q.2.2, σ.gone o) := rfl
theorem cellOf_i (q : IntKind) (m : Int) : cellOf fz σ (.d (.i q m)) = some (.i q m, σ) := rfl
theorem cellOf_u (b : UInt8) : cellOf fz σ (.d (.u b)) = some (.u b, σ) := rfl
theorem cellOf_b (b : Bool) : cellOf fz σ (.d (.b b)) = some (.b b, σ) := rfl
theorem cellOf_s (b : List UInt8) : cellOf fz σ (.d (.s b)) = some (.s b, σ) := rfl
theorem cellOf_slt (l : List t.den) : cellOf true σ (.d (.sl t l)) = some (.sl t l, σ) := rfl
theorem cellOf_slf (l : List t.den) : cellOf false σ (.d (.sl t l)) = none := rfl
theorem cellOf_nil : cellOf fz σ (.nil t) = some (.sl t [], σ) := rfl
theorem cellOf_h : cellOf fz σ (.h o off n) = (rowsOf σ o off n).bind (cellH fz σ o) := rfl
def consC (c : D) (q : List D × St) : List D × St := (c :: q.1, q.2)
theorem consC_eq (c : D) (l : List D) : consC c (l, σ) = (c :: l, σ) := rfl
def cellsK (fz : Bool) (l : List AV) (q : D × St) : Option (List D × St) := (cellsOf fz l q.2).map (consC q.1)
theorem cellsK_eq (l : List AV) (c : D) : cellsK fz l (c, σ) = (cellsOf fz l σ).map (consC c) := rfl
theorem cellsOf_nil : cellsOf fz [] σ = some ([], σ) := rfl
theorem cellsOf_cons (l : List AV) : cellsOf fz (v :: l) σ = (cellOf fz σ v).bind (cellsK fz l) := rfl
theorem cells_agg (l : List AV) : AV.cells (.agg l) = l := rfl
theorem cells_d (x : D) : AV.cells (.d x) = [.d x] := rfl
theorem cells_nil : AV.cells (.nil t) = [.nil t] := rfl
theorem cells_h : AV.cells (.h o off n) = [.h o off n] := rfl
theorem cells_vw (x : D) : AV.cells (.vw o x) = [.vw o x] := rfl
theorem cells_p : AV.cells (.p o i j) = [.p o i j] := rfl
theorem cells_junk : AV.cells .junk = [.junk] := rfl
-- rows out of cells
def mkP (a b : T) (cs : List D) (x : a.den) : Option (T.den (.pr a b)) := (mkT b cs).map (Prod.mk x)
theorem mkP_eq (a b : T) (cs : List D) (x : a.den) : mkP a b cs x = (mkT b cs).map (Prod.mk x) := rfl
theorem mkT_pr (a b : T) (cs : List D) : mkT (.pr a b) cs = (mkT a (cs.take a.w)).bind (mkP a b (cs.drop a.w)) := rfl
theorem mkT_int (q : IntKind) (m : Int) : mkT (.int q) [.i q m] = some m := by simp [mkT, ofD]
theorem mkT_u8 (b : UInt8) : mkT .u8 [.u b] = some b := rfl
theorem mkT_bool (b : Bool) : mkT .bool [.b b] = some b := rfl
theorem mkT_str (b : List UInt8) : mkT .str [.s b] = some b := rfl
theorem mkT_sl (l : List t.den) : mkT (.sl t) [.sl t l] = some l := by simp [mkT, ofD, castL_self]
theorem mkT_node (a b c : List UInt8) (l : List NodeT) : mkT .node [.s a, .s b, .s c, .sl .node l] = some (NodeT.mk a b c l) := by simp only [mkT]; erw [castL_self]; rfl
-- stores
def stY (σ : St) (o : Nat) (t : T) (fz : Bool) (l : List t.den) (k : Nat) (hs : Hs) (i : Nat) (y : t.den) : St := σ.turn o (.ls t fz (l.set i y) k hs)
theorem stY_eq (l : List t.den) (y : t.den) : stY σ o t fz l k hs i y = σ.turn o (.ls t fz (l.set i y) k hs) := rfl
def stX (sz : Nat) (σ : St) (o i j : Nat) (cs : List D) (t : T) (fz : Bool) (l : List t.den) (k : Nat) (hs : Hs) (x : t.den) : Option St :=
  if cs.length = sz ∧ j + sz ≤ t.w then (mkT t ((cellsT t x).take j ++ cs ++ (cellsT t x).drop (j + sz))).map (stY σ o t fz l k (fillH i j sz hs) i) else none
theorem stX_eq (cs : List D) (l : List t.den) (x : t.den) : stX sz σ o i j cs t fz l k hs x = if cs.length = sz ∧ j + sz ≤ t.w then (mkT t ((cellsT t x).take j ++ cs ++ (cellsT t x).drop (j + sz))).map (stY σ o t fz l k (fillH i j sz hs) i) else none := rfl
def stK (sz : Nat) (σ : St) (o i j : Nat) (t : T) (fz : Bool) (cs : List D) : Ob → Option St
  | .ls t' fz' l k hs => if t' = t ∧ fz' = fz then (l[i]?).bind (stX sz σ o i j cs t' fz' l k hs) else none
  | .fn _ => none
theorem stK_ls (t' : T) (fz' : Bool) (cs : List D) (l : List t'.den) : stK sz σ o i j t fz cs (.ls t' fz' l k hs) = if t' = t ∧ fz' = fz then (l[i]?).bind (stX sz σ o i j cs t' fz' l k hs) else none := rfl
def stC (sz o i j : Nat) (t : T) (fz : Bool) (q : List D × St) : Option St := (klook q.2.objs o).bind (stK sz q.2 o i j t fz q.1)
theorem stC_eq (cs : List D) : stC sz o i j t fz (cs, σ) = (klook σ.objs o).bind (stK sz σ o i j t fz cs) := rfl
def stO (sz : Nat) (σ : St) (o i j : Nat) (v : AV) : Ob → Option St
  | .ls t fz _ _ _ => (cellsOf fz v.cells σ).bind (stC sz o i j t fz)
  | .fn _ => match v with
    | .clo f l => if i = 0 ∧ j = 0 ∧ sz = 1 ∧ AV.blindL l = true then some (σ.turn o (.fn (.clo f l))) else none
    | _ => none
theorem stO_ls (l : List t.den) : stO sz σ o i j v (.ls t fz l k hs) = (cellsOf fz v.cells σ).bind (stC sz o i j t fz) := rfl
theorem stO_fn (u : AV) (f : Nat) (l : List AV) : stO 1 σ o 0 0 (.clo f l) (.fn u) = if AV.blindL l = true then some (σ.turn o (.fn (.clo f l))) else none := by simp [stO]
def eSt (sz : Nat) (σ : St) (p v : AV) : Option St := match p with
  | .p o i j => (klook σ.objs o).bind (stO sz σ o i j v)
  | _ => none
theorem st_p : eSt sz σ (.p o i j) v = (klook σ.objs o).bind (stO sz σ o i j v) := rfl
theorem k_st (p q : O) : kstep X (.st sz p q) σ = eSt sz σ (σ.op p) (σ.op q) := by
  simp only [kstep]
  cases σ.op p with
  | p o i j =>
    simp only [eSt]; congr 1; funext ob
    cases ob with
    | fn u => cases σ.op q <;> rfl
    | ls t fz l k hs =>
      simp only [stO]; congr 1; funext q; simp only [stC]; congr 1; funext ob
      cases ob with
      | fn u => simp only [stK]
      | ls t' fz' l' k' hs' =>
        simp only [stK]
        by_cases h : t' = t ∧ fz' = fz
        · rw [if_pos h]; congr 1; funext x; simp only [stX, h, true_and]; rfl
        · rw [if_neg h]; cases l'[i]? with
          | none => rfl
          | some x => simp only [Option.bind_some]; rw [if_neg]; intro g; exact h ⟨g.1, g.2.1⟩
  | _ => rfl
end more
attribute [simp] all_nil all_cons allK_eq rowsK_ls rowsOf_eq frzRow_eq cellH_eq cellOf_i cellOf_u cellOf_b cellOf_s cellOf_slt cellOf_slf cellOf_nil cellOf_h consC_eq cellsK_eq cellsOf_nil cellsOf_cons cells_agg cells_d cells_nil cells_h cells_vw cells_p cells_junk mkP_eq mkT_pr mkT_int mkT_u8 mkT_bool mkT_str mkT_sl mkT_node stY_eq stX_eq stK_ls stC_eq stO_ls stO_fn st_p k_st
section yet
variable (X : XF) (σ : St) (d sz o i j k off n : Nat) (ag fz : Bool) (hs : Hs) (t : T) (v w : AV) (vs : List AV) (ps : List Nat)
-- a slice is taken out of a cell
def ldmC (d : Nat) (σ : St) (o i j : Nat) (t : T) (fz : Bool) (l : List t.den) (k : Nat) (hs : Hs) : CV → Option St
  | .own (.sl t' l') => if o = nid d then none else some ((((σ.turn o (.ls t fz l k ((i, j, none) :: hs))).new (nid d) (.ls t' false l' 0 [])).less o (.ls t fz l k ((i, j, some (nid d)) :: unlent (nid d) hs))).set d (.h (nid d) 0 l'.length))
  | .lent o2 => (klook σ.objs o2).map fun ob => σ.set d (.h o2 0 ob.len)
  | _ => none
theorem ldmC_own (l : List t.den) (t' : T) (l' : List t'.den) : ldmC d σ o i j t fz l k hs (.own (.sl t' l')) = if o = nid d then none else some ((((σ.turn o (.ls t fz l k ((i, j, none) :: hs))).new (nid d) (.ls t' false l' 0 [])).less o (.ls t fz l k ((i, j, some (nid d)) :: unlent (nid d) hs))).set d (.h (nid d) 0 l'.length)) := rfl
def setH (d : Nat) (σ : St) (o : Nat) (ob : Ob) : St := σ.set d (.h o 0 ob.len)
theorem setH_eq (ob : Ob) : setH d σ o ob = σ.set d (.h o 0 ob.len) := rfl
theorem ldmC_lent (l : List t.den) (o2 : Nat) : ldmC d σ o i j t fz l k hs (.lent o2) = (klook σ.objs o2).map (setH d σ o2) := rfl
def ldmX (d : Nat) (σ : St) (o i j : Nat) (t : T) (fz : Bool) (l : List t.den) (k : Nat) (hs : Hs) (c : D) : Option St := ldmC d σ o i j t fz l k hs (cv fz k hs i j c)
theorem ldmX_eq (l : List t.den) (c : D) : ldmX d σ o i j t fz l k hs c = ldmC d σ o i j t fz l k hs (cv fz k hs i j c) := rfl
def ldmR (d : Nat) (σ : St) (o i j : Nat) (t : T) (fz : Bool) (l : List t.den) (k : Nat) (hs : Hs) (x : t.den) : Option St := ((cellsT t x)[j]?).bind (ldmX d σ o i j t fz l k hs)
theorem ldmR_eq (l : List t.den) (x : t.den) : ldmR d σ o i j t fz l k hs x = ((cellsT t x)[j]?).bind (ldmX d σ o i j t fz l k hs) := rfl
def ldmO (d : Nat) (σ : St) (o i j : Nat) : Ob → Option St
  | .ls t fz l k hs => (l[i]?).bind (ldmR d σ o i j t fz l k hs)
  | .fn _ => none
theorem ldmO_ls (l : List t.den) : ldmO d σ o i j (.ls t fz l k hs) = (l[i]?).bind (ldmR d σ o i j t fz l k hs) := rfl
def eLdm (d : Nat) (σ : St) (p : AV) : Option St := match p with
  | .p o i j => (klook σ.objs o).bind (ldmO d σ o i j)
  | _ => none
theorem ldm_p : eLdm d σ (.p o i j) = (klook σ.objs o).bind (ldmO d σ o i j) := rfl
theorem k_ldm (p : O) : kstep X (.ldm d p) σ = eLdm d σ (σ.op p) := by
  simp only [kstep]
  cases σ.op p with
  | p o i j =>
    simp only [eLdm]; congr 1
  | _ => rfl
-- a row is taken out
def consV (v : AV) (q : List AV × St) : List AV × St := (v :: q.1, q.2)
theorem consV_eq (l : List AV) : consV v (l, σ) = (v :: l, σ) := rfl
theorem tk_nil (id : Nat) : takeL id [] σ = some ([], σ) := rfl
theorem tk_own (id : Nat) (r : List t.den) (l : List CV) : takeL id (.own (.sl t r) :: l) σ = (takeL (id + 1) l (σ.new id (.ls t false r 0 []))).map (consV (.h id 0 r.length)) := rfl
theorem tk_pb (id : Nat) (f : Bool) (x : t.den) (l : List CV) : takeL id (.pb t f x :: l) σ = (takeL (id + 1) l (σ.new id (.ls t f [x] 0 []))).map (consV (.p id 0 0)) := rfl
theorem tk_d (id : Nat) (x : D) (l : List CV) : takeL id (.d x :: l) σ = (takeL (id + 1) l σ).map (consV (.d x)) := rfl
theorem tk_i (id : Nat) (q : IntKind) (m : Int) (l : List CV) : takeL id (.own (.i q m) :: l) σ = (takeL (id + 1) l σ).map (consV (.d (.i q m))) := rfl
theorem tk_u (id : Nat) (b : UInt8) (l : List CV) : takeL id (.own (.u b) :: l) σ = (takeL (id + 1) l σ).map (consV (.d (.u b))) := rfl
theorem tk_b (id : Nat) (b : Bool) (l : List CV) : takeL id (.own (.b b) :: l) σ = (takeL (id + 1) l σ).map (consV (.d (.b b))) := rfl
theorem tk_s (id : Nat) (b : List UInt8) (l : List CV) : takeL id (.own (.s b) :: l) σ = (takeL (id + 1) l σ).map (consV (.d (.s b))) := rfl
theorem tk_e (id : Nat) (b : Bool) (l : List CV) : takeL id (.own (.e b) :: l) σ = (takeL (id + 1) l σ).map (consV (.d (.e b))) := rfl
def ldtP (d : Nat) (ag : Bool) (q : List AV × St) : Option St := (packed ag q.1).map (q.2.set d)
theorem ldtP_eq (l : List AV) : ldtP d ag (l, σ) = (packed ag l).map (σ.set d) := rfl
def ldtR (d sz : Nat) (ag : Bool) (σ : St) (o i j : Nat) (t : T) (fz : Bool) (l : List t.den) (k : Nat) (hs : Hs) (x : t.den) : Option St := if k ≤ i ∧ j + sz ≤ t.w ∧ hs.isEmpty = true then
  (takeL (nid (1000 * (d + 1))) (cvs fz k hs i j (((cellsT t x).drop j).take sz)) (σ.turn o (.ls t fz l (i + 1) hs))).bind (ldtP d ag) else none
theorem ldtR_eq (l : List t.den) (x : t.den) : ldtR d sz ag σ o i j t fz l k hs x = if k ≤ i ∧ j + sz ≤ t.w ∧ hs.isEmpty = true then
  (takeL (nid (1000 * (d + 1))) (cvs fz k hs i j (((cellsT t x).drop j).take sz)) (σ.turn o (.ls t fz l (i + 1) hs))).bind (ldtP d ag) else none := rfl
def ldtO (d sz : Nat) (ag : Bool) (σ : St) (o i j : Nat) : Ob → Option St
  | .ls t fz l k hs => (l[i]?).bind (ldtR d sz ag σ o i j t fz l k hs)
  | .fn _ => none
theorem ldtO_ls (l : List t.den) : ldtO d sz ag σ o i j (.ls t fz l k hs) = (l[i]?).bind (ldtR d sz ag σ o i j t fz l k hs) := rfl
def eLdt (d sz : Nat) (ag : Bool) (σ : St) (p : AV) : Option St := match p with
  | .p o i j => (klook σ.objs o).bind (ldtO d sz ag σ o i j)
  | _ => none
theorem ldt_p : eLdt d sz ag σ (.p o i j) = (klook σ.objs o).bind (ldtO d sz ag σ o i j) := rfl
theorem k_ldt (p : O) : kstep X (.ldt d sz ag p) σ = eLdt d sz ag σ (σ.op p) := by
  simp only [kstep]
  cases σ.op p with
  | p o i j => simp only [eLdt]; congr 1
  | _ => rfl
-- a store that lends
theorem lendC_nil : lendC σ (.nil t) = some (.sl t [], none) := rfl
theorem lendC_i (q : IntKind) (m : Int) : lendC σ (.d (.i q m)) = some (.i q m, none) := rfl
theorem lendC_u (b : UInt8) : lendC σ (.d (.u b)) = some (.u b, none) := rfl
theorem lendC_b (b : Bool) : lendC σ (.d (.b b)) = some (.b b, none) := rfl
theorem lendC_s (b : List UInt8) : lendC σ (.d (.s b)) = some (.s b, none) := rfl
def lendK (o off n : Nat) : Ob → Option (D × Option Nat)
  | .ls t _ l _ _ => if off = 0 ∧ n = l.length ∧ o ≠ 63 then some (.sl t [], some o) else none
  | .fn _ => none
theorem lendC_sl (l : List t.den) : lendC σ (.d (.sl t l)) = some (.sl t l, some 63) := rfl
theorem lendK_ls (l : List t.den) : lendK o off n (.ls t fz l k hs) = if off = 0 ∧ n = l.length ∧ o ≠ 63 then some (.sl t [], some o) else none := rfl
theorem lendC_h : lendC σ (.h o off n) = (klook σ.objs o).bind (lendK o off n) := by unfold lendC; congr 1
def stlY (σ : St) (o : Nat) (t : T) (fz : Bool) (l : List t.den) (k : Nat) (hs : Hs) (i : Nat) (y : t.den) : St := σ.turn o (.ls t fz (l.set i y) k hs)
theorem stlY_eq (l : List t.den) (y : t.den) : stlY σ o t fz l k hs i y = σ.turn o (.ls t fz (l.set i y) k hs) := rfl
def stlX (sz : Nat) (σ : St) (o i j : Nat) (t : T) (fz : Bool) (l : List t.den) (k : Nat) (hs : Hs) (q : List (D × Option Nat)) (x : t.den) : Option St := if fz = false ∧ k ≤ i ∧ q.length = sz ∧ j + sz ≤ t.w then
  (mkT t ((cellsT t x).take j ++ q.map Prod.fst ++ (cellsT t x).drop (j + sz))).map (stlY σ o t fz l k (lendH i j q ++ fillH i j sz hs) i) else none
theorem stlX_eq (l : List t.den) (q : List (D × Option Nat)) (x : t.den) : stlX sz σ o i j t fz l k hs q x = if fz = false ∧ k ≤ i ∧ q.length = sz ∧ j + sz ≤ t.w then
  (mkT t ((cellsT t x).take j ++ q.map Prod.fst ++ (cellsT t x).drop (j + sz))).map (stlY σ o t fz l k (lendH i j q ++ fillH i j sz hs) i) else none := rfl
def stlQ (sz : Nat) (σ : St) (o i j : Nat) (t : T) (fz : Bool) (l : List t.den) (k : Nat) (hs : Hs) (q : List (D × Option Nat)) : Option St := (l[i]?).bind (stlX sz σ o i j t fz l k hs q)
theorem stlQ_eq (l : List t.den) (q : List (D × Option Nat)) : stlQ sz σ o i j t fz l k hs q = (l[i]?).bind (stlX sz σ o i j t fz l k hs q) := rfl
def stlO (sz : Nat) (σ : St) (o i j : Nat) (v : AV) : Ob → Option St
  | .ls t fz l k hs => (allOf (lendC σ) v.cells).bind (stlQ sz σ o i j t fz l k hs)
  | .fn _ => none
theorem stlO_ls (l : List t.den) : stlO sz σ o i j v (.ls t fz l k hs) = (allOf (lendC σ) v.cells).bind (stlQ sz σ o i j t fz l k hs) := rfl
def eStl (sz : Nat) (σ : St) (p v : AV) : Option St := match p with
  | .p o i j => (klook σ.objs o).bind (stlO sz σ o i j v)
  | _ => none
theorem stl_p : eStl sz σ (.p o i j) v = (klook σ.objs o).bind (stlO sz σ o i j v) := rfl
theorem k_stl (p q : O) : kstep X (.stl sz p q) σ = eStl sz σ (σ.op p) (σ.op q) := by
  simp only [kstep]
  cases σ.op p with
  | p o i j => simp only [eStl]; congr 1
  | _ => rfl
-- parts, rows, elements
def eFa (d off : Nat) (σ : St) : AV → Option St
  | .p o i j => some (σ.set d (.p o i (j + off)))
  | .rp o cs => if off ≤ cs.length then some (σ.set d (.rp o (cs.drop off))) else none
  | _ => none
theorem fa_p : eFa d off σ (.p o i j) = some (σ.set d (.p o i (j + off))) := rfl
theorem fa_rp (q : Option Nat) (cs : List D) : eFa d off σ (.rp q cs) = if off ≤ cs.length then some (σ.set d (.rp q (cs.drop off))) else none := rfl
theorem k_fa (p : O) : kstep X (.fa d p off) σ = eFa d off σ (σ.op p) := by simp only [kstep]; cases σ.op p <;> rfl
def eFd (d off sz : Nat) (ag : Bool) (σ : St) : AV → Option St
  | .agg l => (kcut l off sz).bind (ldP d ag σ)
  | _ => none
theorem fd_agg (l : List AV) : eFd d off sz ag σ (.agg l) = (kcut l off sz).bind (ldP d ag σ) := rfl
theorem k_fd (x : O) : kstep X (.fd d x off sz ag) σ = eFd d off sz ag σ (σ.op x) := by simp only [kstep]; cases σ.op x <;> rfl
theorem asI_i (q : IntKind) (m : Int) : asInt' (.d (.i q m)) = some m := rfl
theorem asI_u (b : UInt8) : asInt' (.d (.u b)) = some b.toNat := rfl
def iaR (d sz : Nat) (σ : St) (o : Option Nat) (t : T) (y : t.den) : Option St := if t.w = sz then some (σ.set d (.rp o (cellsT t y))) else none
theorem iaR_eq (q : Option Nat) (y : t.den) : iaR d sz σ q t y = if t.w = sz then some (σ.set d (.rp q (cellsT t y))) else none := rfl
def iaO (d sz : Nat) (σ : St) (o off n : Nat) (i : Int) (ob : Ob) : Option St := if i < (n : Int) ∧ ob.sz = sz then some (σ.set d (.p o (off + i.toNat) 0)) else none
theorem iaO_eq (m : Int) (ob : Ob) : iaO d sz σ o off n m ob = if m < (n : Int) ∧ ob.sz = sz then some (σ.set d (.p o (off + m.toNat) 0)) else none := rfl
def iaX (d sz : Nat) (σ : St) (i : Int) : AV → Option St
  | .d (.sl t l) => (l[i.toNat]?).bind (iaR d sz σ none t)
  | .vw o (.sl t l) => (l[i.toNat]?).bind (iaR d sz σ (some o) t)
  | .h o off n => (klook σ.objs o).bind (iaO d sz σ o off n i)
  | _ => none
theorem iaX_sl (m : Int) (l : List t.den) : iaX d sz σ m (.d (.sl t l)) = (l[m.toNat]?).bind (iaR d sz σ none t) := rfl
theorem iaX_vw (m : Int) (l : List t.den) : iaX d sz σ m (.vw o (.sl t l)) = (l[m.toNat]?).bind (iaR d sz σ (some o) t) := rfl
theorem iaX_h (m : Int) : iaX d sz σ m (.h o off n) = (klook σ.objs o).bind (iaO d sz σ o off n m) := rfl
def iaI (d sz : Nat) (σ : St) (x : AV) (i : Int) : Option St := if 0 ≤ i then iaX d sz σ i x else none
theorem iaI_eq (m : Int) : iaI d sz σ v m = if 0 ≤ m then iaX d sz σ m v else none := rfl
def eIa (d sz : Nat) (σ : St) (x i : AV) : Option St := (asInt' i).bind (iaI d sz σ x)
theorem ia_eq : eIa d sz σ v w = (asInt' w).bind (iaI d sz σ v) := rfl
theorem k_ia (x q : O) : kstep X (.ia d sz x q) σ = eIa d sz σ (σ.op x) (σ.op q) := by
  simp only [kstep, eIa]; congr 1
def ixB (d : Nat) (σ : St) (b : UInt8) : St := σ.set d (.d (.u b))
theorem ixB_eq (b : UInt8) : ixB d σ b = σ.set d (.d (.u b)) := rfl
def ixX (d : Nat) (σ : St) (i : Int) : AV → Option St
  | .d (.s l) => (l[i.toNat]?).map (ixB d σ)
  | _ => none
theorem ixX_s (m : Int) (l : List UInt8) : ixX d σ m (.d (.s l)) = (l[m.toNat]?).map (ixB d σ) := rfl
def ixI (d : Nat) (σ : St) (x : AV) (i : Int) : Option St := if 0 ≤ i then ixX d σ i x else none
theorem ixI_eq (m : Int) : ixI d σ v m = if 0 ≤ m then ixX d σ m v else none := rfl
def eIx (d : Nat) (σ : St) (x i : AV) : Option St := (asInt' i).bind (ixI d σ x)
theorem ix_eq : eIx d σ v w = (asInt' w).bind (ixI d σ v) := rfl
theorem k_ix (x q : O) : kstep X (.ix d x q) σ = eIx d σ (σ.op x) (σ.op q) := by
  simp only [kstep, eIx]; congr 1
def eLen (d : Nat) (σ : St) : AV → Option St
  | .d (.sl _ l) => some (σ.set d (.d (.i .i64 l.length)))
  | .vw _ (.sl _ l) => some (σ.set d (.d (.i .i64 l.length)))
  | .h _ _ n => some (σ.set d (.d (.i .i64 n)))
  | .nil _ => some (σ.set d (.d (.i .i64 0)))
  | _ => none
theorem len_sl (l : List t.den) : eLen d σ (.d (.sl t l)) = some (σ.set d (.d (.i .i64 l.length))) := rfl
theorem len_vw (l : List t.den) : eLen d σ (.vw o (.sl t l)) = some (σ.set d (.d (.i .i64 l.length))) := rfl
theorem len_h : eLen d σ (.h o off n) = some (σ.set d (.d (.i .i64 n))) := rfl
theorem len_nil : eLen d σ (.nil t) = some (σ.set d (.d (.i .i64 0))) := rfl
theorem k_len (x : O) : kstep X (.len d x) σ = eLen d σ (σ.op x) := by
  simp only [kstep]
  cases σ.op x with
  | d y => cases y <;> rfl
  | vw _ y => cases y <;> rfl
  | _ => rfl
def eLns (d : Nat) (σ : St) : AV → Option St
  | .d (.s l) => some (σ.set d (.d (.i .i64 l.length)))
  | _ => none
theorem lns_s (l : List UInt8) : eLns d σ (.d (.s l)) = some (σ.set d (.d (.i .i64 l.length))) := rfl
theorem k_lns (x : O) : kstep X (.lns d x) σ = eLns d σ (σ.op x) := by
  simp only [kstep]
  cases σ.op x with
  | d y => cases y <;> rfl
  | _ => rfl
def eNot (d : Nat) (σ : St) : AV → Option St
  | .d (.b t) => some (σ.set d (.d (.b (!t))))
  | _ => none
theorem not_b (b : Bool) : eNot d σ (.d (.b b)) = some (σ.set d (.d (.b (!b)))) := rfl
theorem k_not (x : O) : kstep X (.not d x) σ = eNot d σ (σ.op x) := by
  simp only [kstep]
  cases σ.op x with
  | d y => cases y <;> rfl
  | _ => rfl
def binK (d : Nat) (σ : St) (r : D) : St := σ.set d (.d r)
theorem binK_eq (r : D) : binK d σ r = σ.set d (.d r) := rfl
def eBin (d : Nat) (op : BinOp) (ty : Ty) (σ : St) (x y : AV) : Option St := (binV op ty x y).map (binK d σ)
theorem bin_eq (op : BinOp) (ty : Ty) : eBin d op ty σ v w = (binV op ty v w).map (binK d σ) := rfl
theorem k_bin (op : BinOp) (ty : Ty) (x y : O) : kstep X (.bin d op ty x y) σ = eBin d op ty σ (σ.op x) (σ.op y) := rfl
-- slices
def bn2 (len : Nat) (l u : Int) : Option (Nat × Nat) := if 0 ≤ l ∧ l ≤ u ∧ u ≤ (len : Int) then some (l.toNat, u.toNat) else none
theorem bn2_eq (l u : Int) : bn2 n l u = if 0 ≤ l ∧ l ≤ u ∧ u ≤ (n : Int) then some (l.toNat, u.toNat) else none := rfl
def bn1 (len : Nat) (u : AV) (l : Int) : Option (Nat × Nat) := (asInt' u).bind (bn2 len l)
theorem bn1_eq (l : Int) : bn1 n v l = (asInt' v).bind (bn2 n l) := rfl
def bn0 (len : Nat) (l : Int) : Option (Nat × Nat) := bn2 len l len
theorem bn0_eq (l : Int) : bn0 n l = bn2 n l n := rfl
theorem bnds_nn : bnds σ n none none = bn2 n 0 n := rfl
theorem bnds_ns (q : O) : bnds σ n none (some q) = (asInt' (σ.op q)).bind (bn2 n 0) := rfl
theorem bnds_sn (p : O) : bnds σ n (some p) none = (asInt' (σ.op p)).bind (bn0 n) := rfl
theorem bnds_ss (p q : O) : bnds σ n (some p) (some q) = (asInt' (σ.op p)).bind (bn1 n (σ.op q)) := rfl
def slS (d : Nat) (σ : St) (l : List UInt8) (q : Nat × Nat) : St := σ.set d (.d (.s ((l.drop q.1).take (q.2 - q.1))))
theorem slS_eq (l : List UInt8) (a b : Nat) : slS d σ l (a, b) = σ.set d (.d (.s ((l.drop a).take (b - a)))) := rfl
def slL (d : Nat) (σ : St) (t : T) (l : List t.den) (q : Nat × Nat) : St := σ.set d (.d (.sl t ((l.drop q.1).take (q.2 - q.1))))
theorem slL_eq (l : List t.den) (a b : Nat) : slL d σ t l (a, b) = σ.set d (.d (.sl t ((l.drop a).take (b - a)))) := rfl
def slV (d : Nat) (σ : St) (o : Nat) (t : T) (l : List t.den) (q : Nat × Nat) : St := σ.set d (.vw o (.sl t ((l.drop q.1).take (q.2 - q.1))))
theorem slV_eq (l : List t.den) (a b : Nat) : slV d σ o t l (a, b) = σ.set d (.vw o (.sl t ((l.drop a).take (b - a)))) := rfl
def slH (d : Nat) (σ : St) (o off : Nat) (q : Nat × Nat) : St := σ.set d (.h o (off + q.1) (q.2 - q.1))
theorem slH_eq (a b : Nat) : slH d σ o off (a, b) = σ.set d (.h o (off + a) (b - a)) := rfl
def slN (d : Nat) (σ : St) (t : T) (_ : Nat × Nat) : St := σ.set d (.nil t)
theorem slN_eq (q : Nat × Nat) : slN d σ t q = σ.set d (.nil t) := rfl
def slO (d sz : Nat) (σ : St) (o off n : Nat) (lo hi : Option O) (ob : Ob) : Option St := if sz ≠ 0 ∧ ob.sz = sz then (bnds σ n lo hi).map (slH d σ o off) else none
theorem slO_eq (lo hi : Option O) (ob : Ob) : slO d sz σ o off n lo hi ob = if sz ≠ 0 ∧ ob.sz = sz then (bnds σ n lo hi).map (slH d σ o off) else none := rfl
def eSlc (d sz : Nat) (lo hi : Option O) (σ : St) : AV → Option St
  | .d (.s l) => if sz = 0 then (bnds σ l.length lo hi).map (slS d σ l) else none
  | .nil t => if sz = 0 then none else (bnds σ 0 lo hi).map (slN d σ t)
  | .d (.sl t l) => if sz ≠ 0 ∧ t.w = sz then (bnds σ l.length lo hi).map (slL d σ t l) else none
  | .vw o (.sl t l) => if sz ≠ 0 ∧ t.w = sz then (bnds σ l.length lo hi).map (slV d σ o t l) else none
  | .h o off n => (klook σ.objs o).bind (slO d sz σ o off n lo hi)
  | _ => none
theorem slc_s (lo hi : Option O) (l : List UInt8) : eSlc d 0 lo hi σ (.d (.s l)) = (bnds σ l.length lo hi).map (slS d σ l) := rfl
theorem slc_nil (lo hi : Option O) : eSlc d sz lo hi σ (.nil t) = if sz = 0 then none else (bnds σ 0 lo hi).map (slN d σ t) := rfl
theorem slc_sl (lo hi : Option O) (l : List t.den) : eSlc d sz lo hi σ (.d (.sl t l)) = if sz ≠ 0 ∧ t.w = sz then (bnds σ l.length lo hi).map (slL d σ t l) else none := rfl
theorem slc_vw (lo hi : Option O) (l : List t.den) : eSlc d sz lo hi σ (.vw o (.sl t l)) = if sz ≠ 0 ∧ t.w = sz then (bnds σ l.length lo hi).map (slV d σ o t l) else none := rfl
theorem slc_h (lo hi : Option O) : eSlc d sz lo hi σ (.h o off n) = (klook σ.objs o).bind (slO d sz σ o off n lo hi) := rfl
theorem k_slc (x : O) (lo hi : Option O) : kstep X (.slc d sz x lo hi) σ = eSlc d sz lo hi σ (σ.op x) := by
  simp only [kstep]
  cases σ.op x with
  | d y => cases y <;> rfl
  | vw _ y => cases y <;> rfl
  | _ => rfl
def b2K (d : Nat) (σ : St) (l : List UInt8) : St := σ.set d (.d (.s l))
theorem b2K_eq (l : List UInt8) : b2K d σ l = σ.set d (.d (.s l)) := rfl
def b2O (d : Nat) (σ : St) (off n : Nat) : Ob → Option St
  | .ls t _ l _ _ => (castL t .u8 ((l.drop off).take n)).map (b2K d σ)
  | .fn _ => none
theorem b2O_ls (l : List UInt8) : b2O d σ off n (.ls .u8 fz l k hs) = some (σ.set d (.d (.s ((l.drop off).take n)))) := by simp only [b2O]; erw [castL_self]; rfl
def eB2s (d : Nat) (σ : St) : AV → Option St
  | .d (.sl .u8 l) => some (σ.set d (.d (.s l)))
  | .vw _ (.sl .u8 l) => some (σ.set d (.d (.s l)))
  | .nil _ => some (σ.set d (.d (.s [])))
  | .h o off n => (klook σ.objs o).bind (b2O d σ off n)
  | _ => none
theorem b2s_sl (l : List UInt8) : eB2s d σ (.d (.sl .u8 l)) = some (σ.set d (.d (.s l))) := rfl
theorem b2s_vw (l : List UInt8) : eB2s d σ (.vw o (.sl .u8 l)) = some (σ.set d (.d (.s l))) := rfl
theorem b2s_nil : eB2s d σ (.nil t) = some (σ.set d (.d (.s []))) := rfl
theorem b2s_h : eB2s d σ (.h o off n) = (klook σ.objs o).bind (b2O d σ off n) := rfl
theorem k_b2s (x : O) : kstep X (.b2s d x) σ = eB2s d σ (σ.op x) := by
  simp only [kstep]
  cases σ.op x with
  | d y =>
    cases y with
    | sl t l => cases t <;> rfl
    | _ => rfl
  | vw _ y =>
    cases y with
    | sl t l => cases t <;> rfl
    | _ => rfl
  | h o off n => simp only [eB2s]; congr 1
  | _ => rfl
def eExt (d j : Nat) (σ : St) : AV → Option St
  | .tup l => (l[j]?).map (σ.set d)
  | _ => none
theorem ext_tup (l : List AV) : eExt d j σ (.tup l) = (l[j]?).map (σ.set d) := rfl
theorem k_ext (x : O) : kstep X (.ext d x j) σ = eExt d j σ (σ.op x) := by simp only [kstep]; cases σ.op x <;> rfl
end yet
attribute [simp] ldmC_own setH_eq ldmC_lent ldmX_eq ldmR_eq ldmO_ls ldm_p k_ldm consV_eq tk_nil tk_own tk_pb tk_d tk_i tk_u tk_b tk_s tk_e ldtP_eq ldtR_eq ldtO_ls ldt_p k_ldt lendC_nil lendC_i lendC_u lendC_b lendC_s lendC_sl lendK_ls lendC_h stlY_eq stlX_eq stlQ_eq stlO_ls stl_p k_stl fa_p fa_rp k_fa fd_agg k_fd asI_i asI_u iaR_eq iaO_eq iaX_sl iaX_vw iaX_h iaI_eq ia_eq k_ia ixB_eq ixX_s ixI_eq ix_eq k_ix len_sl len_vw len_h len_nil k_len lns_s k_lns not_b k_not binK_eq bin_eq k_bin bn2_eq bn1_eq bn0_eq bnds_nn bnds_ns bnds_sn bnds_ss slS_eq slL_eq slV_eq slH_eq slN_eq slO_eq slc_s slc_nil slc_sl slc_vw slc_h k_slc b2K_eq b2O_ls b2s_sl b2s_vw b2s_nil b2s_h k_b2s ext_tup k_ext
section last
variable (X : XF) (σ : St) (d sz o i j k off n : Nat) (ag fz : Bool) (hs : Hs) (t : T) (v w : AV) (vs : List AV) (ps : List Nat)
def eNeg (d : Nat) (σ : St) : AV → Option St
  | .d (.i k n) => some (σ.set d (.d (.i k (k.wrap (-n)))))
  | _ => none
theorem neg_i (q : IntKind) (m : Int) : eNeg d σ (.d (.i q m)) = some (σ.set d (.d (.i q (q.wrap (-m))))) := rfl
theorem k_neg (x : O) : kstep X (.neg d x) σ = eNeg d σ (σ.op x) := by
  simp only [kstep]
  cases σ.op x with
  | d y => cases y <;> rfl
  | _ => rfl
def eCvi (d : Nat) (q : IntKind) (σ : St) : AV → Option St
  | .d (.i _ n) => if q = .u8 then some (σ.set d (.d (.u (UInt8.ofNat (n % 256).toNat)))) else some (σ.set d (.d (.i q (q.wrap n))))
  | .d (.u b) => if q = .u8 then some (σ.set d (.d (.u b))) else some (σ.set d (.d (.i q (q.wrap b.toNat))))
  | _ => none
theorem cvi_i (q r : IntKind) (m : Int) : eCvi d q σ (.d (.i r m)) = if q = .u8 then some (σ.set d (.d (.u (UInt8.ofNat (m % 256).toNat)))) else some (σ.set d (.d (.i q (q.wrap m)))) := rfl
theorem cvi_u (q : IntKind) (b : UInt8) : eCvi d q σ (.d (.u b)) = if q = .u8 then some (σ.set d (.d (.u b))) else some (σ.set d (.d (.i q (q.wrap b.toNat)))) := rfl
theorem k_cvi (q : IntKind) (x : O) : kstep X (.cvi d q x) σ = eCvi d q σ (σ.op x) := by
  simp only [kstep]
  cases σ.op x with
  | d y => cases y <;> rfl
  | _ => rfl
def eS2b (d : Nat) (σ : St) : AV → Option St
  | .d (.s l) => some ((σ.new (nid d) (.ls .u8 false l 0 [])).set d (.h (nid d) 0 l.length))
  | _ => none
theorem s2b_s (l : List UInt8) : eS2b d σ (.d (.s l)) = some ((σ.new (nid d) (.ls .u8 false l 0 [])).set d (.h (nid d) 0 l.length)) := rfl
theorem k_s2b (x : O) : kstep X (.s2b d x) σ = eS2b d σ (σ.op x) := by
  simp only [kstep]
  cases σ.op x with
  | d y => cases y <;> rfl
  | _ => rfl
def eNchk (d : Nat) (σ : St) : AV → Option St
  | .p o i j => some (σ.set d (.p o i j))
  | .rp o cs => some (σ.set d (.rp o cs))
  | .rf v => some (σ.set d (.rf v))
  | _ => none
theorem nchk_p : eNchk d σ (.p o i j) = some (σ.set d (.p o i j)) := rfl
theorem nchk_rp (q : Option Nat) (cs : List D) : eNchk d σ (.rp q cs) = some (σ.set d (.rp q cs)) := rfl
theorem nchk_rf : eNchk d σ (.rf v) = some (σ.set d (.rf v)) := rfl
theorem k_nchk (x : O) : kstep X (.nchk d x) σ = eNchk d σ (σ.op x) := by simp only [kstep]; cases σ.op x <;> rfl
def eMm (d : Nat) (big : Bool) (σ : St) (x y : AV) : Option St := match x, y with
  | .d (.i k a), .d (.i k' b) => if k = k' ∧ k ≠ .u8 then some (σ.set d (.d (.i k (if big then max a b else min a b)))) else none
  | _, _ => none
theorem mm_i (big : Bool) (q r : IntKind) (a b : Int) : eMm d big σ (.d (.i q a)) (.d (.i r b)) = if q = r ∧ q ≠ .u8 then some (σ.set d (.d (.i q (if big then max a b else min a b)))) else none := rfl
theorem k_mm (big : Bool) (x y : O) : kstep X (.mm d big x y) σ = eMm d big σ (σ.op x) (σ.op y) := rfl
def ePick (d : Nat) (σ : St) (c a b : AV) : Option St := match c with | .d (.b t) => some (σ.set d (pickV t a b)) | _ => none
theorem pick_b (b : Bool) : ePick d σ (.d (.b b)) v w = some (σ.set d (pickV b v w)) := rfl
theorem k_pick (c a b : O) : kstep X (.pick d c a b) σ = ePick d σ (σ.op c) (σ.op a) (σ.op b) := rfl
def mkN (d : Nat) (t : T) (bytes : Nat) (σ : St) (n : Int) : Option St := if 0 ≤ n ∧ n * bytes ≤ 140737488355328 then
  some ((σ.new (nid d) (.ls t false (List.replicate n.toNat t.zero) 0 [])).set d (.h (nid d) 0 n.toNat)) else none
theorem mkN_eq (bytes : Nat) (m : Int) : mkN d t bytes σ m = if 0 ≤ m ∧ m * bytes ≤ 140737488355328 then
  some ((σ.new (nid d) (.ls t false (List.replicate m.toNat t.zero) 0 [])).set d (.h (nid d) 0 m.toNat)) else none := rfl
def eMk (d : Nat) (t : T) (bytes : Nat) (σ : St) (n : AV) : Option St := (asInt' n).bind (mkN d t bytes σ)
theorem mk_eq (bytes : Nat) : eMk d t bytes σ v = (asInt' v).bind (mkN d t bytes σ) := rfl
theorem k_mk (bytes : Nat) (x : O) : kstep X (.mk d t bytes x) σ = eMk d t bytes σ (σ.op x) := rfl
-- append
def tlP (σ : St) (t : T) (l : List t.den) : List t.den × St := (l, σ)
theorem tlP_eq (l : List t.den) : tlP σ t l = (l, σ) := rfl
theorem tl_nil : tailOf t fz σ (.nil t) = some ([], σ) := rfl
theorem tl_nil' (u : T) : tailOf t fz σ (.nil u) = some ([], σ) := rfl
theorem tl_sl (l : List t.den) : tailOf t fz σ (.d (.sl t l)) = if t.flat || fz then some (l, σ) else none := by simp only [tailOf, castL_self]; rfl
theorem tl_s (l : List UInt8) : tailOf .u8 fz σ (.d (.s l)) = some (l, σ) := by simp only [tailOf]; erw [castL_self]; rfl
theorem tl_vw (l : List t.den) : tailOf t fz σ (.vw o (.sl t l)) = if t.flat then some (l, σ) else none := by simp only [tailOf, castL_self]; rfl
def tlO (t : T) (fz : Bool) (σ : St) (o off n : Nat) : Ob → Option (List t.den × St)
  | .ls t' fz' l k hs => if t.flat then (castL t' t ((l.drop off).take n)).map fun l => (l, σ)
      else if k ≤ off ∧ hs.isEmpty = true ∧ fz' = fz then (castL t' t ((l.drop off).take n)).map fun l' => (l', σ.turn o (.ls t' fz' l (off + n) hs))
      else none
  | .fn _ => none
theorem tlO_ls (b : Bool) (l : List t.den) : tlO t fz σ o off n (.ls t b l k hs) = if t.flat then some ((l.drop off).take n, σ)
      else if k ≤ off ∧ hs.isEmpty = true ∧ b = fz then some ((l.drop off).take n, σ.turn o (.ls t b l (off + n) hs)) else none := by simp only [tlO, castL_self]; rfl
theorem tl_h : tailOf t fz σ (.h o off n) = (klook σ.objs o).bind (tlO t fz σ o off n) := by simp only [tailOf]; congr 1
def apO (d : Nat) (t : T) (fz : Bool) (bytes : Nat) (new : List t.den) (σ : St) (o off n : Nat) : Ob → Option St
  | .ls t' fz' l k hs => if off = 0 ∧ k = 0 ∧ hs.isEmpty = true ∧ (t.flat || fz' == fz) = true ∧ n ≤ l.length ∧ (n + new.length) * bytes ≤ 140737488355328 then
        (castL t' t (l.take n)).map fun old => (((σ.gone o).new (nid d) (.ls t fz (old ++ new) 0 [])).set d (.h (nid d) 0 (n + new.length)))
      else none
  | .fn _ => none
theorem apO_ls (bytes : Nat) (new l : List t.den) (b : Bool) : apO d t fz bytes new σ o off n (.ls t b l k hs) = if off = 0 ∧ k = 0 ∧ hs.isEmpty = true ∧ (t.flat || b == fz) = true ∧ n ≤ l.length ∧ (n + new.length) * bytes ≤ 140737488355328 then
        some (((σ.gone o).new (nid d) (.ls t fz (l.take n ++ new) 0 [])).set d (.h (nid d) 0 (n + new.length))) else none := by simp only [apO, castL_self]; rfl
theorem ap_nil (bytes : Nat) (new : List t.den) (u : T) : appTo d t fz bytes new σ (.nil u) = if new.length * bytes ≤ 140737488355328 then some ((σ.new (nid d) (.ls t fz new 0 [])).set d (.h (nid d) 0 new.length)) else none := rfl
theorem ap_h (bytes : Nat) (new : List t.den) : appTo d t fz bytes new σ (.h o off n) = (klook σ.objs o).bind (apO d t fz bytes new σ o off n) := by simp only [appTo]; congr 1
def apQ (d : Nat) (t : T) (fz : Bool) (bytes : Nat) (x : AV) (q : List t.den × St) : Option St := appTo d t fz bytes q.1 q.2 x
theorem apQ_eq (bytes : Nat) (q : List t.den × St) : apQ d t fz bytes v q = appTo d t fz bytes q.1 q.2 v := rfl
def eApp (d : Nat) (t : T) (fz : Bool) (bytes : Nat) (σ : St) (x y : AV) : Option St := (tailOf t fz σ y).bind (apQ d t fz bytes x)
theorem app_eq (bytes : Nat) : eApp d t fz bytes σ v w = (tailOf t fz σ w).bind (apQ d t fz bytes v) := rfl
theorem k_app (bytes : Nat) (x y : O) : kstep X (.app d t fz bytes x y) σ = eApp d t fz bytes σ (σ.op x) (σ.op y) := rfl
-- boxes and built values
def bxV (d : Nat) (t : T) (fz : Bool) (σ : St) (v : t.den) : St := (σ.new (nid d) (.ls t fz [v] 0 [])).set d (.p (nid d) 0 0)
theorem bxV_eq (x : t.den) : bxV d t fz σ x = (σ.new (nid d) (.ls t fz [x] 0 [])).set d (.p (nid d) 0 0) := rfl
def bxQ (d : Nat) (t : T) (fz : Bool) (q : List D × St) : Option St := (mkT t q.1).map (bxV d t fz q.2)
theorem bxQ_eq (l : List D) : bxQ d t fz (l, σ) = (mkT t l).map (bxV d t fz σ) := rfl
def eBx (d : Nat) (t : T) (fz : Bool) (σ : St) (v : AV) : Option St := (cellsOf fz v.cells σ).bind (bxQ d t fz)
theorem bx_eq : eBx d t fz σ v = (cellsOf fz v.cells σ).bind (bxQ d t fz) := rfl
theorem k_bx (x : O) : kstep X (.bx d t fz x) σ = eBx d t fz σ (σ.op x) := rfl
def blV (d : Nat) (t : T) (σ : St) (h : Hs) (v : t.den) : St := (σ.new (nid d) (.ls t false [v] 0 h)).set d (.p (nid d) 0 0)
theorem blV_eq (h : Hs) (x : t.den) : blV d t σ h x = (σ.new (nid d) (.ls t false [x] 0 h)).set d (.p (nid d) 0 0) := rfl
def blQ (d : Nat) (t : T) (σ : St) (q : List (D × Option Nat)) : Option St := if lends (nid d) (lendH 0 0 q) = false then (mkT t (q.map Prod.fst)).map (blV d t σ (lendH 0 0 q)) else none
theorem blQ_eq (q : List (D × Option Nat)) : blQ d t σ q = if lends (nid d) (lendH 0 0 q) = false then (mkT t (q.map Prod.fst)).map (blV d t σ (lendH 0 0 q)) else none := rfl
def eBxl (d : Nat) (t : T) (σ : St) (v : AV) : Option St := (allOf (lendC σ) v.cells).bind (blQ d t σ)
theorem bxl_eq : eBxl d t σ v = (allOf (lendC σ) v.cells).bind (blQ d t σ) := rfl
theorem k_bxl (x : O) : kstep X (.bxl d t x) σ = eBxl d t σ (σ.op x) := rfl
theorem parts_agg (l : List AV) : AV.parts (.agg l) = some l := rfl
theorem parts_d (x : D) : AV.parts (.d x) = some [.d x] := rfl
theorem parts_nil : AV.parts (.nil t) = some [.nil t] := rfl
theorem parts_h : AV.parts (.h o off n) = some [.h o off n] := rfl
theorem parts_vw (x : D) : AV.parts (.vw o x) = some [.vw o x] := rfl
theorem parts_p : AV.parts (.p o i j) = some [.p o i j] := rfl
theorem parts_rp (q : Option Nat) (x : List D) : AV.parts (.rp q x) = some [.rp q x] := rfl
theorem parts_rf : AV.parts (.rf v) = some [.rf v] := rfl
theorem parts_clo (f : Nat) (l : List AV) : AV.parts (.clo f l) = some [.clo f l] := rfl
def trip (a b : Nat) (l : List AV) : Nat × Nat × List AV := (a, b, l)
theorem trip_eq (a b : Nat) (l : List AV) : trip a b l = (a, b, l) := rfl
def bdP (σ : St) (q : Nat × Nat × O) : Option (Nat × Nat × List AV) := ((σ.op q.2.2).parts).map (trip q.1 q.2.1)
theorem bdP_eq (a b : Nat) (x : O) : bdP σ (a, b, x) = ((σ.op x).parts).map (trip a b) := rfl
def bdS (d : Nat) (σ : St) (r : List AV) : St := σ.set d (.agg r)
theorem bdS_eq (r : List AV) : bdS d σ r = σ.set d (.agg r) := rfl
def bdL (d : Nat) (z : List AV) (σ : St) (l : List (Nat × Nat × List AV)) : Option St := (fillO z l).map (bdS d σ)
theorem bdL_eq (l : List (Nat × Nat × List AV)) : bdL d vs σ l = (fillO vs l).map (bdS d σ) := rfl
theorem k_bd (z : List AV) (qs : List (Nat × Nat × O)) : kstep X (.bd d z qs) σ = (allOf (bdP σ) qs).bind (bdL d z σ) := rfl
def bsP (σ : St) (w : Nat) (q : Nat × O) : Option (Nat × Nat × List AV) := ((σ.op q.2).parts).map (trip (q.1 * w) w)
theorem bsP_eq (a b : Nat) (x : O) : bsP σ b (a, x) = ((σ.op x).parts).map (trip (a * b) b) := rfl
def bsV (d : Nat) (t : T) (fz : Bool) (n : Nat) (σ : St) (l : List t.den) : St := (σ.new (nid d) (.ls t fz l 0 [])).set d (.h (nid d) 0 n)
theorem bsV_eq (l : List t.den) : bsV d t fz n σ l = (σ.new (nid d) (.ls t fz l 0 [])).set d (.h (nid d) 0 n) := rfl
def bsQ (d : Nat) (t : T) (fz : Bool) (n zl : Nat) (q : List D × St) : Option St := if zl = t.w ∧ q.1.length = n * t.w then (allOf (mkT t) (chunks t.w n q.1)).map (bsV d t fz n q.2) else none
theorem bsQ_eq (m : Nat) (l : List D) : bsQ d t fz n m (l, σ) = if m = t.w ∧ l.length = n * t.w then (allOf (mkT t) (chunks t.w n l)).map (bsV d t fz n σ) else none := rfl
def bsR (d : Nat) (t : T) (fz : Bool) (n zl : Nat) (σ : St) (r : List AV) : Option St := (cellsOf fz r σ).bind (bsQ d t fz n zl)
theorem bsR_eq (m : Nat) : bsR d t fz n m σ vs = (cellsOf fz vs σ).bind (bsQ d t fz n m) := rfl
def bsL (d : Nat) (t : T) (fz : Bool) (n : Nat) (z : List AV) (σ : St) (l : List (Nat × Nat × List AV)) : Option St := (fillO (List.replicate n z).flatten l).bind (bsR d t fz n z.length σ)
theorem bsL_eq (l : List (Nat × Nat × List AV)) : bsL d t fz n vs σ l = (fillO (List.replicate n vs).flatten l).bind (bsR d t fz n vs.length σ) := rfl
theorem k_bs (z : List AV) (qs : List (Nat × O)) : kstep X (.bs d t fz n z qs) σ = (allOf (bsP σ t.w) qs).bind (bsL d t fz n z σ) := rfl
def bzV (d : Nat) (t : T) (σ : St) (l : List t.den) : St := σ.set d (.d (.sl t l))
theorem bzV_eq (l : List t.den) : bzV d t σ l = σ.set d (.d (.sl t l)) := rfl
def bzQ (d : Nat) (t : T) (n zl : Nat) (σ : St) (l : List D) : Option St := if zl = t.w ∧ l.length = n * t.w then (allOf (mkT t) (chunks t.w n l)).map (bzV d t σ) else none
theorem bzQ_eq (m : Nat) (l : List D) : bzQ d t n m σ l = if m = t.w ∧ l.length = n * t.w then (allOf (mkT t) (chunks t.w n l)).map (bzV d t σ) else none := rfl
def bzR (d : Nat) (t : T) (n zl : Nat) (σ : St) (r : List AV) : Option St := (allOf plainD r).bind (bzQ d t n zl σ)
theorem bzR_eq (m : Nat) : bzR d t n m σ vs = (allOf plainD vs).bind (bzQ d t n m σ) := rfl
def bzL (d : Nat) (t : T) (n : Nat) (z : List AV) (σ : St) (l : List (Nat × Nat × List AV)) : Option St := (fillO (List.replicate n z).flatten l).bind (bzR d t n z.length σ)
theorem bzL_eq (l : List (Nat × Nat × List AV)) : bzL d t n vs σ l = (fillO (List.replicate n vs).flatten l).bind (bzR d t n vs.length σ) := rfl
theorem k_bsz (z : List AV) (qs : List (Nat × O)) : kstep X (.bsz d t n z qs) σ = (allOf (bsP σ t.w) qs).bind (bzL d t n z σ) := rfl
theorem pd_i (k : IntKind) (n : Int) : plainD (.d (.i k n)) = some (.i k n) := rfl
theorem pd_u (n : UInt8) : plainD (.d (.u n)) = some (.u n) := rfl
theorem pd_b (n : Bool) : plainD (.d (.b n)) = some (.b n) := rfl
theorem pd_s (n : List UInt8) : plainD (.d (.s n)) = some (.s n) := rfl
-- regions
def anK (A B K L : List Nat) (i : I) (σ : St) : Option St := if postB A B K L i σ = true then some σ else none
theorem anK_eq (A B K L : List Nat) (i : I) : anK A B K L i σ = if postB A B K L i σ = true then some σ else none := rfl
theorem k_an (A B K L : List Nat) (i : I) : kstep X (.an A B K L i) σ = if preB A B K L i σ = true then (kstep X i σ).bind (anK A B K L i) else none := rfl
-- calls
def argF (q : (t : T) × Bool × List t.den) : AV := .d (.sl q.1 q.2.2)
theorem argF_eq (q : (t : T) × Bool × List t.den) : argF q = .d (.sl q.1 q.2.2) := rfl
def argH (σ : St) (o off m : Nat) : Option Nat → Option AV
  | some k => some (.h k off m)
  | none => (rowsOf σ o off m).map argF
theorem argH_s : argH σ o off n (some k) = some (.h k off n) := rfl
theorem argH_n : argH σ o off n none = (rowsOf σ o off n).map argF := rfl
def rpC (cs : List D) : AV := .rp none cs
theorem rpC_eq (cs : List D) : rpC cs = .rp none cs := rfl
def rowC : CV → Option D
  | .d x => some x
  | .own x => some x
  | _ => none
theorem rowC_d (x : D) : rowC (.d x) = some x := rfl
theorem rowC_own (x : D) : rowC (.own x) = some x := rfl
theorem rowC_lent : rowC (.lent o) = none := rfl
theorem rowC_junk : rowC .junk = none := rfl
theorem rowD_eq (cs : List D) : rowD k hs i j cs = allOf rowC (cvs false k hs i j (cs.drop j)) := by unfold rowD; congr 1
def argX (k : Nat) (hs : Hs) (i j : Nat) (t : T) (x : t.den) : Option AV := (rowD k hs i j (cellsT t x)).map rpC
theorem argX_eq (x : t.den) : argX k hs i j t x = (rowD k hs i j (cellsT t x)).map rpC := rfl
def argO (σ : St) (ps : List Nat) (n : Fu) (i j : Nat) : Ob → Option AV
  | .ls t _ l k hs => (l[i]?).bind (argX k hs i j t)
  | .fn u => if i = 0 ∧ j = 0 then (σ.arg ps n u).map .rf else none
theorem argO_ls (m : Fu) (l : List t.den) : argO σ ps m i j (.ls t fz l k hs) = (l[i]?).bind (argX k hs i j t) := rfl
theorem argO_fn (m : Fu) (u : AV) : argO σ ps m 0 0 (.fn u) = (σ.arg ps m u).map .rf := rfl
def argP (σ : St) (ps : List Nat) (n : Fu) (o i j : Nat) : Option Nat → Option AV
  | some k => some (.p k i j)
  | none => (klook σ.objs o).bind (argO σ ps n i j)
theorem argP_s (m : Fu) : argP σ ps m o i j (some k) = some (.p k i j) := rfl
theorem argP_n (m : Fu) : argP σ ps m o i j none = (klook σ.objs o).bind (argO σ ps m i j) := rfl
theorem arg_d (m : Fu) (x : D) : σ.arg ps (.s m) (.d x) = some (.d x) := rfl
theorem arg_nil (m : Fu) : σ.arg ps (.s m) (.nil t) = some (.nil t) := rfl
theorem arg_vw (m : Fu) (x : D) : σ.arg ps (.s m) (.vw o x) = if place ps o = none then some (.d x) else none := rfl
theorem arg_h (m : Fu) : σ.arg ps (.s m) (.h o off n) = argH σ o off n (place ps o) := by simp only [St.arg]; cases place ps o <;> rfl
theorem arg_p (m : Fu) : σ.arg ps (.s m) (.p o i j) = argP σ ps m o i j (place ps o) := by
  simp only [St.arg]; cases place ps o
  · simp only [argP]; congr 1
  · rfl
theorem arg_rpn (m : Fu) (cs : List D) : σ.arg ps (.s m) (.rp none cs) = some (.rp none cs) := rfl
theorem arg_rps (m : Fu) (cs : List D) : σ.arg ps (.s m) (.rp (some o) cs) = if place ps o = none then some (.rp none cs) else none := rfl
theorem arg_rf (m : Fu) : σ.arg ps (.s m) (.rf v) = (σ.arg ps m v).map .rf := rfl
theorem arg_agg (m : Fu) : σ.arg ps (.s m) (.agg vs) = (allOf (σ.arg ps m) vs).map .agg := rfl
theorem arg_clo (m : Fu) (f : Nat) : σ.arg ps (.s m) (.clo f vs) = (allOf (σ.arg ps m) vs).map (.clo f) := rfl
def paO (σ : St) (o : Nat) (ps : List Nat) (ob : Ob) : Option (List Ob) := if ob.closed && (place ps o == none) then (passed σ ps).map (List.cons ob) else none
theorem paO_eq (ob : Ob) : paO σ o ps ob = if ob.closed && (place ps o == none) then (passed σ ps).map (List.cons ob) else none := rfl
theorem pa_nil : passed σ [] = some [] := rfl
theorem pa_cons : passed σ (o :: ps) = (klook σ.objs o).bind (paO σ o ps) := rfl
def cdS (d : Nat) (q : AV × St) : St := q.2.set d q.1
theorem cdS_eq : cdS d (v, σ) = σ.set d v := rfl
def cdK (d : Nat) (fz : Bool) (r : RV) (σ : St) : Option St := (r.opened fz (nid (1000 * (d + 1))) σ).map (cdS d)
theorem cdK_eq (r : RV) : cdK d fz r σ = (r.opened fz (nid (1000 * (d + 1))) σ).map (cdS d) := rfl
theorem called_eq (b : Bool) (obs : List (Option Ob)) (r : RV) : called d fz ps b σ (obs, r) = if (r.free && obs.all obFree) || b then (backs ps obs σ).bind (cdK d fz r) else none := rfl
def caO (X : XF) (d : Nat) (fz : Bool) (ps : List Nat) (b : Bool) (σ : St) (f : Nat) (us : List AV) (obs : List Ob) : Option St := (X f us obs).bind (called d fz ps b σ)
theorem caO_eq (b : Bool) (f : Nat) (obs : List Ob) : caO X d fz ps b σ f vs obs = (X f vs obs).bind (called d fz ps b σ) := rfl
def caA (X : XF) (d : Nat) (fz : Bool) (ps : List Nat) (b : Bool) (σ : St) (f : Nat) (us : List AV) : Option St := (passed σ ps).bind (caO X d fz ps b σ f us)
theorem caA_eq (b : Bool) (f : Nat) : caA X d fz ps b σ f vs = (passed σ ps).bind (caO X d fz ps b σ f vs) := rfl
def caL (X : XF) (d : Nat) (fz : Bool) (ps : List Nat) (σ : St) (f : Nat) (l : List AV) : Option St := (allOf (σ.arg ps fu6) l).bind (caA X d fz ps (AV.frPL ps l) σ f)
theorem caL_eq (f : Nat) : caL X d fz ps σ f vs = (allOf (σ.arg ps fu6) vs).bind (caA X d fz ps (AV.frPL ps vs) σ f) := rfl
def eCall (X : XF) (d : Nat) (fz : Bool) (ps : List Nat) (args : List AV) (σ : St) : AV → Option St
  | .clo f caps => caL X d fz ps σ f (args ++ caps)
  | _ => none
theorem call_clo (f : Nat) (caps : List AV) : eCall X d fz ps vs σ (.clo f caps) = caL X d fz ps σ f (vs ++ caps) := rfl
theorem k_call (f : O) (args : List O) : kstep X (.call d fz ps f args) σ = eCall X d fz ps (args.map σ.op) σ (σ.op f) := by simp only [kstep]; cases σ.op f <;> rfl
def eGd (X : XF) (want : Bool) (d : Option Nat) (i : I) (σ : St) : AV → Option St
  | .d (.b t) => if t = want then kstep X i σ else some (skipped d σ)
  | .tup [] => some (skipped d σ)
  | _ => none
theorem gd_b (b want : Bool) (q : Option Nat) (i : I) : eGd X want q i σ (.d (.b b)) = if b = want then kstep X i σ else some (skipped q σ) := rfl
theorem gd_t (want : Bool) (q : Option Nat) (i : I) : eGd X want q i σ (.tup []) = some (skipped q σ) := rfl
theorem k_gd (g : Nat) (want : Bool) (q : Option Nat) (i : I) : kstep X (.gd g want q i) σ = eGd X want q i σ (σ.reg g) := by
  simp only [kstep]
  cases σ.reg g with
  | d y => cases y <;> rfl
  | tup l => cases l <;> rfl
  | _ => rfl
def eOpn (t o : Nat) (fz : Bool) (σ : St) : AV → Option St
  | .nil ty => some ((σ.new (nid o) (.ls ty fz [] 0 [])).set t (.h (nid o) 0 0))
  | _ => none
theorem opn_nil (m : Nat) : eOpn m o fz σ (.nil t) = some ((σ.new (nid o) (.ls t fz [] 0 [])).set m (.h (nid o) 0 0)) := rfl
theorem k_opn (m : Nat) : kstep X (.opn m o fz) σ = eOpn m o fz σ (σ.reg m) := by simp only [kstep]; cases σ.reg m <;> rfl
def frQ (t : Nat) (σ : St) (o : Nat) (q : (t : T) × Bool × List t.den) : St := (σ.gone o).set t (.d (.sl q.1 q.2.2))
theorem frQ_eq (m : Nat) (q : (t : T) × Bool × List t.den) : frQ m σ o q = (σ.gone o).set m (.d (.sl q.1 q.2.2)) := rfl
def frC (t : Nat) (σ : St) (o : Nat) (cs : List D) : St := (σ.gone o).set t (.rp none cs)
theorem frC_eq (m : Nat) (cs : List D) : frC m σ o cs = (σ.gone o).set m (.rp none cs) := rfl
def frX (d : Nat) (σ : St) (o k : Nat) (hs : Hs) (i j : Nat) (t : T) (x : t.den) : Option St := (rowD k hs i j (cellsT t x)).map (frC d σ o)
theorem frX_eq (d : Nat) (x : t.den) : frX d σ o k hs i j t x = (rowD k hs i j (cellsT t x)).map (frC d σ o) := rfl
def frO (d : Nat) (σ : St) (o i j : Nat) : Ob → Option St
  | .ls t _ l k hs => (l[i]?).bind (frX d σ o k hs i j t)
  | .fn _ => some σ
theorem frO_ls (d : Nat) (l : List t.den) : frO d σ o i j (.ls t fz l k hs) = (l[i]?).bind (frX d σ o k hs i j t) := rfl
def eFrz (t : Nat) (σ : St) : AV → Option St
  | .h o off n => (rowsOf σ o off n).map (frQ t σ o)
  | .nil ty => some (σ.set t (.d (.sl ty [])))
  | .p o i j => (klook σ.objs o).bind (frO t σ o i j)
  | _ => some σ
theorem frz_h (m : Nat) : eFrz m σ (.h o off n) = (rowsOf σ o off n).map (frQ m σ o) := rfl
theorem frz_nil (m : Nat) : eFrz m σ (.nil t) = some (σ.set m (.d (.sl t []))) := rfl
theorem frz_d (m : Nat) (x : D) : eFrz m σ (.d x) = some σ := rfl
theorem frz_tup (m : Nat) : eFrz m σ (.tup vs) = some σ := rfl
theorem frz_agg (m : Nat) : eFrz m σ (.agg vs) = some σ := rfl
theorem frz_p (m : Nat) : eFrz m σ (.p o i j) = (klook σ.objs o).bind (frO m σ o i j) := rfl
theorem k_frz (m : Nat) : kstep X (.frz m) σ = eFrz m σ (σ.reg m) := by
  simp only [kstep]
  cases σ.reg m with
  | p o i j => simp only [eFrz]; congr 1
  | _ => rfl
def eBxf (d : Nat) (σ : St) : AV → Option St
  | .clo f l => if AV.blindL l = true ∧ AV.refsL (nid d) l = false then some ((σ.new (nid d) (.fn (.clo f l))).set d (.p (nid d) 0 0)) else none
  | _ => none
theorem bxf_clo (f : Nat) : eBxf d σ (.clo f vs) = if AV.blindL vs = true ∧ AV.refsL (nid d) vs = false then some ((σ.new (nid d) (.fn (.clo f vs))).set d (.p (nid d) 0 0)) else none := rfl
theorem k_bxf (x : O) : kstep X (.bxf d x) σ = eBxf d σ (σ.op x) := by simp only [kstep]; cases σ.op x <;> rfl
-- what comes back
theorem fr_fz (x : D) : RC.free (.fz x) = x.scalar := rfl
theorem fr_own (x : D) : RC.free (.own x) = true := rfl
theorem rcv_fz (x : D) : RC.cv fz (.fz x) = .d x := rfl
theorem rcv_ot (x : D) : RC.cv true (.own x) = .d x := rfl
theorem rcv_bf (t : T) (f : Bool) (x : t.den) : RC.cv false (.bx t f x) = .pb t f x := rfl
theorem rcv_of (x : D) : RC.cv false (.own x) = .own x := rfl
def opQ (q : List AV × St) : Option (AV × St) := match q.1 with | [v] => some (v, q.2) | _ => none
theorem opQ_eq : opQ ([v], σ) = some (v, σ) := rfl
theorem op1_one (id : Nat) (c : RC) : RV.openOne fz id σ (.one c) = (takeL id [c.cv fz] σ).bind opQ := rfl
def agQ (q : List AV × St) : AV × St := (.agg q.1, q.2)
theorem agQ_eq (l : List AV) : agQ (l, σ) = (.agg l, σ) := rfl
theorem op1_agg (id : Nat) (l : List RC) : RV.openOne fz id σ (.agg l) = if l.length ≤ 16 then (takeL id (l.map (RC.cv fz)) σ).map agQ else none := rfl
theorem ot_nil (id : Nat) : openTup fz id [] σ = some ([], σ) := rfl
def otR (fz : Bool) (id : Nat) (l : List RV) (r : AV × St) : Option (List AV × St) := (openTup fz id l r.2).map (consV r.1)
theorem otR_eq (id : Nat) (l : List RV) : otR fz id l (v, σ) = (openTup fz id l σ).map (consV v) := rfl
theorem ot_cons (id : Nat) (r : RV) (l : List RV) : openTup fz id (r :: l) σ = (r.openOne fz id σ).bind (otR fz (id + 16) l) := rfl
def tuQ (q : List AV × St) : AV × St := (.tup q.1, q.2)
theorem tuQ_eq (l : List AV) : tuQ (l, σ) = (.tup l, σ) := rfl
theorem op_tup (id : Nat) (l : List RV) : RV.opened fz id σ (.tup l) = if l.length ≤ 60 then (openTup fz id l σ).map tuQ else none := rfl
theorem op_one (id : Nat) (c : RC) : RV.opened fz id σ (.one c) = RV.openOne fz id σ (.one c) := rfl
theorem op_agg (id : Nat) (l : List RC) : RV.opened fz id σ (.agg l) = RV.openOne fz id σ (.agg l) := rfl
-- what is handed back
def rcH (fz : Bool) (σ : St) (o : Nat) (q : (t : T) × Bool × List t.den) : RC × St := if fz || (q.2.1 && !q.1.flat) then (.fz (.sl q.1 q.2.2), σ.gone o) else (.own (.sl q.1 q.2.2), σ.gone o)
theorem rcH_eq (q : (t : T) × Bool × List t.den) : rcH fz σ o q = if fz || (q.2.1 && !q.1.flat) then (.fz (.sl q.1 q.2.2), σ.gone o) else (.own (.sl q.1 q.2.2), σ.gone o) := rfl
theorem rc_d (x : D) : retC fz σ (.d x) = some (.fz x, σ) := rfl
theorem rc_nil : retC fz σ (.nil t) = some (.own (.sl t []), σ) := rfl
def rcP (σ : St) (o i j : Nat) : Ob → Option (RC × St)
  | .ls t f l k hs => match l with
    | [x] => if i = 0 ∧ j = 0 ∧ k = 0 ∧ hs.isEmpty = true then some (.bx t f x, σ.gone o) else none
    | _ => none
  | .fn _ => none
theorem rcP_ls (x : t.den) : rcP σ o i j (.ls t fz [x] k hs) = if i = 0 ∧ j = 0 ∧ k = 0 ∧ hs.isEmpty = true then some (.bx t fz x, σ.gone o) else none := rfl
theorem rc_p : retC fz σ (.p o i j) = (klook σ.objs o).bind (rcP σ o i j) := by
  simp only [retC]; congr 1
theorem rc_h : retC fz σ (.h o off n) = (rowsOf σ o off n).map (rcH fz σ o) := rfl
def rcC (c : RC) (q : List RC × St) : List RC × St := (c :: q.1, q.2)
theorem rcC_eq (c : RC) (l : List RC) : rcC c (l, σ) = (c :: l, σ) := rfl
def rcQ (fz : Bool) (l : List AV) (q : RC × St) : Option (List RC × St) := (retCs fz l q.2).map (rcC q.1)
theorem rcQ_eq (c : RC) : rcQ fz vs (c, σ) = (retCs fz vs σ).map (rcC c) := rfl
theorem rcs_nil : retCs fz [] σ = some ([], σ) := rfl
theorem rcs_cons : retCs fz (v :: vs) σ = (retC fz σ v).bind (rcQ fz vs) := rfl
def rvA (q : List RC × St) : RV × St := (.agg q.1, q.2)
theorem rvA_eq (l : List RC) : rvA (l, σ) = (.agg l, σ) := rfl
def rvO (q : RC × St) : RV × St := (.one q.1, q.2)
theorem rvO_eq (c : RC) : rvO (c, σ) = (.one c, σ) := rfl
theorem rv_agg : retV fz σ (.agg vs) = (retCs fz vs σ).map rvA := rfl
theorem rv_d (x : D) : retV fz σ (.d x) = some (.one (.fz x), σ) := rfl
theorem rv_nil : retV fz σ (.nil t) = some (.one (.own (.sl t [])), σ) := rfl
theorem rv_p : retV fz σ (.p o i j) = (retC fz σ (.p o i j)).map rvO := rfl
theorem rv_h : retV fz σ (.h o off n) = (retC fz σ (.h o off n)).map rvO := rfl
theorem rr_nil : retR [] = some [] := rfl
theorem rr_d (x : D) (l : List CV) : retR (.d x :: l) = (retR l).map (List.cons (.fz x)) := rfl
theorem rr_own (x : D) (l : List CV) : retR (.own x :: l) = (retR l).map (List.cons (.own x)) := rfl
def rsP (σ : St) (o : Nat) (r : RV) : RV × St := (r, σ.gone o)
theorem rsP_eq (r : RV) : rsP σ o r = (r, σ.gone o) := rfl
def rsR (ag : Bool) (σ : St) (o : Nat) (rs : List RC) : Option (RV × St) := (packR ag rs).map (rsP σ o)
theorem rsR_eq (rs : List RC) : rsR ag σ o rs = (packR ag rs).map (rsP σ o) := rfl
def rsC (ag : Bool) (σ : St) (o i j : Nat) (fz : Bool) (k : Nat) (hs : Hs) (cs : List D) : Option (RV × St) := (retR (cvs fz k hs i j cs)).bind (rsR ag σ o)
theorem rsC_eq (cs : List D) : rsC ag σ o i j fz k hs cs = (retR (cvs fz k hs i j cs)).bind (rsR ag σ o) := rfl
def rsX (sz : Nat) (ag : Bool) (σ : St) (o i j : Nat) (t : T) (fz : Bool) (k : Nat) (hs : Hs) (x : t.den) : Option (RV × St) := (kcut (cellsT t x) j sz).bind (rsC ag σ o i j fz k hs)
theorem rsX_eq (x : t.den) : rsX sz ag σ o i j t fz k hs x = (kcut (cellsT t x) j sz).bind (rsC ag σ o i j fz k hs) := rfl
def rsO (sz : Nat) (ag : Bool) (σ : St) (o i j : Nat) : Ob → Option (RV × St)
  | .ls t f l k hs => (l[i]?).bind (rsX sz ag σ o i j t f k hs)
  | .fn _ => none
theorem rsO_ls (l : List t.den) : rsO sz ag σ o i j (.ls t fz l k hs) = (l[i]?).bind (rsX sz ag σ o i j t fz k hs) := rfl
def rsV (sz : Nat) (ag : Bool) (σ : St) : AV → Option (RV × St)
  | .p o i j => (klook σ.objs o).bind (rsO sz ag σ o i j)
  | _ => none
theorem rsV_p : rsV sz ag σ (.p o i j) = (klook σ.objs o).bind (rsO sz ag σ o i j) := rfl
theorem rs_t : resV fz σ (.t n) = retV fz σ (σ.reg n) := rfl
theorem rs_cell : resV fz σ (.cell n sz ag) = rsV sz ag σ (σ.reg n) := by
  simp only [resV]
  cases σ.reg n with
  | p o i j => simp only [rsV]; congr 1
  | _ => rfl
def rsK (r : RV) (q : List RV × St) : List RV × St := (r :: q.1, q.2)
theorem rsK_eq (r : RV) (l : List RV) : rsK r (l, σ) = (r :: l, σ) := rfl
def rsQ (fz : Bool) (l : List Res) (q : RV × St) : Option (List RV × St) := (resVs fz l q.2).map (rsK q.1)
theorem rsQ_eq (l : List Res) (r : RV) : rsQ fz l (r, σ) = (resVs fz l σ).map (rsK r) := rfl
theorem rss_nil : resVs fz [] σ = some ([], σ) := rfl
theorem rss_cons (r : Res) (l : List Res) : resVs fz (r :: l) σ = (resV fz σ r).bind (rsQ fz l) := rfl
def bkO : Option Ob → Option Ob
  | some ob => if ob.closed then some ob else none
  | none => none
theorem bkO_n : bkO none = none := rfl
theorem bkO_s (ob : Ob) : bkO (some ob) = if ob.closed then some ob else none := rfl
theorem bk_0 : backObs σ k 0 = [] := rfl
theorem bk_s : backObs σ k (n + 1) = bkO (klook σ.objs k) :: backObs σ (k + 1) n := by simp only [backObs]; cases klook σ.objs k <;> rfl
def enK (n : Nat) (q : List RV × St) : List (Option Ob) × RV := (backObs q.2 0 n, tupled q.1)
theorem enK_eq (l : List RV) : enK n (l, σ) = (backObs σ 0 n, tupled l) := rfl
theorem ended_n (fn : Fn) : ended fn n (.n, σ) = (resVs fn.fz fn.res σ).map (enK n) := rfl
theorem ended_r (fn : Fn) : ended fn n (.ret, σ) = (resVs fn.fz fn.res σ).map (enK n) := rfl
theorem ended_x (fn : Fn) (id : Nat) : ended fn n (.ex id, σ) = none := rfl
def postK (X : XF) (is : List I) (σ : St) : Option (Ex × St) := (krun X is σ).map goN
theorem postK_eq (is : List I) : postK X is σ = (krun X is σ).map goN := rfl
theorem post_eq (is : List I) (c : C) : DL X (.post c is) σ = (DL X c σ).bind (andThen (postK X is)) := by rw [DL_post]; rfl
end last
attribute [simp] neg_i k_neg cvi_i cvi_u k_cvi s2b_s k_s2b nchk_p nchk_rp nchk_rf k_nchk mm_i k_mm pick_b k_pick mkN_eq mk_eq k_mk tlP_eq tl_nil tl_nil' tl_sl tl_s tl_vw tlO_ls tl_h apO_ls ap_nil ap_h apQ_eq app_eq k_app bxV_eq bxQ_eq bx_eq k_bx blV_eq blQ_eq bxl_eq k_bxl parts_agg parts_d parts_nil parts_h parts_vw parts_p parts_rp parts_rf parts_clo trip_eq bdP_eq bdS_eq bdL_eq k_bd bsP_eq bsV_eq bsQ_eq bsR_eq bsL_eq k_bs bzV_eq bzQ_eq bzR_eq bzL_eq k_bsz pd_i pd_u pd_b pd_s anK_eq k_an argF_eq argH_s argH_n rpC_eq rowC_d rowC_own rowC_lent rowC_junk rowD_eq argX_eq argO_ls argO_fn argP_s argP_n arg_d arg_nil arg_vw arg_h arg_p arg_rpn arg_rps arg_rf arg_agg arg_clo paO_eq pa_nil pa_cons cdS_eq cdK_eq called_eq caO_eq caA_eq caL_eq call_clo k_call gd_b gd_t k_gd opn_nil k_opn frQ_eq frC_eq frX_eq frO_ls frz_p frz_h frz_nil frz_d frz_tup frz_agg k_frz bxf_clo k_bxf fr_fz fr_own rcv_fz rcv_ot rcv_of rcv_bf opQ_eq op1_one agQ_eq op1_agg ot_nil otR_eq ot_cons tuQ_eq op_tup op_one op_agg rcH_eq rc_d rc_nil rc_h rcP_ls rc_p rcC_eq rcQ_eq rcs_nil rcs_cons rvA_eq rvO_eq rv_agg rv_d rv_nil rv_h rv_p rr_nil rr_d rr_own rsP_eq rsR_eq rsC_eq rsX_eq rsO_ls rsV_p rs_t rs_cell rsK_eq rsQ_eq rss_nil rss_cons bkO_n bkO_s bk_0 bk_s enK_eq ended_n ended_r ended_x postK_eq post_eq
theorem k_mkf (X : XF) (d : Nat) (f : Nat) (caps : List O) (σ : St) : kstep X (.mkf d f caps) σ = some (σ.set d (.clo f (caps.map σ.op))) := rfl
theorem k_mv (X : XF) (d : Nat) (x : O) (σ : St) : kstep X (.mv d x) σ = some (σ.set d (σ.op x)) := rfl
theorem k_al (X : XF) (d : Nat) (t : T) (fz : Bool) (σ : St) : kstep X (.al d t fz) σ = some ((σ.new (nid d) (.ls t fz [t.zero] 0 [])).set d (.p (nid d) 0 0)) := rfl
theorem k_alf (X : XF) (d : Nat) (σ : St) : kstep X (.alf d) σ = some ((σ.new (nid d) (.fn .junk)).set d (.p (nid d) 0 0)) := rfl
theorem k_kill (X : XF) (l : List Nat) (σ : St) : kstep X (.kill l) σ = some (killAll l σ) := rfl
theorem k_drop (X : XF) (l : List Nat) (σ : St) : kstep X (.drop l) σ = some (dropAll l σ) := rfl
theorem k_keep (X : XF) (l : List Nat) (σ : St) : kstep X (.keep l) σ = some { σ with regs := keepAll l σ.regs } := rfl
theorem k_cls (X : XF) (o : Nat) (o2 : Nat) (σ : St) : kstep X (.cls o o2) σ = (klook σ.objs o).bind fun
      | .ls t fz l k hs => (lentAt o2 hs).bind fun q => if holeAt hs q.1 q.2 = some (some o2) ∧ o2 ≠ 63 then (klook σ.objs o2).bind fun
          | .ls t2 fz2 l2 k2 hs2 => if k2 = 0 ∧ hs2.isEmpty = true ∧ fz = false ∧ (fz2 = false ∨ t2.flat = true) ∧ o ≠ o2 ∧ k ≤ q.1 then (l[q.1]?).bind fun x =>
              (mkT t ((cellsT t x).take q.2 ++ [.sl t2 l2] ++ (cellsT t x).drop (q.2 + 1))).map fun y => (σ.gone o2).turn o (.ls t fz (l.set q.1 y) k (unlent o2 (fillH q.1 q.2 1 hs))) else none
          | .fn _ => none
        else none
      | .fn _ => none := rfl
theorem k_ren (X : XF) (o : Nat) (o' : Nat) (σ : St) : kstep X (.ren o o') σ = if o ≠ o' ∧ 64 ≤ o ∧ 64 ≤ o' then some (σ.renamed o o' (klook σ.objs o)) else some σ := rfl
attribute [simp] k_mkf k_mv k_al k_alf k_kill k_drop k_keep k_cls k_ren
attribute [simp] List.getElem?_cons_zero List.getElem?_cons_succ entered argRegs argObjs DL_r DL_skip DL_seq DL_cond condDL_b DL_blk DL_ex DL_ret DL_pre  andThen_n andThen_ex andThen_ret goN_eq outOf_n outOf_ret outOf_ex krun_nil krun_cons St.set St.op St.reg klook kput kdel killAll keepAll keepOne binV binI binU binS binSh binUS isSh  St.new St.unref St.unlook St.turn St.gone St.less dropAll AV.refs AV.refsL DL_dr preB postB apartB touchB opsI dstI rdC rdv ooL lentN psI okOp inK inN cn off AV.solid AV.names AV.namesL AV.lnames AV.lnamesL Ob.names AV.fr AV.frL AV.looks AV.looksL AV.blind AV.blindL AV.frP AV.frPL Ob.unref unlent Ob.closed place  backs  obFree  RV.free         cvs   cellsT T.w    T.zero T.flat    kcut     ite_bind' ite_map'          tupled skipped  fillO chunks   pickV  holeAt fillH nid  lendH lends   St.rename St.renamed AV.ren AV.renL rn Ob.ren renH lentAt

def tab : Nat → Option Fn := klook tabL
def x_strings_Contains_e : List AV → Option (List (Option Ob) × RV)
  | [.d (.s a), .d (.s [c])] => some ([], .one (.fz (.b (a.contains c))))
  | _ => none
def x_strings_IndexByte_e : List AV → Option (List (Option Ob) × RV)
  | [.d (.s a), .d (.u c)] => some ([], .one (.fz (.i .i64 (if a.contains c then (a.findIdx (· == c) : Int) else -1))))
  | _ => none
def joinB (sep : List UInt8) : List (List UInt8) → List UInt8
  | [] => []
  | [a] => a
  | a :: l => a ++ sep ++ joinB sep l
def x_strings_Join_e : List AV → Option (List (Option Ob) × RV)
  | [.d (.sl .str l), .d (.s sep)] => if l.length ≤ 140737488355328 ∧ (joinB sep l).length ≤ 140737488355328 then some ([], .one (.fz (.s (joinB sep l)))) else none
  | _ => none
def x_strconv_Itoa_e : List AV → Option (List (Option Ob) × RV)
  | [.d (.i .i64 n)] => if 0 ≤ n ∧ n ≤ 9223372036854775807 then some ([], .one (.fz (.s (Lib.decDigits n.toNat)))) else none
  | _ => none
def blankB (b : UInt8) : Bool := b == 32 || b == 9
def trimL (s : List UInt8) : List UInt8 := s.dropWhile blankB
def trimR (s : List UInt8) : List UInt8 := (trimL s.reverse).reverse
def x_strings_Trim_e : List AV → Option (List (Option Ob) × RV)
  | [.d (.s s), .d (.s c)] => if c = [32, 9] ∧ s.length ≤ 9223372036854775807 then some ([], .one (.fz (.s (trimL (trimR s))))) else none
  | _ => none
/-- The first place at which sep stands. -/
def idxN (sep : List UInt8) : List UInt8 → Option Nat
  | [] => if sep.isEmpty then some 0 else none
  | b :: l => if sep.isPrefixOf (b :: l) then some 0 else (idxN sep l).map (· + 1)
def idxI (sep s : List UInt8) : Int := match idxN sep s with | some i => (i : Int) | none => -1
def cutB (sep s : List UInt8) : List UInt8 × List UInt8 × Bool := match idxN sep s with | some i => (s.take i, s.drop (i + sep.length), true) | none => (s, [], false)
/-- Parts between bytes. -/
def splC (c : UInt8) : List UInt8 → List UInt8 × List (List UInt8)
  | [] => ([], [])
  | b :: r => if b = c then ([], (splC c r).1 :: (splC c r).2) else (b :: (splC c r).1, (splC c r).2)
def splitC (c : UInt8) (s : List UInt8) : List (List UInt8) := (splC c s).1 :: (splC c s).2
/-- Lines. -/
def lnC : List UInt8 → List UInt8 × List (List UInt8)
  | [] => ([], [])
  | [b] => ([b], [])
  | b :: d :: r => if b = 13 ∧ d = 10 then ([], (lnC r).1 :: (lnC r).2) else (b :: (lnC (d :: r)).1, (lnC (d :: r)).2)
def linesB (s : List UInt8) : List (List UInt8) := (lnC s).1 :: (lnC s).2
abbrev crlf : List UInt8 := [13, 10]
abbrev crlf2 : List UInt8 := [13, 10, 13, 10]
/-- What a library's Split gives: parts at one byte, or lines. -/
def splitB (sep s : List UInt8) : Option (List (List UInt8)) := match sep with | [c] => some (splitC c s) | [13, 10] => some (linesB s) | _ => none
def x_strings_Split_e : List AV → Option (List (Option Ob) × RV)
  | [.d (.s s), .d (.s c)] => if s.length < 4294967281 then (splitB c s).map fun l => ([], .one (.fz (.sl .str l))) else none
  | _ => none
def x_strings_Cut_e : List AV → Option (List (Option Ob) × RV)
  | [.d (.s s), .d (.s c)] => if s.length < 4294967281 then some ([], .tup [.one (.fz (.s (cutB c s).1)), .one (.fz (.s (cutB c s).2.1)), .one (.fz (.b (cutB c s).2.2))]) else none
  | _ => none
def x_strconv_Atoi_e : List AV → Option (List (Option Ob) × RV)
  | [.d (.s s)] => if s.length ≤ 281474976710656 then some (match Lib.atoiAll s with
    | .ok n => ([], .tup [.one (.fz (.i .i64 n)), .one (.fz (.e true))])
    | .range => ([], .tup [.one (.fz (.i .i64 (Lib.atoiSat s))), .one (.fz (.e false))])
    | _ => ([], .tup [.one (.fz (.i .i64 0)), .one (.fz (.e false))])) else none
  | _ => none
def x_strings_HasPrefix_e : List AV → Option (List (Option Ob) × RV)
  | [.d (.s s), .d (.s p)] => some ([], .one (.fz (.b (Lib.hasPrefix s p))))
  | _ => none
def x_strings_TrimLeft_e : List AV → Option (List (Option Ob) × RV)
  | [.d (.s s), .d (.s [c])] => if c.toNat < 128 then some ([], .one (.fz (.s (Lib.trimLeftB s c)))) else none
  | _ => none
def x_strings_CutPrefix_e : List AV → Option (List (Option Ob) × RV)
  | [.d (.s s), .d (.s p)] => some ([], .tup [.one (.fz (.s (Lib.trimPrefix s p))), .one (.fz (.b (Lib.hasPrefix s p)))])
  | _ => none
def x_strings_CutSuffix_e : List AV → Option (List (Option Ob) × RV)
  | [.d (.s s), .d (.s p)] => if s.length ≤ 9223372036854775807 then some ([], .tup [.one (.fz (.s (Lib.trimSuffix s p))), .one (.fz (.b (Lib.hasSuffix s p)))]) else none
  | _ => none
def extE : XF := fun f l obs => match obs with
  | [] => if f = x_strings_Contains then x_strings_Contains_e l else if f = x_strings_IndexByte then x_strings_IndexByte_e l else if f = x_strings_Join then x_strings_Join_e l else if f = x_strconv_Itoa then x_strconv_Itoa_e l else if f = x_strings_Trim then x_strings_Trim_e l else if f = x_strings_Split then x_strings_Split_e l else if f = x_strings_Cut then x_strings_Cut_e l else if f = x_strconv_Atoi then x_strconv_Atoi_e l else if f = x_strings_HasPrefix then x_strings_HasPrefix_e l else if f = x_strings_TrimLeft then x_strings_TrimLeft_e l else if f = x_strings_CutPrefix then x_strings_CutPrefix_e l else if f = x_strings_CutSuffix then x_strings_CutSuffix_e l else none
  | _ => none
noncomputable abbrev V : XF := evL tab extE
noncomputable def runV (fn : Fn) (n : Nat) (σ : St) : Option (List (Option Ob) × RV) := (DL V fn.body σ).bind (ended fn n)
@[simp] theorem runV_eq (fn : Fn) (n : Nat) (σ : St) : runV fn n σ = (DL V fn.body σ).bind (ended fn n) := rfl
theorem V_eq {f : Nat} {fn : Fn} (hf : tab f = some fn) (l : List AV) (obs : List Ob) : V f l obs = (entered fn l obs).bind (runV fn obs.length) := evL_eq tab extE hf l obs
end Go.Proofs.YtniakiefibpgmaaGreatDoorK
