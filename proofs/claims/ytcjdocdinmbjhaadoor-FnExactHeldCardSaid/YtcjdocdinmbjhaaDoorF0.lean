/- Reckoning with the texts. -/
import Derived.Test.YtcjdocdinmbjhaaDoorM
import Derived.Lib.ItoaNum
import Derived.Lib.Atoi
set_option linter.unusedVariables false
set_option linter.unusedSimpArgs false
namespace Go.Proofs.YtcjdocdinmbjhaaDoorK
open Go.RowKit
theorem ite_bind' {α β : Type} (c : Prop) [Decidable c] (a b : Option α) (f : α → Option β) : (if c then a else b).bind f = if c then a.bind f else b.bind f := by split <;> rfl
theorem ite_map' {α β : Type} (c : Prop) [Decidable c] (a b : Option α) (f : α → β) : (if c then a else b).map f = if c then a.map f else b.map f := by split <;> rfl
theorem wrap_id {n : Int} (h1 : -9223372036854775808 ≤ n) (h2 : n ≤ 9223372036854775807) : IntKind.i64.wrap n = n := by
  simp only [IntKind.wrap, IntKind.min, IntKind.max, IntKind.signed, IntKind.bits] at *
  simp
  try omega
theorem wrap_succ {i n : Nat} (h : i < n) (hn : n ≤ 9223372036854775807) : IntKind.i64.wrap ((i : Int) + 1) = (i : Int) + 1 := wrap_id (by omega) (by omega)
theorem wrap_b (x : UInt8) : IntKind.i64.wrap (x.toNat : Int) = (x.toNat : Int) := wrap_id (by omega) (by have := x.toNat_lt; omega)
/-- A loop, by what each round comes to. -/
theorem loop_rec {X : XF} {c : C} {α : Type} (st : α → St) (out : α → Option (Ex × St)) (μ : α → Nat) (inv : α → Prop)
    (h : ∀ a, inv a → (∃ a', DL X c (st a) = some (.n, st a') ∧ inv a' ∧ μ a' < μ a ∧ out a' = out a) ∨ (∃ q : Ex × St, q.1 ≠ .n ∧ DL X c (st a) = some q ∧ out a = some q)) :
    ∀ a, inv a → DL X (.loop c) (st a) = out a := by
  have key : ∀ (n : Nat) (a : α), μ a < n → inv a → DL X (.loop c) (st a) = out a := by
    intro n
    induction n with
    | zero => intro a h1; omega
    | succ n ih =>
      intro a h1 h2
      rw [DL_loop]
      rcases h a h2 with ⟨a', e1, e2, e3, e4⟩ | ⟨q, e1, e2, e3⟩
      · rw [e1]
        simp only [Option.bind_some, andThen]
        rw [ih a' (by omega) e2, e4]
      · obtain ⟨e, σ⟩ := q
        rw [e2, e3]
        cases e with
        | n => exact absurd rfl e1
        | ex id => rfl
        | ret => rfl
  exact fun a ha => key _ a (Nat.lt_succ_self _) ha
attribute [simp] List.getElem?_cons_zero List.getElem?_cons_succ entered argRegs argObjs DL_r DL_skip DL_seq DL_cond condDL_b DL_blk DL_ex DL_ret DL_pre DL_post andThen_n andThen_ex andThen_ret goN_eq outOf_n outOf_ret outOf_ex krun_nil krun_cons kstep St.set St.op St.reg klook kput kdel killAll keepAll keepOne binV binI binU binS binSh binUS isSh asInt' St.new St.unref St.unlook St.turn St.gone St.less dropAll AV.refs AV.refsL DL_dr preB postB apartB touchB opsI dstI rdC rdv ooL lentN psI okOp inK inN cn off AV.solid AV.names AV.namesL AV.lnames AV.lnamesL Ob.names AV.fr AV.frL AV.looks AV.looksL AV.blind AV.blindL AV.frP AV.frPL Ob.unref unlent Ob.closed place passed backs called obFree RC.free RV.free RV.opened RV.openOne openTup takeL RC.cv St.arg rowsOf rowD cvs cv D.scalar cellsT T.w mkT castL_self ofD T.zero T.flat cellsOf cellOf AV.cells kcut packed viewOf viewD allOf ite_bind' ite_map' ended resV resVs retV retC retCs retR packR backObs tupled skipped AV.parts fillO chunks tailOf appTo pickV bnds holeAt fillH nid lendC lendH lends Ob.sz Ob.len St.rename St.renamed AV.ren AV.renL rn Ob.ren renH lentAt

def tab : Nat → Option Fn := klook tabL
def x_strconv_Itoa_e : List AV → Option (List (Option Ob) × RV)
  | [.d (.i .i64 n)] => if 0 ≤ n ∧ n ≤ 9223372036854775807 then some ([], .one (.fz (.s (Lib.decDigits n.toNat)))) else none
  | _ => none
def extE : XF := fun f l obs => match obs with
  | [] => if f = x_strconv_Itoa then x_strconv_Itoa_e l else none
  | _ => none
noncomputable abbrev V : XF := evL tab extE
theorem V_eq {f : Nat} {fn : Fn} (hf : tab f = some fn) (l : List AV) (obs : List Ob) : V f l obs = (entered fn l obs).bind fun σ => (DL V fn.body σ).bind (ended fn obs.length) := evL_eq tab extE hf l obs
end Go.Proofs.YtcjdocdinmbjhaaDoorK
