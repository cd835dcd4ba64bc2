/- The abstract machine: tree data, abstract states, instructions, and how they are carried out on abstract states. -/
import Derived.Laws.AppendOwn
set_option linter.unusedVariables false
set_option linter.unusedSimpArgs false
namespace Go.Proofs.YtmccpbabpnffcaaK

/-- What one cell reads as. -/
inductive D where
  | i (k : IntKind) (n : Int)
  | b (t : Bool)
  | s (l : List UInt8)
  | sl (es : List (List D))
  | x (v : Value)

/-- What is known of a value. -/
inductive AV where
  | d (x : D)
  | nil
  | own (x : D)
  | vw (o : Nat) (x : D)
  | h (o off n : Nat)
  | p (o i j : Nat)
  | rp (o : Option Nat) (cs : List D)
  | agg (l : List AV)
  | tup (l : List AV)
  | clo (f : Nat) (l : List AV)
  | junk

/-- An object of the call's own: rows of cells. -/
structure Ob where
  sz : Nat
  es : List (List AV)

structure St where
  regs : List (Nat × AV)
  objs : List (Nat × Ob)

section lists
variable {α : Type}
def klook : List (Nat × α) → Nat → Option α
  | [], _ => none
  | (a, v) :: r, k => if k = a then some v else klook r k
def kput : List (Nat × α) → Nat → α → List (Nat × α)
  | [], k, v => [(k, v)]
  | (a, u) :: r, k, v => if k = a then (a, v) :: r else if a < k then (k, v) :: (a, u) :: r else (a, u) :: kput r k v
def kdel : List (Nat × α) → Nat → List (Nat × α)
  | [], _ => []
  | (a, u) :: r, k => if k = a then kdel r k else (a, u) :: kdel r k
/-- All at once, or nothing. -/
def allOf {β : Type} (f : α → Option β) : List α → Option (List β)
  | [] => some []
  | a :: l => (f a).bind fun b => (allOf f l).map fun r => b :: r
end lists

mutual
/-- Does a value refer to object o? -/
def AV.refs (o : Nat) : AV → Bool
  | .vw o' _ => o == o'
  | .h o' _ _ => o == o'
  | .p o' _ _ => o == o'
  | .rp (some o') _ => o == o'
  | .agg l => AV.refsL o l
  | .tup l => AV.refsL o l
  | .clo _ l => AV.refsL o l
  | _ => false
def AV.refsL (o : Nat) : List AV → Bool
  | [] => false
  | v :: l => v.refs o || AV.refsL o l
end
mutual
/-- Is a value frozen? -/
def AV.fr : AV → Bool
  | .d _ => true
  | .nil => true
  | .rp none _ => true
  | .agg l => AV.frL l
  | .clo _ l => AV.frL l
  | _ => false
def AV.frL : List AV → Bool
  | [] => true
  | v :: l => v.fr && AV.frL l
end
mutual
/-- Does a value klook into object o? -/
def AV.looks (o : Nat) : AV → Bool
  | .vw o' _ => o == o'
  | .rp (some o') _ => o == o'
  | .agg l => AV.looksL o l
  | .tup l => AV.looksL o l
  | .clo _ l => AV.looksL o l
  | _ => false
def AV.looksL (o : Nat) : List AV → Bool
  | [] => false
  | v :: l => v.looks o || AV.looksL o l
end

def D.scalar : D → Bool
  | .sl _ => false
  | _ => true
/-- A cell of an owned tree. -/
def cellOwn : D → AV
  | .sl es => .own (.sl es)
  | x => .d x
def rowO (es : List (List D)) : List (List AV) := es.map fun cs => cs.map cellOwn
def rowF (es : List (List D)) : List (List AV) := es.map fun cs => cs.map AV.d
def AV.toOwn : AV → Option D
  | .d (.i k n) => some (.i k n)
  | .d (.b t) => some (.b t)
  | .d (.s l) => some (.s l)
  | .d (.x v) => some (.x v)
  | .nil => some (.sl [])
  | .own x => some x
  | _ => none
def AV.toD : AV → Option D
  | .d x => some x
  | .nil => some (.sl [])
  | .own x => some x
  | _ => none
def ownEs (es : List (List AV)) : Option (List (List D)) := allOf (allOf AV.toOwn) es
def dEs (es : List (List AV)) : Option (List (List D)) := allOf (allOf AV.toD) es

/-- What is handed to a function. -/
inductive DA where
  | one (x : D)
  | agg (l : List D)
  | ptr (cs : List D)
  | clo (f : Nat) (l : List DA)
/-- What a function hands back. -/
inductive RV where
  | one (x : D)
  | agg (l : List D)
  | tup (l : List RV)

inductive O where
  | t (n : Nat)
  | c (v : AV)

/-- The operands' kind: numbers and texts; flags; structs of cells of these kinds (0: a number, 1: a flag, 2: a text). -/
inductive Ty where
  | num
  | flag
  | st (ks : List Nat)

inductive I where
  | mv (d : Nat) (x : O)
  | pick (d : Nat) (c a b : O)
  | al (d : Nat) (z : List AV)
  | bx (d : Nat) (x : O)
  | bd (d : Nat) (z : List AV) (ps : List (Nat × Nat × O))
  | bs (d : Nat) (sz n : Nat) (z : List AV) (ps : List (Nat × O))
  | ld (d : Nat) (sz : Nat) (ag : Bool) (p : O)
  | st (sz : Nat) (p v : O)
  | fa (d : Nat) (p : O) (off : Nat)
  | fd (d : Nat) (x : O) (off sz : Nat) (ag : Bool)
  | ia (d : Nat) (sz : Nat) (x i : O)
  | ix (d : Nat) (x i : O)
  | len (d : Nat) (x : O)
  | lns (d : Nat) (x : O)
  | app (d : Nat) (sz bytes : Nat) (x y : O)
  | bin (d : Nat) (op : BinOp) (ty : Ty) (x y : O)
  | not (d : Nat) (x : O)
  | neg (d : Nat) (x : O)
  | cvi (d : Nat) (k : IntKind) (x : O)
  | s2b (d : Nat) (x : O)
  | b2s (d : Nat) (x : O)
  | mk (d : Nat) (sz bytes : Nat) (z : List AV) (n : O)
  | slc (d : Nat) (sz : Nat) (x : O) (lo hi : Option O)
  | ext (d : Nat) (x : O) (j : Nat)
  | nchk (d : Nat) (x : O)
  | mkf (d : Nat) (f : Nat) (caps : List O)
  | call (d : Nat) (own : Bool) (f : O) (args : List O)
  | gd (g : Nat) (want : Bool) (d : Option Nat) (i : I)
  | kill (l : List Nat)
  | drop (l : List Nat)
  | keep (l : List Nat)
  | opn (t o : Nat) (sz : Nat)

def St.reg (σ : St) (t : Nat) : AV := (klook σ.regs t).getD .junk
def St.op (σ : St) : O → AV
  | .t n => σ.reg n
  | .c v => v
def St.set (σ : St) (t : Nat) (v : AV) : St := { σ with regs := kput σ.regs t v }
/-- No register refers to o any more. -/
def St.unref (σ : St) (o : Nat) : St := { σ with regs := σ.regs.map fun q => (q.1, if q.2.refs o then .junk else q.2) }
def St.unlook (σ : St) (o : Nat) : St := { σ with regs := σ.regs.map fun q => (q.1, if q.2.looks o then .junk else q.2) }
/-- A new object; whatever bore its name is forgotten. -/
def St.new (σ : St) (o : Nat) (ob : Ob) : St := { regs := (σ.unref o).regs, objs := kput σ.objs o ob }
def St.gone (σ : St) (o : Nat) : St := { regs := (σ.unref o).regs, objs := kdel σ.objs o }
def St.turn (σ : St) (o : Nat) (ob : Ob) : St := { regs := (σ.unlook o).regs, objs := kput σ.objs o ob }
def killAll : List Nat → St → St
  | [], σ => σ
  | t :: l, σ => killAll l { σ with regs := kdel σ.regs t }
def keepOne {α : Type} (t : Nat) : Option α → List (Nat × α) → List (Nat × α)
  | some v, r => (t, v) :: r
  | none, r => r
/-- These alone stay known. -/
def keepAll {α : Type} : List Nat → List (Nat × α) → List (Nat × α)
  | [], _ => []
  | t :: l, regs => keepOne t (klook regs t) (keepAll l regs)
def dropAll : List Nat → St → St
  | [], σ => σ
  | o :: l, σ => dropAll l (σ.gone o)

def AV.cells : AV → List AV
  | .agg l => l
  | v => [v]
/-- What a cell holds behind a store of this; an object whose row is handed over goes. -/
def cellOf (σ : St) : AV → Option (AV × St)
  | .d x => some (.d x, σ)
  | .nil => some (.nil, σ)
  | .h o off n => (klook σ.objs o).bind fun ob => (ownEs ((ob.es.drop off).take n)).map fun es => (.own (.sl es), σ.gone o)
  | _ => none
def cellsOf : List AV → St → Option (List AV × St)
  | [], σ => some ([], σ)
  | v :: l, σ => (cellOf σ v).bind fun (c, σ') => (cellsOf l σ').map fun (cs, σ'') => (c :: cs, σ'')
/-- A cell of object o, as it is read. -/
def viewOf (o : Nat) : AV → AV
  | .own (.sl es) => .vw o (.sl es)
  | .own x => .d x
  | .d x => .d x
  | .nil => .nil
  | _ => .junk
def viewD (o : Option Nat) : D → AV
  | .sl es => match o with | some o => .vw o (.sl es) | none => .d (.sl es)
  | x => .d x
/-- A cell that is the same everywhere. -/
def AV.still : AV → Bool
  | .d x => x.scalar
  | .nil => true
  | _ => false
def packed (ag : Bool) (l : List AV) : Option AV := if ag then some (.agg l) else match l with | [v] => some v | _ => none
def kcut {α : Type} (l : List α) (j n : Nat) : Option (List α) := if j + n ≤ l.length then some ((l.drop j).take n) else none

def asInt' : AV → Option Int
  | .d (.i _ n) => some n
  | _ => none
/-- The bounds of a slice expression. -/
def bnds (σ : St) (len : Nat) (lo hi : Option O) : Option (Nat × Nat) :=
  (match lo with | some o => asInt' (σ.op o) | none => some 0).bind fun l =>
  (match hi with | some o => asInt' (σ.op o) | none => some (len : Int)).bind fun u =>
  if 0 ≤ l ∧ l ≤ u ∧ u ≤ (len : Int) then some (l.toNat, u.toNat) else none
/-- What an argument reads as. -/
def DA.ofCells (l : List AV) : Option (List D) := allOf (fun v => match v with | AV.d x => some x | .nil => some (.sl []) | .vw _ x => some x | _ => none) l
def St.one (σ : St) : AV → Option D
  | .d x => some x
  | .nil => some (.sl [])
  | .vw _ x => some x
  | .h o off n => (klook σ.objs o).bind fun ob => (dEs ((ob.es.drop off).take n)).map D.sl
  | _ => none
def St.ptrD (σ : St) : AV → Option (List D)
  | .rp _ cs => some cs
  | .p o i j => (klook σ.objs o).bind fun ob => (ob.es[i]?).bind fun cs => allOf AV.toD (cs.drop j)
  | _ => none
def St.argP (σ : St) (v : AV) : Option DA := (σ.ptrD v).map DA.ptr
def St.arg (σ : St) : AV → Option DA
  | .agg l => (allOf σ.one l).map DA.agg
  | .rp o cs => (σ.ptrD (.rp o cs)).map DA.ptr
  | .p o i j => (σ.ptrD (.p o i j)).map DA.ptr
  | .clo f l => (allOf σ.argP l).map (DA.clo f)
  | .d x => some (.one x)
  | .nil => some (.one (.sl []))
  | .vw _ x => some (.one x)
  | .h o off n => (σ.one (.h o off n)).map DA.one
  | _ => none
mutual
def DA.av : DA → AV
  | .one x => .d x
  | .agg l => .agg (l.map AV.d)
  | .ptr cs => .rp none cs
  | .clo f l => .clo f (DA.avL l)
def DA.avL : List DA → List AV
  | [] => []
  | a :: l => a.av :: DA.avL l
end
mutual
/-- What is handed back, kept as frozen data. -/
def RV.av : RV → AV
  | .one x => .d x
  | .agg l => .agg (l.map AV.d)
  | .tup l => .tup (RV.avL l)
def RV.avL : List RV → List AV
  | [] => []
  | a :: l => a.av :: RV.avL l
end
/-- What is handed back, kept as objects of ours: number id on. -/
def openCells (sz : Nat) : Nat → List D → St → List AV × St
  | _, [], σ => ([], σ)
  | id, .sl es :: l, σ =>
    let r := openCells sz (id + 1) l (σ.new id ⟨(es.headD []).length, rowO es⟩)
    (.h id 0 es.length :: r.1, r.2)
  | id, x :: l, σ => let r := openCells sz (id + 1) l σ; (.d x :: r.1, r.2)
def RV.openOne (id : Nat) (σ : St) : RV → AV × St
  | .one x => match openCells 0 id [x] σ with | ([v], σ') => (v, σ') | (_, σ') => (.junk, σ')
  | .agg l => let r := openCells 0 id l σ; (.agg r.1, r.2)
  | .tup _ => (.junk, σ)
def openTup : Nat → List RV → St → List AV × St
  | _, [], σ => ([], σ)
  | id, v :: l, σ => let r := v.openOne id σ; let q := openTup (id + 8) l r.2; (r.1 :: q.1, q.2)
def RV.opened (id : Nat) (σ : St) : RV → AV × St
  | .tup l => let r := openTup id l σ; (.tup r.1, r.2)
  | v => v.openOne id σ

def bytesOf : List (List D) → Option (List UInt8) := allOf fun cs => match cs with | [.i .u8 n] => some (UInt8.ofNat n.toNat) | _ => none
def ofBytes (l : List UInt8) : List (List D) := l.map fun b => [D.i .u8 b.toNat]

def binI (op : BinOp) (k : IntKind) (a b : Int) : Option D :=
  match op with
  | .add => some (.i k (k.wrap (a + b)))
  | .sub => some (.i k (k.wrap (a - b)))
  | .mul => some (.i k (k.wrap (a * b)))
  | .eql => some (.b (decide (a = b)))
  | .neq => some (.b (!decide (a = b)))
  | .lss => some (.b (decide (a < b)))
  | .leq => some (.b (decide (a ≤ b)))
  | .gtr => some (.b (decide (b < a)))
  | .geq => some (.b (decide (b ≤ a)))
  | .quo => if b = 0 then none else some (.i k (k.wrap (a.tdiv b)))
  | .rem => if b = 0 then none else some (.i k (a.tmod b))
  | .and => some (.i k (k.wrap (BitVec.ofInt k.bits a &&& BitVec.ofInt k.bits b).toNat))
  | .or => some (.i k (k.wrap (BitVec.ofInt k.bits a ||| BitVec.ofInt k.bits b).toNat))
  | .xor => some (.i k (k.wrap (BitVec.ofInt k.bits a ^^^ BitVec.ofInt k.bits b).toNat))
  | _ => none
def binSh (op : BinOp) (k : IntKind) (a b : Int) : Option D :=
  match op with
  | .shl => if b < 0 then none else some (.i k (k.wrap (a * 2 ^ (min b.toNat k.bits))))
  | .shr => if b < 0 then none else some (.i k (a.fdiv (2 ^ (min b.toNat k.bits))))
  | _ => none
def binS (op : BinOp) (a b : List UInt8) : Option D :=
  match op with
  | .add => if a.length + b.length ≤ 9223372036854775807 then some (.s (a ++ b)) else none
  | .eql => some (.b (decide (a = b)))
  | .neq => some (.b (!decide (a = b)))
  | .lss => some (.b (Op.bytesLess a b))
  | _ => none
def eqD : Nat → AV → AV → Option Bool
  | 0, .d (.i k a), .d (.i k' b) => if k = k' then some (decide (a = b)) else none
  | 1, .d (.b a), .d (.b b) => some (a == b)
  | 2, .d (.s a), .d (.s b) => some (decide (a = b))
  | _, _, _ => none
def eqL : List Nat → List AV → List AV → Option Bool
  | [], [], [] => some true
  | k :: ks, a :: l, b :: r => (eqD k a b).bind fun t => (eqL ks l r).map fun u => t && u
  | _, _, _ => none
def isSh : BinOp → Bool
  | .shl => true
  | .shr => true
  | _ => false
def binV (op : BinOp) : Ty → AV → AV → Option D
  | .num, .d (.i k a), .d (.i k' b) => if isSh op then binSh op k a b else if k = k' then binI op k a b else none
  | .num, .d (.s a), .d (.s b) => binS op a b
  | .flag, .d (.b a), .d (.b b) => match op with
    | .eql => some (.b (a == b))
    | .neq => some (.b (a != b))
    | _ => none
  | .st ks, .agg l, .agg r => match op with
    | .eql => (eqL ks l r).map D.b
    | .neq => (eqL ks l r).map fun t => D.b (!t)
    | _ => none
  | _, _, _ => none

/-- A value's cells, where they are known. -/
def AV.parts : AV → Option (List AV)
  | .agg l => some l
  | .junk => none
  | .own _ => none
  | .tup _ => none
  | v => some [v]
def fillO : List AV → List (Nat × Nat × List AV) → Option (List AV)
  | z, [] => some z
  | z, (off, sz, cs) :: r => if cs.length = sz ∧ off + sz ≤ z.length then fillO (z.take off ++ cs ++ z.drop (off + sz)) r else none

def chunks (sz : Nat) : Nat → List AV → List (List AV)
  | 0, _ => []
  | n + 1, l => l.take sz :: chunks sz n (l.drop sz)
/-- One of two; two flags are one flag. -/
def pickV (t : Bool) : AV → AV → AV
  | .d (.b x), .d (.b y) => .d (.b (if t then x else y))
  | x, y => if t then x else y

/-- The objects' part of an append: what comes behind. -/
def tailOf (σ : St) : AV → Option (List (List AV) × St)
  | .nil => some ([], σ)
  | .d (.sl es) => some (rowF es, σ)
  | .d (.s l) => some (rowF (ofBytes l), σ)
  | .vw _ (.sl es) => if es.all (fun cs => cs.all D.scalar) then some (rowF es, σ) else none
  | .h o off n => (klook σ.objs o).bind fun ob =>
      match allOf (allOf AV.toOwn) ((ob.es.drop off).take n) with
      | some es => if es.all (fun cs => cs.all D.scalar) then some (rowF es, σ)
          else some (rowO es, σ.gone o)
      | none => none
  | _ => none

/-- An append to what is there. -/
def appTo (d sz bytes : Nat) (new : List (List AV)) (σ : St) : AV → Option St
  | .nil => if new.length * bytes ≤ 140737488355328 then some ((σ.new d ⟨sz, new⟩).set d (.h d 0 new.length)) else none
  | .h o off n => (klook σ.objs o).bind fun ob => if off = 0 ∧ ob.sz = sz ∧ n ≤ ob.es.length ∧ (n + new.length) * bytes ≤ 140737488355328 then
      some ((σ.new o ⟨sz, ob.es.take n ++ new⟩).set d (.h o 0 (n + new.length))) else none
  | _ => none

/-- Behind a call: what came back is kept as frozen data, or as objects of ours. -/
def called (d : Nat) (own : Bool) (l : List AV) (σ : St) (r : Bool × RV) : Option St :=
  if own then (if r.1 then some ((r.2.opened (64 * (d + 1)) σ).2.set d (r.2.opened (64 * (d + 1)) σ).1) else none)
  else if r.1 || AV.frL l then some (σ.set d r.2.av) else none

/-- An operation that is passed over. -/
def skipped (d : Option Nat) (σ : St) : St := match d with | some d => σ.set d (.tup []) | none => σ

section steps
variable (X : Nat → List DA → Option (Bool × RV))

def kstep : I → St → Option St
  | .mv d x, σ => some (σ.set d (σ.op x))
  | .pick d c a b, σ => match σ.op c with | .d (.b t) => some (σ.set d (pickV t (σ.op a) (σ.op b))) | _ => none
  | .al d z, σ => (cellsOf z σ).map fun q => (q.2.new d ⟨q.1.length, [q.1]⟩).set d (.p d 0 0)
  | .bx d x, σ => (cellsOf (σ.op x).cells σ).map fun q => (q.2.new d ⟨q.1.length, [q.1]⟩).set d (.p d 0 0)
  | .bd d z ps, σ => (allOf (fun q => ((σ.op q.2.2).parts).map fun cs => (q.1, q.2.1, cs)) ps).bind fun l => (fillO z l).map fun r => σ.set d (.agg r)
  | .bs d sz n z ps, σ => (allOf (fun q => ((σ.op q.2).parts).map fun cs => (q.1 * sz, sz, cs)) ps).bind fun l => (fillO (List.replicate n z).flatten l).bind fun r =>
      (cellsOf r σ).bind fun q => if z.length = sz ∧ q.1.length = n * sz ∧ 0 < sz then
        some ((q.2.new d ⟨sz, chunks sz n q.1⟩).set d (.h d 0 n)) else none
  | .ld d sz ag p, σ => match σ.op p with
      | .p o i j => (klook σ.objs o).bind fun ob => (ob.es[i]?).bind fun cs => (kcut cs j sz).bind fun l => (packed ag (l.map (viewOf o))).map fun v => σ.set d v
      | .rp o cs => (kcut cs 0 sz).bind fun l => (packed ag (l.map (viewD o))).map fun v => σ.set d v
      | _ => none
  | .st sz p v, σ => match σ.op p with
      | .p o i j => (cellsOf (σ.op v).cells σ).bind fun q => (klook q.2.objs o).bind fun ob => (ob.es[i]?).bind fun old =>
          if q.1.length = sz ∧ j + sz ≤ old.length then some (q.2.turn o ⟨ob.sz, ob.es.set i (old.take j ++ q.1 ++ old.drop (j + sz))⟩) else none
      | _ => none
  | .fa d p off, σ => match σ.op p with
      | .p o i j => some (σ.set d (.p o i (j + off)))
      | .rp o cs => if off ≤ cs.length then some (σ.set d (.rp o (cs.drop off))) else none
      | _ => none
  | .fd d x off sz ag, σ => match σ.op x with
      | .agg l => (kcut l off sz).bind fun l => (packed ag l).map fun v => σ.set d v
      | _ => none
  | .ia d sz x i, σ => (asInt' (σ.op i)).bind fun i => if 0 ≤ i then
      match σ.op x with
      | .d (.sl es) => (es[i.toNat]?).bind fun cs => if cs.length = sz then some (σ.set d (.rp none cs)) else none
      | .vw o (.sl es) => (es[i.toNat]?).bind fun cs => if cs.length = sz then some (σ.set d (.rp (some o) cs)) else none
      | .h o off n => (klook σ.objs o).bind fun ob => if i < (n : Int) ∧ ob.sz = sz then some (σ.set d (.p o (off + i.toNat) 0)) else none
      | _ => none
      else none
  | .ix d x i, σ => (asInt' (σ.op i)).bind fun i => if 0 ≤ i then
      match σ.op x with
      | .d (.s l) => (l[i.toNat]?).map fun b => σ.set d (.d (.i .u8 b.toNat))
      | _ => none
      else none
  | .lns d x, σ => match σ.op x with
      | .d (.s l) => some (σ.set d (.d (.i .i64 l.length)))
      | _ => none
  | .len d x, σ => match σ.op x with
      | .d (.sl es) => some (σ.set d (.d (.i .i64 es.length)))
      | .vw _ (.sl es) => some (σ.set d (.d (.i .i64 es.length)))
      | .h _ _ n => some (σ.set d (.d (.i .i64 n)))
      | .nil => some (σ.set d (.d (.i .i64 0)))
      | _ => none
  | .app d sz bytes x y, σ => (tailOf σ (σ.op y)).bind fun q => if q.1.all (fun cs => cs.length == sz) then appTo d sz bytes q.1 q.2 (σ.op x) else none
  | .bin d op ty x y, σ => (binV op ty (σ.op x) (σ.op y)).map fun r => σ.set d (.d r)
  | .not d x, σ => match σ.op x with | .d (.b t) => some (σ.set d (.d (.b (!t)))) | _ => none
  | .neg d x, σ => match σ.op x with | .d (.i k n) => some (σ.set d (.d (.i k (k.wrap (-n))))) | _ => none
  | .cvi d k x, σ => match σ.op x with | .d (.i _ n) => some (σ.set d (.d (.i k (k.wrap n)))) | _ => none
  | .s2b d x, σ => match σ.op x with | .d (.s l) => some ((σ.new d ⟨1, rowF (ofBytes l)⟩).set d (.h d 0 l.length)) | _ => none
  | .b2s d x, σ => (σ.one (σ.op x)).bind fun v => match v with
      | .sl es => (bytesOf es).map fun l => σ.set d (.d (.s l))
      | _ => none
  | .mk d sz bytes z n, σ => (asInt' (σ.op n)).bind fun n => if 0 ≤ n ∧ n * bytes ≤ 140737488355328 ∧ z.length = sz ∧ z.all AV.still then
      some ((σ.new d ⟨sz, List.replicate n.toNat z⟩).set d (.h d 0 n.toNat)) else none
  | .slc d sz x lo hi, σ => match σ.op x with
      | .d (.s l) => if sz = 0 then (bnds σ l.length lo hi).map fun q => σ.set d (.d (.s ((l.drop q.1).take (q.2 - q.1)))) else none
      | .nil => if sz = 0 then none else (bnds σ 0 lo hi).map fun _ => σ.set d .nil
      | .d (.sl es) => if sz ≠ 0 ∧ es.all (fun cs => cs.length == sz) then (bnds σ es.length lo hi).map fun q => σ.set d (.d (.sl ((es.drop q.1).take (q.2 - q.1)))) else none
      | .vw o (.sl es) => if sz ≠ 0 ∧ es.all (fun cs => cs.length == sz) then (bnds σ es.length lo hi).map fun q => σ.set d (.vw o (.sl ((es.drop q.1).take (q.2 - q.1)))) else none
      | .h o off n => (klook σ.objs o).bind fun ob => if sz ≠ 0 ∧ ob.sz = sz then (bnds σ n lo hi).map fun q => σ.set d (.h o (off + q.1) (q.2 - q.1)) else none
      | _ => none
  | .ext d x j, σ => match σ.op x with
      | .tup l => (l[j]?).map fun v => σ.set d v
      | _ => none
  | .nchk d x, σ => match σ.op x with
      | .p o i j => some (σ.set d (.p o i j))
      | .rp o cs => some (σ.set d (.rp o cs))
      | _ => none
  | .mkf d f caps, σ => some (σ.set d (.clo f (caps.map σ.op)))
  | .call d own f args, σ => match σ.op f with
      | .clo f caps => (allOf σ.arg (args.map σ.op ++ caps)).bind fun ds => (X f ds).bind (called d own (args.map σ.op ++ caps) σ)
      | _ => none
  | .gd g want d i, σ => match σ.reg g with
      | .d (.b t) => if t = want then kstep i σ else some (skipped d σ)
      | .tup [] => some (skipped d σ)
      | _ => none
  | .kill l, σ => some (killAll l σ)
  | .drop l, σ => some (dropAll l σ)
  | .keep l, σ => some { σ with regs := keepAll l σ.regs }
  | .opn t o sz, σ => match σ.reg t with
      | .nil => some ((σ.new o ⟨sz, []⟩).set t (.h o 0 0))
      | _ => none

def krun : List I → St → Option St
  | [], σ => some σ
  | i :: l, σ => (kstep X i σ).bind (krun l)

inductive C where
  | r (is : List I)
  | pre (is : List I) (c : C)
  | post (c : C) (is : List I)
  | skip
  | seq (a b : C)
  | cond (o : O) (a b : C)
  | blk (id : Nat) (c : C)
  | loop (c : C)
  | ex (id : Nat)
  | ret

inductive Ex where
  | n
  | ex (id : Nat)
  | ret
  deriving DecidableEq

/-- What follows, if nothing has left. -/
def andThen (f : St → Option (Ex × St)) (q : Ex × St) : Option (Ex × St) :=
  match q.1 with
  | .n => f q.2
  | e => some (e, q.2)
def rounds (body : St → Option (Ex × St)) : Nat → St → Option (Ex × St)
  | 0, _ => none
  | k + 1, σ => (body σ).bind (andThen (rounds body k))
def goN (σ : St) : Ex × St := (.n, σ)
def outOf (id : Nat) (q : Ex × St) : Ex × St := if q.1 = .ex id then (.n, q.2) else q

def den (k : Nat) : C → St → Option (Ex × St)
  | .r is, σ => (krun X is σ).map goN
  | .pre is c, σ => (krun X is σ).bind (den k c)
  | .post c is, σ => (den k c σ).bind (andThen fun σ => (krun X is σ).map goN)
  | .skip, σ => some (.n, σ)
  | .seq a b, σ => (den k a σ).bind (andThen (den k b))
  | .cond o a b, σ => match σ.op o with
      | .d (.b t) => if t then den k a σ else den k b σ
      | _ => none
  | .blk id c, σ => (den k c σ).map (outOf id)
  | .loop c, σ => rounds (den k c) k σ
  | .ex id, σ => some (.ex id, σ)
  | .ret, σ => some (.ret, σ)
theorem krun_nil (σ : St) : krun X [] σ = some σ := rfl
theorem krun_cons (i : I) (l : List I) (σ : St) : krun X (i :: l) σ = (kstep X i σ).bind (krun X l) := rfl
theorem den_r (k : Nat) (is : List I) (σ : St) : den X k (.r is) σ = (krun X is σ).map goN := rfl
theorem den_pre (k : Nat) (is : List I) (c : C) (σ : St) : den X k (.pre is c) σ = (krun X is σ).bind (den X k c) := rfl
theorem den_post (k : Nat) (is : List I) (c : C) (σ : St) : den X k (.post c is) σ = (den X k c σ).bind (andThen fun σ => (krun X is σ).map goN) := rfl
theorem den_skip (k : Nat) (σ : St) : den X k .skip σ = some (.n, σ) := rfl
theorem den_seq (k : Nat) (a b : C) (σ : St) : den X k (.seq a b) σ = (den X k a σ).bind (andThen (den X k b)) := rfl
def condOn (k : Nat) (a b : C) (σ : St) : AV → Option (Ex × St)
  | .d (.b t) => if t then den X k a σ else den X k b σ
  | _ => none
theorem den_cond (k : Nat) (o : O) (a b : C) (σ : St) : den X k (.cond o a b) σ = condOn X k a b σ (σ.op o) := rfl
theorem condOn_b (k : Nat) (a b : C) (σ : St) (t : Bool) : condOn X k a b σ (.d (.b t)) = if t = true then den X k a σ else den X k b σ := rfl
theorem den_blk (k : Nat) (id : Nat) (c : C) (σ : St) : den X k (.blk id c) σ = (den X k c σ).map (outOf id) := rfl
theorem den_loop (k : Nat) (c : C) (σ : St) : den X k (.loop c) σ = rounds (den X k c) k σ := rfl
theorem den_ex (k : Nat) (id : Nat) (σ : St) : den X k (.ex id) σ = some (.ex id, σ) := rfl
theorem den_ret (k : Nat) (σ : St) : den X k .ret σ = some (.ret, σ) := rfl
theorem andThen_n (f : St → Option (Ex × St)) (σ : St) : andThen f (.n, σ) = f σ := rfl
theorem andThen_ex (f : St → Option (Ex × St)) (id : Nat) (σ : St) : andThen f (.ex id, σ) = some (.ex id, σ) := rfl
theorem andThen_ret (f : St → Option (Ex × St)) (σ : St) : andThen f (.ret, σ) = some (.ret, σ) := rfl
theorem goN_eq (σ : St) : goN σ = (.n, σ) := rfl
theorem outOf_n (id : Nat) (σ : St) : outOf id (.n, σ) = (.n, σ) := rfl
theorem outOf_ret (id : Nat) (σ : St) : outOf id (.ret, σ) = (.ret, σ) := rfl
theorem outOf_ex (id id' : Nat) (σ : St) : outOf id (.ex id', σ) = if id' = id then (.n, σ) else (.ex id', σ) := by
  unfold outOf
  by_cases h : id' = id
  · subst h; simp
  · rw [if_neg h, if_neg]; intro e; exact h (Ex.ex.inj e)
end steps

inductive Res where
  | t (n : Nat)
  | cell (n sz : Nat) (ag : Bool)
/-- A function: how many arguments, its results, whether they are its own, and its code. -/
structure Fn where
  n : Nat
  res : List Res
  own : Bool
  body : C
def argRegs : Nat → List DA → List (Nat × AV)
  | _, [] => []
  | k, a :: l => argRegs (k + 1) l ++ [(k, a.av)]
def resV (σ : St) : Res → Option AV
  | .t n => some (σ.reg n)
  | .cell n sz ag => match σ.reg n with
    | .p o i j => (klook σ.objs o).bind fun ob => (ob.es[i]?).bind fun cs => (kcut cs j sz).bind fun l => packed ag (l.map (viewOf o))
    | _ => none
def tupled : List RV → RV
  | [x] => x
  | l => .tup l
def rvOf (σ : St) : AV → Option RV
  | .agg l => (allOf σ.one l).map RV.agg
  | .d x => some (.one x)
  | .nil => some (.one (.sl []))
  | .vw o x => some (.one x)
  | .h o off n => (σ.one (.h o off n)).map RV.one
  | _ => none
/-- The cells of what is its own, and the shape. -/
def ownOf (σ : St) : AV → Option (RV × St)
  | .agg l => (cellsOf l σ).bind fun q => (allOf AV.toOwn q.1).map fun ds => (.agg ds, q.2)
  | v => (cellOf σ v).bind fun q => (AV.toOwn q.1).map fun d => (.one d, q.2)
def ownsOf : List AV → St → Option (List RV)
  | [], _ => some []
  | v :: l, σ => (ownOf σ v).bind fun q => (ownsOf l q.2).map fun r => q.1 :: r
/-- What is handed back at the end. -/
def ended (fn : Fn) (q : Ex × St) : Option (Bool × RV) :=
  match q.1 with
  | .ex _ => none
  | _ => if fn.own then (allOf (resV q.2) fn.res).bind fun l => (ownsOf l q.2).map fun r => (true, tupled r)
         else (allOf (fun r => (resV q.2 r).bind (rvOf q.2)) fn.res).map fun l => (false, tupled l)
def entered (fn : Fn) (ds : List DA) : Option St := if ds.length = fn.n then some ⟨argRegs 0 ds, []⟩ else none
def evFn (X : Nat → List DA → Option (Bool × RV)) (k : Nat) (fn : Fn) (ds : List DA) : Option (Bool × RV) :=
  (entered fn ds).bind fun σ => (den X k fn.body σ).bind (ended fn)

end Go.Proofs.YtmccpbabpnffcaaK
