/- The abstract machine over typed data: data, abstract states, instructions, and how they are carried out. -/
import Derived.Laws.AppendOwn
set_option linter.unusedVariables false
set_option linter.unusedSimpArgs false
namespace Go.Proofs.YtniakiefibpgmaaGreatDoorK

/-- A tree of nodes. -/
inductive NodeT where
  | mk (ns name text : List UInt8) (kids : List NodeT)
/-- The types of data. -/
inductive T where
  | int (k : IntKind)
  | u8
  | bool
  | str
  | sl (t : T)
  | pr (a b : T)
  | node
  deriving DecidableEq
@[reducible] def T.den : T → Type
  | .int _ => Int
  | .u8 => UInt8
  | .bool => Bool
  | .str => List UInt8
  | .sl t => List t.den
  | .pr a b => a.den × b.den
  | .node => NodeT

/-- What one cell reads as. -/
inductive D where
  | i (k : IntKind) (n : Int)
  | u (b : UInt8)
  | b (t : Bool)
  | s (l : List UInt8)
  | sl (t : T) (l : List t.den)
  | e (isNil : Bool)
  | x (v : Value)

def T.w : T → Nat
  | .pr a b => a.w + b.w
  | .node => 4
  | _ => 1
def cellsT : (t : T) → t.den → List D
  | .int k, n => [.i k n]
  | .u8, b => [.u b]
  | .bool, b => [.b b]
  | .str, s => [.s s]
  | .sl t, l => [.sl t l]
  | .pr a b, x => cellsT a x.1 ++ cellsT b x.2
  | .node, .mk a b c k => [.s a, .s b, .s c, .sl .node k]
def castL (t t' : T) (l : List t.den) : Option (List t'.den) := if h : t = t' then some (h ▸ l) else none
def ofD : (t : T) → D → Option t.den
  | .int k, .i k' n => if k' = k then some n else none
  | .u8, .u b => some b
  | .bool, .b b => some b
  | .str, .s l => some l
  | .sl t, .sl t' l => castL t' t l
  | _, _ => none
def mkT : (t : T) → List D → Option t.den
  | .pr a b, cs => (mkT a (cs.take a.w)).bind fun x => (mkT b (cs.drop a.w)).map fun y => (x, y)
  | .node, cs => match cs with
    | [.s a, .s b, .s c, .sl t l] => (castL t .node l).map fun k => NodeT.mk a b c k
    | _ => none
  | .int k, cs => match cs with | [c] => ofD (.int k) c | _ => none
  | .u8, cs => match cs with | [c] => ofD .u8 c | _ => none
  | .bool, cs => match cs with | [c] => ofD .bool c | _ => none
  | .str, cs => match cs with | [c] => ofD .str c | _ => none
  | .sl t, cs => match cs with | [c] => ofD (.sl t) c | _ => none
/-- The zero value. -/
def T.zero : (t : T) → t.den
  | .int _ => (0 : Int)
  | .u8 => (0 : UInt8)
  | .bool => false
  | .str => []
  | .sl _ => []
  | .pr a b => (a.zero, b.zero)
  | .node => .mk [] [] [] []
/-- Without slices in it. -/
def T.flat : T → Bool
  | .sl _ => false
  | .node => false
  | .pr a b => a.flat && b.flat
  | _ => true

def D.scalar : D → Bool
  | .sl _ _ => false
  | _ => true

/-- What is known of a value. -/
inductive AV where
  | d (x : D)
  | nil (t : T)
  | vw (o : Nat) (x : D)
  | h (o off n : Nat)
  | p (o i j : Nat)
  | rp (o : Option Nat) (cs : List D)
  | rf (v : AV)
  | agg (l : List AV)
  | tup (l : List AV)
  | clo (f : Nat) (l : List AV)
  | junk

/-- An object of the call's own: a list of rows (of elements ahead of k what is in slices is gone; so it is at the holes; fz: it is frozen data), or a cell that holds a function. -/
inductive Ob where
  | ls (t : T) (fz : Bool) (l : List t.den) (k : Nat) (hs : List (Nat × Nat × Option Nat))
  | fn (v : AV)
def Ob.sz : Ob → Nat
  | .ls t _ _ _ _ => t.w
  | .fn _ => 1
def Ob.len : Ob → Nat
  | .ls _ _ l _ _ => l.length
  | .fn _ => 1

structure St where
  regs : List (Nat × AV)
  objs : List (Nat × Ob)

section lists
variable {α : Type}
def klook : List (Nat × α) → Nat → Option α
  | [], _ => none
  | (a, v) :: r, k => if k = a then some v else klook r k
def kput : List (Nat × α) → Nat → α → List (Nat × α)
  | [], k, v => [(k, v)]
  | (a, u) :: r, k, v => if k = a then (a, v) :: r else if a < k then (k, v) :: (a, u) :: r else (a, u) :: kput r k v
def kdel : List (Nat × α) → Nat → List (Nat × α)
  | [], _ => []
  | (a, u) :: r, k => if k = a then kdel r k else (a, u) :: kdel r k
/-- All at once, or nothing. -/
def allOf {β : Type} (f : α → Option β) : List α → Option (List β)
  | [] => some []
  | a :: l => (f a).bind fun b => (allOf f l).map fun r => b :: r
end lists

def holeAt : List (Nat × Nat × Option Nat) → Nat → Nat → Option (Option Nat)
  | [], _, _ => none
  | (a, b, x) :: r, i, j => if i = a ∧ j = b then some x else holeAt r i j
/-- The holes but for the cells j .. j + n - 1 of row i. -/
def fillH (i j n : Nat) : List (Nat × Nat × Option Nat) → List (Nat × Nat × Option Nat)
  | [] => []
  | (a, b, x) :: r => if a = i ∧ j ≤ b ∧ b < j + n then fillH i j n r else (a, b, x) :: fillH i j n r
/-- What a cell of an object is (a hole of the name 63: a cell of frozen data). -/
inductive CV where
  | d (x : D)
  | own (x : D)
  | lent (o : Nat)
  | fn (v : AV)
  | pb (t : T) (fz : Bool) (x : t.den)
  | junk
def cv (fz : Bool) (k : Nat) (hs : List (Nat × Nat × Option Nat)) (i j : Nat) (x : D) : CV :=
  if x.scalar then .d x else if i < k then .junk else match holeAt hs i j with
    | some (some o) => if o = 63 then .d x else .lent o
    | some none => .junk
    | none => if fz then .d x else .own x
def Ob.cell : Ob → Nat → Nat → Option CV
  | .ls t fz l k hs, i, j => (l[i]?).bind fun x => ((cellsT t x)[j]?).map (cv fz k hs i j)
  | .fn v, i, j => if i = 0 ∧ j = 0 then some (.fn v) else none

mutual
/-- Does a value refer to object o? -/
def AV.refs (o : Nat) : AV → Bool
  | .vw o' _ => o == o'
  | .h o' _ _ => o == o'
  | .p o' _ _ => o == o'
  | .rp (some o') _ => o == o'
  | .rf v => v.refs o
  | .agg l => AV.refsL o l
  | .tup l => AV.refsL o l
  | .clo _ l => AV.refsL o l
  | _ => false
def AV.refsL (o : Nat) : List AV → Bool
  | [] => false
  | v :: l => v.refs o || AV.refsL o l
end
mutual
/-- Is a value frozen? -/
def AV.fr : AV → Bool
  | .d _ => true
  | .nil _ => true
  | .rp none _ => true
  | .rf v => v.fr
  | .agg l => AV.frL l
  | .clo _ l => AV.frL l
  | _ => false
def AV.frL : List AV → Bool
  | [] => true
  | v :: l => v.fr && AV.frL l
end
mutual
/-- Does a value look into object o? -/
def AV.looks (o : Nat) : AV → Bool
  | .vw o' _ => o == o'
  | .rp (some o') _ => o == o'
  | .rf v => v.looks o
  | .agg l => AV.looksL o l
  | .tup l => AV.looksL o l
  | .clo _ l => AV.looksL o l
  | _ => false
def AV.looksL (o : Nat) : List AV → Bool
  | [] => false
  | v :: l => v.looks o || AV.looksL o l
end
mutual
/-- It looks into no object. -/
def AV.blind : AV → Bool
  | .vw _ _ => false
  | .rp (some _) _ => false
  | .rf v => v.blind
  | .agg l => AV.blindL l
  | .tup l => AV.blindL l
  | .clo _ l => AV.blindL l
  | _ => true
def AV.blindL : List AV → Bool
  | [] => true
  | v :: l => v.blind && AV.blindL l
end
def rn (o o' x : Nat) : Nat := if x = o then o' else x
mutual
/-- Object o is called o'. -/
def AV.ren (o o' : Nat) : AV → AV
  | .vw x y => .vw (rn o o' x) y
  | .h x off n => .h (rn o o' x) off n
  | .p x i j => .p (rn o o' x) i j
  | .rp (some x) cs => .rp (some (rn o o' x)) cs
  | .rf v => .rf (v.ren o o')
  | .agg l => .agg (AV.renL o o' l)
  | .tup l => .tup (AV.renL o o' l)
  | .clo f l => .clo f (AV.renL o o' l)
  | v => v
def AV.renL (o o' : Nat) : List AV → List AV
  | [] => []
  | v :: l => v.ren o o' :: AV.renL o o' l
end
def renH (o o' : Nat) : List (Nat × Nat × Option Nat) → List (Nat × Nat × Option Nat)
  | [] => []
  | (a, b, x) :: r => (a, b, x.map (rn o o')) :: renH o o' r
def Ob.ren (o o' : Nat) : Ob → Ob
  | .ls t fz l k hs => .ls t fz l k (renH o o' hs)
  | .fn v => .fn (v.ren o o')
def unlent (o : Nat) : List (Nat × Nat × Option Nat) → List (Nat × Nat × Option Nat)
  | [] => []
  | (a, b, x) :: r => (a, b, if x = some o then none else x) :: unlent o r
def Ob.unref (o : Nat) : Ob → Ob
  | .ls t fz l k hs => .ls t fz l k (unlent o hs)
  | .fn v => .fn (if v.refs o then .junk else v)
/-- Where object o lies that is lent. -/
def lentAt (o : Nat) : List (Nat × Nat × Option Nat) → Option (Nat × Nat)
  | [] => none
  | (a, b, x) :: r => if x = some o then some (a, b) else lentAt o r
def lends (o : Nat) : List (Nat × Nat × Option Nat) → Bool
  | [] => false
  | (_, _, x) :: r => decide (x = some o) || lends o r
def Ob.refs (o : Nat) : Ob → Bool
  | .ls _ _ _ _ hs => lends o hs
  | .fn v => v.refs o
/-- Nothing of it is handed elsewhere. -/
def Ob.closed : Ob → Bool
  | .ls _ _ _ _ hs => hs.isEmpty
  | .fn _ => false

inductive O where
  | t (n : Nat)
  | c (v : AV)

/-- The operands' kind: numbers and texts; flags; structs of cells of these kinds (0: a number, 1: a flag, 2: a text); what may be nil. -/
inductive Ty where
  | num
  | flag
  | st (ks : List Nat)
  | ifc

inductive I where
  | mv (d : Nat) (x : O)
  | pick (d : Nat) (c a b : O)
  | al (d : Nat) (t : T) (fz : Bool)
  | alf (d : Nat)
  | bx (d : Nat) (t : T) (fz : Bool) (x : O)
  | bxf (d : Nat) (x : O)
  | bd (d : Nat) (z : List AV) (ps : List (Nat × Nat × O))
  | bs (d : Nat) (t : T) (fz : Bool) (n : Nat) (z : List AV) (ps : List (Nat × O))
  | bsz (d : Nat) (t : T) (n : Nat) (z : List AV) (ps : List (Nat × O))
  | ld (d : Nat) (sz : Nat) (ag : Bool) (p : O)
  | ldm (d : Nat) (p : O)
  | ldt (d : Nat) (sz : Nat) (ag : Bool) (p : O)
  | st (sz : Nat) (p v : O)
  | bxl (d : Nat) (t : T) (x : O)
  | stl (sz : Nat) (p v : O)
  | fa (d : Nat) (p : O) (off : Nat)
  | fd (d : Nat) (x : O) (off sz : Nat) (ag : Bool)
  | ia (d : Nat) (sz : Nat) (x i : O)
  | ix (d : Nat) (x i : O)
  | len (d : Nat) (x : O)
  | lns (d : Nat) (x : O)
  | app (d : Nat) (t : T) (fz : Bool) (bytes : Nat) (x y : O)
  | bin (d : Nat) (op : BinOp) (ty : Ty) (x y : O)
  | not (d : Nat) (x : O)
  | neg (d : Nat) (x : O)
  | cvi (d : Nat) (k : IntKind) (x : O)
  | s2b (d : Nat) (x : O)
  | b2s (d : Nat) (x : O)
  | mk (d : Nat) (t : T) (bytes : Nat) (n : O)
  | slc (d : Nat) (sz : Nat) (x : O) (lo hi : Option O)
  | ext (d : Nat) (x : O) (j : Nat)
  | nchk (d : Nat) (x : O)
  | mkf (d : Nat) (f : Nat) (caps : List O)
  | mm (d : Nat) (big : Bool) (x y : O)
  | call (d : Nat) (fz : Bool) (ps : List Nat) (f : O) (args : List O)
  | gd (g : Nat) (want : Bool) (d : Option Nat) (i : I)
  | an (A B K L : List Nat) (i : I)
  | kill (l : List Nat)
  | drop (l : List Nat)
  | keep (l : List Nat)
  | opn (t : Nat) (o : Nat) (fz : Bool)
  | frz (t : Nat)
  | cls (o o2 : Nat)
  | ren (o o' : Nat)

def St.reg (σ : St) (t : Nat) : AV := (klook σ.regs t).getD .junk
def St.op (σ : St) : O → AV
  | .t n => σ.reg n
  | .c v => v
def St.set (σ : St) (t : Nat) (v : AV) : St := { σ with regs := kput σ.regs t v }
/-- Nothing refers to o any more. -/
def St.unref (σ : St) (o : Nat) : St := { regs := σ.regs.map fun q => (q.1, if q.2.refs o then .junk else q.2), objs := σ.objs.map fun q => (q.1, q.2.unref o) }
def St.unlook (σ : St) (o : Nat) : St := { σ with regs := σ.regs.map fun q => (q.1, if q.2.looks o then .junk else q.2) }
/-- A new object; whatever bore its name is forgotten. -/
def St.new (σ : St) (o : Nat) (ob : Ob) : St := { regs := (σ.unref o).regs, objs := kput (σ.unref o).objs o ob }
def St.gone (σ : St) (o : Nat) : St := { regs := (σ.unref o).regs, objs := kdel (σ.unref o).objs o }
/-- The object o is another now, in its place. -/
def St.turn (σ : St) (o : Nat) (ob : Ob) : St := { regs := (σ.unlook o).regs, objs := kput σ.objs o ob }
/-- The object o is another now; what looks into it may go on. -/
def St.less (σ : St) (o : Nat) (ob : Ob) : St := { σ with objs := kput σ.objs o ob }
/-- Object o is called o' from here on. -/
def St.rename (σ : St) (o o' : Nat) (ob : Ob) : St := { regs := σ.regs.map fun q => (q.1, q.2.ren o o'), objs := kput (kdel (σ.objs.map fun q => (q.1, q.2.ren o o')) o) o' (ob.ren o o') }
def St.renamed (σ : St) (o o' : Nat) : Option Ob → St
  | none => σ
  | some _ => match klook (σ.gone o').objs o with
    | some ob => (σ.gone o').rename o o' ob
    | none => σ.gone o'
def killAll : List Nat → St → St
  | [], σ => σ
  | t :: l, σ => killAll l { σ with regs := kdel σ.regs t }
def keepOne {α : Type} (t : Nat) : Option α → List (Nat × α) → List (Nat × α)
  | some v, r => (t, v) :: r
  | none, r => r
/-- These alone stay known. -/
def keepAll {α : Type} : List Nat → List (Nat × α) → List (Nat × α)
  | [], _ => []
  | t :: l, regs => keepOne t (klook regs t) (keepAll l regs)
def dropAll : List Nat → St → St
  | [], σ => σ
  | o :: l, σ => dropAll l (σ.gone o)
/-- The name of an object made at register d. -/
def nid (d : Nat) : Nat := d + 64

def AV.cells : AV → List AV
  | .agg l => l
  | v => [v]
/-- A slice of own rows, whole. -/
def rowsOf (σ : St) (o off n : Nat) : Option ((t : T) × Bool × List t.den) :=
  (klook σ.objs o).bind fun
    | .ls t fz l k hs => if k ≤ off ∧ hs.isEmpty = true then some ⟨t, fz, (l.drop off).take n⟩ else none
    | .fn _ => none
/-- What a cell holds behind a store of this. -/
def cellOf (fz : Bool) (σ : St) : AV → Option (D × St)
  | .d x => if x.scalar || fz then some (x, σ) else none
  | .nil t => some (.sl t [], σ)
  | .h o off n => (rowsOf σ o off n).bind fun q => if q.2.1 = true ∧ q.1.flat = false ∧ fz = false then none else some (.sl q.1 q.2.2, σ.gone o)
  | _ => none
def cellsOf (fz : Bool) : List AV → St → Option (List D × St)
  | [], σ => some ([], σ)
  | v :: l, σ => (cellOf fz σ v).bind fun (c, σ') => (cellsOf fz l σ').map fun (cs, σ'') => (c :: cs, σ'')
/-- A cell of object o, as it is read. -/
def viewOf (σ : St) (o : Nat) : CV → AV
  | .own (.sl t l) => .vw o (.sl t l)
  | .own x => .d x
  | .d x => .d x
  | .lent o2 => match klook σ.objs o2 with | some ob => .h o2 0 ob.len | none => .junk
  | _ => .junk
/-- What a cell holds behind a store that lends. -/
def lendC (σ : St) : AV → Option (D × Option Nat)
  | .d x => if x.scalar then some (x, none) else some (x, some 63)
  | .nil t => some (.sl t [], none)
  | .h o off n => (klook σ.objs o).bind fun
    | .ls t _ l _ _ => if off = 0 ∧ n = l.length ∧ o ≠ 63 then some (.sl t [], some o) else none
    | .fn _ => none
  | _ => none
def lendH (i : Nat) : Nat → List (D × Option Nat) → List (Nat × Nat × Option Nat)
  | _, [] => []
  | j, q :: l => match q.2 with
    | none => lendH i (j + 1) l
    | some o => (i, j, some o) :: lendH i (j + 1) l
def viewD (o : Option Nat) : D → AV
  | .sl t l => match o with | some o => .vw o (.sl t l) | none => .d (.sl t l)
  | x => .d x
def packed (ag : Bool) (l : List AV) : Option AV := if ag then some (.agg l) else match l with | [v] => some v | _ => none
def kcut {α : Type} (l : List α) (j n : Nat) : Option (List α) := if j + n ≤ l.length then some ((l.drop j).take n) else none
/-- A row's cells from j on, as they are. -/
def cvs (fz : Bool) (k : Nat) (hs : List (Nat × Nat × Option Nat)) (i : Nat) : Nat → List D → List CV
  | _, [] => []
  | j, x :: l => cv fz k hs i j x :: cvs fz k hs i (j + 1) l

def asInt' : AV → Option Int
  | .d (.i _ n) => some n
  | .d (.u b) => some b.toNat
  | _ => none
/-- The bounds of a slice expression. -/
def bnds (σ : St) (len : Nat) (lo hi : Option O) : Option (Nat × Nat) :=
  (match lo with | some o => asInt' (σ.op o) | none => some 0).bind fun l =>
  (match hi with | some o => asInt' (σ.op o) | none => some (len : Int)).bind fun u =>
  if 0 ≤ l ∧ l ≤ u ∧ u ≤ (len : Int) then some (l.toNat, u.toNat) else none
/-- Where an object stands among those that are handed on. -/
def place : List Nat → Nat → Option Nat
  | [], _ => none
  | a :: l, o => if o = a then some 0 else (place l o).map (· + 1)
def rowD (k : Nat) (hs : List (Nat × Nat × Option Nat)) (i j : Nat) (cs : List D) : Option (List D) :=
  allOf (fun c => match c with | .d x => some x | .own x => some x | _ => none) (cvs false k hs i j (cs.drop j))
inductive Fu where
  | z
  | s (n : Fu)
abbrev fu6 : Fu := .s (.s (.s (.s (.s (.s .z)))))
abbrev fu7 : Fu := .s fu6
/-- What is handed on: objects of ps as they are, by their place; all else as frozen data. -/
def St.arg (σ : St) (ps : List Nat) : Fu → AV → Option AV
  | .z, _ => none
  | .s n, v => match v with
    | .d x => some (.d x)
    | .nil t => some (.nil t)
    | .vw o x => if place ps o = none then some (.d x) else none
    | .h o off m => match place ps o with
      | some k => some (.h k off m)
      | none => (rowsOf σ o off m).map fun q => .d (.sl q.1 q.2.2)
    | .p o i j => match place ps o with
      | some k => some (.p k i j)
      | none => (klook σ.objs o).bind fun
        | .ls t _ l k hs => (l[i]?).bind fun x => (rowD k hs i j (cellsT t x)).map fun cs => .rp none cs
        | .fn u => if i = 0 ∧ j = 0 then (σ.arg ps n u).map .rf else none
    | .rp none cs => some (.rp none cs)
    | .rp (some o) cs => if place ps o = none then some (.rp none cs) else none
    | .rf u => (σ.arg ps n u).map .rf
    | .agg l => (allOf (σ.arg ps n) l).map .agg
    | .clo f l => (allOf (σ.arg ps n) l).map (.clo f)
    | _ => none
mutual
/-- Frozen, or of what is handed on as it is. -/
def AV.frP (ps : List Nat) : AV → Bool
  | .d _ => true
  | .nil _ => true
  | .h o _ _ => (place ps o).isSome
  | .p o _ _ => (place ps o).isSome
  | .rp none _ => true
  | .rf v => v.frP ps
  | .agg l => AV.frPL ps l
  | .clo _ l => AV.frPL ps l
  | _ => false
def AV.frPL (ps : List Nat) : List AV → Bool
  | [] => true
  | v :: l => v.frP ps && AV.frPL ps l
end

/-- One cell that is handed back: frozen data, a tree of its own, or a pointer to a variable of its own. -/
inductive RC where
  | fz (x : D)
  | own (x : D)
  | bx (t : T) (fz : Bool) (x : t.den)
/-- What a function hands back. -/
inductive RV where
  | one (c : RC)
  | agg (l : List RC)
  | tup (l : List RV)
def RC.x : RC → D
  | .fz x => x
  | .own x => x
  | .bx _ _ _ => .e true
/-- Does it hold no frozen slice? -/
def RC.free : RC → Bool
  | .fz x => x.scalar
  | .own _ => true
  | .bx t f _ => !f || t.flat
def RV.free : RV → Bool
  | .one c => c.free
  | .agg l => l.all RC.free
  | .tup l => l.all fun v => match v with | .one c => c.free | .agg l => l.all RC.free | .tup _ => false

def binI (op : BinOp) (k : IntKind) (a b : Int) : Option D :=
  match op with
  | .add => some (.i k (k.wrap (a + b)))
  | .sub => some (.i k (k.wrap (a - b)))
  | .mul => some (.i k (k.wrap (a * b)))
  | .eql => some (.b (decide (a = b)))
  | .neq => some (.b (!decide (a = b)))
  | .lss => some (.b (decide (a < b)))
  | .leq => some (.b (decide (a ≤ b)))
  | .gtr => some (.b (decide (b < a)))
  | .geq => some (.b (decide (b ≤ a)))
  | .quo => if b = 0 then none else some (.i k (k.wrap (a.tdiv b)))
  | .rem => if b = 0 then none else some (.i k (a.tmod b))
  | .and => some (.i k (k.wrap (BitVec.ofInt k.bits a &&& BitVec.ofInt k.bits b).toNat))
  | .or => some (.i k (k.wrap (BitVec.ofInt k.bits a ||| BitVec.ofInt k.bits b).toNat))
  | .xor => some (.i k (k.wrap (BitVec.ofInt k.bits a ^^^ BitVec.ofInt k.bits b).toNat))
  | _ => none
def binU (op : BinOp) (a b : UInt8) : Option D :=
  match op with
  | .add => some (.u (a + b))
  | .sub => some (.u (a - b))
  | .and => some (.u (a &&& b))
  | .or => some (.u (a ||| b))
  | .eql => some (.b (decide (a = b)))
  | .neq => some (.b (!decide (a = b)))
  | .lss => some (.b (decide (a < b)))
  | .leq => some (.b (decide (a ≤ b)))
  | .gtr => some (.b (decide (b < a)))
  | .geq => some (.b (decide (b ≤ a)))
  | _ => none
def binSh (op : BinOp) (k : IntKind) (a b : Int) : Option D :=
  match op with
  | .shl => if b < 0 then none else some (.i k (k.wrap (a * 2 ^ (min b.toNat k.bits))))
  | .shr => if b < 0 then none else some (.i k (a.fdiv (2 ^ (min b.toNat k.bits))))
  | _ => none
def binUS (op : BinOp) (a : UInt8) (b : Int) : Option D :=
  match op with
  | .shr => if b < 0 then none else some (.u (UInt8.ofNat (a.toNat / 2 ^ (min b.toNat 8))))
  | _ => none
def binS (op : BinOp) (a b : List UInt8) : Option D :=
  match op with
  | .add => if a.length + b.length ≤ 9223372036854775807 then some (.s (a ++ b)) else none
  | .eql => some (.b (decide (a = b)))
  | .neq => some (.b (!decide (a = b)))
  | .lss => some (.b (Op.bytesLess a b))
  | _ => none
def eqD : Nat → AV → AV → Option Bool
  | 0, .d (.i k a), .d (.i k' b) => if k = k' then some (decide (a = b)) else none
  | 1, .d (.b a), .d (.b b) => some (a == b)
  | 2, .d (.s a), .d (.s b) => some (decide (a = b))
  | _, _, _ => none
def eqL : List Nat → List AV → List AV → Option Bool
  | [], [], [] => some true
  | k :: ks, a :: l, b :: r => (eqD k a b).bind fun t => (eqL ks l r).map fun u => t && u
  | _, _, _ => none
def isSh : BinOp → Bool
  | .shl => true
  | .shr => true
  | _ => false
def binV (op : BinOp) : Ty → AV → AV → Option D
  | .num, .d (.i k a), .d (.i k' b) => if isSh op then binSh op k a b else if k = k' then binI op k a b else none
  | .num, .d (.u a), .d (.u b) => binU op a b
  | .num, .d (.u a), .d (.i _ b) => binUS op a b
  | .num, .d (.s a), .d (.s b) => binS op a b
  | .flag, .d (.b a), .d (.b b) => match op with
    | .eql => some (.b (a == b))
    | .neq => some (.b (a != b))
    | _ => none
  | .st ks, .agg l, .agg r => match op with
    | .eql => (eqL ks l r).map D.b
    | .neq => (eqL ks l r).map fun t => D.b (!t)
    | _ => none
  | .ifc, .d (.e a), .d (.e b) => if b then (match op with
    | .eql => some (.b a)
    | .neq => some (.b (!a))
    | _ => none) else none
  | _, _, _ => none

/-- A value's cells, where they are known. -/
def AV.parts : AV → Option (List AV)
  | .agg l => some l
  | .junk => none
  | .tup _ => none
  | v => some [v]
def fillO : List AV → List (Nat × Nat × List AV) → Option (List AV)
  | z, [] => some z
  | z, (off, sz, cs) :: r => if cs.length = sz ∧ off + sz ≤ z.length then fillO (z.take off ++ cs ++ z.drop (off + sz)) r else none

def chunks {α : Type} (sz : Nat) : Nat → List α → List (List α)
  | 0, _ => []
  | n + 1, l => l.take sz :: chunks sz n (l.drop sz)
/-- One of two; two flags are one flag. -/
def pickV (t : Bool) : AV → AV → AV
  | .d (.b x), .d (.b y) => .d (.b (if t then x else y))
  | x, y => if t then x else y

/-- What comes behind in an append of rows of type t (fz: of frozen data). -/
def tailOf (t : T) (fz : Bool) (σ : St) : AV → Option (List t.den × St)
  | .nil _ => some ([], σ)
  | .d (.sl t' l) => if t.flat || fz then (castL t' t l).map fun l => (l, σ) else none
  | .d (.s l) => (castL .u8 t l).map fun l => (l, σ)
  | .vw _ (.sl t' l) => if t.flat then (castL t' t l).map fun l => (l, σ) else none
  | .h o off n => (klook σ.objs o).bind fun
    | .ls t' fz' l k hs => if t.flat then (castL t' t ((l.drop off).take n)).map fun l => (l, σ)
      else if k ≤ off ∧ hs.isEmpty = true ∧ fz' = fz then (castL t' t ((l.drop off).take n)).map fun l' => (l', σ.turn o (.ls t' fz' l (off + n) hs))
      else none
    | .fn _ => none
  | _ => none

/-- An append to what is there. -/
def appTo (d : Nat) (t : T) (fz : Bool) (bytes : Nat) (new : List t.den) (σ : St) : AV → Option St
  | .nil _ => if new.length * bytes ≤ 140737488355328 then some ((σ.new (nid d) (.ls t fz new 0 [])).set d (.h (nid d) 0 new.length)) else none
  | .h o off n => (klook σ.objs o).bind fun
    | .ls t' fz' l k hs => if off = 0 ∧ k = 0 ∧ hs.isEmpty = true ∧ (t.flat || fz' == fz) = true ∧ n ≤ l.length ∧ (n + new.length) * bytes ≤ 140737488355328 then
        (castL t' t (l.take n)).map fun old => (((σ.gone o).new (nid d) (.ls t fz (old ++ new) 0 [])).set d (.h (nid d) 0 (n + new.length)))
      else none
    | .fn _ => none
  | _ => none

/-- An own row is taken out: its slices become objects from name id on. -/
def takeL : Nat → List CV → St → Option (List AV × St)
  | _, [], σ => some ([], σ)
  | id, c :: l, σ => match c with
    | .own (.sl t r) => (takeL (id + 1) l (σ.new id (.ls t false r 0 []))).map fun q => (.h id 0 r.length :: q.1, q.2)
    | .own x => (takeL (id + 1) l σ).map fun q => (.d x :: q.1, q.2)
    | .pb t f x => (takeL (id + 1) l (σ.new id (.ls t f [x] 0 []))).map fun q => (.p id 0 0 :: q.1, q.2)
    | .d x => (takeL (id + 1) l σ).map fun q => (.d x :: q.1, q.2)
    | _ => none
/-- A cell that is handed back: it is kept as an object, or (fz) as frozen data. -/
def RC.cv (fz : Bool) : RC → CV
  | .fz x => .d x
  | .own x => if fz then .d x else .own x
  | .bx t f x => if fz then .junk else .pb t f x
def RV.openOne (fz : Bool) (id : Nat) (σ : St) : RV → Option (AV × St)
  | .one c => (takeL id [c.cv fz] σ).bind fun q => match q.1 with | [v] => some (v, q.2) | _ => none
  | .agg l => if l.length ≤ 16 then (takeL id (l.map (RC.cv fz)) σ).map fun q => (.agg q.1, q.2) else none
  | .tup _ => none
def openTup (fz : Bool) : Nat → List RV → St → Option (List AV × St)
  | _, [], σ => some ([], σ)
  | id, v :: l, σ => (v.openOne fz id σ).bind fun r => (openTup fz (id + 16) l r.2).map fun q => (r.1 :: q.1, q.2)
def RV.opened (fz : Bool) (id : Nat) (σ : St) : RV → Option (AV × St)
  | .tup l => if l.length ≤ 60 then (openTup fz id l σ).map fun r => (.tup r.1, r.2) else none
  | v => v.openOne fz id σ

/-- Behind a call: the objects that were handed on. -/
def backs : List Nat → List (Option Ob) → St → Option St
  | [], [], σ => some σ
  | o :: ps, some ob :: l, σ => backs ps l (σ.turn o ob)
  | o :: ps, none :: l, σ => backs ps l (σ.gone o)
  | _, _, _ => none
def obFree : Option Ob → Bool
  | some (.ls t fz _ _ _) => !fz || t.flat
  | some (.fn _) => false
  | none => true
/-- A plain cell. -/
def plainD : AV → Option D
  | .d x => if x.scalar then some x else none
  | _ => none
def called (d : Nat) (fz : Bool) (ps : List Nat) (free : Bool) (σ : St) (r : List (Option Ob) × RV) : Option St :=
  if (r.2.free && r.1.all obFree) || free then (backs ps r.1 σ).bind fun σ' => (r.2.opened fz (nid (1000 * (d + 1))) σ').map fun q => q.2.set d q.1 else none

/-- An operation that is passed over. -/
def skipped (d : Option Nat) (σ : St) : St := match d with | some d => σ.set d (.tup []) | none => σ

/-- The objects that are handed on: closed, each there, none twice. -/
def passed (σ : St) : List Nat → Option (List Ob)
  | [] => some []
  | o :: ps => (klook σ.objs o).bind fun ob => if ob.closed && (place ps o == none) then (passed σ ps).map fun l => ob :: l else none

/-- Operands. -/
def ooL : Option O → List O
  | some o => [o]
  | none => []
def opsI : I → List O
  | .mv _ x => [x]
  | .pick _ c a b => [c, a, b]
  | .bx _ _ _ x => [x]
  | .bd _ _ ps => ps.map fun q => q.2.2
  | .bs _ _ _ _ _ ps => ps.map fun q => q.2
  | .bsz _ _ _ _ ps => ps.map fun q => q.2
  | .ld _ _ _ p => [p]
  | .ldm _ p => [p]
  | .ldt _ _ _ p => [p]
  | .st _ p v => [p, v]
  | .fa _ p _ => [p]
  | .fd _ x _ _ _ => [x]
  | .ia _ _ x i => [x, i]
  | .ix _ x i => [x, i]
  | .len _ x => [x]
  | .lns _ x => [x]
  | .app _ _ _ _ x y => [x, y]
  | .bin _ _ _ x y => [x, y]
  | .not _ x => [x]
  | .neg _ x => [x]
  | .cvi _ _ x => [x]
  | .s2b _ x => [x]
  | .b2s _ x => [x]
  | .mk _ _ _ n => [n]
  | .slc _ _ x lo hi => x :: (ooL lo ++ ooL hi)
  | .ext _ x _ => [x]
  | .nchk _ x => [x]
  | .mkf _ _ caps => caps
  | .mm _ _ x y => [x, y]
  | .call _ _ _ f args => f :: args
  | .gd g _ _ i => .t g :: opsI i
  | _ => []
/-- The register that is written. -/
def dstI : I → Option Nat
  | .mv d _ => some d
  | .pick d _ _ _ => some d
  | .al d _ _ => some d
  | .bx d _ _ _ => some d
  | .bd d _ _ => some d
  | .bs d _ _ _ _ _ => some d
  | .bsz d _ _ _ _ => some d
  | .ld d _ _ _ => some d
  | .ldm d _ => some d
  | .ldt d _ _ _ => some d
  | .fa d _ _ => some d
  | .fd d _ _ _ _ => some d
  | .ia d _ _ _ => some d
  | .ix d _ _ => some d
  | .len d _ => some d
  | .lns d _ => some d
  | .app d _ _ _ _ _ => some d
  | .bin d _ _ _ _ => some d
  | .not d _ => some d
  | .neg d _ => some d
  | .cvi d _ _ => some d
  | .s2b d _ => some d
  | .b2s d _ => some d
  | .mk d _ _ _ => some d
  | .slc d _ _ _ _ => some d
  | .ext d _ _ => some d
  | .nchk d _ => some d
  | .mkf d _ _ => some d
  | .mm d _ _ _ => some d
  | .call d _ _ _ _ => some d
  | .gd _ _ d _ => d
  | _ => none
/-- Does it look into what its operands point to? -/
def rdC : I → Bool
  | .ld _ _ _ _ => true
  | .ldm _ _ => true
  | .ldt _ _ _ _ => true
  | .ia _ _ _ _ => true
  | .b2s _ _ => true
  | .slc _ _ _ _ _ => true
  | .call _ _ _ _ _ => true
  | .app _ _ _ _ _ _ => true
  | .bx _ _ _ _ => true
  | .bs _ _ _ _ _ _ => true
  | .st _ _ _ => true
  | .gd _ _ _ i => rdC i
  | _ => false
def lentN : List (Nat × Nat × Option Nat) → List Nat
  | [] => []
  | (_, _, some o) :: r => o :: lentN r
  | (_, _, none) :: r => lentN r
/-- The objects that a value leads to. -/
def rdv (σ : St) : Fu → AV → List Nat
  | .z, _ => []
  | .s n, v => match v with
    | .vw o _ => [o]
    | .h o _ _ => [o]
    | .p o _ _ => o :: (match klook σ.objs o with | some (.ls _ _ _ _ hs) => lentN hs | some (.fn u) => rdv σ n u | none => [])
    | .rp (some o) _ => [o]
    | .rf u => rdv σ n u
    | .agg l => l.flatMap (rdv σ n)
    | .clo _ l => l.flatMap (rdv σ n)
    | _ => []
def AV.solid : AV → Bool
  | .junk => false
  | _ => true
mutual
/-- The objects that a value refers to. -/
def AV.names : AV → List Nat
  | .vw o _ => [o]
  | .h o _ _ => [o]
  | .p o _ _ => [o]
  | .rp (some o) _ => [o]
  | .rf v => v.names
  | .agg l => AV.namesL l
  | .tup l => AV.namesL l
  | .clo _ l => AV.namesL l
  | _ => []
def AV.namesL : List AV → List Nat
  | [] => []
  | v :: l => v.names ++ AV.namesL l
end
mutual
/-- The objects that a value looks into. -/
def AV.lnames : AV → List Nat
  | .vw o _ => [o]
  | .rp (some o) _ => [o]
  | .rf v => v.lnames
  | .agg l => AV.lnamesL l
  | .tup l => AV.lnamesL l
  | .clo _ l => AV.lnamesL l
  | _ => []
def AV.lnamesL : List AV → List Nat
  | [] => []
  | v :: l => v.lnames ++ AV.lnamesL l
end
def Ob.names : Ob → List Nat
  | .ls _ _ _ _ hs => lentN hs
  | .fn v => v.names
/-- A name among names; those of one call are one. -/
def cn (o : Nat) : Nat := if o < 1064 then o else (o - 64) / 1000 * 1000 + 64
def inN (A : List Nat) (o : Nat) : Bool := A.contains (cn o)
def off (A l : List Nat) : Bool := l.all fun o => !inN A o
def okOp (A B : List Nat) (c : Bool) (σ : St) (v : AV) : Bool :=
  v.solid && off A v.names && off B v.lnames && (!c || (off A (rdv σ fu7 v) && off B (rdv σ fu7 v)))
def inK (K : List Nat) : AV → Bool
  | .h o _ _ => inN K o
  | _ => true
/-- What it kills is of K, what it turns is of L. -/
def touchB (K L : List Nat) (σ : St) : I → Bool
  | .al d _ _ => inN K (nid d)
  | .mk d _ _ _ => inN K (nid d)
  | .s2b d _ => inN K (nid d)
  | .bx d _ _ x => inN K (nid d) && (σ.op x).cells.all (inK K)
  | .bs d _ _ _ z ps => inN K (nid d) && z.all (inK K) && ps.all fun q => match (σ.op q.2).parts with | some l => l.all (inK K) | none => true
  | .app d t _ _ x y => inN K (nid d) && inK K (σ.op x) && (t.flat || inK L (σ.op y))
  | .st _ p v => (match σ.op p with | .p o _ _ => inN L o | _ => true) && (σ.op v).cells.all (inK K)
  | .ldm d p => inN K (nid d) && (match σ.op p with | .p o _ _ => inN L o | _ => true)
  | .ldt d sz _ p => K.contains (nid (1000 * (d + 1))) && decide (sz ≤ 60) && (match σ.op p with | .p o _ _ => inN L o | _ => true)
  | .call d _ ps _ _ => K.contains (nid (1000 * (d + 1))) && ps.all (inN L)
  | .gd _ _ _ i => touchB K L σ i
  | _ => true
def psI : I → List Nat
  | .call _ _ ps _ _ => ps
  | .gd _ _ _ i => psI i
  | _ => []
/-- What it turns refers to none of A, nothing else refers to what it kills. -/
def apartB (A K L : List Nat) (σ : St) : Bool := σ.objs.all fun q => match klook σ.objs q.1 with
  | some ob => if inN K q.1 || inN L q.1 then off A ob.names else off K ob.names
  | none => true
def preB (A B K L : List Nat) (i : I) (σ : St) : Bool := (opsI i).all (fun x => okOp A B (rdC i) σ (σ.op x)) && apartB A K L σ && touchB K L σ i
def postB (A B K L : List Nat) (i : I) (σ : St) : Bool := (match dstI i with | some d => off A (σ.reg d).names && off B (σ.reg d).lnames | none => true) &&
  (σ.objs.all fun q => match klook σ.objs q.1 with
  | some ob => !(inN K q.1 || inN L q.1) || off A ob.names
  | none => true) && (psI i).all fun o => inN K o || (klook σ.objs o).isSome

abbrev XF := Nat → List AV → List Ob → Option (List (Option Ob) × RV)
section steps
variable (X : XF)

def kstep : I → St → Option St
  | .mv d x, σ => some (σ.set d (σ.op x))
  | .pick d c a b, σ => match σ.op c with | .d (.b t) => some (σ.set d (pickV t (σ.op a) (σ.op b))) | _ => none
  | .al d t fz, σ => some ((σ.new (nid d) (.ls t fz [t.zero] 0 [])).set d (.p (nid d) 0 0))
  | .alf d, σ => some ((σ.new (nid d) (.fn .junk)).set d (.p (nid d) 0 0))
  | .bx d t fz x, σ => (cellsOf fz (σ.op x).cells σ).bind fun q => (mkT t q.1).map fun v => (q.2.new (nid d) (.ls t fz [v] 0 [])).set d (.p (nid d) 0 0)
  | .bxf d x, σ => match σ.op x with
      | .clo f l => if AV.blindL l = true ∧ AV.refsL (nid d) l = false then some ((σ.new (nid d) (.fn (.clo f l))).set d (.p (nid d) 0 0)) else none
      | _ => none
  | .bd d z ps, σ => (allOf (fun q => ((σ.op q.2.2).parts).map fun cs => (q.1, q.2.1, cs)) ps).bind fun l => (fillO z l).map fun r => σ.set d (.agg r)
  | .bs d t fz n z ps, σ => (allOf (fun q => ((σ.op q.2).parts).map fun cs => (q.1 * t.w, t.w, cs)) ps).bind fun l => (fillO (List.replicate n z).flatten l).bind fun r =>
      (cellsOf fz r σ).bind fun q => if z.length = t.w ∧ q.1.length = n * t.w then
        (allOf (mkT t) (chunks t.w n q.1)).map fun vs => ((q.2.new (nid d) (.ls t fz vs 0 [])).set d (.h (nid d) 0 n)) else none
  | .bsz d t n z ps, σ => (allOf (fun q => ((σ.op q.2).parts).map fun cs => (q.1 * t.w, t.w, cs)) ps).bind fun l => (fillO (List.replicate n z).flatten l).bind fun r => (allOf plainD r).bind fun cs =>
      if z.length = t.w ∧ cs.length = n * t.w then (allOf (mkT t) (chunks t.w n cs)).map fun vs => σ.set d (.d (.sl t vs)) else none
  | .ld d sz ag p, σ => match σ.op p with
      | .p o i j => (klook σ.objs o).bind fun
        | .ls t fz l k hs => (l[i]?).bind fun x => (kcut (cellsT t x) j sz).bind fun cs => (packed ag ((cvs fz k hs i j cs).map (viewOf σ o))).map fun v => σ.set d v
        | .fn v => if i = 0 ∧ j = 0 ∧ sz = 1 ∧ ag = false then some (σ.set d v) else none
      | .rp o cs => (kcut cs 0 sz).bind fun l => (packed ag (l.map (viewD o))).map fun v => σ.set d v
      | .rf v => if sz = 1 ∧ ag = false then some (σ.set d v) else none
      | _ => none
  | .ldm d p, σ => match σ.op p with
      | .p o i j => (klook σ.objs o).bind fun
        | .ls t fz l k hs => (l[i]?).bind fun x => ((cellsT t x)[j]?).bind fun c => match cv fz k hs i j c with
          | .own (.sl t' l') => if o = nid d then none else some ((((σ.turn o (.ls t fz l k ((i, j, none) :: hs))).new (nid d) (.ls t' false l' 0 [])).less o (.ls t fz l k ((i, j, some (nid d)) :: unlent (nid d) hs))).set d (.h (nid d) 0 l'.length))
          | .lent o2 => (klook σ.objs o2).map fun ob => σ.set d (.h o2 0 ob.len)
          | _ => none
        | .fn _ => none
      | _ => none
  | .ldt d sz ag p, σ => match σ.op p with
      | .p o i j => (klook σ.objs o).bind fun
        | .ls t fz l k hs => (l[i]?).bind fun x => if k ≤ i ∧ j + sz ≤ t.w ∧ hs.isEmpty = true then
            (takeL (nid (1000 * (d + 1))) (cvs fz k hs i j (((cellsT t x).drop j).take sz)) (σ.turn o (.ls t fz l (i + 1) hs))).bind fun q => (packed ag q.1).map fun v => q.2.set d v else none
        | .fn _ => none
      | _ => none
  | .st sz p v, σ => match σ.op p with
      | .p o i j => (klook σ.objs o).bind fun
        | .ls t fz _ _ _ => (cellsOf fz (σ.op v).cells σ).bind fun q => (klook q.2.objs o).bind fun
          | .ls t' fz' l' k' hs' => (l'[i]?).bind fun x => if t' = t ∧ fz' = fz ∧ q.1.length = sz ∧ j + sz ≤ t'.w then
              (mkT t' ((cellsT t' x).take j ++ q.1 ++ (cellsT t' x).drop (j + sz))).map fun y => q.2.turn o (.ls t' fz' (l'.set i y) k' (fillH i j sz hs')) else none
          | .fn _ => none
        | .fn _ => match σ.op v with
          | .clo f l => if i = 0 ∧ j = 0 ∧ sz = 1 ∧ AV.blindL l = true then some (σ.turn o (.fn (.clo f l))) else none
          | _ => none
      | _ => none
  | .bxl d t x, σ => (allOf (lendC σ) (σ.op x).cells).bind fun q => if lends (nid d) (lendH 0 0 q) = false then
      (mkT t (q.map Prod.fst)).map fun v => (σ.new (nid d) (.ls t false [v] 0 (lendH 0 0 q))).set d (.p (nid d) 0 0) else none
  | .stl sz p v, σ => match σ.op p with
      | .p o i j => (klook σ.objs o).bind fun
        | .ls t fz l k hs => (allOf (lendC σ) (σ.op v).cells).bind fun q => (l[i]?).bind fun x => if fz = false ∧ k ≤ i ∧ q.length = sz ∧ j + sz ≤ t.w then
            (mkT t ((cellsT t x).take j ++ q.map Prod.fst ++ (cellsT t x).drop (j + sz))).map fun y => σ.turn o (.ls t fz (l.set i y) k (lendH i j q ++ fillH i j sz hs)) else none
        | .fn _ => none
      | _ => none
  | .fa d p off, σ => match σ.op p with
      | .p o i j => some (σ.set d (.p o i (j + off)))
      | .rp o cs => if off ≤ cs.length then some (σ.set d (.rp o (cs.drop off))) else none
      | _ => none
  | .fd d x off sz ag, σ => match σ.op x with
      | .agg l => (kcut l off sz).bind fun l => (packed ag l).map fun v => σ.set d v
      | _ => none
  | .ia d sz x i, σ => (asInt' (σ.op i)).bind fun i => if 0 ≤ i then
      match σ.op x with
      | .d (.sl t l) => (l[i.toNat]?).bind fun y => if t.w = sz then some (σ.set d (.rp none (cellsT t y))) else none
      | .vw o (.sl t l) => (l[i.toNat]?).bind fun y => if t.w = sz then some (σ.set d (.rp (some o) (cellsT t y))) else none
      | .h o off n => (klook σ.objs o).bind fun ob => if i < (n : Int) ∧ ob.sz = sz then some (σ.set d (.p o (off + i.toNat) 0)) else none
      | _ => none
      else none
  | .ix d x i, σ => (asInt' (σ.op i)).bind fun i => if 0 ≤ i then
      match σ.op x with
      | .d (.s l) => (l[i.toNat]?).map fun b => σ.set d (.d (.u b))
      | _ => none
      else none
  | .lns d x, σ => match σ.op x with
      | .d (.s l) => some (σ.set d (.d (.i .i64 l.length)))
      | _ => none
  | .len d x, σ => match σ.op x with
      | .d (.sl _ l) => some (σ.set d (.d (.i .i64 l.length)))
      | .vw _ (.sl _ l) => some (σ.set d (.d (.i .i64 l.length)))
      | .h _ _ n => some (σ.set d (.d (.i .i64 n)))
      | .nil _ => some (σ.set d (.d (.i .i64 0)))
      | _ => none
  | .app d t fz bytes x y, σ => (tailOf t fz σ (σ.op y)).bind fun q => appTo d t fz bytes q.1 q.2 (σ.op x)
  | .bin d op ty x y, σ => (binV op ty (σ.op x) (σ.op y)).map fun r => σ.set d (.d r)
  | .not d x, σ => match σ.op x with | .d (.b t) => some (σ.set d (.d (.b (!t)))) | _ => none
  | .neg d x, σ => match σ.op x with | .d (.i k n) => some (σ.set d (.d (.i k (k.wrap (-n))))) | _ => none
  | .cvi d k x, σ => match σ.op x with
      | .d (.i _ n) => if k = .u8 then some (σ.set d (.d (.u (UInt8.ofNat (n % 256).toNat)))) else some (σ.set d (.d (.i k (k.wrap n))))
      | .d (.u b) => if k = .u8 then some (σ.set d (.d (.u b))) else some (σ.set d (.d (.i k (k.wrap b.toNat))))
      | _ => none
  | .s2b d x, σ => match σ.op x with | .d (.s l) => some ((σ.new (nid d) (.ls .u8 false l 0 [])).set d (.h (nid d) 0 l.length)) | _ => none
  | .b2s d x, σ => match σ.op x with
      | .d (.sl .u8 l) => some (σ.set d (.d (.s l)))
      | .vw _ (.sl .u8 l) => some (σ.set d (.d (.s l)))
      | .nil _ => some (σ.set d (.d (.s [])))
      | .h o off n => (klook σ.objs o).bind fun
        | .ls t _ l _ _ => (castL t .u8 ((l.drop off).take n)).map fun l => σ.set d (.d (.s l))
        | .fn _ => none
      | _ => none
  | .mk d t bytes n, σ => (asInt' (σ.op n)).bind fun n => if 0 ≤ n ∧ n * bytes ≤ 140737488355328 then
      some ((σ.new (nid d) (.ls t false (List.replicate n.toNat t.zero) 0 [])).set d (.h (nid d) 0 n.toNat)) else none
  | .slc d sz x lo hi, σ => match σ.op x with
      | .d (.s l) => if sz = 0 then (bnds σ l.length lo hi).map fun q => σ.set d (.d (.s ((l.drop q.1).take (q.2 - q.1)))) else none
      | .nil t => if sz = 0 then none else (bnds σ 0 lo hi).map fun _ => σ.set d (.nil t)
      | .d (.sl t l) => if sz ≠ 0 ∧ t.w = sz then (bnds σ l.length lo hi).map fun q => σ.set d (.d (.sl t ((l.drop q.1).take (q.2 - q.1)))) else none
      | .vw o (.sl t l) => if sz ≠ 0 ∧ t.w = sz then (bnds σ l.length lo hi).map fun q => σ.set d (.vw o (.sl t ((l.drop q.1).take (q.2 - q.1)))) else none
      | .h o off n => (klook σ.objs o).bind fun ob => if sz ≠ 0 ∧ ob.sz = sz then (bnds σ n lo hi).map fun q => σ.set d (.h o (off + q.1) (q.2 - q.1)) else none
      | _ => none
  | .ext d x j, σ => match σ.op x with
      | .tup l => (l[j]?).map fun v => σ.set d v
      | _ => none
  | .nchk d x, σ => match σ.op x with
      | .p o i j => some (σ.set d (.p o i j))
      | .rp o cs => some (σ.set d (.rp o cs))
      | .rf v => some (σ.set d (.rf v))
      | _ => none
  | .mkf d f caps, σ => some (σ.set d (.clo f (caps.map σ.op)))
  | .mm d big x y, σ => match σ.op x, σ.op y with
      | .d (.i k a), .d (.i k' b) => if k = k' ∧ k ≠ .u8 then some (σ.set d (.d (.i k (if big then max a b else min a b)))) else none
      | _, _ => none
  | .call d fz ps f args, σ => match σ.op f with
      | .clo f caps => (allOf (σ.arg ps fu6) (args.map σ.op ++ caps)).bind fun as => (passed σ ps).bind fun obs => (X f as obs).bind (called d fz ps (AV.frPL ps (args.map σ.op ++ caps)) σ)
      | _ => none
  | .gd g want d i, σ => match σ.reg g with
      | .d (.b t) => if t = want then kstep i σ else some (skipped d σ)
      | .tup [] => some (skipped d σ)
      | _ => none
  | .an A B K L i, σ => if preB A B K L i σ = true then (kstep i σ).bind fun σ' => if postB A B K L i σ' = true then some σ' else none else none
  | .kill l, σ => some (killAll l σ)
  | .drop l, σ => some (dropAll l σ)
  | .keep l, σ => some { σ with regs := keepAll l σ.regs }
  | .opn t o fz, σ => match σ.reg t with
      | .nil ty => some ((σ.new (nid o) (.ls ty fz [] 0 [])).set t (.h (nid o) 0 0))
      | _ => none
  | .frz t, σ => match σ.reg t with
      | .h o off n => (rowsOf σ o off n).map fun q => (σ.gone o).set t (.d (.sl q.1 q.2.2))
      | .nil ty => some (σ.set t (.d (.sl ty [])))
      | .p o i j => (klook σ.objs o).bind fun
        | .ls ty _ l k hs => (l[i]?).bind fun x => (rowD k hs i j (cellsT ty x)).map fun cs => (σ.gone o).set t (.rp none cs)
        | .fn _ => some σ
      | _ => some σ
  | .cls o o2, σ => (klook σ.objs o).bind fun
      | .ls t fz l k hs => (lentAt o2 hs).bind fun q => if holeAt hs q.1 q.2 = some (some o2) ∧ o2 ≠ 63 then (klook σ.objs o2).bind fun
          | .ls t2 fz2 l2 k2 hs2 => if k2 = 0 ∧ hs2.isEmpty = true ∧ fz = false ∧ (fz2 = false ∨ t2.flat = true) ∧ o ≠ o2 ∧ k ≤ q.1 then (l[q.1]?).bind fun x =>
              (mkT t ((cellsT t x).take q.2 ++ [.sl t2 l2] ++ (cellsT t x).drop (q.2 + 1))).map fun y => (σ.gone o2).turn o (.ls t fz (l.set q.1 y) k (unlent o2 (fillH q.1 q.2 1 hs))) else none
          | .fn _ => none
        else none
      | .fn _ => none
  | .ren o o', σ => if o ≠ o' ∧ 64 ≤ o ∧ 64 ≤ o' then some (σ.renamed o o' (klook σ.objs o)) else some σ

def krun : List I → St → Option St
  | [], σ => some σ
  | i :: l, σ => (kstep X i σ).bind (krun l)

inductive C where
  | r (is : List I)
  | dr (pm : List Nat) (is : List I)
  | pre (is : List I) (c : C)
  | post (c : C) (is : List I)
  | skip
  | seq (a b : C)
  | cond (o : O) (a b : C)
  | blk (id : Nat) (c : C)
  | loop (c : C)
  | ex (id : Nat)
  | ret

inductive Ex where
  | n
  | ex (id : Nat)
  | ret
  deriving DecidableEq

/-- What follows, if nothing has left. -/
def andThen (f : St → Option (Ex × St)) (q : Ex × St) : Option (Ex × St) :=
  match q.1 with
  | .n => f q.2
  | e => some (e, q.2)
def rounds (body : St → Option (Ex × St)) : Nat → St → Option (Ex × St)
  | 0, _ => none
  | k + 1, σ => (body σ).bind (andThen (rounds body k))
def goN (σ : St) : Ex × St := (.n, σ)
def outOf (id : Nat) (q : Ex × St) : Ex × St := if q.1 = .ex id then (.n, q.2) else q

def den (k : Nat) : C → St → Option (Ex × St)
  | .r is, σ => (krun X is σ).map goN
  | .dr _ is, σ => (krun X is σ).map goN
  | .pre is c, σ => (krun X is σ).bind (den k c)
  | .post c is, σ => (den k c σ).bind (andThen fun σ => (krun X is σ).map goN)
  | .skip, σ => some (.n, σ)
  | .seq a b, σ => (den k a σ).bind (andThen (den k b))
  | .cond o a b, σ => match σ.op o with
      | .d (.b t) => if t then den k a σ else den k b σ
      | _ => none
  | .blk id c, σ => (den k c σ).map (outOf id)
  | .loop c, σ => rounds (den k c) k σ
  | .ex id, σ => some (.ex id, σ)
  | .ret, σ => some (.ret, σ)
theorem krun_nil (σ : St) : krun X [] σ = some σ := rfl
theorem krun_cons (i : I) (l : List I) (σ : St) : krun X (i :: l) σ = (kstep X i σ).bind (krun X l) := rfl
theorem andThen_n (f : St → Option (Ex × St)) (σ : St) : andThen f (.n, σ) = f σ := rfl
theorem andThen_ex (f : St → Option (Ex × St)) (id : Nat) (σ : St) : andThen f (.ex id, σ) = some (.ex id, σ) := rfl
theorem andThen_ret (f : St → Option (Ex × St)) (σ : St) : andThen f (.ret, σ) = some (.ret, σ) := rfl
theorem goN_eq (σ : St) : goN σ = (.n, σ) := rfl
theorem outOf_n (id : Nat) (σ : St) : outOf id (.n, σ) = (.n, σ) := rfl
theorem outOf_ret (id : Nat) (σ : St) : outOf id (.ret, σ) = (.ret, σ) := rfl
theorem outOf_ex (id id' : Nat) (σ : St) : outOf id (.ex id', σ) = if id' = id then (.n, σ) else (.ex id', σ) := by
  unfold outOf
  by_cases h : id' = id
  · subst h; simp
  · rw [if_neg h, if_neg]; intro e; exact h (Ex.ex.inj e)
end steps

inductive Res where
  | t (n : Nat)
  | cell (n sz : Nat) (ag : Bool)
/-- A function: how many arguments, its results, whether what it hands back of its own is frozen, and its code. -/
structure Fn where
  n : Nat
  res : List Res
  fz : Bool
  body : C
def argRegs : Nat → List AV → List (Nat × AV)
  | _, [] => []
  | k, a :: l => argRegs (k + 1) l ++ [(k, a)]
def argObjs : Nat → List Ob → List (Nat × Ob)
  | _, [] => []
  | k, a :: l => argObjs (k + 1) l ++ [(k, a)]
def tupled : List RV → RV
  | [x] => x
  | l => .tup l
/-- One cell is handed back. -/
def retC (fz : Bool) (σ : St) : AV → Option (RC × St)
  | .d x => some (.fz x, σ)
  | .nil t => some (.own (.sl t []), σ)
  | .h o off n => (rowsOf σ o off n).map fun q => if fz || (q.2.1 && !q.1.flat) then (.fz (.sl q.1 q.2.2), σ.gone o) else (.own (.sl q.1 q.2.2), σ.gone o)
  | .p o i j => (klook σ.objs o).bind fun
    | .ls t f l k hs => match l with
      | [x] => if i = 0 ∧ j = 0 ∧ k = 0 ∧ hs.isEmpty = true then some (.bx t f x, σ.gone o) else none
      | _ => none
    | .fn _ => none
  | _ => none
def retCs (fz : Bool) : List AV → St → Option (List RC × St)
  | [], σ => some ([], σ)
  | v :: l, σ => (retC fz σ v).bind fun q => (retCs fz l q.2).map fun r => (q.1 :: r.1, r.2)
def retV (fz : Bool) (σ : St) : AV → Option (RV × St)
  | .agg l => (retCs fz l σ).map fun q => (.agg q.1, q.2)
  | v => (retC fz σ v).map fun q => (.one q.1, q.2)
/-- A row's cells are handed back as they are. -/
def retR : List CV → Option (List RC)
  | [] => some []
  | .d x :: l => (retR l).map fun r => .fz x :: r
  | .own x :: l => (retR l).map fun r => .own x :: r
  | _ :: _ => none
def packR (ag : Bool) (l : List RC) : Option RV := if ag then some (.agg l) else match l with | [c] => some (.one c) | _ => none
def resV (fz : Bool) (σ : St) : Res → Option (RV × St)
  | .t n => retV fz σ (σ.reg n)
  | .cell n sz ag => match σ.reg n with
    | .p o i j => (klook σ.objs o).bind fun
      | .ls t f l k hs => (l[i]?).bind fun x => (kcut (cellsT t x) j sz).bind fun cs => (retR (cvs f k hs i j cs)).bind fun rs => (packR ag rs).map fun r => (r, σ.gone o)
      | .fn _ => none
    | _ => none
def resVs (fz : Bool) : List Res → St → Option (List RV × St)
  | [], σ => some ([], σ)
  | v :: l, σ => (resV fz σ v).bind fun q => (resVs fz l q.2).map fun r => (q.1 :: r.1, r.2)
/-- The objects that were handed in, at the end. -/
def backObs (σ : St) : Nat → Nat → List (Option Ob)
  | _, 0 => []
  | k, n + 1 => (match klook σ.objs k with | some ob => if ob.closed then some ob else none | none => none) :: backObs σ (k + 1) n
/-- What is handed back at the end. -/
def ended (fn : Fn) (n : Nat) (q : Ex × St) : Option (List (Option Ob) × RV) :=
  match q.1 with
  | .ex _ => none
  | _ => (resVs fn.fz fn.res q.2).map fun r => (backObs r.2 0 n, tupled r.1)
def entered (fn : Fn) (as : List AV) (obs : List Ob) : Option St := if as.length = fn.n ∧ obs.length ≤ 64 then some ⟨argRegs 0 as, argObjs 0 obs⟩ else none
def evFn (X : XF) (k : Nat) (fn : Fn) (as : List AV) (obs : List Ob) : Option (List (Option Ob) × RV) :=
  (entered fn as obs).bind fun σ => (den X k fn.body σ).bind (ended fn obs.length)

end Go.Proofs.YtniakiefibpgmaaGreatDoorK
