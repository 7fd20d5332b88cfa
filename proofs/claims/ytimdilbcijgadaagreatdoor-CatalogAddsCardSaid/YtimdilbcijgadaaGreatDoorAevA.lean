/- A deep evaluator for the code of the model, and its soundness: part 1. -/
import Derived.Calls
import Derived.Orders
import Derived.LoopN
import Derived.Laws.AppendOwn
import Derived.Laws.Slices
import Derived.Laws.Strings
import Derived.Laws.StructEq
import Derived.Laws.Cells
import Derived.Laws.BytesArg
import Derived.Laws.IdiomStrings
import Derived.Laws.MakeOwn
import Derived.Laws.Small
import Derived.Lib.FrozenHead
import Derived.Great.BuildSlice
set_option linter.unusedVariables false
set_option linter.unusedSimpArgs false
section
/- An evaluator of the program's code on plain values: what it is; nothing is claimed here. -/
namespace Go.Aev

/-- Plain data: one cell each; a slice is the list of its elements, each the list of its cells. -/
inductive Dat where
  | int (k : IntKind) (n : Int)
  | bool (b : Bool)
  | str (s : ByteArray)
  | sl (es : List (List Dat))
  | nilP
  | nilF
  | nilI
  /-- an interface value: a pointer of a type to cells that nobody writes -/
  | ifp (t : Nat) (cells : List Dat)

/-- Whose the room behind a slice is: nobody's, there is none, or the one's who bears the mark (elements of so many cells). -/
inductive Own where
  | none
  | full
  | id (t size : Nat)

/-- marks that tell more: behind them lies a room of one's own, or no element -/
def strictO (t : Nat) : Bool := t % 8 == 7

/-- Values of the evaluator. -/
inductive AVal where
  | dat (d : Dat)
  | agg (cells : List (Dat × Own))
  | loc (t off : Nat)
  | imm (cells : List Dat)
  | ref (i off : Nat)
  | clo (f : Fn) (first caps : List AVal)
  | tup (vs : List (AVal × Own))
  | undef
  | junk

abbrev Ent := AVal × Own

inductive Box where
  | cells (l : List AVal)
  | bld (s : ByteArray)

abbrev Sig := List Box

structure St where
  tm : List Ent
  lo : List (Option (List Ent))
  sg : Sig

abbrev CallFn := FuncId → List AVal → Sig → Option (List Ent × Sig)

/-- what goes through a loop: slots that it writes, with their types; variables in memory; slots that it only reads; its exits -/
structure LoopCfg where
  mods : List (Nat × TypeId × Own)
  boxes : List (Nat × TypeId × List Own)
  keeps : List Nat
  exits : List Nat

structure Cfg where
  P : Program
  glob : Nat → Option (List Dat)
  /-- what lies in blocks that nobody writes -/
  low : Nat → Option Obj := fun _ => none
  esc : FuncId → Nat → Bool
  loop : FuncId → Nat → LoopCfg
  join : FuncId → Nat → Bool
  ownRes : FuncId → Option (Nat × Nat)
  /-- functions that are given the row behind their first argument, and give it back: cells of an element -/
  ownArg : FuncId → Option Nat := fun _ => none
  /-- the types of a strings.Builder and of a byte -/
  bld : TypeId × TypeId := (1000000000, 1000000000)
  /-- slices.Grow at some types: cells and bytes of an element -/
  nilGrow : FuncId → Option (Nat × Nat) := fun _ => none
  /-- types of variables that nobody writes once they are made -/
  imm : TypeId → Bool := fun _ => false
  /-- is it told how many draws there were? -/
  dr : Bool := false
  prim : FuncId → Option (List AVal → Sig → Option (List Ent × Sig))

inductive Ex where
  | normal
  | exit (id : Nat)
  | ret

/-- the shapes of cells -/
inductive Shp where
  | int (k : IntKind)
  | bool
  | str
  | sl
  | ifc
  | any

/-! ### shapes by types -/

def shapesOf (P : Program) : Nat → TypeId → Option (List Shp)
  | 0, _ => none
  | n + 1, t =>
    match P.underlying t with
    | some (.int k) => some [.int k]
    | some .bool => some [.bool]
    | some .string => some [.str]
    | some (.slice _) => some [.sl]
    | some (.interface _) => some [.ifc]
    | some (.struct fs) => fs.toList.foldr (fun f acc => (shapesOf P n f.type).bind fun a => acc.map fun r => a ++ r) (some [])
    | some (.array len e) => (shapesOf P n e).map fun a => (List.replicate len a).flatten
    | some _ => some [.any]
    | none => none

def isAggT (P : Program) (t : TypeId) : Bool :=
  match P.underlying t with
  | some (.struct _) | some (.array _ _) => true
  | _ => false

def sizeT (P : Program) (t : TypeId) : Option Nat := (P.info? t).map (·.size)

/-- it may be handed to a call, or laid into a box -/
def handsOn : AVal → Bool
  | .dat _ | .agg _ | .imm _ | .ref _ _ | .clo _ _ _ => true
  | _ => false

/-! ### looking into what may be unknown -/
section
variable {β : Type}

def asInt (k : IntKind) (d : Dat) (F : Int → Option β) : Option β :=
  match d with
  | .int k' n => cond (k' == k) (F n) none
  | _ => none

def asBool (d : Dat) (F : Bool → Option β) : Option β :=
  match d with
  | .bool b => F b
  | _ => none

def asStr (d : Dat) (F : ByteArray → Option β) : Option β :=
  match d with
  | .str s => F s
  | _ => none

def asSl (d : Dat) (F : List (List Dat) → Option β) : Option β :=
  match d with
  | .sl es => F es
  | _ => none

def isIfc : Dat → Bool
  | .nilI | .ifp _ _ => true
  | _ => false
def asIfc (d : Dat) (F : Dat → Option β) : Option β := cond (isIfc d) (F d) none

def asShp (p : Shp) (d : Dat) (F : Dat → Option β) : Option β :=
  match p with
  | .int k => asInt k d fun n => F (.int k n)
  | .bool => asBool d fun b => F (.bool b)
  | .str => asStr d fun s => F (.str s)
  | .sl => asSl d fun es => F (.sl es)
  | .ifc => asIfc d F
  | .any => F d

/-- cell j of a list of cells -/
def cellAt (e : List Dat) (j : Nat) (F : Dat → Option β) : Option β :=
  match e[j]? with
  | some d => F d
  | none => none

/-- cells j, j+1, .. of the shapes -/
def cellsAt (ps : List Shp) (e : List Dat) (j : Nat) (F : List Dat → Option β) : Option β :=
  match ps with
  | [] => F []
  | p :: ps => cellAt e j fun d => asShp p d fun d => cellsAt ps e (j + 1) fun ds => F (d :: ds)

def asDat (a : AVal) (F : Dat → Option β) : Option β :=
  match a with
  | .dat d => F d
  | _ => none

def asAgg (a : AVal) (F : List (Dat × Own) → Option β) : Option β :=
  match a with
  | .agg cs => F cs
  | _ => none

/-- a value that a call gives, of a type -/
def decVal (P : Program) (t : TypeId) (e : Ent) (F : Ent → Option β) : Option β :=
  match shapesOf P 12 t with
  | some [.any] => cond (handsOn e.1) (F (e.1, .none)) none
  | some ps => cond (isAggT P t)
      (asAgg e.1 fun cs => cond (cs.length == ps.length) (cellsAt ps (cs.map (·.1)) 0 fun ds => F (.agg (ds.map (·, .none)), .none)) none)
      (match ps with
       | [p] => asDat e.1 fun d => asShp p d fun d => F (.dat d, .none)
       | _ => none)
  | none => none

/-- a cell of a type -/
def shpA (P : Program) (t : TypeId) (d : Dat) (F : Dat → Option β) : Option β :=
  match shapesOf P 12 t with
  | some [p] => asShp p d F
  | _ => none

def decVals (P : Program) (ts : List TypeId) (es : List Ent) (F : List Ent → Option β) : Option β :=
  match ts with
  | [] => (match es with
    | [] => F []
    | _ => none)
  | t :: ts => (match es with
    | e :: es => decVal P t e fun e => decVals P ts es fun r => F (e :: r)
    | [] => none)

def byteAt (s : ByteArray) (i : Int) (F : UInt8 → Option β) : Option β :=
  cond (decide (0 ≤ i)) (match s.data.toList[i.toNat]? with
    | some b => F b
    | none => none) none

def elemAt (es : List (List Dat)) (i : Int) (F : List Dat → Option β) : Option β :=
  cond (decide (0 ≤ i)) (match es[i.toNat]? with
    | some e => F e
    | none => none) none

def guardB (b : Bool) (x : Option β) : Option β := cond b x none

end

/-- every element has so many cells -/
def sized (es : List (List Dat)) (n : Nat) : Bool := es.all fun e => e.length == n

def esBytes : List (List Dat) → Option (List UInt8)
  | [] => some []
  | [.int .u8 n] :: r => (esBytes r).map fun l => UInt8.ofNat n.toNat :: l
  | _ => none

def bytesEs (s : ByteArray) : List (List Dat) := s.data.toList.map fun b => [.int .u8 b.toNat]

/-! ### states -/

def St.put (s : St) (d : Option Nat) (e : Ent) : St :=
  match d with
  | some t => { s with tm := s.tm.set t e }
  | none => s

def constCell : Value → Option (Dat × Own)
  | .int k n => some (.int k n, .none)
  | .bool b => some (.bool b, .none)
  | .string s => some (.str s, .none)
  | .slice none 0 0 => some (.sl [], .full)
  | .pointer none => some (.nilP, .none)
  | .nilFunc => some (.nilF, .none)
  | .nilIface => some (.nilI, .none)
  | _ => none

def constCells : List Value → Option (List (Dat × Own))
  | [] => some []
  | v :: vs => (constCell v).bind fun d => (constCells vs).map fun ds => d :: ds

def constOf (v : Value) : Ent :=
  match v with
  | .agg cs => (match constCells cs.toList with
    | some l => (.agg l, .none)
    | none => (.junk, .none))
  | v => (match constCell v with
    | some (d, o) => (.dat d, o)
    | none => (.junk, .none))

def St.ev (C : Cfg) (s : St) : Operand → Ent
  | .tmp t => s.tm.getD t (.undef, .none)
  | .const v => constOf v
  | .global g => (match C.glob g with
    | some cells => (.imm cells, .none)
    | none => (.junk, .none))
  | .func f => (.clo (.func f) [] [], .none)

/-- the cells of a value that is to be laid in memory -/
def entCells (e : Ent) : Option (List Ent) :=
  match e.1 with
  | .agg cs => some (cs.map fun c => (.dat c.1, c.2))
  | .dat _ | .imm _ | .ref _ _ | .clo _ _ _ => some [e]
  | _ => none

def datOf : Ent → Option (Dat × Own)
  | (.dat d, o) => some (d, o)
  | _ => none

def datsOf : List Ent → Option (List (Dat × Own))
  | [] => some []
  | e :: es => (datOf e).bind fun d => (datsOf es).map fun ds => d :: ds

/-- cells that hold plain values -/
def datsV : List AVal → Option (List Dat)
  | [] => some []
  | .dat d :: r => (datsV r).map fun ds => d :: ds
  | _ :: _ => none

theorem datsV_some : ∀ {l : List AVal} {ds : List Dat}, datsV l = some ds → l = ds.map .dat
  | [], ds, h => by cases h; rfl
  | .dat d :: r, ds, h => by
    simp only [datsV, Option.map_eq_some_iff] at h
    obtain ⟨ds', h1, rfl⟩ := h
    rw [datsV_some h1]
    rfl

/-- the plain cells of a value -/
def entDats (e : Ent) : Option (List Dat) :=
  match e.1 with
  | .agg cs => some (cs.map (·.1))
  | .dat d => some [d]
  | _ => none

mutual
/-- nothing in it leads to memory that may change -/
def plainA : AVal → Bool
  | .dat _ | .agg _ | .imm _ => true
  | .clo _ first caps => plainL first && plainL caps
  | _ => false
def plainL : List AVal → Bool
  | [] => true
  | a :: l => plainA a && plainL l
end

def handsAll : List AVal → Bool
  | [] => true
  | a :: l => handsOn a && handsAll l

def stripA : AVal → AVal
  | .agg cs => .agg (cs.map fun c => (c.1, .none))
  | a => a

def Own.isId (t : Nat) : Own → Bool
  | .id u _ => u == t
  | _ => false

def clearE (t : Nat) (e : Ent) : Ent :=
  (match e.1 with
   | .agg cs => .agg (cs.map fun c => (c.1, cond (c.2.isId t) .none c.2))
   | .tup vs => .tup (vs.map fun c => (c.1, cond (c.2.isId t) .none c.2))
   | a => a, cond (e.2.isId t) .none e.2)

def clearL (t : Nat) : List Ent → List Ent
  | [] => []
  | e :: l => clearE t e :: clearL t l

def clearB (t : Nat) : List (Option (List Ent)) → List (Option (List Ent))
  | [] => []
  | b :: l => (match b with
    | some c => some (clearL t c)
    | none => none) :: clearB t l

/-- the mark t is nobody's any more -/
def St.clear (s : St) (t : Nat) : St := { s with tm := clearL t s.tm, lo := clearB t s.lo }

/-! ### operations -/

def intBin (op : BinOp) (k : IntKind) (a b : Int) : Option Dat :=
  match op with
  | .add => some (.int k (k.wrap (a + b)))
  | .sub => some (.int k (k.wrap (a - b)))
  | .mul => some (.int k (k.wrap (a * b)))
  | .eql => some (.bool (decide (a = b)))
  | .neq => some (.bool (!decide (a = b)))
  | .lss => some (.bool (decide (a < b)))
  | .leq => some (.bool (decide (a ≤ b)))
  | .gtr => some (.bool (decide (b < a)))
  | .geq => some (.bool (decide (b ≤ a)))
  | .and => some (.int k (k.wrap (BitVec.ofInt k.bits a &&& BitVec.ofInt k.bits b).toNat))
  | .or => some (.int k (k.wrap (BitVec.ofInt k.bits a ||| BitVec.ofInt k.bits b).toNat))
  | .xor => some (.int k (k.wrap (BitVec.ofInt k.bits a ^^^ BitVec.ofInt k.bits b).toNat))
  | .andNot => some (.int k (k.wrap (BitVec.ofInt k.bits a &&& ~~~BitVec.ofInt k.bits b).toNat))
  | _ => none

def strBin (op : BinOp) (a b : ByteArray) : Option Dat :=
  match op with
  | .eql => some (.bool (decide (a = b)))
  | .neq => some (.bool (!decide (a = b)))
  | .lss => some (.bool (Op.bytesLess a.data.toList b.data.toList))
  | .leq => some (.bool (Op.bytesLess a.data.toList b.data.toList || decide (a = b)))
  | .gtr => some (.bool (!(Op.bytesLess a.data.toList b.data.toList || decide (a = b))))
  | .geq => some (.bool (!Op.bytesLess a.data.toList b.data.toList))
  | _ => none

def maxStr : Nat := 2 ^ 60

section
variable {β : Type}

def datBin (op : BinOp) (x y : Dat) (F : Dat → Option β) : Option β :=
  match x, y with
  | .int k a, .int k' b =>
    (match op with
     | .shl => cond (decide (0 ≤ b)) (F (.int k (k.wrap (a * 2 ^ min b.toNat k.bits)))) none
     | .shr => cond (decide (0 ≤ b)) (F (.int k (a.fdiv (2 ^ min b.toNat k.bits)))) none
     | .quo => cond (k == k' && !decide (b = 0)) (F (.int k (k.wrap (a.tdiv b)))) none
     | .rem => cond (k == k' && !decide (b = 0)) (F (.int k (a.tmod b))) none
     | op => cond (k == k') (match intBin op k a b with
       | some d => F d
       | none => none) none)
  | .str a, .str b =>
    (match op with
     | .add => cond (decide (a.size + b.size ≤ maxStr)) (F (.str (a ++ b))) none
     | op => (match strBin op a b with
       | some d => F d
       | none => none))
  | _, _ => none

def isBoolT (P : Program) (t : TypeId) : Bool :=
  match P.underlying t with
  | some .bool => true
  | _ => false

def cellEq : Shp → Dat → Dat → Option Bool
  | .int k, .int k1 a, .int k2 b => cond (k1 == k && k2 == k) (some (decide (a = b))) none
  | .str, .str a, .str b => some (decide (a = b))
  | .bool, .bool a, .bool b => some (a == b)
  | _, _, _ => none

def cellsEq : List Shp → List (Dat × Own) → List (Dat × Own) → Option Bool
  | [], [], [] => some true
  | p :: ps, x :: xs, y :: ys => (cellEq p x.1 y.1).bind fun b => (cellsEq ps xs ys).map fun r => b && r
  | _, _, _ => none

/-- structs of plain cells that lie side by side: their cells -/
def flatT (P : Program) : Nat → TypeId → Option (List Shp)
  | 0, _ => none
  | n + 1, t =>
    match P.underlying t with
    | some (.int k) => some [.int k]
    | some .bool => some [.bool]
    | some .string => some [.str]
    | some (.struct fs) => cond (P.stoodInHeld t) none
        ((fs.toList.foldl (fun (acc : Option (List Shp)) f => acc.bind fun l => cond (f.name != "_" && f.offset == l.length) ((flatT P n f.type).map fun r => l ++ r) none) (some [])).bind fun l =>
          cond (sizeT P t == some l.length) (some l) none)
    | _ => none

def binA (P : Program) (op : BinOp) (t : TypeId) (x y : AVal) (F : Dat → Option β) : Option β :=
  match x, y with
  | .dat (.bool a), .dat (.bool b) => cond (isBoolT P t) (match op with
     | .eql => F (.bool (a == b))
     | .neq => F (.bool (!(a == b)))
     | _ => none) none
  | .dat a, .dat b => datBin op a b F
  | .agg xs, .agg ys =>
    (match op with
     | .eql => cond (isAggT P t && !P.eqGuardType P.depth t) (match (flatT P 12 t).bind fun ps => cellsEq ps xs ys with
       | some b => F (.bool b)
       | none => none) none
     | .neq => cond (isAggT P t && !P.eqGuardType P.depth t) (match (flatT P 12 t).bind fun ps => cellsEq ps xs ys with
       | some b => F (.bool (!b))
       | none => none) none
     | _ => none)
  | _, _ => none

def isNilI : Dat → Bool
  | .nilI => true
  | _ => false
def isIfcT (P : Program) (t : TypeId) : Bool :=
  match P.underlying t with
  | some (.interface _) => true
  | _ => false
def concT (P : Program) (t : TypeId) : Bool :=
  match P.underlying t with
  | some (.interface _) => false
  | some _ => true
  | none => false
def nilO : Operand → Bool
  | .const .nilIface => true
  | _ => false
/-- an interface value beside the literal nil -/
def nilA (P : Program) (op : BinOp) (t : TypeId) (x : AVal) (F : Dat → Option β) : Option β :=
  match op, x with
  | .eql, .dat d => cond (isIfcT P t && isIfc d) (F (.bool (isNilI d))) none
  | .neq, .dat d => cond (isIfcT P t && isIfc d) (F (.bool (!isNilI d))) none
  | _, _ => none
def unA (op : UnOp) (x : AVal) (F : Dat → Option β) : Option β :=
  match op, x with
  | .neg, .dat (.int k n) => F (.int k (k.wrap (0 - n)))
  | .not, .dat (.bool b) => F (.bool (!b))
  | _, _ => none

def convA (P : Program) (src dst : TypeId) (x : AVal) (F : Dat → Option β) : Option β :=
  match P.underlying src, P.underlying dst, x with
  | some (.int _), some (.int k), .dat (.int _ n) => F (.int k (k.wrap n))
  | some .string, some .string, .dat (.str s) => F (.str s)
  | some .string, some (.slice e), .dat (.str s) => cond ((match P.underlying e with
      | some (.int .u8) => true
      | _ => false) && decide (s.size ≤ maxStr)) (F (.sl (bytesEs s))) none
  | some (.slice e), some .string, .dat (.sl es) => cond (match P.underlying e with
      | some (.int .u8) => true
      | _ => false) (match esBytes es with
        | some l => F (.str ⟨l.toArray⟩)
        | none => none) none
  | _, _, _ => none

/-- a bound of a slice expression -/
def boundA (ev : Operand → Ent) (x : Option Operand) (d : Int) (F : Int → Option β) : Option β :=
  match x with
  | none => F d
  | some o => asDat (ev o).1 fun v => (match v with
    | .int _ n => F n
    | _ => none)

def fieldOf (P : Program) (t : TypeId) (i : Nat) : Option Field :=
  match P.underlying t with
  | some (.struct fs) => fs[i]?
  | _ => none

def zeroCells (P : Program) (t : TypeId) : Option (List (Dat × Own)) :=
  ((P.info? t).bind (·.zero)).bind fun v => constCells v.cells.toList

/-- the parts of a literal laid into its cells -/
def fillA (ev : Operand → Ent) (place : Nat → Option (Nat × Nat)) (cells : List (Dat × Own)) : List (Nat × Operand) → Option (List (Dat × Own))
  | [] => some cells
  | (i, x) :: rest =>
    match place i, (entCells (ev x)).bind datsOf with
    | some (off, size), some ds =>
      cond (ds.length == size && decide (off + size ≤ cells.length)) (fillA ev place (cells.take off ++ ds ++ cells.drop (off + size)) rest) none
    | _, _ => none

/-- a list in parts of n -/
def chunks (n : Nat) : Nat → List Dat → List (List Dat)
  | 0, _ => []
  | m + 1, l => l.take n :: chunks n m (l.drop n)

def setBox (l : List Ent) (off : Nat) : List Ent → List Ent
  | [] => l
  | e :: r => setBox (l.set off e) (off + 1) r

def setCells (l : List AVal) (off : Nat) : List Ent → List AVal
  | [] => l
  | e :: r => setCells (l.set off e.1) (off + 1) r

def sgBox (sg : Sig) (i : Nat) (F : List AVal → Option β) : Option β :=
  match sg[i]? with
  | some (.cells l) => F l
  | _ => none

def cellA (l : List AVal) (j : Nat) (F : AVal → Option β) : Option β :=
  match l[j]? with
  | some a => F a
  | none => none

/-- What an operation does: a slot's new value; a new variable of the frame; what others see, and a value; variables of the frame, and a value; a mark that is nobody's any more, and a value. -/
inductive Dl where
  | val (e : Ent)
  | box (cells : List Ent)
  | sig (sg : Sig) (e : Ent)
  | los (lo : List (Option (List Ent))) (e : Ent)
  | clr (t : Nat) (e : Ent)

def Dl.apply (d : Dl) (s : St) (dst : Option Nat) : St :=
  match d with
  | .val e => s.put dst e
  | .box cells => (match dst with
    | some t => { s with tm := s.tm.set t (.loc t 0, .none), lo := s.lo.set t (some cells) }
    | none => s)
  | .sig sg e => St.put { s with sg := sg } dst e
  | .los lo e => St.put { s with lo := lo } dst e
  | .clr t e => (s.clear t).put dst e

/-- what is loaded of a type -/
def loadA (C : Cfg) (ns : Bool) (lo : List (Option (List Ent))) (sg : Sig) (t : TypeId) (p : AVal) (F : Ent → Option β) : Option β :=
  match sizeT C.P t, C.P.underlying t with
  | some size, some _ =>
    (match p with
    | .loc u off =>
      (match lo.getD u none with
       | some cells => cond (isAggT C.P t)
           (cond (decide (off + size ≤ cells.length)) (match datsOf ((cells.drop off).take size) with
             | some ds => F (.agg ds, .none)
             | none => none) none)
           (match cells[off]? with
            | some e => cond (handsOn e.1) (F e) none
            | none => none)
       | none => none)
    | .imm cells =>
      (match shapesOf C.P 12 t with
       | some ps => cond (isAggT C.P t)
           (cond (ps.length == size) (cellsAt ps cells 0 fun ds => F (.agg (ds.map (·, .none)), .none)) none)
           (match ps with
            | [p] => cellAt cells 0 fun d => asShp p d fun d => F (.dat d, .none)
            | _ => none)
       | none => none)
    | .ref i off => cond ns none <| sgBox sg i fun l => cond (isAggT C.P t)
        (cond (decide (off + size ≤ l.length)) (match datsV ((l.drop off).take size) with
          | some ds => F (.agg (ds.map (·, .none)), .none)
          | none => none) none)
        (cellA l off fun a => decVal C.P t (a, .none) F)
    | _ => none)
  | _, _ => none

def storeA (C : Cfg) (ns : Bool) (lo : List (Option (List Ent))) (sg : Sig) (t : TypeId) (p : AVal) (e : Ent) (K : Dl → Option β) : Option β :=
  match sizeT C.P t, entCells e with
  | some size, some cs => cond (cs.length == size) (match p with
    | .loc u off =>
      (match lo.getD u none with
       | some cells => cond (decide (off + size ≤ cells.length)) (K (.los (lo.set u (some (setBox cells off cs))) (.undef, .none))) none
       | none => none)
    | .ref i off => cond (ns || !plainA e.1) none <| sgBox sg i fun l =>
        cond (decide (off + size ≤ l.length)) (K (.sig (sg.set i (Box.cells (setCells l off cs))) (.undef, .none))) none
    | _ => none) none
  | _, _ => none

/-- a variable that nobody will write -/
def immA (P : Program) (t : TypeId) (e : Ent) (K : Dl → Option β) : Option β :=
  match entDats e, sizeT P t with
  | some ds, some n => cond (ds.length == n) (K (.val (.imm ds, .none))) none
  | _, _ => none

/-- a new variable -/
def newA (C : Cfg) (f : FuncId) (ns : Bool) (lo : List (Option (List Ent))) (sg : Sig) (dst : Option Nat) (cells : List Ent) (K : Dl → Option β) : Option β :=
  match dst with
  | none => none
  | some t =>
    cond (C.esc f t)
      (cond (ns || !handsAll (cells.map fun c => c.1)) none (K (.sig (sg ++ [Box.cells (cells.map fun c => c.1)]) (.ref sg.length 0, .none))))
      (match lo.getD t none with
       | none => cond (decide (t < lo.length)) (K (.box cells)) none
       | some _ => none)

def zeroBld : List (Dat × Own) → Bool
  | [(.nilP, _), (.sl [], _)] => true
  | _ => false

/-- a new builder -/
def newB (C : Cfg) (f : FuncId) (ns : Bool) (sg : Sig) (dst : Option Nat) (cs : List (Dat × Own)) (K : Dl → Option β) : Option β :=
  match dst with
  | none => none
  | some t => cond (C.esc f t && !ns && zeroBld cs) (K (.sig (sg ++ [Box.bld ⟨#[]⟩]) (.ref sg.length 0, .none))) none

def roomMax : Nat := 70368744177664

/-- what is appended: the elements of another slice, or a string's bytes -/
def newsA (P : Program) (el : TypeId) (ty : TypeDesc) (dy : Dat) : Option (List (List Dat)) :=
  match ty, dy with
  | .slice el', .sl fs => cond (el == el') (some fs) none
  | .string, .str b => (match P.underlying el with
    | some (.int .u8) => some (bytesEs b)
    | _ => none)
  | _, _ => none

/-- the zero value of a type is known, of its size -/
def zeroOk (i : TypeInfo) : Bool :=
  match i.zero with
  | some z => z.cells.size == i.size
  | none => false

def appendA (C : Cfg) (dst : Option Nat) (ts : Array TypeId) (x y : Ent) (K : Dl → Option β) : Option β :=
  match dst, (ts[0]?).bind C.P.underlying, (ts[1]?).bind C.P.underlying with
  | some d, some (.slice el), some ty =>
    (match C.P.info? el, x, y.1 with
     | some i, (.dat (.sl es), own), .dat dy =>
       (match newsA C.P el ty dy with
        | some fs =>
          cond (sized es i.size && sized fs i.size && decide (0 < i.size) && decide ((es.length + fs.length) * (i.bytes + 1) ≤ roomMax) && zeroOk i)
            (match own with
             | .id t size => cond (size == i.size) (K (.clr t (.dat (.sl (es ++ fs)), .id t i.size))) none
             | .full => K (.clr (8 * d) (.dat (.sl (es ++ fs)), .id (8 * d) i.size))
             | .none => none) none
        | none => none)
     | _, _, _ => none)
  | _, _, _ => none

def minA (mx : Bool) : List AVal → Option Dat
  | [.dat (.int k a), .dat (.int k' b)] => cond (k == k') (some (.int k (cond mx (max a b) (min a b)))) none
  | [.dat (.int k a), .dat (.int k' b), .dat (.int k'' c)] => cond (k == k' && k == k'') (some (.int k (cond mx (max (max a b) c) (min (min a b) c)))) none
  | _ => none

def lenA (P : Program) (ts : Array TypeId) (x : AVal) (F : Dat → Option β) : Option β :=
  match (ts[0]?).bind P.underlying, x with
  | some .string, .dat (.str s) => F (.int .i64 s.size)
  | some (.slice _), .dat (.sl es) => F (.int .i64 es.length)
  | some (.array n _), _ => F (.int .i64 n)
  | _, _ => none

/-- several results are one value -/
def joinE : List Ent → Ent
  | [r] => r
  | rs => (.tup rs, .none)

def markAt (i : Nat) (o : Own) : List Ent → List Ent
  | [] => []
  | e :: r => (match i with
    | 0 => (e.1, o) :: r
    | i + 1 => e :: markAt i o r)

/-- has a result the mark that is promised? -/
def hasMark (rs : List Ent) (i n : Nat) : Bool :=
  match rs[i]? with
  | some (_, .id _ m) => n == m
  | _ => false

def plainT (P : Program) (t : TypeId) : Bool :=
  match shapesOf P 12 t with
  | some ps => ps.all fun p => match p with
    | .any => false
    | _ => true
  | none => false

def callA (C : Cfg) (call : CallFn) (ns : Bool) (sg : Sig) (dst : Option Nat) (g : FuncId) (args : List AVal) (K : Dl → Option β) : Option β :=
  match C.P.funcs[g]?, dst with
  | some fn, some d =>
    cond (!handsAll args || fn.body.isNone || (C.ownArg g).isSome) none <|
    cond (plainL args && fn.resultTypes.toList.all (plainT C.P))
      ((call g (args.map stripA) []).bind fun r => decVals C.P fn.resultTypes.toList r.1 fun rs =>
        match C.ownRes g with
        | some (i, n) => cond (hasMark r.1 i n) (K (.clr (8 * d) (joinE (markAt i (.id (8 * d) n) rs)))) none
        | none => K (.val (joinE rs)))
      (cond (ns || (C.ownRes g).isSome) none ((call g (args.map stripA) sg).bind fun r => decVals C.P fn.resultTypes.toList r.1 fun rs => K (.sig r.2 (joinE rs))))
  | _, _ => none

/-- slices.Grow of no slice -/
def nilGrowOf (C : Cfg) (fo : Operand) (args : List Operand) : Option ((Nat × Nat) × Operand) :=
  match fo, args with
  | .func g, [.const (.slice none 0 0), x] => (C.nilGrow g).map fun z => (z, x)
  | _, _ => none

def growA (dst : Option Nat) (z : Nat × Nat) (x : AVal) (K : Dl → Option β) : Option β :=
  match dst, x with
  | some d, .dat (.int .i64 n) => cond (decide (0 ≤ n) && decide (n.toNat * (z.2 + 1) ≤ roomMax) && decide (0 < z.1)) (K (.clr (8 * d) (.dat (.sl []), .id (8 * d) z.1))) none
  | _, _ => none

/-- a call that is given a row -/
def ownArgOf (C : Cfg) (fo : Operand) (args : List Operand) : Option ((FuncId × Nat) × Operand × List Operand) :=
  match fo, args with
  | .func g, x :: rest => (C.ownArg g).map fun z => ((g, z), x, rest)
  | _, _ => none

def ownRes1 (z : Nat) (rs : List Ent) (F : List (List Dat) → Option β) : Option β :=
  match rs with
  | [(.dat (.sl fs), .id _ m)] => cond (m == z) (F fs) none
  | _ => none

def ownCallA (C : Cfg) (call : CallFn) (g : FuncId) (z : Nat) (x : Ent) (rest : List AVal) (K : Dl → Option β) : Option β :=
  match C.P.funcs[g]?, x with
  | some fn, (.dat (.sl es), .id t n) =>
    cond (handsAll rest && plainL rest && fn.body.isSome && n == z && !strictO t)
      ((call g (.dat (.sl es) :: rest.map stripA) []).bind fun r => ownRes1 z r.1 fun fs => K (.clr t (.dat (.sl fs), .id t z))) none
  | _, _ => none

def isFuncO : Operand → Bool
  | .func _ => true
  | _ => false

/-- a number's cases: k, k + 1, .. (so that a place in a box of the frame's own is a plain number) -/
def splitN : Nat → Nat → Nat → (Nat → Option β) → Option β
  | 0, _, _, _ => none
  | m + 1, k, i, F => cond (decide (i = k)) (F k) (splitN m (k + 1) i F)
theorem splitN_in : ∀ {m k i : Nat} {F : Nat → Option β}, k ≤ i → i < k + m → splitN m k i F = F i
  | 0, k, i, F, h1, h2 => by omega
  | m + 1, k, i, F, h1, h2 => by
    unfold splitN
    by_cases h : i = k
    · rw [decide_eq_true h, cond_true, h]
    · rw [decide_eq_false h, cond_false]
      exact splitN_in (by omega) (by omega)
theorem splitN_map {γ : Type _} (f : β → γ) : ∀ {m k i : Nat} {F : Nat → Option β}, (splitN m k i F).map f = splitN m k i fun j => (F j).map f
  | 0, k, i, F => rfl
  | m + 1, k, i, F => by
    unfold splitN
    cases decide (i = k) with
    | true => rfl
    | false => exact splitN_map f

/-- what an operation does, by the operands' values and what lies in memory -/
def evD (C : Cfg) (call : CallFn) (f : FuncId) (ns : Bool) (ev : Operand → Ent) (lo : List (Option (List Ent))) (sg : Sig) (o : Oper) (K : Dl → Option β) : Option β :=
  match o.op with
  | .move x | .assign x => K (.val (ev x))
  | .pick c a b =>
    (match (ev c).1 with
     | .dat (.bool t) =>
       (match ev a, ev b with
        | (.dat (.bool p), _), (.dat (.bool q), _) => K (.val (.dat (.bool (cond t p q)), .none))
        | x, y => cond t (K (.val x)) (K (.val y)))
     | _ => none)
  | .alloc t => (match zeroCells C.P t with
    | some cs => cond (t == C.bld.1) (newB C f ns sg o.dst cs K) (newA C f ns lo sg o.dst (cs.map fun c => (.dat c.1, c.2)) K)
    | none => none)
  | .box t x => cond (C.imm t) (immA C.P t (ev x) K) (match entCells (ev x), sizeT C.P t with
    | some cs, some n => cond (cs.length == n && !(t == C.bld.1)) (newA C f ns lo sg o.dst cs K) none
    | _, _ => none)
  | .makeInterface t x =>
    (match (ev x).1 with
     | .imm cs => cond (concT C.P t) (K (.val (.dat (.ifp t cs), .none))) none
     | _ => none)
  | .build t parts =>
    (match C.P.underlying t, zeroCells C.P t with
     | some (.struct fs), some zs => (match fs.toList.mapM (fun f => (C.P.info? f.type).map fun i => (f.offset, i.size)) with
       | some places => (match fillA ev (fun i => places.toArray[i]?) zs parts.toList with
         | some cs => K (.val (.agg cs, .none))
         | none => none)
       | none => none)
     | some (.array _ e), some zs => (match sizeT C.P e with
       | some n => (match fillA ev (fun i => some (i * n, n)) zs parts.toList with
         | some cs => K (.val (.agg cs, .none))
         | none => none)
       | none => none)
     | _, _ => none)
  | .buildSlice t len parts =>
    (match C.P.underlying t, o.dst with
     | some (.slice e), some d => (match sizeT C.P e, zeroCells C.P e with
       | some n, some zs => cond (decide (len * n ≤ 16777216) && zs.length == n && decide (0 < n)) (match fillA ev (fun i => some (i * n, n)) ((List.replicate len zs).flatten) parts.toList with
         | some cs => cond (len == 1) (K (.val (.dat (.sl (chunks n len (cs.map (·.1)))), .full))) (K (.clr (8 * d) (.dat (.sl (chunks n len (cs.map (·.1)))), .id (8 * d) n)))
         | none => none) none
       | _, _ => none)
     | _, _ => none)
  | .load t p => loadA C ns lo sg t (ev p).1 fun e => K (.val e)
  | .store t p x => storeA C ns lo sg t (ev p).1 (ev x) K
  | .nilCheck x =>
    (match ev x with
     | (.loc u off, w) => K (.val (.loc u off, w))
     | (.imm cs, w) => K (.val (.imm cs, w))
     | (.ref i off, w) => K (.val (.ref i off, w))
     | _ => none)
  | .binOp op t x y _ => cond (nilO y) (nilA C.P op t (ev x).1 fun d => K (.val (.dat d, .none))) (binA C.P op t (ev x).1 (ev y).1 fun d => K (.val (.dat d, .none)))
  | .unOp op _ x => unA op (ev x).1 fun d => K (.val (.dat d, .none))
  | .convert src dst x => convA C.P src dst (ev x).1 fun d => K (.val (.dat d, .none))
  | .makeFunc fn first caps =>
    let l := first.toList.map fun x => (ev x).1
    let r := caps.toList.map fun x => (ev x).1
    cond (handsAll l && handsAll r) (K (.val (.clo fn (l.map stripA) (r.map stripA), .none))) none
  | .makeSlice t l c =>
    (match C.P.underlying t, o.dst, (ev l).1, (ev c).1 with
     | some (.slice e), some d, .dat (.int .i64 l), .dat (.int .i64 c) => (match C.P.info? e, zeroCells C.P e with
       | some i, some zs => cond (decide (0 ≤ l) && decide (l ≤ c) && decide (c * (i.bytes + 1) ≤ roomMax) && zs.length == i.size && decide (0 < i.size))
           (K (.clr (8 * d) (.dat (.sl (List.replicate l.toNat (zs.map (·.1)))), .id (8 * d) i.size))) none
       | _, _ => none)
     | _, _, _, _ => none)
  | .slice t x lo hi mx =>
    (match C.P.underlying t, (ev x).1 with
     | some .string, .dat (.str b) => boundA ev lo 0 fun l => boundA ev hi b.size fun h =>
         cond (decide (0 ≤ l) && decide (l ≤ h) && decide (h ≤ b.size) && mx.isNone) (K (.val (.dat (.str (b.extract l.toNat h.toNat)), .none))) none
     | some (.slice e), .dat (.sl es) => boundA ev lo 0 fun l => boundA ev hi es.length fun h => boundA ev mx (-1) fun m =>
         (match sizeT C.P e with
          | some n => cond (decide (0 ≤ l) && decide (l ≤ h) && decide (h ≤ es.length) && (mx.isNone || (hi.isSome && decide (m = h))) && (lo.isNone || sized es n))
              (K (.val (.dat (.sl ((es.take h.toNat).drop l.toNat)), cond mx.isNone .none .full))) none
          | none => none)
     | _, _ => none)
  | .fieldAddr t x i =>
    (match fieldOf C.P t i with
     | some fd => (match sizeT C.P fd.type with
       | some n => cond (n == 0) none (match (ev x).1 with
         | .loc u off => K (.val (.loc u (off + fd.offset), .none))
         | .imm cs => K (.val (.imm (cs.drop fd.offset), .none))
         | .ref u off => K (.val (.ref u (off + fd.offset), .none))
         | _ => none)
       | none => none)
     | none => none)
  | .field t x i =>
    (match fieldOf C.P t i, (ev x).1 with
     | some fd, .agg cs => (match sizeT C.P fd.type, C.P.underlying fd.type with
       | some n, some _ => cond (isAggT C.P fd.type)
           (cond (decide (fd.offset + n ≤ cs.length)) (K (.val (.agg ((cs.drop fd.offset).take n), .none))) none)
           (match cs[fd.offset]? with
            | some c => K (.val (.dat c.1, c.2))
            | none => none)
       | _, _ => none)
     | _, _ => none)
  | .indexAddr t x i =>
    (match C.P.underlying t, (ev x).1, (ev i).1 with
     | some (.slice e), .dat (.sl es), .dat (.int _ n) => (match sizeT C.P e with
       | some z => elemAt es n fun c => cond (c.length == z) (K (.val (.imm c, .none))) none
       | none => none)
     | some (.array len e), p, .dat (.int _ n) => (match sizeT C.P e with
       | some z => cond (decide (0 ≤ n) && decide (n < len)) (match p with
         | .loc u off => splitN len 0 n.toNat fun k => K (.val (.loc u (off + k * z), .none))
         | .imm cs => K (.val (.imm (cs.drop (n.toNat * z)), .none))
         | .ref u off => K (.val (.ref u (off + n.toNat * z), .none))
         | _ => none) none
       | none => none)
     | _, _, _ => none)
  | .index t x i =>
    (match C.P.underlying t, (ev x).1, (ev i).1 with
     | some .string, .dat (.str b), .dat (.int _ n) => byteAt b n fun c => K (.val (.dat (.int .u8 c.toNat), .none))
     | some (.array len e), .agg cs, .dat (.int _ n) => (match sizeT C.P e, C.P.underlying e with
       | some z, some _ => cond (decide (0 ≤ n) && decide (n < len) && !isAggT C.P e) (match cs[n.toNat * z]? with
         | some c => shpA C.P e c.1 fun d => K (.val (.dat d, .none))
         | none => none) none
       | _, _ => none)
     | _, _, _ => none)
  | .extract x i =>
    (match (ev x).1 with
     | .tup vs => (match vs[i]? with
       | some e => K (.val e)
       | none => none)
     | _ => none)
  | .call c =>
    (match c.callee with
     | .builtin .len => (match c.args.toList with
       | [x] => lenA C.P c.argTypes (ev x).1 fun d => K (.val (.dat d, .none))
       | _ => none)
     | .builtin .append => (match c.args.toList with
       | [x, y] => appendA C o.dst c.argTypes (ev x) (ev y) K
       | _ => none)
     | .builtin .max => (match minA true (c.args.toList.map fun x => (ev x).1) with
       | some d => K (.val (.dat d, .none))
       | none => none)
     | .builtin .min => (match minA false (c.args.toList.map fun x => (ev x).1) with
       | some d => K (.val (.dat d, .none))
       | none => none)
     | .value fo => (match nilGrowOf C fo c.args.toList with
       | some p => growA o.dst p.1 (ev p.2).1 K
       | none => match ownArgOf C fo c.args.toList with
       | some p => ownCallA C call p.1.1 p.1.2 (ev p.2.1) (p.2.2.map fun x => (ev x).1) K
       | none => match (ev fo).1 with
       | .clo (.func g) first caps => cond (isFuncO fo || (C.ownRes g).isNone) (callA C call ns sg o.dst g (first ++ c.args.toList.map (fun x => (ev x).1) ++ caps) K) none
       | _ => none)
     | _ => none)
  | _ => none

def evOp (C : Cfg) (call : CallFn) (f : FuncId) (ns : Bool) (s : St) (o : Oper) (K : St → Option β) : Option β :=
  evD C call f ns (s.ev C) s.lo s.sg o fun d => K (d.apply s o.dst)

/-- an operation and its guard: what decides it is known from then on -/
def evOper (C : Cfg) (call : CallFn) (f : FuncId) (ns : Bool) (ops : Array Oper) (s : St) (o : Oper) (K : St → Option β) : Option β :=
  match o.guard with
  | none => evOp C call f ns s o K
  | some (j, want) =>
    match (ops[j]?).bind (·.dst) with
    | none => K (s.put o.dst (.undef, .none))
    | some d =>
      match s.tm[d]? with
      | some (.dat (.bool b), w) =>
        cond b
          (let s := s.put (some d) (.dat (.bool true), w)
           cond want (evOp C call f ns s o K) (K (s.put o.dst (.undef, .none))))
          (let s := s.put (some d) (.dat (.bool false), w)
           cond want (K (s.put o.dst (.undef, .none))) (evOp C call f ns s o K))
      | some (.undef, _) => K (s.put o.dst (.undef, .none))
      | _ => none

/-- which operations of a region may not look at boxes that others see: those that stand in no order with a call -/
def evOps (C : Cfg) (call : CallFn) (f : FuncId) (ops : Array Oper) (ns : Nat → Bool) : Nat → List Oper → St → (St → Option β) → Option β
  | _, [], s, K => K s
  | i, o :: r, s, K => evOper C call f (ns i) ops s o fun s => evOps C call f ops ns (i + 1) r s K

end

/-! ### regions whose order is open: a check that the order does not matter -/

/-- what stands ahead of an operation, as bits -/
def maskOf (acc : List Nat) (o : Oper) : Nat :=
  o.after.toList.foldl (fun s e => cond (Region.binds .any e) (s ||| 2 ^ e.on ||| acc.getD e.on 0) s) 0

def beforesFrom : List Nat → List Oper → List Nat
  | acc, [] => acc
  | acc, o :: r => beforesFrom (acc ++ [maskOf acc o]) r

def befores (ops : List Oper) : List Nat := beforesFrom [] ops

def opTmps (o : Oper) (ops : Array Oper) : List Nat :=
  (o.op.operands.toList.filterMap fun | .tmp t => some t | _ => none) ++
    (match o.guard with
     | some (j, _) => ((ops[j]?).bind (·.dst)).toList
     | none => [])

/-- 0: looks at no memory; 1: loads; 2: a call; 3: all else -/
def opKind (C : Cfg) (f : FuncId) (dst : Option Nat) (op : Op) : Nat :=
  match op with
  | .move _ | .assign _ | .pick .. | .build .. | .nilCheck _ | .binOp .. | .unOp .. | .convert .. | .makeFunc .. | .slice .. | .fieldAddr .. | .field ..
  | .indexAddr .. | .index .. | .extract .. | .makeInterface .. => 0
  | .alloc _ => (match dst with
    | some t => cond (C.esc f t) 3 1
    | none => 3)
  | .box ty _ => cond (C.imm ty) 0 (match dst with
    | some t => cond (C.esc f t) 3 1
    | none => 3)
  | .buildSlice _ len _ => cond (len == 1) 0 3
  | .load .. => 1
  | .call { callee := .builtin .len, .. } | .call { callee := .builtin .min, .. } | .call { callee := .builtin .max, .. } => 0
  | .call { callee := .value (.func g), .. } => cond ((C.ownRes g).isNone && (C.nilGrow g).isNone && (C.ownArg g).isNone) 2 3
  | .call { callee := .value _, .. } => 2
  | _ => 3

def isNew (C : Cfg) : Op → Bool
  | .alloc _ => true
  | .box t _ => !(C.imm t)
  | _ => false

/-- the slot that holds the place a store writes to -/
def stPtr : Op → Option Nat
  | .store _ (.tmp k) _ => some k
  | _ => none

/-- the slot that holds the place a load reads -/
def ldPtr : Op → Option Nat
  | .load _ (.tmp k) => some k
  | _ => none

/-- what may change places with a store elsewhere -/
def softOp (C : Cfg) (f : FuncId) (o : Oper) : Bool :=
  decide (opKind C f o.dst o.op ≤ 2) && !isNew C o.op && (match o.op with
    | .load _ p => (match p with
      | .tmp _ => true
      | _ => false)
    | _ => true)

/-- the slot is not written from here on -/
def noWrite (ops : Array Oper) (p : Option Nat) (m : Nat) : Bool :=
  match p with
  | none => true
  | some k => (List.range ops.size).all fun n => decide (n < m) || (match ops[n]? with
    | some o => !(o.dst == some k)
    | none => true)

/-- the cells of a type are known -/
def oneCell (C : Cfg) (t : TypeId) : Bool :=
  match shapesOf C.P 12 t with
  | some [.any] => false
  | some _ => true
  | none => false

/-- what may change places with a slice that is made or grown -/
def plainOp (C : Cfg) (o : Oper) : Bool :=
  o.guard.isNone && match o.op with
  | .move (.tmp _) | .assign (.tmp _) | .fieldAddr _ (.tmp _) _ | .indexAddr _ (.tmp _) (.tmp _) | .indexAddr _ (.tmp _) (.const _) => true
  | .load t (.tmp _) => oneCell C t
  | .slice .. => true
  | _ => false

/-- a slice is made or grown -/
def growOp (C : Cfg) (o : Oper) : Bool :=
  o.guard.isNone && match o.op with
  | .buildSlice _ len _ => !(len == 1)
  | .call { callee := .builtin .append, .. } => true
  | .call { callee := .value (.func g), .. } => (C.ownRes g).isSome && (C.nilGrow g).isNone && (C.ownArg g).isNone
  | _ => false

/-- an operation without its guard -/
def bareO (o : Oper) : Oper := { o with guard := none }

/-- an operation that no mark concerns: a plain one, a new variable, a literal, a call whose results are plain -/
def freeOp (C : Cfg) (f : FuncId) (o : Oper) : Bool :=
  plainOp C o || (o.guard.isNone && decide (opKind C f o.dst o.op ≤ 2) && match o.op with
    | .alloc _ => true
    | .build .. => true
    | .buildSlice _ len _ => len == 1
    | .call { callee := .value (.func g), .. } => (C.ownRes g).isNone && (C.nilGrow g).isNone && (C.ownArg g).isNone && (match C.P.funcs[g]? with
      | some fn => fn.resultTypes.toList.all (plainT C.P)
      | none => false)
    | _ => false)

/-- a slice is made of its own -/
def freshOp (C : Cfg) (o : Oper) : Bool :=
  o.guard.isNone && match o.op with
  | .buildSlice _ len _ => !(len == 1)
  | .call { callee := .value (.func g), .. } => (C.ownRes g).isSome && (C.nilGrow g).isNone && (C.ownArg g).isNone && (match C.P.funcs[g]? with
    | some fn => fn.resultTypes.toList.all (plainT C.P)
    | none => false)
  | _ => false

/-- may two operations that stand in no order change places? -/
def swapOk (C : Cfg) (f : FuncId) (ops : Array Oper) (a b : Oper) : Bool :=
  (match a.dst with
   | some d => !(opTmps b ops).contains d && !(b.dst == some d)
   | none => true) &&
  (match b.dst with
   | some d => !(opTmps a ops).contains d
   | none => true) &&
  ((decide (opKind C f a.dst a.op ≤ 2) && decide (opKind C f b.dst b.op ≤ 2)) || ((stPtr a.op).isSome && softOp C f b) || (softOp C f a && (stPtr b.op).isSome) ||
    (growOp C (bareO a) && freeOp C f (bareO b)) || (freeOp C f (bareO a) && growOp C (bareO b)) || (freshOp C (bareO a) && freshOp C (bareO b)))

/-- where a store writes and where a load reads, once all is done: two variables of the frame's own -/
def apartA (s : St) (k : Nat) (l : Option Nat) : Bool :=
  match (s.tm.getD k (.undef, .none)).1 with
  | .loc u _ => (match l with
    | none => true
    | some j => (match (s.tm.getD j (.undef, .none)).1 with
      | .loc v _ => !(v == u)
      | .imm _ => true
      | .ref _ _ => true
      | _ => false))
  | _ => false

def apart (s : St) (a b : Oper) : Bool :=
  match stPtr a.op with
  | some k => apartA s k (ldPtr b.op)
  | none => (match stPtr b.op with
    | some k => apartA s k (ldPtr a.op)
    | none => true)

/-- it stands in no order with a call, itself not counted -/
def noSigs (C : Cfg) (f : FuncId) (ops : List Oper) (b : List Nat) (i : Nat) : Bool :=
  (List.range ops.length).any fun j => j != i && (match ops[j]? with
    | some o => opKind C f o.dst o.op == 2
    | none => false) && !(Nat.testBit (b.getD (max i j) 0) (min i j))

def drawOk (C : Cfg) (f : FuncId) (ops : Array Oper) (b : List Nat) : Bool :=
  ((List.range ops.size).all fun j => match ops[j]? with
    | some o => (o.after.toList.all fun e => !(Region.binds .any e) || decide (e.on < j)) && noWrite ops (stPtr o.op) j && noWrite ops (ldPtr o.op) j
    | none => false) &&
  (List.range ops.size).all fun j => (List.range j).all fun i => Nat.testBit (b.getD j 0) i || (match ops[i]?, ops[j]? with
    | some x, some y => swapOk C f ops x y
    | _, _ => false)

/-- stores lead elsewhere than the loads that stand in no order with them -/
def drawDyn (ops : Array Oper) (b : List Nat) (s : St) : Bool :=
  (List.range ops.size).all fun j => (List.range j).all fun i => Nat.testBit (b.getD j 0) i || (match ops[i]?, ops[j]? with
    | some x, some y => apart s x y
    | _, _ => false)

/-- an operation that changes its own slot alone -/
def opQuiet (C : Cfg) (op : Op) : Bool :=
  match op with
  | .move _ | .assign _ | .pick .. | .build .. | .nilCheck _ | .binOp .. | .unOp .. | .convert .. | .makeFunc .. | .slice .. | .fieldAddr .. | .field ..
  | .indexAddr .. | .index .. | .extract .. | .load .. => true
  | .call { callee := .builtin .len, .. } | .call { callee := .builtin .min, .. } | .call { callee := .builtin .max, .. } => true
  | .call { callee := .value (.func g), .. } => (C.ownRes g).isNone && (C.nilGrow g).isNone && (C.ownArg g).isNone
  | .call { callee := .value _, .. } => true
  | _ => false

section
variable {β : Type}

def junkT : List Oper → List Ent → List Ent
  | [], tm => tm
  | o :: r, tm => junkT r (match o.dst with
    | some d => tm.set d (.junk, .none)
    | none => tm)

def evReg (C : Cfg) (call : CallFn) (f : FuncId) (id : Nat) (ops : Array Oper) (draw : Bool) (s : St) (K : St → Option β) : Option β :=
  let l := ops.toList
  let b := befores l
  cond (draw && !drawOk C f ops b) none <|
  cond (C.join f id)
    (match l.getLast? with
     | some o => (match o.dst with
       | some d => cond (l.all fun o => opQuiet C o.op)
          ((evOps C call f ops (fun _ => true) 0 l s (fun s => some (s.tm.getD d (.junk, .none)))).bind fun e =>
            decVal C.P o.type (e.1, .none) fun e => K { s with tm := (junkT l s.tm).set d e }) none
       | none => none)
     | none => none)
    (evOps C call f ops (fun i => draw && noSigs C f l b i) 0 l s fun s => cond (draw && !drawDyn ops b s) none (K s))

/-! ### loops -/

abbrev Vars := List AVal × Sig

def coerceO (have_ want : Own) : Bool :=
  match want, have_ with
  | .none, _ => true
  | .id _ _, .full => true
  | .id _ n, .id _ m => n == m
  | _, _ => false

/-- a slice of no element -/
def isNilS : AVal → Bool
  | .dat (.sl []) => true
  | _ => false
/-- a strict mark is given to what has one, or to no element -/
def strictOk (x : AVal) (have_ want : Own) : Bool :=
  match want, have_ with
  | .id t _, .full => !strictO t || isNilS x
  | .id t _, .id s _ => !strictO t || strictO s
  | _, _ => true
def notStrict : Own → Bool
  | .id t _ => !strictO t
  | _ => true
/-- the marks that go through -/
def marksO (have_ want : Own) : List Nat :=
  match want, have_ with
  | .id _ _, .id t _ => [t]
  | _, _ => []

def packM (s : St) : List (Nat × TypeId × Own) → (List AVal → List Nat → Option β) → Option β
  | [], K => K [] []
  | (t, _, w) :: r, K =>
    let e := s.tm.getD t (.undef, .none)
    cond (coerceO e.2 w && strictOk e.1 e.2 w) (match e.1 with
      | .dat d => packM s r fun l m => K (.dat d :: l) (marksO e.2 w ++ m)
      | .agg cs => packM s r fun l m => K (.agg (cs.map fun c => (c.1, .none)) :: l) (marksO e.2 w ++ m)
      | _ => none) none

def boxO : List (Dat × Own) → List Own → Option (List Nat)
  | [], [] => some []
  | c :: cs, w :: ws => cond (coerceO c.2 w && notStrict w) ((boxO cs ws).map fun m => marksO c.2 w ++ m) none
  | _, _ => none

def packB (s : St) : List (Nat × TypeId × List Own) → (List AVal → List Nat → Option β) → Option β
  | [], K => K [] []
  | (t, _, ws) :: r, K =>
    match (s.lo.getD t none).bind datsOf with
    | some cs => (match boxO cs ws with
      | some m => packB s r fun l n => K (.agg (cs.map fun c => (c.1, .none)) :: l) (m ++ n)
      | none => none)
    | none => none

def nodupN : List Nat → Bool
  | [] => true
  | a :: l => !l.contains a && nodupN l

def notJunk : AVal → Bool
  | .junk => false
  | _ => true

def packV (L : LoopCfg) (s : St) (K : Vars → Option β) : Option β :=
  cond (L.keeps.all fun k => notJunk (s.tm.getD k (.undef, .none)).1)
    (packM s L.mods fun l m => packB s L.boxes fun r n => cond (nodupN (m ++ n)) (K (l ++ r, s.sg)) none) none

/-- a slot's value out of what went through -/
def decMod (P : Program) (ty : TypeId) (w : Own) (a : AVal) (K : Ent → Option β) : Option β :=
  match w with
  | .id _ n => decVal P ty (a, .none) fun e => (match e.1 with
      | .dat (.sl es) => cond (sized es n) (K (.dat (.sl es), w)) none
      | _ => none)
  | _ => decVal P ty (a, .none) fun e => K (e.1, .none)

def unpackM (P : Program) (tm : List Ent) : List (Nat × TypeId × Own) → List AVal → (List Ent → List AVal → Option β) → Option β
  | [], l, K => K tm l
  | (t, ty, w) :: r, a :: l, K => decMod P ty w a fun e => unpackM P (tm.set t e) r l K
  | _ :: _, [], _ => none

def markCells : List Dat → List Own → List Ent
  | d :: ds, w :: ws => (.dat d, w) :: markCells ds ws
  | _, _ => []

def unpackB (P : Program) (lo : List (Option (List Ent))) : List (Nat × TypeId × List Own) → List AVal → (List (Option (List Ent)) → Option β) → Option β
  | [], [], K => K lo
  | (t, ty, ws) :: r, a :: l, K => (match shapesOf P 12 ty with
    | some ps => asAgg a fun cs => cond (cs.length == ps.length && ws.length == ps.length) (cellsAt ps (cs.map (·.1)) 0 fun ds => unpackB P (lo.set t (some (markCells ds ws))) r l K) none
    | none => none)
  | _, _, _ => none

/-- the slots that a loop only reads; all else is forgotten -/
def keepT (l : List Nat) : Nat → List Ent → List Ent
  | _, [] => []
  | i, e :: r => cond (l.contains i) (stripA e.1, .none) (.junk, .none) :: keepT l (i + 1) r

def unpackV (C : Cfg) (L : LoopCfg) (s : St) (v : Vars) (K : St → Option β) : Option β :=
  unpackM C.P (keepT L.keeps 0 s.tm) L.mods v.1 fun tm l => unpackB C.P (s.lo.map fun _ => none) L.boxes l fun lo => K { tm := tm, lo := lo, sg := v.2 }

/-- the slots that a code writes -/
def writesOf (C : Cfg) (f : FuncId) : Code → Nat → List Nat
  | .region _ ops _, _ => ops.toList.filterMap (·.dst)
  | .seq a b, i | .cond _ a b, i => writesOf C f a i ++ writesOf C f b i
  | .block i a, _ => writesOf C f a i
  | .loop a, i => (C.loop f i).mods.map (·.1) ++ writesOf C f a i
  | .scope a, i => writesOf C f a i
  | _, _ => []

def Ex.isExit (e : Ex) (i : Nat) : Bool :=
  match e with
  | .exit j => j == i
  | _ => false

def Ex.isRet : Ex → Bool
  | .ret => true
  | _ => false

def onEx (e : Ex) (ids : List Nat) (F : Ex → Option β) : Option β :=
  match ids with
  | [] => cond e.isRet (F .ret) none
  | i :: r => cond (e.isExit i) (F (.exit i)) (onEx e r F)

end

abbrev LoopFn := (Vars → Option (Ex × Vars)) → Vars → Option (Ex × Vars)

def keepsOk (C : Cfg) (f : FuncId) (i : Nat) (L : LoopCfg) (s : St) (body : Code) : Bool :=
  L.keeps.all (fun k => !(writesOf C f body i).contains k && (match (s.tm.getD k (.undef, .none)).1 with
    | .loc t _ => L.boxes.any fun b => b.1 == t
    | .tup _ => false
    | _ => true)) &&
  nodupN ((L.mods.filterMap fun m => match m.2.2 with
    | .id t _ => some t
    | _ => none) ++ L.boxes.flatMap fun b => b.2.2.filterMap fun | .id t _ => some t | _ => none) &&
  nodupN (L.mods.map (·.1)) && nodupN (L.boxes.map (·.1)) && L.mods.all fun m => !L.keeps.contains m.1

def evC (C : Cfg) (call : CallFn) (lp : LoopFn) (f : FuncId) : Code → Nat → (β : Type) → St → (Ex → St → Option β) → Option β
  | .skip, _, _, s, K => K .normal s
  | .label _, _, _, s, K => K .normal s
  | .region id ops draw, _, _, s, K => evReg C call f id ops draw s (K .normal)
  | .seq x y, b, β, s, K => evC C call lp f x b β s fun e s => match e with
    | .normal => evC C call lp f y b β s K
    | e => K e s
  | .cond c x y, b, β, s, K => (match (s.ev C c).1 with
    | .dat (.bool t) => cond t (evC C call lp f x b β s K) (evC C call lp f y b β s K)
    | _ => none)
  | .block id x, _, β, s, K => evC C call lp f x id β s fun e s => match e with
    | .exit j => cond (j == id) (K .normal s) (K (.exit j) s)
    | e => K e s
  | .loop x, b, _, s, K =>
    let L := C.loop f b
    cond (keepsOk C f b L s x)
      (packV L s fun v => (lp (fun v => unpackV C L s v fun s => evC C call lp f x b (Ex × Vars) s fun e s => packV L s fun v => some (e, v)) v).bind fun r =>
        unpackV C L s r.2 fun s => onEx r.1 L.exits fun e => K e s)
      none
  | .scope x, b, β, s, K => evC C call lp f x b β s K
  | .exit id, _, _, s, K => K (.exit id) s
  | .ret, _, _, s, K => K .ret s
  | _, _, _, _, _ => none

def resultsA (C : Cfg) (s : St) : List ResultVar → (List Ent → Option (List Ent × Sig)) → Option (List Ent × Sig)
  | [], K => K []
  | .tmp t :: r, K => resultsA C s r fun l => K (s.tm.getD t (.undef, .none) :: l)
  | .cell a ty :: r, K => loadA C false s.lo s.sg ty (s.tm.getD a (.undef, .none)).1 fun e => resultsA C s r fun l => K (e :: l)

def outs : List Ent → List Ent
  | [] => []
  | e :: r => (stripA e.1, .none) :: outs r

/-- the results, the one that is promised with its mark -/
def outsOwn (w : Option (Nat × Nat)) (rs : List Ent) (F : List Ent → Option (List Ent × Sig)) : Option (List Ent × Sig) :=
  match w with
  | none => F (outs rs)
  | some (i, n) => (match rs[i]? with
    | some (.dat (.sl _), .id _ m) => cond (n == m) (F (markAt i (.id 0 n) (outs rs))) none
    | some (.dat (.sl es), .full) => cond (sized es n) (F (markAt i (.id 0 n) (outs rs))) none
    | _ => none)

/-- the row behind the first argument is given -/
def firstOwn (z : Option Nat) (l : List Ent) : List Ent :=
  match z, l with
  | some z, e :: r => (e.1, .id 2 z) :: r
  | _, l => l

def evF (C : Cfg) (call : CallFn) (lp : LoopFn) (f : FuncId) (args : List AVal) (sg : Sig) : Option (List Ent × Sig) :=
  match C.P.funcs[f]? with
  | none => none
  | some fn =>
    match fn.body with
    | none => none
    | some body =>
      cond (handsAll args)
      (evC C call lp f body 0 (List Ent × Sig) { tm := firstOwn (C.ownArg f) (args.map (stripA · , .none)) ++ List.replicate (fn.ntmps - args.length) (.undef, .none), lo := List.replicate fn.ntmps none, sg := sg } fun e s =>
        cond (match e with
          | .exit _ => true
          | _ => false) none <|
        resultsA C s fn.results.toList fun rs =>
          cond (handsAll (rs.map (·.1)))
            (outsOwn (C.ownRes f) rs fun rs => some (rs, cond (fn.resultTypes.toList.all (plainT C.P) && plainL (rs.map (·.1))) (s.sg.take sg.length) s.sg)) none)
      none

def evN (C : Cfg) : Nat → CallFn
  | 0, _, _, _ => none
  | k + 1, f, args, sg => match C.prim f with
    | some g => g args sg
    | none => evF C (evN C k) (fun F v => iterN F k v) f args sg
where
  /-- so many rounds -/
  iterN (F : Vars → Option (Ex × Vars)) : Nat → Vars → Option (Ex × Vars)
  | 0, _ => none
  | k + 1, v => (F v).bind fun r => match r.1 with
    | .normal => iterN F k r.2
    | _ => some r

end Go.Aev

end
section
/- How the evaluator's values stand for the machine's. -/
namespace Go.Aev

theorem add_block {a : Addr} (n : Nat) : (a.add n).block = a.block := by unfold Addr.add; split <;> rfl
theorem add_off {a : Addr} (n : Nat) : (a.add n).off = a.off + n := by unfold Addr.add; split <;> simp_all
theorem add_spot {a : Addr} (h : a.spot = none) (n : Nat) : (a.add n).spot = none := by unfold Addr.add; split <;> simp_all
theorem add_eq {a : Addr} (h : a.spot = none) (n : Nat) : a.add n = ⟨a.block, a.off + n, none⟩ := by
  cases a; unfold Addr.add; split <;> simp_all
theorem add_add {a : Addr} (m n : Nat) : (a.add m).add n = a.add (m + n) := by
  unfold Addr.add
  by_cases hm : m = 0
  · simp [hm]
  · by_cases hn : n = 0
    · simp [hm, hn]
    · have : m + n ≠ 0 := by omega
      simp [hm, hn, Nat.add_assoc]

/-- d stands for v: what it leads to lies below the marks M of the blocks. -/
inductive Rep (w : World) (M : Nat → Nat) : Dat → Value → Prop
  | int (k : IntKind) (n : Int) : Rep w M (.int k n) (.int k n)
  | bool (b : Bool) : Rep w M (.bool b) (.bool b)
  | str (s : ByteArray) : Rep w M (.str s) (.string s)
  | nilS : Rep w M (.sl []) (.slice none 0 0)
  | sl {es : List (List Dat)} {a : Addr} {n cap size : Nat} (vs : Nat → Value) (hn : es.length = n) (hc : n ≤ cap) (hm : cap ≤ maxLen) (hs : 0 < n → a.spot = none)
      (he : ∀ e, e ∈ es → e.length = size) (hcell : ∀ k, k < n * size → w.cell? (a.add k) = some (vs k) ∧ a.off + k < M a.block)
      (hr : ∀ (i j : Nat) e d, es[i]? = some e → e[j]? = some d → Rep w M d (vs (i * size + j))) : Rep w M (.sl es) (.slice (some a) n cap)
  | nilP : Rep w M .nilP (.pointer none)
  | nilF : Rep w M .nilF .nilFunc
  | nilI : Rep w M .nilI .nilIface
  | ifp {t : Nat} {cells : List Dat} {a : Addr} (vs : Nat → Value) (hs : a.spot = none) (hcell : ∀ k, k < cells.length → w.cell? (a.add k) = some (vs k) ∧ a.off + k < M a.block)
      (hr : ∀ (k : Nat) d, cells[k]? = some d → Rep w M d (vs k)) : Rep w M (.ifp t cells) (.iface t (.pointer (some a)))

theorem Rep.one {w : World} {M : Nat → Nat} {d : Dat} {v : Value} (h : Rep w M d v) : v.oneCell' = true := by cases h <;> rfl

/-- what lies below the marks stays -/
def Keeps (w w' : World) (M M' : Nat → Nat) : Prop := ∀ a v, w.cell? a = some v → a.off < M a.block → w'.cell? a = some v ∧ a.off < M' a.block

theorem Rep.mono {w w' : World} {M M' : Nat → Nat} (hk : Keeps w w' M M') {d : Dat} {v : Value} (h : Rep w M d v) : Rep w' M' d v := by
  induction h with
  | int k n => exact .int k n
  | bool b => exact .bool b
  | str s => exact .str s
  | nilS => exact .nilS
  | sl vs hn hc hm hs he hcell hr ih =>
    refine .sl vs hn hc hm hs he (fun k hlt => ?_) ih
    obtain ⟨h1, h2⟩ := hcell k hlt
    have := hk _ _ h1 (by rw [add_block, add_off]; exact h2)
    rw [add_block, add_off] at this
    exact this
  | nilP => exact .nilP
  | nilF => exact .nilF
  | nilI => exact .nilI
  | ifp vs hs hcell hr ih =>
    refine .ifp vs hs (fun k hlt => ?_) ih
    obtain ⟨h1, h2⟩ := hcell k hlt
    have := hk _ _ h1 (by rw [add_block, add_off]; exact h2)
    rw [add_block, add_off] at this
    exact this

/-- what a block is for -/
inductive Role where
  | imm
  | loc (t : Nat)
  | sig (i : Nat)
  | own (t : Nat)
  | buf (i : Nat)

/-- what the evaluator does not see -/
structure Gh where
  M : Nat → Nat
  R : Nat → Role
  lm : Nat → Option Nat
  sm : List Nat
  og : Nat → Value
  gv : Nat → Bool := fun _ => false

theorem strict8 (d : Nat) : strictO (8 * d) = false := by
  unfold strictO
  have : (8 * d) % 8 = 0 := by omega
  rw [this]
  rfl

/-- the room behind the slice is the frame's own, or there is none (behind a strict mark: nor any element) -/
def RowOk (w : World) (g : Gh) (base t size : Nat) (v : Value) : Prop :=
  (∃ a n, v = .slice a n n ∧ (strictO t = true → n = 0)) ∨
  ∃ b n cap cur T, v = .slice (some ⟨b, 0, none⟩) n cap ∧ w.heap[b]? = some (.cells cur T (0, 0)) ∧ n ≤ cap ∧ cap ≤ maxLen ∧ cur.size = cap * size ∧
    g.M b = n * size ∧ g.R b = .own t ∧ (base ≤ b ∨ g.gv b = true)

def OwnOk (w : World) (g : Gh) (base : Nat) (o : Own) (v : Value) : Prop :=
  match o with
  | .none => True
  | .full => ∃ a n, v = .slice a n n
  | .id t size => v = g.og t ∧ RowOk w g base t size v

/-- values that are handed on: nothing in them is the frame's own -/
inductive RepB (w : World) (M : Nat → Nat) (sm : List Nat) : AVal → Value → Prop
  | dat {d : Dat} {v : Value} (h : Rep w M d v) : RepB w M sm (.dat d) v
  | agg {cs : List (Dat × Own)} {vs : Array Value} (hl : cs.length = vs.size)
      (h : ∀ (i : Nat) (c : Dat × Own) v, cs[i]? = some c → vs[i]? = some v → Rep w M c.1 v ∧ c.2 = .none) : RepB w M sm (.agg cs) (.agg vs)
  | imm {cells : List Dat} {a : Addr} (vs : Nat → Value) (hs : a.spot = none) (hcell : ∀ k, k < cells.length → w.cell? (a.add k) = some (vs k) ∧ a.off + k < M a.block)
      (hr : ∀ (k : Nat) d, cells[k]? = some d → Rep w M d (vs k)) : RepB w M sm (.imm cells) (.pointer (some a))
  | ref {i off b : Nat} (h : sm[i]? = some b) : RepB w M sm (.ref i off) (.pointer (some ⟨b, off, none⟩))
  | clo {f : Fn} {first caps : List AVal} {vf vc : Array Value} (hl : first.length = vf.size) (hl' : caps.length = vc.size)
      (h : ∀ (i : Nat) c v, first[i]? = some c → vf[i]? = some v → RepB w M sm c v)
      (h' : ∀ (i : Nat) c v, caps[i]? = some c → vc[i]? = some v → RepB w M sm c v) : RepB w M sm (.clo f first caps) (.func f vf vc)

theorem RepB.mono {w w' : World} {M M' : Nat → Nat} {sm sm' : List Nat} (hk : Keeps w w' M M') (hs : ∀ (i : Nat) b, sm[i]? = some b → sm'[i]? = some b) {x : AVal} {v : Value}
    (h : RepB w M sm x v) : RepB w' M' sm' x v := by
  induction h with
  | dat h => exact .dat (h.mono hk)
  | agg hl h => exact .agg hl fun i c v hc hv => ⟨(h i c v hc hv).1.mono hk, (h i c v hc hv).2⟩
  | imm vs hs hcell hr =>
    refine .imm vs hs (fun k hlt => ?_) fun k d hd => (hr k d hd).mono hk
    obtain ⟨h1, h2⟩ := hcell k hlt
    have := hk _ _ h1 (by rw [add_block, add_off]; exact h2)
    rw [add_block, add_off] at this
    exact this
  | ref h => exact .ref (hs _ _ h)
  | clo hl hl' _ _ ih ih' => exact .clo hl hl' ih ih'

/-- the values of slots -/
inductive RepA (w : World) (g : Gh) (base : Nat) : AVal → Value → Prop
  | b {x : AVal} {v : Value} (h : RepB w g.M g.sm x v) : RepA w g base x v
  | agg {cs : List (Dat × Own)} {vs : Array Value} (hl : cs.length = vs.size)
      (h : ∀ (i : Nat) (c : Dat × Own) v, cs[i]? = some c → vs[i]? = some v → Rep w g.M c.1 v ∧ OwnOk w g base c.2 v) : RepA w g base (.agg cs) (.agg vs)
  | loc {t off b : Nat} (h : g.lm t = some b) : RepA w g base (.loc t off) (.pointer (some ⟨b, off, none⟩))
  | tup {cs : List Ent} {vs : Array Value} (hl : cs.length = vs.size)
      (h : ∀ (i : Nat) (c : Ent) v, cs[i]? = some c → vs[i]? = some v → RepB w g.M g.sm c.1 v ∧ OwnOk w g base c.2 v) : RepA w g base (.tup cs) (.tuple vs)
  | undef : RepA w g base .undef Go.undef
  | junk (v : Value) : RepA w g base .junk v

theorem RepA.dat {w : World} {g : Gh} {base : Nat} {d : Dat} {v : Value} (h : Rep w g.M d v) : RepA w g base (.dat d) v := .b (.dat h)

def RepE (w : World) (g : Gh) (base : Nat) (e : Ent) (v : Value) : Prop := RepA w g base e.1 v ∧ OwnOk w g base e.2 v

/-- from one world and what stands behind it to another -/
structure Ext (w w' : World) (g g' : Gh) (base : Nat) : Prop where
  keeps : Keeps w w' g.M g'.M
  lm : ∀ t b, g.lm t = some b → g'.lm t = some b
  sm : ∀ (i : Nat) b, g.sm[i]? = some b → g'.sm[i]? = some b
  own : ∀ t size, RowOk w g base t size (g.og t) → g'.og t = g.og t ∧ RowOk w' g' base t size (g.og t)

theorem OwnOk.mono {w w' : World} {g g' : Gh} {base : Nat} (hx : Ext w w' g g' base) {o : Own} {v : Value} (h : OwnOk w g base o v) : OwnOk w' g' base o v := by
  cases o with
  | none => trivial
  | full => exact h
  | id t size =>
    obtain ⟨rfl, h⟩ := h
    obtain ⟨h1, h2⟩ := hx.own t size h
    exact ⟨h1.symm, h2⟩

theorem RepA.mono {w w' : World} {g g' : Gh} {base : Nat} (hx : Ext w w' g g' base) {x : AVal} {v : Value} (h : RepA w g base x v) : RepA w' g' base x v := by
  cases h with
  | b h => exact .b (h.mono hx.keeps hx.sm)
  | agg hl h => exact .agg hl fun i c v hc hv => ⟨(h i c v hc hv).1.mono hx.keeps, (h i c v hc hv).2.mono hx⟩
  | loc h => exact .loc (hx.lm _ _ h)
  | tup hl h => exact .tup hl fun i c v hc hv => ⟨(h i c v hc hv).1.mono hx.keeps hx.sm, (h i c v hc hv).2.mono hx⟩
  | undef => exact .undef
  | junk v => exact .junk v

/-- what a value of each kind stands for -/
theorem RepA.dat_inv {w : World} {g : Gh} {base : Nat} {d : Dat} {v : Value} (h : RepA w g base (.dat d) v) : Rep w g.M d v := by
  cases h with
  | b h => cases h with | dat h => exact h
theorem RepA.agg_inv {w : World} {g : Gh} {base : Nat} {cs : List (Dat × Own)} {v : Value} (h : RepA w g base (.agg cs) v) : ∃ vs, v = .agg vs ∧ cs.length = vs.size ∧
    ∀ (i : Nat) (c : Dat × Own) v, cs[i]? = some c → vs[i]? = some v → Rep w g.M c.1 v ∧ OwnOk w g base c.2 v := by
  cases h with
  | b h => cases h with
    | agg hl h => exact ⟨_, rfl, hl, fun i c v hc hv => ⟨(h i c v hc hv).1, by rw [(h i c v hc hv).2]; trivial⟩⟩
  | agg hl h => exact ⟨_, rfl, hl, h⟩
theorem RepA.loc_inv {w : World} {g : Gh} {base t off : Nat} {v : Value} (h : RepA w g base (.loc t off) v) : ∃ b, g.lm t = some b ∧ v = .pointer (some ⟨b, off, none⟩) := by
  cases h with
  | b h => cases h
  | loc h => exact ⟨_, h, rfl⟩
theorem RepA.imm_inv {w : World} {g : Gh} {base : Nat} {cells : List Dat} {v : Value} (h : RepA w g base (.imm cells) v) : ∃ (a : Addr) (vs : Nat → Value), v = .pointer (some a) ∧ a.spot = none ∧
    (∀ k, k < cells.length → w.cell? (a.add k) = some (vs k) ∧ a.off + k < g.M a.block) ∧ ∀ (k : Nat) d, cells[k]? = some d → Rep w g.M d (vs k) := by
  cases h with
  | b h => cases h with
    | imm vs hs hcell hr => exact ⟨_, vs, rfl, hs, hcell, hr⟩
theorem RepA.ref_inv {w : World} {g : Gh} {base i off : Nat} {v : Value} (h : RepA w g base (.ref i off) v) : ∃ b, g.sm[i]? = some b ∧ v = .pointer (some ⟨b, off, none⟩) := by
  cases h with
  | b h => cases h with | ref h => exact ⟨_, h, rfl⟩
theorem RepA.clo_inv {w : World} {g : Gh} {base : Nat} {f : Fn} {first caps : List AVal} {v : Value} (h : RepA w g base (.clo f first caps) v) : ∃ vf vc, v = .func f vf vc ∧
    first.length = vf.size ∧ caps.length = vc.size ∧ (∀ (i : Nat) c v, first[i]? = some c → vf[i]? = some v → RepB w g.M g.sm c v) ∧
    ∀ (i : Nat) c v, caps[i]? = some c → vc[i]? = some v → RepB w g.M g.sm c v := by
  cases h with
  | b h => cases h with | clo hl hl' h h' => exact ⟨_, _, rfl, hl, hl', h, h'⟩
theorem RepA.tup_inv {w : World} {g : Gh} {base : Nat} {cs : List Ent} {v : Value} (h : RepA w g base (.tup cs) v) : ∃ vs, v = .tuple vs ∧ cs.length = vs.size ∧
    ∀ (i : Nat) (c : Ent) v, cs[i]? = some c → vs[i]? = some v → RepB w g.M g.sm c.1 v ∧ OwnOk w g base c.2 v := by
  cases h with
  | b h => cases h
  | tup hl h => exact ⟨_, rfl, hl, h⟩

theorem RepE.mono {w w' : World} {g g' : Gh} {base : Nat} (hx : Ext w w' g g' base) {e : Ent} {v : Value} (h : RepE w g base e v) : RepE w' g' base e v :=
  ⟨h.1.mono hx, h.2.mono hx⟩

theorem Ext.refl (w : World) (g : Gh) (base : Nat) : Ext w w g g base :=
  ⟨fun _ _ h k => ⟨h, k⟩, fun _ _ h => h, fun _ _ h => h, fun _ _ h => ⟨rfl, h⟩⟩

theorem Ext.trans {w w' w'' : World} {g g' g'' : Gh} {base : Nat} (h : Ext w w' g g' base) (k : Ext w' w'' g' g'' base) : Ext w w'' g g'' base := by
  refine ⟨fun a v h1 h2 => ?_, fun t b h1 => k.lm _ _ (h.lm _ _ h1), fun i b h1 => k.sm _ _ (h.sm _ _ h1), fun t size h1 => ?_⟩
  · obtain ⟨h3, h4⟩ := h.keeps a v h1 h2
    exact k.keeps a v h3 h4
  · obtain ⟨h2, h3⟩ := h.own t size h1
    obtain ⟨h4, h5⟩ := k.own t size (by rw [h2]; exact h3)
    exact ⟨by rw [h4, h2], by rw [h2] at h5; exact h5⟩

/-- a variable of the frame -/
def BoxOk (w : World) (g : Gh) (base b : Nat) (cells : List Ent) : Prop :=
  g.M b = 0 ∧ ∃ cur T, w.heap[b]? = some (.cells cur T (0, 0)) ∧ cur.size = cells.length ∧
    ∀ (i : Nat) (e : Ent) v, cells[i]? = some e → cur[i]? = some v → v.oneCell' = true ∧ RepE w g base e v

/-- the block of a builder's buffer -/
def bufOf (C : Cfg) (w : World) (b : Nat) : Option Nat :=
  match w.heap[b]? with
  | some (.cells cur T _) => if T = C.bld.1 then (cur[1]?).bind Value.ownBlock else none
  | _ => none

/-- what may change of the blocks that others see -/
def Touch (C : Cfg) (w : World) (sm : List Nat) (b : Nat) : Prop := b ∈ sm ∨ ∃ c, c ∈ sm ∧ bufOf C w c = some b

theorem touch_nil {C : Cfg} {w : World} {b : Nat} : ¬ Touch C w [] b := by
  rintro (h | ⟨c, h, _⟩) <;> cases h

theorem bufOf_eq {C : Cfg} {w w' : World} {b : Nat} (h : w'.heap[b]? = w.heap[b]?) : bufOf C w' b = bufOf C w b := by
  unfold bufOf; rw [h]

theorem bufOf_none {C : Cfg} {w : World} {b : Nat} {cur : Array Value} {T : TypeId} {fz : Nat × Nat} (h : w.heap[b]? = some (.cells cur T fz)) (hT : T ≠ C.bld.1) : bufOf C w b = none := by
  unfold bufOf; rw [h]; exact if_neg hT

/-- a builder and its buffer -/
def BldOk (C : Cfg) (w : World) (M : Nat → Nat) (b : Nat) (s : ByteArray) : Prop :=
  ∃ p v, (p = .pointer none ∨ p = .pointer (some ⟨b, 0, none⟩)) ∧ w.heap[b]? = some (.cells #[p, v] C.bld.1 (0, 0)) ∧ w.ownsRowF 0 C.bld.2 1 v s.size (Lib.byteCells s.data.toList) ∧
    (s.size = 0 → v = .slice none 0 0) ∧ ∀ k, v.ownBlock = some k → M k = 0 ∧ k ≠ b

theorem BldOk.buf {C : Cfg} {w : World} {b : Nat} {p v : Value} (h : w.heap[b]? = some (.cells #[p, v] C.bld.1 (0, 0))) : bufOf C w b = v.ownBlock := by
  unfold bufOf; rw [h]; exact if_pos rfl

theorem BldOk.mono {C : Cfg} {w w' : World} {M M' : Nat → Nat} {b : Nat} {s : ByteArray} (h : BldOk C w M b s) (hb : w'.heap[b]? = w.heap[b]?)
    (hk : ∀ k, bufOf C w b = some k → w'.heap[k]? = w.heap[k]? ∧ M' k = M k) : BldOk C w' M' b s := by
  obtain ⟨p, v, h1, h2, ⟨h3, h4⟩, h0, h5⟩ := h
  rw [BldOk.buf h2] at hk
  refine ⟨p, v, h1, by rw [hb]; exact h2, ⟨h3, ?_⟩, h0, fun k e => ⟨by rw [(hk k e).2]; exact (h5 k e).1, (h5 k e).2⟩⟩
  rcases h4 with h4 | ⟨g, cap, cur, fz, rfl, h6, h7, h8⟩
  · exact .inl h4
  · exact .inr ⟨g, cap, cur, fz, rfl, h6, by rw [(hk g rfl).1]; exact h7, h8⟩

/-- a variable that others see -/
def SBoxOk (C : Cfg) (w : World) (g : Gh) (i b : Nat) (bx : Box) : Prop :=
  match bx with
  | .cells l => g.M b = 0 ∧ ∃ cur T, T ≠ C.bld.1 ∧ w.heap[b]? = some (.cells cur T (0, 0)) ∧ cur.size = l.length ∧
      ∀ (j : Nat) a v, l[j]? = some a → cur[j]? = some v → v.oneCell' = true ∧ RepB w g.M (g.sm.take i) a v
  | .bld s => g.M b = 0 ∧ BldOk C w g.M b s

theorem SBoxOk.M0 {C : Cfg} {w : World} {g : Gh} {i b : Nat} {bx : Box} (h : SBoxOk C w g i b bx) : g.M b = 0 := by
  cases bx with
  | cells l => exact h.1
  | bld s => exact h.1

theorem SBoxOk.heap {C : Cfg} {w : World} {g : Gh} {i b : Nat} {bx : Box} (h : SBoxOk C w g i b bx) : ∃ cur T, w.heap[b]? = some (.cells cur T (0, 0)) := by
  cases bx with
  | cells l => obtain ⟨_, cur, T, _, h, _⟩ := h; exact ⟨cur, T, h⟩
  | bld s => obtain ⟨_, p, v, _, h, _⟩ := h; exact ⟨_, _, h⟩

theorem SBoxOk.bufM {C : Cfg} {w : World} {g : Gh} {i b : Nat} {bx : Box} (h : SBoxOk C w g i b bx) {k : Nat} (hk : bufOf C w b = some k) : g.M k = 0 ∧ k ≠ b ∧ ∃ cur T fz, w.heap[k]? = some (.cells cur T fz) := by
  cases bx with
  | cells l => obtain ⟨_, cur, T, hT, h, _⟩ := h; rw [bufOf_none h hT] at hk; cases hk
  | bld s =>
    obtain ⟨_, p, v, _, h2, h3, _, h4⟩ := h
    rw [BldOk.buf h2] at hk
    refine ⟨(h4 k hk).1, (h4 k hk).2, ?_⟩
    rcases h3.2 with ⟨rfl, _⟩ | ⟨g, cap, cur, fz, rfl, _, h7, _⟩
    · cases hk
    · cases hk; exact ⟨cur, _, fz, h7⟩

/-- what a block holds below its mark stays -/
def Kept (w0 w : World) (M0 M : Nat → Nat) (b : Nat) : Prop := ∀ a v, a.block = b → w0.cell? a = some v → a.off < M0 b → w.cell? a = some v ∧ a.off < M b

theorem Kept.mono {w0 w w' : World} {M0 M M' : Nat → Nat} {b : Nat} (h : Kept w0 w M0 M b) (hk : Keeps w w' M M') : Kept w0 w' M0 M' b := by
  intro a v ha hc hm
  obtain ⟨h1, h2⟩ := h a v ha hc hm
  have := hk a v h1 (by rw [ha]; exact h2)
  rw [ha] at this
  exact this

theorem Kept.refl (w : World) (M : Nat → Nat) (b : Nat) : Kept w w M M b := fun _ _ _ hc hm => ⟨hc, hm⟩

/-- what is written, and drawn -/
def OutOk (C : Cfg) (w' w : World) : Prop := w'.output = w.output ∧ (C.dr = true → w.drawn ≤ w'.drawn)

theorem OutOk.refl (C : Cfg) (w : World) : OutOk C w w := ⟨rfl, fun _ => Nat.le_refl _⟩
theorem OutOk.trans {C : Cfg} {a b c : World} (h : OutOk C a b) (k : OutOk C b c) : OutOk C a c := ⟨h.1.trans k.1, fun d => Nat.le_trans (k.2 d) (h.2 d)⟩

structure Inv (C : Cfg) (w0 : World) (M0 : Nat → Nat) (sm0 : List Nat) (X0 : Nat → Bool) (g : Gh) (s : St) (a : Act) (w : World) : Prop where
  os : w.os = w0.os
  tape : w.tape = w0.tape
  output : OutOk C w w0
  hsize : w0.heap.size ≤ w.heap.size
  frame : ∀ b, b < w0.heap.size → ¬ Touch C w0 sm0 b → X0 b = false → w.heap[b]? = w0.heap[b]?
  fm : ∀ b, b < w0.heap.size → (X0 b = false → g.M b = M0 b) ∧ Kept w0 w M0 g.M b
  smp : ∃ r, g.sm = sm0 ++ r ∧ ∀ b ∈ r, w0.heap.size ≤ b
  defers : a.defers = []
  tsize : a.tmps.size = s.tm.length
  tm : ∀ (t : Nat) e v, s.tm[t]? = some e → a.tmps[t]? = some v → RepE w g w0.heap.size e v
  lm : ∀ t, g.lm t = none ↔ s.lo.getD t none = none
  lo : ∀ t b cells, g.lm t = some b → s.lo.getD t none = some cells → w0.heap.size ≤ b ∧ g.R b = .loc t ∧ BoxOk w g w0.heap.size b cells
  sglen : s.sg.length = g.sm.length
  sg : ∀ (i : Nat) b bx, g.sm[i]? = some b → s.sg[i]? = some bx → g.R b = .sig i ∧ (∀ k, bufOf C w b = some k → g.R k = .buf i) ∧ SBoxOk C w g i b bx
  bufs : ∀ (i : Nat) b k, g.sm[i]? = some b → bufOf C w b = some k → k < w0.heap.size → sm0[i]? = some b ∧ bufOf C w0 b = some k
  glob : ∀ i cells, C.glob i = some cells → RepB w g.M g.sm (.imm cells) (.pointer (some ⟨i, 0, none⟩))
  low : (∀ i o, C.low i = some o → w0.heap[i]? = some o ∧ 0 < M0 i) ∧ (∀ b, Touch C w0 sm0 b → M0 b = 0) ∧ (∀ i o, C.low i = some o → X0 i = false) ∧ g.gv = X0

theorem put_tmps (a : Act) (d : Option Nat) (v : Value) : (a.put d v).defers = a.defers := by cases d <;> rfl
theorem put_size (a : Act) (d : Option Nat) (v : Value) : (a.put d v).tmps.size = a.tmps.size := by cases d <;> simp [Act.put]

theorem Inv.put {C : Cfg} {w0 : World} {M0 : Nat → Nat} {sm0 : List Nat} {X0 : Nat → Bool} {g : Gh} {s : St} {a : Act} {w : World} (h : Inv C w0 M0 sm0 X0 g s a w) {e : Ent} {v : Value}
    (he : RepE w g w0.heap.size e v) (d : Option Nat) : Inv C w0 M0 sm0 X0 g (s.put d e) (a.put d v) w := by
  cases d with
  | none => exact h
  | some t =>
    refine ⟨h.os, h.tape, h.output, h.hsize, h.frame, h.fm, h.smp, h.defers, by simp [Act.put, St.put, h.tsize], ?_, h.lm, h.lo, h.sglen, h.sg, h.bufs, h.glob, h.low⟩
    intro u e' v' he' hv'
    simp only [St.put, Act.put, List.getElem?_set, Array.getElem?_setIfInBounds] at he' hv'
    by_cases hu : t = u
    · subst hu
      simp only [if_true] at he' hv'
      split at he' <;> split at hv' <;> first | (cases he'; cases hv'; exact he) | simp_all
    · simp only [hu, if_false] at he' hv'
      exact h.tm u e' v' he' hv'

/-- operands -/
theorem rep_constCell {w : World} {M : Nat → Nat} {v : Value} {d : Dat} {o : Own} (h : constCell v = some (d, o)) : Rep w M d v ∧ ∀ g base, OwnOk w g base o v := by
  unfold constCell at h
  split at h <;> simp only [Option.some.injEq, Prod.mk.injEq, reduceCtorEq] at h
  all_goals obtain ⟨rfl, rfl⟩ := h
  · exact ⟨.int _ _, fun _ _ => trivial⟩
  · exact ⟨.bool _, fun _ _ => trivial⟩
  · exact ⟨.str _, fun _ _ => trivial⟩
  · exact ⟨.nilS, fun _ _ => ⟨none, 0, rfl⟩⟩
  · exact ⟨.nilP, fun _ _ => trivial⟩
  · exact ⟨.nilF, fun _ _ => trivial⟩
  · exact ⟨.nilI, fun _ _ => trivial⟩

theorem rep_constCells {w : World} {g : Gh} {base : Nat} : ∀ {vs : List Value} {l : List (Dat × Own)}, constCells vs = some l → l.length = vs.length ∧
    ∀ (i : Nat) (c : Dat × Own) v, l[i]? = some c → vs[i]? = some v → Rep w g.M c.1 v ∧ OwnOk w g base c.2 v
  | [], l, h => by cases h; exact ⟨rfl, fun i c v h => by simp at h⟩
  | v :: vs, l, h => by
    simp only [constCells, Option.bind_eq_some_iff, Option.map_eq_some_iff] at h
    obtain ⟨⟨d, o⟩, hd, ds, hds, rfl⟩ := h
    obtain ⟨h1, h2⟩ := rep_constCells (w := w) (g := g) (base := base) hds
    refine ⟨by simp [h1], fun i c v' hc hv => ?_⟩
    cases i with
    | zero =>
      simp at hc hv
      subst hc hv
      exact ⟨(rep_constCell hd).1, (rep_constCell (M := g.M) hd).2 g base⟩
    | succ i => exact h2 i c v' (by simpa using hc) (by simpa using hv)

theorem rep_const {w : World} {g : Gh} {base : Nat} (v : Value) : RepE w g base (constOf v) v := by
  unfold constOf
  split
  · rename_i cs
    cases h : constCells cs.toList with
    | none => exact ⟨.junk _, trivial⟩
    | some l =>
      obtain ⟨h1, h2⟩ := rep_constCells (w := w) (g := g) (base := base) h
      refine ⟨.agg (by simpa using h1) fun i c v hc hv => h2 i c v hc (by simpa using hv), trivial⟩
  · split
    · rename_i h
      exact ⟨.dat (rep_constCell h).1, (rep_constCell (M := g.M) h).2 g base⟩
    · exact ⟨.junk _, trivial⟩

theorem Inv.ev {C : Cfg} {w0 : World} {M0 : Nat → Nat} {sm0 : List Nat} {X0 : Nat → Bool} {g : Gh} {s : St} {a : Act} {w : World} (h : Inv C w0 M0 sm0 X0 g s a w) (x : Operand) :
    RepE w g w0.heap.size (s.ev C x) (a.eval x) := by
  cases x with
  | tmp t =>
    simp only [St.ev, Act.eval, List.getD_eq_getElem?_getD, Array.getD_eq_getD_getElem?]
    cases hs : s.tm[t]? with
    | none =>
      have hlt : a.tmps[t]? = none := by
        rw [List.getElem?_eq_none_iff] at hs
        rw [Array.getElem?_eq_none_iff, h.tsize]
        exact hs
      rw [hlt]
      exact ⟨.undef, trivial⟩
    | some e =>
      have hlt : t < a.tmps.size := by
        rw [h.tsize]
        exact (List.getElem?_eq_some_iff.1 hs).1
      have hv : a.tmps[t]? = some a.tmps[t] := Array.getElem?_eq_getElem hlt
      rw [hv]
      exact h.tm t e _ hs hv
  | const v => exact rep_const v
  | global i =>
    simp only [St.ev, Act.eval]
    cases hg : C.glob i with
    | none => exact ⟨.junk _, trivial⟩
    | some cells => exact ⟨.b (h.glob i cells hg), trivial⟩
  | func f => exact ⟨.b <| .clo rfl rfl (fun i c v hc => by simp at hc) (fun i c v hc => by simp at hc), trivial⟩

end Go.Aev

end
section
/- What a step in memory keeps. -/
namespace Go.Aev

theorem heap_alloc_old (w : World) (o : Obj) (b : Nat) (h : b < w.heap.size) : (w.alloc o).heap[b]? = w.heap[b]? := by
  show (w.heap.push o)[b]? = _
  rw [Array.getElem?_push, if_neg (by omega)]
theorem heap_alloc_new (w : World) (o : Obj) : (w.alloc o).heap[w.heap.size]? = some o := by
  show (w.heap.push o)[w.heap.size]? = _
  rw [Array.getElem?_push, if_pos rfl]
theorem lt_of_heap {w : World} {b : Nat} {o : Obj} (h : w.heap[b]? = some o) : b < w.heap.size := (Array.getElem?_eq_some_iff.1 h).1
theorem lt_of_cell {w : World} {a : Addr} {v : Value} (h : w.cell? a = some v) : a.block < w.heap.size := by
  unfold World.cell? at h
  split at h
  · rename_i h'; exact lt_of_heap h'
  · cases h
theorem spot_of_cell {w : World} {a : Addr} {v : Value} (h : w.cell? a = some v) : a.spot = none := by
  unfold World.cell? at h
  split at h
  · split at h
    · cases h
    · rename_i h'; simpa using h'
  · cases h

/-- blocks that are as they were -/
theorem keeps_of {w w' : World} {M M' : Nat → Nat} (h : ∀ b, b < w.heap.size → 0 < M b → w'.heap[b]? = w.heap[b]? ∧ M b ≤ M' b) : Keeps w w' M M' := by
  intro a v hc hm
  obtain ⟨h1, h2⟩ := h a.block (lt_of_cell hc) (by omega)
  exact ⟨by rw [World.cell?_of_block (w := w) h1]; exact hc, by omega⟩

section
variable {C : Cfg} {w0 : World} {M0 : Nat → Nat} {sm0 : List Nat} {X0 : Nat → Bool} {g : Gh} {s : St} {a : Act} {w : World}

theorem BoxOk.mono {w w' : World} {g g' : Gh} {base b : Nat} {cells : List Ent} (hx : Ext w w' g g' base) (hb : w'.heap[b]? = w.heap[b]?) (hM : g'.M b = g.M b) (h : BoxOk w g base b cells) :
    BoxOk w' g' base b cells := by
  obtain ⟨h0, cur, T, h1, h2, h3⟩ := h
  exact ⟨by rw [hM]; exact h0, cur, T, by rw [hb]; exact h1, h2, fun i e v he hv => ⟨(h3 i e v he hv).1, (h3 i e v he hv).2.mono hx⟩⟩

theorem SBoxOk.mono {w w' : World} {g g' : Gh} {i b : Nat} {bx : Box} (hk : Keeps w w' g.M g'.M) (hs : ∀ (j : Nat) c, j < i → g.sm[j]? = some c → g'.sm[j]? = some c) (hb : w'.heap[b]? = w.heap[b]?) (hM : g'.M b = g.M b)
    (hf : ∀ k, bufOf C w b = some k → w'.heap[k]? = w.heap[k]? ∧ g'.M k = g.M k) (h : SBoxOk C w g i b bx) : SBoxOk C w' g' i b bx := by
  cases bx with
  | cells l =>
    obtain ⟨h0, cur, T, hT, h1, h2, h3⟩ := h
    refine ⟨by rw [hM]; exact h0, cur, T, hT, by rw [hb]; exact h1, h2, fun j x v hx hv => ⟨(h3 j x v hx hv).1, (h3 j x v hx hv).2.mono hk fun k c hc => ?_⟩⟩
    rw [List.getElem?_take] at hc ⊢
    split at hc
    · rename_i hlt; rw [if_pos hlt]; exact hs k c hlt hc
    · cases hc
  | bld s => exact ⟨by rw [hM]; exact h.1, h.2.mono hb hf⟩

theorem SBoxOk.lt {i b : Nat} {bx : Box} (h : SBoxOk C w g i b bx) : b < w.heap.size := by
  obtain ⟨cur, T, h⟩ := h.heap
  exact lt_of_heap h

theorem SBoxOk.bufLt {i b : Nat} {bx : Box} (h : SBoxOk C w g i b bx) {k : Nat} (hk : bufOf C w b = some k) : k < w.heap.size := by
  obtain ⟨_, _, cur, T, fz, h⟩ := h.bufM hk
  exact lt_of_heap h

/-- every box that others see has a place in the list -/
theorem Inv.sgOf (h : Inv C w0 M0 sm0 X0 g s a w) {i b : Nat} (hi : g.sm[i]? = some b) : ∃ bx, s.sg[i]? = some bx ∧ g.R b = .sig i ∧ (∀ k, bufOf C w b = some k → g.R k = .buf i) ∧ SBoxOk C w g i b bx := by
  have hl : i < s.sg.length := by rw [h.sglen]; exact (List.getElem?_eq_some_iff.1 hi).1
  exact ⟨_, List.getElem?_eq_getElem hl, h.sg i b _ hi (List.getElem?_eq_getElem hl)⟩

/-- a step that touches no block that is a variable's -/
theorem Inv.step (h : Inv C w0 M0 sm0 X0 g s a w) {g' : Gh} {w' : World} (hx : Ext w w' g g' w0.heap.size) (hos : w'.os = w.os) (htp : w'.tape = w.tape) (hout : OutOk C w' w)
    (hsz : w.heap.size ≤ w'.heap.size) (hb : ∀ b, b < w.heap.size → (∀ t, g.R b ≠ .own t) → w'.heap[b]? = w.heap[b]?) (hold : ∀ b, b < w0.heap.size → X0 b = false → w'.heap[b]? = w.heap[b]? ∧ g'.M b = g.M b)
    (hM : ∀ b, b < w.heap.size → (∀ t, g.R b ≠ .own t) → g'.M b = g.M b) (hR : ∀ b, b < w.heap.size → (∀ t, g.R b ≠ .own t) → g'.R b = g.R b) (hlm : g'.lm = g.lm) (hsm : g'.sm = g.sm) (hgv : g'.gv = g.gv) :
    Inv C w0 M0 sm0 X0 g' s a w' := by
  refine ⟨hos.trans h.os, htp.trans h.tape, hout.trans h.output, Nat.le_trans h.hsize hsz, fun b hlt hns hx0 => (hold b hlt hx0).1.trans (h.frame b hlt hns hx0), fun b hlt => ⟨fun hx0 => (hold b hlt hx0).2.trans ((h.fm b hlt).1 hx0), (h.fm b hlt).2.mono hx.keeps⟩,
    by rw [hsm]; exact h.smp, h.defers, h.tsize, fun t e v he hv => (h.tm t e v he hv).mono hx, by rw [hlm]; exact h.lm, ?_, by rw [hsm]; exact h.sglen, ?_, ?_, fun i cells hc => (h.glob i cells hc).mono hx.keeps hx.sm, h.low.1, h.low.2.1, h.low.2.2.1, hgv.trans h.low.2.2.2⟩
  · intro t b cells ht hc
    rw [hlm] at ht
    obtain ⟨h1, h2, h3⟩ := h.lo t b cells ht hc
    have hlt : b < w.heap.size := by obtain ⟨_, _, _, hb, _⟩ := h3; exact lt_of_heap hb
    have hno : ∀ t, g.R b ≠ .own t := by rw [h2]; simp
    exact ⟨h1, (hR b hlt hno).trans h2, h3.mono hx (hb b hlt hno) (hM b hlt hno)⟩
  · intro i b bx hi hbx
    rw [hsm] at hi
    obtain ⟨h2, hB, h3⟩ := h.sg i b bx hi hbx
    have hlt : b < w.heap.size := h3.lt
    have hno : ∀ t, g.R b ≠ .own t := by rw [h2]; simp
    have hkno : ∀ k, bufOf C w b = some k → ∀ t, g.R k ≠ .own t := fun k hk => by rw [hB k hk]; simp
    exact ⟨(hR b hlt hno).trans h2, fun k hk => by
      rw [bufOf_eq (hb b hlt hno)] at hk
      exact (hR k (h3.bufLt hk) (hkno k hk)).trans (hB k hk), h3.mono hx.keeps (fun j c _ hj => hx.sm j c hj) (hb b hlt hno) (hM b hlt hno) fun k hk => ⟨hb k (h3.bufLt hk) (hkno k hk), hM k (h3.bufLt hk) (hkno k hk)⟩⟩
  · intro i b k hi hk hlt0
    rw [hsm] at hi
    obtain ⟨bx, _, h2, _, h3⟩ := h.sgOf hi
    rw [bufOf_eq (hb b h3.lt (by rw [h2]; simp))] at hk
    exact h.bufs i b k hi hk hlt0

/-- what is asked of the outside, and draws, turn nothing -/
theorem Inv.same (h : Inv C w0 M0 sm0 X0 g s a w) {w' : World} (hh : w'.heap = w.heap) (hos : w'.os = w.os) (htp : w'.tape = w.tape) (hout : OutOk C w' w) : Inv C w0 M0 sm0 X0 g s a w' := by
  refine h.step (g' := g) ⟨keeps_of fun b _ _ => ⟨by rw [hh], Nat.le_refl _⟩, fun _ _ h => h, fun _ _ h => h, fun t size hr => ⟨rfl, ?_⟩⟩ hos htp hout (by rw [hh]; exact Nat.le_refl _) (fun b _ _ => by rw [hh]) (fun b _ _ => ⟨by rw [hh], rfl⟩)
    (fun _ _ _ => rfl) (fun _ _ _ => rfl) rfl rfl rfl
  rcases hr with hr | ⟨b, n, cap, cur, T, h1, h2, r⟩
  · exact .inl hr
  · exact .inr ⟨b, n, cap, cur, T, h1, by rw [hh]; exact h2, r⟩

def Gh.new (g : Gh) (b : Nat) (r : Role) (m : Nat) : Gh := { g with M := fun x => if x = b then m else g.M x, R := fun x => if x = b then r else g.R x }

theorem Gh.new_M {g : Gh} {b : Nat} {r : Role} {m x : Nat} (h : x ≠ b) : (g.new b r m).M x = g.M x := if_neg h
theorem Gh.new_R {g : Gh} {b : Nat} {r : Role} {m x : Nat} (h : x ≠ b) : (g.new b r m).R x = g.R x := if_neg h

theorem ext_alloc (w : World) (g : Gh) (base : Nat) (o : Obj) (r : Role) (m : Nat) : Ext w (w.alloc o) g (g.new w.heap.size r m) base := by
  refine ⟨keeps_of fun b hb _ => ⟨heap_alloc_old w o b hb, Nat.le_of_eq (Gh.new_M (by omega)).symm⟩, fun _ _ h => h, fun _ _ h => h, fun t size hr => ⟨rfl, ?_⟩⟩
  rcases hr with hr | ⟨b, n, cap, cur, T, h1, h2, h3, h4, h5, h6, h7, h8⟩
  · exact .inl hr
  · have hlt := lt_of_heap h2
    exact .inr ⟨b, n, cap, cur, T, h1, by rw [heap_alloc_old w o b hlt]; exact h2, h3, h4, h5, by rw [Gh.new_M (by omega)]; exact h6, by rw [Gh.new_R (by omega)]; exact h7, h8⟩

/-- a new block -/
theorem Inv.alloc (h : Inv C w0 M0 sm0 X0 g s a w) (o : Obj) (r : Role) (m : Nat) : Inv C w0 M0 sm0 X0 (g.new w.heap.size r m) s a (w.alloc o) :=
  h.step (ext_alloc w g _ o r m) rfl rfl (.refl C w) (by show w.heap.size ≤ (w.heap.push o).size; simp) (fun b hb _ => heap_alloc_old w o b hb)
    (fun b hb _ => by
      have := h.hsize
      exact ⟨heap_alloc_old w o b (by omega), Gh.new_M (by omega)⟩)
    (fun b hb _ => Gh.new_M (by omega)) (fun b hb _ => Gh.new_R (by omega)) rfl rfl rfl

/-- cells that were just laid -/
theorem cell_alloc (w : World) (cur : Array Value) (T : TypeId) (k : Nat) : (w.alloc (.cells cur T)).cell? ⟨w.heap.size, k, none⟩ = cur[k]? := by
  unfold World.cell?
  rw [heap_alloc_new]
  rfl

/-- a new variable of the frame -/
theorem Inv.newBox (h : Inv C w0 M0 sm0 X0 g s a w) {t : Nat} (ht : s.lo.getD t none = none) (hlt : t < s.lo.length) (cells : List Ent) (cur : Array Value) (T : TypeId) (hl : cur.size = cells.length)
    (hc : ∀ (i : Nat) e v, cells[i]? = some e → cur[i]? = some v → v.oneCell' = true ∧ RepE w g w0.heap.size e v) :
    ∃ g', Inv C w0 M0 sm0 X0 g' { s with tm := s.tm.set t (.loc t 0, .none), lo := s.lo.set t (some cells) } (a.put (some t) (.pointer (some ⟨w.heap.size, 0, none⟩))) (w.alloc (.cells cur T)) := by
  have h1 := h.alloc (.cells cur T) (.loc t) 0
  have hx := ext_alloc w g w0.heap.size (.cells cur T) (.loc t) 0
  have hlm : g.lm t = none := (h.lm t).2 ht
  let g1 := g.new w.heap.size (.loc t) 0
  let g2 : Gh := { g1 with lm := fun u => if u = t then some w.heap.size else g1.lm u }
  have hx2 : Ext (w.alloc (.cells cur T)) (w.alloc (.cells cur T)) g1 g2 w0.heap.size := by
    refine ⟨fun _ _ h1 h2 => ⟨h1, h2⟩, fun u b hu => ?_, fun _ _ h => h, fun _ _ h => ⟨rfl, h⟩⟩
    show (if u = t then some w.heap.size else g1.lm u) = some b
    rw [if_neg ?_]
    · exact hu
    · rintro rfl
      rw [show g1.lm u = g.lm u from rfl, hlm] at hu
      cases hu
  have hgd : ∀ u, (s.lo.set t (some cells)).getD u none = if u = t then some cells else s.lo.getD u none := by
    intro u
    simp only [List.getD_eq_getElem?_getD, List.getElem?_set]
    by_cases hu : t = u
    · subst hu; simp [hlt]
    · rw [if_neg hu, if_neg (fun e => hu e.symm)]
  refine ⟨g2, ?_⟩
  have hb : w0.heap.size ≤ w.heap.size := h.hsize
  have hI : Inv C w0 M0 sm0 X0 g2 { s with lo := s.lo.set t (some cells) } a (w.alloc (.cells cur T)) := by
    refine ⟨h1.os, h1.tape, h1.output, h1.hsize, h1.frame, h1.fm, h1.smp, h1.defers, h1.tsize, fun u e v he hv => (h1.tm u e v he hv).mono hx2, ?_, ?_, h1.sglen, ?_, h1.bufs, fun i cs hc => h1.glob i cs hc, h1.low⟩
    · intro u
      rw [show ({ s with lo := s.lo.set t (some cells) } : St).lo = s.lo.set t (some cells) from rfl, hgd]
      show (if u = t then some w.heap.size else g1.lm u) = none ↔ _
      by_cases hu : u = t
      · simp [hu]
      · simp only [hu, if_false]; exact h.lm u
    · intro u b cs hu hcs
      rw [show ({ s with lo := s.lo.set t (some cells) } : St).lo = s.lo.set t (some cells) from rfl, hgd] at hcs
      replace hu : (if u = t then some w.heap.size else g1.lm u) = some b := hu
      by_cases hut : u = t
      · simp only [hut, if_true, Option.some.injEq] at hu hcs
        subst hu hcs
        refine ⟨hb, ?_, if_pos rfl, cur, T, heap_alloc_new w _, hl, fun i e v he hv => ⟨(hc i e v he hv).1, ((hc i e v he hv).2.mono hx).mono hx2⟩⟩
        rw [hut]
        exact if_pos rfl
      · simp only [hut, if_false] at hu hcs
        obtain ⟨h2, h3, h4⟩ := h1.lo u b cs hu hcs
        exact ⟨h2, h3, h4.mono hx2 rfl rfl⟩
    · intro i b bx hi hbx
      obtain ⟨h2, hB, h3⟩ := h1.sg i b bx hi hbx
      refine ⟨h2, hB, ?_⟩
      cases bx with
      | cells l => exact h3
      | bld s => exact h3
  exact hI.put (e := (.loc t 0, .none)) ⟨.loc (if_pos rfl), trivial⟩ (some t)

/-- a new variable that others see -/
theorem Inv.newSig (h : Inv C w0 M0 sm0 X0 g s a w) {dst : Option Nat} (l : List AVal) (cur : Array Value) (T : TypeId) (hT : T ≠ C.bld.1) (hl : cur.size = l.length)
    (hc : ∀ (i : Nat) x v, l[i]? = some x → cur[i]? = some v → v.oneCell' = true ∧ RepB w g.M g.sm x v) :
    ∃ g', Inv C w0 M0 sm0 X0 g' (St.put { s with sg := s.sg ++ [Box.cells l] } dst (.ref s.sg.length 0, .none)) (a.put dst (.pointer (some ⟨w.heap.size, 0, none⟩))) (w.alloc (.cells cur T)) := by
  have h1 := h.alloc (.cells cur T) (.sig g.sm.length) 0
  have hx := ext_alloc w g w0.heap.size (.cells cur T) (.sig g.sm.length) 0
  let g1 := g.new w.heap.size (.sig g.sm.length) 0
  let g2 : Gh := { g1 with sm := g.sm ++ [w.heap.size] }
  have hsm : ∀ (i : Nat) b, g.sm[i]? = some b → (g.sm ++ [w.heap.size])[i]? = some b := fun i b hi => by
    rw [List.getElem?_append_left (List.getElem?_eq_some_iff.1 hi).1]; exact hi
  have hx2 : Ext (w.alloc (.cells cur T)) (w.alloc (.cells cur T)) g1 g2 w0.heap.size :=
    ⟨fun _ _ h1 h2 => ⟨h1, h2⟩, fun _ _ h => h, hsm, fun _ _ h => ⟨rfl, h⟩⟩
  refine ⟨g2, ?_⟩
  have hb : w0.heap.size ≤ w.heap.size := h.hsize
  have hI : Inv C w0 M0 sm0 X0 g2 { s with sg := s.sg ++ [Box.cells l] } a (w.alloc (.cells cur T)) := by
    refine ⟨h1.os, h1.tape, h1.output, h1.hsize, h1.frame, h1.fm, ?_, h1.defers, h1.tsize, fun u e v he hv => (h1.tm u e v he hv).mono hx2, h1.lm, ?_, ?_, ?_, ?_, fun i cs hc => (h1.glob i cs hc).mono hx2.keeps hx2.sm, h1.low⟩
    · obtain ⟨r, hr, hr'⟩ := h.smp
      refine ⟨r ++ [w.heap.size], by show g.sm ++ _ = _; rw [hr, List.append_assoc], fun b hm => ?_⟩
      rcases List.mem_append.1 hm with hm | hm
      · exact hr' b hm
      · simp at hm; omega
    · intro u b cs hu hcs
      obtain ⟨h2, h3, h4⟩ := h1.lo u b cs hu hcs
      exact ⟨h2, h3, h4.mono hx2 rfl rfl⟩
    · simp [h.sglen, g2]
    · intro i b bx hi hbx
      replace hi : (g.sm ++ [w.heap.size])[i]? = some b := hi
      replace hbx : (s.sg ++ [Box.cells l])[i]? = some bx := hbx
      rcases Nat.lt_or_ge i g.sm.length with hlt | hge
      · rw [List.getElem?_append_left hlt] at hi
        rw [List.getElem?_append_left (by rw [h.sglen]; exact hlt)] at hbx
        obtain ⟨h2, hB, h3⟩ := h1.sg i b bx hi hbx
        exact ⟨h2, hB, h3.mono hx2.keeps (fun j c _ hj => hsm j c hj) rfl rfl fun _ _ => ⟨rfl, rfl⟩⟩
      · have hi' : i = g.sm.length := by
          have := (List.getElem?_eq_some_iff.1 hi).1
          simp at this
          omega
        subst hi'
        rw [List.getElem?_append_right (by omega)] at hi
        rw [List.getElem?_append_right (by rw [h.sglen]; exact Nat.le_refl _), h.sglen] at hbx
        simp at hi hbx
        subst hi hbx
        have hnb : ∀ k, bufOf C (w.alloc (.cells cur T)) w.heap.size = some k → g2.R k = .buf g.sm.length := fun k hk => by rw [bufOf_none (heap_alloc_new w _) hT] at hk; cases hk
        refine ⟨if_pos rfl, hnb, if_pos rfl, cur, T, hT, heap_alloc_new w _, hl, fun j x v hx' hv => ⟨(hc j x v hx' hv).1, ?_⟩⟩
        rw [show g2.sm.take g.sm.length = g.sm from by show (g.sm ++ [w.heap.size]).take _ = _; simp]
        exact (hc j x v hx' hv).2.mono hx.keeps fun _ _ h => h
    · intro i b k hi hk hlt0
      replace hi : (g.sm ++ [w.heap.size])[i]? = some b := hi
      rcases Nat.lt_or_ge i g.sm.length with hlt | hge
      · rw [List.getElem?_append_left hlt] at hi
        exact h1.bufs i b k hi hk hlt0
      · rw [List.getElem?_append_right hge] at hi
        have hbb : b = w.heap.size := by simpa using List.mem_of_getElem? hi
        rw [hbb, bufOf_none (heap_alloc_new w _) hT] at hk
        cases hk
  exact hI.put (e := (.ref s.sg.length 0, .none)) ⟨.b (.ref (by rw [h.sglen]; show (g.sm ++ [w.heap.size])[g.sm.length]? = _; simp)), trivial⟩ dst

/-- a new builder -/
theorem Inv.newBld (h : Inv C w0 M0 sm0 X0 g s a w) {dst : Option Nat} :
    ∃ g', Inv C w0 M0 sm0 X0 g' (St.put { s with sg := s.sg ++ [Box.bld ⟨#[]⟩] } dst (.ref s.sg.length 0, .none)) (a.put dst (.pointer (some ⟨w.heap.size, 0, none⟩))) (w.alloc (.cells #[.pointer none, .slice none 0 0] C.bld.1)) := by
  let cur : Array Value := #[.pointer none, .slice none 0 0]
  let T := C.bld.1
  have h1 := h.alloc (.cells cur T) (.sig g.sm.length) 0
  let g1 := g.new w.heap.size (.sig g.sm.length) 0
  let g2 : Gh := { g1 with sm := g.sm ++ [w.heap.size] }
  have hsm : ∀ (i : Nat) b, g.sm[i]? = some b → (g.sm ++ [w.heap.size])[i]? = some b := fun i b hi => by
    rw [List.getElem?_append_left (List.getElem?_eq_some_iff.1 hi).1]; exact hi
  have hx2 : Ext (w.alloc (.cells cur T)) (w.alloc (.cells cur T)) g1 g2 w0.heap.size :=
    ⟨fun _ _ h1 h2 => ⟨h1, h2⟩, fun _ _ h => h, hsm, fun _ _ h => ⟨rfl, h⟩⟩
  refine ⟨g2, ?_⟩
  have hb : w0.heap.size ≤ w.heap.size := h.hsize
  have hbuf : bufOf C (w.alloc (.cells cur T)) w.heap.size = none := (BldOk.buf (p := .pointer none) (v := .slice none 0 0) (heap_alloc_new w _)).trans rfl
  have hI : Inv C w0 M0 sm0 X0 g2 { s with sg := s.sg ++ [Box.bld ⟨#[]⟩] } a (w.alloc (.cells cur T)) := by
    refine ⟨h1.os, h1.tape, h1.output, h1.hsize, h1.frame, h1.fm, ?_, h1.defers, h1.tsize, fun u e v he hv => (h1.tm u e v he hv).mono hx2, h1.lm, ?_, ?_, ?_, ?_, fun i cs hc => (h1.glob i cs hc).mono hx2.keeps hx2.sm, h1.low⟩
    · obtain ⟨r, hr, hr'⟩ := h.smp
      refine ⟨r ++ [w.heap.size], by show g.sm ++ _ = _; rw [hr, List.append_assoc], fun b hm => ?_⟩
      rcases List.mem_append.1 hm with hm | hm
      · exact hr' b hm
      · simp at hm; omega
    · intro u b cs hu hcs
      obtain ⟨h2, h3, h4⟩ := h1.lo u b cs hu hcs
      exact ⟨h2, h3, h4.mono hx2 rfl rfl⟩
    · simp [h.sglen, g2]
    · intro i b bx hi hbx
      replace hi : (g.sm ++ [w.heap.size])[i]? = some b := hi
      replace hbx : (s.sg ++ [Box.bld ⟨#[]⟩])[i]? = some bx := hbx
      rcases Nat.lt_or_ge i g.sm.length with hlt | hge
      · rw [List.getElem?_append_left hlt] at hi
        rw [List.getElem?_append_left (by rw [h.sglen]; exact hlt)] at hbx
        obtain ⟨h2, hB, h3⟩ := h1.sg i b bx hi hbx
        exact ⟨h2, hB, h3.mono hx2.keeps (fun j c _ hj => hsm j c hj) rfl rfl fun _ _ => ⟨rfl, rfl⟩⟩
      · have hi' : i = g.sm.length := by
          have := (List.getElem?_eq_some_iff.1 hi).1
          simp at this
          omega
        subst hi'
        rw [List.getElem?_append_right (by omega)] at hi
        rw [List.getElem?_append_right (by rw [h.sglen]; exact Nat.le_refl _), h.sglen] at hbx
        simp at hi hbx
        subst hi hbx
        have hnb : ∀ k, bufOf C (w.alloc (.cells cur T)) w.heap.size = some k → g2.R k = .buf g.sm.length := fun k hk => by rw [hbuf] at hk; cases hk
        refine ⟨if_pos rfl, hnb, if_pos rfl, .pointer none, .slice none 0 0, .inl rfl, heap_alloc_new w _, ⟨rfl, .inl ⟨rfl, rfl⟩⟩, fun _ => rfl, fun k hk => by cases hk⟩
    · intro i b k hi hk hlt0
      replace hi : (g.sm ++ [w.heap.size])[i]? = some b := hi
      rcases Nat.lt_or_ge i g.sm.length with hlt | hge
      · rw [List.getElem?_append_left hlt] at hi
        exact h1.bufs i b k hi hk hlt0
      · rw [List.getElem?_append_right hge] at hi
        have hbb : b = w.heap.size := by simpa using List.mem_of_getElem? hi
        rw [hbb, hbuf] at hk
        cases hk
  exact hI.put (e := (.ref s.sg.length 0, .none)) ⟨.b (.ref (by rw [h.sglen]; show (g.sm ++ [w.heap.size])[g.sm.length]? = _; simp)), trivial⟩ dst

/-- a row of a variable written anew -/
theorem heap_setRow_other (w : World) (b k : Nat) (cs : Array Value) (h : k ≠ b) : (w.setRow b cs).heap[k]? = w.heap[k]? := setRow_other w b k cs h

theorem ext_setRow {w : World} {g : Gh} {base b : Nat} (cs : Array Value) (hM : g.M b = 0) (hR : ∀ t, g.R b ≠ .own t) : Ext w (w.setRow b cs) g g base := by
  refine ⟨keeps_of fun k hk hm => ⟨setRow_other w b k cs (by rintro rfl; omega), Nat.le_refl _⟩, fun _ _ h => h, fun _ _ h => h, fun t size hr => ⟨rfl, ?_⟩⟩
  rcases hr with hr | ⟨k, n, cap, cur, T, h1, h2, h3, h4, h5, h6, h7, h8⟩
  · exact .inl hr
  · exact .inr ⟨k, n, cap, cur, T, h1, by rw [setRow_other w b k cs (by rintro rfl; exact hR _ h7)]; exact h2, h3, h4, h5, h6, h7, h8⟩

theorem setRow_facts (C : Cfg) (w : World) (b : Nat) (cs : Array Value) : (w.setRow b cs).os = w.os ∧ (w.setRow b cs).tape = w.tape ∧ OutOk C (w.setRow b cs) w ∧ (w.setRow b cs).heap.size = w.heap.size := by
  refine ⟨rfl, rfl, .refl C w, ?_⟩
  simp [World.setRow]

/-- a variable of the frame is written -/
theorem Inv.setBox (h : Inv C w0 M0 sm0 X0 g s a w) {t b : Nat} {cells cells' : List Ent} (ht : g.lm t = some b) (hc : s.lo.getD t none = some cells) (cur' : Array Value)
    (hl : cur'.size = cells'.length) (hr : ∀ (i : Nat) e v, cells'[i]? = some e → cur'[i]? = some v → v.oneCell' = true ∧ RepE w g w0.heap.size e v) :
    Inv C w0 M0 sm0 X0 g { s with lo := s.lo.set t (some cells') } a (w.setRow b cur') := by
  obtain ⟨h1, h2, h3, cur, T, h4, h5, h6⟩ := h.lo t b cells ht hc
  have hno : ∀ t, g.R b ≠ .own t := by rw [h2]; simp
  have hx := ext_setRow (w := w) (base := w0.heap.size) cur' h3 hno
  obtain ⟨f1, f2, f3, f4⟩ := setRow_facts C w b cur'
  have hlt : t < s.lo.length := by
    rcases Nat.lt_or_ge t s.lo.length with h | h
    · exact h
    · rw [List.getD_eq_getElem?_getD, List.getElem?_eq_none h] at hc; cases hc
  have hgd : ∀ u, (s.lo.set t (some cells')).getD u none = if u = t then some cells' else s.lo.getD u none := by
    intro u
    simp only [List.getD_eq_getElem?_getD, List.getElem?_set]
    by_cases hu : t = u
    · subst hu; simp [hlt]
    · rw [if_neg hu, if_neg (fun e => hu e.symm)]
  refine ⟨f1.trans h.os, f2.trans h.tape, f3.trans h.output, by rw [f4]; exact h.hsize, fun k hk hns hx0 => by rw [setRow_other w b k cur' (by omega)]; exact h.frame k hk hns hx0, fun b hb => ⟨(h.fm b hb).1, (h.fm b hb).2.mono hx.keeps⟩, h.smp, h.defers, h.tsize,
    fun u e v he hv => (h.tm u e v he hv).mono hx, ?_, ?_, h.sglen, ?_, ?_, fun i cs hc => (h.glob i cs hc).mono hx.keeps hx.sm, h.low⟩
  · intro u
    rw [show ({ s with lo := s.lo.set t (some cells') } : St).lo = s.lo.set t (some cells') from rfl, hgd]
    by_cases hu : u = t
    · subst hu; simp [ht]
    · simp only [hu, if_false]; exact h.lm u
  · intro u k cs hu hcs
    rw [show ({ s with lo := s.lo.set t (some cells') } : St).lo = s.lo.set t (some cells') from rfl, hgd] at hcs
    by_cases hut : u = t
    · subst hut
      simp only [if_true, Option.some.injEq] at hcs
      subst hcs
      obtain rfl : b = k := by rw [ht] at hu; exact Option.some.inj hu
      exact ⟨h1, h2, h3, cur', T, setRow_heap w b cur cur' T (0, 0) h4, hl, fun i e v he hv => ⟨(hr i e v he hv).1, (hr i e v he hv).2.mono hx⟩⟩
    · simp only [hut, if_false] at hcs
      obtain ⟨k1, k2, k3⟩ := h.lo u k cs hu hcs
      have hkb : k ≠ b := by
        rintro rfl
        rw [h2] at k2
        injection k2 with e
        exact hut e.symm
      exact ⟨k1, k2, k3.mono hx (setRow_other w b k cur' hkb) rfl⟩
  · intro i k bx hi hbx
    obtain ⟨k2, kB, k3⟩ := h.sg i k bx hi hbx
    have hkb : k ≠ b := by rintro rfl; rw [h2] at k2; cases k2
    exact ⟨k2, fun u hu => kB u (by rw [bufOf_eq (setRow_other w b k cur' hkb)] at hu; exact hu), k3.mono hx.keeps (fun j c _ hj => hj) (setRow_other w b k cur' hkb) rfl fun u hu =>
      ⟨setRow_other w b u cur' (by rintro rfl; have := kB _ hu; rw [h2] at this; cases this), rfl⟩⟩
  · intro i k u hi hu hlt0
    obtain ⟨bx, _, k2, _, _⟩ := h.sgOf hi
    rw [bufOf_eq (setRow_other w b k cur' (by rintro rfl; rw [h2] at k2; cases k2))] at hu
    exact h.bufs i k u hi hu hlt0

/-- a variable that others see is written -/
theorem Inv.setSig (h : Inv C w0 M0 sm0 X0 g s a w) {i b : Nat} {l l' : List AVal} (hi : g.sm[i]? = some b) (hl : s.sg[i]? = some (.cells l)) (cur' : Array Value)
    (hs : cur'.size = l'.length) (hr : ∀ (j : Nat) x v, l'[j]? = some x → cur'[j]? = some v → v.oneCell' = true ∧ RepB w g.M (g.sm.take i) x v) :
    Inv C w0 M0 sm0 X0 g { s with sg := s.sg.set i (.cells l') } a (w.setRow b cur') := by
  obtain ⟨h2, hB, h3, cur, T, hT, h4, h5, h6⟩ := h.sg i b _ hi hl
  have hno : ∀ t, g.R b ≠ .own t := by rw [h2]; simp
  have hx := ext_setRow (w := w) (base := w0.heap.size) cur' h3 hno
  obtain ⟨f1, f2, f3, f4⟩ := setRow_facts C w b cur'
  have hilt : i < s.sg.length := (List.getElem?_eq_some_iff.1 hl).1
  have hold : b < w0.heap.size → b ∈ sm0 := by
    intro hb
    obtain ⟨r, hr1, hr2⟩ := h.smp
    rcases Nat.lt_or_ge i sm0.length with hlt | hge
    · rw [hr1, List.getElem?_append_left hlt] at hi
      exact List.mem_of_getElem? hi
    · rw [hr1, List.getElem?_append_right hge] at hi
      have := hr2 b (List.mem_of_getElem? hi)
      omega
  refine ⟨f1.trans h.os, f2.trans h.tape, f3.trans h.output, by rw [f4]; exact h.hsize, fun k hk hns hx0 => by rw [setRow_other w b k cur' (by rintro rfl; exact hns (.inl (hold hk)))]; exact h.frame k hk hns hx0, fun b hb => ⟨(h.fm b hb).1, (h.fm b hb).2.mono hx.keeps⟩, h.smp, h.defers, h.tsize,
    fun u e v he hv => (h.tm u e v he hv).mono hx, h.lm, ?_, by simp [h.sglen], ?_, ?_, fun i cs hc => (h.glob i cs hc).mono hx.keeps hx.sm, h.low⟩
  · intro u k cs hu hcs
    obtain ⟨k1, k2, k3⟩ := h.lo u k cs hu hcs
    have hkb : k ≠ b := by rintro rfl; rw [h2] at k2; cases k2
    exact ⟨k1, k2, k3.mono hx (setRow_other w b k cur' hkb) rfl⟩
  · intro j k bx hj hbx
    replace hbx : (s.sg.set i (.cells l'))[j]? = some bx := hbx
    rw [List.getElem?_set] at hbx
    by_cases hij : i = j
    · subst hij
      simp only [if_true, hilt] at hbx
      obtain rfl : b = k := by rw [hi] at hj; exact Option.some.inj hj
      cases hbx
      exact ⟨h2, fun u hu => (by rw [bufOf_none (setRow_heap w b cur cur' T (0, 0) h4) hT] at hu; cases hu), h3, cur', T, hT, setRow_heap w b cur cur' T (0, 0) h4, hs, fun j x v he hv => ⟨(hr j x v he hv).1, (hr j x v he hv).2.mono hx.keeps fun _ _ h => h⟩⟩
    · rw [if_neg hij] at hbx
      obtain ⟨k2, kB, k3⟩ := h.sg j k bx hj hbx
      have hkb : k ≠ b := by
        rintro rfl
        rw [h2] at k2
        injection k2 with e
        exact hij e
      exact ⟨k2, fun u hu => kB u (by rw [bufOf_eq (setRow_other w b k cur' hkb)] at hu; exact hu), k3.mono hx.keeps (fun j c _ hj => hj) (setRow_other w b k cur' hkb) rfl fun u hu =>
        ⟨setRow_other w b u cur' (by rintro rfl; have := kB _ hu; rw [h2] at this; cases this), rfl⟩⟩
  · intro j k u hj hu hlt0
    by_cases hkb : k = b
    · subst hkb
      rw [bufOf_none (setRow_heap w k cur cur' T (0, 0) h4) hT] at hu
      cases hu
    · rw [bufOf_eq (setRow_other w b k cur' hkb)] at hu
      exact h.bufs j k u hj hu hlt0

end
end Go.Aev

end
section
/- The evaluator's operations are the machine's: those that only look. -/
namespace Go.Aev

theorem wp_value {P : Program} {o : Oper} {a : Act} {w w' : World} {K : Act → World → Prop} {Q : Exit → Act → World → Prop} {v : Value} (h : (execOp a.eval o).run P w = .ok (.value v) w') (hn : K (a.put o.dst v) w') : o.wp P a w K Q := by
  unfold Oper.wp
  rw [h]
  exact hn
theorem wp_skipped {P : Program} {o : Oper} {a : Act} {w w' : World} {K : Act → World → Prop} {Q : Exit → Act → World → Prop} (h : (execOp a.eval o).run P w = .ok .skip w') (hn : K (a.put o.dst undef) w') : o.wp P a w K Q := by
  unfold Oper.wp
  rw [h]
  exact hn

/-- cells and what they stand for -/
def CellsOk (w : World) (g : Gh) (base : Nat) (cs : List (Dat × Own)) (vs : Array Value) : Prop :=
  cs.length = vs.size ∧ ∀ (i : Nat) (c : Dat × Own) v, cs[i]? = some c → vs[i]? = some v → Rep w g.M c.1 v ∧ OwnOk w g base c.2 v

/-- the cells of a value that is laid in memory -/
theorem entCells_rep {w : World} {g : Gh} {base : Nat} {e : Ent} {cs : List Ent} {v : Value} (h : entCells e = some cs) (he : RepE w g base e v) :
    cs.length = v.cells.size ∧ ∀ (i : Nat) e' v', cs[i]? = some e' → v.cells[i]? = some v' → v'.oneCell' = true ∧ RepE w g base e' v' := by
  obtain ⟨x, o⟩ := e
  obtain ⟨hx, ho⟩ := he
  have one : ∀ {y : Ent} {u : Value}, y = (x, o) → u = v → v.oneCell' = true → v.cells = #[v] ∧ ([y].length = v.cells.size ∧ ∀ (i : Nat) e' v', [y][i]? = some e' → v.cells[i]? = some v' → v'.oneCell' = true ∧ RepE w g base e' v') := by
    rintro y u rfl rfl hone
    have hc : u.cells = #[u] := by cases u <;> first | rfl | cases hone
    refine ⟨hc, by rw [hc]; rfl, fun i e' v' h1 h2 => ?_⟩
    rw [hc] at h2
    cases i with
    | zero =>
      simp at h1 h2
      subst h1 h2
      exact ⟨hone, hx, ho⟩
    | succ i => simp at h1
  cases x with
  | dat d =>
    cases h
    exact (one rfl rfl hx.dat_inv.one).2
  | agg l =>
    cases h
    obtain ⟨vs, rfl, hl, hr⟩ := hx.agg_inv
    refine ⟨by simpa [Value.cells] using hl, fun i e' v' h1 h2 => ?_⟩
    simp only [List.getElem?_map, Option.map_eq_some_iff] at h1
    obtain ⟨c, hc, rfl⟩ := h1
    obtain ⟨h3, h4⟩ := hr i c v' hc h2
    exact ⟨h3.one, .dat h3, h4⟩
  | loc t off => cases h
  | imm cells =>
    cases h
    obtain ⟨a, vs, rfl, _⟩ := hx.imm_inv
    exact (one rfl rfl rfl).2
  | ref i off =>
    cases h
    obtain ⟨a, _, rfl⟩ := hx.ref_inv
    exact (one rfl rfl rfl).2
  | clo f first caps =>
    cases h
    obtain ⟨_, _, rfl, _⟩ := hx.clo_inv
    exact (one rfl rfl rfl).2
  | tup vs => cases h
  | undef => cases h
  | junk => cases h

theorem entDats_rep {w : World} {g : Gh} {base : Nat} {e : Ent} {ds : List Dat} {v : Value} (h : entDats e = some ds) (he : RepE w g base e v) :
    ds.length = v.cells.size ∧ ∀ (i : Nat) d u, ds[i]? = some d → v.cells[i]? = some u → Rep w g.M d u := by
  obtain ⟨x, o⟩ := e
  cases x with
  | dat d =>
    cases h
    obtain ⟨h1, h2⟩ := entCells_rep (cs := [(.dat d, o)]) rfl he
    refine ⟨h1, fun i d' u hd hu => ?_⟩
    cases i with
    | zero =>
      cases hd
      exact (h2 0 _ u rfl hu).2.1.dat_inv
    | succ i => simp at hd
  | agg l =>
    cases h
    obtain ⟨h1, h2⟩ := entCells_rep (cs := l.map fun c => (.dat c.1, c.2)) rfl he
    refine ⟨by simpa using h1, fun i d' u hd hu => ?_⟩
    simp only [List.getElem?_map, Option.map_eq_some_iff] at hd
    obtain ⟨c, hc, rfl⟩ := hd
    exact (h2 i (.dat c.1, c.2) u (by simp [hc]) hu).2.1.dat_inv
  | _ => cases h

theorem datsOf_rep {w : World} {g : Gh} {base : Nat} : ∀ {es : List Ent} {ds : List (Dat × Own)}, datsOf es = some ds → es = ds.map fun c => (.dat c.1, c.2)
  | [], ds, h => by cases h; rfl
  | e :: es, ds, h => by
    simp only [datsOf, Option.bind_eq_some_iff, Option.map_eq_some_iff] at h
    obtain ⟨c, hc, r, hr, rfl⟩ := h
    rw [datsOf_rep (w := w) (g := g) (base := base) hr]
    obtain ⟨x, o⟩ := e
    cases x <;> simp [datOf] at hc
    subst hc
    rfl

/-- values that are handed on, without marks -/
theorem strip_rep {w : World} {g : Gh} {base : Nat} {x : AVal} {v : Value} (h : RepA w g base x v) (hx : handsOn x = true) : RepB w g.M g.sm (stripA x) v := by
  cases h with
  | b h =>
    cases h with
    | agg hl h =>
      refine .agg (by simpa using hl) fun i c v hc hv => ?_
      simp only [List.getElem?_map, Option.map_eq_some_iff] at hc
      obtain ⟨c', hc', rfl⟩ := hc
      exact ⟨(h i c' v hc' hv).1, rfl⟩
    | dat h => exact .dat h
    | imm vs h1 h2 h3 => exact .imm vs h1 h2 h3
    | ref h => exact .ref h
    | clo h1 h2 h3 h4 => exact .clo h1 h2 h3 h4
  | agg hl h =>
    refine .agg (by simpa using hl) fun i c v hc hv => ?_
    simp only [List.getElem?_map, Option.map_eq_some_iff] at hc
    obtain ⟨c', hc', rfl⟩ := hc
    exact ⟨(h i c' v hc' hv).1, rfl⟩
  | loc h => cases hx
  | tup hl h => cases hx
  | undef => cases hx
  | junk v => cases hx

theorem RepB.toA {w : World} {g : Gh} {base : Nat} {x : AVal} {v : Value} (h : RepB w g.M g.sm x v) : RepE w g base (x, .none) v := ⟨.b h, trivial⟩

/-! ### numbers, texts, truths -/

section
variable {P : Program} {w : World} {g : Gh} {base : Nat}

theorem toList_eq (a b : ByteArray) : (a.toList == b.toList) = decide (a = b) := by
  rw [Bool.eq_iff_iff]
  simp only [ByteArray.toList_eq, beq_iff_eq, decide_eq_true_eq]
  constructor
  · intro h
    cases a; cases b
    simpa using h
  · rintro rfl; rfl

theorem listEq_eq (a b : ByteArray) : (a.data.toList == b.data.toList) = decide (a = b) := by
  rw [← toList_eq, ByteArray.toList_eq, ByteArray.toList_eq]

theorem intBin_run {op : BinOp} {k : IntKind} {x y : Int} {d : Dat} (t : TypeId) (h : intBin op k x y = some d) : ∃ v, (binOp op t (.int k x) (.int k y)).run P w = .ok v w ∧ Rep w g.M d v := by
  cases op <;> simp only [intBin, Option.some.injEq, reduceCtorEq] at h <;> subst h
  all_goals
    simp only [binOp, ne_eq, not_true_eq_false, if_false, Op.intArith, Op.intCmp, Op.intBits, Sem.run_pure, Result.ok.injEq, and_true]
    first
      | exact ⟨_, rfl, .int _ _⟩
      | exact ⟨_, rfl, .bool _⟩

theorem strBin_run {op : BinOp} {x y : ByteArray} {d : Dat} (t : TypeId) (h : strBin op x y = some d) : ∃ v, (binOp op t (.string x) (.string y)).run P w = .ok v w ∧ Rep w g.M d v := by
  cases op <;> simp only [strBin, Option.some.injEq, reduceCtorEq] at h <;> subst h
  all_goals
    simp only [binOp, Op.stringOp, ByteArray.toList_eq, listEq_eq, Sem.run_pure, Result.ok.injEq, and_true]
    exact ⟨_, rfl, .bool _⟩

theorem cond_none {β : Type} {b : Bool} {x y : Option β} {r : β} (hy : y = none) (h : cond b x y = some r) : b = true ∧ x = some r := by
  subst hy
  cases b with
  | true => exact ⟨rfl, h⟩
  | false => cases h

theorem datBin_run {op : BinOp} {x y d : Dat} {vx vy : Value} (t : TypeId) (h : datBin op x y some = some d) (hx : Rep w g.M x vx) (hy : Rep w g.M y vy) :
    ∃ v, (binOp op t vx vy).run P w = .ok v w ∧ Rep w g.M d v := by
  unfold datBin at h
  split at h
  · cases hx; cases hy
    rename_i k a k' b
    cases op
    case shl =>
      obtain ⟨h1, h2⟩ := cond_none rfl h
      have h1 : 0 ≤ b := by simpa using h1
      cases h2
      exact ⟨_, by simp [binOp, Op.shift, show ¬ b < 0 from by omega], .int _ _⟩
    case shr =>
      obtain ⟨h1, h2⟩ := cond_none rfl h
      have h1 : 0 ≤ b := by simpa using h1
      cases h2
      exact ⟨_, by simp [binOp, Op.shift, show ¬ b < 0 from by omega], .int _ _⟩
    case quo =>
      obtain ⟨h1, h2⟩ := cond_none rfl h
      simp only [Bool.and_eq_true, beq_iff_eq, Bool.not_eq_true', decide_eq_false_iff_not] at h1
      obtain ⟨rfl, h1⟩ := h1
      cases h2
      exact ⟨_, by simp [binOp, Op.intDiv, h1], .int _ _⟩
    case rem =>
      obtain ⟨h1, h2⟩ := cond_none rfl h
      simp only [Bool.and_eq_true, beq_iff_eq, Bool.not_eq_true', decide_eq_false_iff_not] at h1
      obtain ⟨rfl, h1⟩ := h1
      cases h2
      exact ⟨_, by simp [binOp, Op.intDiv, h1], .int _ _⟩
    all_goals
      obtain ⟨h1, h2⟩ := cond_none rfl h
      simp only [beq_iff_eq] at h1
      subst h1
      split at h2
      · rename_i hb
        cases h2
        exact intBin_run t hb
      · cases h2
  · cases hx; cases hy
    rename_i a b
    cases op
    case add =>
      obtain ⟨h1, h2⟩ := cond_none rfl h
      have h1 : a.size + b.size ≤ maxStr := of_decide_eq_true h1
      unfold maxStr at h1
      cases h2
      refine ⟨_, ?_, .str _⟩
      simp only [binOp, Op.stringOp]
      rw [if_neg (by rw [IntKind.max_i64]; omega)]
      rfl
    all_goals
      simp only at h
      split at h
      · rename_i hb
        cases h
        exact strBin_run t hb
      · cases h
  · cases h

theorem isBoolT_some {t : TypeId} (h : isBoolT P t = true) : P.underlying t = some .bool := by
  unfold isBoolT at h
  split at h
  · assumption
  · cases h

/-- structs of plain cells: their equality by cells -/
theorem cellsEq_append : ∀ {ps ps' : List Shp} {xs ys : List (Dat × Own)} {b : Bool}, cellsEq (ps ++ ps') xs ys = some b →
    ∃ c d, cellsEq ps (xs.take ps.length) (ys.take ps.length) = some c ∧ cellsEq ps' (xs.drop ps.length) (ys.drop ps.length) = some d ∧ b = (c && d)
  | [], ps', xs, ys, b, h => ⟨true, b, rfl, h, by simp⟩
  | p :: ps, ps', [], ys, b, h => by simp [cellsEq] at h
  | p :: ps, ps', x :: xs, [], b, h => by simp [cellsEq] at h
  | p :: ps, ps', x :: xs, y :: ys, b, h => by
    simp only [List.cons_append, cellsEq, Option.bind_eq_some_iff, Option.map_eq_some_iff] at h
    obtain ⟨c, hc, r, hr, rfl⟩ := h
    obtain ⟨c', d, h1, h2, rfl⟩ := cellsEq_append hr
    exact ⟨c && c', d, by simp [cellsEq, hc, h1], by simpa using h2, by simp [Bool.and_assoc]⟩

theorem cellsEq_length : ∀ {ps : List Shp} {xs ys : List (Dat × Own)} {b : Bool}, cellsEq ps xs ys = some b → xs.length = ps.length ∧ ys.length = ps.length
  | [], [], [], b, h => ⟨rfl, rfl⟩
  | p :: ps, x :: xs, y :: ys, b, h => by
    simp only [cellsEq, Option.bind_eq_some_iff, Option.map_eq_some_iff] at h
    obtain ⟨c, _, r, hr, _⟩ := h
    have := cellsEq_length hr
    simp [this.1, this.2]
  | [], x :: xs, _, _, h => by cases h
  | [], [], y :: ys, _, h => by cases h
  | p :: ps, [], _, _, h => by cases h
  | p :: ps, x :: xs, [], _, h => by cases h

/-- the folding of a struct's fields -/
def flatFs (P : Program) (n : Nat) (fs : List Field) (l : List Shp) : Option (List Shp) :=
  fs.foldl (fun (acc : Option (List Shp)) f => acc.bind fun l => cond (f.name != "_" && f.offset == l.length) ((flatT P n f.type).map fun r => l ++ r) none) (some l)

theorem flatFs_none (P : Program) (n : Nat) : ∀ (fs : List Field), fs.foldl (fun (acc : Option (List Shp)) f => acc.bind fun l => cond (f.name != "_" && f.offset == l.length) ((flatT P n f.type).map fun r => l ++ r) none) none = none
  | [] => rfl
  | f :: fs => by rw [List.foldl_cons]; exact flatFs_none P n fs

theorem flatFs_cons {P : Program} {n : Nat} {f : Field} {fs : List Field} {l m : List Shp} (h : flatFs P n (f :: fs) l = some m) :
    f.name ≠ "_" ∧ f.offset = l.length ∧ ∃ r, flatT P n f.type = some r ∧ flatFs P n fs (l ++ r) = some m := by
  unfold flatFs at h
  rw [List.foldl_cons] at h
  simp only [Option.bind_some] at h
  cases hc : (f.name != "_" && f.offset == l.length) with
  | false => rw [hc, cond_false, flatFs_none] at h; cases h
  | true =>
    rw [hc, cond_true] at h
    simp only [Bool.and_eq_true, bne_iff_ne, ne_eq, beq_iff_eq] at hc
    cases hr : flatT P n f.type with
    | none => rw [hr, Option.map_none, flatFs_none] at h; cases h
    | some r => rw [hr, Option.map_some] at h; exact ⟨hc.1, hc.2, r, rfl, h⟩

theorem flatFs_prefix {P : Program} {n : Nat} : ∀ {fs : List Field} {l m : List Shp}, flatFs P n fs l = some m → ∃ r, m = l ++ r
  | [], l, m, h => by cases h; exact ⟨[], by simp⟩
  | f :: fs, l, m, h => by
    obtain ⟨_, _, r, _, h2⟩ := flatFs_cons h
    obtain ⟨q, rfl⟩ := flatFs_prefix h2
    exact ⟨r ++ q, by simp⟩

theorem flatT_succ {P : Program} {n : Nat} {t : TypeId} {ps : List Shp} (h : flatT P (n + 1) t = some ps) :
    (∃ k, P.underlying t = some (.int k) ∧ ps = [.int k]) ∨ (P.underlying t = some .bool ∧ ps = [.bool]) ∨ (P.underlying t = some .string ∧ ps = [.str]) ∨
    ∃ fs, P.underlying t = some (.struct fs) ∧ P.stoodInHeld t = false ∧ flatFs P n fs.toList [] = some ps ∧ sizeT P t = some ps.length := by
  unfold flatT at h
  split at h
  · cases h; exact .inl ⟨_, by assumption, rfl⟩
  · cases h; exact .inr (.inl ⟨by assumption, rfl⟩)
  · cases h; exact .inr (.inr (.inl ⟨by assumption, rfl⟩))
  · rename_i fs hu
    refine .inr (.inr (.inr ⟨fs, hu, ?_⟩))
    cases hp : P.stoodInHeld t with
    | true => rw [hp, cond_true] at h; cases h
    | false =>
      rw [hp, cond_false] at h
      simp only [Option.bind_eq_some_iff] at h
      obtain ⟨l, h1, h2⟩ := h
      obtain ⟨h3, h4⟩ := cond_none rfl h2
      cases h4
      exact ⟨rfl, h1, by simpa using h3⟩
  · cases h

theorem size_one {α : Type} {a : Array α} (h : a.size = 1) : ∃ u, a = #[u] := by
  obtain ⟨l⟩ := a
  match l, h with
  | [u], _ => exact ⟨u, rfl⟩

theorem run_sizeOf {t : TypeId} {n : Nat} (h : sizeT P t = some n) : (sizeOf t).run P w = .ok n w := by
  unfold sizeT at h
  simp only [Option.map_eq_some_iff] at h
  obtain ⟨i, hi, rfl⟩ := h
  simp [sizeOf, typeInfo, hi]

theorem run_isAgg {t : TypeId} {d : TypeDesc} (h : P.underlying t = some d) : (isAgg t).run P w = .ok (isAggT P t) w := by
  unfold isAgg isAggT
  simp only [Sem.run_bind, run_underlying h, Result.andThen_ok, h]
  cases d <;> rfl

/-- the value of cells of a type -/
def valOf (P : Program) (t : TypeId) (vs : Array Value) : Value :=
  if isAggT P t then .agg vs else vs.getD 0 undef

theorem run_part {t : TypeId} {d : TypeDesc} {n off : Nat} {vs : Array Value} (hu : P.underlying t = some d) (hs : isAggT P t = true → sizeT P t = some n) (h1 : isAggT P t = false → n = 1) (hle : off + n ≤ vs.size) :
    (part t vs off).run P w = .ok (valOf P t (vs.extract off (off + n))) w := by
  unfold part
  simp only [Sem.run_bind, run_isAgg hu, Result.andThen_ok, Sem.run_ite]
  cases ha : isAggT P t with
  | true =>
    rw [if_pos rfl]
    simp [run_sizeOf (hs ha), valOf, ha]
  | false =>
    rw [if_neg (by simp)]
    obtain rfl := h1 ha
    have : vs[off]? = some vs[off] := Array.getElem?_eq_getElem (by omega)
    rw [this]
    simp [valOf, ha, Array.getD]
    intro h
    omega

theorem equalIn_flat : ∀ (n d : Nat) (t : TypeId) (ps : List Shp) (xs ys : List (Dat × Own)) (vx vy : Array Value) (b : Bool), n ≤ d → flatT P n t = some ps → cellsEq ps xs ys = some b →
    xs.length = vx.size → ys.length = vy.size → (∀ (i : Nat) (c : Dat × Own) v, xs[i]? = some c → vx[i]? = some v → Rep w g.M c.1 v) → (∀ (i : Nat) (c : Dat × Own) v, ys[i]? = some c → vy[i]? = some v → Rep w g.M c.1 v) →
    (Op.equalIn d t (valOf P t vx) (valOf P t vy)).run P w = .ok b w := by
  intro n
  induction n with
  | zero => intro d t ps xs ys vx vy b _ h; cases h
  | succ n ih =>
    intro d t ps xs ys vx vy b hd hf he hlx hly hx hy
    obtain ⟨d, rfl⟩ : ∃ e, d = e + 1 := ⟨d - 1, by omega⟩
    have scalar : ∀ {p : Shp}, ps = [p] → ∃ x y u v, xs = [x] ∧ ys = [y] ∧ vx = #[u] ∧ vy = #[v] ∧ cellEq p x.1 y.1 = some b ∧ Rep w g.M x.1 u ∧ Rep w g.M y.1 v := by
      rintro p rfl
      obtain ⟨l1, l2⟩ := cellsEq_length he
      obtain ⟨x, rfl⟩ : ∃ x, xs = [x] := by cases xs with
        | nil => simp at l1
        | cons x r => cases r with
          | nil => exact ⟨x, rfl⟩
          | cons => simp at l1
      obtain ⟨y, rfl⟩ : ∃ x, ys = [x] := by cases ys with
        | nil => simp at l2
        | cons x r => cases r with
          | nil => exact ⟨x, rfl⟩
          | cons => simp at l2
      obtain ⟨u, rfl⟩ : ∃ u, vx = #[u] := by
        have : vx.size = 1 := by rw [← hlx]; rfl
        exact size_one this
      obtain ⟨v, rfl⟩ : ∃ u, vy = #[u] := by
        have : vy.size = 1 := by rw [← hly]; rfl
        exact size_one this
      refine ⟨x, y, u, v, rfl, rfl, rfl, rfl, ?_, hx 0 x u rfl rfl, hy 0 y v rfl rfl⟩
      simp only [cellsEq, Option.bind_eq_some_iff, Option.map_eq_some_iff] at he
      obtain ⟨c, hc, r, hr, rfl⟩ := he
      cases hr
      simpa using hc
    rcases flatT_succ hf with ⟨k, hu, rfl⟩ | ⟨hu, rfl⟩ | ⟨hu, rfl⟩ | ⟨fs, hu, hp, hfs, hsz⟩
    · obtain ⟨⟨x, ox⟩, ⟨y, oy⟩, u, v, rfl, rfl, rfl, rfl, hc, r1, r2⟩ := scalar rfl
      have ha : isAggT P t = false := by simp [isAggT, hu]
      cases x <;> cases y <;> simp [cellEq] at hc
      cases r1; cases r2
      obtain ⟨h1, h2⟩ := cond_none rfl hc
      cases h2
      simp only [Bool.and_eq_true, beq_iff_eq] at h1
      obtain ⟨rfl, rfl⟩ := h1
      simp [valOf, ha, run_equalIn_int w d t _ _ _ _ hu]
      rfl
    · obtain ⟨⟨x, ox⟩, ⟨y, oy⟩, u, v, rfl, rfl, rfl, rfl, hc, r1, r2⟩ := scalar rfl
      have ha : isAggT P t = false := by simp [isAggT, hu]
      cases x <;> cases y <;> simp [cellEq] at hc
      cases r1; cases r2
      subst hc
      simp [valOf, ha, run_equalIn_bool' w d t _ _ hu]
    · obtain ⟨⟨x, ox⟩, ⟨y, oy⟩, u, v, rfl, rfl, rfl, rfl, hc, r1, r2⟩ := scalar rfl
      have ha : isAggT P t = false := by simp [isAggT, hu]
      cases x <;> cases y <;> simp [cellEq] at hc
      cases r1; cases r2
      subst hc
      simp [valOf, ha, run_equalIn_string w d t _ _ hu, toList_eq]
    · have ha : isAggT P t = true := by simp [isAggT, hu]
      have hfo : P.fieldsOf t = fs := by simp [Program.fieldsOf, hu]
      simp only [valOf, ha, if_true]
      rw [run_equalIn_struct w d t vx vy (by rw [hfo]; exact hu) hp, hfo]
      obtain ⟨l1, l2⟩ := cellsEq_length he
      have main : ∀ (fs : List Field) (l : List Shp) (c : Bool), flatFs P n fs l = some ps → cellsEq (ps.drop l.length) (xs.drop l.length) (ys.drop l.length) = some c → (Op.eqFields d vx vy fs).run P w = .ok c w := by
        intro fs
        induction fs with
        | nil =>
          intro l c hl hc
          cases hl
          rw [List.drop_length, List.drop_eq_nil_of_le (by omega), List.drop_eq_nil_of_le (by omega)] at hc
          cases hc
          rfl
        | cons f fs ihf =>
          intro l c hl hc
          obtain ⟨h1, h2, r, h3, h4⟩ := flatFs_cons hl
          obtain ⟨q, hq⟩ := flatFs_prefix h4
          have hdr : ps.drop l.length = r ++ q := by rw [hq, List.append_assoc]; simp
          rw [hdr] at hc
          obtain ⟨c1, c2, hc1, hc2, rfl⟩ := cellsEq_append hc
          have hle : l.length + r.length ≤ ps.length := by rw [hq]; simp
          obtain ⟨dd, hdd⟩ : ∃ dd, P.underlying f.type = some dd := by
            cases n with
            | zero => cases h3
            | succ n =>
              rcases flatT_succ h3 with ⟨k, hu, _⟩ | ⟨hu, _⟩ | ⟨hu, _⟩ | ⟨fs, hu, _⟩ <;> exact ⟨_, hu⟩
          have hsa : isAggT P f.type = true → sizeT P f.type = some r.length := by
            intro hag
            cases n with
            | zero => cases h3
            | succ n =>
              rcases flatT_succ h3 with ⟨k, hu, _⟩ | ⟨hu, _⟩ | ⟨hu, _⟩ | ⟨fs, hu, _, _, hs⟩
              · simp [isAggT, hu] at hag
              · simp [isAggT, hu] at hag
              · simp [isAggT, hu] at hag
              · exact hs
          have hs1 : isAggT P f.type = false → r.length = 1 := by
            intro hag
            cases n with
            | zero => cases h3
            | succ n =>
              rcases flatT_succ h3 with ⟨k, hu, rfl⟩ | ⟨hu, rfl⟩ | ⟨hu, rfl⟩ | ⟨fs, hu, _, _, hs⟩
              · rfl
              · rfl
              · rfl
              · simp [isAggT, hu] at hag
          have px := run_part (w := w) hdd hsa hs1 (vs := vx) (off := f.offset) (by omega)
          have py := run_part (w := w) hdd hsa hs1 (vs := vy) (off := f.offset) (by omega)
          have sub : ∀ {zs : List (Dat × Own)} {vz : Array Value}, zs.length = ps.length → zs.length = vz.size → (∀ (i : Nat) (c : Dat × Own) v, zs[i]? = some c → vz[i]? = some v → Rep w g.M c.1 v) →
              ((zs.drop l.length).take r.length).length = (vz.extract f.offset (f.offset + r.length)).size ∧
              ∀ (i : Nat) (c : Dat × Own) v, ((zs.drop l.length).take r.length)[i]? = some c → (vz.extract f.offset (f.offset + r.length))[i]? = some v → Rep w g.M c.1 v := by
            intro zs vz h5 h6 h7
            refine ⟨by simp; omega, fun i c v hc hv => ?_⟩
            simp only [List.getElem?_take, List.getElem?_drop] at hc
            split at hc
            · rw [Array.getElem?_extract] at hv
              split at hv
              · rw [h2] at hv; exact h7 _ c v hc hv
              · cases hv
            · cases hc
          have sx := sub l1 hlx hx
          have sy := sub l2 hly hy
          have hrec := ih d f.type r _ _ _ _ c1 (by omega) h3 hc1 sx.1 sy.1 sx.2 sy.2
          have hnext := ihf (l ++ r) c2 h4 (by
            rw [List.length_append, show ps.drop (l.length + r.length) = q from by rw [hq]; simp, ← List.drop_drop, ← List.drop_drop]
            exact hc2)
          simp only [Op.eqFields, h1, ne_eq, not_false_eq_true, if_true, Sem.run_bind, px, py, hrec, Result.andThen_ok, Sem.run_ite]
          cases c1
          · simp
          · simp [hnext]
      exact main fs.toList [] b hfs (by simpa using he)
end
end Go.Aev

end
section
/- The evaluator's operations are the machine's: looking into memory, and what has a shape. -/
namespace Go.Aev

section
variable {β : Type}

theorem asInt_some {k : IntKind} {d : Dat} {F : Int → Option β} {r : β} (h : asInt k d F = some r) : ∃ n, d = .int k n ∧ F n = some r := by
  unfold asInt at h
  split at h
  · obtain ⟨h1, h2⟩ := cond_none rfl h
    simp only [beq_iff_eq] at h1
    subst h1
    exact ⟨_, rfl, h2⟩
  · cases h
theorem asBool_some {d : Dat} {F : Bool → Option β} {r : β} (h : asBool d F = some r) : ∃ n, d = .bool n ∧ F n = some r := by
  unfold asBool at h
  split at h
  · exact ⟨_, rfl, h⟩
  · cases h
theorem asStr_some {d : Dat} {F : ByteArray → Option β} {r : β} (h : asStr d F = some r) : ∃ n, d = .str n ∧ F n = some r := by
  unfold asStr at h
  split at h
  · exact ⟨_, rfl, h⟩
  · cases h
theorem asSl_some {d : Dat} {F : List (List Dat) → Option β} {r : β} (h : asSl d F = some r) : ∃ n, d = .sl n ∧ F n = some r := by
  unfold asSl at h
  split at h
  · exact ⟨_, rfl, h⟩
  · cases h
theorem asIfc_some {d : Dat} {F : Dat → Option β} {r : β} (h : asIfc d F = some r) : isIfc d = true ∧ F d = some r := by
  unfold asIfc at h
  cases hd : isIfc d with
  | true => rw [hd] at h; exact ⟨rfl, h⟩
  | false => rw [hd] at h; cases h
theorem asShp_some {p : Shp} {d : Dat} {F : Dat → Option β} {r : β} (h : asShp p d F = some r) : F d = some r := by
  unfold asShp at h
  split at h
  · obtain ⟨n, rfl, h'⟩ := asInt_some h; exact h'
  · obtain ⟨n, rfl, h'⟩ := asBool_some h; exact h'
  · obtain ⟨n, rfl, h'⟩ := asStr_some h; exact h'
  · obtain ⟨n, rfl, h'⟩ := asSl_some h; exact h'
  · exact (asIfc_some h).2
  · exact h
theorem cellAt_some {e : List Dat} {j : Nat} {F : Dat → Option β} {r : β} (h : cellAt e j F = some r) : ∃ d, e[j]? = some d ∧ F d = some r := by
  unfold cellAt at h
  split at h
  · exact ⟨_, by assumption, h⟩
  · cases h
theorem cellsAt_some {e : List Dat} : ∀ {ps : List Shp} {j : Nat} {F : List Dat → Option β} {r : β}, cellsAt ps e j F = some r →
    ∃ ds, F ds = some r ∧ ds.length = ps.length ∧ ∀ i, i < ps.length → e[j + i]? = ds[i]?
  | [], j, F, r, h => ⟨[], h, rfl, fun i hi => by simp at hi⟩
  | p :: ps, j, F, r, h => by
    simp only [cellsAt] at h
    obtain ⟨d, hd, h⟩ := cellAt_some h
    obtain ⟨ds, h1, h2, h3⟩ := cellsAt_some (asShp_some h)
    refine ⟨d :: ds, h1, by simp [h2], fun i hi => ?_⟩
    cases i with
    | zero => simpa using hd
    | succ i =>
      have := h3 i (by simpa using hi)
      simpa [show j + (i + 1) = j + 1 + i by omega] using this
theorem asDat_some {x : AVal} {F : Dat → Option β} {r : β} (h : asDat x F = some r) : ∃ d, x = .dat d ∧ F d = some r := by
  unfold asDat at h
  split at h
  · exact ⟨_, rfl, h⟩
  · cases h
theorem asAgg_some {x : AVal} {F : List (Dat × Own) → Option β} {r : β} (h : asAgg x F = some r) : ∃ d, x = .agg d ∧ F d = some r := by
  unfold asAgg at h
  split at h
  · exact ⟨_, rfl, h⟩
  · cases h

/-- a value's shape turns nothing of it -/
theorem decVal_some {P : Program} {t : TypeId} {e : Ent} {F : Ent → Option β} {r : β} (h : decVal P t e F = some r) :
    F (stripA e.1, .none) = some r ∨ (F (e.1, .none) = some r ∧ ∀ cs, e.1 ≠ .agg cs) ∨ (F (e.1, .none) = some r ∧ shapesOf P 12 t = some [.any]) := by
  unfold decVal at h
  split at h
  · exact .inr (.inr ⟨(cond_none rfl h).2, by assumption⟩)
  · rename_i ps hne hps
    cases ha : isAggT P t with
    | true =>
      rw [ha, cond_true] at h
      obtain ⟨cs, hcs, h⟩ := asAgg_some h
      obtain ⟨h1, h2⟩ := cond_none rfl h
      obtain ⟨ds, h3, h4, h5⟩ := cellsAt_some h2
      left
      rw [hcs]
      simp only [beq_iff_eq] at h1
      have : cs.map (·.1) = ds := by
        apply List.ext_getElem?
        intro i
        rcases Nat.lt_or_ge i ps.length with hlt | hge
        · simpa using h5 i hlt
        · rw [List.getElem?_eq_none (by simp; omega), List.getElem?_eq_none (by omega)]
      rw [← this] at h3
      simp only [stripA]
      rw [List.map_map] at h3
      exact h3
    | false =>
      rw [ha, cond_false] at h
      split at h
      · obtain ⟨d, hd, h⟩ := asDat_some h
        have := asShp_some h
        exact .inr (.inl ⟨by rw [hd]; exact this, by rw [hd]; intro cs hc; cases hc⟩)
      · cases h
  · cases h

end

section
variable {w : World} {g : Gh} {base : Nat}

theorem decVal_rep {β : Type} {P : Program} {t : TypeId} {e : Ent} {F : Ent → Option β} {r : β} {v : Value} (h : decVal P t e F = some r) (he : RepA w g base e.1 v) : ∃ e', F e' = some r ∧ RepE w g base e' v := by
  rcases decVal_some h with h | ⟨h, _⟩ | ⟨h, _⟩
  · refine ⟨_, h, ?_, trivial⟩
    cases hx : e.1 with
    | agg cs =>
      rw [hx] at he
      obtain ⟨vs, rfl, hl, hr⟩ := he.agg_inv
      refine .agg (by simpa using hl) fun i c v hc hv => ?_
      simp only [List.getElem?_map, Option.map_eq_some_iff] at hc
      obtain ⟨c', hc', rfl⟩ := hc
      exact ⟨(hr i c' v hc' hv).1, trivial⟩
    | _ => rw [hx] at he; exact he
  · exact ⟨_, h, he, trivial⟩
  · exact ⟨_, h, he, trivial⟩

theorem decVals_rep {β : Type} {P : Program} : ∀ {ts : List TypeId} {es : List Ent} {F : List Ent → Option β} {r : β} {vs : List Value}, decVals P ts es F = some r → es.length = vs.length →
    (∀ (i : Nat) (e : Ent) v, es[i]? = some e → vs[i]? = some v → RepB w g.M g.sm e.1 v) →
    ∃ es', F es' = some r ∧ es'.length = vs.length ∧ ∀ (i : Nat) (e : Ent) v, es'[i]? = some e → vs[i]? = some v → RepB w g.M g.sm e.1 v ∧ e.2 = .none
  | [], [], F, r, vs, h, hl, hr => ⟨[], h, hl, fun i e v he => by simp at he⟩
  | [], _ :: _, F, r, vs, h, hl, hr => by cases h
  | t :: ts, [], F, r, vs, h, hl, hr => by cases h
  | t :: ts, e :: es, F, r, [], h, hl, hr => by simp at hl
  | t :: ts, e :: es, F, r, v :: vs, h, hl, hr => by
    simp only [decVals] at h
    have hB := hr 0 e v rfl rfl
    have key : ∃ e', decVals P ts es (fun r => F (e' :: r)) = some r ∧ RepB w g.M g.sm e'.1 v ∧ e'.2 = .none := by
      rcases decVal_some h with h | ⟨h, _⟩ | ⟨h, _⟩
      · refine ⟨_, h, ?_, rfl⟩
        cases hx : e.1 with
        | agg cs =>
          rw [hx] at hB
          cases hB with
          | agg hl' hr' =>
            refine .agg (by simpa using hl') fun i c v hc hv => ?_
            simp only [List.getElem?_map, Option.map_eq_some_iff] at hc
            obtain ⟨c', hc', rfl⟩ := hc
            exact ⟨(hr' i c' v hc' hv).1, rfl⟩
        | _ => rw [hx] at hB; exact hB
      · exact ⟨_, h, hB, rfl⟩
      · exact ⟨_, h, hB, rfl⟩
    obtain ⟨e', h1, h2, h3⟩ := key
    obtain ⟨es', h4, h5, h6⟩ := decVals_rep (vs := vs) h1 (by simpa using hl) (fun i e v he hv => hr (i + 1) e v (by simpa using he) (by simpa using hv))
    refine ⟨e' :: es', h4, by simp [h5], fun i e v' he hv => ?_⟩
    cases i with
    | zero =>
      simp at he hv
      subst he hv
      exact ⟨h2, h3⟩
    | succ i => exact h6 i e v' (by simpa using he) (by simpa using hv)

theorem isAgg_under {P : Program} {t : TypeId} (h : isAggT P t = true) : ∃ d, P.underlying t = some d := by
  unfold isAggT at h
  split at h
  · exact ⟨_, by assumption⟩
  · exact ⟨_, by assumption⟩
  · cases h

theorem shapes_under {P : Program} {n : Nat} {t : TypeId} {ps : List Shp} (h : shapesOf P n t = some ps) : ∃ d, P.underlying t = some d := by
  cases n with
  | zero => cases h
  | succ n =>
    cases hd : P.underlying t with
    | none => simp [shapesOf, hd] at h
    | some d => exact ⟨d, rfl⟩

/-- several cells from a place on -/
theorem run_loadRow {P : Program} {a : Addr} {n : Nat} {vs : Nat → Value} (h : ∀ k, k < n → w.cell? (a.add k) = some (vs k)) :
    (loadCells a n).run P w = .ok ((List.range n).map vs).toArray w := run_loadCells (P := P) w a n vs h

theorem run_loadVar_agg {P : Program} {t : TypeId} {n : Nat} {a : Addr} {vs : Nat → Value} (ha : isAggT P t = true) (hs : sizeT P t = some n) (h : ∀ k, k < n → w.cell? (a.add k) = some (vs k)) :
    (loadVar t a).run P w = .ok (.agg ((List.range n).map vs).toArray) w := by
  obtain ⟨d, hd⟩ := isAgg_under ha
  simp [loadVar, run_isAgg hd, ha, run_sizeOf hs, run_loadRow h]

theorem run_loadVar_one {P : Program} {t : TypeId} {d : TypeDesc} {a : Addr} {v : Value} (hu : P.underlying t = some d) (ha : isAggT P t = false) (h : w.cell? a = some v) :
    (loadVar t a).run P w = .ok v w := by
  simp [loadVar, run_isAgg hu, ha, h]

theorem getElem_range {α : Type} {n i : Nat} {vs : Nat → α} {v : α} (h : ((List.range n).map vs).toArray[i]? = some v) : i < n ∧ v = vs i := by
  rcases Nat.lt_or_ge i n with hlt | hge
  · refine ⟨hlt, ?_⟩
    simp [hlt] at h
    exact h.symm
  · simp [hge] at h

end
end Go.Aev

end
section
/- The evaluator's operations are the machine's: loads, stores, places, parts. -/
namespace Go.Aev

section
variable {C : Cfg} {w0 : World} {M0 : Nat → Nat} {sm0 : List Nat} {X0 : Nat → Bool} {g : Gh} {s : St} {a : Act} {w : World}

/-- what a variable of the frame holds -/
theorem Inv.locCells (h : Inv C w0 M0 sm0 X0 g s a w) {u b : Nat} {cells : List Ent} (hb : g.lm u = some b) (hc : s.lo.getD u none = some cells) :
    ∃ cur T, w.heap[b]? = some (.cells cur T (0, 0)) ∧ cur.size = cells.length ∧ g.M b = 0 ∧
      (∀ k, w.cell? ⟨b, k, none⟩ = cur[k]?) ∧ ∀ (i : Nat) (e : Ent) v, cells[i]? = some e → cur[i]? = some v → v.oneCell' = true ∧ RepE w g w0.heap.size e v := by
  obtain ⟨_, _, h0, cur, T, h1, h2, h3⟩ := h.lo u b cells hb hc
  exact ⟨cur, T, h1, h2, h0, fun k => cell_of_row w b k cur T (0, 0) h1, h3⟩

theorem Inv.sigCells (h : Inv C w0 M0 sm0 X0 g s a w) {i b : Nat} {l : List AVal} (hb : g.sm[i]? = some b) (hc : s.sg[i]? = some (.cells l)) :
    ∃ cur T, w.heap[b]? = some (.cells cur T (0, 0)) ∧ cur.size = l.length ∧ g.M b = 0 ∧
      (∀ k, w.cell? ⟨b, k, none⟩ = cur[k]?) ∧ ∀ (j : Nat) x v, l[j]? = some x → cur[j]? = some v → v.oneCell' = true ∧ RepB w g.M (g.sm.take i) x v := by
  obtain ⟨_, _, h0, cur, T, _, h1, h2, h3⟩ := h.sg i b _ hb hc
  exact ⟨cur, T, h1, h2, h0, fun k => cell_of_row w b k cur T (0, 0) h1, h3⟩

theorem take_sub {sm : List Nat} {i : Nat} : ∀ (j : Nat) b, (sm.take i)[j]? = some b → sm[j]? = some b := by
  intro j b h
  rw [List.getElem?_take] at h
  split at h
  · exact h
  · cases h

theorem sgBox_some {β : Type} {sg : Sig} {i : Nat} {F : List AVal → Option β} {r : β} (h : sgBox sg i F = some r) : ∃ l, sg[i]? = some (.cells l) ∧ F l = some r := by
  unfold sgBox at h
  split at h
  · exact ⟨_, by assumption, h⟩
  · cases h
theorem cellA_some {β : Type} {l : List AVal} {i : Nat} {F : AVal → Option β} {r : β} (h : cellA l i F = some r) : ∃ x, l[i]? = some x ∧ F x = some r := by
  unfold cellA at h
  split at h
  · exact ⟨_, by assumption, h⟩
  · cases h

theorem loadAt_run {P : Program} {t : TypeId} {ad : Addr} {v : Value} (h : (loadVar t ad).run P w = .ok v w) : (Instr.loadAt t (.pointer (some ad))).run P w = .ok v w := h

theorem load_run {β : Type} {ns : Bool} {t : TypeId} {p : AVal} {v : Value} {F : Ent → Option β} {r : β} (hI : Inv C w0 M0 sm0 X0 g s a w) (hp : RepA w g w0.heap.size p v) (h : loadA C ns s.lo s.sg t p F = some r) :
    ∃ e u, F e = some r ∧ (Instr.loadAt t v).run C.P w = .ok u w ∧ RepE w g w0.heap.size e u := by
  unfold loadA at h
  split at h
  · rename_i size d0 hsz hu
    split at h
    · rename_i u off
      obtain ⟨b, hb, rfl⟩ := hp.loc_inv
      split at h
      · rename_i cells hcells
        obtain ⟨cur, T, hh, hl, _, hcell, hrep⟩ := hI.locCells hb hcells
        cases ha : isAggT C.P t with
        | true =>
          rw [ha, cond_true] at h
          obtain ⟨h1, h2⟩ := cond_none rfl h
          have h1 : off + size ≤ cells.length := by simpa using h1
          split at h2
          · rename_i ds hds
            have hds' := datsOf_rep (w := w) (g := g) (base := w0.heap.size) hds
            have hrun := run_loadVar_agg (P := C.P) (w := w) (a := ⟨b, off, none⟩) (vs := fun k => cur.getD (off + k) undef) ha hsz (fun k hk => by
              rw [add_eq rfl, hcell, Array.getElem?_eq_getElem (by simp; omega)]
              simp [Array.getD, show off + k < cur.size by omega])
            refine ⟨_, _, h2, loadAt_run hrun, .agg (by
              have := congrArg List.length hds'
              simp at this
              simp; omega) fun i c v hc hv => ?_, trivial⟩
            obtain ⟨hlt, rfl⟩ := getElem_range hv
            have hcell' : cells[off + i]? = some (.dat c.1, c.2) := by
              have := congrArg (fun l => l[i]?) hds'
              simp only [List.getElem?_map, hc, Option.map_some, List.getElem?_take, List.getElem?_drop, hlt, if_true] at this
              exact this
            have hcur : cur[off + i]? = some (cur.getD (off + i) undef) := by
              rw [Array.getElem?_eq_getElem (by omega)]
              simp [Array.getD, show off + i < cur.size by omega]
            obtain ⟨h3, h4⟩ := (hrep (off + i) _ _ hcell' hcur).2
            exact ⟨h3.dat_inv, h4⟩
          · cases h2
        | false =>
          rw [ha, cond_false] at h
          split at h
          · rename_i e he
            have h := (cond_none rfl h).2
            have hlt : off < cur.size := by rw [hl]; exact (List.getElem?_eq_some_iff.1 he).1
            have hcur : cur[off]? = some cur[off] := Array.getElem?_eq_getElem hlt
            exact ⟨e, cur[off], h, loadAt_run (run_loadVar_one hu ha (show w.cell? ⟨b, off, none⟩ = some cur[off] by rw [hcell, hcur])), (hrep off e _ he hcur).2⟩
          · cases h
      · cases h
    · rename_i cells
      obtain ⟨ad, vs, rfl, hs, hcell, hr⟩ := hp.imm_inv
      split at h
      · rename_i ps _
        cases ha : isAggT C.P t with
        | true =>
          rw [ha, cond_true] at h
          obtain ⟨h1, h2⟩ := cond_none rfl h
          obtain ⟨ds, h3, h4, h5⟩ := cellsAt_some h2
          simp only [beq_iff_eq] at h1
          have hle : ∀ k, k < size → k < cells.length := fun k hk => by
            have := h5 k (by omega)
            rw [Nat.zero_add, List.getElem?_eq_getElem (show k < ds.length by omega)] at this
            exact (List.getElem?_eq_some_iff.1 this).1
          have hrun := run_loadVar_agg (P := C.P) (w := w) (a := ad) (vs := vs) ha hsz (fun k hk => (hcell k (hle k hk)).1)
          refine ⟨_, _, h3, loadAt_run hrun, .agg (by simp; omega) fun i c v hc hv => ?_, trivial⟩
          obtain ⟨hlt, rfl⟩ := getElem_range hv
          simp only [List.getElem?_map, Option.map_eq_some_iff] at hc
          obtain ⟨x, hx, rfl⟩ := hc
          have := h5 i (by omega)
          rw [Nat.zero_add, hx] at this
          exact ⟨hr i x this, trivial⟩
        | false =>
          rw [ha, cond_false] at h
          split at h
          · obtain ⟨x, hx, h⟩ := cellAt_some h
            have h := asShp_some h
            have hc := (hcell 0 (List.getElem?_eq_some_iff.1 hx).1).1
            simp only [Addr.add_zero'] at hc
            exact ⟨_, _, h, loadAt_run (run_loadVar_one hu ha hc), .dat (hr 0 x hx), trivial⟩
          · cases h
      · cases h
    · rename_i i off
      obtain ⟨b, hb, rfl⟩ := hp.ref_inv
      cases ns with
      | true => cases h
      | false =>
        rw [cond_false] at h
        obtain ⟨l, hl, h⟩ := sgBox_some h
        obtain ⟨cur, T, hh, hsize, _, hcell, hrep⟩ := hI.sigCells hb hl
        cases ha : isAggT C.P t with
        | true =>
          rw [ha, cond_true] at h
          obtain ⟨h1, h2⟩ := cond_none rfl h
          have h1 : off + size ≤ l.length := by simpa using h1
          split at h2
          · rename_i ds hds
            have hds' := datsV_some hds
            have hrun := run_loadVar_agg (P := C.P) (w := w) (a := ⟨b, off, none⟩) (vs := fun k => cur.getD (off + k) undef) ha hsz (fun k hk => by
              rw [add_eq rfl, hcell, Array.getElem?_eq_getElem (by simp; omega)]
              simp [Array.getD, show off + k < cur.size by omega])
            refine ⟨_, _, h2, loadAt_run hrun, .agg (by
              have := congrArg List.length hds'
              simp at this
              simp; omega) fun i' c v hc hv => ?_, trivial⟩
            obtain ⟨hlt, rfl⟩ := getElem_range hv
            simp only [List.getElem?_map, Option.map_eq_some_iff] at hc
            obtain ⟨x, hx, rfl⟩ := hc
            have hcell' : l[off + i']? = some (.dat x) := by
              have := congrArg (fun l => l[i']?) hds'
              simp only [List.getElem?_map, hx, Option.map_some, List.getElem?_take, List.getElem?_drop, hlt, if_true] at this
              exact this
            have hcur : cur[off + i']? = some (cur.getD (off + i') undef) := by
              rw [Array.getElem?_eq_getElem (by omega)]
              simp [Array.getD, show off + i' < cur.size by omega]
            cases (hrep (off + i') _ _ hcell' hcur).2 with
            | dat h3 => exact ⟨h3, trivial⟩
          · cases h2
        | false =>
          rw [ha, cond_false] at h
          obtain ⟨x, hx, h⟩ := cellA_some h
          have hlt : off < cur.size := by rw [hsize]; exact (List.getElem?_eq_some_iff.1 hx).1
          have hcur : cur[off]? = some cur[off] := Array.getElem?_eq_getElem hlt
          have hB := (hrep off x _ hx hcur).2.mono (sm' := g.sm) (fun _ _ h k => ⟨h, k⟩) take_sub
          obtain ⟨e, he, hre⟩ := decVal_rep (base := w0.heap.size) h (RepA.b hB)
          exact ⟨e, cur[off], he, loadAt_run (run_loadVar_one hu ha (show w.cell? ⟨b, off, none⟩ = some cur[off] by rw [hcell, hcur])), hre⟩
    · cases h
  · cases h
end
end Go.Aev

end
section
/- The evaluator's operations are the machine's: stores, new variables, literals, append. -/
namespace Go.Aev

section
variable {C : Cfg} {w0 : World} {M0 : Nat → Nat} {sm0 : List Nat} {X0 : Nat → Bool} {g : Gh} {s : St} {a : Act} {w : World}

theorem setBox_length : ∀ (cs : List Ent) (l : List Ent) (off : Nat), (setBox l off cs).length = l.length
  | [], _, _ => rfl
  | c :: cs, l, off => by simp only [setBox]; rw [setBox_length cs]; simp
theorem setBox_get : ∀ (cs : List Ent) (l : List Ent) (off i : Nat), off + cs.length ≤ l.length →
    (setBox l off cs)[i]? = if off ≤ i ∧ i < off + cs.length then cs[i - off]? else l[i]?
  | [], l, off, i, _ => by rw [if_neg (by simp)]; rfl
  | c :: cs, l, off, i, h => by
    simp only [List.length_cons] at h
    simp only [setBox]
    rw [setBox_get cs (l.set off c) (off + 1) i (by simp; omega)]
    by_cases h1 : i = off
    · subst h1
      rw [if_neg (by omega), if_pos (by simp), List.getElem?_set]
      simp [show i < l.length by omega]
    · by_cases h2 : off + 1 ≤ i ∧ i < off + 1 + cs.length
      · rw [if_pos h2, if_pos (by simp; omega), show i - off = (i - (off + 1)) + 1 by omega]
        simp
      · rw [if_neg h2, if_neg (by simp; omega), List.getElem?_set, if_neg (fun e => h1 e.symm)]

theorem setCells_length : ∀ (cs : List Ent) (l : List AVal) (off : Nat), (setCells l off cs).length = l.length
  | [], _, _ => rfl
  | c :: cs, l, off => by simp only [setCells]; rw [setCells_length cs]; simp
theorem setCells_get : ∀ (cs : List Ent) (l : List AVal) (off i : Nat), off + cs.length ≤ l.length →
    (setCells l off cs)[i]? = if off ≤ i ∧ i < off + cs.length then (cs[i - off]?).map (·.1) else l[i]?
  | [], l, off, i, _ => by rw [if_neg (by simp)]; rfl
  | c :: cs, l, off, i, h => by
    simp only [List.length_cons] at h
    simp only [setCells]
    rw [setCells_get cs (l.set off c.1) (off + 1) i (by simp; omega)]
    by_cases h1 : i = off
    · subst h1
      rw [if_neg (by omega), if_pos (by simp), List.getElem?_set]
      simp [show i < l.length by omega]
    · by_cases h2 : off + 1 ≤ i ∧ i < off + 1 + cs.length
      · rw [if_pos h2, if_pos (by simp; omega), show i - off = (i - (off + 1)) + 1 by omega]
        simp
      · rw [if_neg h2, if_neg (by simp; omega), List.getElem?_set, if_neg (fun e => h1 e.symm)]

/-- what the machine lays into a row -/
theorem row_get (cur : Array Value) (off : Nat) (vs : List Value) (i : Nat) (h : off + vs.length ≤ cur.size) :
    (cur.toList.take off ++ vs ++ cur.toList.drop (off + vs.length)).toArray[i]? = if off ≤ i ∧ i < off + vs.length then vs[i - off]? else cur[i]? := by
  simp only [List.getElem?_toArray]
  have hl : (cur.toList.take off).length = off := by simp; omega
  by_cases h1 : i < off
  · rw [if_neg (by omega), List.getElem?_append_left (by simp; omega), List.getElem?_append_left (by omega), List.getElem?_take, if_pos h1]
    simp
  · by_cases h2 : i < off + vs.length
    · rw [if_pos ⟨by omega, h2⟩, List.getElem?_append_left (by simp; omega), List.getElem?_append_right (by omega), hl]
    · rw [if_neg (by omega), List.getElem?_append_right (by simp; omega), List.getElem?_drop]
      simp only [List.length_append, hl]
      rw [show off + vs.length + (i - (off + vs.length)) = i by omega]
      simp

theorem storeAt_run {P : Program} {t : TypeId} {n b off : Nat} {v : Value} {cur : Array Value} {T : TypeId} (hs : sizeT P t = some n) (hn : v.cells.size = n) (hh : w.heap[b]? = some (.cells cur T (0, 0)))
    (hle : off + n ≤ cur.size) (h1 : ∀ x ∈ v.cells.toList, x.oneCell' = true) :
    (Instr.storeAt t (.pointer (some ⟨b, off, none⟩)) v).run P w = .ok () (w.setRow b (cur.toList.take off ++ v.cells.toList ++ cur.toList.drop (off + v.cells.toList.length)).toArray) := by
  have := run_storeCells_at P b off T v.cells.toList 0 cur w hh (by simp; omega) h1
  simp only [Nat.add_zero] at this
  show (storeVar t ⟨b, off, none⟩ v).run P w = _
  simp only [storeVar, Sem.run_bind, run_sizeOf hs, Result.andThen_ok]
  simp [hn]
  simpa [hn] using this

theorem store_run {β : Type} {ns : Bool} {t : TypeId} {p : AVal} {e : Ent} {vp v : Value} {K : Dl → Option β} {r : β} (hI : Inv C w0 M0 sm0 X0 g s a w) (hp : RepA w g w0.heap.size p vp) (he : RepE w g w0.heap.size e v)
    (h : storeA C ns s.lo s.sg t p e K = some r) (dst : Option Nat) :
    ∃ d w', K d = some r ∧ (Instr.storeAt t vp v).run C.P w = .ok () w' ∧ Inv C w0 M0 sm0 X0 g (d.apply s dst) (a.put dst undef) w' := by
  unfold storeA at h
  split at h
  · rename_i size cs hsz hcs
    obtain ⟨h1, h2⟩ := cond_none rfl h
    simp only [beq_iff_eq] at h1
    obtain ⟨hlen, hcell⟩ := entCells_rep hcs he
    have hone : ∀ x ∈ v.cells.toList, x.oneCell' = true := by
      intro x hx
      obtain ⟨i, hi, hix⟩ := List.getElem_of_mem hx
      have hlt : i < cs.length := by rw [hlen]; simpa using hi
      exact (hcell i cs[i] x (List.getElem?_eq_getElem hlt) (by rw [← Array.getElem?_toList, List.getElem?_eq_getElem hi, hix])).1
    split at h2
    · rename_i u off
      obtain ⟨b, hb, rfl⟩ := hp.loc_inv
      split at h2
      · rename_i cells hcells
        obtain ⟨h3, h4⟩ := cond_none rfl h2
        have h3 : off + size ≤ cells.length := by simpa using h3
        obtain ⟨cur, T, hh, hl, _, _, hrep⟩ := hI.locCells hb hcells
        have hrun := storeAt_run (w := w) (v := v) (off := off) hsz (by omega) hh (by omega) hone
        refine ⟨_, _, h4, hrun, ?_⟩
        have hI2 := hI.setBox hb hcells (cells' := setBox cells off cs) (cur.toList.take off ++ v.cells.toList ++ cur.toList.drop (off + v.cells.toList.length)).toArray (by
          rw [setBox_length]; simp; omega) (fun i e' v' h5 h6 => by
          rw [setBox_get _ _ _ _ (by omega)] at h5
          rw [row_get _ _ _ _ (by simp; omega)] at h6
          by_cases hr : off ≤ i ∧ i < off + cs.length
          · rw [if_pos hr] at h5
            rw [if_pos (by simp; omega)] at h6
            exact hcell (i - off) e' v' h5 (by simpa using h6)
          · rw [if_neg hr] at h5
            rw [if_neg (by simp; omega)] at h6
            exact hrep i e' v' h5 h6)
        exact hI2.put (e := (.undef, .none)) ⟨.undef, trivial⟩ dst
      · cases h2
    · rename_i i off
      obtain ⟨b, hb, rfl⟩ := hp.ref_inv
      cases hns : (ns || !plainA e.1) with
      | true => rw [hns] at h2; cases h2
      | false =>
        rw [hns, cond_false] at h2
        obtain ⟨l, hl, h2⟩ := sgBox_some h2
        obtain ⟨h3, h4⟩ := cond_none rfl h2
        have h3 : off + size ≤ l.length := by simpa using h3
        obtain ⟨cur, T, hh, hl', _, _, hrep⟩ := hI.sigCells hb hl
        have hrun := storeAt_run (w := w) (v := v) (off := off) hsz (by omega) hh (by omega) hone
        have hpl : plainA e.1 = true := by
          cases hx : plainA e.1 with
          | true => rfl
          | false => rw [hx] at hns; simp at hns
        refine ⟨_, _, h4, hrun, ?_⟩
        have hplain : ∀ (j : Nat) (c : Ent) (v' : Value), cs[j]? = some c → v.cells[j]? = some v' → RepB w g.M (g.sm.take i) c.1 v' := by
          intro j c v' h5 h6
          obtain ⟨_, h7, _⟩ := hcell j c v' h5 h6
          have plainB : ∀ {x : AVal} {u : Value}, RepB w g.M g.sm x u → plainA x = true → RepB w g.M (g.sm.take i) x u := by
            intro x u hx
            induction hx with
            | dat h => intro _; exact .dat h
            | agg h1 h2 => intro _; exact .agg h1 h2
            | imm vs h1 h2 h3 => intro _; exact .imm vs h1 h2 h3
            | ref h => intro hp; cases hp
            | clo h1 h2 h3 h4 ih ih' =>
              intro hp
              simp only [plainA, Bool.and_eq_true] at hp
              have all : ∀ {l : List AVal} {i : Nat} {c : AVal}, plainL l = true → l[i]? = some c → plainA c = true := by
                intro l
                induction l with
                | nil => intro i c _ h; simp at h
                | cons x l ih =>
                  intro i c hp h
                  simp only [plainL, Bool.and_eq_true] at hp
                  cases i with
                  | zero => simp at h; subst h; exact hp.1
                  | succ i => exact ih hp.2 (by simpa using h)
              exact .clo h1 h2 (fun i c v hc hv => ih i c v hc hv (all hp.1 hc)) (fun i c v hc hv => ih' i c v hc hv (all hp.2 hc))
          obtain ⟨x, o⟩ := e
          cases x with
          | agg l' =>
            simp only [entCells, Option.some.injEq] at hcs
            subst hcs
            simp only [List.getElem?_map, Option.map_eq_some_iff] at h5
            obtain ⟨c', hc', rfl⟩ := h5
            exact .dat h7.dat_inv
          | dat d =>
            simp only [entCells, Option.some.injEq] at hcs
            subst hcs
            cases j with
            | zero => simp at h5; subst h5; exact .dat h7.dat_inv
            | succ j => simp at h5
          | imm l' =>
            simp only [entCells, Option.some.injEq] at hcs
            subst hcs
            cases j with
            | zero => simp at h5; subst h5; cases h7 with | b h7 => exact plainB h7 rfl
            | succ j => simp at h5
          | clo f f1 f2 =>
            simp only [entCells, Option.some.injEq] at hcs
            subst hcs
            cases j with
            | zero => simp at h5; subst h5; cases h7 with | b h7 => exact plainB h7 hpl
            | succ j => simp at h5
          | ref => cases hpl
          | loc => cases hpl
          | tup => cases hpl
          | undef => cases hpl
          | junk => cases hpl
        have hI2 := hI.setSig hb hl (l' := setCells l off cs) (cur.toList.take off ++ v.cells.toList ++ cur.toList.drop (off + v.cells.toList.length)).toArray (by
          rw [setCells_length]; simp; omega) (fun j x v' h5 h6 => by
          rw [setCells_get _ _ _ _ (by omega)] at h5
          rw [row_get _ _ _ _ (by simp; omega)] at h6
          by_cases hr : off ≤ j ∧ j < off + cs.length
          · rw [if_pos hr] at h5
            rw [if_pos (by simp; omega)] at h6
            simp only [Option.map_eq_some_iff] at h5
            obtain ⟨c, hc, rfl⟩ := h5
            have h6 : v.cells[j - off]? = some v' := by simpa using h6
            exact ⟨(hcell (j - off) c v' hc h6).1, hplain _ _ _ hc h6⟩
          · rw [if_neg hr] at h5
            rw [if_neg (by simp; omega)] at h6
            exact hrep j x v' h5 h6)
        exact hI2.put (e := (.undef, .none)) ⟨.undef, trivial⟩ dst
    · cases h2
  · cases h

/-- new variables -/
theorem new_run {β : Type} {f : FuncId} {ns : Bool} {dst : Option Nat} {cells : List Ent} {cur : Array Value} {T : TypeId} {K : Dl → Option β} {r : β} (hI : Inv C w0 M0 sm0 X0 g s a w)
    (h : newA C f ns s.lo s.sg dst cells K = some r) (hl : cells.length = cur.size) (hc : ∀ (i : Nat) (e : Ent) v, cells[i]? = some e → cur[i]? = some v → v.oneCell' = true ∧ RepE w g w0.heap.size e v)
    (hna : ∀ e ∈ cells, ∀ cs, e.1 ≠ .agg cs) (hT : T ≠ C.bld.1) :
    ∃ d g', K d = some r ∧ Inv C w0 M0 sm0 X0 g' (d.apply s dst) (a.put dst (.pointer (some ⟨w.heap.size, 0, none⟩))) (w.alloc (.cells cur T)) := by
  unfold newA at h
  split at h
  · cases h
  · rename_i t
    cases he : C.esc f t with
    | true =>
      rw [he, cond_true] at h
      cases hns : (ns || !handsAll (cells.map fun c => c.1)) with
      | true => rw [hns] at h; cases h
      | false =>
        rw [hns, cond_false] at h
        have hh : handsAll (cells.map fun c => c.1) = true := by
          cases hx : handsAll (cells.map fun c => c.1) with
          | true => rfl
          | false => rw [hx] at hns; simp at hns
        have hall : ∀ {l : List AVal} {i : Nat} {c : AVal}, handsAll l = true → l[i]? = some c → handsOn c = true := by
          intro l
          induction l with
          | nil => intro i c _ h; simp at h
          | cons x l ih =>
            intro i c hp h
            simp only [handsAll, Bool.and_eq_true] at hp
            cases i with
            | zero => simp at h; subst h; exact hp.1
            | succ i => exact ih hp.2 (by simpa using h)
        obtain ⟨g', hI'⟩ := hI.newSig (dst := some t) (cells.map fun c => c.1) cur T hT (by simp; omega) (fun i x v hx hv => by
          have hon := hall hh hx
          simp only [List.getElem?_map, Option.map_eq_some_iff] at hx
          obtain ⟨e, hx, rfl⟩ := hx
          obtain ⟨h1, h2, _⟩ := hc i e v hx hv
          have := strip_rep h2 hon
          refine ⟨h1, ?_⟩
          have hs : stripA e.1 = e.1 := by
            have := hna e (List.mem_of_getElem? hx)
            cases he1 : e.1 <;> first | rfl | exact absurd he1 (this _)
          rw [hs] at this
          exact this)
        exact ⟨_, g', h, hI'⟩
    | false =>
      rw [he, cond_false] at h
      split at h
      · rename_i hnone
        obtain ⟨h1, h2⟩ := cond_none rfl h
        obtain ⟨g', hI'⟩ := hI.newBox hnone (by simpa using h1) cells cur T (by omega) hc
        exact ⟨_, g', h2, hI'⟩
      · cases h

/-- a new builder -/
theorem newB_run {β : Type} {f : FuncId} {ns : Bool} {dst : Option Nat} {cs : List (Dat × Own)} {cur : Array Value} {K : Dl → Option β} {r : β} (hI : Inv C w0 M0 sm0 X0 g s a w)
    (h : newB C f ns s.sg dst cs K = some r) (hc : constCells cur.toList = some cs) :
    ∃ d g', K d = some r ∧ Inv C w0 M0 sm0 X0 g' (d.apply s dst) (a.put dst (.pointer (some ⟨w.heap.size, 0, none⟩))) (w.alloc (.cells cur C.bld.1)) := by
  unfold newB at h
  split at h
  · cases h
  · rename_i t
    obtain ⟨h1, h2⟩ := cond_none rfl h
    simp only [Bool.and_eq_true] at h1
    have hz := h1.2
    unfold zeroBld at hz
    split at hz
    · rename_i o1 o2
      have hcur : cur = #[.pointer none, .slice none 0 0] := by
        have key : ∀ {v : Value} {d : Dat} {o : Own}, constCell v = some (d, o) → (d = .nilP → v = .pointer none) ∧ (d = .sl [] → v = .slice none 0 0) := by
          intro v d o hv
          unfold constCell at hv
          split at hv <;> simp only [Option.some.injEq, Prod.mk.injEq, reduceCtorEq] at hv
          all_goals obtain ⟨rfl, rfl⟩ := hv
          all_goals refine ⟨fun e => ?_, fun e => ?_⟩
          all_goals first | rfl | cases e
        match hl : cur.toList, hc with
        | [], hc => cases hc
        | [v], hc =>
          simp only [constCells, Option.bind_eq_some_iff, Option.map_eq_some_iff] at hc
          obtain ⟨_, _, _, hx, hc⟩ := hc
          cases hx; cases hc
        | [v, u], hc =>
          simp only [constCells, Option.bind_eq_some_iff, Option.map_eq_some_iff] at hc
          obtain ⟨⟨d, o⟩, hd, l, ⟨⟨d', o'⟩, hd', l', hx, rfl⟩, hc⟩ := hc
          cases hx
          cases hc
          have e1 := (key hd).1 rfl
          have e2 := (key hd').2 rfl
          subst e1 e2
          cases cur; simp at hl; subst hl; rfl
        | v :: u :: x :: r, hc =>
          simp only [constCells, Option.bind_eq_some_iff, Option.map_eq_some_iff] at hc
          obtain ⟨_, _, _, ⟨_, _, _, ⟨_, _, _, _, rfl⟩, rfl⟩, hc⟩ := hc
          cases hc
      subst hcur
      obtain ⟨g', hI'⟩ := hI.newBld (dst := some t)
      exact ⟨_, g', h2, hI'⟩
    · cases hz

end
end Go.Aev

end
section
/- The evaluator's operations are the machine's: literals, make, append. -/
namespace Go.Aev

section
variable {C : Cfg} {w0 : World} {M0 : Nat → Nat} {sm0 : List Nat} {X0 : Nat → Bool} {g : Gh} {s : St} {a : Act} {w : World} {base : Nat}

/-- a part laid into a literal's cells -/
theorem foldl_set (vs : List Value) : ∀ (k off : Nat) (cells : Array Value), off + k + vs.length ≤ cells.size →
    ((vs.zipIdx k).foldl (fun cs (x : Value × Nat) => cs.setIfInBounds (off + x.2) x.1) cells).size = cells.size ∧
    ∀ i, ((vs.zipIdx k).foldl (fun cs (x : Value × Nat) => cs.setIfInBounds (off + x.2) x.1) cells)[i]? = if off + k ≤ i ∧ i < off + k + vs.length then vs[i - (off + k)]? else cells[i]? := by
  induction vs with
  | nil => intro k off cells _; exact ⟨rfl, fun i => by rw [if_neg (by simp)]; rfl⟩
  | cons v vs ih =>
    intro k off cells h
    simp only [List.length_cons] at h
    simp only [List.zipIdx_cons, List.foldl_cons]
    obtain ⟨h1, h2⟩ := ih (k + 1) off (cells.setIfInBounds (off + k) v) (by simp; omega)
    refine ⟨by rw [h1]; simp, fun i => ?_⟩
    rw [h2]
    by_cases h3 : i = off + k
    · subst h3
      rw [if_neg (by omega), if_pos (by simp), Array.getElem?_setIfInBounds]
      simp [show off + k < cells.size by omega]
    · by_cases h4 : off + (k + 1) ≤ i ∧ i < off + (k + 1) + vs.length
      · rw [if_pos h4, if_pos (by simp; omega), show i - (off + k) = (i - (off + (k + 1))) + 1 by omega]
        simp
      · rw [if_neg h4, if_neg (by simp; omega), Array.getElem?_setIfInBounds, if_neg (fun e => h3 e.symm)]

theorem fill_rep {ρa : Operand → Ent} {ρ : Operand → Value} (hρ : ∀ x, RepE w g base (ρa x) (ρ x)) {place : Nat → Option (Nat × Nat)} : ∀ (parts : List (Nat × Operand)) {cs cs' : List (Dat × Own)} {vs : Array Value},
    fillA ρa place cs parts = some cs' → CellsOk w g base cs vs → ∃ vs', Instr.fill place vs (parts.map fun (i, x) => (i, ρ x)) = some vs' ∧ CellsOk w g base cs' vs' ∧ cs'.length = cs.length
  | [], cs, cs', vs, h, hc => by
    cases h
    exact ⟨vs, rfl, hc, rfl⟩
  | (i, x) :: rest, cs, cs', vs, h, hc => by
    unfold fillA at h
    split at h
    · rename_i off size ds hp hd
      obtain ⟨h1, h2⟩ := cond_none rfl h
      simp only [Bool.and_eq_true, beq_iff_eq, decide_eq_true_eq] at h1
      simp only [Option.bind_eq_some_iff] at hd
      obtain ⟨es, hes, hds⟩ := hd
      have hds' := datsOf_rep (w := w) (g := g) (base := base) hds
      obtain ⟨hl, hcell⟩ := entCells_rep hes (hρ x)
      have hlen : ds.length = (ρ x).cells.size := by rw [← hl, hds']; simp
      obtain ⟨f1, f2⟩ := foldl_set (ρ x).cells.toList 0 off vs (by have := hc.1; simp; omega)
      simp only [Nat.add_zero] at f2
      have hnew : CellsOk w g base (cs.take off ++ ds ++ cs.drop (off + size)) (((ρ x).cells.toList.zipIdx).foldl (fun cs (x : Value × Nat) => cs.setIfInBounds (off + x.2) x.1) vs) := by
        refine ⟨by rw [f1, ← hc.1]; simp; omega, fun k c v hk hv => ?_⟩
        rw [f2] at hv
        have hto : (cs.take off).length = off := by simp; omega
        by_cases h3 : k < off
        · rw [if_neg (by omega)] at hv
          rw [List.getElem?_append_left (by simp; omega), List.getElem?_append_left (by omega), List.getElem?_take, if_pos h3] at hk
          exact hc.2 k c v hk hv
        · by_cases h4 : k < off + size
          · rw [if_pos (by simp; omega)] at hv
            rw [List.getElem?_append_left (by simp; omega), List.getElem?_append_right (by omega), hto] at hk
            have he : es[k - off]? = some (.dat c.1, c.2) := by rw [hds', List.getElem?_map, hk]; rfl
            obtain ⟨_, h5, h6⟩ := hcell (k - off) _ v he (by simpa using hv)
            exact ⟨h5.dat_inv, h6⟩
          · rw [if_neg (by simp; omega)] at hv
            rw [List.getElem?_append_right (by simp; omega), List.getElem?_drop] at hk
            simp only [List.length_append, hto] at hk
            rw [show off + size + (k - (off + ds.length)) = k by omega] at hk
            exact hc.2 k c v hk hv
      obtain ⟨vs', h5, h6, h7⟩ := fill_rep hρ rest h2 hnew
      refine ⟨vs', ?_, h6, by rw [h7]; simp; omega⟩
      simp only [List.map_cons, Instr.fill, hp]
      have hvs := hc.1
      rw [if_neg (by
        simp only [Bool.or_eq_true, decide_eq_true_eq, not_or]
        exact ⟨by omega, by omega⟩)]
      rw [← Array.foldl_toList, Array.toList_zipIdx]
      exact h5
    · cases h

theorem zeroCells_some {P : Program} {t : TypeId} {zs : List (Dat × Own)} (h : zeroCells P t = some zs) : ∃ i z, P.info? t = some i ∧ i.zero = some z ∧ constCells z.cells.toList = some zs := by
  unfold zeroCells at h
  simp only [Option.bind_eq_some_iff] at h
  obtain ⟨z, ⟨i, hi, hz⟩, hc⟩ := h
  exact ⟨i, z, hi, hz, hc⟩

theorem zero_rep {z : Value} {zs : List (Dat × Own)} (h : constCells z.cells.toList = some zs) : CellsOk w g base zs z.cells := by
  obtain ⟨h1, h2⟩ := rep_constCells (w := w) (g := g) (base := base) h
  exact ⟨by simpa using h1, fun i c v hc hv => h2 i c v hc (by simpa using hv)⟩

theorem build_run {ρa : Operand → Ent} {ρ : Operand → Value} (hρ : ∀ x, RepE w g base (ρa x) (ρ x)) {P : Program} {t : TypeId} {parts : Array (Nat × Operand)} {place : Nat → Option (Nat × Nat)} {zs cs : List (Dat × Own)}
    (hz : zeroCells P t = some zs) (hf : fillA ρa place zs parts.toList = some cs)
    (hb : ∀ i z, P.info? t = some i → i.zero = some z → ∀ vs, Instr.fill place z.cells (parts.map fun (i, x) => (i, ρ x)).toList = some vs → P.built t (parts.map fun (i, x) => (i, ρ x)).toList = some vs) :
    ∃ v, (Instr.build t (parts.map fun (i, x) => (i, ρ x))).run P w = .ok v w ∧ RepE w g base (.agg cs, .none) v := by
  obtain ⟨i, z, hi, hz, hc⟩ := zeroCells_some hz
  obtain ⟨vs, h1, h2, _⟩ := fill_rep hρ parts.toList hf (zero_rep hc)
  have := hb i z hi hz vs (by simpa using h1)
  exact ⟨_, run_build w t _ vs this, .agg h2.1 h2.2, trivial⟩

/-! ### marks that are nobody's any more -/

def Gh.setOg (g : Gh) (t : Nat) (v : Value) : Gh := { g with og := fun u => if u = t then v else g.og u }

theorem own_clear {t : Nat} {u v : Value} {o : Own} (h : OwnOk w g base o v) : OwnOk w (g.setOg t u) base (cond (o.isId t) .none o) v := by
  cases o with
  | none => trivial
  | full => exact h
  | id k size =>
    by_cases hk : k = t
    · subst hk; simp only [Own.isId, beq_self_eq_true, cond_true]; trivial
    · rw [show (Own.id k size).isId t = false from by simp [Own.isId, hk], cond_false]
      obtain ⟨h1, h2⟩ := h
      exact ⟨by rw [show (g.setOg t u).og k = g.og k from if_neg hk]; exact h1, h2⟩

theorem repE_clear {t : Nat} {u v : Value} {e : Ent} (h : RepE w g base e v) : RepE w (g.setOg t u) base (clearE t e) v := by
  obtain ⟨x, o⟩ := e
  refine ⟨?_, own_clear h.2⟩
  obtain ⟨hx, _⟩ := h
  cases x with
  | agg cs =>
    obtain ⟨vs, rfl, hl, hr⟩ := hx.agg_inv
    refine .agg (by simpa using hl) fun i c v hc hv => ?_
    simp only [List.getElem?_map, Option.map_eq_some_iff] at hc
    obtain ⟨c', hc', rfl⟩ := hc
    exact ⟨(hr i c' v hc' hv).1, own_clear (hr i c' v hc' hv).2⟩
  | tup cs =>
    obtain ⟨vs, rfl, hl, hr⟩ := hx.tup_inv
    refine .tup (by simpa using hl) fun i c v hc hv => ?_
    simp only [List.getElem?_map, Option.map_eq_some_iff] at hc
    obtain ⟨c', hc', rfl⟩ := hc
    exact ⟨(hr i c' v hc' hv).1, own_clear (hr i c' v hc' hv).2⟩
  | dat d => exact .dat hx.dat_inv
  | loc k off => obtain ⟨b, h1, rfl⟩ := hx.loc_inv; exact .loc h1
  | imm cells => cases hx with | b h => exact .b h
  | ref i off => cases hx with | b h => exact .b h
  | clo f x y => cases hx with | b h => exact .b h
  | undef => cases hx with
    | b h => cases h
    | undef => exact .undef
  | junk => exact .junk v

theorem clearL_get {t : Nat} : ∀ (l : List Ent) (i : Nat), (clearL t l)[i]? = (l[i]?).map (clearE t)
  | [], i => by simp [clearL]
  | e :: l, 0 => by simp [clearL]
  | e :: l, i + 1 => by simp [clearL, clearL_get l i]
theorem clearL_length {t : Nat} : ∀ (l : List Ent), (clearL t l).length = l.length
  | [] => rfl
  | e :: l => by simp [clearL, clearL_length l]
theorem clearB_get {t : Nat} : ∀ (l : List (Option (List Ent))) (i : Nat), (clearB t l).getD i none = (l.getD i none).map (clearL t)
  | [], i => by simp [clearB]
  | e :: l, 0 => by cases e <;> simp [clearB]
  | e :: l, i + 1 => by
    have := clearB_get (t := t) l i
    simp only [List.getD_eq_getElem?_getD] at this
    simpa [clearB, List.getD_eq_getElem?_getD] using this
theorem clearB_length {t : Nat} : ∀ (l : List (Option (List Ent))), (clearB t l).length = l.length
  | [] => rfl
  | e :: l => by simp [clearB, clearB_length l]

theorem Inv.clear (h : Inv C w0 M0 sm0 X0 g s a w) (t : Nat) (u : Value) : Inv C w0 M0 sm0 X0 (g.setOg t u) (s.clear t) a w := by
  refine ⟨h.os, h.tape, h.output, h.hsize, h.frame, h.fm, h.smp, h.defers, by rw [h.tsize]; exact (clearL_length _).symm, ?_, ?_, ?_, h.sglen, ?_, h.bufs, h.glob, h.low⟩
  · intro k e v he hv
    simp only [St.clear, clearL_get, Option.map_eq_some_iff] at he
    obtain ⟨e', he', rfl⟩ := he
    exact repE_clear (h.tm k e' v he' hv)
  · intro k
    simp only [St.clear, clearB_get, Option.map_eq_none_iff]
    exact h.lm k
  · intro k b cells hk hc
    simp only [St.clear, clearB_get, Option.map_eq_some_iff] at hc
    obtain ⟨cs, hcs, rfl⟩ := hc
    obtain ⟨h1, h2, h3, cur, T, h4, h5, h6⟩ := h.lo k b cs hk hcs
    refine ⟨h1, h2, h3, cur, T, h4, by rw [h5, clearL_length], fun i e v he hv => ?_⟩
    rw [clearL_get, Option.map_eq_some_iff] at he
    obtain ⟨e', he', rfl⟩ := he
    exact ⟨(h6 i e' v he' hv).1, repE_clear (h6 i e' v he' hv).2⟩
  · intro i b bx hi hbx
    obtain ⟨h1, hB, h2⟩ := h.sg i b bx hi hbx
    refine ⟨h1, hB, ?_⟩
    cases bx with
    | cells l => exact h2
    | bld s => exact h2

/-- a new row, whose mark is the slice's -/
theorem Inv.newRow (h : Inv C w0 M0 sm0 X0 g s a w) {t size n cap : Nat} {es : List (List Dat)} (cur : Array Value) (T : TypeId) (hes : es.length = n) (hnc : n ≤ cap) (hcm : cap ≤ maxLen) (hcs : cur.size = cap * size)
    (hsz : ∀ e ∈ es, e.length = size) (hr : ∀ (i j : Nat) e d v, es[i]? = some e → e[j]? = some d → cur[i * size + j]? = some v → Rep w g.M d v) (dst : Option Nat) :
    ∃ g', Inv C w0 M0 sm0 X0 g' (Dl.apply (.clr t (.dat (.sl es), .id t size)) s dst) (a.put dst (.slice (some ⟨w.heap.size, 0, none⟩) n cap)) (w.alloc (.cells cur T)) := by
  have h1 := (h.clear t (.slice (some ⟨w.heap.size, 0, none⟩) n cap)).alloc (.cells cur T) (.own t) (n * size)
  refine ⟨_, h1.put (e := (.dat (.sl es), .id t size)) ⟨.dat ?_, ?_⟩ dst⟩
  · have hx := ext_alloc w (g.setOg t (.slice (some ⟨w.heap.size, 0, none⟩) n cap)) w0.heap.size (.cells cur T) (.own t) (n * size)
    have hmul : n * size ≤ cap * size := Nat.mul_le_mul_right _ hnc
    refine .sl (fun k => cur.getD k undef) hes hnc hcm (fun _ => rfl) hsz (fun k hk => ?_) fun i j e d he hd => ?_
    · rw [add_eq rfl, Nat.zero_add, cell_alloc, Array.getElem?_eq_getElem (by omega)]
      refine ⟨by simp [Array.getD, show k < cur.size by omega], ?_⟩
      show k < (if w.heap.size = w.heap.size then n * size else _)
      rw [if_pos rfl]; exact hk
    · have hi : i < n := by rw [← hes]; exact (List.getElem?_eq_some_iff.1 he).1
      have hj : j < size := by rw [← hsz e (List.mem_of_getElem? he)]; exact (List.getElem?_eq_some_iff.1 hd).1
      have hlt : i * size + j < cur.size := by
        have : i * size + j < n * size := by
          calc i * size + j < i * size + size := by omega
            _ = (i + 1) * size := by rw [Nat.add_mul, Nat.one_mul]
            _ ≤ n * size := Nat.mul_le_mul_right _ hi
        omega
      have hcur : cur[i * size + j]? = some (cur.getD (i * size + j) undef) := by
        rw [Array.getElem?_eq_getElem hlt]; simp [Array.getD, hlt]
      exact (hr i j e d _ he hd hcur).mono hx.keeps
  · refine ⟨(if_pos rfl).symm, .inr ⟨w.heap.size, n, cap, cur, T, rfl, heap_alloc_new w _, hnc, hcm, hcs, if_pos rfl, if_pos rfl, .inl h.hsize⟩⟩

/-- the same, no mark being kept: the room is full -/
theorem Inv.newRowFull (h : Inv C w0 M0 sm0 X0 g s a w) {size n : Nat} {es : List (List Dat)} (cur : Array Value) (T : TypeId) (hes : es.length = n) (hcm : n ≤ maxLen) (hcs : cur.size = n * size)
    (hsz : ∀ e ∈ es, e.length = size) (hr : ∀ (i j : Nat) e d v, es[i]? = some e → e[j]? = some d → cur[i * size + j]? = some v → Rep w g.M d v) (dst : Option Nat) :
    ∃ g', Inv C w0 M0 sm0 X0 g' (Dl.apply (.val (.dat (.sl es), .full)) s dst) (a.put dst (.slice (some ⟨w.heap.size, 0, none⟩) n n)) (w.alloc (.cells cur T)) := by
  have hnc : n ≤ n := Nat.le_refl n
  have h1 := h.alloc (.cells cur T) .imm (n * size)
  refine ⟨_, h1.put (e := (.dat (.sl es), .full)) ⟨.dat ?_, ?_⟩ dst⟩
  · have hx := ext_alloc w g w0.heap.size (.cells cur T) .imm (n * size)
    refine .sl (fun k => cur.getD k undef) hes hnc hcm (fun _ => rfl) hsz (fun k hk => ?_) fun i j e d he hd => ?_
    · rw [add_eq rfl, Nat.zero_add, cell_alloc, Array.getElem?_eq_getElem (by omega)]
      refine ⟨by simp [Array.getD, show k < cur.size by omega], ?_⟩
      show k < (if w.heap.size = w.heap.size then n * size else _)
      rw [if_pos rfl]; exact hk
    · have hi : i < n := by rw [← hes]; exact (List.getElem?_eq_some_iff.1 he).1
      have hj : j < size := by rw [← hsz e (List.mem_of_getElem? he)]; exact (List.getElem?_eq_some_iff.1 hd).1
      have hlt : i * size + j < cur.size := by
        have : i * size + j < n * size := by
          calc i * size + j < i * size + size := by omega
            _ = (i + 1) * size := by rw [Nat.add_mul, Nat.one_mul]
            _ ≤ n * size := Nat.mul_le_mul_right _ hi
        omega
      have hcur : cur[i * size + j]? = some (cur.getD (i * size + j) undef) := by
        rw [Array.getElem?_eq_getElem hlt]; simp [Array.getD, hlt]
      exact (hr i j e d _ he hd hcur).mono hx.keeps
  · exact ⟨_, _, rfl⟩

end
end Go.Aev

end
section
/- The evaluator's operations are the machine's: slices made, appended to. -/
namespace Go.Aev

theorem chunks_length (n : Nat) : ∀ (m : Nat) (l : List Dat), (chunks n m l).length = m
  | 0, _ => rfl
  | m + 1, l => by simp [chunks, chunks_length n m]
theorem chunks_get (n : Nat) : ∀ (m : Nat) (l : List Dat) (i : Nat), (chunks n m l)[i]? = if i < m then some ((l.drop (i * n)).take n) else none
  | 0, l, i => by simp [chunks]
  | m + 1, l, 0 => by simp [chunks]
  | m + 1, l, i + 1 => by
    simp only [chunks, List.getElem?_cons_succ, chunks_get n m, List.drop_drop]
    by_cases h : i < m
    · rw [if_pos h, if_pos (by omega), show n + i * n = (i + 1) * n by rw [Nat.add_mul, Nat.one_mul, Nat.add_comm]]
    · rw [if_neg h, if_neg (by omega)]

theorem flatten_replicate_get {α : Type} {zs : List α} {n : Nat} (hz : zs.length = n) : ∀ (len k : Nat), k < len * n → ((List.replicate len zs).flatten)[k]? = zs[k % n]?
  | 0, k, h => by omega
  | len + 1, k, h => by
    rw [List.replicate_succ, List.flatten_cons]
    by_cases hk : k < n
    · rw [List.getElem?_append_left (by omega), Nat.mod_eq_of_lt hk]
    · rw [List.getElem?_append_right (by omega), hz, flatten_replicate_get hz len (k - n) (by rw [Nat.add_mul, Nat.one_mul] at h; omega)]
      rw [Nat.mod_eq_sub_mod (a := k) (by omega)]

theorem idx_lt {i j n m : Nat} (hi : i < n) (hj : j < m) : i * m + j < n * m := by
  calc i * m + j < i * m + m := by omega
    _ = (i + 1) * m := by rw [Nat.add_mul, Nat.one_mul]
    _ ≤ n * m := Nat.mul_le_mul_right _ hi

section
variable {C : Cfg} {w0 : World} {M0 : Nat → Nat} {sm0 : List Nat} {X0 : Nat → Bool} {g : Gh} {s : St} {a : Act} {w : World} {base : Nat}

theorem run_buildSlice' {P : Program} (w : World) (t e : TypeId) (len : Nat) (parts : Array (Nat × Value)) (cells : Array Value) (ie : TypeInfo) (z : Value)
    (hu : P.underlying t = some (.slice e)) (hie : P.info? e = some ie) (hz : ie.zero = some z) (hsmall : len * ie.size ≤ 16777216)
    (h : Instr.fill (fun i => some (i * ie.size, ie.size)) ((Array.range (len * ie.size)).map (z.cells[· % z.cells.size]!)) parts.toList = some cells) :
    (Instr.buildSlice t len parts).run P w = .ok (.slice (some ⟨w.heap.size, 0, none⟩) len len) (w.alloc (.cells cells e)) := by
  by_cases h0 : len * ie.size = 0
  · rw [h0] at h
    have h' : Instr.fill (fun i => some (i * ie.size, ie.size)) #[] parts.toList = some cells := by simpa [Array.range_zero'] using h
    simp [Instr.buildSlice, run_underlying hu, sizeOf, typeInfo, hie, h0, newRow, Array.range_zero', h']
  · exact run_buildSlice w t e len parts cells ie z hu hie hz (by omega) h0 h

theorem made_get {z : Array Value} {m k : Nat} (hk : k < m) : ((Array.range m).map (z[· % z.size]!))[k]? = some (z[k % z.size]!) := by
  simp [hk]

theorem getbang {z : Array Value} {k : Nat} (h : k < z.size) : z[k]? = some (z[k]!) := by
  rw [Array.getElem?_eq_getElem h]; simp [h]

theorem buildSlice_run {ρa : Operand → Ent} {ρ : Operand → Value} (hI : Inv C w0 M0 sm0 X0 g s a w) (hρ : ∀ x, RepE w g w0.heap.size (ρa x) (ρ x)) {t e : TypeId} {len n : Nat} {parts : Array (Nat × Operand)} {zs cs : List (Dat × Own)}
    (hu : C.P.underlying t = some (.slice e)) (hn : sizeT C.P e = some n) (hz : zeroCells C.P e = some zs) (hlen : len * n ≤ 16777216) (hzl : zs.length = n) (hpos : 0 < n)
    (hf : fillA ρa (fun i => some (i * n, n)) ((List.replicate len zs).flatten) parts.toList = some cs) (d t' : Nat) :
    ∃ v w' g', (Instr.buildSlice t len (parts.map fun (i, x) => (i, ρ x))).run C.P w = .ok v w' ∧
      Inv C w0 M0 sm0 X0 g' (Dl.apply (.clr t' (.dat (.sl (chunks n len (cs.map (·.1)))), .id t' n)) s (some d)) (a.put (some d) v) w' := by
  obtain ⟨i, z, hi, hz', hc⟩ := zeroCells_some hz
  have hin : i.size = n := by simpa [sizeT, hi] using hn
  have hz0 := zero_rep (w := w) (g := g) (base := w0.heap.size) hc
  have hzs : z.cells.size = n := by rw [← hz0.1, hzl]
  have hflat : ((List.replicate len zs).flatten).length = len * n := by simp [hzl]
  have h0 : CellsOk w g w0.heap.size ((List.replicate len zs).flatten) ((Array.range (len * n)).map (z.cells[· % z.cells.size]!)) := by
    refine ⟨by rw [hflat]; simp, fun k c v hk hv => ?_⟩
    have hlt : k < len * n := by rw [← hflat]; exact (List.getElem?_eq_some_iff.1 hk).1
    have hnp : 0 < n := by
      rcases Nat.eq_zero_or_pos n with h | h
      · rw [h] at hlt; simp at hlt
      · exact h
    rw [flatten_replicate_get hzl len k hlt] at hk
    rw [made_get hlt, hzs] at hv
    have hm : k % n < z.cells.size := by rw [hzs]; exact Nat.mod_lt _ hnp
    cases hv
    exact hz0.2 (k % n) c _ hk (getbang hm)
  obtain ⟨vs, h1, h2, h3⟩ := fill_rep hρ parts.toList hf h0
  have hrun := run_buildSlice' w t e len (parts.map fun (i, x) => (i, ρ x)) vs i z hu hi hz' (by rw [hin]; exact hlen) (by rw [hin]; simpa using h1)
  have hvs : vs.size = len * n := by rw [← h2.1, h3, hflat]
  have hcs : cs.length = len * n := by rw [h3, hflat]
  obtain ⟨g', hI'⟩ := hI.newRow (t := t') (size := n) (n := len) (cap := len) (es := chunks n len (cs.map (·.1))) vs e (chunks_length _ _ _) (Nat.le_refl _) (by
      unfold maxLen
      have := Nat.le_mul_of_pos_right len hpos
      omega) hvs (fun x hx => by
      obtain ⟨k, hk⟩ := List.getElem?_of_mem hx
      rw [chunks_get] at hk
      split at hk
      · rename_i hlt
        cases hk
        have := idx_lt (j := 0) (m := n) hlt
        simp
        have hk2 : (k + 1) * n ≤ len * n := Nat.mul_le_mul_right _ hlt
        rw [Nat.add_mul, Nat.one_mul] at hk2
        omega
      · cases hk) (fun k j x d' v hx hd hv => by
      rw [chunks_get] at hx
      split at hx
      · cases hx
        rw [List.getElem?_take] at hd
        split at hd
        · rw [List.getElem?_drop, List.getElem?_map, Option.map_eq_some_iff] at hd
          obtain ⟨c, hc', rfl⟩ := hd
          exact (h2.2 _ c v hc' hv).1
        · cases hd
      · cases hx) (some d)
  exact ⟨_, _, g', hrun, hI'⟩

theorem buildSlice_full {ρa : Operand → Ent} {ρ : Operand → Value} (hI : Inv C w0 M0 sm0 X0 g s a w) (hρ : ∀ x, RepE w g w0.heap.size (ρa x) (ρ x)) {t e : TypeId} {len n : Nat} {parts : Array (Nat × Operand)} {zs cs : List (Dat × Own)}
    (hu : C.P.underlying t = some (.slice e)) (hn : sizeT C.P e = some n) (hz : zeroCells C.P e = some zs) (hlen : len * n ≤ 16777216) (hzl : zs.length = n) (hpos : 0 < n)
    (hf : fillA ρa (fun i => some (i * n, n)) ((List.replicate len zs).flatten) parts.toList = some cs) (d : Nat) :
    ∃ v w' g', (Instr.buildSlice t len (parts.map fun (i, x) => (i, ρ x))).run C.P w = .ok v w' ∧
      Inv C w0 M0 sm0 X0 g' (Dl.apply (.val (.dat (.sl (chunks n len (cs.map (·.1)))), .full)) s (some d)) (a.put (some d) v) w' := by
  obtain ⟨i, z, hi, hz', hc⟩ := zeroCells_some hz
  have hin : i.size = n := by simpa [sizeT, hi] using hn
  have hz0 := zero_rep (w := w) (g := g) (base := w0.heap.size) hc
  have hzs : z.cells.size = n := by rw [← hz0.1, hzl]
  have hflat : ((List.replicate len zs).flatten).length = len * n := by simp [hzl]
  have h0 : CellsOk w g w0.heap.size ((List.replicate len zs).flatten) ((Array.range (len * n)).map (z.cells[· % z.cells.size]!)) := by
    refine ⟨by rw [hflat]; simp, fun k c v hk hv => ?_⟩
    have hlt : k < len * n := by rw [← hflat]; exact (List.getElem?_eq_some_iff.1 hk).1
    have hnp : 0 < n := by
      rcases Nat.eq_zero_or_pos n with h | h
      · rw [h] at hlt; simp at hlt
      · exact h
    rw [flatten_replicate_get hzl len k hlt] at hk
    rw [made_get hlt, hzs] at hv
    have hm : k % n < z.cells.size := by rw [hzs]; exact Nat.mod_lt _ hnp
    cases hv
    exact hz0.2 (k % n) c _ hk (getbang hm)
  obtain ⟨vs, h1, h2, h3⟩ := fill_rep hρ parts.toList hf h0
  have hrun := run_buildSlice' w t e len (parts.map fun (i, x) => (i, ρ x)) vs i z hu hi hz' (by rw [hin]; exact hlen) (by rw [hin]; simpa using h1)
  have hvs : vs.size = len * n := by rw [← h2.1, h3, hflat]
  have hcs : cs.length = len * n := by rw [h3, hflat]
  obtain ⟨g', hI'⟩ := hI.newRowFull (size := n) (n := len) (es := chunks n len (cs.map (·.1))) vs e (chunks_length _ _ _) (by
      unfold maxLen
      have := Nat.le_mul_of_pos_right len hpos
      omega) hvs (fun x hx => by
      obtain ⟨k, hk⟩ := List.getElem?_of_mem hx
      rw [chunks_get] at hk
      split at hk
      · rename_i hlt
        cases hk
        have := idx_lt (j := 0) (m := n) hlt
        simp
        have hk2 : (k + 1) * n ≤ len * n := Nat.mul_le_mul_right _ hlt
        rw [Nat.add_mul, Nat.one_mul] at hk2
        omega
      · cases hk) (fun k j x d' v hx hd hv => by
      rw [chunks_get] at hx
      split at hx
      · cases hx
        rw [List.getElem?_take] at hd
        split at hd
        · rw [List.getElem?_drop, List.getElem?_map, Option.map_eq_some_iff] at hd
          obtain ⟨c, hc', rfl⟩ := hd
          exact (h2.2 _ c v hc' hv).1
        · cases hd
      · cases hx) (some d)
  exact ⟨_, _, g', hrun, hI'⟩

theorem makeSlice_run (hI : Inv C w0 M0 sm0 X0 g s a w) {t e : TypeId} {i : TypeInfo} {zs : List (Dat × Own)} {l c : Int}
    (hu : C.P.underlying t = some (.slice e)) (hi : C.P.info? e = some i) (hz : zeroCells C.P e = some zs) (h0 : 0 ≤ l) (hlc : l ≤ c) (hroom : c * (i.bytes + 1) ≤ roomMax) (hzl : zs.length = i.size) (d t' : Nat) :
    ∃ v w' g', (Instr.makeSlice t (.int .i64 l) (.int .i64 c)).run C.P w = .ok v w' ∧
      Inv C w0 M0 sm0 X0 g' (Dl.apply (.clr t' (.dat (.sl (List.replicate l.toNat (zs.map (·.1)))), .id t' i.size)) s (some d)) (a.put (some d) v) w' := by
  obtain ⟨i', z, hi', hz', hc⟩ := zeroCells_some hz
  obtain rfl : i = i' := by rw [hi] at hi'; exact Option.some.inj hi'
  have hz0 := zero_rep (w := w) (g := g) (base := w0.heap.size) hc
  have hzs : z.cells.size = i.size := by rw [← hz0.1, hzl]
  unfold roomMax at hroom
  have hcb : c ≤ 70368744177664 ∧ (i.bytes : Int) * c ≤ 70368744177664 := by
    have e1 : c * ((i.bytes : Int) + 1) = c * i.bytes + c := by rw [Int.mul_add, Int.mul_one]
    have h3 : 0 ≤ c * (i.bytes : Int) := Int.mul_nonneg (by omega) (by omega)
    have h4 : (i.bytes : Int) * c = c * i.bytes := Int.mul_comm _ _
    rw [e1] at hroom
    have h5 : c * (i.bytes : Int) + c ≤ 70368744177664 := hroom
    rw [h4]
    generalize c * (i.bytes : Int) = q at *
    omega
  have hrun := run_make (P := C.P) w t e i z hu hi hz' .i64 .i64 l c h0 hlc (by omega) (by omega)
  obtain ⟨g', hI'⟩ := hI.newRow (t := t') (size := i.size) (n := l.toNat) (cap := c.toNat) (es := List.replicate l.toNat (zs.map (·.1))) (madeCells z.cells (c.toNat * i.size)) e (by simp) (by omega)
    (by unfold maxLen; omega) (size_madeCells _ _) (fun x hx => by
      obtain ⟨_, rfl⟩ := List.mem_replicate.1 hx
      simpa using hzl) (fun k j x d' v hx hd hv => by
      have hkl : k < l.toNat := by
        have := (List.getElem?_eq_some_iff.1 hx).1
        simpa using this
      rw [List.getElem?_replicate, if_pos hkl] at hx
      cases hx
      rw [List.getElem?_map, Option.map_eq_some_iff] at hd
      obtain ⟨c', hc', rfl⟩ := hd
      have hj : j < i.size := by rw [← hzl]; exact (List.getElem?_eq_some_iff.1 hc').1
      have hlt : k * i.size + j < c.toNat * i.size := idx_lt (by omega) hj
      unfold madeCells at hv
      rw [made_get hlt, hzs] at hv
      have hmod : (k * i.size + j) % i.size = j := by
        rw [Nat.mul_comm, Nat.mul_add_mod, Nat.mod_eq_of_lt hj]
      rw [hmod] at hv
      cases hv
      exact (hz0.2 j c' _ hc' (getbang (by omega))).1) (some d)
  exact ⟨_, _, g', hrun, hI'⟩

end
end Go.Aev

end
section
/- The evaluator's operations are the machine's: append. -/
namespace Go.Aev

section
variable {C : Cfg} {w0 : World} {M0 : Nat → Nat} {sm0 : List Nat} {X0 : Nat → Bool} {g : Gh} {s : St} {a : Act} {w : World} {base : Nat} {P : Program}

/-- what an append adds: so many elements, their cells -/
structure News (P : Program) (w : World) (M : Nat → Nat) (size : Nat) (x : Value) (fs : List (List Dat)) (m : Nat) (news : List Value) : Prop where
  len : fs.length = m
  lenOf : ∀ w', (Builtin.lenOf x).run P w' = .ok m w'
  cells : ∀ w', w'.heap = w.heap → (Builtin.firstCells size m x).run P w' = .ok news.toArray w'
  nsize : news.length = m * size
  one : ∀ v ∈ news, v.oneCell' = true
  each : ∀ e ∈ fs, e.length = size
  rep : ∀ (i j : Nat) e d, fs[i]? = some e → e[j]? = some d → ∃ v, news[i * size + j]? = some v ∧ Rep w M d v

theorem sized_iff {es : List (List Dat)} {n : Nat} : sized es n = true ↔ ∀ e ∈ es, e.length = n := by
  simp [sized]

theorem cell_same {w w' : World} (h : w'.heap = w.heap) (ad : Addr) : w'.cell? ad = w.cell? ad := by simp [World.cell?, h]

theorem bytesEs_length (b : ByteArray) : (bytesEs b).length = b.size := by
  unfold bytesEs
  rw [List.length_map, Array.length_toList]
  rfl

theorem news_of {M : Nat → Nat} {el : TypeId} {ty : TypeDesc} {dy : Dat} {x : Value} {fs : List (List Dat)} {size : Nat} (h : newsA P el ty dy = some fs) (hr : Rep w M dy x) (hs : sized fs size = true) :
    ∃ m news, News P w M size x fs m news ∧ (∀ k, ty ≠ .int k) := by
  rw [sized_iff] at hs
  unfold newsA at h
  split at h
  · obtain ⟨_, h2⟩ := cond_none rfl h
    cases h2
    cases hr with
    | nilS =>
      exact ⟨0, [], ⟨rfl, fun w' => rfl, fun w' _ => by simp [Builtin.firstCells], by simp, by simp, by simp, fun i j e d he => by simp at he⟩, by simp⟩
    | sl vs hn hc hm hsp he hcell hr =>
      rename_i ad n cap size'
      by_cases h0 : n = 0
      · subst h0
        have hnil : fs = [] := List.eq_nil_of_length_eq_zero hn
        subst hnil
        refine ⟨0, [], ⟨rfl, fun w' => rfl, fun w' _ => ?_, by simp, by simp, by simp, fun i j e d he => by simp at he⟩, by simp⟩
        have := run_loadCells_list (P := P) w' ad [] (fun j v hj => by simp at hj)
        simpa [Builtin.firstCells] using this
      · have hsz : size' = size := by
          have hne : 0 < fs.length := by omega
          have := List.getElem_mem hne
          rw [← he _ this, hs _ this]
        subst hsz
        refine ⟨n, (List.range (n * size')).map vs, ⟨hn, fun w' => rfl, fun w' hw => ?_, by simp, fun v hv => ?_, hs, fun i j e d hi hj => ?_⟩, by simp⟩
        · have := run_loadCells (P := P) w' ad (n * size') vs (fun j hj => by rw [cell_same hw]; exact (hcell j hj).1)
          simpa [Builtin.firstCells] using this
        · simp only [List.mem_map, List.mem_range] at hv
          obtain ⟨k, hk, rfl⟩ := hv
          have hsp : 0 < size' := by
            rcases Nat.eq_zero_or_pos size' with h | h
            · rw [h] at hk; simp at hk
            · exact h
          have hkn : k / size' < fs.length := by rw [hn]; exact Nat.div_lt_of_lt_mul (by rw [Nat.mul_comm]; exact hk)
          have hkm : k % size' < fs[k / size'].length := by rw [he _ (List.getElem_mem hkn)]; exact Nat.mod_lt _ hsp
          have := hr (k / size') (k % size') _ _ (List.getElem?_eq_getElem hkn) (List.getElem?_eq_getElem hkm)
          rw [Nat.mul_comm, Nat.div_add_mod] at this
          exact this.one
        · have hi' : i < n := by rw [← hn]; exact (List.getElem?_eq_some_iff.1 hi).1
          have hj' : j < size' := by rw [← he e (List.mem_of_getElem? hi)]; exact (List.getElem?_eq_some_iff.1 hj).1
          refine ⟨vs (i * size' + j), ?_, hr i j e d hi hj⟩
          simp [idx_lt hi' hj']
  · rename_i b
    split at h
    · cases h
      cases hr
      have hone : size = 1 ∨ b.size = 0 := by
        by_cases hb : b.size = 0
        · exact .inr hb
        · left
          have hl : 0 < (bytesEs b).length := by
            rw [bytesEs_length]
            omega
          have := hs _ (List.getElem_mem hl)
          simp [bytesEs] at this
          exact this.symm
      have hbl : (bytesEs b).length = b.size := bytesEs_length b
      have hcells : ∀ w', (Builtin.firstCells size b.size (.string b)).run P w' = .ok (b.data.toList.map fun x => Value.int .u8 x.toNat).toArray w' := by
        intro w'
        simp only [Builtin.firstCells, Sem.run_pure]
        congr 1
        apply Array.ext'
        rw [ByteArray.extract_zero_size]
        simp
      refine ⟨b.size, b.data.toList.map fun x => Value.int .u8 x.toNat, ⟨hbl, fun w' => rfl, fun w' _ => hcells w', ?_, ?_, hs, fun i j e d hi hj => ?_⟩, by simp⟩
      · simp only [List.length_map]
        have : b.data.toList.length = b.size := by rw [Array.length_toList]; rfl
        rcases hone with h | h
        · rw [h, this]; simp
        · rw [this, h]; simp
      · intro v hv
        simp only [List.mem_map] at hv
        obtain ⟨x, _, rfl⟩ := hv
        rfl
      · simp only [bytesEs, List.getElem?_map, Option.map_eq_some_iff] at hi
        obtain ⟨x, hx, rfl⟩ := hi
        cases j with
        | succ j => simp at hj
        | zero =>
          simp at hj
          subst hj
          have hlt : i < b.size := by
            have := (List.getElem?_eq_some_iff.1 hx).1
            rw [Array.length_toList] at this
            exact this
          have h1 : size = 1 := by rcases hone with h | h <;> omega
          subst h1
          exact ⟨.int .u8 x.toNat, by simp only [Nat.mul_one, Nat.add_zero, List.getElem?_map, hx, Option.map_some], .int _ _⟩
    · cases h
  · cases h

theorem run_append_grows {t u ty e : TypeId} {du : TypeDesc} {i : TypeInfo} {z x : Value} {m n cap : Nat} {bs : Option Addr} {olds news : List Value} (ht : P.underlying t = some (.slice e)) (hu : P.underlying u = some du)
    (hk : ∀ k, du ≠ .int k) (hi : P.info? e = some i) (hz : i.zero = some z) (hlen : ∀ w', (Builtin.lenOf x).run P w' = .ok m w') (hnews : (Builtin.firstCells i.size m x).run P w.drew = .ok news.toArray w.drew)
    (holds : (Builtin.firstCells i.size n (.slice bs n cap)).run P w.drew = .ok olds.toArray w.drew) (hg : cap < n + m) (h63 : ((n + m : Nat) : Int) ≤ 9223372036854775807)
    (hfit : Builtin.nextslicecap (n + m) cap * i.bytes ≤ 281474976710656) :
    (Builtin.append_ #[t, u] ty #[.slice bs n cap, x]).run P w =
      .ok (.slice (some ⟨w.heap.size, 0, none⟩) (n + m) (grownCap w (n + m) cap e))
        (w.drew.alloc (.cells (olds ++ news ++ (Builtin.zeroCells z.cells (grownCap w (n + m) cap e - (n + m))).toList).toArray e)) := by
  have hn : ¬ (n + m ≤ cap) := by omega
  have h63' : ¬ (9223372036854775807 < ((n : Int) + (m : Int))) := by omega
  have h48' : ¬ (281474976710656 < Builtin.nextslicecap (n + m) cap * i.bytes) := by omega
  simp [Builtin.append_, run_underlying ht, run_underlying hu, sizeOf, typeInfo, zeroValue, hi, hz, hlen, hn, h63', h48', Question.forced, hnews, holds, newRow, grownCap]
  congr 2
  apply Array.ext'
  simp

theorem run_append_lies {t u ty e : TypeId} {du : TypeDesc} {i : TypeInfo} {x : Value} {m n cap : Nat} {bs : Option Addr} {news : List Value} {w' : World} (ht : P.underlying t = some (.slice e)) (hu : P.underlying u = some du)
    (hk : ∀ k, du ≠ .int k) (hi : P.info? e = some i) (hlen : ∀ w', (Builtin.lenOf x).run P w' = .ok m w') (hnews : (Builtin.firstCells i.size m x).run P w = .ok news.toArray w) (hg : n + m ≤ cap)
    (hst : ∀ ad, bs = some ad → (storeCells (ad.add (n * i.size)) news 0).run P w = .ok () w') (hw : bs = none → w' = w) :
    (Builtin.append_ #[t, u] ty #[.slice bs n cap, x]).run P w = .ok (.slice bs (n + m) cap) w' := by
  cases bs with
  | none =>
    obtain rfl := hw rfl
    simp [Builtin.append_, run_underlying ht, run_underlying hu, sizeOf, typeInfo, hi, hlen, hg, hnews]
  | some ad =>
    simp [Builtin.append_, run_underlying ht, run_underlying hu, sizeOf, typeInfo, hi, hlen, hg, hnews, hst ad rfl]
end
end Go.Aev

end
