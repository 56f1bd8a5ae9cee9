/- The virtual machine: values, a heap of new blocks, and a plain interpreter of code without any open order. -/
import Derived.Orders
import Derived.KernelRfl
namespace Go.V

/-- What is known of an integer that is not known: what an operation with a constant behind it gives. -/
inductive SRes where
  | int (n : Int)
  | bool (b : Bool)
  deriving Inhabited

structure SFact where
  op : BinOp
  k2 : IntKind
  c : Int
  r : SRes
  deriving Inhabited

/-- A value as the virtual machine has it. 'sym' is an integer of which no more is known than the facts. 'ptr', 'slice', 'map' lead to blocks that were made since the run began; 'rptr', 'rslice' to memory that nobody writes. -/
inductive VVal where
  | bool (b : Bool)
  | int (k : IntKind) (n : Int)
  | sym (k : IntKind) (facts : List SFact)
  | str (s : List Nat)
  | nilptr
  | ptr (b v off : Nat)
  | rptr (cells : List VVal)
  | nilslice
  | slice (b v off len sz : Nat) (cap : Option Nat)
  | rslice (sz : Nat) (elems : List (List VVal))
  | nilmap
  | map (b : Nat)
  | func (f : FuncId) (first captured : List VVal)
  | nilfunc
  | iface (t : TypeId) (v : VVal)
  | niliface
  | agg (cells : List VVal)
  | tuple (vs : List VVal)
  | poison
  deriving Inhabited

def VVal.undef : VVal := .tuple []

def VVal.cells : VVal → List VVal
  | .agg cs => cs
  | v => [v]

def IntKind.code : IntKind → Nat
  | .i8 => 0 | .i16 => 1 | .i32 => 2 | .i64 => 3 | .u8 => 4 | .u16 => 5 | .u32 => 6 | .u64 => 7

def intBeq : Int → Int → Bool
  | .ofNat a, .ofNat b => Nat.beq a b
  | .negSucc a, .negSucc b => Nat.beq a b
  | _, _ => false

def natsBeq : List Nat → List Nat → Bool
  | [], [] => true
  | a :: x, b :: y => Nat.beq a b && natsBeq x y
  | _, _ => false

def BinOp.code : BinOp → Nat
  | .add => 0 | .sub => 1 | .mul => 2 | .quo => 3 | .rem => 4 | .and => 5 | .or => 6 | .xor => 7 | .shl => 8 | .shr => 9 | .andNot => 10
  | .eql => 11 | .neq => 12 | .lss => 13 | .leq => 14 | .gtr => 15 | .geq => 16

def SRes.beq : SRes → SRes → Bool
  | .int a, .int b => intBeq a b
  | .bool a, .bool b => (a && b) || (!a && !b)
  | _, _ => false

def factsBeq : List SFact → List SFact → Bool
  | [], [] => true
  | a :: x, b :: y => Nat.beq (BinOp.code a.op) (BinOp.code b.op) && (Nat.beq (IntKind.code a.k2) (IntKind.code b.k2) && (intBeq a.c b.c && (SRes.beq a.r b.r && factsBeq x y)))
  | _, _ => false

mutual
def VVal.beq : VVal → VVal → Bool
  | .sym k a, .sym l b => Nat.beq (IntKind.code k) (IntKind.code l) && factsBeq a b
  | .bool a, .bool b => (a && b) || (!a && !b)
  | .int k a, .int l b => Nat.beq (IntKind.code k) (IntKind.code l) && intBeq a b
  | .str a, .str b => natsBeq a b
  | .nilptr, .nilptr => true
  | .ptr a b c, .ptr d e f => Nat.beq a d && (Nat.beq b e && Nat.beq c f)
  | .rptr a, .rptr b => VVal.beqs a b
  | .nilslice, .nilslice => true
  | .slice a b c d e (some f), .slice g h i j k (some l) => Nat.beq a g && (Nat.beq b h && (Nat.beq c i && (Nat.beq d j && (Nat.beq e k && Nat.beq f l))))
  | .slice a b c d e none, .slice g h i j k none => Nat.beq a g && (Nat.beq b h && (Nat.beq c i && (Nat.beq d j && Nat.beq e k)))
  | .rslice a x, .rslice b y => Nat.beq a b && VVal.beqss x y
  | .nilmap, .nilmap => true
  | .map a, .map b => Nat.beq a b
  | .func f a b, .func g c d => Nat.beq f g && (VVal.beqs a c && VVal.beqs b d)
  | .nilfunc, .nilfunc => true
  | .iface t v, .iface u w => Nat.beq t u && VVal.beq v w
  | .niliface, .niliface => true
  | .agg a, .agg b => VVal.beqs a b
  | .tuple a, .tuple b => VVal.beqs a b
  | _, _ => false
def VVal.beqs : List VVal → List VVal → Bool
  | [], [] => true
  | a :: x, b :: y => VVal.beq a b && VVal.beqs x y
  | _, _ => false
def VVal.beqss : List (List VVal) → List (List VVal) → Bool
  | [], [] => true
  | a :: x, b :: y => VVal.beqs a b && VVal.beqss x y
  | _, _ => false
end

/-- A block: a row of cells (its element type; its version: an append makes a new one, the elder ones are neither read nor written any more), or a map. -/
inductive VObj where
  | cells (cs : List VVal) (elem : TypeId) (ver : Nat)
  | map (es : List (VVal × VVal))
  deriving Inhabited

/-- A tree of blocks by their numbers' bits. -/
inductive VTree where
  | leaf
  | node (o : Option VObj) (l r : VTree)
  deriving Inhabited

def VTree.get : VTree → Nat → Option VObj
  | .leaf, _ => none
  | .node o l r, k => if Nat.beq k 0 then o else if Nat.beq (k % 2) 1 then l.get (k / 2) else r.get (k / 2 - 1)

def VTree.put : (fuel : Nat) → VTree → Nat → VObj → VTree
  | 0, .leaf, _, x => .node (some x) .leaf .leaf
  | 0, .node _ l r, _, x => .node (some x) l r
  | n + 1, .leaf, k, x => if Nat.beq k 0 then .node (some x) .leaf .leaf else if Nat.beq (k % 2) 1 then .node none (VTree.put n .leaf (k / 2) x) .leaf else .node none .leaf (VTree.put n .leaf (k / 2 - 1) x)
  | n + 1, .node o l r, k, x => if Nat.beq k 0 then .node (some x) l r else if Nat.beq (k % 2) 1 then .node o (VTree.put n l (k / 2) x) r else .node o l (VTree.put n r (k / 2 - 1) x)

structure VHeap where
  size : Nat
  tree : VTree
  deriving Inhabited

def VHeap.empty : VHeap := ⟨0, .leaf⟩
def VHeap.get (h : VHeap) (b : Nat) : Option VObj := if Nat.blt b h.size then h.tree.get b else none
def VHeap.set (h : VHeap) (b : Nat) (o : VObj) : VHeap := if Nat.blt b h.size then ⟨h.size, h.tree.put b b o⟩ else h
def VHeap.new (h : VHeap) (o : VObj) : VHeap := ⟨h.size + 1, h.tree.put h.size h.size o⟩

/-- n cells of a list from a place on. -/
def cut : List VVal → Nat → Nat → Option (List VVal)
  | _, _, 0 => some []
  | [], _, _ + 1 => none
  | x :: xs, 0, n + 1 => match cut xs 0 n with | some r => some (x :: r) | none => none
  | _ :: xs, o + 1, n + 1 => cut xs o (n + 1)

/-- A list with others written over it from a place on. -/
def lay : List VVal → Nat → List VVal → Option (List VVal)
  | xs, _, [] => some xs
  | [], _, _ :: _ => none
  | _ :: xs, 0, y :: ys => match lay xs 0 ys with | some r => some (y :: r) | none => none
  | x :: xs, o + 1, y :: ys => match lay xs o (y :: ys) with | some r => some (x :: r) | none => none

/-- n cells from an address on. -/
def VHeap.load (h : VHeap) (p : VVal) (n : Nat) : Option (List VVal) :=
  match p with
  | .rptr cs => cut cs 0 n
  | .ptr b v off =>
    match h.get b with
    | some (.cells cs _ ver) => if Nat.beq v ver then cut cs off n else none
    | _ => none
  | _ => none

def VHeap.store (h : VHeap) (p : VVal) (xs : List VVal) : Option VHeap :=
  match p with
  | .ptr b v off =>
    match h.get b with
    | some (.cells cs e ver) =>
      if Nat.beq v ver then
        match lay cs off xs with
        | some cs' => some (h.set b (.cells cs' e ver))
        | none => none
      else none
    | _ => none
  | _ => none

/-- A variable's value, out of its cells. -/
def asValue (agg : Bool) (cs : List VVal) : Option VVal :=
  match agg, cs with
  | true, cs => some (.agg cs)
  | false, [v] => some v
  | false, _ => none

inductive VOpd where
  | tmp (t : Nat)
  | const (v : VVal)
  deriving Inhabited

inductive VTag where
  | bool | int | str | ptr | slice | map | func | iface
  deriving DecidableEq, Inhabited

/-- How two values of a type are compared. -/
inductive VEq where
  | flat (t : VTag)
  | struct (fs : List (Nat × Nat × Bool × VEq))     -- offset, size, an aggregate?
  deriving Inhabited

inductive VOp where
  | move (x : VOpd)
  | assign (x : VOpd)
  | pick (c a b : VOpd)
  | box (elem : TypeId) (x : VOpd)
  | build (zero : List VVal) (parts : List (Nat × Nat × VOpd))
  | buildSlice (elem : TypeId) (sz len : Nat) (zeros : List VVal) (parts : List (Nat × Nat × VOpd))
  | load (agg : Bool) (sz : Nat) (a : VOpd)
  | store (sz : Nat) (a x : VOpd)
  | nilCheck (x : VOpd)
  | bin (op : BinOp) (q : VEq) (x y : VOpd)
  | un (op : UnOp) (x : VOpd)
  | convInt (k : IntKind) (x : VOpd)
  | convSame (x : VOpd)
  | toBytes (elem : TypeId) (x : VOpd)
  | ofBytes (x : VOpd)
  | mkIface (t : TypeId) (x : VOpd)
  | mkFunc (f : FuncId) (first captured : List VOpd)
  | mkMap
  | mkSlice (elem : TypeId) (sz bytes : Nat) (zero : List VVal) (len cap : VOpd)
  | sliceStr (x : VOpd) (lo hi : Option VOpd)
  | slice (sz : Nat) (x : VOpd) (lo hi mx : Option VOpd)
  | sliceArr (n sz : Nat) (x : VOpd) (lo hi mx : Option VOpd)
  | fieldAddr (off : Nat) (x : VOpd)
  | field (agg : Bool) (sz off : Nat) (x : VOpd)
  | indexAddr (arr : Option Nat) (sz : Nat) (x i : VOpd)
  | indexStr (x i : VOpd)
  | indexArr (len : Nat) (agg : Bool) (sz : Nat) (x i : VOpd)
  | lookup (g : VTag) (zero : VVal) (m k : VOpd) (ok : Bool)
  | mapUpdate (g : VTag) (m k x : VOpd)
  | typeAssert (asserted : TypeId) (zero : VVal) (x : VOpd) (ok : Bool)
  | extract (x : VOpd) (i : Nat)
  | len (g : VTag) (x : VOpd)
  | lenArr (n : Nat)
  | append (elem : TypeId) (sz bytes : Nat) (zeros : Option (List VVal)) (x y : VOpd)
  | copy (sz : Nat) (x y : VOpd)
  | minmax (max : Bool) (xs : List VOpd)
  | delete (g : VTag) (m k : VOpd)
  | call (f : VOpd) (args : List VOpd)
  | callF (f : FuncId) (args : List VOpd)
  | panic (x : VOpd)
  | fail
  deriving Inhabited

inductive VKind where
  | read | fresh | write | call | panic
  deriving DecidableEq, Inhabited

def VOp.kind : VOp → VKind
  | .box .. | .buildSlice .. | .toBytes .. | .mkMap | .mkSlice .. => .fresh
  | .store .. | .mapUpdate .. | .append .. | .copy .. | .delete .. => .write
  | .call .. | .callF .. => .call
  | .panic _ => .panic
  | _ => .read

structure VOper where
  dst : Option Nat
  op : VOp
  guard : Option (Nat × Bool)       -- the temporary that says yes or no
  chk : List Nat                    -- what is not ordered with this one, stands ahead, and must not clash
  reads : List Nat                  -- the temporaries that it looks at (in a drawn region)
  deriving Inhabited

inductive VCode where
  | skip
  | region (draw : Bool) (ops : List VOper)
  | seq (a b : VCode)
  | cond (c : VOpd) (thn els : VCode)
  | block (id : Nat) (body : VCode)
  | loop (body : VCode)
  | exit (id : Nat)
  | ret
  | fail
  deriving Inhabited

inductive VResult where
  | tmp (t : Nat)
  | cell (a : Nat) (agg : Bool) (sz : Nat)
  deriving Inhabited

structure VFunc where
  ntmps : Nat
  results : List VResult
  body : VCode
  deriving Inhabited

/- ---------------------------------------------------------------- what operations do -/

def tmpAt : List VVal → Nat → VVal
  | [], _ => .undef
  | x :: _, 0 => x
  | _ :: xs, n + 1 => tmpAt xs n

def tmpPut : List VVal → Nat → VVal → List VVal
  | [], _, _ => []
  | _ :: xs, 0, v => v :: xs
  | x :: xs, n + 1, v => x :: tmpPut xs n v

def VOpd.ev (ts : List VVal) : VOpd → VVal
  | .tmp t => tmpAt ts t
  | .const v => v

def putDst (ts : List VVal) (d : Option Nat) (v : VVal) : List VVal :=
  match d with
  | some t => tmpPut ts t v
  | none => ts

def wantedV (g : Option (Nat × Bool)) (ts : List VVal) : Bool :=
  match g with
  | none => true
  | some (t, want) => match tmpAt ts t with
    | .bool b => if b then want else !want
    | _ => false

/-- Is a test of the guard sure to be known? (a poisoned one is not) -/
def guardKnown (g : Option (Nat × Bool)) (ts : List VVal) : Bool :=
  match g with
  | none => true
  | some (t, _) => match tmpAt ts t with
    | .bool _ => true
    | .tuple [] => true
    | _ => false

def intOp (op : BinOp) (k : IntKind) (x y : Int) : Option VVal :=
  match op with
  | .add => some (.int k (k.wrap (x + y)))
  | .sub => some (.int k (k.wrap (x - y)))
  | .mul => some (.int k (k.wrap (x * y)))
  | .quo => if y = 0 then none else some (.int k (k.wrap (x.tdiv y)))
  | .rem => if y = 0 then none else some (.int k (x.tmod y))
  | .and => some (.int k (k.wrap (BitVec.ofInt k.bits x &&& BitVec.ofInt k.bits y).toNat))
  | .or => some (.int k (k.wrap (BitVec.ofInt k.bits x ||| BitVec.ofInt k.bits y).toNat))
  | .xor => some (.int k (k.wrap (BitVec.ofInt k.bits x ^^^ BitVec.ofInt k.bits y).toNat))
  | .andNot => some (.int k (k.wrap (BitVec.ofInt k.bits x &&& ~~~ BitVec.ofInt k.bits y).toNat))
  | .eql => some (.bool (x == y))
  | .neq => some (.bool (x != y))
  | .lss => some (.bool (x < y))
  | .leq => some (.bool (x ≤ y))
  | .gtr => some (.bool (x > y))
  | .geq => some (.bool (x ≥ y))
  | _ => none

def shiftOp (op : BinOp) (k : IntKind) (x y : Int) : Option VVal :=
  if y < 0 then none else
  match op with
  | .shl => some (.int k (k.wrap (x * 2 ^ min y.toNat k.bits)))
  | .shr => some (.int k (x.fdiv (2 ^ min y.toNat k.bits)))
  | _ => none

def natsLess : List Nat → List Nat → Bool
  | _, [] => false
  | [], _ :: _ => true
  | a :: x, b :: y => Nat.blt a b || (Nat.beq a b && natsLess x y)

def strOp (op : BinOp) (x y : List Nat) : Option VVal :=
  match op with
  | .add => if Nat.ble (x.length + y.length) 9223372036854775807 then some (.str (x ++ y)) else none
  | .eql => some (.bool (natsBeq x y))
  | .neq => some (.bool !(natsBeq x y))
  | .lss => some (.bool (natsLess x y))
  | .leq => some (.bool (natsLess x y || natsBeq x y))
  | .gtr => some (.bool !(natsLess x y || natsBeq x y))
  | .geq => some (.bool !(natsLess x y))
  | _ => none

def eqFlat : VTag → VVal → VVal → Option Bool
  | .bool, .bool a, .bool b => some (a == b)
  | .int, .int k a, .int l b => if Nat.beq (IntKind.code k) (IntKind.code l) then some (a == b) else none
  | .str, .str a, .str b => some (natsBeq a b)
  | .ptr, .nilptr, .nilptr => some true
  | .ptr, .nilptr, .ptr .. | .ptr, .ptr .., .nilptr | .ptr, .nilptr, .rptr _ | .ptr, .rptr _, .nilptr => some false
  | .slice, .nilslice, .nilslice => some true
  | .slice, .nilslice, .slice .. | .slice, .slice .., .nilslice => some false
  | .slice, .nilslice, .rslice _ (_ :: _) | .slice, .rslice _ (_ :: _), .nilslice => some false
  | .map, .nilmap, .nilmap => some true
  | .map, .nilmap, .map _ | .map, .map _, .nilmap => some false
  | .func, .nilfunc, .nilfunc => some true
  | .func, .nilfunc, .func .. | .func, .func .., .nilfunc => some false
  | .iface, .niliface, .niliface => some true
  | .iface, .niliface, .iface .. | .iface, .iface .., .niliface => some false
  | _, _, _ => none

def partOf (agg : Bool) (sz : Nat) (cs : List VVal) (off : Nat) : Option VVal :=
  if agg then (match cut cs off sz with | some r => some (.agg r) | none => none)
  else match cut cs off 1 with | some [v] => some v | _ => none

mutual
def VEq.test : VEq → VVal → VVal → Option Bool
  | .flat t, x, y => eqFlat t x y
  | .struct fs, .agg xs, .agg ys => VEq.tests fs xs ys
  | .struct _, _, _ => none
def VEq.tests : List (Nat × Nat × Bool × VEq) → List VVal → List VVal → Option Bool
  | [], _, _ => some true
  | (off, sz, agg, q) :: r, xs, ys =>
    match partOf agg sz xs off, partOf agg sz ys off with
    | some a, some b => (match VEq.test q a b with
      | some true => VEq.tests r xs ys
      | some false => some false
      | none => none)
    | _, _ => none
end

def SRes.val (k : IntKind) : SRes → VVal
  | .int n => .int k n
  | .bool b => .bool b

def symOp (k : IntKind) (op : BinOp) (l : IntKind) (b : Int) : List SFact → Option VVal
  | [] => none
  | f :: r => if Nat.beq (BinOp.code op) (BinOp.code f.op) && (Nat.beq (IntKind.code l) (IntKind.code f.k2) && intBeq b f.c) then some (f.r.val k) else symOp k op l b r

def binV (op : BinOp) (q : VEq) (x y : VVal) : Option VVal :=
  match op, x, y with
  | op, .sym k facts, .int l b => symOp k op l b facts
  | .shl, .int k a, .int _ b | .shr, .int k a, .int _ b => shiftOp op k a b
  | _, .int k a, .int l b => if Nat.beq (IntKind.code k) (IntKind.code l) then intOp op k a b else none
  | _, .str a, .str b => strOp op a b
  | .eql, x, y => match q.test x y with | some b => some (.bool b) | none => none
  | .neq, x, y => match q.test x y with | some b => some (.bool !b) | none => none
  | _, _, _ => none

def unV (op : UnOp) (x : VVal) : Option VVal :=
  match op, x with
  | .neg, .int k n => intOp .sub k 0 n
  | .xor, .int k n => intOp .xor k (if k.signed then -1 else k.max) n
  | .not, .bool b => some (.bool !b)
  | _, _ => none

def VVal.whole : VVal → Bool
  | .poison => false
  | _ => true

/-- A part of a list of cells, filled in. -/
def fillV (cells : List VVal) : List (Nat × Nat × VVal) → Option (List VVal)
  | [] => some cells
  | (off, sz, v) :: r => if Nat.beq v.cells.length sz && (Nat.blt 0 sz && v.whole) then (match lay cells off v.cells with | some cs => fillV cs r | none => none) else none

def evParts (ts : List VVal) : List (Nat × Nat × VOpd) → List (Nat × Nat × VVal)
  | [] => []
  | (o, s, x) :: r => (o, s, x.ev ts) :: evParts ts r

def evs (ts : List VVal) : List VOpd → List VVal
  | [] => []
  | x :: r => x.ev ts :: evs ts r

def asIdx : VVal → Option Int
  | .int _ n => some n
  | _ => none

def inRange (i : Int) (n : Nat) : Option Nat :=
  match i with
  | .ofNat k => if Nat.blt k n then some k else none
  | .negSucc _ => none

def natOf (i : Int) (most : Nat) : Option Nat :=
  match i with
  | .ofNat k => if Nat.ble k most then some k else none
  | .negSucc _ => none

def bound (ts : List VVal) (o : Option VOpd) (dflt most : Nat) : Option Nat :=
  match o with
  | none => some dflt
  | some x => match asIdx (x.ev ts) with | some i => natOf i most | none => none

def rowAtV : List (List VVal) → Nat → Option (List VVal)
  | [], _ => none
  | r :: _, 0 => some r
  | _ :: rs, n + 1 => rowAtV rs n

/-- A map's entry. -/
def keyBeq : VVal → VVal → Option Bool
  | .int k a, .int l b => if Nat.beq (IntKind.code k) (IntKind.code l) then some (intBeq a b) else none
  | .str a, .str b => some (natsBeq a b)
  | .bool a, .bool b => some ((a && b) || (!a && !b))
  | _, _ => none

def findV (k : VVal) : List (VVal × VVal) → Option (Option VVal)
  | [] => some none
  | (k', v) :: r => match keyBeq k k' with
    | some true => some (some v)
    | some false => findV k r
    | none => none

def putV (k x : VVal) : List (VVal × VVal) → Option (List (VVal × VVal))
  | [] => some [(k, x)]
  | (k', v) :: r => match keyBeq k k' with
    | some true => some ((k, x) :: r)
    | some false => (match putV k x r with | some r' => some ((k', v) :: r') | none => none)
    | none => none

def delV (k : VVal) : List (VVal × VVal) → Option (List (VVal × VVal))
  | [] => some []
  | (k', v) :: r => match keyBeq k k' with
    | some true => some r
    | some false => (match delV k r with | some r' => some ((k', v) :: r') | none => none)
    | none => none

def keyOk : VTag → VVal → Bool
  | .int, .int .. | .str, .str _ | .bool, .bool _ => true
  | _, _ => false

def bytesOfV : List VVal → Option (List Nat)
  | [] => some []
  | .int .u8 n :: r => match bytesOfV r with | some l => some (n.toNat % 256 :: l) | none => none
  | _ :: _ => none

/-- A slice's cells, its first n elements (sz cells each). -/
def VHeap.rowCells (h : VHeap) (x : VVal) : Option (List VVal) :=
  match x with
  | .nilslice => some []
  | .slice b v off len sz _ =>
    (match h.get b with
     | some (.cells cs _ ver) => if Nat.beq v ver then cut cs off (len * sz) else none
     | _ => none)
  | .rslice _ rows => some rows.flatten
  | .str s => some (s.map fun (n : Nat) => .int .u8 n)
  | _ => none

def lenV : VVal → Option Nat
  | .nilslice => some 0
  | .slice _ _ _ n _ _ => some n
  | .rslice _ l => some l.length
  | .str s => some s.length
  | .nilmap => some 0
  | _ => none

def shapeOk : VTag → VVal → Bool
  | .str, .str _ | .slice, .nilslice | .slice, .slice .. | .slice, .rslice .. | .map, .nilmap | .map, .map _ => true
  | _, _ => false

def VHeap.lenAt (h : VHeap) (x : VVal) : Option Nat :=
  match x with
  | .map b => (match h.get b with | some (.map es) => some es.length | _ => none)
  | x => lenV x

def minmaxV (mx : Bool) : VVal → List VVal → Option VVal
  | x, [] => some x
  | .int k a, .int l b :: r => if Nat.beq (IntKind.code k) (IntKind.code l) then minmaxV mx (.int k (if mx then (if b > a then b else a) else (if b < a then b else a))) r else none
  | _, _ => none

/-- A slice's cells (not a string's). -/
def VHeap.rowSlice (h : VHeap) (x : VVal) : Option (List VVal) :=
  match x with
  | .str _ => none
  | x => h.rowCells x

/-- A slice's cells, one an element. -/
def VHeap.rowBytes (h : VHeap) (x : VVal) : Option (List VVal) :=
  match x with
  | .str _ => none
  | x => match h.rowCells x, lenV x with
    | some cs, some n => if Nat.beq cs.length n then some cs else none
    | _, _ => none

/-- Operations that make and write nothing. -/
def VOp.read (ts : List VVal) (h : VHeap) : VOp → Option VVal
  | .move x | .assign x => some (x.ev ts)
  | .pick c a b => match c.ev ts with
    | .bool t => some (if t then a.ev ts else b.ev ts)
    | _ => none
  | .build zero parts => match fillV zero (evParts ts parts) with | some cs => some (.agg cs) | none => none
  | .load agg sz a => match h.load (a.ev ts) sz with
    | some cs => asValue agg cs
    | none => none
  | .nilCheck x => match x.ev ts with
    | .ptr b v o => some (.ptr b v o)
    | .rptr cs => some (.rptr cs)
    | .func f a b => some (.func f a b)
    | _ => none
  | .bin op q x y => binV op q (x.ev ts) (y.ev ts)
  | .un op x => unV op (x.ev ts)
  | .convInt k x => match x.ev ts with
    | .int _ n => some (.int k (k.wrap n))
    | _ => none
  | .convSame x => match x.ev ts with
    | .str s => some (.str s)
    | _ => none
  | .ofBytes x => match h.rowBytes (x.ev ts) with
    | some cs => (match bytesOfV cs with | some l => some (.str l) | none => none)
    | none => none
  | .mkIface t x => some (.iface t (x.ev ts))
  | .mkFunc f first captured => some (.func f (evs ts first) (evs ts captured))
  | .sliceStr x lo hi => match x.ev ts with
    | .str s => (match bound ts hi s.length s.length with
      | some e => (match bound ts lo 0 e with
        | some b => some (.str ((s.drop b).take (e - b)))
        | none => none)
      | none => none)
    | _ => none
  | .slice sz x lo hi mx => match x.ev ts with
    | .nilslice => (match bound ts mx 0 0 with
      | some _ => (match bound ts hi 0 0, bound ts lo 0 0 with
        | some _, some _ => some .nilslice
        | _, _ => none)
      | none => none)
    | .rslice z rows => (match mx with
      | none => (match bound ts hi rows.length rows.length with
        | some e => (match bound ts lo 0 e with
          | some b => if Nat.beq z sz then some (.rslice z ((rows.drop b).take (e - b))) else none
          | none => none)
        | none => none)
      | some _ => none)
    | .slice b v off ln z (some cap) =>
      if Nat.beq z sz then
        (match bound ts mx cap cap with
        | some m => (match bound ts hi ln m with
          | some e => (match bound ts lo 0 e with
            | some l => some (.slice b v (if Nat.beq m l then off else off + l * sz) (e - l) z (some (m - l)))
            | none => none)
          | none => none)
        | none => none)
      else none
    | .slice b v off ln z none => (match mx with
      | none =>
        if Nat.beq z sz then
          (match bound ts hi ln ln with
          | some e => (match bound ts lo 0 e with
            | some l => some (.slice b v (off + l * sz) (e - l) z none)
            | none => none)
          | none => none)
        else none
      | some _ => none)
    | _ => none
  | .sliceArr n sz x lo hi mx => match x.ev ts with
    | .ptr b v off =>
      (match bound ts mx n n with
      | some m => (match bound ts hi n m with
        | some e => (match bound ts lo 0 e with
          | some l => some (.slice b v (if Nat.beq m l then off else off + l * sz) (e - l) sz (some (m - l)))
          | none => none)
        | none => none)
      | none => none)
    | _ => none
  | .fieldAddr off x => match x.ev ts with
    | .ptr b v o => some (.ptr b v (o + off))
    | .rptr cs => some (.rptr (cs.drop off))
    | _ => none
  | .field agg sz off x => match x.ev ts with
    | .agg cs => partOf agg sz cs off
    | _ => none
  | .indexAddr (some n) sz x i => match asIdx (i.ev ts) with
    | some j => (match inRange j n with
      | some k => (match x.ev ts with
        | .ptr b v o => some (.ptr b v (o + k * sz))
        | .rptr cs => some (.rptr ((cs.drop (k * sz)).take sz))
        | _ => none)
      | none => none)
    | none => none
  | .indexAddr none sz x i => match asIdx (i.ev ts) with
    | some j => (match x.ev ts with
      | .slice b v off ln z _ => if Nat.beq z sz then (match inRange j ln with
        | some k => some (.ptr b v (off + k * sz))
        | none => none) else none
      | .rslice z rows => if Nat.beq z sz then (match inRange j rows.length with
        | some k => (match rowAtV rows k with | some r => some (.rptr r) | none => none)
        | none => none) else none
      | _ => none)
    | none => none
  | .indexStr x i => match x.ev ts, asIdx (i.ev ts) with
    | .str s, some j => (match inRange j s.length with
      | some k => (match s[k]? with | some n => some (.int .u8 n) | none => none)
      | none => none)
    | _, _ => none
  | .indexArr n agg sz x i => match x.ev ts, asIdx (i.ev ts) with
    | .agg cs, some j => (match inRange j n with
      | some k => partOf agg sz cs (k * sz)
      | none => none)
    | _, _ => none
  | .lookup g zero m k ok => if keyOk g (k.ev ts) then (match m.ev ts with
    | .nilmap => some (if ok then .tuple [zero, .bool false] else zero)
    | .map b => (match h.get b with
      | some (.map es) => (match findV (k.ev ts) es with
        | some (some v) => some (if ok then .tuple [v, .bool true] else v)
        | some none => some (if ok then .tuple [zero, .bool false] else zero)
        | none => none)
      | _ => none)
    | _ => none) else none
  | .typeAssert asserted zero x ok => match x.ev ts with
    | .iface t v => if Nat.beq t asserted then some (if ok then .tuple [v, .bool true] else v) else if ok then some (.tuple [zero, .bool false]) else none
    | .niliface => if ok then some (.tuple [zero, .bool false]) else none
    | _ => none
  | .extract x i => match x.ev ts with
    | .tuple vs => (match cut vs i 1 with | some [v] => some v | _ => none)
    | _ => none
  | .len g x => if shapeOk g (x.ev ts) then (match h.lenAt (x.ev ts) with | some n => some (.int .i64 n) | none => none) else none
  | .lenArr n => some (.int .i64 n)
  | .minmax mx xs => match evs ts xs with
    | x :: r => minmaxV mx x r
    | [] => none
  | _ => none

def repeatV (zero : List VVal) : Nat → List VVal
  | 0 => []
  | n + 1 => zero ++ repeatV zero n

/-- Operations that make a block: the block, and the value over its number. -/
def VOp.fresh (ts : List VVal) : VOp → Option (VObj × (Nat → VVal))
  | .box elem x => if (x.ev ts).whole then some (.cells (x.ev ts).cells elem 0, fun b => .ptr b 0 0) else none
  | .buildSlice elem sz ln zeros parts => match fillV zeros (evParts ts parts) with
    | some cs => some (.cells cs elem 0, fun b => .slice b 0 0 ln sz (some ln))
    | none => none
  | .toBytes elem x => match x.ev ts with
    | .str s => if Nat.ble s.length 1099511627776 then some (.cells (s.map fun (n : Nat) => .int .u8 n) elem 0, fun b => .slice b 0 0 s.length 1 none) else none
    | _ => none
  | .mkMap => some (.map [], fun b => .map b)
  | .mkSlice elem sz bytes zero ln cap => match asIdx (ln.ev ts), asIdx (cap.ev ts) with
    | some l, some c => (match natOf l 1099511627776, natOf c 1099511627776 with
      | some l, some c => if Nat.ble l c && Nat.ble (bytes * c) 281474976710656 then some (.cells (repeatV zero c) elem 0, fun b => .slice b 0 0 l sz (some c)) else none
      | _, _ => none)
    | _, _ => none
  | _ => none

/-- May so many elements be asked of the memory? -/
def roomV (need bytes : Nat) : Bool := Nat.ble (need * bytes) 140737488355328 && Nat.ble need 1099511627776

/-- What is appended. -/
def addedV (ts : List VVal) (h : VHeap) (sz bytes : Nat) (zeros : Option (List VVal)) (y : VOpd) : Option (Nat × List VVal) :=
  match zeros with
  | some z => (match asIdx (y.ev ts) with
    | some l => (match natOf l 1099511627776 with
      | some n => if roomV n bytes then some (n, repeatV z n) else none
      | none => none)
    | none => none)
  | none => (match lenV (y.ev ts), h.rowCells (y.ev ts) with
    | some n, some cs => if Nat.beq cs.length (n * sz) then some (n, cs) else none
    | _, _ => none)

/-- May a value stand in one cell? -/
def cellOk : VVal → Bool
  | .agg _ | .tuple _ | .poison => false
  | _ => true

def cellsOk : List VVal → Bool
  | [] => true
  | x :: r => cellOk x && cellsOk r

/-- Operations that write blocks that are there. -/
def VOp.write (ts : List VVal) (h : VHeap) : VOp → Option (VVal × VHeap)
  | .store sz a x => if Nat.beq (x.ev ts).cells.length sz && cellsOk (x.ev ts).cells then (match h.store (a.ev ts) (x.ev ts).cells with | some h' => some (.undef, h') | none => none) else none
  | .mapUpdate g m k x => if keyOk g (k.ev ts) then (match m.ev ts with
    | .map b => (match h.get b with
      | some (.map es) => (match putV (k.ev ts) (x.ev ts) es with
        | some es' => some (.undef, h.set b (.map es'))
        | none => none)
      | _ => none)
    | _ => none) else none
  | .delete g m k => if keyOk g (k.ev ts) then (match m.ev ts with
    | .nilmap => some (.tuple [], h)
    | .map b => (match h.get b with
      | some (.map es) => (match delV (k.ev ts) es with
        | some es' => some (.tuple [], h.set b (.map es'))
        | none => none)
      | _ => none)
    | _ => none) else none
  | .append elem sz bytes zeros x y => match addedV ts h sz bytes zeros y with
    | none => none
    | some (n, new) => match x.ev ts with
      | .nilslice => if Nat.beq n 0 then some (.nilslice, h) else if roomV n bytes then some (.slice h.size 0 0 n sz none, h.new (.cells new elem 0)) else none
      | .slice b v off ln z (some cap) =>
        if Nat.beq z sz then
          if Nat.ble (ln + n) cap then
            (if Nat.beq n 0 then some (.slice b v off ln z (some cap), h)
             else if cellsOk new = false then none
             else match h.store (.ptr b v (off + ln * sz)) new with
              | some h' => some (.slice b v off (ln + n) z (some cap), h')
              | none => none)
          else if roomV (ln + n) bytes then
            (match h.rowCells (.slice b v off ln z (some cap)) with
            | some old => some (.slice h.size 0 0 (ln + n) sz none, h.new (.cells (old ++ new) elem 0))
            | none => none)
          else none
        else none
      | .slice b v off ln z none =>
        if Nat.beq n 0 then some (.slice b v off ln z none, h) else
        if Nat.beq z sz && Nat.beq off 0 && roomV (ln + n) bytes then
          (match h.get b with
          | some (.cells cs e ver) =>
            if Nat.beq e elem && (Nat.beq v ver && cellsOk new) then
              (match cut cs 0 (ln * sz) with
              | some old => some (.slice b (ver + 1) 0 (ln + n) sz none, h.set b (.cells (old ++ new) e (ver + 1)))
              | none => none)
            else none
          | _ => none)
        else none
      | _ => none
  | .copy sz x y => match lenV (x.ev ts), lenV (y.ev ts), h.rowSlice (y.ev ts), x.ev ts with
    | some dl, some sl, some cs, .slice b v off _ z _ => if Nat.beq z sz then (match cut cs 0 (Nat.min sl dl * sz) with
      | some new => if Nat.beq (Nat.min sl dl) 0 then some (.int .i64 0, h) else if cellsOk new = false then none else (match h.store (.ptr b v off) new with
        | some h' => some (.int .i64 (Nat.min sl dl : Nat), h')
        | none => none)
      | none => none) else none
    | _, _, _, _ => none
  | _ => none

/-- Whom a call calls, and with what. -/
def VOp.callee (ts : List VVal) : VOp → Option (FuncId × List VVal)
  | .callF f args => some (f, evs ts args)
  | .call f args => match f.ev ts with
    | .func g first captured => some (g, first ++ evs ts args ++ captured)
    | _ => none
  | _ => none

/- ---------------------------------------------------------------- the interpreter -/

structure VSt where
  ts : List VVal
  h : VHeap
  deriving Inhabited

inductive VExit where
  | normal | exit (id : Nat) | ret
  deriving DecidableEq, Inhabited

abbrev VCaller := FuncId → List VVal → VHeap → Option (VVal × VHeap)

/-- One operation. -/
def stepV (call : VCaller) (o : VOp) (ts : List VVal) (h : VHeap) : Option (VVal × VHeap) :=
  match o.kind with
  | .read => match o.read ts h with
    | some v => some (v, h)
    | none => none
  | .fresh => match o.fresh ts with
    | some (x, mk) => some (mk h.size, h.new x)
    | none => none
  | .write => o.write ts h
  | .call => match o.callee ts with
    | some (f, args) => call f args h
    | none => none
  | .panic => none

/-- One operation behind another, as the text has them. -/
def runOps (call : VCaller) : List VOper → VSt → Option VSt
  | [], st => some st
  | o :: r, st =>
    if wantedV o.guard st.ts then
      match stepV call o.op st.ts st.h with
      | some (v, h') => runOps call r ⟨putDst st.ts o.dst v, h'⟩
      | none => none
    else if guardKnown o.guard st.ts then runOps call r ⟨putDst st.ts o.dst .undef, st.h⟩ else none

def memNat (n : Nat) : List Nat → Bool
  | [] => false
  | x :: r => Nat.beq n x || memNat n r

/-- Temporaries, but for those that are listed, made unknown. -/
def maskTs (rs : List Nat) : Nat → List VVal → List VVal
  | _, [] => []
  | i, x :: xs => (if memNat i rs then x else .poison) :: maskTs rs (i + 1) xs

/-- What is remembered of an operation of a drawn region. -/
structure VRec where
  ts : List VVal       -- ahead of it; what it doesn't look at is unknown
  h : VHeap            -- ahead of it
  v : VVal
  h' : VHeap           -- behind it
  did : Bool
  deriving Inhabited

def recOps (call : VCaller) : List VOper → VSt → Option (List VRec × VSt)
  | [], st => some ([], st)
  | o :: r, st =>
    if wantedV o.guard (maskTs o.reads 0 st.ts) then
      match stepV call o.op (maskTs o.reads 0 st.ts) st.h with
      | some (v, h') => (match recOps call r ⟨putDst st.ts o.dst v, h'⟩ with
        | some (l, st') => some (⟨maskTs o.reads 0 st.ts, st.h, v, h', true⟩ :: l, st')
        | none => none)
      | none => none
    else if guardKnown o.guard (maskTs o.reads 0 st.ts) then
      (match recOps call r ⟨putDst st.ts o.dst .undef, st.h⟩ with
      | some (l, st') => some (⟨maskTs o.reads 0 st.ts, st.h, .undef, st.h, false⟩ :: l, st')
      | none => none)
    else none

def readsSame (o : VOp) (ts : List VVal) (h : VHeap) (v : VVal) : Bool :=
  match o.read ts h with
  | some v' => VVal.beq v' v
  | none => false

/-- Two operations of which either may go first (b stands ahead of a): a read comes to the same on either side of the other. -/
def calmPair (a b : VOper) (ra rb : VRec) : Bool :=
  if ra.did && rb.did then
    (match a.op.kind with
    | .read => readsSame a.op ra.ts rb.h ra.v
    | _ => readsSame b.op rb.ts ra.h' rb.v)
  else true

def nthV {α : Type} : List α → Nat → Option α
  | [], _ => none
  | x :: _, 0 => some x
  | _ :: r, n + 1 => nthV r n

def calmAll (all : List (VOper × VRec)) : List (VOper × VRec) → Bool
  | [] => true
  | (o, r) :: rest => (o.chk.all fun j => match nthV all j with | some (b, rb) => calmPair o b r rb | none => false) && calmAll all rest

def drawOps (call : VCaller) (ops : List VOper) (st : VSt) : Option VSt :=
  match recOps call ops st with
  | some (recs, st') => if calmAll (ops.zip recs) (ops.zip recs) then some st' else none
  | none => none

def loopN (step : VSt → Option (VExit × VSt)) : Nat → VSt → Option (VExit × VSt)
  | 0, _ => none
  | n + 1, st => match step st with
    | some (.normal, st') => loopN step n st'
    | r => r

def runCode (call : VCaller) (n : Nat) : VCode → VSt → Option (VExit × VSt)
  | .skip, st => some (.normal, st)
  | .region false ops, st => match runOps call ops st with | some st' => some (.normal, st') | none => none
  | .region true ops, st => match drawOps call ops st with | some st' => some (.normal, st') | none => none
  | .seq a b, st => match runCode call n a st with
    | some (.normal, st') => runCode call n b st'
    | r => r
  | .cond c a b, st => match c.ev st.ts with
    | .bool true => runCode call n a st
    | .bool false => runCode call n b st
    | _ => none
  | .block id body, st => match runCode call n body st with
    | some (.exit k, st') => if Nat.beq k id then some (.normal, st') else some (.exit k, st')
    | r => r
  | .loop body, st => loopN (runCode call n body) n st
  | .exit id, st => some (.exit id, st)
  | .ret, st => some (.ret, st)
  | .fail, _ => none

def resultV (ts : List VVal) (h : VHeap) : VResult → Option VVal
  | .tmp t => some (tmpAt ts t)
  | .cell a agg sz => match h.load (tmpAt ts a) sz with
    | some cs => asValue agg cs
    | none => none

def resultsV (ts : List VVal) (h : VHeap) : List VResult → Option (List VVal)
  | [] => some []
  | r :: rs => match resultV ts h r, resultsV ts h rs with
    | some v, some vs => some (v :: vs)
    | _, _ => none

def oneOrTuple : List VVal → VVal
  | [v] => v
  | vs => .tuple vs

abbrev VProg := FuncId → Option VFunc

def callN (P : VProg) : Nat → VCaller
  | 0, _, _, _ => none
  | n + 1, f, args, h => match P f with
    | none => none
    | some fn => match runCode (callN P n) n fn.body ⟨args ++ List.replicate (fn.ntmps - args.length) .undef, h⟩ with
      | some (.normal, st) | some (.ret, st) => (match resultsV st.ts st.h fn.results with
        | some vs => some (oneOrTuple vs, st.h)
        | none => none)
      | _ => none

end Go.V
