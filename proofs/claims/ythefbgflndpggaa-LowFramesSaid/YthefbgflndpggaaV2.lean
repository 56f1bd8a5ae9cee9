/- Out of the model's code: the virtual machine's code, with what the types say written out. What is not served becomes '.fail'. -/
import Derived.Test.YthefbgflndpggaaV1
set_option linter.unusedSimpArgs false
set_option linter.unusedVariables false
namespace Go.V

mutual
def valueV : Value → Option VVal
  | .bool b => some (.bool b)
  | .int k n => some (.int k n)
  | .string s => some (.str (s.data.toList.map UInt8.toNat))
  | .pointer none => some .nilptr
  | .slice none 0 0 => some .nilslice
  | .map none => some .nilmap
  | .nilFunc => some .nilfunc
  | .nilIface => some .niliface
  | .agg ⟨cs⟩ => match valuesV cs with | some l => some (.agg l) | none => none
  | .tuple ⟨cs⟩ => match valuesV cs with | some l => some (.tuple l) | none => none
  | _ => none
def valuesV : List Value → Option (List VVal)
  | [] => some []
  | v :: r => match valueV v, valuesV r with
    | some a, some b => some (a :: b)
    | _, _ => none
end

def opdV : Operand → Option VOpd
  | .tmp t => some (.tmp t)
  | .const v => match valueV v with | some x => some (.const x) | none => none
  | .func f => some (.const (.func f [] []))
  | .global _ => none

def opdsV : List Operand → Option (List VOpd)
  | [] => some []
  | x :: r => match opdV x, opdsV r with
    | some a, some b => some (a :: b)
    | _, _ => none

def opdOV : Option Operand → Option (Option VOpd)
  | none => some none
  | some x => match opdV x with | some y => some (some y) | none => none

section
variable (P : Program)

def zeroV (t : TypeId) : Option VVal := ((P.info? t).bind (·.zero)).bind valueV

def aggT (t : TypeId) : Option Bool :=
  match P.underlying t with
  | some (.struct _) | some (.array ..) => some true
  | some _ => some false
  | none => none

/-- A type's cells: whether it is an aggregate, and how many. -/
def sizeT (t : TypeId) : Option (Bool × Nat) :=
  match aggT P t, P.info? t with
  | some true, some i => some (true, i.size)
  | some false, some i => if i.size = 1 then some (false, 1) else none
  | _, _ => none

def tagOf : TypeDesc → Option VTag
  | .bool => some .bool
  | .int _ => some .int
  | .string => some .str
  | .slice _ => some .slice
  | .map .. => some .map
  | .func .. => some .func
  | .pointer _ => some .ptr
  | _ => none

def eqFs (P : Program) (eq : TypeId → Option VEq) : List Field → Option (List (Nat × Nat × Bool × VEq))
  | [] => some []
  | f :: r =>
    match eqFs P eq r with
    | none => none
    | some l =>
      if f.name = "_" then some l else
      match eq f.type, sizeT P f.type with
      | some q, some (agg, n) => some ((f.offset, n, agg, q) :: l)
      | _, _ => none

def eqT (P : Program) : (depth : Nat) → TypeId → Option VEq
  | 0, _ => none
  | d + 1, t => match P.underlying t with
    | some (.struct fs) => if P.stoodInHeld t then none else (match eqFs P (eqT P d) fs.toList with | some l => some (.struct l) | none => none)
    | some u => (match tagOf u with | some g => some (.flat g) | none => none)
    | none => none

/-- A map's key type, if it is served. -/
def keyTag (P : Program) (kt : TypeId) : Option VTag :=
  match P.underlying kt with
  | some (.int _) => some .int
  | some .string => some .str
  | some .bool => some .bool
  | _ => none

def constNil : Operand → Bool
  | .const .nilIface => true
  | _ => false

/-- How '==' of two operands of a type goes. -/
def eqQ (P : Program) (t : TypeId) (x y : Operand) : Option VEq :=
  match P.underlying t with
  | some (.interface _) => if constNil x || constNil y then some (.flat .iface) else none
  | _ => if P.eqGuardType P.depth t then none else eqT P 20 t

def placesV (fields : Array Field) : List (Nat × Operand) → Option (List (Nat × Nat × VOpd))
  | [] => some []
  | (i, x) :: r => match fields[i]?, opdV x, placesV fields r with
    | some f, some y, some l => (match P.info? f.type with
      | some inf => some ((f.offset, inf.size, y) :: l)
      | none => none)
    | _, _, _ => none

def placesA (sz : Nat) : List (Nat × Operand) → Option (List (Nat × Nat × VOpd))
  | [] => some []
  | (i, x) :: r => match opdV x, placesA sz r with
    | some y, some l => some ((i * sz, sz, y) :: l)
    | _, _ => none

def allInfo (fields : List Field) : Bool := fields.all fun f => (P.info? f.type).isSome

def mapV (t : TypeId) (r : Option Operand) : Option VOp :=
  match r, P.underlying t with
  | none, _ => some .mkMap
  | some (.const (.int _ _)), some (.map ..) => some .mkMap
  | _, _ => none

/-- An operation, or nothing. -/
def opV? : Op → Option VOp
  | .move x => (opdV x).map .move
  | .assign x => (opdV x).map .assign
  | .pick c a b => match opdV c, opdV a, opdV b with
    | some c, some a, some b => some (.pick c a b)
    | _, _, _ => none
  | .alloc elem => (zeroV P elem).map fun z => .box elem (.const z)
  | .box elem x => (opdV x).map (.box elem)
  | .build t parts => match zeroV P t, P.underlying t with
    | some z, some (.struct fs) => if allInfo P fs.toList then (placesV P fs parts.toList).map (.build z.cells) else none
    | some z, some (.array _ e) => (match P.info? e with
      | some i => (placesA i.size parts.toList).map (.build z.cells)
      | none => none)
    | _, _ => none
  | .buildSlice t ln parts => match P.underlying t with
    | some (.slice e) => (match zeroV P e, P.info? e with
      | some z, some i => if z.cells.length = i.size ∧ i.size ≠ 0 ∧ ln * i.size ≤ 2 ^ 24 then (placesA i.size parts.toList).map (.buildSlice e i.size ln (repeatV z.cells ln)) else none
      | _, _ => none)
    | _ => none
  | .load t a => match sizeT P t, opdV a with
    | some (agg, n), some x => some (.load agg n x)
    | _, _ => none
  | .store t a x => match P.info? t, opdV a, opdV x with
    | some i, some a, some x => if i.size ≠ 0 then some (.store i.size a x) else none
    | _, _, _ => none
  | .nilCheck x => (opdV x).map .nilCheck
  | .binOp op t x y _ => match opdV x, opdV y with
    | some a, some b => (match op with
      | .eql => (match eqQ P t x y with | some q => some (.bin .eql q a b) | none => none)
      | .neq => (match eqQ P t x y with | some q => some (.bin .neq q a b) | none => none)
      | op => some (.bin op (.flat .int) a b))
    | _, _ => none
  | .unOp op _ x => (opdV x).map (.un op)
  | .convert src dst x => match P.underlying src, P.underlying dst, opdV x with
    | some _, some (.int k), some y => some (.convInt k y)
    | some .string, some .string, some y => some (.convSame y)
    | some .string, some (.slice e), some y => (match P.underlying e with
      | some (.int .u8) => some (.toBytes e y)
      | _ => none)
    | some (.slice e), some .string, some y => (match P.underlying e with
      | some (.int .u8) => some (.ofBytes y)
      | _ => none)
    | _, _, _ => none
  | .makeInterface t x => match P.underlying t, opdV x with
    | some (.interface _), _ => none
    | some _, some y => some (.mkIface t y)
    | _, _ => none
  | .makeFunc (.func f) first captured => match opdsV first.toList, opdsV captured.toList with
    | some a, some b => some (.mkFunc f a b)
    | _, _ => none
  | .makeMap t r => mapV P t r
  | .makeSlice t l c => match P.underlying t with
    | some (.slice e) => (match zeroV P e, P.info? e, opdV l, opdV c with
      | some z, some i, some l, some c => if z.cells.length = i.size ∧ i.size ≠ 0 then some (.mkSlice e i.size i.bytes z.cells l c) else none
      | _, _, _, _ => none)
    | _ => none
  | .slice t x lo hi mx => if mx.isSome && hi.isNone then none else match P.underlying t, opdV x, opdOV lo, opdOV hi, opdOV mx with
    | some .string, some x, some lo, some hi, some none => some (.sliceStr x lo hi)
    | some (.slice e), some x, some lo, some hi, some mx => (match P.info? e with
      | some i => some (.slice i.size x lo hi mx)
      | none => none)
    | some (.array n e), some x, some lo, some hi, some mx => (match P.info? e with
      | some i => some (.sliceArr n i.size x lo hi mx)
      | none => none)
    | some (.pointer a), some x, some lo, some hi, some mx => (match P.underlying a with
      | some (.array n e) => (match P.info? e with
        | some i => some (.sliceArr n i.size x lo hi mx)
        | none => none)
      | _ => none)
    | _, _, _, _, _ => none
  | .fieldAddr t x k => match P.underlying t, opdV x with
    | some (.struct fs), some y => (match fs[k]? with
      | some f => (match P.info? f.type with
        | some i => if i.size ≠ 0 then some (.fieldAddr f.offset y) else none
        | none => none)
      | none => none)
    | _, _ => none
  | .field t x k => match P.underlying t, opdV x with
    | some (.struct fs), some y => (match fs[k]? with
      | some f => (match sizeT P f.type with
        | some (agg, n) => some (.field agg n f.offset y)
        | none => none)
      | none => none)
    | _, _ => none
  | .indexAddr t x i => match P.underlying t, opdV x, opdV i with
    | some (.array n e), some x, some i => (match P.info? e with
      | some inf => some (.indexAddr (some n) inf.size x i)
      | none => none)
    | some (.slice e), some x, some i => (match P.info? e with
      | some inf => some (.indexAddr none inf.size x i)
      | none => none)
    | _, _, _ => none
  | .index t x i => match P.underlying t, opdV x, opdV i with
    | some .string, some x, some i => some (.indexStr x i)
    | some (.array n e), some x, some i => (match sizeT P e with
      | some (agg, sz) => some (.indexArr n agg sz x i)
      | none => none)
    | _, _, _ => none
  | .lookup t m k ok => match P.underlying t, opdV m, opdV k with
    | some (.map kt e), some m, some k => (match keyTag P kt, zeroV P e with
      | some g, some z => some (.lookup g z m k ok)
      | _, _ => none)
    | _, _, _ => none
  | .mapUpdate t m k x | .insert t m k x => match P.underlying t, opdV m, opdV k, opdV x with
    | some (.map kt _), some m, some k, some x => (match keyTag P kt with
      | some g => some (.mapUpdate g m k x)
      | none => none)
    | _, _, _, _ => none
  | .mapEntry t m k => match P.underlying t, opdV m, opdV k with
    | some (.map kt e), some m, some k => (match keyTag P kt, zeroV P e with
      | some g, some z => some (.mapEntry g z m k)
      | _, _ => none)
    | _, _, _ => none
  | .entryStore _ m s x => match opdV m, opdV s, opdV x with
    | some m, some s, some x => some (.entryStore m s x)
    | _, _, _ => none
  | .typeAssert x _ asserted ok => match P.underlying asserted, opdV x, zeroV P asserted with
    | some (.interface _), _, _ => none
    | some _, some y, some z => some (.typeAssert asserted z y ok)
    | _, _, _ => none
  | .extract x i => (opdV x).map fun y => .extract y i
  | .panic x => (opdV x).map .panic
  | .call { callee := .value f, args, .. } => match f, opdsV args.toList with
    | .func g, some l => some (.callF g l)
    | f, some l => (opdV f).map fun g => .call g l
    | _, _ => none
  | .call { callee := .builtin .len, args, argTypes } => match argTypes[0]?, args.toList with
    | some t, [x] => (match P.underlying t, opdV x with
      | some (.array n _), some _ => some (.lenArr n)
      | some (.pointer a), some _ => (match P.underlying a with
        | some (.array n _) => some (.lenArr n)
        | _ => none)
      | some .string, some y => some (.len .str y)
      | some (.slice _), some y => some (.len .slice y)
      | some (.map ..), some y => some (.len .map y)
      | _, _ => none)
    | _, _ => none
  | .call { callee := .builtin .append, args, argTypes } => match argTypes[0]?, argTypes[1]?, args.toList with
    | some t, some u, [x, y] => (match P.underlying t, P.underlying u, opdV x, opdV y with
      | some (.slice e), some d, some x, some y => (match zeroV P e, P.info? e with
        | some z, some i => if z.cells.length = i.size ∧ i.size ≠ 0 ∧ i.bytes ≠ 0 then
            (match d with
            | .int _ => some (.append e i.size i.bytes (some z.cells) x y)
            | .slice _ | .string => some (.append e i.size i.bytes none x y)
            | _ => none)
          else none
        | _, _ => none)
      | _, _, _, _ => none)
    | _, _, _ => none
  | .call { callee := .builtin .copy, args, argTypes } => match argTypes[0]?, args.toList with
    | some t, [x, y] => (match P.underlying t, opdV x, opdV y with
      | some (.slice e), some x, some y => (match P.info? e with
        | some i => if i.size ≠ 0 then some (.copy i.size x y) else none
        | none => none)
      | _, _, _ => none)
    | _, _ => none
  | .call { callee := .builtin .max, args, .. } => (opdsV args.toList).map (.minmax true)
  | .call { callee := .builtin .min, args, .. } => (opdsV args.toList).map (.minmax false)
  | .call { callee := .builtin .delete, args, argTypes } => match argTypes[0]?, args.toList with
    | some t, [m, k] => (match P.underlying t, opdV m, opdV k with
      | some (.map kt _), some m, some k => (match keyTag P kt with
        | some g => some (.delete g m k)
        | none => none)
      | _, _, _ => none)
    | _, _ => none
  | _ => none

def opV (o : Op) : VOp := (opV? P o).getD .fail
end

/- ---------------------------------------------------------------- regions -/

/-- What must have been done ahead of each operation: the edges that bind, and theirs. -/
def presOf : List Oper → List (List Nat) → List (List Nat)     -- behind: those of the operations ahead, in order
  | [], acc => acc
  | o :: r, acc =>
    let own := (o.after.toList.filter fun e => Region.binds .any e).map (·.on)
    presOf r (acc ++ [own ++ own.flatMap fun j => acc.getD j []])

def tmpOf : Operand → Option Nat
  | .tmp t => some t
  | _ => none

def dstOf (ops : List Oper) (j : Nat) : Option Nat := (ops[j]?).bind (·.dst)

/-- The temporaries that an operation reads. -/
def readsOf (ops : List Oper) (o : Oper) : List Nat :=
  o.op.operands.toList.filterMap tmpOf ++ (match o.guard with | some (j, _) => (dstOf ops j).toList | none => [])

def loudK : VKind → Bool
  | .write | .call | .panic => true
  | _ => false

/-- May two operations go in either order? -/
def loose (P : Program) (ops : List Oper) (a b : Oper) : Bool :=
  !(loudK (opV P a.op).kind && loudK (opV P b.op).kind) &&
  (match a.dst with | some d => !(readsOf ops b).contains d && b.dst != some d | none => true) &&
  (match b.dst with | some d => !(readsOf ops a).contains d | none => true)

def pairsOk (P : Program) (ops : List Oper) (pres : List (List Nat)) : Bool :=
  ops.zipIdx.all fun (b, j) => ops.zipIdx.all fun (a, i) => !(decide (i < j)) || (pres.getD j []).contains i || loose P ops a b

/-- Those ahead of an operation that are not ordered with it, of the other kind. -/
def chkOf (P : Program) (ops : List Oper) (pres : List (List Nat)) (o : Oper) (j : Nat) : List Nat :=
  match (opV P o.op).kind with
  | .read => if (opV P o.op).looks then (ops.zipIdx.filter fun (a, i) => decide (i < j) && !(pres.getD j []).contains i && loudK (opV P a.op).kind).map (·.2) else []
  | .write | .call => (ops.zipIdx.filter fun (a, i) => decide (i < j) && !(pres.getD j []).contains i && ((opV P a.op).kind == .read && (opV P a.op).looks)).map (·.2)
  | _ => []

def guardV (ops : List Oper) : Option (Nat × Bool) → Option (Nat × Bool)
  | none => none
  | some (j, b) => match dstOf ops j with
    | some t => some (t, b)
    | none => some (0, b)

def guardsOk (ops : List Oper) : Bool := ops.all fun o => match o.guard with
  | none => true
  | some (j, _) => (dstOf ops j).isSome

/-- Pure operations that anybody could look at twice. -/
def operV (P : Program) (draw : Bool) (ops : List Oper) (pres : List (List Nat)) (o : Oper) (j : Nat) : VOper :=
  { dst := o.dst, op := opV P o.op, guard := guardV ops o.guard, chk := if draw then chkOf P ops pres o j else [], reads := if draw then readsOf ops o else [] }

def edgesBack (ops : List Oper) : Bool := ops.zipIdx.all fun (o, j) => o.after.toList.all fun e => !Region.binds .any e || decide (e.on < j)

def regionV (P : Program) (ops : Array Oper) (draw : Bool) : VCode :=
  let l := ops.toList
  let pres := presOf l []
  if guardsOk l && (!draw || (edgesBack l && pairsOk P l pres)) then .region draw (l.zipIdx.map fun (o, j) => operV P draw l pres o j) else .fail

def codeV (P : Program) : Code → VCode
  | .skip => .skip
  | .region _ ops draw => regionV P ops draw
  | .seq a b => .seq (codeV P a) (codeV P b)
  | .cond c a b => match opdV c with
    | some c => .cond c (codeV P a) (codeV P b)
    | none => .fail
  | .block id body => .block id (codeV P body)
  | .loop body => .loop (codeV P body)
  | .scope body => codeV P body
  | .exit id => .exit id
  | .label _ => .skip
  | .ret => .ret
  | _ => .fail

def resultsOf (P : Program) : List ResultVar → Option (List VResult)
  | [] => some []
  | .tmp t :: r => (resultsOf P r).map (.tmp t :: ·)
  | .cell a t :: r => match sizeT P t, resultsOf P r with
    | some (agg, n), some l => some (.cell a agg n :: l)
    | _, _ => none

def funcV (P : Program) (f : FuncId) : Option VFunc :=
  match P.funcs[f]? with
  | none => none
  | some fn => match fn.body, resultsOf P fn.results.toList with
    | some c, some rs => if fn.name == "runtime.NumGoroutine" then none else some { ntmps := fn.ntmps, results := rs, body := codeV P c }
    | _, _ => none

end Go.V
