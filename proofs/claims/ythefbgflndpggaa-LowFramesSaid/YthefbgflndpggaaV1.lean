/- The virtual machine: values, a heap of new blocks, and a plain interpreter of code without any open order. -/
import Derived.Orders
import Derived.KernelRfl
set_option linter.unusedSimpArgs false
set_option linter.unusedVariables false
namespace Go.V

/-- What is known of an integer that is not known: what an operation with a constant behind it gives. -/
inductive SRes where
  | int (n : Int)
  | bool (b : Bool)
  deriving Inhabited

structure SFact where
  op : BinOp
  k2 : IntKind
  c : Int
  r : SRes
  deriving Inhabited

/-- A value as the virtual machine has it. 'sym' is an integer of which no more is known than the facts. 'ptr', 'slice', 'map' lead to blocks that were made since the run began; 'rptr', 'rslice' to memory that nobody writes. -/
inductive VVal where
  | bool (b : Bool)
  | int (k : IntKind) (n : Int)
  | sym (k : IntKind) (facts : List SFact)
  | str (s : List Nat)
  | nilptr
  | ptr (b v off : Nat)
  | rptr (cells : List VVal)
  | nilslice
  | slice (b v off len sz : Nat) (cap : Option Nat)
  | rslice (sz : Nat) (elems : List (List VVal))
  | nilmap
  | map (b : Nat)
  | func (f : FuncId) (first captured : List VVal)
  | nilfunc
  | iface (t : TypeId) (v : VVal)
  | niliface
  | agg (cells : List VVal)
  | tuple (vs : List VVal)
  | poison
  | panicked (v : VVal)
  deriving Inhabited

def VVal.undef : VVal := .tuple []

def VVal.cells : VVal → List VVal
  | .agg cs => cs
  | v => [v]

def IntKind.code : IntKind → Nat
  | .i8 => 0 | .i16 => 1 | .i32 => 2 | .i64 => 3 | .u8 => 4 | .u16 => 5 | .u32 => 6 | .u64 => 7

/- What is hot is written by recursors: the kernel is quick at them. -/
noncomputable section
/-- if, over a Bool -/
def tf {α : Type} (c : Bool) (a b : α) : α := Bool.rec (motive := fun _ => α) b a c
@[simp] theorem tf_true {α : Type} (a b : α) : tf true a b = a := rfl
@[simp] theorem tf_false {α : Type} (a b : α) : tf false a b = b := rfl
theorem tf_ite {α : Type} (c : Bool) (a b : α) : tf c a b = if c = true then a else b := by cases c <;> rfl

/-- The same kind? -/
def kindEq (k l : IntKind) : Bool :=
  IntKind.rec (motive := fun _ => IntKind → Bool)
    (fun l => IntKind.rec (motive := fun _ => Bool) true false false false false false false false l)
    (fun l => IntKind.rec (motive := fun _ => Bool) false true false false false false false false l)
    (fun l => IntKind.rec (motive := fun _ => Bool) false false true false false false false false l)
    (fun l => IntKind.rec (motive := fun _ => Bool) false false false true false false false false l)
    (fun l => IntKind.rec (motive := fun _ => Bool) false false false false true false false false l)
    (fun l => IntKind.rec (motive := fun _ => Bool) false false false false false true false false l)
    (fun l => IntKind.rec (motive := fun _ => Bool) false false false false false false true false l)
    (fun l => IntKind.rec (motive := fun _ => Bool) false false false false false false false true l) k l
theorem kindEq_eq (k l : IntKind) : kindEq k l = Nat.beq (IntKind.code k) (IntKind.code l) := by cases k <;> cases l <;> rfl

def intEqF (a b : Int) : Bool :=
  Int.rec (motive := fun _ => Int → Bool) (fun m b => Int.rec (motive := fun _ => Bool) (fun n => Nat.beq m n) (fun _ => false) b) (fun m b => Int.rec (motive := fun _ => Bool) (fun _ => false) (fun n => Nat.beq m n) b) a b
def intLtF (a b : Int) : Bool :=
  Int.rec (motive := fun _ => Int → Bool) (fun m b => Int.rec (motive := fun _ => Bool) (fun n => Nat.blt m n) (fun _ => false) b) (fun m b => Int.rec (motive := fun _ => Bool) (fun _ => true) (fun n => Nat.blt n m) b) a b
def intAddF (a b : Int) : Int :=
  Int.rec (motive := fun _ => Int → Int) (fun m b => Int.rec (motive := fun _ => Int) (fun n => .ofNat (Nat.add m n)) (fun n => Int.subNatNat m (Nat.succ n)) b) (fun m b => Int.add (.negSucc m) b) a b
/-- 'wrap', where nothing is to be done quickly seen -/
def wrapF (k : IntKind) (a : Int) : Int :=
  Int.rec (motive := fun _ => Int) (fun m => tf (Nat.blt m 128) (.ofNat m) (IntKind.rec (motive := fun _ => Int)
    (k.wrap (.ofNat m)) (k.wrap (.ofNat m)) (k.wrap (.ofNat m)) (tf (Nat.blt m 9223372036854775808) (.ofNat m) (k.wrap (.ofNat m)))
    (tf (Nat.blt m 256) (.ofNat m) (k.wrap (.ofNat m))) (k.wrap (.ofNat m)) (k.wrap (.ofNat m)) (k.wrap (.ofNat m)) k)) (fun m => k.wrap (.negSucc m)) a
theorem intEqF_eq (a b : Int) : intEqF a b = (a == b) := by
  cases a with
  | ofNat a => cases b with
    | ofNat b => show Nat.beq a b = _; rw [Bool.eq_iff_iff]; simp; omega
    | negSucc b => show false = _; rw [Bool.eq_iff_iff]; simp
  | negSucc a => cases b with
    | ofNat b => show false = _; rw [Bool.eq_iff_iff]; simp
    | negSucc b => show Nat.beq a b = _; rw [Bool.eq_iff_iff]; simp
theorem intLtF_eq (a b : Int) : intLtF a b = decide (a < b) := by
  cases a <;> cases b <;> rw [Bool.eq_iff_iff] <;> simp [intLtF, Nat.blt_eq] <;> omega
theorem intAddF_eq (a b : Int) : intAddF a b = a + b := by
  cases a <;> cases b <;> rfl
theorem wrapF_eq (k : IntKind) (a : Int) : wrapF k a = k.wrap a := by
  cases a with
  | negSucc m => rfl
  | ofNat m =>
    have h0 : ∀ j : Nat, Nat.blt m j = true → m < j := fun j h => by simpa [Nat.blt_eq] using h
    simp only [wrapF]
    cases h : Nat.blt m 128 with
    | true =>
      have := h0 _ h
      simp only [tf_true, Int.ofNat_eq_natCast]
      cases k <;> simp [IntKind.wrap, IntKind.bits, IntKind.signed] <;> omega
    | false =>
      cases k <;> simp only [tf_false]
      · cases h : Nat.blt m 9223372036854775808 with
        | true => have := h0 _ h; simp only [tf_true, Int.ofNat_eq_natCast, IntKind.wrap, IntKind.bits, IntKind.signed]; simp; omega
        | false => rfl
      · cases h : Nat.blt m 256 with
        | true => have := h0 _ h; simp only [tf_true, Int.ofNat_eq_natCast, IntKind.wrap, IntKind.bits, IntKind.signed]; simp; omega
        | false => rfl

/-- The n-th of a list. -/
def nthR {α : Type} (xs : List α) (n : Nat) : Option α := List.rec (motive := fun _ => Nat → Option α) (fun _ => none) (fun x _ ih n => Bool.rec (motive := fun _ => Option α) (ih (Nat.sub n 1)) (some x) (Nat.beq n 0)) xs n
@[simp] theorem nthR_eq {α : Type} : ∀ (xs : List α) (n : Nat), nthR xs n = xs[n]? := by
  intro xs
  induction xs with
  | nil => intro n; rfl
  | cons x xs ih =>
    intro n
    cases n with
    | zero => rfl
    | succ n => exact ih n

def dropR {α : Type} (n : Nat) (xs : List α) : List α := Nat.rec (motive := fun _ => List α → List α) (fun xs => xs) (fun _ ih xs => List.rec (motive := fun _ => List α) [] (fun _ r _ => ih r) xs) n xs
@[simp] theorem dropR_eq {α : Type} : ∀ (n : Nat) (xs : List α), dropR n xs = xs.drop n := by
  intro n
  induction n with
  | zero => intro xs; rfl
  | succ n ih =>
    intro xs
    cases xs with
    | nil => rfl
    | cons x xs => exact ih xs

def takeR {α : Type} (n : Nat) (xs : List α) : Option (List α) := Nat.rec (motive := fun _ => List α → Option (List α)) (fun _ => some [])
  (fun _ ih xs => List.rec (motive := fun _ => Option (List α)) none (fun x r _ => Option.rec (motive := fun _ => Option (List α)) none (fun l => some (x :: l)) (ih r)) xs) n xs
theorem takeR_eq {α : Type} : ∀ (n : Nat) (xs : List α), takeR n xs = if n ≤ xs.length then some (xs.take n) else none := by
  intro n
  induction n with
  | zero => intro xs; show some [] = _; simp
  | succ n ih =>
    intro xs
    cases xs with
    | nil => simp [takeR]
    | cons x xs =>
      show Option.rec (motive := fun _ => Option (List α)) none (fun l => some (x :: l)) (takeR n xs) = _
      rw [ih xs]
      by_cases h : n ≤ xs.length <;> simp [h]

def lenR {α : Type} (xs : List α) : Nat := List.rec (motive := fun _ => Nat) 0 (fun _ _ ih => Nat.succ ih) xs
@[simp] theorem lenR_eq {α : Type} : ∀ (xs : List α), lenR xs = xs.length := by
  intro xs
  induction xs with
  | nil => rfl
  | cons x xs ih => exact congrArg Nat.succ ih
end

def intBeq : Int → Int → Bool
  | .ofNat a, .ofNat b => Nat.beq a b
  | .negSucc a, .negSucc b => Nat.beq a b
  | _, _ => false

def natsBeq0 : List Nat → List Nat → Bool
  | [], [] => true
  | a :: x, b :: y => Nat.beq a b && natsBeq0 x y
  | _, _ => false

noncomputable def natsBeq (a b : List Nat) : Bool :=
  List.rec (motive := fun _ => List Nat → Bool) (fun b => List.rec (motive := fun _ => Bool) true (fun _ _ _ => false) b)
    (fun x _ ih b => List.rec (motive := fun _ => Bool) false (fun y r _ => Bool.rec (motive := fun _ => Bool) false (ih r) (Nat.beq x y)) b) a b
theorem natsBeq_eq : ∀ (a b : List Nat), natsBeq a b = natsBeq0 a b := by
  intro a
  induction a with
  | nil => intro b; cases b <;> rfl
  | cons x a ih =>
    intro b
    cases b with
    | nil => rfl
    | cons y b =>
      show Bool.rec (motive := fun _ => Bool) false (natsBeq a b) (Nat.beq x y) = (Nat.beq x y && natsBeq0 a b)
      rw [ih b]
      cases Nat.beq x y <;> rfl

def BinOp.code : BinOp → Nat
  | .add => 0 | .sub => 1 | .mul => 2 | .quo => 3 | .rem => 4 | .and => 5 | .or => 6 | .xor => 7 | .shl => 8 | .shr => 9 | .andNot => 10
  | .eql => 11 | .neq => 12 | .lss => 13 | .leq => 14 | .gtr => 15 | .geq => 16

def SRes.beq : SRes → SRes → Bool
  | .int a, .int b => intBeq a b
  | .bool a, .bool b => (a && b) || (!a && !b)
  | _, _ => false

def factsBeq : List SFact → List SFact → Bool
  | [], [] => true
  | a :: x, b :: y => Nat.beq (BinOp.code a.op) (BinOp.code b.op) && (Nat.beq (IntKind.code a.k2) (IntKind.code b.k2) && (intBeq a.c b.c && (SRes.beq a.r b.r && factsBeq x y)))
  | _, _ => false

noncomputable section
mutual
def VVal.beq : VVal → VVal → Bool
  | .sym k a, .sym l b => Nat.beq (IntKind.code k) (IntKind.code l) && factsBeq a b
  | .bool a, .bool b => (a && b) || (!a && !b)
  | .int k a, .int l b => Nat.beq (IntKind.code k) (IntKind.code l) && intBeq a b
  | .str a, .str b => natsBeq a b
  | .nilptr, .nilptr => true
  | .ptr a b c, .ptr d e f => Nat.beq a d && (Nat.beq b e && Nat.beq c f)
  | .rptr a, .rptr b => VVal.beqs a b
  | .nilslice, .nilslice => true
  | .slice a b c d e (some f), .slice g h i j k (some l) => Nat.beq a g && (Nat.beq b h && (Nat.beq c i && (Nat.beq d j && (Nat.beq e k && Nat.beq f l))))
  | .slice a b c d e none, .slice g h i j k none => Nat.beq a g && (Nat.beq b h && (Nat.beq c i && (Nat.beq d j && Nat.beq e k)))
  | .rslice a x, .rslice b y => Nat.beq a b && VVal.beqss x y
  | .nilmap, .nilmap => true
  | .map a, .map b => Nat.beq a b
  | .func f a b, .func g c d => Nat.beq f g && (VVal.beqs a c && VVal.beqs b d)
  | .nilfunc, .nilfunc => true
  | .iface t v, .iface u w => Nat.beq t u && VVal.beq v w
  | .niliface, .niliface => true
  | .agg a, .agg b => VVal.beqs a b
  | .tuple a, .tuple b => VVal.beqs a b
  | _, _ => false
def VVal.beqs : List VVal → List VVal → Bool
  | [], [] => true
  | a :: x, b :: y => VVal.beq a b && VVal.beqs x y
  | _, _ => false
def VVal.beqss : List (List VVal) → List (List VVal) → Bool
  | [], [] => true
  | a :: x, b :: y => VVal.beqs a b && VVal.beqss x y
  | _, _ => false
end

/-- A block: a row of cells (its element type; its version: an append makes a new one, the elder ones are neither read nor written any more), or a map (its entries; where their order is known: their stamps, and the next one). -/
inductive VObj where
  | cells (cs : List VVal) (elem : TypeId) (ver : Nat)
  | map (es : List (VVal × VVal)) (st : Option (List Nat × Nat))
  deriving Inhabited

/-- A tree of blocks by their numbers' bits. -/
inductive VTree where
  | leaf
  | node (o : Option VObj) (l r : VTree)
  deriving Inhabited

def VTree.get0 : VTree → Nat → Option VObj
  | .leaf, _ => none
  | .node o l r, k => if Nat.beq k 0 then o else if Nat.beq (k % 2) 1 then l.get0 (k / 2) else r.get0 (k / 2 - 1)

def VTree.put0 : (fuel : Nat) → VTree → Nat → VObj → VTree
  | 0, .leaf, _, x => .node (some x) .leaf .leaf
  | 0, .node _ l r, _, x => .node (some x) l r
  | n + 1, .leaf, k, x => if Nat.beq k 0 then .node (some x) .leaf .leaf else if Nat.beq (k % 2) 1 then .node none (VTree.put0 n .leaf (k / 2) x) .leaf else .node none .leaf (VTree.put0 n .leaf (k / 2 - 1) x)
  | n + 1, .node o l r, k, x => if Nat.beq k 0 then .node (some x) l r else if Nat.beq (k % 2) 1 then .node o (VTree.put0 n l (k / 2) x) r else .node o l (VTree.put0 n r (k / 2 - 1) x)

def VTree.get (t : VTree) (k : Nat) : Option VObj :=
  VTree.rec (motive := fun _ => Nat → Option VObj) (fun _ => none) (fun o _ _ l r k => Bool.rec (motive := fun _ => Option VObj) (Bool.rec (motive := fun _ => Option VObj) (r (Nat.sub (Nat.div k 2) 1)) (l (Nat.div k 2)) (Nat.beq (Nat.mod k 2) 1)) o (Nat.beq k 0)) t k

def VTree.put (n : Nat) (t : VTree) (k : Nat) (x : VObj) : VTree :=
  Nat.rec (motive := fun _ => VTree → Nat → VTree) (fun t _ => VTree.rec (motive := fun _ => VTree) (.node (some x) .leaf .leaf) (fun _ l r _ _ => .node (some x) l r) t)
    (fun _ ih t k => VTree.rec (motive := fun _ => VTree)
      (Bool.rec (motive := fun _ => VTree) (Bool.rec (motive := fun _ => VTree) (.node none .leaf (ih .leaf (Nat.sub (Nat.div k 2) 1))) (.node none (ih .leaf (Nat.div k 2)) .leaf) (Nat.beq (Nat.mod k 2) 1)) (.node (some x) .leaf .leaf) (Nat.beq k 0))
      (fun o l r _ _ => Bool.rec (motive := fun _ => VTree) (Bool.rec (motive := fun _ => VTree) (.node o l (ih r (Nat.sub (Nat.div k 2) 1))) (.node o (ih l (Nat.div k 2)) r) (Nat.beq (Nat.mod k 2) 1)) (.node (some x) l r) (Nat.beq k 0)) t) n t k

theorem VTree.get_eq0 : ∀ (t : VTree) (k : Nat), t.get k = t.get0 k := by
  intro t
  induction t with
  | leaf => intro k; rfl
  | node o l r ihl ihr =>
    intro k
    have e1 := ihl (k / 2)
    have e2 := ihr (k / 2 - 1)
    show Bool.rec (motive := fun _ => Option VObj) (Bool.rec (motive := fun _ => Option VObj) (r.get (k / 2 - 1)) (l.get (k / 2)) (Nat.beq (k % 2) 1)) o (Nat.beq k 0) = _
    rw [e1, e2]
    simp only [VTree.get0]
    cases Nat.beq k 0 <;> cases Nat.beq (k % 2) 1 <;> rfl

theorem VTree.put_eq0 : ∀ (n : Nat) (t : VTree) (k : Nat) (x : VObj), VTree.put n t k x = VTree.put0 n t k x := by
  intro n
  induction n with
  | zero => intro t k x; cases t <;> rfl
  | succ n ih =>
    intro t k x
    cases t with
    | leaf =>
      have e1 := ih .leaf (k / 2) x
      have e2 := ih .leaf (k / 2 - 1) x
      show Bool.rec (motive := fun _ => VTree) (Bool.rec (motive := fun _ => VTree) (.node none .leaf (VTree.put n .leaf (k / 2 - 1) x)) (.node none (VTree.put n .leaf (k / 2) x) .leaf) (Nat.beq (k % 2) 1)) (.node (some x) .leaf .leaf) (Nat.beq k 0) = _
      rw [e1, e2]
      simp only [VTree.put0]
      cases Nat.beq k 0 <;> cases Nat.beq (k % 2) 1 <;> rfl
    | node o l r =>
      have e1 := ih l (k / 2) x
      have e2 := ih r (k / 2 - 1) x
      show Bool.rec (motive := fun _ => VTree) (Bool.rec (motive := fun _ => VTree) (.node o l (VTree.put n r (k / 2 - 1) x)) (.node o (VTree.put n l (k / 2) x) r) (Nat.beq (k % 2) 1)) (.node (some x) l r) (Nat.beq k 0) = _
      rw [e1, e2]
      simp only [VTree.put0]
      cases Nat.beq k 0 <;> cases Nat.beq (k % 2) 1 <;> rfl

structure VHeap where
  size : Nat
  tree : VTree
  deriving Inhabited

def VHeap.empty : VHeap := ⟨0, .leaf⟩
def VHeap.get (h : VHeap) (b : Nat) : Option VObj := tf (Nat.blt b h.size) (h.tree.get b) none
def VHeap.set (h : VHeap) (b : Nat) (o : VObj) : VHeap := if Nat.blt b h.size then ⟨h.size, h.tree.put b b o⟩ else h
def VHeap.new (h : VHeap) (o : VObj) : VHeap := ⟨h.size + 1, h.tree.put h.size h.size o⟩

/-- n cells of a list from a place on. -/
def cut (xs : List VVal) (o n : Nat) : Option (List VVal) := takeR n (dropR o xs)

def layAt (ys xs : List VVal) : Option (List VVal) :=
  List.rec (motive := fun _ => List VVal → Option (List VVal)) (fun xs => some xs)
    (fun y _ ih xs => List.rec (motive := fun _ => Option (List VVal)) none (fun _ r _ => Option.rec (motive := fun _ => Option (List VVal)) none (fun l => some (y :: l)) (ih r)) xs) ys xs

/-- A list with others written over it from a place on. -/
def lay (xs : List VVal) (o : Nat) (ys : List VVal) : Option (List VVal) :=
  List.rec (motive := fun _ => Option (List VVal)) (some xs) (fun _ _ _ =>
    Nat.rec (motive := fun _ => List VVal → Option (List VVal)) (layAt ys)
      (fun _ ih xs => List.rec (motive := fun _ => Option (List VVal)) none (fun x r _ => Option.rec (motive := fun _ => Option (List VVal)) none (fun l => some (x :: l)) (ih r)) xs) o xs) ys

def cut0 : List VVal → Nat → Nat → Option (List VVal)
  | _, _, 0 => some []
  | [], _, _ + 1 => none
  | x :: xs, 0, n + 1 => match cut0 xs 0 n with | some r => some (x :: r) | none => none
  | _ :: xs, o + 1, n + 1 => cut0 xs o (n + 1)

def lay0 : List VVal → Nat → List VVal → Option (List VVal)
  | xs, _, [] => some xs
  | [], _, _ :: _ => none
  | _ :: xs, 0, y :: ys => match lay0 xs 0 ys with | some r => some (y :: r) | none => none
  | x :: xs, o + 1, y :: ys => match lay0 xs o (y :: ys) with | some r => some (x :: r) | none => none

theorem cut_eq0 : ∀ (xs : List VVal) (o n : Nat), cut xs o n = cut0 xs o n := by
  have h0 : ∀ (n : Nat) (xs : List VVal), takeR n xs = cut0 xs 0 n := by
    intro n
    induction n with
    | zero => intro xs; show some [] = _; cases xs <;> simp [cut0]
    | succ n ih =>
      intro xs
      cases xs with
      | nil => simp [takeR, cut0]
      | cons x xs =>
        show Option.rec (motive := fun _ => Option (List VVal)) none (fun l => some (x :: l)) (takeR n xs) = _
        rw [ih xs]
        simp only [cut0]
        cases cut0 xs 0 n <;> rfl
  intro xs o n
  unfold cut
  induction o generalizing xs with
  | zero => exact h0 n xs
  | succ o ih =>
    cases xs with
    | nil =>
      show takeR n [] = _
      rw [h0]
      cases n <;> simp [cut0]
    | cons x xs =>
      show takeR n (dropR o xs) = _
      rw [ih]
      cases n with
      | zero => cases xs <;> simp [cut0]
      | succ n => simp [cut0]

theorem lay_eq0 : ∀ (xs : List VVal) (o : Nat) (ys : List VVal), lay xs o ys = lay0 xs o ys := by
  have h0 : ∀ (ys xs : List VVal), layAt ys xs = lay0 xs 0 ys := by
    intro ys
    induction ys with
    | nil => intro xs; cases xs <;> simp [layAt, lay0]
    | cons y ys ih =>
      intro xs
      cases xs with
      | nil => simp [layAt, lay0]
      | cons x xs =>
        show Option.rec (motive := fun _ => Option (List VVal)) none (fun l => some (y :: l)) (layAt ys xs) = _
        rw [ih xs]
        simp only [lay0]
        cases lay0 xs 0 ys <;> rfl
  intro xs o ys
  cases ys with
  | nil => cases xs <;> simp [lay, lay0]
  | cons y ys =>
    show Nat.rec (motive := fun _ => List VVal → Option (List VVal)) (layAt (y :: ys))
      (fun _ ih xs => List.rec (motive := fun _ => Option (List VVal)) none (fun x r _ => Option.rec (motive := fun _ => Option (List VVal)) none (fun l => some (x :: l)) (ih r)) xs) o xs = _
    induction o generalizing xs with
    | zero => exact h0 _ _
    | succ o ih =>
      cases xs with
      | nil => simp [lay0]
      | cons x xs =>
        simp only [lay0]
        rw [← ih xs]
        show Option.rec (motive := fun _ => Option (List VVal)) none (fun l => some (x :: l)) (Nat.rec (motive := fun _ => List VVal → Option (List VVal)) (layAt (y :: ys)) _ o xs) = _
        cases (Nat.rec (motive := fun _ => List VVal → Option (List VVal)) (layAt (y :: ys)) (fun _ ih xs => List.rec (motive := fun _ => Option (List VVal)) none (fun x r _ => Option.rec (motive := fun _ => Option (List VVal)) none (fun l => some (x :: l)) (ih r)) xs) o xs : Option (List VVal)) <;> rfl

/-- n cells from an address on. -/
def VHeap.load (h : VHeap) (p : VVal) (n : Nat) : Option (List VVal) :=
  match p with
  | .rptr cs => cut cs 0 n
  | .ptr b v off =>
    match h.get b with
    | some (.cells cs _ ver) => if Nat.beq v ver then cut cs off n else none
    | _ => none
  | _ => none

/-- One cell. -/
def VVal.onPtr {α : Type} (d : α) (f : Nat → Nat → Nat → α) (g : List VVal → α) (x : VVal) : α :=
  VVal.rec (motive_1 := fun _ => α) (motive_2 := fun _ => Unit) (motive_3 := fun _ => Unit) (fun _ => d) (fun _ _ => d) (fun _ _ => d) (fun _ => d) d f (fun cs _ => g cs) d (fun _ _ _ _ _ _ => d) (fun _ _ _ => d) d (fun _ => d) (fun _ _ _ _ _ => d) d (fun _ _ _ => d) d (fun _ _ => d) (fun _ _ => d) d (fun _ _ => d) () (fun _ _ _ _ => ()) () (fun _ _ _ _ => ()) x
def VVal.onInt {α : Type} (d : α) (s : IntKind → List SFact → α) (f : IntKind → Int → α) (x : VVal) : α :=
  VVal.rec (motive_1 := fun _ => α) (motive_2 := fun _ => Unit) (motive_3 := fun _ => Unit) (fun _ => d) f s (fun _ => d) d (fun _ _ _ => d) (fun _ _ => d) d (fun _ _ _ _ _ _ => d) (fun _ _ _ => d) d (fun _ => d) (fun _ _ _ _ _ => d) d (fun _ _ _ => d) d (fun _ _ => d) (fun _ _ => d) d (fun _ _ => d) () (fun _ _ _ _ => ()) () (fun _ _ _ _ => ()) x
def VVal.onStr {α : Type} (d : α) (f : List Nat → α) (x : VVal) : α :=
  VVal.rec (motive_1 := fun _ => α) (motive_2 := fun _ => Unit) (motive_3 := fun _ => Unit) (fun _ => d) (fun _ _ => d) (fun _ _ => d) f d (fun _ _ _ => d) (fun _ _ => d) d (fun _ _ _ _ _ _ => d) (fun _ _ _ => d) d (fun _ => d) (fun _ _ _ _ _ => d) d (fun _ _ _ => d) d (fun _ _ => d) (fun _ _ => d) d (fun _ _ => d) () (fun _ _ _ _ => ()) () (fun _ _ _ _ => ()) x
def VVal.onBool {α : Type} (d : α) (f : Bool → α) (u : α) (x : VVal) : α :=
  VVal.rec (motive_1 := fun _ => α) (motive_2 := fun _ => Unit) (motive_3 := fun _ => Unit) f (fun _ _ => d) (fun _ _ => d) (fun _ => d) d (fun _ _ _ => d) (fun _ _ => d) d (fun _ _ _ _ _ _ => d) (fun _ _ _ => d) d (fun _ => d) (fun _ _ _ _ _ => d) d (fun _ _ _ => d) d (fun _ _ => d) (fun l _ => List.rec (motive := fun _ => α) u (fun _ _ _ => d) l) d (fun _ _ => d) () (fun _ _ _ _ => ()) () (fun _ _ _ _ => ()) x
def VVal.onAgg {α : Type} (d : α) (f : List VVal → α) (x : VVal) : α :=
  VVal.rec (motive_1 := fun _ => α) (motive_2 := fun _ => Unit) (motive_3 := fun _ => Unit) (fun _ => d) (fun _ _ => d) (fun _ _ => d) (fun _ => d) d (fun _ _ _ => d) (fun _ _ => d) d (fun _ _ _ _ _ _ => d) (fun _ _ _ => d) d (fun _ => d) (fun _ _ _ _ _ => d) d (fun _ _ _ => d) d (fun cs _ => f cs) (fun _ _ => d) d (fun _ _ => d) () (fun _ _ _ _ => ()) () (fun _ _ _ _ => ()) x

/-- The cells of a block, of the version that is asked for. -/
def VHeap.row (h : VHeap) (b v : Nat) : Option (List VVal) :=
  Option.rec (motive := fun _ => Option (List VVal)) none (fun o => VObj.rec (motive := fun _ => Option (List VVal)) (fun cs _ ver => tf (Nat.beq v ver) (some cs) none) (fun _ _ => none) o) (h.get b)

def VHeap.load1 (h : VHeap) (p : VVal) : Option VVal :=
  VVal.onPtr none (fun b v off => Option.rec (motive := fun _ => Option VVal) none (fun cs => nthR cs off) (h.row b v)) (fun cs => nthR cs 0) p

def VHeap.loadA (h : VHeap) (sz : Nat) (p : VVal) : Option VVal :=
  VVal.onPtr none (fun b v off => Option.rec (motive := fun _ => Option VVal) none (fun cs => Option.rec (motive := fun _ => Option VVal) none (fun r => some (.agg r)) (cut cs off sz)) (h.row b v)) (fun cs => Option.rec (motive := fun _ => Option VVal) none (fun r => some (.agg r)) (cut cs 0 sz)) p

theorem VHeap.row_eq (h : VHeap) (b v : Nat) : h.row b v = match h.get b with | some (.cells cs _ ver) => if Nat.beq v ver then some cs else none | _ => none := by
  unfold VHeap.row
  cases h.get b with
  | none => rfl
  | some o => cases o with
    | cells cs e ver => show tf (Nat.beq v ver) _ _ = _; rw [tf_ite]
    | map es st => rfl

theorem cut_one (cs : List VVal) (off : Nat) : cut cs off 1 = match cs[off]? with | some v => some [v] | none => none := by
  unfold cut
  rw [dropR_eq, takeR_eq]
  cases h : cs[off]? with
  | none =>
    rw [List.getElem?_eq_none_iff] at h
    simp; omega
  | some v =>
    obtain ⟨hl, hv⟩ := List.getElem?_eq_some_iff.1 h
    rw [List.drop_eq_getElem_cons hl]
    simp [hv]

theorem VHeap.load1_eq (h : VHeap) (p : VVal) : h.load1 p = match h.load p 1 with | some [v] => some v | _ => none := by
  cases p <;> try rfl
  case ptr b v off =>
    show Option.rec (motive := fun _ => Option VVal) none (fun cs => nthR cs off) (h.row b v) = _
    rw [VHeap.row_eq]
    simp only [VHeap.load]
    cases h.get b with
    | none => rfl
    | some o => cases o with
      | map es st => rfl
      | cells cs e ver =>
        simp only
        split
        · show nthR cs off = _; rw [cut_one, nthR_eq]; cases cs[off]? <;> rfl
        · rfl
  case rptr cs =>
    show nthR cs 0 = _
    simp only [VHeap.load]
    rw [cut_one, nthR_eq]; cases cs[0]? <;> rfl

theorem VHeap.loadA_eq (h : VHeap) (sz : Nat) (p : VVal) : h.loadA sz p = match h.load p sz with | some cs => some (.agg cs) | none => none := by
  cases p <;> try rfl
  case ptr b v off =>
    show Option.rec (motive := fun _ => Option VVal) none (fun cs => Option.rec (motive := fun _ => Option VVal) none (fun r => some (.agg r)) (cut cs off sz)) (h.row b v) = _
    rw [VHeap.row_eq]
    simp only [VHeap.load]
    cases h.get b with
    | none => rfl
    | some o => cases o with
      | map es st => rfl
      | cells cs e ver =>
        simp only
        split
        · show Option.rec (motive := fun _ => Option VVal) none (fun r => some (.agg r)) (cut cs off sz) = _; cases cut cs off sz <;> rfl
        · rfl
  case rptr cs =>
    show Option.rec (motive := fun _ => Option VVal) none (fun r => some (.agg r)) (cut cs 0 sz) = _
    simp only [VHeap.load]
    cases cut cs 0 sz <;> rfl

def VHeap.store (h : VHeap) (p : VVal) (xs : List VVal) : Option VHeap :=
  match p with
  | .ptr b v off =>
    match h.get b with
    | some (.cells cs e ver) =>
      if Nat.beq v ver then
        match lay cs off xs with
        | some cs' => some (h.set b (.cells cs' e ver))
        | none => none
      else none
    | _ => none
  | _ => none

/-- A variable's value, out of its cells. -/
def asValue (agg : Bool) (cs : List VVal) : Option VVal :=
  match agg, cs with
  | true, cs => some (.agg cs)
  | false, [v] => some v
  | false, _ => none

inductive VOpd where
  | tmp (t : Nat)
  | const (v : VVal)
  deriving Inhabited

inductive VTag where
  | bool | int | str | ptr | slice | map | func | iface
  deriving DecidableEq, Inhabited

/-- How two values of a type are compared. -/
inductive VEq where
  | flat (t : VTag)
  | struct (fs : List (Nat × Nat × Bool × VEq))     -- offset, size, an aggregate?
  deriving Inhabited

inductive VOp where
  | move (x : VOpd)
  | assign (x : VOpd)
  | pick (c a b : VOpd)
  | box (elem : TypeId) (x : VOpd)
  | build (zero : List VVal) (parts : List (Nat × Nat × VOpd))
  | buildSlice (elem : TypeId) (sz len : Nat) (zeros : List VVal) (parts : List (Nat × Nat × VOpd))
  | load (agg : Bool) (sz : Nat) (a : VOpd)
  | store (sz : Nat) (a x : VOpd)
  | nilCheck (x : VOpd)
  | bin (op : BinOp) (q : VEq) (x y : VOpd)
  | un (op : UnOp) (x : VOpd)
  | convInt (k : IntKind) (x : VOpd)
  | convSame (x : VOpd)
  | toBytes (elem : TypeId) (x : VOpd)
  | ofBytes (x : VOpd)
  | mkIface (t : TypeId) (x : VOpd)
  | mkFunc (f : FuncId) (first captured : List VOpd)
  | mkMap
  | mkSlice (elem : TypeId) (sz bytes : Nat) (zero : List VVal) (len cap : VOpd)
  | sliceStr (x : VOpd) (lo hi : Option VOpd)
  | slice (sz : Nat) (x : VOpd) (lo hi mx : Option VOpd)
  | sliceArr (n sz : Nat) (x : VOpd) (lo hi mx : Option VOpd)
  | fieldAddr (off : Nat) (x : VOpd)
  | field (agg : Bool) (sz off : Nat) (x : VOpd)
  | indexAddr (arr : Option Nat) (sz : Nat) (x i : VOpd)
  | indexStr (x i : VOpd)
  | indexArr (len : Nat) (agg : Bool) (sz : Nat) (x i : VOpd)
  | lookup (g : VTag) (zero : VVal) (m k : VOpd) (ok : Bool)
  | mapUpdate (g : VTag) (m k x : VOpd)
  | mapEntry (g : VTag) (zero : VVal) (m k : VOpd)
  | entryStore (m s x : VOpd)
  | typeAssert (asserted : TypeId) (zero : VVal) (x : VOpd) (ok : Bool)
  | extract (x : VOpd) (i : Nat)
  | len (g : VTag) (x : VOpd)
  | lenArr (n : Nat)
  | append (elem : TypeId) (sz bytes : Nat) (zeros : Option (List VVal)) (x y : VOpd)
  | copy (sz : Nat) (x y : VOpd)
  | minmax (max : Bool) (xs : List VOpd)
  | delete (g : VTag) (m k : VOpd)
  | call (f : VOpd) (args : List VOpd)
  | callF (f : FuncId) (args : List VOpd)
  | panic (x : VOpd)
  | fail
  deriving Inhabited

inductive VKind where
  | read | fresh | write | call | panic
  deriving DecidableEq, Inhabited

def VOp.kind : VOp → VKind
  | .box .. | .buildSlice .. | .toBytes .. | .mkMap | .mkSlice .. => .fresh
  | .store .. | .mapUpdate .. | .mapEntry .. | .entryStore .. | .append .. | .copy .. | .delete .. => .write
  | .call .. | .callF .. => .call
  | .panic _ => .panic
  | _ => .read

structure VOper where
  dst : Option Nat
  op : VOp
  guard : Option (Nat × Bool)       -- the temporary that says yes or no
  chk : List Nat                    -- what is not ordered with this one, stands ahead, and must not clash
  reads : List Nat                  -- the temporaries that it looks at (in a drawn region)
  deriving Inhabited

inductive VCode where
  | skip
  | region (draw : Bool) (ops : List VOper)
  | seq (a b : VCode)
  | cond (c : VOpd) (thn els : VCode)
  | block (id : Nat) (body : VCode)
  | loop (body : VCode)
  | exit (id : Nat)
  | ret
  | fail
  deriving Inhabited

inductive VResult where
  | tmp (t : Nat)
  | cell (a : Nat) (agg : Bool) (sz : Nat)
  deriving Inhabited

structure VFunc where
  ntmps : Nat
  results : List VResult
  body : VCode
  deriving Inhabited

/- ---------------------------------------------------------------- what operations do -/

def tmpAt : List VVal → Nat → VVal
  | [], _ => .undef
  | x :: _, 0 => x
  | _ :: xs, n + 1 => tmpAt xs n

def tmpPut : List VVal → Nat → VVal → List VVal
  | [], _, _ => []
  | _ :: xs, 0, v => v :: xs
  | x :: xs, n + 1, v => x :: tmpPut xs n v

def VOpd.ev (ts : List VVal) : VOpd → VVal
  | .tmp t => tmpAt ts t
  | .const v => v

def putDst (ts : List VVal) (d : Option Nat) (v : VVal) : List VVal :=
  match d with
  | some t => tmpPut ts t v
  | none => ts

def wantedV (g : Option (Nat × Bool)) (ts : List VVal) : Bool :=
  match g with
  | none => true
  | some (t, want) => match tmpAt ts t with
    | .bool b => if b then want else !want
    | _ => false

/-- Is a test of the guard sure to be known? (a poisoned one is not) -/
def guardKnown (g : Option (Nat × Bool)) (ts : List VVal) : Bool :=
  match g with
  | none => true
  | some (t, _) => match tmpAt ts t with
    | .bool _ => true
    | .tuple [] => true
    | _ => false

def intOp (op : BinOp) (k : IntKind) (x y : Int) : Option VVal :=
  match op with
  | .add => some (.int k (k.wrap (x + y)))
  | .sub => some (.int k (k.wrap (x - y)))
  | .mul => some (.int k (k.wrap (x * y)))
  | .quo => if y = 0 then none else some (.int k (k.wrap (x.tdiv y)))
  | .rem => if y = 0 then none else some (.int k (x.tmod y))
  | .and => some (.int k (k.wrap (BitVec.ofInt k.bits x &&& BitVec.ofInt k.bits y).toNat))
  | .or => some (.int k (k.wrap (BitVec.ofInt k.bits x ||| BitVec.ofInt k.bits y).toNat))
  | .xor => some (.int k (k.wrap (BitVec.ofInt k.bits x ^^^ BitVec.ofInt k.bits y).toNat))
  | .andNot => some (.int k (k.wrap (BitVec.ofInt k.bits x &&& ~~~ BitVec.ofInt k.bits y).toNat))
  | .eql => some (.bool (x == y))
  | .neq => some (.bool (x != y))
  | .lss => some (.bool (x < y))
  | .leq => some (.bool (x ≤ y))
  | .gtr => some (.bool (x > y))
  | .geq => some (.bool (x ≥ y))
  | _ => none

def shiftOp (op : BinOp) (k : IntKind) (x y : Int) : Option VVal :=
  if y < 0 then none else
  match op with
  | .shl => some (.int k (k.wrap (x * 2 ^ min y.toNat k.bits)))
  | .shr => some (.int k (x.fdiv (2 ^ min y.toNat k.bits)))
  | _ => none

def natsLess : List Nat → List Nat → Bool
  | _, [] => false
  | [], _ :: _ => true
  | a :: x, b :: y => Nat.blt a b || (Nat.beq a b && natsLess x y)

def strOp (op : BinOp) (x y : List Nat) : Option VVal :=
  match op with
  | .add => if Nat.ble (x.length + y.length) 9223372036854775807 then some (.str (x ++ y)) else none
  | .eql => some (.bool (natsBeq x y))
  | .neq => some (.bool !(natsBeq x y))
  | .lss => some (.bool (natsLess x y))
  | .leq => some (.bool (natsLess x y || natsBeq x y))
  | .gtr => some (.bool !(natsLess x y || natsBeq x y))
  | .geq => some (.bool !(natsLess x y))
  | _ => none

def eqFlat : VTag → VVal → VVal → Option Bool
  | .bool, .bool a, .bool b => some (a == b)
  | .int, .int k a, .int l b => if Nat.beq (IntKind.code k) (IntKind.code l) then some (a == b) else none
  | .str, .str a, .str b => some (natsBeq a b)
  | .ptr, .nilptr, .nilptr => some true
  | .ptr, .nilptr, .ptr .. | .ptr, .ptr .., .nilptr | .ptr, .nilptr, .rptr _ | .ptr, .rptr _, .nilptr => some false
  | .slice, .nilslice, .nilslice => some true
  | .slice, .nilslice, .slice .. | .slice, .slice .., .nilslice => some false
  | .slice, .nilslice, .rslice _ (_ :: _) | .slice, .rslice _ (_ :: _), .nilslice => some false
  | .map, .nilmap, .nilmap => some true
  | .map, .nilmap, .map _ | .map, .map _, .nilmap => some false
  | .func, .nilfunc, .nilfunc => some true
  | .func, .nilfunc, .func .. | .func, .func .., .nilfunc => some false
  | .iface, .niliface, .niliface => some true
  | .iface, .niliface, .iface .. | .iface, .iface .., .niliface => some false
  | _, _, _ => none

def partOf (agg : Bool) (sz : Nat) (cs : List VVal) (off : Nat) : Option VVal :=
  match agg with
  | true => Option.rec (motive := fun _ => Option VVal) none (fun r => some (.agg r)) (cut cs off sz)
  | false => nthR cs off

theorem partOf_eq0 (agg : Bool) (sz : Nat) (cs : List VVal) (off : Nat) : partOf agg sz cs off =
    if agg then (match cut cs off sz with | some r => some (.agg r) | none => none) else match cut cs off 1 with | some [v] => some v | _ => none := by
  cases agg
  · show nthR cs off = _
    simp only [Bool.false_eq_true, if_false]
    rw [cut_one, nthR_eq]; cases cs[off]? <;> rfl
  · show Option.rec (motive := fun _ => Option VVal) none (fun r => some (.agg r)) (cut cs off sz) = _
    simp only [if_true]
    cases cut cs off sz <;> rfl

mutual
def VEq.test : VEq → VVal → VVal → Option Bool
  | .flat t, x, y => eqFlat t x y
  | .struct fs, .agg xs, .agg ys => VEq.tests fs xs ys
  | .struct _, _, _ => none
def VEq.tests : List (Nat × Nat × Bool × VEq) → List VVal → List VVal → Option Bool
  | [], _, _ => some true
  | (off, sz, agg, q) :: r, xs, ys =>
    match partOf agg sz xs off, partOf agg sz ys off with
    | some a, some b => (match VEq.test q a b with
      | some true => VEq.tests r xs ys
      | some false => some false
      | none => none)
    | _, _ => none
end

def SRes.val (k : IntKind) : SRes → VVal
  | .int n => .int k n
  | .bool b => .bool b

def symOp (k : IntKind) (op : BinOp) (l : IntKind) (b : Int) : List SFact → Option VVal
  | [] => none
  | f :: r => if Nat.beq (BinOp.code op) (BinOp.code f.op) && (Nat.beq (IntKind.code l) (IntKind.code f.k2) && intBeq b f.c) then some (f.r.val k) else symOp k op l b r

def binV0 (op : BinOp) (q : VEq) (x y : VVal) : Option VVal :=
  match op, x, y with
  | op, .sym k facts, .int l b => symOp k op l b facts
  | .shl, .int k a, .int _ b | .shr, .int k a, .int _ b => shiftOp op k a b
  | _, .int k a, .int l b => if Nat.beq (IntKind.code k) (IntKind.code l) then intOp op k a b else none
  | _, .str a, .str b => strOp op a b
  | .eql, x, y => match q.test x y with | some b => some (.bool b) | none => none
  | .neq, x, y => match q.test x y with | some b => some (.bool !b) | none => none
  | _, _, _ => none

/- The commonest, each by itself. -/
def eqI (x y : VVal) : Option VVal := VVal.onInt (binV0 .eql (.flat .int) x y) (fun _ _ => binV0 .eql (.flat .int) x y) (fun k a => VVal.onInt none (fun _ _ => none) (fun l b => tf (kindEq k l) (some (.bool (intEqF a b))) none) y) x
def neI (x y : VVal) : Option VVal := VVal.onInt (binV0 .neq (.flat .int) x y) (fun _ _ => binV0 .neq (.flat .int) x y) (fun k a => VVal.onInt none (fun _ _ => none) (fun l b => tf (kindEq k l) (some (.bool (Bool.not (intEqF a b)))) none) y) x
def eqS (x y : VVal) : Option VVal := VVal.onStr (binV0 .eql (.flat .str) x y) (fun a => VVal.onStr none (fun b => some (.bool (natsBeq a b))) y) x
def neS (x y : VVal) : Option VVal := VVal.onStr (binV0 .neq (.flat .str) x y) (fun a => VVal.onStr none (fun b => some (.bool (Bool.not (natsBeq a b)))) y) x
def ltI (x y : VVal) : Option VVal := VVal.onInt (binV0 .lss (.flat .int) x y) (fun _ _ => binV0 .lss (.flat .int) x y) (fun k a => VVal.onInt none (fun _ _ => none) (fun l b => tf (kindEq k l) (some (.bool (intLtF a b))) none) y) x
def gtI (x y : VVal) : Option VVal := VVal.onInt (binV0 .gtr (.flat .int) x y) (fun _ _ => binV0 .gtr (.flat .int) x y) (fun k a => VVal.onInt none (fun _ _ => none) (fun l b => tf (kindEq k l) (some (.bool (intLtF b a))) none) y) x
def leI (x y : VVal) : Option VVal := VVal.onInt (binV0 .leq (.flat .int) x y) (fun _ _ => binV0 .leq (.flat .int) x y) (fun k a => VVal.onInt none (fun _ _ => none) (fun l b => tf (kindEq k l) (some (.bool (Bool.not (intLtF b a)))) none) y) x
def geI (x y : VVal) : Option VVal := VVal.onInt (binV0 .geq (.flat .int) x y) (fun _ _ => binV0 .geq (.flat .int) x y) (fun k a => VVal.onInt none (fun _ _ => none) (fun l b => tf (kindEq k l) (some (.bool (Bool.not (intLtF a b)))) none) y) x
def addI (x y : VVal) : Option VVal := VVal.onInt (binV0 .add (.flat .int) x y) (fun _ _ => binV0 .add (.flat .int) x y) (fun k a => VVal.onInt none (fun _ _ => none) (fun l b => tf (kindEq k l) (some (.int k (wrapF k (intAddF a b)))) none) y) x
def subI (x y : VVal) : Option VVal := VVal.onInt (binV0 .sub (.flat .int) x y) (fun _ _ => binV0 .sub (.flat .int) x y) (fun k a => VVal.onInt none (fun _ _ => none) (fun l b => tf (kindEq k l) (some (.int k (wrapF k (Int.sub a b)))) none) y) x

def binV (op : BinOp) (q : VEq) (x y : VVal) : Option VVal :=
  match op with
  | .eql => (match q with
    | .flat t => (match t with
      | .int => eqI x y
      | .str => eqS x y
      | t => binV0 .eql (.flat t) x y)
    | .struct l => binV0 .eql (.struct l) x y)
  | .neq => (match q with
    | .flat t => (match t with
      | .int => neI x y
      | .str => neS x y
      | t => binV0 .neq (.flat t) x y)
    | .struct l => binV0 .neq (.struct l) x y)
  | .lss => ltI x y
  | .gtr => gtI x y
  | .leq => leI x y
  | .geq => geI x y
  | .add => addI x y
  | .sub => subI x y
  | op => binV0 op q x y

theorem binV_eq (op : BinOp) (q : VEq) (x y : VVal) : binV op q x y = binV0 op q x y := by
  have kk : ∀ {α : Type} (k l : IntKind) (a b : α), tf (kindEq k l) a b = if Nat.beq (IntKind.code k) (IntKind.code l) then a else b := fun k l a b => by rw [kindEq_eq, tf_ite]
  have h1 : eqI x y = binV0 .eql (.flat .int) x y := by
    cases x <;> try rfl
    case int k a =>
      cases y <;> try rfl
      case int l b => show tf (kindEq k l) _ _ = _; rw [kk, intEqF_eq]; rfl
  have h2 : neI x y = binV0 .neq (.flat .int) x y := by
    cases x <;> try rfl
    case int k a =>
      cases y <;> try rfl
      case int l b => show tf (kindEq k l) _ _ = _; rw [kk, intEqF_eq]; rfl
  have h3 : eqS x y = binV0 .eql (.flat .str) x y := by
    cases x <;> try rfl
    case str a => cases y <;> rfl
  have h4 : neS x y = binV0 .neq (.flat .str) x y := by
    cases x <;> try rfl
    case str a => cases y <;> rfl
  have h5 : ltI x y = binV0 .lss q x y := by
    cases x <;> try rfl
    case sym k a => cases y <;> rfl
    case str a => cases y <;> rfl
    case int k a =>
      cases y <;> try rfl
      case int l b => show tf (kindEq k l) _ _ = _; rw [kk, intLtF_eq]; rfl
  have h6 : gtI x y = binV0 .gtr q x y := by
    cases x <;> try rfl
    case sym k a => cases y <;> rfl
    case str a => cases y <;> rfl
    case int k a =>
      cases y <;> try rfl
      case int l b => show tf (kindEq k l) _ _ = _; rw [kk, intLtF_eq]; rfl
  have h7 : leI x y = binV0 .leq q x y := by
    cases x <;> try rfl
    case sym k a => cases y <;> rfl
    case str a => cases y <;> rfl
    case int k a =>
      cases y <;> try rfl
      case int l b =>
        show tf (kindEq k l) _ _ = _
        rw [kk, intLtF_eq]
        have : (Bool.not (decide (b < a))) = decide (a ≤ b) := by rw [Bool.eq_iff_iff]; simp
        rw [this]; rfl
  have h8 : geI x y = binV0 .geq q x y := by
    cases x <;> try rfl
    case sym k a => cases y <;> rfl
    case str a => cases y <;> rfl
    case int k a =>
      cases y <;> try rfl
      case int l b =>
        show tf (kindEq k l) _ _ = _
        rw [kk, intLtF_eq]
        have : (Bool.not (decide (a < b))) = decide (a ≥ b) := by rw [Bool.eq_iff_iff]; simp
        rw [this]; rfl
  have h9 : addI x y = binV0 .add q x y := by
    cases x <;> try rfl
    case sym k a => cases y <;> rfl
    case str a => cases y <;> rfl
    case int k a =>
      cases y <;> try rfl
      case int l b => show tf (kindEq k l) _ _ = _; rw [kk, intAddF_eq, wrapF_eq]; rfl
  have h10 : subI x y = binV0 .sub q x y := by
    cases x <;> try rfl
    case sym k a => cases y <;> rfl
    case str a => cases y <;> rfl
    case int k a =>
      cases y <;> try rfl
      case int l b => show tf (kindEq k l) _ _ = _; rw [kk, wrapF_eq]; rfl
  cases op <;> first | exact h5 | exact h6 | exact h7 | exact h8 | exact h9 | exact h10 | rfl | skip
  · cases q with
    | struct l => rfl
    | flat t => cases t <;> first | exact h1 | exact h3 | rfl
  · cases q with
    | struct l => rfl
    | flat t => cases t <;> first | exact h2 | exact h4 | rfl

def unV0 (op : UnOp) (x : VVal) : Option VVal :=
  match op, x with
  | .neg, .int k n => intOp .sub k 0 n
  | .xor, .int k n => intOp .xor k (if k.signed then -1 else k.max) n
  | .not, .bool b => some (.bool !b)
  | _, _ => none

def unV (op : UnOp) (x : VVal) : Option VVal :=
  match op with
  | .not => VVal.onBool none (fun b => some (.bool (Bool.not b))) none x
  | op => unV0 op x
theorem unV_eq (op : UnOp) (x : VVal) : unV op x = unV0 op x := by
  cases op <;> try rfl
  cases x <;> try rfl
  case tuple l => cases l <;> rfl

def VVal.whole : VVal → Bool
  | .poison => false
  | _ => true

/-- A part of a list of cells, filled in. -/
def fillV (cells : List VVal) : List (Nat × Nat × VVal) → Option (List VVal)
  | [] => some cells
  | (off, sz, v) :: r => if Nat.beq v.cells.length sz && (Nat.blt 0 sz && v.whole) then (match lay cells off v.cells with | some cs => fillV cs r | none => none) else none

def evParts (ts : List VVal) : List (Nat × Nat × VOpd) → List (Nat × Nat × VVal)
  | [] => []
  | (o, s, x) :: r => (o, s, x.ev ts) :: evParts ts r

def evs (ts : List VVal) : List VOpd → List VVal
  | [] => []
  | x :: r => x.ev ts :: evs ts r

def asIdx : VVal → Option Int
  | .int _ n => some n
  | _ => none

def inRange (i : Int) (n : Nat) : Option Nat :=
  match i with
  | .ofNat k => if Nat.blt k n then some k else none
  | .negSucc _ => none

def natOf (i : Int) (most : Nat) : Option Nat :=
  match i with
  | .ofNat k => if Nat.ble k most then some k else none
  | .negSucc _ => none

def bound (ts : List VVal) (o : Option VOpd) (dflt most : Nat) : Option Nat :=
  match o with
  | none => some dflt
  | some x => match asIdx (x.ev ts) with | some i => natOf i most | none => none

def rowAtV (rs : List (List VVal)) (n : Nat) : Option (List VVal) := nthR rs n

/-- A map's entry. -/
def keyBeq : VVal → VVal → Option Bool
  | .int k a, .int l b => if Nat.beq (IntKind.code k) (IntKind.code l) then some (intBeq a b) else none
  | .str a, .str b => some (natsBeq a b)
  | .bool a, .bool b => some ((a && b) || (!a && !b))
  | _, _ => none

def findV0 (k : VVal) : List (VVal × VVal) → Option (Option VVal)
  | [] => some none
  | (k', v) :: r => match keyBeq k k' with
    | some true => some (some v)
    | some false => findV0 k r
    | none => none

def findV (k : VVal) (es : List (VVal × VVal)) : Option (Option VVal) :=
  List.rec (motive := fun _ => Option (Option VVal)) (some none) (fun p _ ih => Option.rec (motive := fun _ => Option (Option VVal)) none (fun b => tf b (some (some p.2)) ih) (keyBeq k p.1)) es

theorem findV_eq0 (k : VVal) : ∀ es, findV k es = findV0 k es := by
  intro es
  induction es with
  | nil => rfl
  | cons p r ih =>
    show Option.rec (motive := fun _ => Option (Option VVal)) none (fun b => tf b (some (some p.2)) (findV k r)) (keyBeq k p.1) = _
    rw [ih]
    obtain ⟨k', v⟩ := p
    simp only [findV0]
    cases keyBeq k k' with
    | none => rfl
    | some b => cases b <;> rfl

def putV (k x : VVal) : List (VVal × VVal) → Option (List (VVal × VVal))
  | [] => some [(k, x)]
  | (k', v) :: r => match keyBeq k k' with
    | some true => some ((k, x) :: r)
    | some false => (match putV k x r with | some r' => some ((k', v) :: r') | none => none)
    | none => none

/-- The stamps behind a store: of a key that was there, or of a new one. -/
def stampsUp (n m : Nat) : Option (List Nat × Nat) → Option (List Nat × Nat)
  | none => none
  | some (bs, c) => if n = m then some (bs, c) else some (bs ++ [c], c + 1)

/-- The stamp of a key that is there. -/
def stampOf (k : VVal) : List (VVal × VVal) → List Nat → Option Nat
  | (k', _) :: r, n :: bs => match keyBeq k k' with
    | some true => some n
    | some false => stampOf k r bs
    | none => none
  | _, _ => none

/-- The entry of a stamp is given another value. -/
def setAt (n : Int) (x : VVal) : List (VVal × VVal) → List Nat → Option (List (VVal × VVal))
  | (k, v) :: r, m :: bs => if intBeq n (.ofNat m) then some ((k, x) :: r) else (match setAt n x r bs with | some r' => some ((k, v) :: r') | none => none)
  | _, _ => none

def delV (k : VVal) : List (VVal × VVal) → Option (List (VVal × VVal))
  | [] => some []
  | (k', v) :: r => match keyBeq k k' with
    | some true => some r
    | some false => (match delV k r with | some r' => some ((k', v) :: r') | none => none)
    | none => none

def keyOk : VTag → VVal → Bool
  | .int, .int .. | .str, .str _ | .bool, .bool _ => true
  | _, _ => false

def bytesOfV : List VVal → Option (List Nat)
  | [] => some []
  | .int .u8 n :: r => match bytesOfV r with | some l => some (n.toNat % 256 :: l) | none => none
  | _ :: _ => none

/-- A slice's cells, its first n elements (sz cells each). -/
def VHeap.rowCells (h : VHeap) (x : VVal) : Option (List VVal) :=
  match x with
  | .nilslice => some []
  | .slice b v off len sz _ =>
    (match h.get b with
     | some (.cells cs _ ver) => if Nat.beq v ver then cut cs off (len * sz) else none
     | _ => none)
  | .rslice _ rows => some rows.flatten
  | .str s => some (s.map fun (n : Nat) => .int .u8 n)
  | _ => none

def lenV : VVal → Option Nat
  | .nilslice => some 0
  | .slice _ _ _ n _ _ => some n
  | .rslice _ l => some (lenR l)
  | .str s => some (lenR s)
  | .nilmap => some 0
  | _ => none

def shapeOk : VTag → VVal → Bool
  | .str, .str _ | .slice, .nilslice | .slice, .slice .. | .slice, .rslice .. | .map, .nilmap | .map, .map _ => true
  | _, _ => false

def VHeap.lenAt (h : VHeap) (x : VVal) : Option Nat :=
  match x with
  | .map b => (match h.get b with | some (.map es _) => some es.length | _ => none)
  | x => lenV x

def minmaxV (mx : Bool) : VVal → List VVal → Option VVal
  | x, [] => some x
  | .int k a, .int l b :: r => if Nat.beq (IntKind.code k) (IntKind.code l) then minmaxV mx (.int k (if mx then (if b > a then b else a) else (if b < a then b else a))) r else none
  | _, _ => none

/-- A slice's cells (not a string's). -/
def VHeap.rowSlice (h : VHeap) (x : VVal) : Option (List VVal) :=
  match x with
  | .str _ => none
  | x => h.rowCells x

/-- A slice's cells, one an element. -/
def VHeap.rowBytes (h : VHeap) (x : VVal) : Option (List VVal) :=
  match x with
  | .str _ => none
  | x => match h.rowCells x, lenV x with
    | some cs, some n => if Nat.beq cs.length n then some cs else none
    | _, _ => none

def VVal.onSl {α : Type} (d nl : α) (f : Nat → Nat → Nat → Nat → Nat → Option Nat → α) (g : Nat → List (List VVal) → α) (x : VVal) : α :=
  VVal.rec (motive_1 := fun _ => α) (motive_2 := fun _ => Unit) (motive_3 := fun _ => Unit) (fun _ => d) (fun _ _ => d) (fun _ _ => d) (fun _ => d) d (fun _ _ _ => d) (fun _ _ => d) nl f (fun z rows _ => g z rows) d (fun _ => d) (fun _ _ _ _ _ => d) d (fun _ _ _ => d) d (fun _ _ => d) (fun _ _ => d) d (fun _ _ => d) () (fun _ _ _ _ => ()) () (fun _ _ _ _ => ()) x
def VVal.onTup {α : Type} (d : α) (f : List VVal → α) (x : VVal) : α :=
  VVal.rec (motive_1 := fun _ => α) (motive_2 := fun _ => Unit) (motive_3 := fun _ => Unit) (fun _ => d) (fun _ _ => d) (fun _ _ => d) (fun _ => d) d (fun _ _ _ => d) (fun _ _ => d) d (fun _ _ _ _ _ _ => d) (fun _ _ _ => d) d (fun _ => d) (fun _ _ _ _ _ => d) d (fun _ _ _ => d) d (fun _ _ => d) (fun l _ => f l) d (fun _ _ => d) () (fun _ _ _ _ => ()) () (fun _ _ _ _ => ()) x
/-- A pointer or a function that is not nil. -/
def nilF (x : VVal) : Option VVal :=
  VVal.rec (motive_1 := fun _ => Option VVal) (motive_2 := fun _ => Unit) (motive_3 := fun _ => Unit) (fun _ => none) (fun _ _ => none) (fun _ _ => none) (fun _ => none) none (fun b v o => some (.ptr b v o)) (fun cs _ => some (.rptr cs)) none (fun _ _ _ _ _ _ => none) (fun _ _ _ => none) none (fun _ => none) (fun f a b _ _ => some (.func f a b)) none (fun _ _ _ => none) none (fun _ _ => none) (fun _ _ => none) none (fun _ _ => none) () (fun _ _ _ _ => ()) () (fun _ _ _ _ => ()) x
theorem nilF_eq (x : VVal) : nilF x = match x with | .ptr b v o => some (.ptr b v o) | .rptr cs => some (.rptr cs) | .func f a b => some (.func f a b) | _ => none := by cases x <;> rfl
def pickF (c a b : VVal) : Option VVal := VVal.onBool none (fun t => some (tf t a b)) none c
theorem pickF_eq (c a b : VVal) : pickF c a b = match c with | .bool t => some (if t then a else b) | _ => none := by
  cases c <;> try rfl
  case bool t => cases t <;> rfl
  case tuple l => cases l <;> rfl
def faddr (off : Nat) (x : VVal) : Option VVal := VVal.onPtr none (fun b v o => some (.ptr b v (Nat.add o off))) (fun cs => some (.rptr (dropR off cs))) x
theorem faddr_eq (off : Nat) (x : VVal) : faddr off x = match x with | .ptr b v o => some (.ptr b v (o + off)) | .rptr cs => some (.rptr (dropR off cs)) | _ => none := by cases x <;> rfl
def fieldF (agg : Bool) (sz off : Nat) (x : VVal) : Option VVal := VVal.onAgg none (fun cs => partOf agg sz cs off) x
theorem fieldF_eq (agg : Bool) (sz off : Nat) (x : VVal) : fieldF agg sz off x = match x with | .agg cs => partOf agg sz cs off | _ => none := by cases x <;> rfl
def extF (x : VVal) (i : Nat) : Option VVal := VVal.onTup none (fun vs => nthR vs i) x
theorem extF_eq (x : VVal) (i : Nat) : extF x i = match x with | .tuple vs => (match cut vs i 1 with | some [v] => some v | _ => none) | _ => none := by
  cases x <;> try rfl
  case tuple l =>
    show nthR l i = _
    simp only [cut_one, nthR_eq]
    cases l[i]? <;> rfl
def convF (k : IntKind) (x : VVal) : Option VVal := VVal.onInt none (fun _ _ => none) (fun _ n => some (.int k (wrapF k n))) x
theorem convF_eq (k : IntKind) (x : VVal) : convF k x = match x with | .int _ n => some (.int k (k.wrap n)) | _ => none := by
  cases x <;> try rfl
  case int l n => show some (VVal.int k (wrapF k n)) = _; rw [wrapF_eq]
def idxS (sz : Nat) (x i : VVal) : Option VVal :=
  VVal.onInt none (fun _ _ => none) (fun _ j => Int.rec (motive := fun _ => Option VVal) (fun k =>
    VVal.onSl none none (fun b v off ln z _ => tf (Nat.beq z sz) (tf (Nat.blt k ln) (some (.ptr b v (Nat.add off (Nat.mul k sz)))) none) none)
      (fun z rows => tf (Nat.beq z sz) (Option.rec (motive := fun _ => Option VVal) none (fun r => some (.rptr r)) (nthR rows k)) none) x) (fun _ => none) j) i
theorem idxS_eq (sz : Nat) (x i : VVal) : idxS sz x i = match asIdx i with
    | some j => (match x with
      | .slice b v off ln z _ => if Nat.beq z sz then (match inRange j ln with
        | some k => some (.ptr b v (off + k * sz))
        | none => none) else none
      | .rslice z rows => if Nat.beq z sz then (match inRange j (lenR rows) with
        | some k => (match rowAtV rows k with | some r => some (.rptr r) | none => none)
        | none => none) else none
      | _ => none)
    | none => none := by
  cases i <;> try rfl
  case int k j =>
    cases j with
    | negSucc j =>
      cases x <;> try rfl
      all_goals
        show none = _
        simp [asIdx, inRange]
    | ofNat k =>
      cases x <;> try rfl
      · show tf _ (tf _ _ _) _ = _
        simp only [tf_ite, asIdx, inRange]
        split
        · split <;> rfl
        · rfl
      · rename_i z rows
        show tf _ (Option.rec (motive := fun _ => Option VVal) none (fun r => some (.rptr r)) (nthR rows k)) _ = _
        simp only [tf_ite, asIdx, inRange, rowAtV, lenR_eq, nthR_eq]
        split
        · by_cases hk : k < rows.length
          · simp [Nat.blt_eq, hk]
          · have : rows[k]? = none := List.getElem?_eq_none_iff.2 (by omega)
            simp [Nat.blt_eq, hk]
        · rfl
def lenF (g : VTag) (x : VVal) (h : VHeap) : Option VVal :=
  match g with
  | .slice => VVal.onSl none (some (.int .i64 (.ofNat 0))) (fun _ _ _ n _ _ => some (.int .i64 (.ofNat n))) (fun _ rows => some (.int .i64 (.ofNat (lenR rows)))) x
  | .str => VVal.onStr none (fun s => some (.int .i64 (.ofNat (lenR s)))) x
  | g => if shapeOk g x then (match h.lenAt x with | some n => some (.int .i64 n) | none => none) else none
theorem lenF_eq (g : VTag) (x : VVal) (h : VHeap) : lenF g x h = if shapeOk g x then (match h.lenAt x with | some n => some (.int .i64 n) | none => none) else none := by
  cases g <;> try rfl
  · cases x <;> rfl
  · cases x <;> rfl

/-- Operations that make and write nothing. -/
def VOp.read (ts : List VVal) (h : VHeap) : VOp → Option VVal
  | .move x | .assign x => some (x.ev ts)
  | .pick c a b => pickF (c.ev ts) (a.ev ts) (b.ev ts)
  | .build zero parts => match fillV zero (evParts ts parts) with | some cs => some (.agg cs) | none => none
  | .load agg sz a => (match agg with
    | true => h.loadA sz (a.ev ts)
    | false => h.load1 (a.ev ts))
  | .nilCheck x => nilF (x.ev ts)
  | .bin op q x y => binV op q (x.ev ts) (y.ev ts)
  | .un op x => unV op (x.ev ts)
  | .convInt k x => convF k (x.ev ts)
  | .convSame x => match x.ev ts with
    | .str s => some (.str s)
    | _ => none
  | .ofBytes x => match h.rowBytes (x.ev ts) with
    | some cs => (match bytesOfV cs with | some l => some (.str l) | none => none)
    | none => none
  | .mkIface t x => some (.iface t (x.ev ts))
  | .mkFunc f first captured => some (.func f (evs ts first) (evs ts captured))
  | .sliceStr x lo hi => match x.ev ts with
    | .str s => (match bound ts hi s.length s.length with
      | some e => (match bound ts lo 0 e with
        | some b => some (.str ((s.drop b).take (e - b)))
        | none => none)
      | none => none)
    | _ => none
  | .slice sz x lo hi mx => match x.ev ts with
    | .nilslice => (match bound ts mx 0 0 with
      | some _ => (match bound ts hi 0 0, bound ts lo 0 0 with
        | some _, some _ => some .nilslice
        | _, _ => none)
      | none => none)
    | .rslice z rows => (match mx with
      | none => (match bound ts hi rows.length rows.length with
        | some e => (match bound ts lo 0 e with
          | some b => if Nat.beq z sz then some (.rslice z ((rows.drop b).take (e - b))) else none
          | none => none)
        | none => none)
      | some _ => none)
    | .slice b v off ln z (some cap) =>
      if Nat.beq z sz then
        (match bound ts mx cap cap with
        | some m => (match bound ts hi ln m with
          | some e => (match bound ts lo 0 e with
            | some l => some (.slice b v (if Nat.beq m l then off else off + l * sz) (e - l) z (some (m - l)))
            | none => none)
          | none => none)
        | none => none)
      else none
    | .slice b v off ln z none => (match mx with
      | none =>
        if Nat.beq z sz then
          (match bound ts hi ln ln with
          | some e => (match bound ts lo 0 e with
            | some l => some (.slice b v (off + l * sz) (e - l) z none)
            | none => none)
          | none => none)
        else none
      | some _ => none)
    | _ => none
  | .sliceArr n sz x lo hi mx => match x.ev ts with
    | .ptr b v off =>
      (match bound ts mx n n with
      | some m => (match bound ts hi n m with
        | some e => (match bound ts lo 0 e with
          | some l => some (.slice b v (if Nat.beq m l then off else off + l * sz) (e - l) sz (some (m - l)))
          | none => none)
        | none => none)
      | none => none)
    | _ => none
  | .fieldAddr off x => faddr off (x.ev ts)
  | .field agg sz off x => fieldF agg sz off (x.ev ts)
  | .indexAddr (some n) sz x i => match asIdx (i.ev ts) with
    | some j => (match inRange j n with
      | some k => (match x.ev ts with
        | .ptr b v o => some (.ptr b v (o + k * sz))
        | .rptr cs => some (.rptr ((dropR (k * sz) cs).take sz))
        | _ => none)
      | none => none)
    | none => none
  | .indexAddr none sz x i => idxS sz (x.ev ts) (i.ev ts)
  | .indexStr x i => match x.ev ts, asIdx (i.ev ts) with
    | .str s, some j => (match inRange j (lenR s) with
      | some k => (match nthR s k with | some n => some (.int .u8 n) | none => none)
      | none => none)
    | _, _ => none
  | .indexArr n agg sz x i => match x.ev ts, asIdx (i.ev ts) with
    | .agg cs, some j => (match inRange j n with
      | some k => partOf agg sz cs (k * sz)
      | none => none)
    | _, _ => none
  | .lookup g zero m k ok => if keyOk g (k.ev ts) then (match m.ev ts with
    | .nilmap => some (if ok then .tuple [zero, .bool false] else zero)
    | .map b => (match h.get b with
      | some (.map es _) => (match findV (k.ev ts) es with
        | some (some v) => some (if ok then .tuple [v, .bool true] else v)
        | some none => some (if ok then .tuple [zero, .bool false] else zero)
        | none => none)
      | _ => none)
    | _ => none) else none
  | .typeAssert asserted zero x ok => match x.ev ts with
    | .iface t v => if Nat.beq t asserted then some (if ok then .tuple [v, .bool true] else v) else if ok then some (.tuple [zero, .bool false]) else none
    | .niliface => if ok then some (.tuple [zero, .bool false]) else none
    | _ => none
  | .extract x i => extF (x.ev ts) i
  | .len g x => lenF g (x.ev ts) h
  | .lenArr n => some (.int .i64 n)
  | .minmax mx xs => match evs ts xs with
    | x :: r => minmaxV mx x r
    | [] => none
  | _ => none

theorem load_sub {agg : Bool} {sz : Nat} {h : VHeap} {p v : VVal} (hv : (match agg with | true => h.loadA sz p | false => h.load1 p) = some v) (hs : agg = false → sz = 1) :
    (match h.load p sz with | some cs => asValue agg cs | none => none) = some v := by
  cases agg
  · rw [hs rfl]
    simp only at hv
    rw [VHeap.load1_eq] at hv
    cases hl : h.load p 1 with
    | none => rw [hl] at hv; cases hv
    | some cs =>
      rw [hl] at hv
      match cs, hv with
      | [x], hv => exact hv
  · simp only at hv
    rw [VHeap.loadA_eq] at hv
    cases hl : h.load p sz with
    | none => rw [hl] at hv; cases hv
    | some cs => rw [hl] at hv; exact hv

/-- Does a reading operation look at the memory? -/
def VOp.looks : VOp → Bool
  | .load .. | .lookup .. | .len .. | .ofBytes .. => true
  | _ => false

theorem VOp.read_pure {o : VOp} (ho : o.looks = false) (ts : List VVal) (h h' : VHeap) : o.read ts h = o.read ts h' := by
  cases o <;> first | rfl | (simp [VOp.looks] at ho; done) | skip
  case indexAddr arr sz x i => cases arr <;> rfl

def repeatV (zero : List VVal) : Nat → List VVal
  | 0 => []
  | n + 1 => zero ++ repeatV zero n

def appR (xs ys : List VVal) : List VVal := List.rec (motive := fun _ => List VVal) ys (fun x _ ih => x :: ih) xs
theorem appR_eq : ∀ xs ys, appR xs ys = xs ++ ys := by
  intro xs ys
  induction xs with
  | nil => rfl
  | cons x xs ih =>
    show x :: appR xs ys = _
    rw [ih]; rfl

def repeatR (zero : List VVal) (n : Nat) : List VVal := Nat.rec (motive := fun _ => List VVal) [] (fun _ ih => appR zero ih) n
theorem repeatR_eq (zero : List VVal) : ∀ n, repeatR zero n = repeatV zero n := by
  intro n
  induction n with
  | zero => rfl
  | succ n ih =>
    show appR zero (repeatR zero n) = _
    rw [ih, appR_eq]; rfl

/-- Operations that make a block: the block, and the value over its number. -/
def VOp.fresh (ts : List VVal) : VOp → Option (VObj × (Nat → VVal))
  | .box elem x => if (x.ev ts).whole then some (.cells (x.ev ts).cells elem 0, fun b => .ptr b 0 0) else none
  | .buildSlice elem sz ln zeros parts => match fillV zeros (evParts ts parts) with
    | some cs => some (.cells cs elem 0, fun b => .slice b 0 0 ln sz (some ln))
    | none => none
  | .toBytes elem x => match x.ev ts with
    | .str s => if Nat.ble s.length 1099511627776 then some (.cells (s.map fun (n : Nat) => .int .u8 n) elem 0, fun b => .slice b 0 0 s.length 1 none) else none
    | _ => none
  | .mkMap => some (.map [] (some ([], 0)), fun b => .map b)
  | .mkSlice elem sz bytes zero ln cap => match asIdx (ln.ev ts), asIdx (cap.ev ts) with
    | some l, some c => (match natOf l 1099511627776, natOf c 1099511627776 with
      | some l, some c => if Nat.ble l c && Nat.ble (bytes * c) 281474976710656 then some (.cells (repeatR zero c) elem 0, fun b => .slice b 0 0 l sz (some c)) else none
      | _, _ => none)
    | _, _ => none
  | _ => none

/-- May so many elements be asked of the memory? -/
def roomV (need bytes : Nat) : Bool := Nat.ble (need * bytes) 140737488355328 && Nat.ble need 1099511627776

/-- What is appended. -/
def addedV (ts : List VVal) (h : VHeap) (sz bytes : Nat) (zeros : Option (List VVal)) (y : VOpd) : Option (Nat × List VVal) :=
  match zeros with
  | some z => (match asIdx (y.ev ts) with
    | some l => (match natOf l 1099511627776 with
      | some n => if roomV n bytes then some (n, repeatR z n) else none
      | none => none)
    | none => none)
  | none => (match lenV (y.ev ts), h.rowCells (y.ev ts) with
    | some n, some cs => if Nat.beq (lenR cs) (n * sz) then some (n, cs) else none
    | _, _ => none)

/-- May a value stand in one cell? -/
def cellOk : VVal → Bool
  | .agg _ | .tuple _ | .poison => false
  | _ => true

def cellsOk0 : List VVal → Bool
  | [] => true
  | x :: r => cellOk x && cellsOk0 r
def cellsOk (xs : List VVal) : Bool := List.rec (motive := fun _ => Bool) true (fun x _ ih => tf (cellOk x) ih false) xs
theorem cellsOk_eq0 : ∀ xs, cellsOk xs = cellsOk0 xs := by
  intro xs
  induction xs with
  | nil => rfl
  | cons x xs ih =>
    show tf (cellOk x) (cellsOk xs) false = _
    rw [ih, tf_ite]
    simp only [cellsOk0]
    cases cellOk x <;> rfl

/-- Operations that write blocks that are there. -/
def VOp.write (ts : List VVal) (h : VHeap) : VOp → Option (VVal × VHeap)
  | .store sz a x => if Nat.beq (lenR (x.ev ts).cells) sz && cellsOk (x.ev ts).cells then (match h.store (a.ev ts) (x.ev ts).cells with | some h' => some (.undef, h') | none => none) else none
  | .mapUpdate g m k x => if keyOk g (k.ev ts) then (match m.ev ts with
    | .map b => (match h.get b with
      | some (.map es st) => (match putV (k.ev ts) (x.ev ts) es with
        | some es' => some (.undef, h.set b (.map es' (stampsUp es.length es'.length st)))
        | none => none)
      | _ => none)
    | _ => none) else none
  | .delete g m k => if keyOk g (k.ev ts) then (match m.ev ts with
    | .nilmap => some (.tuple [], h)
    | .map b => (match h.get b with
      | some (.map es _) => (match delV (k.ev ts) es with
        | some es' => some (.tuple [], h.set b (.map es' none))
        | none => none)
      | _ => none)
    | _ => none) else none
  | .mapEntry g zero m k => if keyOk g (k.ev ts) then (match m.ev ts with
    | .map b => (match h.get b with
      | some (.map es (some (bs, c))) => (match findV (k.ev ts) es with
        | some (some v) => (match stampOf (k.ev ts) es bs, putV (k.ev ts) v es with
          | some n, some es' => some (.tuple [v, .int .i64 n], h.set b (.map es' (some (bs, c))))
          | _, _ => none)
        | some none => some (.tuple [zero, .int .i64 c], h.set b (.map (es ++ [(k.ev ts, zero)]) (some (bs ++ [c], c + 1))))
        | none => none)
      | _ => none)
    | _ => none) else none
  | .entryStore m s x => match m.ev ts, s.ev ts with
    | .map b, .int .i64 n => (match h.get b with
      | some (.map es (some (bs, c))) => (match setAt n (x.ev ts) es bs with
        | some es' => some (.undef, h.set b (.map es' (some (bs, c))))
        | none => none)
      | _ => none)
    | _, _ => none
  | .append elem sz bytes zeros x y => match addedV ts h sz bytes zeros y with
    | none => none
    | some (n, new) => match x.ev ts with
      | .nilslice => if Nat.beq n 0 then some (.nilslice, h) else if roomV n bytes then some (.slice h.size 0 0 n sz none, h.new (.cells new elem 0)) else none
      | .slice b v off ln z (some cap) =>
        if Nat.beq z sz then
          if Nat.ble (ln + n) cap then
            (if Nat.beq n 0 then some (.slice b v off ln z (some cap), h)
             else if cellsOk new = false then none
             else match h.store (.ptr b v (off + ln * sz)) new with
              | some h' => some (.slice b v off (ln + n) z (some cap), h')
              | none => none)
          else if roomV (ln + n) bytes then
            (match h.rowCells (.slice b v off ln z (some cap)) with
            | some old => some (.slice h.size 0 0 (ln + n) sz none, h.new (.cells (appR old new) elem 0))
            | none => none)
          else none
        else none
      | .slice b v off ln z none =>
        if Nat.beq n 0 then some (.slice b v off ln z none, h) else
        if Nat.beq z sz && Nat.beq off 0 && roomV (ln + n) bytes then
          (match h.get b with
          | some (.cells cs e ver) =>
            if Nat.beq e elem && (Nat.beq v ver && cellsOk new) then
              (match cut cs 0 (ln * sz) with
              | some old => some (.slice b (ver + 1) 0 (ln + n) sz none, h.set b (.cells (appR old new) e (ver + 1)))
              | none => none)
            else none
          | _ => none)
        else none
      | _ => none
  | .copy sz x y => match lenV (x.ev ts), lenV (y.ev ts), h.rowSlice (y.ev ts), x.ev ts with
    | some dl, some sl, some cs, .slice b v off _ z _ => if Nat.beq z sz then (match cut cs 0 (Nat.min sl dl * sz) with
      | some new => if Nat.beq (Nat.min sl dl) 0 then some (.int .i64 0, h) else if cellsOk new = false then none else (match h.store (.ptr b v off) new with
        | some h' => some (.int .i64 (Nat.min sl dl : Nat), h')
        | none => none)
      | none => none) else none
    | _, _, _, _ => none
  | _ => none

/-- Whom a call calls, and with what. -/
def VOp.callee (ts : List VVal) : VOp → Option (FuncId × List VVal)
  | .callF f args => some (f, evs ts args)
  | .call f args => match f.ev ts with
    | .func g first captured => some (g, first ++ evs ts args ++ captured)
    | _ => none
  | _ => none

/- ---------------------------------------------------------------- the interpreter -/

structure VSt where
  ts : List VVal
  h : VHeap
  deriving Inhabited

inductive VExit where
  | normal | exit (id : Nat) | ret | panic (v : VVal)
  deriving Inhabited

abbrev VCaller := FuncId → List VVal → VHeap → Option (VVal × VHeap)

/-- What a panic is thrown with. -/
def VOp.panicV (ts : List VVal) : VOp → Option VVal
  | .panic x => match x.ev ts with
    | .iface t v => some (.iface t v)
    | _ => none
  | _ => none

/-- Did a call, or a panic, end in a panic? -/
def panOf : VKind → VVal → Option VVal
  | .call, .panicked x => some x
  | .panic, .panicked x => some x
  | _, _ => none

/-- One operation. -/
def stepV (call : VCaller) (o : VOp) (ts : List VVal) (h : VHeap) : Option (VVal × VHeap) :=
  match o.kind with
  | .read => match o.read ts h with
    | some v => some (v, h)
    | none => none
  | .fresh => match o.fresh ts with
    | some (x, mk) => some (mk h.size, h.new x)
    | none => none
  | .write => o.write ts h
  | .call => match o.callee ts with
    | some (f, args) => call f args h
    | none => none
  | .panic => (match o.panicV ts with
    | some x => some (.panicked x, h)
    | none => none)

/-- One operation behind another, as the text has them. -/
def runOps (call : VCaller) : List VOper → VSt → Option (VExit × VSt)
  | [], st => some (.normal, st)
  | o :: r, st =>
    if wantedV o.guard st.ts then
      match stepV call o.op st.ts st.h with
      | some (v, h') => (match panOf o.op.kind v with
        | some x => some (.panic x, ⟨st.ts, h'⟩)
        | none => runOps call r ⟨putDst st.ts o.dst v, h'⟩)
      | none => none
    else if guardKnown o.guard st.ts then runOps call r ⟨putDst st.ts o.dst .undef, st.h⟩ else none

def memNat (n : Nat) : List Nat → Bool
  | [] => false
  | x :: r => Nat.beq n x || memNat n r

/-- Temporaries, but for those that are listed, made unknown. -/
def maskTs (rs : List Nat) : Nat → List VVal → List VVal
  | _, [] => []
  | i, x :: xs => (if memNat i rs then x else .poison) :: maskTs rs (i + 1) xs

/-- What is remembered of an operation of a drawn region. -/
structure VRec where
  ts : List VVal       -- ahead of it; what it doesn't look at is unknown
  h : VHeap            -- ahead of it
  v : VVal
  h' : VHeap           -- behind it
  did : Bool
  deriving Inhabited

def recOps (call : VCaller) : List VOper → VSt → Option (List VRec × VSt)
  | [], st => some ([], st)
  | o :: r, st =>
    if wantedV o.guard (maskTs o.reads 0 st.ts) then
      match stepV call o.op (maskTs o.reads 0 st.ts) st.h with
      | some (v, h') => (match panOf o.op.kind v with
        | some _ => none
        | none => (match recOps call r ⟨putDst st.ts o.dst v, h'⟩ with
          | some (l, st') => some (⟨maskTs o.reads 0 st.ts, st.h, v, h', true⟩ :: l, st')
          | none => none))
      | none => none
    else if guardKnown o.guard (maskTs o.reads 0 st.ts) then
      (match recOps call r ⟨putDst st.ts o.dst .undef, st.h⟩ with
      | some (l, st') => some (⟨maskTs o.reads 0 st.ts, st.h, .undef, st.h, false⟩ :: l, st')
      | none => none)
    else none

def readsSame (o : VOp) (ts : List VVal) (h : VHeap) (v : VVal) : Bool :=
  match o.read ts h with
  | some v' => VVal.beq v' v
  | none => false

/-- Two operations of which either may go first (b stands ahead of a): a read comes to the same on either side of the other. -/
def calmPair (a b : VOper) (ra rb : VRec) : Bool :=
  if ra.did && rb.did then
    (match a.op.kind with
    | .read => readsSame a.op ra.ts rb.h ra.v
    | _ => readsSame b.op rb.ts ra.h' rb.v)
  else true

def nthV {α : Type} : List α → Nat → Option α
  | [], _ => none
  | x :: _, 0 => some x
  | _ :: r, n + 1 => nthV r n

def calmAll (all : List (VOper × VRec)) : List (VOper × VRec) → Bool
  | [] => true
  | (o, r) :: rest => (o.chk.all fun j => match nthV all j with | some (b, rb) => calmPair o b r rb | none => false) && calmAll all rest

def drawOps (call : VCaller) (ops : List VOper) (st : VSt) : Option VSt :=
  match recOps call ops st with
  | some (recs, st') => if calmAll (ops.zip recs) (ops.zip recs) then some st' else none
  | none => none

def loopN (step : VSt → Option (VExit × VSt)) : Nat → VSt → Option (VExit × VSt)
  | 0, _ => none
  | n + 1, st => match step st with
    | some (.normal, st') => loopN step n st'
    | r => r

def runCode (call : VCaller) (n : Nat) : VCode → VSt → Option (VExit × VSt)
  | .skip, st => some (.normal, st)
  | .region false ops, st => runOps call ops st
  | .region true ops, st => match drawOps call ops st with | some st' => some (.normal, st') | none => none
  | .seq a b, st => match runCode call n a st with
    | some (.normal, st') => runCode call n b st'
    | r => r
  | .cond c a b, st => match c.ev st.ts with
    | .bool true => runCode call n a st
    | .bool false => runCode call n b st
    | _ => none
  | .block id body, st => match runCode call n body st with
    | some (.exit k, st') => if Nat.beq k id then some (.normal, st') else some (.exit k, st')
    | r => r
  | .loop body, st => loopN (runCode call n body) n st
  | .exit id, st => some (.exit id, st)
  | .ret, st => some (.ret, st)
  | .fail, _ => none

def resultV (ts : List VVal) (h : VHeap) : VResult → Option VVal
  | .tmp t => some (tmpAt ts t)
  | .cell a agg sz => match h.load (tmpAt ts a) sz with
    | some cs => asValue agg cs
    | none => none

def resultsV (ts : List VVal) (h : VHeap) : List VResult → Option (List VVal)
  | [] => some []
  | r :: rs => match resultV ts h r, resultsV ts h rs with
    | some v, some vs => some (v :: vs)
    | _, _ => none

def oneOrTuple : List VVal → VVal
  | [v] => v
  | vs => .tuple vs

abbrev VProg := FuncId → Option VFunc

/-- Calls: of functions that the program has; of others by X. -/
def callN (P : VProg) (X : VCaller → Nat → VCaller) : Nat → VCaller
  | 0, _, _, _ => none
  | n + 1, f, args, h => match P f with
    | none => X (callN P X n) n f args h
    | some fn => match runCode (callN P X n) n fn.body ⟨args ++ List.replicate (fn.ntmps - args.length) .undef, h⟩ with
      | some (.normal, st) | some (.ret, st) => (match resultsV st.ts st.h fn.results with
        | some vs => some (oneOrTuple vs, st.h)
        | none => none)
      | some (.panic x, st) => some (.panicked x, st.h)
      | _ => none

end
end Go.V
