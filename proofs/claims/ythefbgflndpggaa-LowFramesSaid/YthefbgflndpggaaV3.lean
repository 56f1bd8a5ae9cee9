/- How the virtual machine's values and blocks stand to the model's. -/
import Derived.Test.YthefbgflndpggaaV2
import Derived.WalkKit
set_option linter.unusedSimpArgs false
set_option linter.unusedVariables false
namespace Go.V
open Go.RowKit

/- ---------------------------------------------------------------- the tree of blocks -/

theorem VTree.get_put0 : ∀ (n : Nat) (t : VTree) (k k' : Nat) (x : VObj), k ≤ n → (VTree.put0 n t k x).get0 k' = if k' = k then some x else t.get0 k' := by
  intro n
  induction n with
  | zero =>
    intro t k k' x hk
    obtain rfl : k = 0 := by omega
    cases t with
    | leaf =>
      by_cases h : k' = 0
      · subst h; simp [VTree.put0, VTree.get0]
      · simp [VTree.put0, VTree.get0, h]
    | node o l r =>
      by_cases h : k' = 0
      · subst h; simp [VTree.put0, VTree.get0]
      · simp [VTree.put0, VTree.get0, h]
  | succ n ih =>
    intro t k k' x hk
    have key : ∀ (l : VTree) (j : Nat), j ≤ n → ∀ j', (VTree.put0 n l j x).get0 j' = if j' = j then some x else l.get0 j' := fun l j hj j' => ih l j j' x hj
    by_cases h0 : k = 0
    · subst h0
      cases t <;> by_cases h : k' = 0 <;> simp [VTree.put0, VTree.get0, h]
    · by_cases h1 : k % 2 = 1
      · have h2 : k / 2 ≤ n := by omega
        cases t <;> simp only [VTree.put0, Nat.beq_eq, h0, h1, if_true, if_false, VTree.get0]
        all_goals
          by_cases hk0 : k' = 0
          · simp [hk0, Ne.symm h0]
          · by_cases hk1 : k' % 2 = 1
            · simp only [hk0, hk1, if_true, if_false, key _ _ h2, VTree.get0]
              by_cases e : k' = k
              · simp [e]
              · have : k' / 2 ≠ k / 2 := by omega
                simp [e, this]
            · have : k' ≠ k := by omega
              simp [hk0, hk1, this, VTree.get0]
      · have h2 : k / 2 - 1 ≤ n := by omega
        cases t <;> simp only [VTree.put0, Nat.beq_eq, h0, h1, if_true, if_false, VTree.get0]
        all_goals
          by_cases hk0 : k' = 0
          · simp [hk0, Ne.symm h0]
          · by_cases hk1 : k' % 2 = 1
            · have : k' ≠ k := by omega
              simp [hk0, hk1, this, VTree.get0]
            · simp only [hk0, hk1, if_false, key _ _ h2, VTree.get0]
              by_cases e : k' = k
              · simp [e]
              · have : k' / 2 - 1 ≠ k / 2 - 1 := by omega
                simp [e, this]

theorem VTree.get_put (n : Nat) (t : VTree) (k k' : Nat) (x : VObj) (hk : k ≤ n) : (VTree.put n t k x).get k' = if k' = k then some x else t.get k' := by
  rw [VTree.put_eq0, VTree.get_eq0, VTree.get_eq0]; exact VTree.get_put0 n t k k' x hk

theorem blt_iff (a b : Nat) : Nat.blt a b = true ↔ a < b := by simp [Nat.blt_eq]

theorem VHeap.get_new (h : VHeap) (o : VObj) (b : Nat) : (h.new o).get b = if b = h.size then some o else h.get b := by
  unfold VHeap.get VHeap.new
  simp only [tf_ite]
  simp only [blt_iff, VTree.get_put _ _ _ _ _ (Nat.le_refl _)]
  by_cases e : b = h.size
  · simp [e]
  · by_cases hl : b < h.size
    · simp [e, hl, Nat.lt_succ_of_lt hl]
    · have : ¬ b < h.size + 1 := by omega
      simp [e, hl, this]

@[simp] theorem VHeap.size_new (h : VHeap) (o : VObj) : (h.new o).size = h.size + 1 := rfl

@[simp] theorem VHeap.size_set (h : VHeap) (b : Nat) (o : VObj) : (h.set b o).size = h.size := by
  unfold VHeap.set; split <;> rfl

theorem VHeap.get_set (h : VHeap) (b : Nat) (o : VObj) (hb : b < h.size) (b' : Nat) : (h.set b o).get b' = if b' = b then some o else h.get b' := by
  unfold VHeap.get VHeap.set
  simp only [tf_ite]
  simp only [blt_iff, hb, if_true, VTree.get_put _ _ _ _ _ (Nat.le_refl _)]
  by_cases e : b' = b
  · simp [e, hb]
  · simp [e]

theorem VHeap.lt_of_get {h : VHeap} {b : Nat} {o : VObj} (hg : h.get b = some o) : b < h.size := by
  unfold VHeap.get at hg
  rw [tf_ite] at hg
  split at hg
  · rename_i hb; exact (blt_iff _ _).1 hb
  · cases hg

/- ---------------------------------------------------------------- values -/

/-- Where a version of a block lies: the model's block, and how many cells that has. -/
structure Loc where
  c : Nat
  N : Nat

abbrev VMap := Nat → Nat → Option Loc

def VMap.le (φ φ' : VMap) : Prop := ∀ b v l, φ b v = some l → φ' b v = some l

theorem VMap.le.refl (φ : VMap) : φ.le φ := fun _ _ _ h => h
theorem VMap.le.trans {φ φ' φ'' : VMap} (h : φ.le φ') (h' : φ'.le φ'') : φ.le φ'' := fun _ _ _ e => h' _ _ _ (h _ _ _ e)

/-- The facts of an integer. -/
def SymTrue (k : IntKind) (n : Int) (facts : List SFact) : Prop := ∀ f ∈ facts, ∀ q, binV0 f.op q (.int k n) (.int f.k2 f.c) = some (f.r.val k)

mutual
inductive RelV (w0 : World) (φ : VMap) : VVal → Value → Prop
  | bool (b : Bool) : RelV w0 φ (.bool b) (.bool b)
  | int (k : IntKind) (n : Int) : RelV w0 φ (.int k n) (.int k n)
  | sym {k : IntKind} {n : Int} {facts : List SFact} : SymTrue k n facts → RelV w0 φ (.sym k facts) (.int k n)
  | str (s : ByteArray) : RelV w0 φ (.str (s.data.toList.map UInt8.toNat)) (.string s)
  | nilptr : RelV w0 φ .nilptr (.pointer none)
  | ptr {b v off : Nat} {l : Loc} : φ b v = some l → RelV w0 φ (.ptr b v off) (.pointer (some ⟨l.c, off, none⟩))
  | rptr {g off : Nat} {cs : List VVal} : g < w0.heap.size → RelCells w0 φ g off cs → RelV w0 φ (.rptr cs) (.pointer (some ⟨g, off, none⟩))
  | nilslice : RelV w0 φ .nilslice (.slice none 0 0)
  | sliceK {b v off ln sz cap : Nat} {l : Loc} : φ b v = some l → ln ≤ cap → RelV w0 φ (.slice b v off ln sz (some cap)) (.slice (some ⟨l.c, off, none⟩) ln cap)
  | sliceU {b v off ln sz cap : Nat} {l : Loc} {a : Addr} : φ b v = some l → ln ≤ cap → (cap = 0 ∨ (a = ⟨l.c, off, none⟩ ∧ off + cap * sz ≤ l.N)) →
      RelV w0 φ (.slice b v off ln sz none) (.slice (some a) ln cap)
  | rslice0 (sz : Nat) (a : Option Addr) (cap : Nat) : RelV w0 φ (.rslice sz []) (.slice a 0 cap)
  | rslice {sz : Nat} {r : List VVal} {rows : List (List VVal)} {g off cap : Nat} : g < w0.heap.size → RelRows w0 φ g off sz (r :: rows) → rows.length + 1 ≤ cap →
      RelV w0 φ (.rslice sz (r :: rows)) (.slice (some ⟨g, off, none⟩) (rows.length + 1) cap)
  | nilmap : RelV w0 φ .nilmap (.map none)
  | map {b : Nat} {l : Loc} : φ b 0 = some l → RelV w0 φ (.map b) (.map (some l.c))
  | func (f : FuncId) {a c : List VVal} {a' c' : List Value} : RelVs w0 φ a a' → RelVs w0 φ c c' → RelV w0 φ (.func f a c) (.func (.func f) ⟨a'⟩ ⟨c'⟩)
  | nilfunc : RelV w0 φ .nilfunc .nilFunc
  | iface (t : TypeId) {v : VVal} {v' : Value} : RelV w0 φ v v' → RelV w0 φ (.iface t v) (.iface t v')
  | niliface : RelV w0 φ .niliface .nilIface
  | agg {cs : List VVal} {cs' : List Value} : RelVs w0 φ cs cs' → RelV w0 φ (.agg cs) (.agg ⟨cs'⟩)
  | tuple {cs : List VVal} {cs' : List Value} : RelVs w0 φ cs cs' → RelV w0 φ (.tuple cs) (.tuple ⟨cs'⟩)
  | poison (x : Value) : RelV w0 φ .poison x
inductive RelVs (w0 : World) (φ : VMap) : List VVal → List Value → Prop
  | nil : RelVs w0 φ [] []
  | cons {x : VVal} {y : Value} {xs : List VVal} {ys : List Value} : RelV w0 φ x y → RelVs w0 φ xs ys → RelVs w0 φ (x :: xs) (y :: ys)
inductive RelCells (w0 : World) (φ : VMap) : Nat → Nat → List VVal → Prop
  | nil (g off : Nat) : RelCells w0 φ g off []
  | cons {g off : Nat} {x : VVal} {y : Value} {xs : List VVal} : w0.cell? ⟨g, off, none⟩ = some y → RelV w0 φ x y → RelCells w0 φ g (off + 1) xs → RelCells w0 φ g off (x :: xs)
inductive RelRows (w0 : World) (φ : VMap) : Nat → Nat → Nat → List (List VVal) → Prop
  | nil (g off sz : Nat) : RelRows w0 φ g off sz []
  | cons {g off sz : Nat} {r : List VVal} {rs : List (List VVal)} : r.length = sz → RelCells w0 φ g off r → RelRows w0 φ g (off + sz) sz rs → RelRows w0 φ g off sz (r :: rs)
end

section
variable {w0 : World} {φ φ' : VMap}

mutual
theorem RelV.mono (hle : φ.le φ') : ∀ {x : VVal} {y : Value}, RelV w0 φ x y → RelV w0 φ' x y
  | _, _, .bool b => .bool b
  | _, _, .int k n => .int k n
  | _, _, .sym h => .sym h
  | _, _, .str s => .str s
  | _, _, .nilptr => .nilptr
  | _, _, .ptr h => .ptr (hle _ _ _ h)
  | _, _, .rptr h hc => .rptr h (RelCells.mono hle hc)
  | _, _, .nilslice => .nilslice
  | _, _, .sliceK h hl => .sliceK (hle _ _ _ h) hl
  | _, _, .sliceU h hl hd => .sliceU (hle _ _ _ h) hl hd
  | _, _, .rslice0 sz a cap => .rslice0 sz a cap
  | _, _, .rslice h hr hc => .rslice h (RelRows.mono hle hr) hc
  | _, _, .nilmap => .nilmap
  | _, _, .map h => .map (hle _ _ _ h)
  | _, _, .func f h1 h2 => .func f (RelVs.mono hle h1) (RelVs.mono hle h2)
  | _, _, .nilfunc => .nilfunc
  | _, _, .iface t h => .iface t (RelV.mono hle h)
  | _, _, .niliface => .niliface
  | _, _, .agg h => .agg (RelVs.mono hle h)
  | _, _, .tuple h => .tuple (RelVs.mono hle h)
  | _, _, .poison x => .poison x
theorem RelVs.mono (hle : φ.le φ') : ∀ {x : List VVal} {y : List Value}, RelVs w0 φ x y → RelVs w0 φ' x y
  | _, _, .nil => .nil
  | _, _, .cons h hs => .cons (RelV.mono hle h) (RelVs.mono hle hs)
theorem RelCells.mono (hle : φ.le φ') : ∀ {g off : Nat} {x : List VVal}, RelCells w0 φ g off x → RelCells w0 φ' g off x
  | _, _, _, .nil g off => .nil g off
  | _, _, _, .cons h hv hs => .cons h (RelV.mono hle hv) (RelCells.mono hle hs)
theorem RelRows.mono (hle : φ.le φ') : ∀ {g off sz : Nat} {x : List (List VVal)}, RelRows w0 φ g off sz x → RelRows w0 φ' g off sz x
  | _, _, _, _, .nil g off sz => .nil g off sz
  | _, _, _, _, .cons h hv hs => .cons h (RelCells.mono hle hv) (RelRows.mono hle hs)
end

theorem RelVs.length {x : List VVal} {y : List Value} (h : RelVs w0 φ x y) : x.length = y.length := by
  induction x generalizing y with
  | nil => cases h; rfl
  | cons a x ih => cases h with | cons _ hs => simp [ih hs]

theorem RelVs.append {x x' : List VVal} {y y' : List Value} (h : RelVs w0 φ x y) (h' : RelVs w0 φ x' y') : RelVs w0 φ (x ++ x') (y ++ y') := by
  induction x generalizing y with
  | nil => cases h; exact h'
  | cons a x ih => cases h with | cons hv hs => exact .cons hv (ih hs)

theorem RelVs.get {x : List VVal} {y : List Value} (h : RelVs w0 φ x y) (i : Nat) {a : VVal} (ha : x[i]? = some a) : ∃ b, y[i]? = some b ∧ RelV w0 φ a b := by
  induction x generalizing y i with
  | nil => simp at ha
  | cons c x ih =>
    cases h with
    | cons hv hs =>
      cases i with
      | zero => simp at ha; subst ha; exact ⟨_, rfl, hv⟩
      | succ i => simpa using ih hs i (by simpa using ha)

theorem RelVs.undef_replicate (n : Nat) : RelVs w0 φ (List.replicate n .undef) (List.replicate n Go.undef) := by
  induction n with
  | zero => exact .nil
  | succ n ih => exact .cons (.tuple .nil) ih

end
end Go.V
