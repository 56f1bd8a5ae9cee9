/- Operations that only read: what the virtual machine comes to, the model comes to. -/
import Derived.Test.YthefbgflndpggaaV4
set_option linter.unusedSimpArgs false
set_option linter.unusedVariables false
namespace Go.V
open Go.RowKit

section
variable {P : Program} {w0 : World} {φ : VMap} {h : VHeap} {w : World}

mutual
theorem valueV_rel : ∀ {v : Value} {x : VVal}, valueV v = some x → RelV w0 φ x v
  | .bool b, x, e => by simp [valueV] at e; subst e; exact .bool b
  | .int k n, x, e => by simp [valueV] at e; subst e; exact .int k n
  | .string s, x, e => by simp [valueV] at e; subst e; exact .str s
  | .pointer none, x, e => by simp [valueV] at e; subst e; exact .nilptr
  | .slice none 0 0, x, e => by simp [valueV] at e; subst e; exact .nilslice
  | .map none, x, e => by simp [valueV] at e; subst e; exact .nilmap
  | .nilFunc, x, e => by simp [valueV] at e; subst e; exact .nilfunc
  | .nilIface, x, e => by simp [valueV] at e; subst e; exact .niliface
  | .agg ⟨cs⟩, x, e => by
    simp only [valueV] at e
    cases hc : valuesV cs with
    | none => simp [hc] at e
    | some l => simp [hc] at e; subst e; exact .agg (valuesV_rel hc)
  | .tuple ⟨cs⟩, x, e => by
    simp only [valueV] at e
    cases hc : valuesV cs with
    | none => simp [hc] at e
    | some l => simp [hc] at e; subst e; exact .tuple (valuesV_rel hc)
  | .float _ _, x, e => by simp [valueV] at e
  | .complex _ _ _, x, e => by simp [valueV] at e
  | .pointer (some _), x, e => by simp [valueV] at e
  | .slice (some _) _ _, x, e => by simp [valueV] at e
  | .slice none (_ + 1) _, x, e => by simp [valueV] at e
  | .slice none 0 (_ + 1), x, e => by simp [valueV] at e
  | .map (some _), x, e => by simp [valueV] at e
  | .chan _, x, e => by simp [valueV] at e
  | .func _ _ _, x, e => by simp [valueV] at e
  | .iface _ _, x, e => by simp [valueV] at e
theorem valuesV_rel : ∀ {v : List Value} {x : List VVal}, valuesV v = some x → RelVs w0 φ x v
  | [], x, e => by simp [valuesV] at e; subst e; exact .nil
  | v :: r, x, e => by
    simp only [valuesV] at e
    cases h1 : valueV v with
    | none => simp [h1] at e
    | some a =>
      cases h2 : valuesV r with
      | none => simp [h1, h2] at e
      | some b => simp [h1, h2] at e; subst e; exact .cons (valueV_rel h1) (valuesV_rel h2)
end

/-- Operands stand to operands. -/
def RelEnv (w0 : World) (φ : VMap) (ts : List VVal) (ρ : Operand → Value) : Prop := ∀ x y, opdV x = some y → RelV w0 φ (y.ev ts) (ρ x)

theorem RelEnv.all {ts : List VVal} {ρ : Operand → Value} (hρ : RelEnv w0 φ ts ρ) : ∀ {xs : List Operand} {ys : List VOpd}, opdsV xs = some ys → RelVs w0 φ (evs ts ys) (xs.map ρ) := by
  intro xs
  induction xs with
  | nil => intro ys e; simp [opdsV] at e; subst e; exact .nil
  | cons x r ih =>
    intro ys e
    simp only [opdsV] at e
    cases h1 : opdV x with
    | none => simp [h1] at e
    | some a =>
      cases h2 : opdsV r with
      | none => simp [h1, h2] at e
      | some b => simp [h1, h2] at e; subst e; exact .cons (hρ _ _ h1) (ih h2)

theorem cells_rel {x : VVal} {y : Value} (hr : RelV w0 φ x y) (hx : ∀ a, x ≠ .agg a) (hp : x ≠ .poison) : x.cells = [x] ∧ y.cells = #[y] := by
  cases hr <;> simp_all [VVal.cells, Value.cells]

theorem cells_rel' {x : VVal} {y : Value} (hr : RelV w0 φ x y) (hp : x ≠ .poison) : RelVs w0 φ x.cells y.cells.toList := by
  cases hr with
  | agg hs => exact hs
  | poison => exact absurd rfl hp
  | bool b => exact .cons (.bool b) .nil
  | int k n => exact .cons (.int k n) .nil
  | sym h => exact .cons (.sym h) .nil
  | str s => exact .cons (.str s) .nil
  | nilptr => exact .cons .nilptr .nil
  | ptr h => exact .cons (.ptr h) .nil
  | rptr h hc => exact .cons (.rptr h hc) .nil
  | nilslice => exact .cons .nilslice .nil
  | sliceK h hl => exact .cons (.sliceK h hl) .nil
  | sliceU h hl hd => exact .cons (.sliceU h hl hd) .nil
  | rslice0 sz a cap => exact .cons (.rslice0 sz a cap) .nil
  | rslice h hr hc => exact .cons (.rslice h hr hc) .nil
  | nilmap => exact .cons .nilmap .nil
  | map h => exact .cons (.map h) .nil
  | func f h1 h2 => exact .cons (.func f h1 h2) .nil
  | nilfunc => exact .cons .nilfunc .nil
  | iface t h => exact .cons (.iface t h) .nil
  | niliface => exact .cons .niliface .nil
  | tuple h => exact .cons (.tuple h) .nil

theorem run_info {t : TypeId} {i : TypeInfo} (h : P.info? t = some i) : (typeInfo t).run P w = .ok i w := by simp [typeInfo, h]
theorem run_size {t : TypeId} {i : TypeInfo} (h : P.info? t = some i) : (sizeOf t).run P w = .ok i.size w := by
  simp [sizeOf, run_info h]

theorem run_agg {t : TypeId} {a : Bool} (h : aggT P t = some a) : (isAgg t).run P w = .ok a w := by
  unfold aggT at h
  cases hu : P.underlying t with
  | none => simp [hu] at h
  | some d =>
    simp only [isAgg, Sem.run_bind, run_underlying hu, Result.andThen_ok]
    cases d <;> simp [hu] at h <;> subst h <;> rfl

theorem run_zero {t : TypeId} {z : VVal} (h : zeroV P t = some z) : ∃ v, (zeroValue t).run P w = .ok v w ∧ valueV v = some z ∧ (∃ i, P.info? t = some i ∧ i.zero = some v) := by
  unfold zeroV at h
  cases hi : P.info? t with
  | none => simp [hi] at h
  | some i =>
    cases hz : i.zero with
    | none => simp [hi, hz] at h
    | some v =>
      simp [hi, hz] at h
      exact ⟨v, by simp [zeroValue, run_info hi, hz], h, i, rfl, hz⟩

theorem sizeT_spec {t : TypeId} {agg : Bool} {n : Nat} (h : sizeT P t = some (agg, n)) : ∃ i, P.info? t = some i ∧ i.size = n ∧ aggT P t = some agg ∧ (agg = false → n = 1) := by
  unfold sizeT at h
  cases ha : aggT P t with
  | none => simp [ha] at h
  | some b =>
    cases hi : P.info? t with
    | none => cases b <;> simp [ha, hi] at h
    | some i =>
      cases b
      · simp [ha, hi] at h
        obtain ⟨h1, rfl, rfl⟩ := h
        exact ⟨i, rfl, h1, rfl, fun _ => rfl⟩
      · simp [ha, hi] at h
        obtain ⟨rfl, rfl⟩ := h
        exact ⟨i, rfl, rfl, rfl, fun e => by cases e⟩

/-- A variable's value, out of its cells. -/
theorem run_loadVar_rel (H : RelH w0 φ h w) {t : TypeId} {agg : Bool} {n : Nat} (hs : sizeT P t = some (agg, n)) {p : VVal} {y : Value} (hp : RelV w0 φ p y) {cs : List VVal} (hl : h.load p n = some cs)
    {v : VVal} (hv : asValue agg cs = some v) :
    ∃ a v', y = .pointer (some a) ∧ (loadVar t a).run P w = .ok v' w ∧ RelV w0 φ v v' := by
  obtain ⟨g, off, rfl, hlen, ys, hr, hc⟩ := load_rel H hp hl
  obtain ⟨i, hi, hsz, ha, h1⟩ := sizeT_spec hs
  cases agg with
  | true =>
    simp [asValue] at hv; subst hv
    refine ⟨_, .agg ⟨ys⟩, rfl, ?_, .agg hr⟩
    simp [loadVar, run_agg ha, run_size hi, hsz, run_loadCells_rel hlen hr hc]
  | false =>
    obtain rfl := h1 rfl
    cases cs with
    | nil => simp at hlen
    | cons c cs =>
      cases cs with
      | cons _ _ => simp at hlen
      | nil =>
        simp [asValue] at hv; subst hv
        cases hr with
        | cons hv hs =>
          cases hs
          have := hc 0 _ rfl
          simp at this
          exact ⟨_, _, rfl, by simp [loadVar, run_agg ha, this], hv⟩

theorem part_rel {t : TypeId} {agg : Bool} {n : Nat} (hs : sizeT P t = some (agg, n)) {cs : List VVal} {ys : List Value} (hr : RelVs w0 φ cs ys) {off : Nat} {v : VVal} (hv : partOf agg n cs off = some v) :
    ∃ v', (part t ⟨ys⟩ off).run P w = .ok v' w ∧ RelV w0 φ v v' := by
  obtain ⟨i, hi, hsz, ha, h1⟩ := sizeT_spec hs
  have drops : ∀ {xs : List VVal} {zs : List Value}, RelVs w0 φ xs zs → ∀ k, RelVs w0 φ (xs.drop k) (zs.drop k) := by
    intro xs
    induction xs with
    | nil => intro zs hz k; cases hz; simp; exact .nil
    | cons a xs ih => intro zs hz k; cases hz with | cons a b => cases k with | zero => exact .cons a b | succ k => simpa using ih b k
  have takes : ∀ {xs : List VVal} {zs : List Value}, RelVs w0 φ xs zs → ∀ k, RelVs w0 φ (xs.take k) (zs.take k) := by
    intro xs
    induction xs with
    | nil => intro zs hz k; cases hz; simp; exact .nil
    | cons a xs ih => intro zs hz k; cases hz with | cons a b => cases k with | zero => simp; exact .nil | succ k => simp; exact .cons a (ih b k)
  rw [partOf_eq0] at hv
  cases agg with
  | true =>
    simp only [if_true] at hv
    cases hc : cut cs off n with
    | none => simp [hc] at hv
    | some r =>
      simp [hc] at hv; subst hv
      obtain ⟨e, _⟩ := cut_eq hc
      refine ⟨.agg ⟨(ys.drop off).take n⟩, ?_, ?_⟩
      · simp [part, run_agg ha, run_size hi, hsz]
      rw [e]
      exact RelV.agg (takes (drops hr off) n)
  | false =>
    obtain rfl := h1 rfl
    simp only [Bool.false_eq_true, if_false] at hv
    cases hc : cut cs off 1 with
    | none => simp [hc] at hv
    | some r =>
      obtain ⟨e, l⟩ := cut_eq hc
      cases r with
      | nil => simp at l
      | cons a r =>
        cases r with
        | cons _ _ => simp at l
        | nil =>
          simp [hc] at hv; subst hv
          have hg := cut_get hc 0 (by omega)
          simp at hg
          obtain ⟨y, hy, hrel⟩ := hr.get off hg.symm
          exact ⟨y, by simp [part, run_agg ha, hy], hrel⟩
end
end Go.V
