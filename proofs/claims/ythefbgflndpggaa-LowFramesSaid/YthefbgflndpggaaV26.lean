/- Runs, the quick way. -/
import Derived.Test.YthefbgflndpggaaV25
set_option linter.unusedSimpArgs false
set_option linter.unusedVariables false
namespace Go.V
noncomputable section

/-- A whole number that is written out. -/
def I (n : Nat) : VVal := .int .i64 (.ofNat n)

/-- Does a run from an empty heap answer true? -/
def fastTrue (t : FTree) (X : VCaller → Nat → VCaller) (n : Nat) (f : FuncId) (args : List VVal) : Bool :=
  Option.rec (motive := fun _ => Bool) false (fun p => Prod.rec (motive := fun _ => Bool) (fun v _ => VVal.onBool false (fun b => b) false v) p) (fastN t X n f args .empty)

theorem fastTrue_eq {t : FTree} (ho : t.All FastFn.ok) (X : VCaller → Nat → VCaller) (n : Nat) (f : FuncId) (args : List VVal) : saysTrue (progOfT t) X n f args = fastTrue t X n f args := by
  unfold saysTrue fastTrue
  rw [fastN_eq ho X n]
  cases fastN t X n f args .empty with
  | none => rfl
  | some p => obtain ⟨v, h⟩ := p; cases v <;> try rfl
              case tuple l => cases l <;> rfl
end
end Go.V
