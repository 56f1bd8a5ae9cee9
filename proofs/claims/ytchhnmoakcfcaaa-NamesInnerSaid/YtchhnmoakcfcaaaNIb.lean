/- NamesInner: the runs, one for each of the sixteen ways. -/
import Derived.Test.YtchhnmoakcfcaaaNIa
import Derived.KernelRfl
namespace Go.Proofs.Ytchhnmoakcfcaaa.NI
open Go.V
def niArgs (n : Nat) (m : Bool) (y : Nat) : List VVal := [.sym .i64 [⟨.and, .i64, 3, .int n⟩], .bool m, .sym .i64 [⟨.and, .i64, 1, .int y⟩]]
theorem run00false : saysTrue (progOf vlist) 1000 4 (niArgs 0 false 0) = true := by kernel_rfl
theorem run00true : saysTrue (progOf vlist) 1000 4 (niArgs 0 true 0) = true := by kernel_rfl
theorem run01false : saysTrue (progOf vlist) 1000 4 (niArgs 0 false 1) = true := by kernel_rfl
theorem run01true : saysTrue (progOf vlist) 1000 4 (niArgs 0 true 1) = true := by kernel_rfl
theorem run10false : saysTrue (progOf vlist) 1000 4 (niArgs 1 false 0) = true := by kernel_rfl
theorem run10true : saysTrue (progOf vlist) 1000 4 (niArgs 1 true 0) = true := by kernel_rfl
theorem run11false : saysTrue (progOf vlist) 1000 4 (niArgs 1 false 1) = true := by kernel_rfl
theorem run11true : saysTrue (progOf vlist) 1000 4 (niArgs 1 true 1) = true := by kernel_rfl
theorem run20false : saysTrue (progOf vlist) 1000 4 (niArgs 2 false 0) = true := by kernel_rfl
theorem run20true : saysTrue (progOf vlist) 1000 4 (niArgs 2 true 0) = true := by kernel_rfl
theorem run21false : saysTrue (progOf vlist) 1000 4 (niArgs 2 false 1) = true := by kernel_rfl
theorem run21true : saysTrue (progOf vlist) 1000 4 (niArgs 2 true 1) = true := by kernel_rfl
theorem run30false : saysTrue (progOf vlist) 1000 4 (niArgs 3 false 0) = true := by kernel_rfl
theorem run30true : saysTrue (progOf vlist) 1000 4 (niArgs 3 true 0) = true := by kernel_rfl
theorem run31false : saysTrue (progOf vlist) 1000 4 (niArgs 3 false 1) = true := by kernel_rfl
theorem run31true : saysTrue (progOf vlist) 1000 4 (niArgs 3 true 1) = true := by kernel_rfl
theorem runs : ∀ (n y : Nat) (m : Bool), n < 4 → y < 2 → saysTrue (progOf vlist) 1000 4 (niArgs n m y) = true
  | 0, 0, false, _, _ => run00false
  | 0, 0, true, _, _ => run00true
  | 0, 1, false, _, _ => run01false
  | 0, 1, true, _, _ => run01true
  | 1, 0, false, _, _ => run10false
  | 1, 0, true, _, _ => run10true
  | 1, 1, false, _, _ => run11false
  | 1, 1, true, _, _ => run11true
  | 2, 0, false, _, _ => run20false
  | 2, 0, true, _, _ => run20true
  | 2, 1, false, _, _ => run21false
  | 2, 1, true, _, _ => run21true
  | 3, 0, false, _, _ => run30false
  | 3, 0, true, _, _ => run30true
  | 3, 1, false, _, _ => run31false
  | 3, 1, true, _, _ => run31true
  | _ + 4, _, _, h, _ => by omega
  | _, _ + 2, _, _, h => by omega
end Go.Proofs.Ytchhnmoakcfcaaa.NI
