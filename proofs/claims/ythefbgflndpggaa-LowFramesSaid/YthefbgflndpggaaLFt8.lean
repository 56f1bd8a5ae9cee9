/- LowFrames: the runs of words & 31 from 28 to 31. -/
import Derived.Test.YthefbgflndpggaaLFd
set_option linter.unusedSimpArgs false
set_option linter.unusedVariables false
namespace Go.Proofs.Ythefbgflndpggaa.LF
open Go.V
theorem run0_28 : fastTrue vtree xs 2000 4 (lfArgs 0 28) = true := by kernel_rfl
theorem run1_28 : fastTrue vtree xs 2000 4 (lfArgs 1 28) = true := by kernel_rfl
theorem run2_28 : fastTrue vtree xs 2000 4 (lfArgs 2 28) = true := by kernel_rfl
theorem run3_28 : fastTrue vtree xs 2000 4 (lfArgs 3 28) = true := by kernel_rfl
theorem run4_28 : fastTrue vtree xs 2000 4 (lfArgs 4 28) = true := by kernel_rfl
theorem run5_28 : fastTrue vtree xs 2000 4 (lfArgs 5 28) = true := by kernel_rfl
theorem run6_28 : fastTrue vtree xs 2000 4 (lfArgs 6 28) = true := by kernel_rfl
theorem run7_28 : fastTrue vtree xs 2000 4 (lfArgs 7 28) = true := by kernel_rfl
theorem run8_28 : fastTrue vtree xs 2000 4 (lfArgs 8 28) = true := by kernel_rfl
theorem run9_28 : fastTrue vtree xs 2000 4 (lfArgs 9 28) = true := by kernel_rfl
theorem run10_28 : fastTrue vtree xs 2000 4 (lfArgs 10 28) = true := by kernel_rfl
theorem run11_28 : fastTrue vtree xs 2000 4 (lfArgs 11 28) = true := by kernel_rfl
theorem run12_28 : fastTrue vtree xs 2000 4 (lfArgs 12 28) = true := by kernel_rfl
theorem run13_28 : fastTrue vtree xs 2000 4 (lfArgs 13 28) = true := by kernel_rfl
theorem run14_28 : fastTrue vtree xs 2000 4 (lfArgs 14 28) = true := by kernel_rfl
theorem run15_28 : fastTrue vtree xs 2000 4 (lfArgs 15 28) = true := by kernel_rfl
theorem runs28 : ∀ n : Nat, n < 16 → fastTrue vtree xs 2000 4 (lfArgs n 28) = true
  | 0, _ => run0_28
  | 1, _ => run1_28
  | 2, _ => run2_28
  | 3, _ => run3_28
  | 4, _ => run4_28
  | 5, _ => run5_28
  | 6, _ => run6_28
  | 7, _ => run7_28
  | 8, _ => run8_28
  | 9, _ => run9_28
  | 10, _ => run10_28
  | 11, _ => run11_28
  | 12, _ => run12_28
  | 13, _ => run13_28
  | 14, _ => run14_28
  | 15, _ => run15_28
  | _ + 16, h => by omega
theorem run0_29 : fastTrue vtree xs 2000 4 (lfArgs 0 29) = true := by kernel_rfl
theorem run1_29 : fastTrue vtree xs 2000 4 (lfArgs 1 29) = true := by kernel_rfl
theorem run2_29 : fastTrue vtree xs 2000 4 (lfArgs 2 29) = true := by kernel_rfl
theorem run3_29 : fastTrue vtree xs 2000 4 (lfArgs 3 29) = true := by kernel_rfl
theorem run4_29 : fastTrue vtree xs 2000 4 (lfArgs 4 29) = true := by kernel_rfl
theorem run5_29 : fastTrue vtree xs 2000 4 (lfArgs 5 29) = true := by kernel_rfl
theorem run6_29 : fastTrue vtree xs 2000 4 (lfArgs 6 29) = true := by kernel_rfl
theorem run7_29 : fastTrue vtree xs 2000 4 (lfArgs 7 29) = true := by kernel_rfl
theorem run8_29 : fastTrue vtree xs 2000 4 (lfArgs 8 29) = true := by kernel_rfl
theorem run9_29 : fastTrue vtree xs 2000 4 (lfArgs 9 29) = true := by kernel_rfl
theorem run10_29 : fastTrue vtree xs 2000 4 (lfArgs 10 29) = true := by kernel_rfl
theorem run11_29 : fastTrue vtree xs 2000 4 (lfArgs 11 29) = true := by kernel_rfl
theorem run12_29 : fastTrue vtree xs 2000 4 (lfArgs 12 29) = true := by kernel_rfl
theorem run13_29 : fastTrue vtree xs 2000 4 (lfArgs 13 29) = true := by kernel_rfl
theorem run14_29 : fastTrue vtree xs 2000 4 (lfArgs 14 29) = true := by kernel_rfl
theorem run15_29 : fastTrue vtree xs 2000 4 (lfArgs 15 29) = true := by kernel_rfl
theorem runs29 : ∀ n : Nat, n < 16 → fastTrue vtree xs 2000 4 (lfArgs n 29) = true
  | 0, _ => run0_29
  | 1, _ => run1_29
  | 2, _ => run2_29
  | 3, _ => run3_29
  | 4, _ => run4_29
  | 5, _ => run5_29
  | 6, _ => run6_29
  | 7, _ => run7_29
  | 8, _ => run8_29
  | 9, _ => run9_29
  | 10, _ => run10_29
  | 11, _ => run11_29
  | 12, _ => run12_29
  | 13, _ => run13_29
  | 14, _ => run14_29
  | 15, _ => run15_29
  | _ + 16, h => by omega
theorem run0_30 : fastTrue vtree xs 2000 4 (lfArgs 0 30) = true := by kernel_rfl
theorem run1_30 : fastTrue vtree xs 2000 4 (lfArgs 1 30) = true := by kernel_rfl
theorem run2_30 : fastTrue vtree xs 2000 4 (lfArgs 2 30) = true := by kernel_rfl
theorem run3_30 : fastTrue vtree xs 2000 4 (lfArgs 3 30) = true := by kernel_rfl
theorem run4_30 : fastTrue vtree xs 2000 4 (lfArgs 4 30) = true := by kernel_rfl
theorem run5_30 : fastTrue vtree xs 2000 4 (lfArgs 5 30) = true := by kernel_rfl
theorem run6_30 : fastTrue vtree xs 2000 4 (lfArgs 6 30) = true := by kernel_rfl
theorem run7_30 : fastTrue vtree xs 2000 4 (lfArgs 7 30) = true := by kernel_rfl
theorem run8_30 : fastTrue vtree xs 2000 4 (lfArgs 8 30) = true := by kernel_rfl
theorem run9_30 : fastTrue vtree xs 2000 4 (lfArgs 9 30) = true := by kernel_rfl
theorem run10_30 : fastTrue vtree xs 2000 4 (lfArgs 10 30) = true := by kernel_rfl
theorem run11_30 : fastTrue vtree xs 2000 4 (lfArgs 11 30) = true := by kernel_rfl
theorem run12_30 : fastTrue vtree xs 2000 4 (lfArgs 12 30) = true := by kernel_rfl
theorem run13_30 : fastTrue vtree xs 2000 4 (lfArgs 13 30) = true := by kernel_rfl
theorem run14_30 : fastTrue vtree xs 2000 4 (lfArgs 14 30) = true := by kernel_rfl
theorem run15_30 : fastTrue vtree xs 2000 4 (lfArgs 15 30) = true := by kernel_rfl
theorem runs30 : ∀ n : Nat, n < 16 → fastTrue vtree xs 2000 4 (lfArgs n 30) = true
  | 0, _ => run0_30
  | 1, _ => run1_30
  | 2, _ => run2_30
  | 3, _ => run3_30
  | 4, _ => run4_30
  | 5, _ => run5_30
  | 6, _ => run6_30
  | 7, _ => run7_30
  | 8, _ => run8_30
  | 9, _ => run9_30
  | 10, _ => run10_30
  | 11, _ => run11_30
  | 12, _ => run12_30
  | 13, _ => run13_30
  | 14, _ => run14_30
  | 15, _ => run15_30
  | _ + 16, h => by omega
theorem run0_31 : fastTrue vtree xs 2000 4 (lfArgs 0 31) = true := by kernel_rfl
theorem run1_31 : fastTrue vtree xs 2000 4 (lfArgs 1 31) = true := by kernel_rfl
theorem run2_31 : fastTrue vtree xs 2000 4 (lfArgs 2 31) = true := by kernel_rfl
theorem run3_31 : fastTrue vtree xs 2000 4 (lfArgs 3 31) = true := by kernel_rfl
theorem run4_31 : fastTrue vtree xs 2000 4 (lfArgs 4 31) = true := by kernel_rfl
theorem run5_31 : fastTrue vtree xs 2000 4 (lfArgs 5 31) = true := by kernel_rfl
theorem run6_31 : fastTrue vtree xs 2000 4 (lfArgs 6 31) = true := by kernel_rfl
theorem run7_31 : fastTrue vtree xs 2000 4 (lfArgs 7 31) = true := by kernel_rfl
theorem run8_31 : fastTrue vtree xs 2000 4 (lfArgs 8 31) = true := by kernel_rfl
theorem run9_31 : fastTrue vtree xs 2000 4 (lfArgs 9 31) = true := by kernel_rfl
theorem run10_31 : fastTrue vtree xs 2000 4 (lfArgs 10 31) = true := by kernel_rfl
theorem run11_31 : fastTrue vtree xs 2000 4 (lfArgs 11 31) = true := by kernel_rfl
theorem run12_31 : fastTrue vtree xs 2000 4 (lfArgs 12 31) = true := by kernel_rfl
theorem run13_31 : fastTrue vtree xs 2000 4 (lfArgs 13 31) = true := by kernel_rfl
theorem run14_31 : fastTrue vtree xs 2000 4 (lfArgs 14 31) = true := by kernel_rfl
theorem run15_31 : fastTrue vtree xs 2000 4 (lfArgs 15 31) = true := by kernel_rfl
theorem runs31 : ∀ n : Nat, n < 16 → fastTrue vtree xs 2000 4 (lfArgs n 31) = true
  | 0, _ => run0_31
  | 1, _ => run1_31
  | 2, _ => run2_31
  | 3, _ => run3_31
  | 4, _ => run4_31
  | 5, _ => run5_31
  | 6, _ => run6_31
  | 7, _ => run7_31
  | 8, _ => run8_31
  | 9, _ => run9_31
  | 10, _ => run10_31
  | 11, _ => run11_31
  | 12, _ => run12_31
  | 13, _ => run13_31
  | 14, _ => run14_31
  | 15, _ => run15_31
  | _ + 16, h => by omega
end Go.Proofs.Ythefbgflndpggaa.LF
