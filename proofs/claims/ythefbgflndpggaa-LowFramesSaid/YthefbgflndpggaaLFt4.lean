/- LowFrames: the runs of words & 31 from 12 to 15. -/
import Derived.Test.YthefbgflndpggaaLFd
set_option linter.unusedSimpArgs false
set_option linter.unusedVariables false
namespace Go.Proofs.Ythefbgflndpggaa.LF
open Go.V
theorem run0_12 : fastTrue vtree xs 2000 4 (lfArgs 0 12) = true := by kernel_rfl
theorem run1_12 : fastTrue vtree xs 2000 4 (lfArgs 1 12) = true := by kernel_rfl
theorem run2_12 : fastTrue vtree xs 2000 4 (lfArgs 2 12) = true := by kernel_rfl
theorem run3_12 : fastTrue vtree xs 2000 4 (lfArgs 3 12) = true := by kernel_rfl
theorem run4_12 : fastTrue vtree xs 2000 4 (lfArgs 4 12) = true := by kernel_rfl
theorem run5_12 : fastTrue vtree xs 2000 4 (lfArgs 5 12) = true := by kernel_rfl
theorem run6_12 : fastTrue vtree xs 2000 4 (lfArgs 6 12) = true := by kernel_rfl
theorem run7_12 : fastTrue vtree xs 2000 4 (lfArgs 7 12) = true := by kernel_rfl
theorem run8_12 : fastTrue vtree xs 2000 4 (lfArgs 8 12) = true := by kernel_rfl
theorem run9_12 : fastTrue vtree xs 2000 4 (lfArgs 9 12) = true := by kernel_rfl
theorem run10_12 : fastTrue vtree xs 2000 4 (lfArgs 10 12) = true := by kernel_rfl
theorem run11_12 : fastTrue vtree xs 2000 4 (lfArgs 11 12) = true := by kernel_rfl
theorem run12_12 : fastTrue vtree xs 2000 4 (lfArgs 12 12) = true := by kernel_rfl
theorem run13_12 : fastTrue vtree xs 2000 4 (lfArgs 13 12) = true := by kernel_rfl
theorem run14_12 : fastTrue vtree xs 2000 4 (lfArgs 14 12) = true := by kernel_rfl
theorem run15_12 : fastTrue vtree xs 2000 4 (lfArgs 15 12) = true := by kernel_rfl
theorem runs12 : ∀ n : Nat, n < 16 → fastTrue vtree xs 2000 4 (lfArgs n 12) = true
  | 0, _ => run0_12
  | 1, _ => run1_12
  | 2, _ => run2_12
  | 3, _ => run3_12
  | 4, _ => run4_12
  | 5, _ => run5_12
  | 6, _ => run6_12
  | 7, _ => run7_12
  | 8, _ => run8_12
  | 9, _ => run9_12
  | 10, _ => run10_12
  | 11, _ => run11_12
  | 12, _ => run12_12
  | 13, _ => run13_12
  | 14, _ => run14_12
  | 15, _ => run15_12
  | _ + 16, h => by omega
theorem run0_13 : fastTrue vtree xs 2000 4 (lfArgs 0 13) = true := by kernel_rfl
theorem run1_13 : fastTrue vtree xs 2000 4 (lfArgs 1 13) = true := by kernel_rfl
theorem run2_13 : fastTrue vtree xs 2000 4 (lfArgs 2 13) = true := by kernel_rfl
theorem run3_13 : fastTrue vtree xs 2000 4 (lfArgs 3 13) = true := by kernel_rfl
theorem run4_13 : fastTrue vtree xs 2000 4 (lfArgs 4 13) = true := by kernel_rfl
theorem run5_13 : fastTrue vtree xs 2000 4 (lfArgs 5 13) = true := by kernel_rfl
theorem run6_13 : fastTrue vtree xs 2000 4 (lfArgs 6 13) = true := by kernel_rfl
theorem run7_13 : fastTrue vtree xs 2000 4 (lfArgs 7 13) = true := by kernel_rfl
theorem run8_13 : fastTrue vtree xs 2000 4 (lfArgs 8 13) = true := by kernel_rfl
theorem run9_13 : fastTrue vtree xs 2000 4 (lfArgs 9 13) = true := by kernel_rfl
theorem run10_13 : fastTrue vtree xs 2000 4 (lfArgs 10 13) = true := by kernel_rfl
theorem run11_13 : fastTrue vtree xs 2000 4 (lfArgs 11 13) = true := by kernel_rfl
theorem run12_13 : fastTrue vtree xs 2000 4 (lfArgs 12 13) = true := by kernel_rfl
theorem run13_13 : fastTrue vtree xs 2000 4 (lfArgs 13 13) = true := by kernel_rfl
theorem run14_13 : fastTrue vtree xs 2000 4 (lfArgs 14 13) = true := by kernel_rfl
theorem run15_13 : fastTrue vtree xs 2000 4 (lfArgs 15 13) = true := by kernel_rfl
theorem runs13 : ∀ n : Nat, n < 16 → fastTrue vtree xs 2000 4 (lfArgs n 13) = true
  | 0, _ => run0_13
  | 1, _ => run1_13
  | 2, _ => run2_13
  | 3, _ => run3_13
  | 4, _ => run4_13
  | 5, _ => run5_13
  | 6, _ => run6_13
  | 7, _ => run7_13
  | 8, _ => run8_13
  | 9, _ => run9_13
  | 10, _ => run10_13
  | 11, _ => run11_13
  | 12, _ => run12_13
  | 13, _ => run13_13
  | 14, _ => run14_13
  | 15, _ => run15_13
  | _ + 16, h => by omega
theorem run0_14 : fastTrue vtree xs 2000 4 (lfArgs 0 14) = true := by kernel_rfl
theorem run1_14 : fastTrue vtree xs 2000 4 (lfArgs 1 14) = true := by kernel_rfl
theorem run2_14 : fastTrue vtree xs 2000 4 (lfArgs 2 14) = true := by kernel_rfl
theorem run3_14 : fastTrue vtree xs 2000 4 (lfArgs 3 14) = true := by kernel_rfl
theorem run4_14 : fastTrue vtree xs 2000 4 (lfArgs 4 14) = true := by kernel_rfl
theorem run5_14 : fastTrue vtree xs 2000 4 (lfArgs 5 14) = true := by kernel_rfl
theorem run6_14 : fastTrue vtree xs 2000 4 (lfArgs 6 14) = true := by kernel_rfl
theorem run7_14 : fastTrue vtree xs 2000 4 (lfArgs 7 14) = true := by kernel_rfl
theorem run8_14 : fastTrue vtree xs 2000 4 (lfArgs 8 14) = true := by kernel_rfl
theorem run9_14 : fastTrue vtree xs 2000 4 (lfArgs 9 14) = true := by kernel_rfl
theorem run10_14 : fastTrue vtree xs 2000 4 (lfArgs 10 14) = true := by kernel_rfl
theorem run11_14 : fastTrue vtree xs 2000 4 (lfArgs 11 14) = true := by kernel_rfl
theorem run12_14 : fastTrue vtree xs 2000 4 (lfArgs 12 14) = true := by kernel_rfl
theorem run13_14 : fastTrue vtree xs 2000 4 (lfArgs 13 14) = true := by kernel_rfl
theorem run14_14 : fastTrue vtree xs 2000 4 (lfArgs 14 14) = true := by kernel_rfl
theorem run15_14 : fastTrue vtree xs 2000 4 (lfArgs 15 14) = true := by kernel_rfl
theorem runs14 : ∀ n : Nat, n < 16 → fastTrue vtree xs 2000 4 (lfArgs n 14) = true
  | 0, _ => run0_14
  | 1, _ => run1_14
  | 2, _ => run2_14
  | 3, _ => run3_14
  | 4, _ => run4_14
  | 5, _ => run5_14
  | 6, _ => run6_14
  | 7, _ => run7_14
  | 8, _ => run8_14
  | 9, _ => run9_14
  | 10, _ => run10_14
  | 11, _ => run11_14
  | 12, _ => run12_14
  | 13, _ => run13_14
  | 14, _ => run14_14
  | 15, _ => run15_14
  | _ + 16, h => by omega
theorem run0_15 : fastTrue vtree xs 2000 4 (lfArgs 0 15) = true := by kernel_rfl
theorem run1_15 : fastTrue vtree xs 2000 4 (lfArgs 1 15) = true := by kernel_rfl
theorem run2_15 : fastTrue vtree xs 2000 4 (lfArgs 2 15) = true := by kernel_rfl
theorem run3_15 : fastTrue vtree xs 2000 4 (lfArgs 3 15) = true := by kernel_rfl
theorem run4_15 : fastTrue vtree xs 2000 4 (lfArgs 4 15) = true := by kernel_rfl
theorem run5_15 : fastTrue vtree xs 2000 4 (lfArgs 5 15) = true := by kernel_rfl
theorem run6_15 : fastTrue vtree xs 2000 4 (lfArgs 6 15) = true := by kernel_rfl
theorem run7_15 : fastTrue vtree xs 2000 4 (lfArgs 7 15) = true := by kernel_rfl
theorem run8_15 : fastTrue vtree xs 2000 4 (lfArgs 8 15) = true := by kernel_rfl
theorem run9_15 : fastTrue vtree xs 2000 4 (lfArgs 9 15) = true := by kernel_rfl
theorem run10_15 : fastTrue vtree xs 2000 4 (lfArgs 10 15) = true := by kernel_rfl
theorem run11_15 : fastTrue vtree xs 2000 4 (lfArgs 11 15) = true := by kernel_rfl
theorem run12_15 : fastTrue vtree xs 2000 4 (lfArgs 12 15) = true := by kernel_rfl
theorem run13_15 : fastTrue vtree xs 2000 4 (lfArgs 13 15) = true := by kernel_rfl
theorem run14_15 : fastTrue vtree xs 2000 4 (lfArgs 14 15) = true := by kernel_rfl
theorem run15_15 : fastTrue vtree xs 2000 4 (lfArgs 15 15) = true := by kernel_rfl
theorem runs15 : ∀ n : Nat, n < 16 → fastTrue vtree xs 2000 4 (lfArgs n 15) = true
  | 0, _ => run0_15
  | 1, _ => run1_15
  | 2, _ => run2_15
  | 3, _ => run3_15
  | 4, _ => run4_15
  | 5, _ => run5_15
  | 6, _ => run6_15
  | 7, _ => run7_15
  | 8, _ => run8_15
  | 9, _ => run9_15
  | 10, _ => run10_15
  | 11, _ => run11_15
  | 12, _ => run12_15
  | 13, _ => run13_15
  | 14, _ => run14_15
  | 15, _ => run15_15
  | _ + 16, h => by omega
end Go.Proofs.Ythefbgflndpggaa.LF
