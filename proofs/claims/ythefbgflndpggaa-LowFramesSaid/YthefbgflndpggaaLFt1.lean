/- LowFrames: the runs of words & 31 from 0 to 3. -/
import Derived.Test.YthefbgflndpggaaLFd
set_option linter.unusedSimpArgs false
set_option linter.unusedVariables false
namespace Go.Proofs.Ythefbgflndpggaa.LF
open Go.V
theorem run0_0 : fastTrue vtree xs 2000 4 (lfArgs 0 0) = true := by kernel_rfl
theorem run1_0 : fastTrue vtree xs 2000 4 (lfArgs 1 0) = true := by kernel_rfl
theorem run2_0 : fastTrue vtree xs 2000 4 (lfArgs 2 0) = true := by kernel_rfl
theorem run3_0 : fastTrue vtree xs 2000 4 (lfArgs 3 0) = true := by kernel_rfl
theorem run4_0 : fastTrue vtree xs 2000 4 (lfArgs 4 0) = true := by kernel_rfl
theorem run5_0 : fastTrue vtree xs 2000 4 (lfArgs 5 0) = true := by kernel_rfl
theorem run6_0 : fastTrue vtree xs 2000 4 (lfArgs 6 0) = true := by kernel_rfl
theorem run7_0 : fastTrue vtree xs 2000 4 (lfArgs 7 0) = true := by kernel_rfl
theorem run8_0 : fastTrue vtree xs 2000 4 (lfArgs 8 0) = true := by kernel_rfl
theorem run9_0 : fastTrue vtree xs 2000 4 (lfArgs 9 0) = true := by kernel_rfl
theorem run10_0 : fastTrue vtree xs 2000 4 (lfArgs 10 0) = true := by kernel_rfl
theorem run11_0 : fastTrue vtree xs 2000 4 (lfArgs 11 0) = true := by kernel_rfl
theorem run12_0 : fastTrue vtree xs 2000 4 (lfArgs 12 0) = true := by kernel_rfl
theorem run13_0 : fastTrue vtree xs 2000 4 (lfArgs 13 0) = true := by kernel_rfl
theorem run14_0 : fastTrue vtree xs 2000 4 (lfArgs 14 0) = true := by kernel_rfl
theorem run15_0 : fastTrue vtree xs 2000 4 (lfArgs 15 0) = true := by kernel_rfl
theorem runs0 : ∀ n : Nat, n < 16 → fastTrue vtree xs 2000 4 (lfArgs n 0) = true
  | 0, _ => run0_0
  | 1, _ => run1_0
  | 2, _ => run2_0
  | 3, _ => run3_0
  | 4, _ => run4_0
  | 5, _ => run5_0
  | 6, _ => run6_0
  | 7, _ => run7_0
  | 8, _ => run8_0
  | 9, _ => run9_0
  | 10, _ => run10_0
  | 11, _ => run11_0
  | 12, _ => run12_0
  | 13, _ => run13_0
  | 14, _ => run14_0
  | 15, _ => run15_0
  | _ + 16, h => by omega
theorem run0_1 : fastTrue vtree xs 2000 4 (lfArgs 0 1) = true := by kernel_rfl
theorem run1_1 : fastTrue vtree xs 2000 4 (lfArgs 1 1) = true := by kernel_rfl
theorem run2_1 : fastTrue vtree xs 2000 4 (lfArgs 2 1) = true := by kernel_rfl
theorem run3_1 : fastTrue vtree xs 2000 4 (lfArgs 3 1) = true := by kernel_rfl
theorem run4_1 : fastTrue vtree xs 2000 4 (lfArgs 4 1) = true := by kernel_rfl
theorem run5_1 : fastTrue vtree xs 2000 4 (lfArgs 5 1) = true := by kernel_rfl
theorem run6_1 : fastTrue vtree xs 2000 4 (lfArgs 6 1) = true := by kernel_rfl
theorem run7_1 : fastTrue vtree xs 2000 4 (lfArgs 7 1) = true := by kernel_rfl
theorem run8_1 : fastTrue vtree xs 2000 4 (lfArgs 8 1) = true := by kernel_rfl
theorem run9_1 : fastTrue vtree xs 2000 4 (lfArgs 9 1) = true := by kernel_rfl
theorem run10_1 : fastTrue vtree xs 2000 4 (lfArgs 10 1) = true := by kernel_rfl
theorem run11_1 : fastTrue vtree xs 2000 4 (lfArgs 11 1) = true := by kernel_rfl
theorem run12_1 : fastTrue vtree xs 2000 4 (lfArgs 12 1) = true := by kernel_rfl
theorem run13_1 : fastTrue vtree xs 2000 4 (lfArgs 13 1) = true := by kernel_rfl
theorem run14_1 : fastTrue vtree xs 2000 4 (lfArgs 14 1) = true := by kernel_rfl
theorem run15_1 : fastTrue vtree xs 2000 4 (lfArgs 15 1) = true := by kernel_rfl
theorem runs1 : ∀ n : Nat, n < 16 → fastTrue vtree xs 2000 4 (lfArgs n 1) = true
  | 0, _ => run0_1
  | 1, _ => run1_1
  | 2, _ => run2_1
  | 3, _ => run3_1
  | 4, _ => run4_1
  | 5, _ => run5_1
  | 6, _ => run6_1
  | 7, _ => run7_1
  | 8, _ => run8_1
  | 9, _ => run9_1
  | 10, _ => run10_1
  | 11, _ => run11_1
  | 12, _ => run12_1
  | 13, _ => run13_1
  | 14, _ => run14_1
  | 15, _ => run15_1
  | _ + 16, h => by omega
theorem run0_2 : fastTrue vtree xs 2000 4 (lfArgs 0 2) = true := by kernel_rfl
theorem run1_2 : fastTrue vtree xs 2000 4 (lfArgs 1 2) = true := by kernel_rfl
theorem run2_2 : fastTrue vtree xs 2000 4 (lfArgs 2 2) = true := by kernel_rfl
theorem run3_2 : fastTrue vtree xs 2000 4 (lfArgs 3 2) = true := by kernel_rfl
theorem run4_2 : fastTrue vtree xs 2000 4 (lfArgs 4 2) = true := by kernel_rfl
theorem run5_2 : fastTrue vtree xs 2000 4 (lfArgs 5 2) = true := by kernel_rfl
theorem run6_2 : fastTrue vtree xs 2000 4 (lfArgs 6 2) = true := by kernel_rfl
theorem run7_2 : fastTrue vtree xs 2000 4 (lfArgs 7 2) = true := by kernel_rfl
theorem run8_2 : fastTrue vtree xs 2000 4 (lfArgs 8 2) = true := by kernel_rfl
theorem run9_2 : fastTrue vtree xs 2000 4 (lfArgs 9 2) = true := by kernel_rfl
theorem run10_2 : fastTrue vtree xs 2000 4 (lfArgs 10 2) = true := by kernel_rfl
theorem run11_2 : fastTrue vtree xs 2000 4 (lfArgs 11 2) = true := by kernel_rfl
theorem run12_2 : fastTrue vtree xs 2000 4 (lfArgs 12 2) = true := by kernel_rfl
theorem run13_2 : fastTrue vtree xs 2000 4 (lfArgs 13 2) = true := by kernel_rfl
theorem run14_2 : fastTrue vtree xs 2000 4 (lfArgs 14 2) = true := by kernel_rfl
theorem run15_2 : fastTrue vtree xs 2000 4 (lfArgs 15 2) = true := by kernel_rfl
theorem runs2 : ∀ n : Nat, n < 16 → fastTrue vtree xs 2000 4 (lfArgs n 2) = true
  | 0, _ => run0_2
  | 1, _ => run1_2
  | 2, _ => run2_2
  | 3, _ => run3_2
  | 4, _ => run4_2
  | 5, _ => run5_2
  | 6, _ => run6_2
  | 7, _ => run7_2
  | 8, _ => run8_2
  | 9, _ => run9_2
  | 10, _ => run10_2
  | 11, _ => run11_2
  | 12, _ => run12_2
  | 13, _ => run13_2
  | 14, _ => run14_2
  | 15, _ => run15_2
  | _ + 16, h => by omega
theorem run0_3 : fastTrue vtree xs 2000 4 (lfArgs 0 3) = true := by kernel_rfl
theorem run1_3 : fastTrue vtree xs 2000 4 (lfArgs 1 3) = true := by kernel_rfl
theorem run2_3 : fastTrue vtree xs 2000 4 (lfArgs 2 3) = true := by kernel_rfl
theorem run3_3 : fastTrue vtree xs 2000 4 (lfArgs 3 3) = true := by kernel_rfl
theorem run4_3 : fastTrue vtree xs 2000 4 (lfArgs 4 3) = true := by kernel_rfl
theorem run5_3 : fastTrue vtree xs 2000 4 (lfArgs 5 3) = true := by kernel_rfl
theorem run6_3 : fastTrue vtree xs 2000 4 (lfArgs 6 3) = true := by kernel_rfl
theorem run7_3 : fastTrue vtree xs 2000 4 (lfArgs 7 3) = true := by kernel_rfl
theorem run8_3 : fastTrue vtree xs 2000 4 (lfArgs 8 3) = true := by kernel_rfl
theorem run9_3 : fastTrue vtree xs 2000 4 (lfArgs 9 3) = true := by kernel_rfl
theorem run10_3 : fastTrue vtree xs 2000 4 (lfArgs 10 3) = true := by kernel_rfl
theorem run11_3 : fastTrue vtree xs 2000 4 (lfArgs 11 3) = true := by kernel_rfl
theorem run12_3 : fastTrue vtree xs 2000 4 (lfArgs 12 3) = true := by kernel_rfl
theorem run13_3 : fastTrue vtree xs 2000 4 (lfArgs 13 3) = true := by kernel_rfl
theorem run14_3 : fastTrue vtree xs 2000 4 (lfArgs 14 3) = true := by kernel_rfl
theorem run15_3 : fastTrue vtree xs 2000 4 (lfArgs 15 3) = true := by kernel_rfl
theorem runs3 : ∀ n : Nat, n < 16 → fastTrue vtree xs 2000 4 (lfArgs n 3) = true
  | 0, _ => run0_3
  | 1, _ => run1_3
  | 2, _ => run2_3
  | 3, _ => run3_3
  | 4, _ => run4_3
  | 5, _ => run5_3
  | 6, _ => run6_3
  | 7, _ => run7_3
  | 8, _ => run8_3
  | 9, _ => run9_3
  | 10, _ => run10_3
  | 11, _ => run11_3
  | 12, _ => run12_3
  | 13, _ => run13_3
  | 14, _ => run14_3
  | 15, _ => run15_3
  | _ + 16, h => by omega
end Go.Proofs.Ythefbgflndpggaa.LF
