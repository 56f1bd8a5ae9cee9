/- LowFrames: the runs of words & 31 from 8 to 11. -/
import Derived.Test.YthefbgflndpggaaLFd
set_option linter.unusedSimpArgs false
set_option linter.unusedVariables false
namespace Go.Proofs.Ythefbgflndpggaa.LF
open Go.V
theorem run0_8 : fastTrue vtree xs 2000 4 (lfArgs 0 8) = true := by kernel_rfl
theorem run1_8 : fastTrue vtree xs 2000 4 (lfArgs 1 8) = true := by kernel_rfl
theorem run2_8 : fastTrue vtree xs 2000 4 (lfArgs 2 8) = true := by kernel_rfl
theorem run3_8 : fastTrue vtree xs 2000 4 (lfArgs 3 8) = true := by kernel_rfl
theorem run4_8 : fastTrue vtree xs 2000 4 (lfArgs 4 8) = true := by kernel_rfl
theorem run5_8 : fastTrue vtree xs 2000 4 (lfArgs 5 8) = true := by kernel_rfl
theorem run6_8 : fastTrue vtree xs 2000 4 (lfArgs 6 8) = true := by kernel_rfl
theorem run7_8 : fastTrue vtree xs 2000 4 (lfArgs 7 8) = true := by kernel_rfl
theorem run8_8 : fastTrue vtree xs 2000 4 (lfArgs 8 8) = true := by kernel_rfl
theorem run9_8 : fastTrue vtree xs 2000 4 (lfArgs 9 8) = true := by kernel_rfl
theorem run10_8 : fastTrue vtree xs 2000 4 (lfArgs 10 8) = true := by kernel_rfl
theorem run11_8 : fastTrue vtree xs 2000 4 (lfArgs 11 8) = true := by kernel_rfl
theorem run12_8 : fastTrue vtree xs 2000 4 (lfArgs 12 8) = true := by kernel_rfl
theorem run13_8 : fastTrue vtree xs 2000 4 (lfArgs 13 8) = true := by kernel_rfl
theorem run14_8 : fastTrue vtree xs 2000 4 (lfArgs 14 8) = true := by kernel_rfl
theorem run15_8 : fastTrue vtree xs 2000 4 (lfArgs 15 8) = true := by kernel_rfl
theorem runs8 : ∀ n : Nat, n < 16 → fastTrue vtree xs 2000 4 (lfArgs n 8) = true
  | 0, _ => run0_8
  | 1, _ => run1_8
  | 2, _ => run2_8
  | 3, _ => run3_8
  | 4, _ => run4_8
  | 5, _ => run5_8
  | 6, _ => run6_8
  | 7, _ => run7_8
  | 8, _ => run8_8
  | 9, _ => run9_8
  | 10, _ => run10_8
  | 11, _ => run11_8
  | 12, _ => run12_8
  | 13, _ => run13_8
  | 14, _ => run14_8
  | 15, _ => run15_8
  | _ + 16, h => by omega
theorem run0_9 : fastTrue vtree xs 2000 4 (lfArgs 0 9) = true := by kernel_rfl
theorem run1_9 : fastTrue vtree xs 2000 4 (lfArgs 1 9) = true := by kernel_rfl
theorem run2_9 : fastTrue vtree xs 2000 4 (lfArgs 2 9) = true := by kernel_rfl
theorem run3_9 : fastTrue vtree xs 2000 4 (lfArgs 3 9) = true := by kernel_rfl
theorem run4_9 : fastTrue vtree xs 2000 4 (lfArgs 4 9) = true := by kernel_rfl
theorem run5_9 : fastTrue vtree xs 2000 4 (lfArgs 5 9) = true := by kernel_rfl
theorem run6_9 : fastTrue vtree xs 2000 4 (lfArgs 6 9) = true := by kernel_rfl
theorem run7_9 : fastTrue vtree xs 2000 4 (lfArgs 7 9) = true := by kernel_rfl
theorem run8_9 : fastTrue vtree xs 2000 4 (lfArgs 8 9) = true := by kernel_rfl
theorem run9_9 : fastTrue vtree xs 2000 4 (lfArgs 9 9) = true := by kernel_rfl
theorem run10_9 : fastTrue vtree xs 2000 4 (lfArgs 10 9) = true := by kernel_rfl
theorem run11_9 : fastTrue vtree xs 2000 4 (lfArgs 11 9) = true := by kernel_rfl
theorem run12_9 : fastTrue vtree xs 2000 4 (lfArgs 12 9) = true := by kernel_rfl
theorem run13_9 : fastTrue vtree xs 2000 4 (lfArgs 13 9) = true := by kernel_rfl
theorem run14_9 : fastTrue vtree xs 2000 4 (lfArgs 14 9) = true := by kernel_rfl
theorem run15_9 : fastTrue vtree xs 2000 4 (lfArgs 15 9) = true := by kernel_rfl
theorem runs9 : ∀ n : Nat, n < 16 → fastTrue vtree xs 2000 4 (lfArgs n 9) = true
  | 0, _ => run0_9
  | 1, _ => run1_9
  | 2, _ => run2_9
  | 3, _ => run3_9
  | 4, _ => run4_9
  | 5, _ => run5_9
  | 6, _ => run6_9
  | 7, _ => run7_9
  | 8, _ => run8_9
  | 9, _ => run9_9
  | 10, _ => run10_9
  | 11, _ => run11_9
  | 12, _ => run12_9
  | 13, _ => run13_9
  | 14, _ => run14_9
  | 15, _ => run15_9
  | _ + 16, h => by omega
theorem run0_10 : fastTrue vtree xs 2000 4 (lfArgs 0 10) = true := by kernel_rfl
theorem run1_10 : fastTrue vtree xs 2000 4 (lfArgs 1 10) = true := by kernel_rfl
theorem run2_10 : fastTrue vtree xs 2000 4 (lfArgs 2 10) = true := by kernel_rfl
theorem run3_10 : fastTrue vtree xs 2000 4 (lfArgs 3 10) = true := by kernel_rfl
theorem run4_10 : fastTrue vtree xs 2000 4 (lfArgs 4 10) = true := by kernel_rfl
theorem run5_10 : fastTrue vtree xs 2000 4 (lfArgs 5 10) = true := by kernel_rfl
theorem run6_10 : fastTrue vtree xs 2000 4 (lfArgs 6 10) = true := by kernel_rfl
theorem run7_10 : fastTrue vtree xs 2000 4 (lfArgs 7 10) = true := by kernel_rfl
theorem run8_10 : fastTrue vtree xs 2000 4 (lfArgs 8 10) = true := by kernel_rfl
theorem run9_10 : fastTrue vtree xs 2000 4 (lfArgs 9 10) = true := by kernel_rfl
theorem run10_10 : fastTrue vtree xs 2000 4 (lfArgs 10 10) = true := by kernel_rfl
theorem run11_10 : fastTrue vtree xs 2000 4 (lfArgs 11 10) = true := by kernel_rfl
theorem run12_10 : fastTrue vtree xs 2000 4 (lfArgs 12 10) = true := by kernel_rfl
theorem run13_10 : fastTrue vtree xs 2000 4 (lfArgs 13 10) = true := by kernel_rfl
theorem run14_10 : fastTrue vtree xs 2000 4 (lfArgs 14 10) = true := by kernel_rfl
theorem run15_10 : fastTrue vtree xs 2000 4 (lfArgs 15 10) = true := by kernel_rfl
theorem runs10 : ∀ n : Nat, n < 16 → fastTrue vtree xs 2000 4 (lfArgs n 10) = true
  | 0, _ => run0_10
  | 1, _ => run1_10
  | 2, _ => run2_10
  | 3, _ => run3_10
  | 4, _ => run4_10
  | 5, _ => run5_10
  | 6, _ => run6_10
  | 7, _ => run7_10
  | 8, _ => run8_10
  | 9, _ => run9_10
  | 10, _ => run10_10
  | 11, _ => run11_10
  | 12, _ => run12_10
  | 13, _ => run13_10
  | 14, _ => run14_10
  | 15, _ => run15_10
  | _ + 16, h => by omega
theorem run0_11 : fastTrue vtree xs 2000 4 (lfArgs 0 11) = true := by kernel_rfl
theorem run1_11 : fastTrue vtree xs 2000 4 (lfArgs 1 11) = true := by kernel_rfl
theorem run2_11 : fastTrue vtree xs 2000 4 (lfArgs 2 11) = true := by kernel_rfl
theorem run3_11 : fastTrue vtree xs 2000 4 (lfArgs 3 11) = true := by kernel_rfl
theorem run4_11 : fastTrue vtree xs 2000 4 (lfArgs 4 11) = true := by kernel_rfl
theorem run5_11 : fastTrue vtree xs 2000 4 (lfArgs 5 11) = true := by kernel_rfl
theorem run6_11 : fastTrue vtree xs 2000 4 (lfArgs 6 11) = true := by kernel_rfl
theorem run7_11 : fastTrue vtree xs 2000 4 (lfArgs 7 11) = true := by kernel_rfl
theorem run8_11 : fastTrue vtree xs 2000 4 (lfArgs 8 11) = true := by kernel_rfl
theorem run9_11 : fastTrue vtree xs 2000 4 (lfArgs 9 11) = true := by kernel_rfl
theorem run10_11 : fastTrue vtree xs 2000 4 (lfArgs 10 11) = true := by kernel_rfl
theorem run11_11 : fastTrue vtree xs 2000 4 (lfArgs 11 11) = true := by kernel_rfl
theorem run12_11 : fastTrue vtree xs 2000 4 (lfArgs 12 11) = true := by kernel_rfl
theorem run13_11 : fastTrue vtree xs 2000 4 (lfArgs 13 11) = true := by kernel_rfl
theorem run14_11 : fastTrue vtree xs 2000 4 (lfArgs 14 11) = true := by kernel_rfl
theorem run15_11 : fastTrue vtree xs 2000 4 (lfArgs 15 11) = true := by kernel_rfl
theorem runs11 : ∀ n : Nat, n < 16 → fastTrue vtree xs 2000 4 (lfArgs n 11) = true
  | 0, _ => run0_11
  | 1, _ => run1_11
  | 2, _ => run2_11
  | 3, _ => run3_11
  | 4, _ => run4_11
  | 5, _ => run5_11
  | 6, _ => run6_11
  | 7, _ => run7_11
  | 8, _ => run8_11
  | 9, _ => run9_11
  | 10, _ => run10_11
  | 11, _ => run11_11
  | 12, _ => run12_11
  | 13, _ => run13_11
  | 14, _ => run14_11
  | 15, _ => run15_11
  | _ + 16, h => by omega
end Go.Proofs.Ythefbgflndpggaa.LF
