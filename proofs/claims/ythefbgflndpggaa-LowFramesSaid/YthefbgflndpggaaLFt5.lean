/- LowFrames: the runs of words & 31 from 16 to 19. -/
import Derived.Test.YthefbgflndpggaaLFd
set_option linter.unusedSimpArgs false
set_option linter.unusedVariables false
namespace Go.Proofs.Ythefbgflndpggaa.LF
open Go.V
theorem run0_16 : fastTrue vtree xs 2000 4 (lfArgs 0 16) = true := by kernel_rfl
theorem run1_16 : fastTrue vtree xs 2000 4 (lfArgs 1 16) = true := by kernel_rfl
theorem run2_16 : fastTrue vtree xs 2000 4 (lfArgs 2 16) = true := by kernel_rfl
theorem run3_16 : fastTrue vtree xs 2000 4 (lfArgs 3 16) = true := by kernel_rfl
theorem run4_16 : fastTrue vtree xs 2000 4 (lfArgs 4 16) = true := by kernel_rfl
theorem run5_16 : fastTrue vtree xs 2000 4 (lfArgs 5 16) = true := by kernel_rfl
theorem run6_16 : fastTrue vtree xs 2000 4 (lfArgs 6 16) = true := by kernel_rfl
theorem run7_16 : fastTrue vtree xs 2000 4 (lfArgs 7 16) = true := by kernel_rfl
theorem run8_16 : fastTrue vtree xs 2000 4 (lfArgs 8 16) = true := by kernel_rfl
theorem run9_16 : fastTrue vtree xs 2000 4 (lfArgs 9 16) = true := by kernel_rfl
theorem run10_16 : fastTrue vtree xs 2000 4 (lfArgs 10 16) = true := by kernel_rfl
theorem run11_16 : fastTrue vtree xs 2000 4 (lfArgs 11 16) = true := by kernel_rfl
theorem run12_16 : fastTrue vtree xs 2000 4 (lfArgs 12 16) = true := by kernel_rfl
theorem run13_16 : fastTrue vtree xs 2000 4 (lfArgs 13 16) = true := by kernel_rfl
theorem run14_16 : fastTrue vtree xs 2000 4 (lfArgs 14 16) = true := by kernel_rfl
theorem run15_16 : fastTrue vtree xs 2000 4 (lfArgs 15 16) = true := by kernel_rfl
theorem runs16 : ∀ n : Nat, n < 16 → fastTrue vtree xs 2000 4 (lfArgs n 16) = true
  | 0, _ => run0_16
  | 1, _ => run1_16
  | 2, _ => run2_16
  | 3, _ => run3_16
  | 4, _ => run4_16
  | 5, _ => run5_16
  | 6, _ => run6_16
  | 7, _ => run7_16
  | 8, _ => run8_16
  | 9, _ => run9_16
  | 10, _ => run10_16
  | 11, _ => run11_16
  | 12, _ => run12_16
  | 13, _ => run13_16
  | 14, _ => run14_16
  | 15, _ => run15_16
  | _ + 16, h => by omega
theorem run0_17 : fastTrue vtree xs 2000 4 (lfArgs 0 17) = true := by kernel_rfl
theorem run1_17 : fastTrue vtree xs 2000 4 (lfArgs 1 17) = true := by kernel_rfl
theorem run2_17 : fastTrue vtree xs 2000 4 (lfArgs 2 17) = true := by kernel_rfl
theorem run3_17 : fastTrue vtree xs 2000 4 (lfArgs 3 17) = true := by kernel_rfl
theorem run4_17 : fastTrue vtree xs 2000 4 (lfArgs 4 17) = true := by kernel_rfl
theorem run5_17 : fastTrue vtree xs 2000 4 (lfArgs 5 17) = true := by kernel_rfl
theorem run6_17 : fastTrue vtree xs 2000 4 (lfArgs 6 17) = true := by kernel_rfl
theorem run7_17 : fastTrue vtree xs 2000 4 (lfArgs 7 17) = true := by kernel_rfl
theorem run8_17 : fastTrue vtree xs 2000 4 (lfArgs 8 17) = true := by kernel_rfl
theorem run9_17 : fastTrue vtree xs 2000 4 (lfArgs 9 17) = true := by kernel_rfl
theorem run10_17 : fastTrue vtree xs 2000 4 (lfArgs 10 17) = true := by kernel_rfl
theorem run11_17 : fastTrue vtree xs 2000 4 (lfArgs 11 17) = true := by kernel_rfl
theorem run12_17 : fastTrue vtree xs 2000 4 (lfArgs 12 17) = true := by kernel_rfl
theorem run13_17 : fastTrue vtree xs 2000 4 (lfArgs 13 17) = true := by kernel_rfl
theorem run14_17 : fastTrue vtree xs 2000 4 (lfArgs 14 17) = true := by kernel_rfl
theorem run15_17 : fastTrue vtree xs 2000 4 (lfArgs 15 17) = true := by kernel_rfl
theorem runs17 : ∀ n : Nat, n < 16 → fastTrue vtree xs 2000 4 (lfArgs n 17) = true
  | 0, _ => run0_17
  | 1, _ => run1_17
  | 2, _ => run2_17
  | 3, _ => run3_17
  | 4, _ => run4_17
  | 5, _ => run5_17
  | 6, _ => run6_17
  | 7, _ => run7_17
  | 8, _ => run8_17
  | 9, _ => run9_17
  | 10, _ => run10_17
  | 11, _ => run11_17
  | 12, _ => run12_17
  | 13, _ => run13_17
  | 14, _ => run14_17
  | 15, _ => run15_17
  | _ + 16, h => by omega
theorem run0_18 : fastTrue vtree xs 2000 4 (lfArgs 0 18) = true := by kernel_rfl
theorem run1_18 : fastTrue vtree xs 2000 4 (lfArgs 1 18) = true := by kernel_rfl
theorem run2_18 : fastTrue vtree xs 2000 4 (lfArgs 2 18) = true := by kernel_rfl
theorem run3_18 : fastTrue vtree xs 2000 4 (lfArgs 3 18) = true := by kernel_rfl
theorem run4_18 : fastTrue vtree xs 2000 4 (lfArgs 4 18) = true := by kernel_rfl
theorem run5_18 : fastTrue vtree xs 2000 4 (lfArgs 5 18) = true := by kernel_rfl
theorem run6_18 : fastTrue vtree xs 2000 4 (lfArgs 6 18) = true := by kernel_rfl
theorem run7_18 : fastTrue vtree xs 2000 4 (lfArgs 7 18) = true := by kernel_rfl
theorem run8_18 : fastTrue vtree xs 2000 4 (lfArgs 8 18) = true := by kernel_rfl
theorem run9_18 : fastTrue vtree xs 2000 4 (lfArgs 9 18) = true := by kernel_rfl
theorem run10_18 : fastTrue vtree xs 2000 4 (lfArgs 10 18) = true := by kernel_rfl
theorem run11_18 : fastTrue vtree xs 2000 4 (lfArgs 11 18) = true := by kernel_rfl
theorem run12_18 : fastTrue vtree xs 2000 4 (lfArgs 12 18) = true := by kernel_rfl
theorem run13_18 : fastTrue vtree xs 2000 4 (lfArgs 13 18) = true := by kernel_rfl
theorem run14_18 : fastTrue vtree xs 2000 4 (lfArgs 14 18) = true := by kernel_rfl
theorem run15_18 : fastTrue vtree xs 2000 4 (lfArgs 15 18) = true := by kernel_rfl
theorem runs18 : ∀ n : Nat, n < 16 → fastTrue vtree xs 2000 4 (lfArgs n 18) = true
  | 0, _ => run0_18
  | 1, _ => run1_18
  | 2, _ => run2_18
  | 3, _ => run3_18
  | 4, _ => run4_18
  | 5, _ => run5_18
  | 6, _ => run6_18
  | 7, _ => run7_18
  | 8, _ => run8_18
  | 9, _ => run9_18
  | 10, _ => run10_18
  | 11, _ => run11_18
  | 12, _ => run12_18
  | 13, _ => run13_18
  | 14, _ => run14_18
  | 15, _ => run15_18
  | _ + 16, h => by omega
theorem run0_19 : fastTrue vtree xs 2000 4 (lfArgs 0 19) = true := by kernel_rfl
theorem run1_19 : fastTrue vtree xs 2000 4 (lfArgs 1 19) = true := by kernel_rfl
theorem run2_19 : fastTrue vtree xs 2000 4 (lfArgs 2 19) = true := by kernel_rfl
theorem run3_19 : fastTrue vtree xs 2000 4 (lfArgs 3 19) = true := by kernel_rfl
theorem run4_19 : fastTrue vtree xs 2000 4 (lfArgs 4 19) = true := by kernel_rfl
theorem run5_19 : fastTrue vtree xs 2000 4 (lfArgs 5 19) = true := by kernel_rfl
theorem run6_19 : fastTrue vtree xs 2000 4 (lfArgs 6 19) = true := by kernel_rfl
theorem run7_19 : fastTrue vtree xs 2000 4 (lfArgs 7 19) = true := by kernel_rfl
theorem run8_19 : fastTrue vtree xs 2000 4 (lfArgs 8 19) = true := by kernel_rfl
theorem run9_19 : fastTrue vtree xs 2000 4 (lfArgs 9 19) = true := by kernel_rfl
theorem run10_19 : fastTrue vtree xs 2000 4 (lfArgs 10 19) = true := by kernel_rfl
theorem run11_19 : fastTrue vtree xs 2000 4 (lfArgs 11 19) = true := by kernel_rfl
theorem run12_19 : fastTrue vtree xs 2000 4 (lfArgs 12 19) = true := by kernel_rfl
theorem run13_19 : fastTrue vtree xs 2000 4 (lfArgs 13 19) = true := by kernel_rfl
theorem run14_19 : fastTrue vtree xs 2000 4 (lfArgs 14 19) = true := by kernel_rfl
theorem run15_19 : fastTrue vtree xs 2000 4 (lfArgs 15 19) = true := by kernel_rfl
theorem runs19 : ∀ n : Nat, n < 16 → fastTrue vtree xs 2000 4 (lfArgs n 19) = true
  | 0, _ => run0_19
  | 1, _ => run1_19
  | 2, _ => run2_19
  | 3, _ => run3_19
  | 4, _ => run4_19
  | 5, _ => run5_19
  | 6, _ => run6_19
  | 7, _ => run7_19
  | 8, _ => run8_19
  | 9, _ => run9_19
  | 10, _ => run10_19
  | 11, _ => run11_19
  | 12, _ => run12_19
  | 13, _ => run13_19
  | 14, _ => run14_19
  | 15, _ => run15_19
  | _ + 16, h => by omega
end Go.Proofs.Ythefbgflndpggaa.LF
