/- LowFrames: the runs of words & 31 from 20 to 23. -/
import Derived.Test.YthefbgflndpggaaLFd
set_option linter.unusedSimpArgs false
set_option linter.unusedVariables false
namespace Go.Proofs.Ythefbgflndpggaa.LF
open Go.V
theorem run0_20 : fastTrue vtree xs 2000 4 (lfArgs 0 20) = true := by kernel_rfl
theorem run1_20 : fastTrue vtree xs 2000 4 (lfArgs 1 20) = true := by kernel_rfl
theorem run2_20 : fastTrue vtree xs 2000 4 (lfArgs 2 20) = true := by kernel_rfl
theorem run3_20 : fastTrue vtree xs 2000 4 (lfArgs 3 20) = true := by kernel_rfl
theorem run4_20 : fastTrue vtree xs 2000 4 (lfArgs 4 20) = true := by kernel_rfl
theorem run5_20 : fastTrue vtree xs 2000 4 (lfArgs 5 20) = true := by kernel_rfl
theorem run6_20 : fastTrue vtree xs 2000 4 (lfArgs 6 20) = true := by kernel_rfl
theorem run7_20 : fastTrue vtree xs 2000 4 (lfArgs 7 20) = true := by kernel_rfl
theorem run8_20 : fastTrue vtree xs 2000 4 (lfArgs 8 20) = true := by kernel_rfl
theorem run9_20 : fastTrue vtree xs 2000 4 (lfArgs 9 20) = true := by kernel_rfl
theorem run10_20 : fastTrue vtree xs 2000 4 (lfArgs 10 20) = true := by kernel_rfl
theorem run11_20 : fastTrue vtree xs 2000 4 (lfArgs 11 20) = true := by kernel_rfl
theorem run12_20 : fastTrue vtree xs 2000 4 (lfArgs 12 20) = true := by kernel_rfl
theorem run13_20 : fastTrue vtree xs 2000 4 (lfArgs 13 20) = true := by kernel_rfl
theorem run14_20 : fastTrue vtree xs 2000 4 (lfArgs 14 20) = true := by kernel_rfl
theorem run15_20 : fastTrue vtree xs 2000 4 (lfArgs 15 20) = true := by kernel_rfl
theorem runs20 : ∀ n : Nat, n < 16 → fastTrue vtree xs 2000 4 (lfArgs n 20) = true
  | 0, _ => run0_20
  | 1, _ => run1_20
  | 2, _ => run2_20
  | 3, _ => run3_20
  | 4, _ => run4_20
  | 5, _ => run5_20
  | 6, _ => run6_20
  | 7, _ => run7_20
  | 8, _ => run8_20
  | 9, _ => run9_20
  | 10, _ => run10_20
  | 11, _ => run11_20
  | 12, _ => run12_20
  | 13, _ => run13_20
  | 14, _ => run14_20
  | 15, _ => run15_20
  | _ + 16, h => by omega
theorem run0_21 : fastTrue vtree xs 2000 4 (lfArgs 0 21) = true := by kernel_rfl
theorem run1_21 : fastTrue vtree xs 2000 4 (lfArgs 1 21) = true := by kernel_rfl
theorem run2_21 : fastTrue vtree xs 2000 4 (lfArgs 2 21) = true := by kernel_rfl
theorem run3_21 : fastTrue vtree xs 2000 4 (lfArgs 3 21) = true := by kernel_rfl
theorem run4_21 : fastTrue vtree xs 2000 4 (lfArgs 4 21) = true := by kernel_rfl
theorem run5_21 : fastTrue vtree xs 2000 4 (lfArgs 5 21) = true := by kernel_rfl
theorem run6_21 : fastTrue vtree xs 2000 4 (lfArgs 6 21) = true := by kernel_rfl
theorem run7_21 : fastTrue vtree xs 2000 4 (lfArgs 7 21) = true := by kernel_rfl
theorem run8_21 : fastTrue vtree xs 2000 4 (lfArgs 8 21) = true := by kernel_rfl
theorem run9_21 : fastTrue vtree xs 2000 4 (lfArgs 9 21) = true := by kernel_rfl
theorem run10_21 : fastTrue vtree xs 2000 4 (lfArgs 10 21) = true := by kernel_rfl
theorem run11_21 : fastTrue vtree xs 2000 4 (lfArgs 11 21) = true := by kernel_rfl
theorem run12_21 : fastTrue vtree xs 2000 4 (lfArgs 12 21) = true := by kernel_rfl
theorem run13_21 : fastTrue vtree xs 2000 4 (lfArgs 13 21) = true := by kernel_rfl
theorem run14_21 : fastTrue vtree xs 2000 4 (lfArgs 14 21) = true := by kernel_rfl
theorem run15_21 : fastTrue vtree xs 2000 4 (lfArgs 15 21) = true := by kernel_rfl
theorem runs21 : ∀ n : Nat, n < 16 → fastTrue vtree xs 2000 4 (lfArgs n 21) = true
  | 0, _ => run0_21
  | 1, _ => run1_21
  | 2, _ => run2_21
  | 3, _ => run3_21
  | 4, _ => run4_21
  | 5, _ => run5_21
  | 6, _ => run6_21
  | 7, _ => run7_21
  | 8, _ => run8_21
  | 9, _ => run9_21
  | 10, _ => run10_21
  | 11, _ => run11_21
  | 12, _ => run12_21
  | 13, _ => run13_21
  | 14, _ => run14_21
  | 15, _ => run15_21
  | _ + 16, h => by omega
theorem run0_22 : fastTrue vtree xs 2000 4 (lfArgs 0 22) = true := by kernel_rfl
theorem run1_22 : fastTrue vtree xs 2000 4 (lfArgs 1 22) = true := by kernel_rfl
theorem run2_22 : fastTrue vtree xs 2000 4 (lfArgs 2 22) = true := by kernel_rfl
theorem run3_22 : fastTrue vtree xs 2000 4 (lfArgs 3 22) = true := by kernel_rfl
theorem run4_22 : fastTrue vtree xs 2000 4 (lfArgs 4 22) = true := by kernel_rfl
theorem run5_22 : fastTrue vtree xs 2000 4 (lfArgs 5 22) = true := by kernel_rfl
theorem run6_22 : fastTrue vtree xs 2000 4 (lfArgs 6 22) = true := by kernel_rfl
theorem run7_22 : fastTrue vtree xs 2000 4 (lfArgs 7 22) = true := by kernel_rfl
theorem run8_22 : fastTrue vtree xs 2000 4 (lfArgs 8 22) = true := by kernel_rfl
theorem run9_22 : fastTrue vtree xs 2000 4 (lfArgs 9 22) = true := by kernel_rfl
theorem run10_22 : fastTrue vtree xs 2000 4 (lfArgs 10 22) = true := by kernel_rfl
theorem run11_22 : fastTrue vtree xs 2000 4 (lfArgs 11 22) = true := by kernel_rfl
theorem run12_22 : fastTrue vtree xs 2000 4 (lfArgs 12 22) = true := by kernel_rfl
theorem run13_22 : fastTrue vtree xs 2000 4 (lfArgs 13 22) = true := by kernel_rfl
theorem run14_22 : fastTrue vtree xs 2000 4 (lfArgs 14 22) = true := by kernel_rfl
theorem run15_22 : fastTrue vtree xs 2000 4 (lfArgs 15 22) = true := by kernel_rfl
theorem runs22 : ∀ n : Nat, n < 16 → fastTrue vtree xs 2000 4 (lfArgs n 22) = true
  | 0, _ => run0_22
  | 1, _ => run1_22
  | 2, _ => run2_22
  | 3, _ => run3_22
  | 4, _ => run4_22
  | 5, _ => run5_22
  | 6, _ => run6_22
  | 7, _ => run7_22
  | 8, _ => run8_22
  | 9, _ => run9_22
  | 10, _ => run10_22
  | 11, _ => run11_22
  | 12, _ => run12_22
  | 13, _ => run13_22
  | 14, _ => run14_22
  | 15, _ => run15_22
  | _ + 16, h => by omega
theorem run0_23 : fastTrue vtree xs 2000 4 (lfArgs 0 23) = true := by kernel_rfl
theorem run1_23 : fastTrue vtree xs 2000 4 (lfArgs 1 23) = true := by kernel_rfl
theorem run2_23 : fastTrue vtree xs 2000 4 (lfArgs 2 23) = true := by kernel_rfl
theorem run3_23 : fastTrue vtree xs 2000 4 (lfArgs 3 23) = true := by kernel_rfl
theorem run4_23 : fastTrue vtree xs 2000 4 (lfArgs 4 23) = true := by kernel_rfl
theorem run5_23 : fastTrue vtree xs 2000 4 (lfArgs 5 23) = true := by kernel_rfl
theorem run6_23 : fastTrue vtree xs 2000 4 (lfArgs 6 23) = true := by kernel_rfl
theorem run7_23 : fastTrue vtree xs 2000 4 (lfArgs 7 23) = true := by kernel_rfl
theorem run8_23 : fastTrue vtree xs 2000 4 (lfArgs 8 23) = true := by kernel_rfl
theorem run9_23 : fastTrue vtree xs 2000 4 (lfArgs 9 23) = true := by kernel_rfl
theorem run10_23 : fastTrue vtree xs 2000 4 (lfArgs 10 23) = true := by kernel_rfl
theorem run11_23 : fastTrue vtree xs 2000 4 (lfArgs 11 23) = true := by kernel_rfl
theorem run12_23 : fastTrue vtree xs 2000 4 (lfArgs 12 23) = true := by kernel_rfl
theorem run13_23 : fastTrue vtree xs 2000 4 (lfArgs 13 23) = true := by kernel_rfl
theorem run14_23 : fastTrue vtree xs 2000 4 (lfArgs 14 23) = true := by kernel_rfl
theorem run15_23 : fastTrue vtree xs 2000 4 (lfArgs 15 23) = true := by kernel_rfl
theorem runs23 : ∀ n : Nat, n < 16 → fastTrue vtree xs 2000 4 (lfArgs n 23) = true
  | 0, _ => run0_23
  | 1, _ => run1_23
  | 2, _ => run2_23
  | 3, _ => run3_23
  | 4, _ => run4_23
  | 5, _ => run5_23
  | 6, _ => run6_23
  | 7, _ => run7_23
  | 8, _ => run8_23
  | 9, _ => run9_23
  | 10, _ => run10_23
  | 11, _ => run11_23
  | 12, _ => run12_23
  | 13, _ => run13_23
  | 14, _ => run14_23
  | 15, _ => run15_23
  | _ + 16, h => by omega
end Go.Proofs.Ythefbgflndpggaa.LF
