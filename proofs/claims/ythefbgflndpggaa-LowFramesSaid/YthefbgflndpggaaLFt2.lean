/- LowFrames: the runs of words & 31 from 4 to 7. -/
import Derived.Test.YthefbgflndpggaaLFd
set_option linter.unusedSimpArgs false
set_option linter.unusedVariables false
namespace Go.Proofs.Ythefbgflndpggaa.LF
open Go.V
theorem run0_4 : fastTrue vtree xs 2000 4 (lfArgs 0 4) = true := by kernel_rfl
theorem run1_4 : fastTrue vtree xs 2000 4 (lfArgs 1 4) = true := by kernel_rfl
theorem run2_4 : fastTrue vtree xs 2000 4 (lfArgs 2 4) = true := by kernel_rfl
theorem run3_4 : fastTrue vtree xs 2000 4 (lfArgs 3 4) = true := by kernel_rfl
theorem run4_4 : fastTrue vtree xs 2000 4 (lfArgs 4 4) = true := by kernel_rfl
theorem run5_4 : fastTrue vtree xs 2000 4 (lfArgs 5 4) = true := by kernel_rfl
theorem run6_4 : fastTrue vtree xs 2000 4 (lfArgs 6 4) = true := by kernel_rfl
theorem run7_4 : fastTrue vtree xs 2000 4 (lfArgs 7 4) = true := by kernel_rfl
theorem run8_4 : fastTrue vtree xs 2000 4 (lfArgs 8 4) = true := by kernel_rfl
theorem run9_4 : fastTrue vtree xs 2000 4 (lfArgs 9 4) = true := by kernel_rfl
theorem run10_4 : fastTrue vtree xs 2000 4 (lfArgs 10 4) = true := by kernel_rfl
theorem run11_4 : fastTrue vtree xs 2000 4 (lfArgs 11 4) = true := by kernel_rfl
theorem run12_4 : fastTrue vtree xs 2000 4 (lfArgs 12 4) = true := by kernel_rfl
theorem run13_4 : fastTrue vtree xs 2000 4 (lfArgs 13 4) = true := by kernel_rfl
theorem run14_4 : fastTrue vtree xs 2000 4 (lfArgs 14 4) = true := by kernel_rfl
theorem run15_4 : fastTrue vtree xs 2000 4 (lfArgs 15 4) = true := by kernel_rfl
theorem runs4 : ∀ n : Nat, n < 16 → fastTrue vtree xs 2000 4 (lfArgs n 4) = true
  | 0, _ => run0_4
  | 1, _ => run1_4
  | 2, _ => run2_4
  | 3, _ => run3_4
  | 4, _ => run4_4
  | 5, _ => run5_4
  | 6, _ => run6_4
  | 7, _ => run7_4
  | 8, _ => run8_4
  | 9, _ => run9_4
  | 10, _ => run10_4
  | 11, _ => run11_4
  | 12, _ => run12_4
  | 13, _ => run13_4
  | 14, _ => run14_4
  | 15, _ => run15_4
  | _ + 16, h => by omega
theorem run0_5 : fastTrue vtree xs 2000 4 (lfArgs 0 5) = true := by kernel_rfl
theorem run1_5 : fastTrue vtree xs 2000 4 (lfArgs 1 5) = true := by kernel_rfl
theorem run2_5 : fastTrue vtree xs 2000 4 (lfArgs 2 5) = true := by kernel_rfl
theorem run3_5 : fastTrue vtree xs 2000 4 (lfArgs 3 5) = true := by kernel_rfl
theorem run4_5 : fastTrue vtree xs 2000 4 (lfArgs 4 5) = true := by kernel_rfl
theorem run5_5 : fastTrue vtree xs 2000 4 (lfArgs 5 5) = true := by kernel_rfl
theorem run6_5 : fastTrue vtree xs 2000 4 (lfArgs 6 5) = true := by kernel_rfl
theorem run7_5 : fastTrue vtree xs 2000 4 (lfArgs 7 5) = true := by kernel_rfl
theorem run8_5 : fastTrue vtree xs 2000 4 (lfArgs 8 5) = true := by kernel_rfl
theorem run9_5 : fastTrue vtree xs 2000 4 (lfArgs 9 5) = true := by kernel_rfl
theorem run10_5 : fastTrue vtree xs 2000 4 (lfArgs 10 5) = true := by kernel_rfl
theorem run11_5 : fastTrue vtree xs 2000 4 (lfArgs 11 5) = true := by kernel_rfl
theorem run12_5 : fastTrue vtree xs 2000 4 (lfArgs 12 5) = true := by kernel_rfl
theorem run13_5 : fastTrue vtree xs 2000 4 (lfArgs 13 5) = true := by kernel_rfl
theorem run14_5 : fastTrue vtree xs 2000 4 (lfArgs 14 5) = true := by kernel_rfl
theorem run15_5 : fastTrue vtree xs 2000 4 (lfArgs 15 5) = true := by kernel_rfl
theorem runs5 : ∀ n : Nat, n < 16 → fastTrue vtree xs 2000 4 (lfArgs n 5) = true
  | 0, _ => run0_5
  | 1, _ => run1_5
  | 2, _ => run2_5
  | 3, _ => run3_5
  | 4, _ => run4_5
  | 5, _ => run5_5
  | 6, _ => run6_5
  | 7, _ => run7_5
  | 8, _ => run8_5
  | 9, _ => run9_5
  | 10, _ => run10_5
  | 11, _ => run11_5
  | 12, _ => run12_5
  | 13, _ => run13_5
  | 14, _ => run14_5
  | 15, _ => run15_5
  | _ + 16, h => by omega
theorem run0_6 : fastTrue vtree xs 2000 4 (lfArgs 0 6) = true := by kernel_rfl
theorem run1_6 : fastTrue vtree xs 2000 4 (lfArgs 1 6) = true := by kernel_rfl
theorem run2_6 : fastTrue vtree xs 2000 4 (lfArgs 2 6) = true := by kernel_rfl
theorem run3_6 : fastTrue vtree xs 2000 4 (lfArgs 3 6) = true := by kernel_rfl
theorem run4_6 : fastTrue vtree xs 2000 4 (lfArgs 4 6) = true := by kernel_rfl
theorem run5_6 : fastTrue vtree xs 2000 4 (lfArgs 5 6) = true := by kernel_rfl
theorem run6_6 : fastTrue vtree xs 2000 4 (lfArgs 6 6) = true := by kernel_rfl
theorem run7_6 : fastTrue vtree xs 2000 4 (lfArgs 7 6) = true := by kernel_rfl
theorem run8_6 : fastTrue vtree xs 2000 4 (lfArgs 8 6) = true := by kernel_rfl
theorem run9_6 : fastTrue vtree xs 2000 4 (lfArgs 9 6) = true := by kernel_rfl
theorem run10_6 : fastTrue vtree xs 2000 4 (lfArgs 10 6) = true := by kernel_rfl
theorem run11_6 : fastTrue vtree xs 2000 4 (lfArgs 11 6) = true := by kernel_rfl
theorem run12_6 : fastTrue vtree xs 2000 4 (lfArgs 12 6) = true := by kernel_rfl
theorem run13_6 : fastTrue vtree xs 2000 4 (lfArgs 13 6) = true := by kernel_rfl
theorem run14_6 : fastTrue vtree xs 2000 4 (lfArgs 14 6) = true := by kernel_rfl
theorem run15_6 : fastTrue vtree xs 2000 4 (lfArgs 15 6) = true := by kernel_rfl
theorem runs6 : ∀ n : Nat, n < 16 → fastTrue vtree xs 2000 4 (lfArgs n 6) = true
  | 0, _ => run0_6
  | 1, _ => run1_6
  | 2, _ => run2_6
  | 3, _ => run3_6
  | 4, _ => run4_6
  | 5, _ => run5_6
  | 6, _ => run6_6
  | 7, _ => run7_6
  | 8, _ => run8_6
  | 9, _ => run9_6
  | 10, _ => run10_6
  | 11, _ => run11_6
  | 12, _ => run12_6
  | 13, _ => run13_6
  | 14, _ => run14_6
  | 15, _ => run15_6
  | _ + 16, h => by omega
theorem run0_7 : fastTrue vtree xs 2000 4 (lfArgs 0 7) = true := by kernel_rfl
theorem run1_7 : fastTrue vtree xs 2000 4 (lfArgs 1 7) = true := by kernel_rfl
theorem run2_7 : fastTrue vtree xs 2000 4 (lfArgs 2 7) = true := by kernel_rfl
theorem run3_7 : fastTrue vtree xs 2000 4 (lfArgs 3 7) = true := by kernel_rfl
theorem run4_7 : fastTrue vtree xs 2000 4 (lfArgs 4 7) = true := by kernel_rfl
theorem run5_7 : fastTrue vtree xs 2000 4 (lfArgs 5 7) = true := by kernel_rfl
theorem run6_7 : fastTrue vtree xs 2000 4 (lfArgs 6 7) = true := by kernel_rfl
theorem run7_7 : fastTrue vtree xs 2000 4 (lfArgs 7 7) = true := by kernel_rfl
theorem run8_7 : fastTrue vtree xs 2000 4 (lfArgs 8 7) = true := by kernel_rfl
theorem run9_7 : fastTrue vtree xs 2000 4 (lfArgs 9 7) = true := by kernel_rfl
theorem run10_7 : fastTrue vtree xs 2000 4 (lfArgs 10 7) = true := by kernel_rfl
theorem run11_7 : fastTrue vtree xs 2000 4 (lfArgs 11 7) = true := by kernel_rfl
theorem run12_7 : fastTrue vtree xs 2000 4 (lfArgs 12 7) = true := by kernel_rfl
theorem run13_7 : fastTrue vtree xs 2000 4 (lfArgs 13 7) = true := by kernel_rfl
theorem run14_7 : fastTrue vtree xs 2000 4 (lfArgs 14 7) = true := by kernel_rfl
theorem run15_7 : fastTrue vtree xs 2000 4 (lfArgs 15 7) = true := by kernel_rfl
theorem runs7 : ∀ n : Nat, n < 16 → fastTrue vtree xs 2000 4 (lfArgs n 7) = true
  | 0, _ => run0_7
  | 1, _ => run1_7
  | 2, _ => run2_7
  | 3, _ => run3_7
  | 4, _ => run4_7
  | 5, _ => run5_7
  | 6, _ => run6_7
  | 7, _ => run7_7
  | 8, _ => run8_7
  | 9, _ => run9_7
  | 10, _ => run10_7
  | 11, _ => run11_7
  | 12, _ => run12_7
  | 13, _ => run13_7
  | 14, _ => run14_7
  | 15, _ => run15_7
  | _ + 16, h => by omega
end Go.Proofs.Ythefbgflndpggaa.LF
