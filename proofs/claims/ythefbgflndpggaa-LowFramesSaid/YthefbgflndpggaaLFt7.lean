/- LowFrames: the runs of words & 31 from 24 to 27. -/
import Derived.Test.YthefbgflndpggaaLFd
set_option linter.unusedSimpArgs false
set_option linter.unusedVariables false
namespace Go.Proofs.Ythefbgflndpggaa.LF
open Go.V
theorem run0_24 : fastTrue vtree xs 2000 4 (lfArgs 0 24) = true := by kernel_rfl
theorem run1_24 : fastTrue vtree xs 2000 4 (lfArgs 1 24) = true := by kernel_rfl
theorem run2_24 : fastTrue vtree xs 2000 4 (lfArgs 2 24) = true := by kernel_rfl
theorem run3_24 : fastTrue vtree xs 2000 4 (lfArgs 3 24) = true := by kernel_rfl
theorem run4_24 : fastTrue vtree xs 2000 4 (lfArgs 4 24) = true := by kernel_rfl
theorem run5_24 : fastTrue vtree xs 2000 4 (lfArgs 5 24) = true := by kernel_rfl
theorem run6_24 : fastTrue vtree xs 2000 4 (lfArgs 6 24) = true := by kernel_rfl
theorem run7_24 : fastTrue vtree xs 2000 4 (lfArgs 7 24) = true := by kernel_rfl
theorem run8_24 : fastTrue vtree xs 2000 4 (lfArgs 8 24) = true := by kernel_rfl
theorem run9_24 : fastTrue vtree xs 2000 4 (lfArgs 9 24) = true := by kernel_rfl
theorem run10_24 : fastTrue vtree xs 2000 4 (lfArgs 10 24) = true := by kernel_rfl
theorem run11_24 : fastTrue vtree xs 2000 4 (lfArgs 11 24) = true := by kernel_rfl
theorem run12_24 : fastTrue vtree xs 2000 4 (lfArgs 12 24) = true := by kernel_rfl
theorem run13_24 : fastTrue vtree xs 2000 4 (lfArgs 13 24) = true := by kernel_rfl
theorem run14_24 : fastTrue vtree xs 2000 4 (lfArgs 14 24) = true := by kernel_rfl
theorem run15_24 : fastTrue vtree xs 2000 4 (lfArgs 15 24) = true := by kernel_rfl
theorem runs24 : ∀ n : Nat, n < 16 → fastTrue vtree xs 2000 4 (lfArgs n 24) = true
  | 0, _ => run0_24
  | 1, _ => run1_24
  | 2, _ => run2_24
  | 3, _ => run3_24
  | 4, _ => run4_24
  | 5, _ => run5_24
  | 6, _ => run6_24
  | 7, _ => run7_24
  | 8, _ => run8_24
  | 9, _ => run9_24
  | 10, _ => run10_24
  | 11, _ => run11_24
  | 12, _ => run12_24
  | 13, _ => run13_24
  | 14, _ => run14_24
  | 15, _ => run15_24
  | _ + 16, h => by omega
theorem run0_25 : fastTrue vtree xs 2000 4 (lfArgs 0 25) = true := by kernel_rfl
theorem run1_25 : fastTrue vtree xs 2000 4 (lfArgs 1 25) = true := by kernel_rfl
theorem run2_25 : fastTrue vtree xs 2000 4 (lfArgs 2 25) = true := by kernel_rfl
theorem run3_25 : fastTrue vtree xs 2000 4 (lfArgs 3 25) = true := by kernel_rfl
theorem run4_25 : fastTrue vtree xs 2000 4 (lfArgs 4 25) = true := by kernel_rfl
theorem run5_25 : fastTrue vtree xs 2000 4 (lfArgs 5 25) = true := by kernel_rfl
theorem run6_25 : fastTrue vtree xs 2000 4 (lfArgs 6 25) = true := by kernel_rfl
theorem run7_25 : fastTrue vtree xs 2000 4 (lfArgs 7 25) = true := by kernel_rfl
theorem run8_25 : fastTrue vtree xs 2000 4 (lfArgs 8 25) = true := by kernel_rfl
theorem run9_25 : fastTrue vtree xs 2000 4 (lfArgs 9 25) = true := by kernel_rfl
theorem run10_25 : fastTrue vtree xs 2000 4 (lfArgs 10 25) = true := by kernel_rfl
theorem run11_25 : fastTrue vtree xs 2000 4 (lfArgs 11 25) = true := by kernel_rfl
theorem run12_25 : fastTrue vtree xs 2000 4 (lfArgs 12 25) = true := by kernel_rfl
theorem run13_25 : fastTrue vtree xs 2000 4 (lfArgs 13 25) = true := by kernel_rfl
theorem run14_25 : fastTrue vtree xs 2000 4 (lfArgs 14 25) = true := by kernel_rfl
theorem run15_25 : fastTrue vtree xs 2000 4 (lfArgs 15 25) = true := by kernel_rfl
theorem runs25 : ∀ n : Nat, n < 16 → fastTrue vtree xs 2000 4 (lfArgs n 25) = true
  | 0, _ => run0_25
  | 1, _ => run1_25
  | 2, _ => run2_25
  | 3, _ => run3_25
  | 4, _ => run4_25
  | 5, _ => run5_25
  | 6, _ => run6_25
  | 7, _ => run7_25
  | 8, _ => run8_25
  | 9, _ => run9_25
  | 10, _ => run10_25
  | 11, _ => run11_25
  | 12, _ => run12_25
  | 13, _ => run13_25
  | 14, _ => run14_25
  | 15, _ => run15_25
  | _ + 16, h => by omega
theorem run0_26 : fastTrue vtree xs 2000 4 (lfArgs 0 26) = true := by kernel_rfl
theorem run1_26 : fastTrue vtree xs 2000 4 (lfArgs 1 26) = true := by kernel_rfl
theorem run2_26 : fastTrue vtree xs 2000 4 (lfArgs 2 26) = true := by kernel_rfl
theorem run3_26 : fastTrue vtree xs 2000 4 (lfArgs 3 26) = true := by kernel_rfl
theorem run4_26 : fastTrue vtree xs 2000 4 (lfArgs 4 26) = true := by kernel_rfl
theorem run5_26 : fastTrue vtree xs 2000 4 (lfArgs 5 26) = true := by kernel_rfl
theorem run6_26 : fastTrue vtree xs 2000 4 (lfArgs 6 26) = true := by kernel_rfl
theorem run7_26 : fastTrue vtree xs 2000 4 (lfArgs 7 26) = true := by kernel_rfl
theorem run8_26 : fastTrue vtree xs 2000 4 (lfArgs 8 26) = true := by kernel_rfl
theorem run9_26 : fastTrue vtree xs 2000 4 (lfArgs 9 26) = true := by kernel_rfl
theorem run10_26 : fastTrue vtree xs 2000 4 (lfArgs 10 26) = true := by kernel_rfl
theorem run11_26 : fastTrue vtree xs 2000 4 (lfArgs 11 26) = true := by kernel_rfl
theorem run12_26 : fastTrue vtree xs 2000 4 (lfArgs 12 26) = true := by kernel_rfl
theorem run13_26 : fastTrue vtree xs 2000 4 (lfArgs 13 26) = true := by kernel_rfl
theorem run14_26 : fastTrue vtree xs 2000 4 (lfArgs 14 26) = true := by kernel_rfl
theorem run15_26 : fastTrue vtree xs 2000 4 (lfArgs 15 26) = true := by kernel_rfl
theorem runs26 : ∀ n : Nat, n < 16 → fastTrue vtree xs 2000 4 (lfArgs n 26) = true
  | 0, _ => run0_26
  | 1, _ => run1_26
  | 2, _ => run2_26
  | 3, _ => run3_26
  | 4, _ => run4_26
  | 5, _ => run5_26
  | 6, _ => run6_26
  | 7, _ => run7_26
  | 8, _ => run8_26
  | 9, _ => run9_26
  | 10, _ => run10_26
  | 11, _ => run11_26
  | 12, _ => run12_26
  | 13, _ => run13_26
  | 14, _ => run14_26
  | 15, _ => run15_26
  | _ + 16, h => by omega
theorem run0_27 : fastTrue vtree xs 2000 4 (lfArgs 0 27) = true := by kernel_rfl
theorem run1_27 : fastTrue vtree xs 2000 4 (lfArgs 1 27) = true := by kernel_rfl
theorem run2_27 : fastTrue vtree xs 2000 4 (lfArgs 2 27) = true := by kernel_rfl
theorem run3_27 : fastTrue vtree xs 2000 4 (lfArgs 3 27) = true := by kernel_rfl
theorem run4_27 : fastTrue vtree xs 2000 4 (lfArgs 4 27) = true := by kernel_rfl
theorem run5_27 : fastTrue vtree xs 2000 4 (lfArgs 5 27) = true := by kernel_rfl
theorem run6_27 : fastTrue vtree xs 2000 4 (lfArgs 6 27) = true := by kernel_rfl
theorem run7_27 : fastTrue vtree xs 2000 4 (lfArgs 7 27) = true := by kernel_rfl
theorem run8_27 : fastTrue vtree xs 2000 4 (lfArgs 8 27) = true := by kernel_rfl
theorem run9_27 : fastTrue vtree xs 2000 4 (lfArgs 9 27) = true := by kernel_rfl
theorem run10_27 : fastTrue vtree xs 2000 4 (lfArgs 10 27) = true := by kernel_rfl
theorem run11_27 : fastTrue vtree xs 2000 4 (lfArgs 11 27) = true := by kernel_rfl
theorem run12_27 : fastTrue vtree xs 2000 4 (lfArgs 12 27) = true := by kernel_rfl
theorem run13_27 : fastTrue vtree xs 2000 4 (lfArgs 13 27) = true := by kernel_rfl
theorem run14_27 : fastTrue vtree xs 2000 4 (lfArgs 14 27) = true := by kernel_rfl
theorem run15_27 : fastTrue vtree xs 2000 4 (lfArgs 15 27) = true := by kernel_rfl
theorem runs27 : ∀ n : Nat, n < 16 → fastTrue vtree xs 2000 4 (lfArgs n 27) = true
  | 0, _ => run0_27
  | 1, _ => run1_27
  | 2, _ => run2_27
  | 3, _ => run3_27
  | 4, _ => run4_27
  | 5, _ => run5_27
  | 6, _ => run6_27
  | 7, _ => run7_27
  | 8, _ => run8_27
  | 9, _ => run9_27
  | 10, _ => run10_27
  | 11, _ => run11_27
  | 12, _ => run12_27
  | 13, _ => run13_27
  | 14, _ => run14_27
  | 15, _ => run15_27
  | _ + 16, h => by omega
end Go.Proofs.Ythefbgflndpggaa.LF
