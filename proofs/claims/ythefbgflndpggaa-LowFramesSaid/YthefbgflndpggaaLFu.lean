/- LowFrames: all runs. -/
import Derived.Test.YthefbgflndpggaaLFt1
import Derived.Test.YthefbgflndpggaaLFt2
import Derived.Test.YthefbgflndpggaaLFt3
import Derived.Test.YthefbgflndpggaaLFt4
import Derived.Test.YthefbgflndpggaaLFt5
import Derived.Test.YthefbgflndpggaaLFt6
import Derived.Test.YthefbgflndpggaaLFt7
import Derived.Test.YthefbgflndpggaaLFt8
set_option linter.unusedSimpArgs false
set_option linter.unusedVariables false
namespace Go.Proofs.Ythefbgflndpggaa.LF
open Go.V
theorem runs : ∀ w n : Nat, n < 16 → w < 32 → fastTrue vtree xs 2000 4 (lfArgs n w) = true
  | 0, n, h, _ => runs0 n h
  | 1, n, h, _ => runs1 n h
  | 2, n, h, _ => runs2 n h
  | 3, n, h, _ => runs3 n h
  | 4, n, h, _ => runs4 n h
  | 5, n, h, _ => runs5 n h
  | 6, n, h, _ => runs6 n h
  | 7, n, h, _ => runs7 n h
  | 8, n, h, _ => runs8 n h
  | 9, n, h, _ => runs9 n h
  | 10, n, h, _ => runs10 n h
  | 11, n, h, _ => runs11 n h
  | 12, n, h, _ => runs12 n h
  | 13, n, h, _ => runs13 n h
  | 14, n, h, _ => runs14 n h
  | 15, n, h, _ => runs15 n h
  | 16, n, h, _ => runs16 n h
  | 17, n, h, _ => runs17 n h
  | 18, n, h, _ => runs18 n h
  | 19, n, h, _ => runs19 n h
  | 20, n, h, _ => runs20 n h
  | 21, n, h, _ => runs21 n h
  | 22, n, h, _ => runs22 n h
  | 23, n, h, _ => runs23 n h
  | 24, n, h, _ => runs24 n h
  | 25, n, h, _ => runs25 n h
  | 26, n, h, _ => runs26 n h
  | 27, n, h, _ => runs27 n h
  | 28, n, h, _ => runs28 n h
  | 29, n, h, _ => runs29 n h
  | 30, n, h, _ => runs30 n h
  | 31, n, h, _ => runs31 n h
  | _ + 32, _, _, h => by omega
end Go.Proofs.Ythefbgflndpggaa.LF
