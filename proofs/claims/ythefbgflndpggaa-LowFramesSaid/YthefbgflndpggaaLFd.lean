/- low.Run: a function that defers. -/
import Derived.Test.YthefbgflndpggaaLFs6
set_option linter.unusedSimpArgs false
set_option linter.unusedVariables false
namespace Go.Proofs.Ythefbgflndpggaa.LF
open Go.V
/- ferrule/low.Run -/
noncomputable def D5 : DeferFn := mkD Try.prog Try.f5 [false, false, false] 1 37 10 Try.f10 [false, true] 8
theorem f10_rec : Recovers Try.prog 10 Try.f10 (ctxOf [false, true] (bodyOf Try.f10)) (opAt (regOps (seqL (holeOf [false, true] (bodyOf Try.f10)))).toList 0) 8 (seqR (holeOf [false, true] (bodyOf Try.f10))) := ⟨Try.func10, ⟨1, by kernel_rfl⟩, ⟨#[], by kernel_rfl⟩, by kernel_rfl, by kernel_rfl, by kernel_rfl⟩
noncomputable def D5_ok : DeferOk Try.prog 5 D5 :=
  { pf := Try.f5, ps := (ctxOf [false, false, false] (bodyOf Try.f5)), id := 7, ops := regOps (seqL (holeOf [false, false, false] (bodyOf Try.f5))), os := (regOps (seqL (holeOf [false, false, false] (bodyOf Try.f5)))).toList.take 1, od := opAt (regOps (seqL (holeOf [false, false, false] (bodyOf Try.f5)))).toList 1, rest := seqR (holeOf [false, false, false] (bodyOf Try.f5)), fg := Try.f10, gps := (ctxOf [false, true] (bodyOf Try.f10)), og := opAt (regOps (seqL (holeOf [false, true] (bodyOf Try.f10)))).toList 0, c2 := seqR (holeOf [false, true] (bodyOf Try.f10)), func := Try.func5, name := by kernel_rfl, body := by kernel_rfl, hops := by kernel_rfl, hod := ⟨#[], by kernel_rfl⟩, hguard := by kernel_rfl, hdst := by kernel_rfl, hpre := rfl, guards := by kernel_rfl, hfront := rfl, hrest := rfl, hres := by kernel_rfl, hntmps := by kernel_rfl, gok := f10_rec, ggpre := rfl, ggrest := rfl, ggtmps := by kernel_rfl, gname := by kernel_rfl }
theorem E5 : Enters Try.prog 5 := ⟨Try.f5, Try.func5, by kernel_rfl, by kernel_rfl⟩

noncomputable def xs : VCaller → Nat → VCaller := selX 5 (fun call n args h => deferV call n D5 args h) noX
theorem hmix : Try.prog.follows .mixedOrders = true := by kernel_rfl
theorem xs_ok : ExtOk Try.prog xs := selX_ok (deferV_ok hmix D5_ok E5) noX_ok
/-- The arguments: of n no more is known than n & 15, of words no more than words & 31. -/
def lfArgs (n w : Nat) : List VVal := [.sym .i64 [⟨.and, .i64, 15, .int n⟩], .sym .i64 [⟨.and, .i64, 31, .int w⟩]]
end Go.Proofs.Ythefbgflndpggaa.LF
