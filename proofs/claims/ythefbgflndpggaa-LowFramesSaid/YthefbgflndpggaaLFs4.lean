/- Functions that are reached, as the virtual machine has them. Printed by program. -/
import Derived.Test.YthefbgflndpggaaChecked
import Derived.Test.YthefbgflndpggaaV30
set_option linter.unusedSimpArgs false
set_option linter.unusedVariables false
open Go.V
namespace Go.Proofs.Ythefbgflndpggaa.LF
set_option linter.unusedVariables false
/- (*ferrule/low.machine).call -/
noncomputable def A12 := opsAt Try.prog 12
noncomputable def rs12 : List VResult := [.tmp 6]
theorem R12 : Sim 152 (fin rs12 .ret) (fun σ h => (finV [rT (σ 6)] h)) := Sim.of (by kernel_rfl)
noncomputable def c12_0 : VCode := .seq (.region false (A12 [1, 1, 1, 1, 1, 1, 1, 1, 1, 1, 1, 1, 0])) .ret
noncomputable def J12_1 (call : VCaller) (n : Nat) (t12 : VVal) (h : VHeap) : VAns :=
  (finV [rT t12] h)
theorem L12_1 (call : VCaller) (n : Nat) : Sim 152 (runK call n c12_0 (fin rs12)) (apL [12] (J12_1 call n)) := Sim.reg (Sim.ret R12) (by kernel_rfl) (by kernel_rfl)
noncomputable def c12_2 : VCode := .seq (.region false (A12 [1, 1, 1, 1, 1, 1, 1, 1, 1, 1, 1, 0])) c12_0
noncomputable def J12_3 (call : VCaller) (n : Nat) (t0 t7 t8 t9 t12 : VVal) (h : VHeap) : VAns :=
  rd (nilF t0) fun t138 =>
  rd (faddr 7 t138) fun t139 =>
  rd (VHeap.load1 h t139) fun t140 =>
  rd (VOp.read [] h (.slice 1 (.const t140) none (some (.const t9)) none)) fun t142 =>
  rd (nilF t0) fun t145 =>
  rd (faddr 7 t145) fun t146 =>
  bd (VOp.write [] h (.store 1 (.const t146) (.const t142))) fun _ h13 =>
  rd (nilF t0) fun t147 =>
  rd (faddr 12 t147) fun t148 =>
  bd (VOp.write [] h13 (.store 1 (.const t148) (.const t7))) fun _ h16 =>
  rd (nilF t0) fun t149 =>
  rd (faddr 13 t149) fun t150 =>
  bd (VOp.write [] h16 (.store 1 (.const t150) (.const t8))) fun _ h19 =>
  (J12_1 call n t12 h19)
theorem L12_3 (call : VCaller) (n : Nat) : Sim 152 (runK call n c12_2 (fin rs12)) (apL [0, 7, 8, 9, 12] (J12_3 call n)) := Sim.reg (L12_1 call n) (by kernel_rfl) (by kernel_rfl)
noncomputable def D12_4 (call : VCaller) (n : Nat) : Kont := kn (runK call n c12_2 (fin rs12)) (fin rs12)
noncomputable def c12_5 : VCode := .region false (A12 [1, 1, 1, 1, 1, 1, 1, 1, 1, 1, 0, 1, 0])
noncomputable def J12_6 (call : VCaller) (n : Nat) (t0 t7 t8 t9 t12 : VVal) (h : VHeap) : VAns :=
  rd (nilF t0) fun t128 =>
  rd (faddr 10 t128) fun t129 =>
  rd (VHeap.load1 h t129) fun t130 =>
  rd (subI t130 (I 1)) fun t131 =>
  rd (nilF t0) fun t132 =>
  rd (faddr 10 t132) fun t133 =>
  bd (VOp.write [] h (.store 1 (.const t133) (.const t131))) fun _ h7 =>
  (J12_3 call n t0 t7 t8 t9 t12 h7)
theorem L12_6 (call : VCaller) (n : Nat) : Sim 152 (runK call n c12_5 (D12_4 call n)) (apL [0, 7, 8, 9, 12] (J12_6 call n)) := Sim.regE (L12_3 call n) (by kernel_rfl) (by kernel_rfl)
noncomputable def c12_7 : VCode := .seq (.region false (A12 [1, 1, 1, 1, 1, 1, 1, 1, 1, 1, 0, 0])) (.cond (.tmp 126) c12_5 .skip)
noncomputable def J12_8 (call : VCaller) (n : Nat) (t0 t1 t7 t8 t9 t12 : VVal) (h : VHeap) : VAns :=
  rd (nilF t1) fun t123 =>
  rd (faddr 5 t123) fun t124 =>
  rd (VHeap.load1 h t124) fun t125 =>
  rd (unV .not t125) fun t126 =>
  (cnd t126 (J12_6 call n t0 t7 t8 t9 t12 h) (J12_3 call n t0 t7 t8 t9 t12 h))
theorem L12_8 (call : VCaller) (n : Nat) : Sim 152 (runK call n c12_7 (D12_4 call n)) (apL [0, 1, 7, 8, 9, 12] (J12_8 call n)) := Sim.reg (Sim.cond (L12_6 call n) (Sim.skip (L12_3 call n))) (by kernel_rfl) (by kernel_rfl)
noncomputable def c12_9 : VCode := .seq (.region false (A12 [1, 1, 1, 1, 1, 1, 1, 1, 1, 0])) (.seq c12_7 c12_2)
noncomputable def J12_10 (call : VCaller) (n : Nat) (t0 t1 t7 t8 t9 t12 : VVal) (h : VHeap) : VAns :=
  rd (nilF t0) fun t116 =>
  rd (faddr 11 t116) fun t117 =>
  rd (VHeap.load1 h t117) fun t118 =>
  rd (subI t118 (I 1)) fun t119 =>
  rd (nilF t0) fun t120 =>
  rd (faddr 11 t120) fun t121 =>
  bd (VOp.write [] h (.store 1 (.const t121) (.const t119))) fun _ h7 =>
  (J12_8 call n t0 t1 t7 t8 t9 t12 h7)
theorem L12_10 (call : VCaller) (n : Nat) : Sim 152 (runK call n c12_9 (fin rs12)) (apL [0, 1, 7, 8, 9, 12] (J12_10 call n)) := Sim.reg (Sim.seq (L12_8 call n)) (by kernel_rfl) (by kernel_rfl)
noncomputable def c12_11 : VCode := .seq (.region false (A12 [1, 1, 1, 1, 1, 1, 1, 1, 0])) c12_9
noncomputable def J12_12 (call : VCaller) (n : Nat) (t0 t1 t7 t8 t9 : VVal) (h : VHeap) : VAns :=
  bc (call 21 [t0, t1] h) thr fun t114 h2 =>
  (J12_10 call n t0 t1 t7 t8 t9 t114 h2)
theorem L12_12 (call : VCaller) (n : Nat) : Sim 152 (runK call n c12_11 (fin rs12)) (apL [0, 1, 7, 8, 9] (J12_12 call n)) := Sim.reg (L12_10 call n) (by kernel_rfl) (by kernel_rfl)
noncomputable def D12_13 (call : VCaller) (n : Nat) : Kont := kn (runK call n c12_11 (fin rs12)) (fin rs12)
noncomputable def c12_14 : VCode := .region false (A12 [1, 1, 1, 1, 1, 1, 1, 0, 1, 0])
noncomputable def J12_15 (call : VCaller) (n : Nat) (t0 t1 t7 t8 t9 : VVal) (h : VHeap) : VAns :=
  rd (nilF t0) fun t106 =>
  rd (faddr 10 t106) fun t107 =>
  rd (VHeap.load1 h t107) fun t108 =>
  rd (addI t108 (I 1)) fun t109 =>
  rd (nilF t0) fun t110 =>
  rd (faddr 10 t110) fun t111 =>
  bd (VOp.write [] h (.store 1 (.const t111) (.const t109))) fun _ h7 =>
  (J12_12 call n t0 t1 t7 t8 t9 h7)
theorem L12_15 (call : VCaller) (n : Nat) : Sim 152 (runK call n c12_14 (D12_13 call n)) (apL [0, 1, 7, 8, 9] (J12_15 call n)) := Sim.regE (L12_12 call n) (by kernel_rfl) (by kernel_rfl)
noncomputable def c12_16 : VCode := .seq (.region false (A12 [1, 1, 1, 1, 1, 1, 1, 0, 0])) (.cond (.tmp 104) c12_14 .skip)
noncomputable def J12_17 (call : VCaller) (n : Nat) (t0 t1 t7 t8 t9 : VVal) (h : VHeap) : VAns :=
  rd (nilF t1) fun t101 =>
  rd (faddr 5 t101) fun t102 =>
  rd (VHeap.load1 h t102) fun t103 =>
  rd (unV .not t103) fun t104 =>
  (cnd t104 (J12_15 call n t0 t1 t7 t8 t9 h) (J12_12 call n t0 t1 t7 t8 t9 h))
theorem L12_17 (call : VCaller) (n : Nat) : Sim 152 (runK call n c12_16 (D12_13 call n)) (apL [0, 1, 7, 8, 9] (J12_17 call n)) := Sim.reg (Sim.cond (L12_15 call n) (Sim.skip (L12_12 call n))) (by kernel_rfl) (by kernel_rfl)
noncomputable def c12_18 : VCode := .seq (.region false (A12 [1, 1, 1, 1, 1, 1, 0])) (.seq c12_16 c12_11)
noncomputable def J12_19 (call : VCaller) (n : Nat) (t0 t1 t7 t8 t9 : VVal) (h : VHeap) : VAns :=
  rd (nilF t0) fun t94 =>
  rd (faddr 11 t94) fun t95 =>
  rd (VHeap.load1 h t95) fun t96 =>
  rd (addI t96 (I 1)) fun t97 =>
  rd (nilF t0) fun t98 =>
  rd (faddr 11 t98) fun t99 =>
  bd (VOp.write [] h (.store 1 (.const t99) (.const t97))) fun _ h7 =>
  (J12_17 call n t0 t1 t7 t8 t9 h7)
theorem L12_19 (call : VCaller) (n : Nat) : Sim 152 (runK call n c12_18 (fin rs12)) (apL [0, 1, 7, 8, 9] (J12_19 call n)) := Sim.reg (Sim.seq (L12_17 call n)) (by kernel_rfl) (by kernel_rfl)
noncomputable def D12_20 (call : VCaller) (n : Nat) : Kont := kn (runK call n c12_18 (fin rs12)) (fin rs12)
noncomputable def D12_21 (call : VCaller) (n : Nat) : Kont := kb 0 (D12_20 call n)
noncomputable def D12_22 (call : VCaller) (n : Nat) (K22 : VRun) : Kont := kn K22 (D12_21 call n)
noncomputable def c12_23 : VCode := .region false (A12 [1, 1, 1, 1, 1, 0, 1, 0, 0, 1, 1, 1])
noncomputable def J12_24 (call : VCaller) (n : Nat) (ih22 : VVal → VVal → VVal → VVal → VVal → VVal → VVal → VVal → VVal → VHeap → VAns) (t0 t1 t2 t7 t8 t9 t75 t76 t77 : VVal) (h : VHeap) : VAns :=
  rd (addI t77 (I 1)) fun t92 =>
  (ih22 t0 t1 t2 t7 t8 t9 t75 t76 t92 h)
theorem L12_24 (call : VCaller) (n : Nat) {K22 : VRun} {ih22 : VVal → VVal → VVal → VVal → VVal → VVal → VVal → VVal → VVal → VHeap → VAns} (I22 : Sim 152 K22 (apL [0, 1, 2, 7, 8, 9, 75, 76, 77] ih22)) : Sim 152 (runK call n c12_23 (D12_22 call n K22)) (apL [0, 1, 2, 7, 8, 9, 75, 76, 77] (J12_24 call n ih22)) := Sim.regE I22 (by kernel_rfl) (by kernel_rfl)
noncomputable def D12_25 (call : VCaller) (n : Nat) (K22 : VRun) : Kont := kn (runK call n c12_23 (D12_22 call n K22)) (D12_22 call n K22)
noncomputable def D12_26 (call : VCaller) (n : Nat) (K22 : VRun) : Kont := kb 1 (D12_25 call n K22)
noncomputable def c12_27 : VCode := .region true (A12 [1, 1, 1, 1, 1, 0, 1, 0, 0, 1, 1, 0, 0, 1])
noncomputable def J12_28 (call : VCaller) (n : Nat) (ih22 : VVal → VVal → VVal → VVal → VVal → VVal → VVal → VVal → VVal → VHeap → VAns) (t0 t1 t2 t7 t8 t9 t10 t11 t75 t76 t77 : VVal) (h : VHeap) : VAns :=
  rd (nilF t0) fun v1 =>
  rd (faddr 12 v1) fun v2 =>
  rd (VHeap.load1 h v2) fun v3 =>
  rd (idxS 1 t2 t10) fun v7 =>
  rd (VHeap.load1 h v7) fun v8 =>
  rd (idxS 1 v3 t11) fun v9 =>
  bd (VOp.write [] h (.store 1 (.const v9) (.const v8))) fun v10 h10 =>
  (J12_24 call n ih22 t0 t1 t2 t7 t8 t9 t75 t76 t77 h10)
theorem L12_28 (call : VCaller) (n : Nat) {K22 : VRun} {ih22 : VVal → VVal → VVal → VVal → VVal → VVal → VVal → VVal → VVal → VHeap → VAns} (I22 : Sim 152 K22 (apL [0, 1, 2, 7, 8, 9, 75, 76, 77] ih22)) : Sim 152 (runK call n c12_27 (D12_26 call n K22)) (apL [0, 1, 2, 7, 8, 9, 10, 11, 75, 76, 77] (J12_28 call n ih22)) := Sim.drwE (L12_24 call n I22) (by kernel_rfl) (by kernel_rfl)
noncomputable def c12_29 : VCode := .seq (.region false (A12 [1, 1, 1, 1, 1, 0, 1, 0, 0, 1, 1, 0, 0, 0])) c12_27
noncomputable def J12_30 (call : VCaller) (n : Nat) (ih22 : VVal → VVal → VVal → VVal → VVal → VVal → VVal → VVal → VVal → VHeap → VAns) (t0 t1 t2 t7 t8 t9 t75 t76 t77 : VVal) (h : VHeap) : VAns :=
  rd (idxS 1 t75 t77) fun t80 =>
  rd (VHeap.load1 h t80) fun t81 =>
  (J12_28 call n ih22 t0 t1 t2 t7 t8 t9 t77 t81 t75 t76 t77 h)
theorem L12_30 (call : VCaller) (n : Nat) {K22 : VRun} {ih22 : VVal → VVal → VVal → VVal → VVal → VVal → VVal → VVal → VVal → VHeap → VAns} (I22 : Sim 152 K22 (apL [0, 1, 2, 7, 8, 9, 75, 76, 77] ih22)) : Sim 152 (runK call n c12_29 (D12_26 call n K22)) (apL [0, 1, 2, 7, 8, 9, 75, 76, 77] (J12_30 call n ih22)) := Sim.reg (L12_28 call n I22) (by kernel_rfl) (by kernel_rfl)
noncomputable def D12_31 (call : VCaller) (n : Nat) (K22 : VRun) : Kont := kn (runK call n (.seq (.block 1 c12_29) c12_23) (D12_22 call n K22)) (D12_22 call n K22)
noncomputable def c12_32 : VCode := .seq (.region false (A12 [1, 1, 1, 1, 1, 0, 1, 0, 0, 0])) (.seq (.cond (.tmp 78) .skip (.exit 0)) (.seq (.block 1 c12_29) c12_23))
noncomputable def J12_33 (call : VCaller) (n : Nat) (ih22 : VVal → VVal → VVal → VVal → VVal → VVal → VVal → VVal → VVal → VHeap → VAns) (t0 t1 t2 t7 t8 t9 t75 t76 t77 : VVal) (h : VHeap) : VAns :=
  rd (ltI t77 t76) fun t78 =>
  (cnd t78 (J12_30 call n ih22 t0 t1 t2 t7 t8 t9 t75 t76 t77 h) (J12_19 call n t0 t1 t7 t8 t9 h))
theorem L12_33 (call : VCaller) (n : Nat) {K22 : VRun} {ih22 : VVal → VVal → VVal → VVal → VVal → VVal → VVal → VVal → VVal → VHeap → VAns} (I22 : Sim 152 K22 (apL [0, 1, 2, 7, 8, 9, 75, 76, 77] ih22)) : Sim 152 (runK call n c12_32 (D12_22 call n K22)) (apL [0, 1, 2, 7, 8, 9, 75, 76, 77] (J12_33 call n ih22)) := Sim.reg (Sim.seq (Sim.cond (Sim.skip (Sim.seq (Sim.block (L12_30 call n I22)))) (Sim.exit (L12_19 call n)))) (by kernel_rfl) (by kernel_rfl)
noncomputable def J12_22 (call : VCaller) (n : Nat) (m : Nat) : VVal → VVal → VVal → VVal → VVal → VVal → VVal → VVal → VVal → VHeap → VAns :=
  Nat.rec (motive := fun _ => VVal → VVal → VVal → VVal → VVal → VVal → VVal → VVal → VVal → VHeap → VAns) (fun _ _ _ _ _ _ _ _ _ _ => none) (fun _ ih22 => fun t0 t1 t2 t7 t8 t9 t75 t76 t77 h => (J12_33 call n ih22 t0 t1 t2 t7 t8 t9 t75 t76 t77 h)) m
noncomputable def c12_34 : VCode := .seq (.region false (A12 [1, 1, 1, 1, 1, 0, 0])) (.block 0 (.loop c12_32))
noncomputable def J12_35 (call : VCaller) (n : Nat) (t0 t1 t2 t7 t8 t9 : VVal) (h : VHeap) : VAns :=
  rd (nilF t1) fun t73 =>
  rd (faddr 2 t73) fun t74 =>
  rd (VHeap.load1 h t74) fun t75 =>
  rd (lenF .slice t75 h) fun t76 =>
  (J12_22 call n n t0 t1 t2 t7 t8 t9 t75 t76 (I 0) h)
theorem L12_35 (call : VCaller) (n : Nat) : Sim 152 (runK call n c12_34 (D12_20 call n)) (apL [0, 1, 2, 7, 8, 9] (J12_35 call n)) := Sim.reg (Sim.block (Sim.loop (J := fun m => apL [0, 1, 2, 7, 8, 9, 75, 76, 77] (J12_22 call n m)) (by kernel_rfl) (fun _ I22 => (L12_33 call n I22)))) (by kernel_rfl) (by kernel_rfl)
noncomputable def c12_36 : VCode := .seq (.region true (A12 [1, 1, 1, 1, 0])) (.seq c12_34 c12_18)
noncomputable def J12_37 (call : VCaller) (n : Nat) (t0 t1 t2 t7 t8 t9 : VVal) (h : VHeap) : VAns :=
  rd (nilF t0) fun v2 =>
  rd (faddr 7 v2) fun v3 =>
  rd (VHeap.load1 h v3) fun v4 =>
  rd (nilF t1) fun v6 =>
  rd (faddr 4 v6) fun v7 =>
  rd (VHeap.load1 h v7) fun v8 =>
  bd (VOp.write [] h (.append 3 1 8 (some [(I 0)]) (.const v4) (.const v8))) fun v9 h9 =>
  rd (nilF t0) fun v10 =>
  rd (faddr 7 v10) fun v11 =>
  bd (VOp.write [] h9 (.store 1 (.const v11) (.const v9))) fun v12 h12 =>
  (J12_35 call n t0 t1 t2 t7 t8 t9 h12)
theorem L12_37 (call : VCaller) (n : Nat) : Sim 152 (runK call n c12_36 (fin rs12)) (apL [0, 1, 2, 7, 8, 9] (J12_37 call n)) := Sim.drw (Sim.seq (L12_35 call n)) (by kernel_rfl) (by kernel_rfl)
noncomputable def c12_38 : VCode := .seq (.region false (A12 [1, 1, 1, 0])) c12_36
noncomputable def J12_39 (call : VCaller) (n : Nat) (t0 t1 t2 t7 t8 t9 : VVal) (h : VHeap) : VAns :=
  rd (nilF t1) fun t49 =>
  rd (faddr 1 t49) fun t50 =>
  rd (VHeap.load1 h t50) fun t51 =>
  fr (VOp.fresh [] (.mkSlice 3 1 8 [(I 0)] (.const t51) (.const t51))) h fun t52 h6 =>
  rd (binV .mul (.flat .int) (I 4) t9) fun t54 =>
  rd (addI (I 1048576) t54) fun t55 =>
  rd (nilF t0) fun t56 =>
  rd (faddr 12 t56) fun t57 =>
  bd (VOp.write [] h6 (.store 1 (.const t57) (.const t52))) fun _ h12 =>
  rd (nilF t0) fun t58 =>
  rd (faddr 13 t58) fun t59 =>
  bd (VOp.write [] h12 (.store 1 (.const t59) (.const t55))) fun _ h15 =>
  (J12_37 call n t0 t1 t2 t7 t8 t9 h15)
theorem L12_39 (call : VCaller) (n : Nat) : Sim 152 (runK call n c12_38 (fin rs12)) (apL [0, 1, 2, 7, 8, 9] (J12_39 call n)) := Sim.reg (L12_37 call n) (by kernel_rfl) (by kernel_rfl)
noncomputable def c12_40 : VCode := .seq (.region true (A12 [1, 1, 0])) c12_38
noncomputable def J12_41 (call : VCaller) (n : Nat) (t0 t1 t2 : VVal) (h : VHeap) : VAns :=
  rd (nilF t0) fun v1 =>
  rd (faddr 12 v1) fun v2 =>
  rd (VHeap.load1 h v2) fun v3 =>
  rd (nilF t0) fun v5 =>
  rd (faddr 13 v5) fun v6 =>
  rd (VHeap.load1 h v6) fun v7 =>
  rd (nilF t0) fun v9 =>
  rd (faddr 7 v9) fun v10 =>
  rd (VHeap.load1 h v10) fun v11 =>
  rd (lenF .slice v11 h) fun v12 =>
  (J12_39 call n t0 t1 t2 v3 v7 v12 h)
theorem L12_41 (call : VCaller) (n : Nat) : Sim 152 (runK call n c12_40 (fin rs12)) (apL [0, 1, 2] (J12_41 call n)) := Sim.drw (L12_39 call n) (by kernel_rfl) (by kernel_rfl)
noncomputable def D12_42 (call : VCaller) (n : Nat) : Kont := kn (runK call n c12_40 (fin rs12)) (fin rs12)
noncomputable def c12_43 : VCode := .region false (A12 [1, 0, 1, 0])
noncomputable def J12_44 (call : VCaller) (n : Nat) (t0 t1 t2 : VVal) (h : VHeap) : VAns :=
  bc (call 11 [(I 2), (I 0)] h) thr fun t32 h0 =>
  (J12_41 call n t0 t1 t2 h0)
theorem L12_44 (call : VCaller) (n : Nat) : Sim 152 (runK call n c12_43 (D12_42 call n)) (apL [0, 1, 2] (J12_44 call n)) := Sim.regE (L12_41 call n) (by kernel_rfl) (by kernel_rfl)
noncomputable def c12_45 : VCode := .seq (.region false (A12 [1, 0, 0])) (.cond (.tmp 31) c12_43 .skip)
noncomputable def J12_46 (call : VCaller) (n : Nat) (t0 t1 t2 : VVal) (h : VHeap) : VAns :=
  rd (nilF t0) fun t14 =>
  rd (faddr 11 t14) fun t15 =>
  rd (VHeap.load1 h t15) fun t16 =>
  rd (geI t16 (I 392)) fun t17 =>
  gd false t17 (some t1) fun t19 =>
  gd false t17 (nilF t19) fun t20 =>
  gd false t17 (faddr 5 t20) fun t21 =>
  gd false t17 (VHeap.load1 h t21) fun t22 =>
  gd false t17 (unV .not t22) fun t23 =>
  gd false t17 (some t23) fun t24 =>
  gd true t24 (some t0) fun t25 =>
  gd true t24 (nilF t25) fun t26 =>
  gd true t24 (faddr 10 t26) fun t27 =>
  gd true t24 (VHeap.load1 h t27) fun t28 =>
  gd true t24 (geI t28 (I 48)) fun t29 =>
  gd false t17 (pickF t24 t29 (.bool false)) fun t30 =>
  rd (pickF t17 (.bool true) t30) fun t31 =>
  (cnd t31 (J12_44 call n t0 t1 t2 h) (J12_41 call n t0 t1 t2 h))
theorem L12_46 (call : VCaller) (n : Nat) : Sim 152 (runK call n c12_45 (D12_42 call n)) (apL [0, 1, 2] (J12_46 call n)) := Sim.reg (Sim.cond (L12_44 call n) (Sim.skip (L12_41 call n))) (by kernel_rfl) (by kernel_rfl)
noncomputable def c12_47 : VCode := .seq (.region false (A12 [0])) (.seq c12_45 c12_40)
noncomputable def J12_48 (call : VCaller) (n : Nat) (t0 t1 t2 : VVal) (h : VHeap) : VAns :=
  (J12_46 call n t0 t1 t2 h)
theorem L12_48 (call : VCaller) (n : Nat) : Sim 152 (runK call n c12_47 (fin rs12)) (apL [0, 1, 2] (J12_48 call n)) := Sim.reg (Sim.seq (L12_46 call n)) (by kernel_rfl) (by kernel_rfl)
noncomputable def vf12 : VFunc := ⟨152, rs12, c12_47⟩
noncomputable def S12 (call : VCaller) (n : Nat) : VRun := fun args h => match args with
  | [a0, a1, a2] => (J12_48 call n a0 a1 a2 h)
  | args => runK call n vf12.body (fin vf12.results) (args ++ List.replicate (vf12.ntmps - args.length) .undef) h
theorem S12_ok : FastFn.ok ⟨12, vf12, S12⟩ := by
  intro call n args h
  show _ = S12 call n args h
  unfold S12
  split
  · exact (((L12_48 call n) : Sim 152 (runK call n vf12.body (fin vf12.results)) _) _ _ rfl).trans (by kernel_rfl)
  · rfl
theorem vf12_ok : FastFn.inP Try.prog ⟨12, vf12, S12⟩ := by
  show funcV Try.prog 12 = some vf12
  kernel_rfl
/- (*ferrule/low.machine).body -/
noncomputable def A21 := opsAt Try.prog 21
noncomputable def rs21 : List VResult := [.tmp 4]
theorem R21 : Sim 82 (fin rs21 .ret) (fun σ h => (finV [rT (σ 4)] h)) := Sim.of (by kernel_rfl)
noncomputable def D21_0 (call : VCaller) (n : Nat) : Kont := kb 0 (fin rs21)
noncomputable def D21_1 (call : VCaller) (n : Nat) (K1 : VRun) : Kont := kn K1 (D21_0 call n)
noncomputable def D21_2 (call : VCaller) (n : Nat) (K1 : VRun) : Kont := kb 1 (D21_1 call n K1)
noncomputable def c21_3 : VCode := .region false (A21 [1, 1, 0, 0, 0, 1, 1, 1, 1, 1])
noncomputable def J21_4 (call : VCaller) (n : Nat) (ih1 : VVal → VVal → VVal → VHeap → VAns) (t0 t1 t8 : VVal) (h : VHeap) : VAns :=
  rd (nilF t1) fun t77 =>
  rd (faddr 6 t77) fun t78 =>
  rd (VHeap.load1 h t78) fun t79 =>
  rd (idxS 8 t79 t8) fun t81 =>
  (ih1 t0 t1 t81 h)
theorem L21_4 (call : VCaller) (n : Nat) {K1 : VRun} {ih1 : VVal → VVal → VVal → VHeap → VAns} (I1 : Sim 82 K1 (apL [0, 1, 5] ih1)) : Sim 82 (runK call n c21_3 (D21_2 call n K1)) (apL [0, 1, 8] (J21_4 call n ih1)) := Sim.regE I1 (by kernel_rfl) (by kernel_rfl)
noncomputable def D21_5 (call : VCaller) (n : Nat) (K1 : VRun) : Kont := kn (runK call n c21_3 (D21_2 call n K1)) (D21_2 call n K1)
noncomputable def D21_6 (call : VCaller) (n : Nat) (K1 : VRun) : Kont := kb 4 (D21_5 call n K1)
noncomputable def c21_7 : VCode := .seq (.region false (A21 [1, 1, 0, 0, 0, 1, 1, 1, 1, 0, 1, 0, 1, 0, 0])) .ret
noncomputable def J21_8 (call : VCaller) (n : Nat) (ih1 : VVal → VVal → VVal → VHeap → VAns) (t0 t7 : VVal) (h : VHeap) : VAns :=
  rd (faddr 6 t7) fun t46 =>
  rd (VHeap.load1 h t46) fun t47 =>
  bc (call 28 [t0, t47] h) thr fun t48 h3 =>
  (finV [rT t48] h3)
theorem L21_8 (call : VCaller) (n : Nat) {K1 : VRun} {ih1 : VVal → VVal → VVal → VHeap → VAns} (I1 : Sim 82 K1 (apL [0, 1, 5] ih1)) : Sim 82 (runK call n c21_7 (D21_6 call n K1)) (apL [0, 7] (J21_8 call n ih1)) := Sim.reg (Sim.ret R21) (by kernel_rfl) (by kernel_rfl)
noncomputable def c21_9 : VCode := .region false (A21 [1, 1, 0, 0, 0, 1, 1, 1, 1, 0, 1, 0, 1, 1, 1, 0])
noncomputable def J21_10 (call : VCaller) (n : Nat) (ih1 : VVal → VVal → VVal → VHeap → VAns) (t0 t1 t8 : VVal) (h : VHeap) : VAns :=
  bc (call 11 [(I 1), (I 101)] h) thr fun t51 h0 =>
  (J21_4 call n ih1 t0 t1 t8 h0)
theorem L21_10 (call : VCaller) (n : Nat) {K1 : VRun} {ih1 : VVal → VVal → VVal → VHeap → VAns} (I1 : Sim 82 K1 (apL [0, 1, 5] ih1)) : Sim 82 (runK call n c21_9 (D21_6 call n K1)) (apL [0, 1, 8] (J21_10 call n ih1)) := Sim.regE (L21_4 call n I1) (by kernel_rfl) (by kernel_rfl)
noncomputable def c21_11 : VCode := .region false (A21 [1, 1, 0, 0, 0, 1, 1, 1, 1, 0, 1, 0, 1, 1, 1, 1, 1, 0, 1, 0])
noncomputable def J21_12 (call : VCaller) (n : Nat) (ih1 : VVal → VVal → VVal → VHeap → VAns) (t0 t1 t7 : VVal) (h : VHeap) : VAns :=
  rd (faddr 4 t7) fun t74 =>
  rd (VHeap.load1 h t74) fun t75 =>
  (J21_4 call n ih1 t0 t1 t75 h)
theorem L21_12 (call : VCaller) (n : Nat) {K1 : VRun} {ih1 : VVal → VVal → VVal → VHeap → VAns} (I1 : Sim 82 K1 (apL [0, 1, 5] ih1)) : Sim 82 (runK call n c21_11 (D21_6 call n K1)) (apL [0, 1, 7] (J21_12 call n ih1)) := Sim.regE (L21_4 call n I1) (by kernel_rfl) (by kernel_rfl)
noncomputable def c21_13 : VCode := .seq (.region true (A21 [1, 1, 0, 0, 0, 1, 1, 1, 1, 0, 1, 0, 1, 1, 1, 1, 1, 0, 0])) (.cond (.tmp 73) c21_11 .skip)
noncomputable def J21_14 (call : VCaller) (n : Nat) (ih1 : VVal → VVal → VVal → VHeap → VAns) (t0 t1 t7 t8 : VVal) (h : VHeap) : VAns :=
  rd (nilF t0) fun v1 =>
  rd (faddr 1 v1) fun v2 =>
  rd (VHeap.load1 h v2) fun v3 =>
  rd (faddr 5 t7) fun v4 =>
  rd (VHeap.load1 h v4) fun v5 =>
  rd (VOp.read [] h (.lookup .str (.agg [.nilfunc]) (.const v3) (.const v5) false)) fun v6 =>
  rd (fieldF false 1 0 v6) fun v7 =>
  rd (faddr 1 t7) fun v9 =>
  rd (VHeap.load1 h v9) fun v10 =>
  bc (call 29 [t0, v10] h) thn fun v11 h11 =>
  rd (convF .i32 v11) fun v12 =>
  rd (faddr 2 t7) fun v14 =>
  rd (VHeap.load1 h11 v14) fun v15 =>
  bc (call 29 [t0, v15] h11) thn fun v16 h16 =>
  rd (convF .i32 v16) fun v17 =>
  cl call (VOp.callee [] (.call (.const v7) [(.const v12), (.const v17)])) h16 thn fun v18 h18 =>
  rd (unV .not v18) fun v19 =>
  ck ((((readsSame (.load false 1 (.const v2)) [] h11 v3) && ((readsSame (.load false 1 (.const v4)) [] h11 v5) && ((readsSame (.lookup .str (.agg [.nilfunc]) (.const v3) (.const v5) false) [] h11 v6) && true))) && (((readsSame (.load false 1 (.const v14)) [] h v15) && true) && (((readsSame (.load false 1 (.const v2)) [] h16 v3) && ((readsSame (.load false 1 (.const v4)) [] h16 v5) && ((readsSame (.lookup .str (.agg [.nilfunc]) (.const v3) (.const v5) false) [] h16 v6) && true))) && true)))) ((cnd v19 (J21_12 call n ih1 t0 t1 t7 h18) (J21_4 call n ih1 t0 t1 t8 h18)))
theorem L21_14 (call : VCaller) (n : Nat) {K1 : VRun} {ih1 : VVal → VVal → VVal → VHeap → VAns} (I1 : Sim 82 K1 (apL [0, 1, 5] ih1)) : Sim 82 (runK call n c21_13 (D21_6 call n K1)) (apL [0, 1, 7, 8] (J21_14 call n ih1)) := Sim.drw (Sim.cond (L21_12 call n I1) (Sim.skip (L21_4 call n I1))) (by kernel_rfl) (by kernel_rfl)
noncomputable def c21_15 : VCode := .seq (.region false (A21 [1, 1, 0, 0, 0, 1, 1, 1, 1, 0, 1, 0, 1, 1, 1, 1, 0])) (.cond (.tmp 52) c21_13 .skip)
noncomputable def J21_16 (call : VCaller) (n : Nat) (ih1 : VVal → VVal → VVal → VHeap → VAns) (t0 t1 t7 t8 t42 : VVal) (h : VHeap) : VAns :=
  rd (eqI t42 (I 2)) fun t53 =>
  (cnd t53 (J21_14 call n ih1 t0 t1 t7 t8 h) (J21_4 call n ih1 t0 t1 t8 h))
theorem L21_16 (call : VCaller) (n : Nat) {K1 : VRun} {ih1 : VVal → VVal → VVal → VHeap → VAns} (I1 : Sim 82 K1 (apL [0, 1, 5] ih1)) : Sim 82 (runK call n c21_15 (D21_6 call n K1)) (apL [0, 1, 7, 8, 42] (J21_16 call n ih1)) := Sim.reg (Sim.cond (L21_14 call n I1) (Sim.skip (L21_4 call n I1))) (by kernel_rfl) (by kernel_rfl)
noncomputable def c21_17 : VCode := .seq (.region false (A21 [1, 1, 0, 0, 0, 1, 1, 1, 1, 0, 1, 0, 1, 1, 0])) (.cond (.tmp 49) c21_9 c21_15)
noncomputable def J21_18 (call : VCaller) (n : Nat) (ih1 : VVal → VVal → VVal → VHeap → VAns) (t0 t1 t7 t8 t42 : VVal) (h : VHeap) : VAns :=
  rd (eqI t42 (I 4)) fun t50 =>
  (cnd t50 (J21_10 call n ih1 t0 t1 t8 h) (J21_16 call n ih1 t0 t1 t7 t8 t42 h))
theorem L21_18 (call : VCaller) (n : Nat) {K1 : VRun} {ih1 : VVal → VVal → VVal → VHeap → VAns} (I1 : Sim 82 K1 (apL [0, 1, 5] ih1)) : Sim 82 (runK call n c21_17 (D21_6 call n K1)) (apL [0, 1, 7, 8, 42] (J21_18 call n ih1)) := Sim.reg (Sim.cond (L21_10 call n I1) (L21_16 call n I1)) (by kernel_rfl) (by kernel_rfl)
noncomputable def c21_19 : VCode := .seq (.region false (A21 [1, 1, 0, 0, 0, 1, 1, 1, 1, 0, 1, 0, 0])) (.cond (.tmp 43) c21_7 c21_17)
noncomputable def J21_20 (call : VCaller) (n : Nat) (ih1 : VVal → VVal → VVal → VHeap → VAns) (t0 t1 t7 t8 t42 : VVal) (h : VHeap) : VAns :=
  rd (eqI t42 (I 3)) fun t44 =>
  (cnd t44 (J21_8 call n ih1 t0 t7 h) (J21_18 call n ih1 t0 t1 t7 t8 t42 h))
theorem L21_20 (call : VCaller) (n : Nat) {K1 : VRun} {ih1 : VVal → VVal → VVal → VHeap → VAns} (I1 : Sim 82 K1 (apL [0, 1, 5] ih1)) : Sim 82 (runK call n c21_19 (D21_6 call n K1)) (apL [0, 1, 7, 8, 42] (J21_20 call n ih1)) := Sim.reg (Sim.cond (L21_8 call n I1) (L21_18 call n I1)) (by kernel_rfl) (by kernel_rfl)
noncomputable def c21_21 : VCode := .seq (.region false (A21 [1, 1, 0, 0, 0, 1, 1, 1, 1, 0, 0])) (.block 4 c21_19)
noncomputable def J21_22 (call : VCaller) (n : Nat) (ih1 : VVal → VVal → VVal → VHeap → VAns) (t0 t1 t7 t8 : VVal) (h : VHeap) : VAns :=
  rd (faddr 0 t7) fun t41 =>
  rd (VHeap.load1 h t41) fun t42 =>
  (J21_20 call n ih1 t0 t1 t7 t8 t42 h)
theorem L21_22 (call : VCaller) (n : Nat) {K1 : VRun} {ih1 : VVal → VVal → VVal → VHeap → VAns} (I1 : Sim 82 K1 (apL [0, 1, 5] ih1)) : Sim 82 (runK call n c21_21 (D21_5 call n K1)) (apL [0, 1, 7, 8] (J21_22 call n ih1)) := Sim.reg (Sim.block (L21_20 call n I1)) (by kernel_rfl) (by kernel_rfl)
noncomputable def c21_23 : VCode := .seq (.region false (A21 [1, 1, 0, 0, 0, 1, 1, 1, 0])) (.seq c21_21 c21_3)
noncomputable def J21_24 (call : VCaller) (n : Nat) (ih1 : VVal → VVal → VVal → VHeap → VAns) (t0 t1 t7 : VVal) (h : VHeap) : VAns :=
  rd (faddr 3 t7) fun t39 =>
  rd (VHeap.load1 h t39) fun t40 =>
  (J21_22 call n ih1 t0 t1 t7 t40 h)
theorem L21_24 (call : VCaller) (n : Nat) {K1 : VRun} {ih1 : VVal → VVal → VVal → VHeap → VAns} (I1 : Sim 82 K1 (apL [0, 1, 5] ih1)) : Sim 82 (runK call n c21_23 (D21_2 call n K1)) (apL [0, 1, 7] (J21_24 call n ih1)) := Sim.reg (Sim.seq (L21_22 call n I1)) (by kernel_rfl) (by kernel_rfl)
noncomputable def c21_25 : VCode := .seq (.region false (A21 [1, 1, 0, 0, 0, 1, 1, 0])) c21_23
noncomputable def J21_26 (call : VCaller) (n : Nat) (ih1 : VVal → VVal → VVal → VHeap → VAns) (t0 t1 t5 : VVal) (h : VHeap) : VAns :=
  rd (nilF t5) fun t36 =>
  rd (faddr 1 t36) fun t37 =>
  rd (VHeap.loadA h 7 t37) fun t38 =>
  fr (VOp.fresh [] (.box 33 (.const (.agg [(I 0), (I 0), (I 0), (I 0), (I 0), (.str []), .nilslice])))) h fun t7 h4 =>
  bd (VOp.write [] h4 (.store 7 (.const t7) (.const t38))) fun _ h5 =>
  (J21_24 call n ih1 t0 t1 t7 h5)
theorem L21_26 (call : VCaller) (n : Nat) {K1 : VRun} {ih1 : VVal → VVal → VVal → VHeap → VAns} (I1 : Sim 82 K1 (apL [0, 1, 5] ih1)) : Sim 82 (runK call n c21_25 (D21_2 call n K1)) (apL [0, 1, 5] (J21_26 call n ih1)) := Sim.reg (L21_24 call n I1) (by kernel_rfl) (by kernel_rfl)
noncomputable def c21_27 : VCode := .seq (.region false (A21 [1, 1, 0, 0, 0, 1, 0])) c21_25
noncomputable def J21_28 (call : VCaller) (n : Nat) (ih1 : VVal → VVal → VVal → VHeap → VAns) (t0 t1 t5 : VVal) (h : VHeap) : VAns :=
  bc (call 26 [t0] h) thr fun t34 h1 =>
  (J21_26 call n ih1 t0 t1 t5 h1)
theorem L21_28 (call : VCaller) (n : Nat) {K1 : VRun} {ih1 : VVal → VVal → VVal → VHeap → VAns} (I1 : Sim 82 K1 (apL [0, 1, 5] ih1)) : Sim 82 (runK call n c21_27 (D21_2 call n K1)) (apL [0, 1, 5] (J21_28 call n ih1)) := Sim.reg (L21_26 call n I1) (by kernel_rfl) (by kernel_rfl)
noncomputable def D21_29 (call : VCaller) (n : Nat) (K1 : VRun) : Kont := kn (runK call n c21_27 (D21_2 call n K1)) (D21_2 call n K1)
noncomputable def D21_30 (call : VCaller) (n : Nat) (K1 : VRun) : Kont := kb 2 (D21_29 call n K1)
noncomputable def D21_31 (call : VCaller) (n : Nat) (K1 : VRun) (K31 : VRun) : Kont := kn K31 (D21_30 call n K1)
noncomputable def c21_32 : VCode := .region false (A21 [1, 1, 0, 0, 0, 0, 1, 0, 0, 1, 1, 1])
noncomputable def J21_33 (call : VCaller) (n : Nat) (ih1 : VVal → VVal → VVal → VHeap → VAns) (ih31 : VVal → VVal → VVal → VVal → VVal → VHeap → VAns) (t0 t1 t5 t18 t19 : VVal) (h : VHeap) : VAns :=
  rd (addI t19 (I 1)) fun t32 =>
  (ih31 t0 t1 t5 t18 t32 h)
theorem L21_33 (call : VCaller) (n : Nat) {K1 : VRun} {ih1 : VVal → VVal → VVal → VHeap → VAns} (I1 : Sim 82 K1 (apL [0, 1, 5] ih1)) {K31 : VRun} {ih31 : VVal → VVal → VVal → VVal → VVal → VHeap → VAns} (I31 : Sim 82 K31 (apL [0, 1, 5, 18, 19] ih31)) : Sim 82 (runK call n c21_32 (D21_31 call n K1 K31)) (apL [0, 1, 5, 18, 19] (J21_33 call n ih1 ih31)) := Sim.regE I31 (by kernel_rfl) (by kernel_rfl)
noncomputable def D21_34 (call : VCaller) (n : Nat) (K1 : VRun) (K31 : VRun) : Kont := kn (runK call n c21_32 (D21_31 call n K1 K31)) (D21_31 call n K1 K31)
noncomputable def D21_35 (call : VCaller) (n : Nat) (K1 : VRun) (K31 : VRun) : Kont := kb 3 (D21_34 call n K1 K31)
noncomputable def c21_36 : VCode := .region false (A21 [1, 1, 0, 0, 0, 0, 1, 0, 0, 1, 1, 0, 0, 1, 1])
noncomputable def J21_37 (call : VCaller) (n : Nat) (ih1 : VVal → VVal → VVal → VHeap → VAns) (ih31 : VVal → VVal → VVal → VVal → VVal → VHeap → VAns) (t0 t1 t5 t6 t18 t19 : VVal) (h : VHeap) : VAns :=
  rd (nilF t5) fun t26 =>
  rd (faddr 0 t26) fun t27 =>
  rd (VHeap.load1 h t27) fun t28 =>
  rd (idxS 8 t28 t6) fun t30 =>
  bc (call 27 [t0, t30] h) thr fun t31 h7 =>
  (J21_33 call n ih1 ih31 t0 t1 t5 t18 t19 h7)
theorem L21_37 (call : VCaller) (n : Nat) {K1 : VRun} {ih1 : VVal → VVal → VVal → VHeap → VAns} (I1 : Sim 82 K1 (apL [0, 1, 5] ih1)) {K31 : VRun} {ih31 : VVal → VVal → VVal → VVal → VVal → VHeap → VAns} (I31 : Sim 82 K31 (apL [0, 1, 5, 18, 19] ih31)) : Sim 82 (runK call n c21_36 (D21_35 call n K1 K31)) (apL [0, 1, 5, 6, 18, 19] (J21_37 call n ih1 ih31)) := Sim.regE (L21_33 call n I1 I31) (by kernel_rfl) (by kernel_rfl)
noncomputable def c21_38 : VCode := .seq (.region false (A21 [1, 1, 0, 0, 0, 0, 1, 0, 0, 1, 1, 0, 0, 1, 0])) c21_36
noncomputable def J21_39 (call : VCaller) (n : Nat) (ih1 : VVal → VVal → VVal → VHeap → VAns) (ih31 : VVal → VVal → VVal → VVal → VVal → VHeap → VAns) (t0 t1 t5 t6 t18 t19 : VVal) (h : VHeap) : VAns :=
  bc (call 26 [t0] h) thr fun t23 h1 =>
  (J21_37 call n ih1 ih31 t0 t1 t5 t6 t18 t19 h1)
theorem L21_39 (call : VCaller) (n : Nat) {K1 : VRun} {ih1 : VVal → VVal → VVal → VHeap → VAns} (I1 : Sim 82 K1 (apL [0, 1, 5] ih1)) {K31 : VRun} {ih31 : VVal → VVal → VVal → VVal → VVal → VHeap → VAns} (I31 : Sim 82 K31 (apL [0, 1, 5, 18, 19] ih31)) : Sim 82 (runK call n c21_38 (D21_35 call n K1 K31)) (apL [0, 1, 5, 6, 18, 19] (J21_39 call n ih1 ih31)) := Sim.reg (L21_37 call n I1 I31) (by kernel_rfl) (by kernel_rfl)
noncomputable def c21_40 : VCode := .seq (.region false (A21 [1, 1, 0, 0, 0, 0, 1, 0, 0, 1, 1, 0, 0, 0])) c21_38
noncomputable def J21_41 (call : VCaller) (n : Nat) (ih1 : VVal → VVal → VVal → VHeap → VAns) (ih31 : VVal → VVal → VVal → VVal → VVal → VHeap → VAns) (t0 t1 t5 t18 t19 : VVal) (h : VHeap) : VAns :=
  (J21_39 call n ih1 ih31 t0 t1 t5 t19 t18 t19 h)
theorem L21_41 (call : VCaller) (n : Nat) {K1 : VRun} {ih1 : VVal → VVal → VVal → VHeap → VAns} (I1 : Sim 82 K1 (apL [0, 1, 5] ih1)) {K31 : VRun} {ih31 : VVal → VVal → VVal → VVal → VVal → VHeap → VAns} (I31 : Sim 82 K31 (apL [0, 1, 5, 18, 19] ih31)) : Sim 82 (runK call n c21_40 (D21_35 call n K1 K31)) (apL [0, 1, 5, 18, 19] (J21_41 call n ih1 ih31)) := Sim.reg (L21_39 call n I1 I31) (by kernel_rfl) (by kernel_rfl)
noncomputable def D21_42 (call : VCaller) (n : Nat) (K1 : VRun) (K31 : VRun) : Kont := kn (runK call n (.seq (.block 3 c21_40) c21_32) (D21_31 call n K1 K31)) (D21_31 call n K1 K31)
noncomputable def c21_43 : VCode := .seq (.region false (A21 [1, 1, 0, 0, 0, 0, 1, 0, 0, 0])) (.seq (.cond (.tmp 20) .skip (.exit 2)) (.seq (.block 3 c21_40) c21_32))
noncomputable def J21_44 (call : VCaller) (n : Nat) (ih1 : VVal → VVal → VVal → VHeap → VAns) (ih31 : VVal → VVal → VVal → VVal → VVal → VHeap → VAns) (t0 t1 t5 t18 t19 : VVal) (h : VHeap) : VAns :=
  rd (ltI t19 t18) fun t20 =>
  (cnd t20 (J21_41 call n ih1 ih31 t0 t1 t5 t18 t19 h) (J21_28 call n ih1 t0 t1 t5 h))
theorem L21_44 (call : VCaller) (n : Nat) {K1 : VRun} {ih1 : VVal → VVal → VVal → VHeap → VAns} (I1 : Sim 82 K1 (apL [0, 1, 5] ih1)) {K31 : VRun} {ih31 : VVal → VVal → VVal → VVal → VVal → VHeap → VAns} (I31 : Sim 82 K31 (apL [0, 1, 5, 18, 19] ih31)) : Sim 82 (runK call n c21_43 (D21_31 call n K1 K31)) (apL [0, 1, 5, 18, 19] (J21_44 call n ih1 ih31)) := Sim.reg (Sim.seq (Sim.cond (Sim.skip (Sim.seq (Sim.block (L21_41 call n I1 I31)))) (Sim.exit (L21_28 call n I1)))) (by kernel_rfl) (by kernel_rfl)
noncomputable def J21_31 (call : VCaller) (n : Nat) (ih1 : VVal → VVal → VVal → VHeap → VAns) (m : Nat) : VVal → VVal → VVal → VVal → VVal → VHeap → VAns :=
  Nat.rec (motive := fun _ => VVal → VVal → VVal → VVal → VVal → VHeap → VAns) (fun _ _ _ _ _ _ => none) (fun _ ih31 => fun t0 t1 t5 t18 t19 h => (J21_44 call n ih1 ih31 t0 t1 t5 t18 t19 h)) m
noncomputable def c21_45 : VCode := .seq (.region false (A21 [1, 1, 0, 0, 0, 0, 0])) (.block 2 (.loop c21_43))
noncomputable def J21_46 (call : VCaller) (n : Nat) (ih1 : VVal → VVal → VVal → VHeap → VAns) (t0 t1 t5 : VVal) (h : VHeap) : VAns :=
  rd (nilF t5) fun t15 =>
  rd (faddr 0 t15) fun t16 =>
  rd (VHeap.load1 h t16) fun t17 =>
  rd (lenF .slice t17 h) fun t18 =>
  (J21_31 call n ih1 n t0 t1 t5 t18 (I 0) h)
theorem L21_46 (call : VCaller) (n : Nat) {K1 : VRun} {ih1 : VVal → VVal → VVal → VHeap → VAns} (I1 : Sim 82 K1 (apL [0, 1, 5] ih1)) : Sim 82 (runK call n c21_45 (D21_29 call n K1)) (apL [0, 1, 5] (J21_46 call n ih1)) := Sim.reg (Sim.block (Sim.loop (J := fun m => apL [0, 1, 5, 18, 19] (J21_31 call n ih1 m)) (by kernel_rfl) (fun _ I31 => (L21_44 call n I1 I31)))) (by kernel_rfl) (by kernel_rfl)
noncomputable def J21_1 (call : VCaller) (n : Nat) (m : Nat) : VVal → VVal → VVal → VHeap → VAns :=
  Nat.rec (motive := fun _ => VVal → VVal → VVal → VHeap → VAns) (fun _ _ _ _ => none) (fun _ ih1 => fun t0 t1 t5 h => (J21_46 call n ih1 t0 t1 t5 h)) m
noncomputable def c21_47 : VCode := .seq (.region false (A21 [1, 0])) (.block 0 (.loop (.block 1 (.seq c21_45 c21_27))))
noncomputable def J21_48 (call : VCaller) (n : Nat) (t0 t1 : VVal) (h : VHeap) : VAns :=
  rd (nilF t1) fun t10 =>
  rd (faddr 6 t10) fun t11 =>
  rd (VHeap.load1 h t11) fun t12 =>
  rd (idxS 8 t12 (I 0)) fun t13 =>
  (J21_1 call n n t0 t1 t13 h)
theorem L21_48 (call : VCaller) (n : Nat) : Sim 82 (runK call n c21_47 (fin rs21)) (apL [0, 1] (J21_48 call n)) := Sim.reg (Sim.block (Sim.loop (J := fun m => apL [0, 1, 5] (J21_1 call n m)) (by kernel_rfl) (fun _ I1 => (Sim.block (Sim.seq (L21_46 call n I1)))))) (by kernel_rfl) (by kernel_rfl)
noncomputable def c21_49 : VCode := .seq (.region false (A21 [0])) c21_47
noncomputable def J21_50 (call : VCaller) (n : Nat) (t0 t1 : VVal) (h : VHeap) : VAns :=
  (J21_48 call n t0 t1 h)
theorem L21_50 (call : VCaller) (n : Nat) : Sim 82 (runK call n c21_49 (fin rs21)) (apL [0, 1] (J21_50 call n)) := Sim.reg (L21_48 call n) (by kernel_rfl) (by kernel_rfl)
noncomputable def vf21 : VFunc := ⟨82, rs21, c21_49⟩
noncomputable def S21 (call : VCaller) (n : Nat) : VRun := fun args h => match args with
  | [a0, a1] => (J21_50 call n a0 a1 h)
  | args => runK call n vf21.body (fin vf21.results) (args ++ List.replicate (vf21.ntmps - args.length) .undef) h
theorem S21_ok : FastFn.ok ⟨21, vf21, S21⟩ := by
  intro call n args h
  show _ = S21 call n args h
  unfold S21
  split
  · exact (((L21_50 call n) : Sim 82 (runK call n vf21.body (fin vf21.results)) _) _ _ rfl).trans (by kernel_rfl)
  · rfl
theorem vf21_ok : FastFn.inP Try.prog ⟨21, vf21, S21⟩ := by
  show funcV Try.prog 21 = some vf21
  kernel_rfl
/- (*ferrule/low.machine).step -/
noncomputable def A26 := opsAt Try.prog 26
noncomputable def rs26 : List VResult := []
theorem R26 : Sim 19 (fin rs26 .ret) (fun σ h => (finV [] h)) := Sim.of (by kernel_rfl)
noncomputable def c26_0 : VCode := .region false (A26 [1])
noncomputable def J26_1 (call : VCaller) (n : Nat) (t0 : VVal) (h : VHeap) : VAns :=
  rd (nilF t0) fun t13 =>
  rd (faddr 4 t13) fun t14 =>
  rd (VHeap.load1 h t14) fun t15 =>
  rd (addI t15 (I 1)) fun t16 =>
  rd (nilF t0) fun t17 =>
  rd (faddr 4 t17) fun t18 =>
  bd (VOp.write [] h (.store 1 (.const t18) (.const t16))) fun _ h7 =>
  (finV [] h7)
theorem L26_1 (call : VCaller) (n : Nat) : Sim 19 (runK call n c26_0 (fin rs26)) (apL [0] (J26_1 call n)) := Sim.regE R26 (by kernel_rfl) (by kernel_rfl)
noncomputable def D26_2 (call : VCaller) (n : Nat) : Kont := kn (runK call n c26_0 (fin rs26)) (fin rs26)
noncomputable def c26_3 : VCode := .region false (A26 [0, 1, 0])
noncomputable def J26_4 (call : VCaller) (n : Nat) (t0 : VVal) (h : VHeap) : VAns :=
  bc (call 11 [(I 0), (I 0)] h) thr fun t11 h0 =>
  (J26_1 call n t0 h0)
theorem L26_4 (call : VCaller) (n : Nat) : Sim 19 (runK call n c26_3 (D26_2 call n)) (apL [0] (J26_4 call n)) := Sim.regE (L26_1 call n) (by kernel_rfl) (by kernel_rfl)
noncomputable def c26_5 : VCode := .seq (.region true (A26 [0, 0])) (.cond (.tmp 10) c26_3 .skip)
noncomputable def J26_6 (call : VCaller) (n : Nat) (t0 : VVal) (h : VHeap) : VAns :=
  rd (nilF t0) fun v1 =>
  rd (faddr 4 v1) fun v2 =>
  rd (VHeap.load1 h v2) fun v3 =>
  rd (nilF t0) fun v5 =>
  rd (faddr 3 v5) fun v6 =>
  rd (VHeap.load1 h v6) fun v7 =>
  rd (geI v3 v7) fun v8 =>
  (cnd v8 (J26_4 call n t0 h) (J26_1 call n t0 h))
theorem L26_6 (call : VCaller) (n : Nat) : Sim 19 (runK call n c26_5 (D26_2 call n)) (apL [0] (J26_6 call n)) := Sim.drw (Sim.cond (L26_4 call n) (Sim.skip (L26_1 call n))) (by kernel_rfl) (by kernel_rfl)
noncomputable def vf26 : VFunc := ⟨19, rs26, (.seq c26_5 c26_0)⟩
noncomputable def S26 (call : VCaller) (n : Nat) : VRun := fun args h => match args with
  | [a0] => (J26_6 call n a0 h)
  | args => runK call n vf26.body (fin vf26.results) (args ++ List.replicate (vf26.ntmps - args.length) .undef) h
theorem S26_ok : FastFn.ok ⟨26, vf26, S26⟩ := by
  intro call n args h
  show _ = S26 call n args h
  unfold S26
  split
  · exact (((Sim.seq (L26_6 call n)) : Sim 19 (runK call n vf26.body (fin vf26.results)) _) _ _ rfl).trans (by kernel_rfl)
  · rfl
theorem vf26_ok : FastFn.inP Try.prog ⟨26, vf26, S26⟩ := by
  show funcV Try.prog 26 = some vf26
  kernel_rfl
/- (*ferrule/low.machine).instr -/
noncomputable def A27 := opsAt Try.prog 27
noncomputable def rs27 : List VResult := []
theorem R27 : Sim 143 (fin rs27 .ret) (fun σ h => (finV [] h)) := Sim.of (by kernel_rfl)
noncomputable def c27_0 : VCode := .region true (A27 [1, 1])
noncomputable def J27_1 (call : VCaller) (n : Nat) (t0 t1 t4 : VVal) (h : VHeap) : VAns :=
  rd (nilF t0) fun v1 =>
  rd (faddr 12 v1) fun v2 =>
  rd (VHeap.load1 h v2) fun v3 =>
  rd (nilF t1) fun v5 =>
  rd (faddr 1 v5) fun v6 =>
  rd (VHeap.load1 h v6) fun v7 =>
  rd (idxS 1 v3 v7) fun v9 =>
  bd (VOp.write [] h (.store 1 (.const v9) (.const t4))) fun v10 h10 =>
  (finV [] h10)
theorem L27_1 (call : VCaller) (n : Nat) : Sim 143 (runK call n c27_0 (fin rs27)) (apL [0, 1, 4] (J27_1 call n)) := Sim.drwE R27 (by kernel_rfl) (by kernel_rfl)
noncomputable def D27_2 (call : VCaller) (n : Nat) : Kont := kn (runK call n c27_0 (fin rs27)) (fin rs27)
noncomputable def D27_3 (call : VCaller) (n : Nat) : Kont := kb 0 (D27_2 call n)
noncomputable def c27_4 : VCode := .region false (A27 [1, 0, 1, 0, 1, 0])
noncomputable def J27_5 (call : VCaller) (n : Nat) (t0 t1 : VVal) (h : VHeap) : VAns :=
  rd (nilF t1) fun t17 =>
  rd (faddr 4 t17) fun t18 =>
  rd (VHeap.load1 h t18) fun t19 =>
  rd (convF .i32 t19) fun t20 =>
  rd (convF .i64 t20) fun t21 =>
  (J27_1 call n t0 t1 t21 h)
theorem L27_5 (call : VCaller) (n : Nat) : Sim 143 (runK call n c27_4 (D27_3 call n)) (apL [0, 1] (J27_5 call n)) := Sim.regE (L27_1 call n) (by kernel_rfl) (by kernel_rfl)
noncomputable def c27_6 : VCode := .region false (A27 [1, 0, 1, 0, 1, 1, 1, 0])
noncomputable def J27_7 (call : VCaller) (n : Nat) (t0 t1 : VVal) (h : VHeap) : VAns :=
  rd (nilF t1) fun t26 =>
  rd (faddr 2 t26) fun t27 =>
  rd (VHeap.load1 h t27) fun t28 =>
  bc (call 29 [t0, t28] h) thr fun t29 h5 =>
  (J27_1 call n t0 t1 t29 h5)
theorem L27_7 (call : VCaller) (n : Nat) : Sim 143 (runK call n c27_6 (D27_3 call n)) (apL [0, 1] (J27_7 call n)) := Sim.regE (L27_1 call n) (by kernel_rfl) (by kernel_rfl)
noncomputable def c27_8 : VCode := .region true (A27 [1, 0, 1, 0, 1, 1, 1, 1, 1, 0])
noncomputable def J27_9 (call : VCaller) (n : Nat) (t0 t1 : VVal) (h : VHeap) : VAns :=
  rd (nilF t1) fun v1 =>
  rd (faddr 5 v1) fun v2 =>
  rd (VHeap.load1 h v2) fun v3 =>
  rd (nilF t1) fun v6 =>
  rd (faddr 2 v6) fun v7 =>
  rd (VHeap.load1 h v7) fun v8 =>
  bc (call 29 [t0, v8] h) thn fun v9 h9 =>
  rd (nilF t1) fun v12 =>
  rd (faddr 3 v12) fun v13 =>
  rd (VHeap.load1 h9 v13) fun v14 =>
  bc (call 29 [t0, v14] h9) thn fun v15 h15 =>
  bc (call 31 [v3, v9, v15] h15) thn fun v16 h16 =>
  rd (extF v16 0) fun v18 =>
  rd (extF v16 1) fun v19 =>
  ck ((((readsSame (.load false 1 (.const v2)) [] h9 v3) && true) && (((readsSame (.load false 1 (.const v13)) [] h v14) && true) && (((readsSame (.load false 1 (.const v2)) [] h15 v3) && true) && true)))) ((J27_1 call n t0 t1 v18 h16))
theorem L27_9 (call : VCaller) (n : Nat) : Sim 143 (runK call n c27_8 (D27_3 call n)) (apL [0, 1] (J27_9 call n)) := Sim.drwE (L27_1 call n) (by kernel_rfl) (by kernel_rfl)
noncomputable def c27_10 : VCode := .region true (A27 [1, 0, 1, 0, 1, 1, 1, 1, 1, 1, 1, 0])
noncomputable def J27_11 (call : VCaller) (n : Nat) (t0 t1 : VVal) (h : VHeap) : VAns :=
  rd (nilF t1) fun v1 =>
  rd (faddr 5 v1) fun v2 =>
  rd (VHeap.load1 h v2) fun v3 =>
  rd (nilF t1) fun v6 =>
  rd (faddr 2 v6) fun v7 =>
  rd (VHeap.load1 h v7) fun v8 =>
  bc (call 29 [t0, v8] h) thn fun v9 h9 =>
  rd (nilF t1) fun v11 =>
  rd (faddr 4 v11) fun v12 =>
  rd (VHeap.load1 h9 v12) fun v13 =>
  bc (call 31 [v3, v9, v13] h9) thn fun v14 h14 =>
  rd (extF v14 0) fun v16 =>
  rd (extF v14 1) fun v17 =>
  ck ((((readsSame (.load false 1 (.const v2)) [] h9 v3) && true) && (((readsSame (.load false 1 (.const v12)) [] h v13) && true) && true))) ((J27_1 call n t0 t1 v16 h14))
theorem L27_11 (call : VCaller) (n : Nat) : Sim 143 (runK call n c27_10 (D27_3 call n)) (apL [0, 1] (J27_11 call n)) := Sim.drwE (L27_1 call n) (by kernel_rfl) (by kernel_rfl)
noncomputable def c27_12 : VCode := .region true (A27 [1, 0, 1, 0, 1, 1, 1, 1, 1, 1, 1, 1, 1, 0])
noncomputable def J27_13 (call : VCaller) (n : Nat) (t0 t1 : VVal) (h : VHeap) : VAns :=
  rd (nilF t1) fun v3 =>
  rd (faddr 2 v3) fun v4 =>
  rd (VHeap.load1 h v4) fun v5 =>
  bc (call 29 [t0, v5] h) thn fun v6 h6 =>
  rd (nilF t1) fun v8 =>
  rd (faddr 4 v8) fun v9 =>
  rd (VHeap.load1 h6 v9) fun v10 =>
  rd (addI v6 v10) fun v11 =>
  rd (convF .i32 v11) fun v12 =>
  rd (convF .i64 v12) fun v13 =>
  bc (call 37 [t0, v13] h6) thn fun v14 h14 =>
  rd (nilF v14) fun v15 =>
  rd (VHeap.load1 h14 v15) fun v16 =>
  ck ((((readsSame (.load false 1 (.const v9)) [] h v10) && true) && true)) ((J27_1 call n t0 t1 v16 h14))
theorem L27_13 (call : VCaller) (n : Nat) : Sim 143 (runK call n c27_12 (D27_3 call n)) (apL [0, 1] (J27_13 call n)) := Sim.drwE (L27_1 call n) (by kernel_rfl) (by kernel_rfl)
noncomputable def c27_14 : VCode := .region false (A27 [1, 0, 1, 0, 1, 1, 1, 1, 1, 1, 1, 1, 1, 1, 1, 0, 1, 0, 1])
noncomputable def J27_15 (call : VCaller) (n : Nat) (t0 t1 t4 : VVal) (h : VHeap) : VAns :=
  rd (nilF t0) fun t109 =>
  rd (faddr 5 t109) fun t110 =>
  rd (VHeap.load1 h t110) fun t111 =>
  rd (VOp.read [] h (.slice 1 (.const t111) (some (.const (I 1))) none none)) fun t112 =>
  rd (nilF t0) fun t113 =>
  rd (faddr 5 t113) fun t114 =>
  bd (VOp.write [] h (.store 1 (.const t114) (.const t112))) fun _ h8 =>
  (J27_1 call n t0 t1 t4 h8)
theorem L27_15 (call : VCaller) (n : Nat) : Sim 143 (runK call n c27_14 (D27_3 call n)) (apL [0, 1, 4] (J27_15 call n)) := Sim.regE (L27_1 call n) (by kernel_rfl) (by kernel_rfl)
noncomputable def c27_16 : VCode := .seq (.region false (A27 [1, 0, 1, 0, 1, 1, 1, 1, 1, 1, 1, 1, 1, 1, 1, 0, 1, 0, 0])) c27_14
noncomputable def J27_17 (call : VCaller) (n : Nat) (t0 t1 : VVal) (h : VHeap) : VAns :=
  rd (nilF t0) fun t100 =>
  rd (faddr 5 t100) fun t101 =>
  rd (VHeap.load1 h t101) fun t102 =>
  rd (idxS 1 t102 (I 0)) fun t103 =>
  rd (VHeap.load1 h t103) fun t104 =>
  rd (convF .i32 t104) fun t105 =>
  rd (convF .i64 t105) fun t106 =>
  (J27_15 call n t0 t1 t106 h)
theorem L27_17 (call : VCaller) (n : Nat) : Sim 143 (runK call n c27_16 (D27_3 call n)) (apL [0, 1] (J27_17 call n)) := Sim.reg (L27_15 call n) (by kernel_rfl) (by kernel_rfl)
noncomputable def c27_18 : VCode := .seq (.region false (A27 [1, 0, 1, 0, 1, 1, 1, 1, 1, 1, 1, 1, 1, 1, 1, 0, 0])) (.cond (.tmp 98) c27_16 .skip)
noncomputable def J27_19 (call : VCaller) (n : Nat) (t0 t1 t4 : VVal) (h : VHeap) : VAns :=
  rd (nilF t0) fun t94 =>
  rd (faddr 5 t94) fun t95 =>
  rd (VHeap.load1 h t95) fun t96 =>
  rd (lenF .slice t96 h) fun t97 =>
  rd (gtI t97 (I 0)) fun t98 =>
  (cnd t98 (J27_17 call n t0 t1 h) (J27_1 call n t0 t1 t4 h))
theorem L27_19 (call : VCaller) (n : Nat) : Sim 143 (runK call n c27_18 (D27_3 call n)) (apL [0, 1, 4] (J27_19 call n)) := Sim.reg (Sim.cond (L27_17 call n) (Sim.skip (L27_1 call n))) (by kernel_rfl) (by kernel_rfl)
noncomputable def c27_20 : VCode := .region false (A27 [1, 0, 1, 0, 1, 1, 1, 1, 1, 1, 1, 1, 1, 1, 1, 1, 1, 0, 1, 1])
noncomputable def J27_21 (call : VCaller) (n : Nat) (t0 t1 t5 : VVal) (h : VHeap) : VAns :=
  (J27_1 call n t0 t1 t5 h)
theorem L27_21 (call : VCaller) (n : Nat) : Sim 143 (runK call n c27_20 (D27_3 call n)) (apL [0, 1, 5] (J27_21 call n)) := Sim.regE (L27_1 call n) (by kernel_rfl) (by kernel_rfl)
noncomputable def D27_22 (call : VCaller) (n : Nat) : Kont := kn (runK call n c27_20 (D27_3 call n)) (D27_3 call n)
noncomputable def c27_23 : VCode := .region false (A27 [1, 0, 1, 0, 1, 1, 1, 1, 1, 1, 1, 1, 1, 1, 1, 1, 1, 0, 1, 0, 1, 0])
noncomputable def J27_24 (call : VCaller) (n : Nat) (t0 t1 t5 : VVal) (h : VHeap) : VAns :=
  bc (call 11 [(I 3), (I 0)] h) thr fun t131 h0 =>
  (J27_21 call n t0 t1 t5 h0)
theorem L27_24 (call : VCaller) (n : Nat) : Sim 143 (runK call n c27_23 (D27_22 call n)) (apL [0, 1, 5] (J27_24 call n)) := Sim.regE (L27_21 call n) (by kernel_rfl) (by kernel_rfl)
noncomputable def c27_25 : VCode := .seq (.region false (A27 [1, 0, 1, 0, 1, 1, 1, 1, 1, 1, 1, 1, 1, 1, 1, 1, 1, 0, 1, 0, 0])) (.cond (.tmp 130) c27_23 .skip)
noncomputable def J27_26 (call : VCaller) (n : Nat) (t0 t1 t5 t6 : VVal) (h : VHeap) : VAns :=
  rd (neI t6 (I 0)) fun t130 =>
  (cnd t130 (J27_24 call n t0 t1 t5 h) (J27_21 call n t0 t1 t5 h))
theorem L27_26 (call : VCaller) (n : Nat) : Sim 143 (runK call n c27_25 (D27_22 call n)) (apL [0, 1, 5, 6] (J27_26 call n)) := Sim.reg (Sim.cond (L27_24 call n) (Sim.skip (L27_21 call n))) (by kernel_rfl) (by kernel_rfl)
noncomputable def c27_27 : VCode := .seq (.region true (A27 [1, 0, 1, 0, 1, 1, 1, 1, 1, 1, 1, 1, 1, 1, 1, 1, 1, 0, 0])) (.seq c27_25 c27_20)
noncomputable def J27_28 (call : VCaller) (n : Nat) (t0 t1 : VVal) (h : VHeap) : VAns :=
  rd (nilF t0) fun v1 =>
  rd (faddr 8 v1) fun v2 =>
  rd (VHeap.load1 h v2) fun v3 =>
  rd (nilF t1) fun v5 =>
  rd (faddr 4 v5) fun v6 =>
  rd (VHeap.load1 h v6) fun v7 =>
  bc (call 38 [v3, v7] h) thn fun v8 h8 =>
  rd (extF v8 0) fun v10 =>
  rd (extF v8 1) fun v11 =>
  (J27_26 call n t0 t1 v10 v11 h8)
theorem L27_28 (call : VCaller) (n : Nat) : Sim 143 (runK call n c27_27 (D27_3 call n)) (apL [0, 1] (J27_28 call n)) := Sim.drw (Sim.seq (L27_26 call n)) (by kernel_rfl) (by kernel_rfl)
noncomputable def c27_29 : VCode := .seq (.region false (A27 [1, 0, 1, 0, 1, 1, 1, 1, 1, 1, 1, 1, 1, 1, 1, 1, 1, 1, 0])) .ret
noncomputable def J27_30 (call : VCaller) (n : Nat) (t0 t1 : VVal) (h : VHeap) : VAns :=
  bc (call 39 [t0, t1] h) thr fun t13 h2 =>
  (finV [] h2)
theorem L27_30 (call : VCaller) (n : Nat) : Sim 143 (runK call n c27_29 (D27_3 call n)) (apL [0, 1] (J27_30 call n)) := Sim.reg (Sim.ret R27) (by kernel_rfl) (by kernel_rfl)
noncomputable def c27_31 : VCode := .seq (.region false (A27 [1, 0, 1, 0, 1, 1, 1, 1, 1, 1, 1, 1, 1, 1, 1, 1, 0])) (.cond (.tmp 115) c27_27 c27_29)
noncomputable def J27_32 (call : VCaller) (n : Nat) (t0 t1 t10 : VVal) (h : VHeap) : VAns :=
  rd (eqI t10 (I 10)) fun t116 =>
  (cnd t116 (J27_28 call n t0 t1 h) (J27_30 call n t0 t1 h))
theorem L27_32 (call : VCaller) (n : Nat) : Sim 143 (runK call n c27_31 (D27_3 call n)) (apL [0, 1, 10] (J27_32 call n)) := Sim.reg (Sim.cond (L27_28 call n) (L27_30 call n)) (by kernel_rfl) (by kernel_rfl)
noncomputable def c27_33 : VCode := .seq (.region false (A27 [1, 0, 1, 0, 1, 1, 1, 1, 1, 1, 1, 1, 1, 1, 0])) (.cond (.tmp 91) c27_18 c27_31)
noncomputable def J27_34 (call : VCaller) (n : Nat) (t0 t1 t4 t10 : VVal) (h : VHeap) : VAns :=
  rd (eqI t10 (I 9)) fun t92 =>
  (cnd t92 (J27_19 call n t0 t1 t4 h) (J27_32 call n t0 t1 t10 h))
theorem L27_34 (call : VCaller) (n : Nat) : Sim 143 (runK call n c27_33 (D27_3 call n)) (apL [0, 1, 4, 10] (J27_34 call n)) := Sim.reg (Sim.cond (L27_19 call n) (L27_32 call n)) (by kernel_rfl) (by kernel_rfl)
noncomputable def c27_35 : VCode := .seq (.region false (A27 [1, 0, 1, 0, 1, 1, 1, 1, 1, 1, 1, 1, 0])) (.cond (.tmp 72) c27_12 c27_33)
noncomputable def J27_36 (call : VCaller) (n : Nat) (t0 t1 t4 t10 : VVal) (h : VHeap) : VAns :=
  rd (eqI t10 (I 5)) fun t73 =>
  (cnd t73 (J27_13 call n t0 t1 h) (J27_34 call n t0 t1 t4 t10 h))
theorem L27_36 (call : VCaller) (n : Nat) : Sim 143 (runK call n c27_35 (D27_3 call n)) (apL [0, 1, 4, 10] (J27_36 call n)) := Sim.reg (Sim.cond (L27_13 call n) (L27_34 call n)) (by kernel_rfl) (by kernel_rfl)
noncomputable def c27_37 : VCode := .seq (.region false (A27 [1, 0, 1, 0, 1, 1, 1, 1, 1, 1, 0])) (.cond (.tmp 52) c27_10 c27_35)
noncomputable def J27_38 (call : VCaller) (n : Nat) (t0 t1 t4 t10 : VVal) (h : VHeap) : VAns :=
  rd (eqI t10 (I 4)) fun t53 =>
  (cnd t53 (J27_11 call n t0 t1 h) (J27_36 call n t0 t1 t4 t10 h))
theorem L27_38 (call : VCaller) (n : Nat) : Sim 143 (runK call n c27_37 (D27_3 call n)) (apL [0, 1, 4, 10] (J27_38 call n)) := Sim.reg (Sim.cond (L27_11 call n) (L27_36 call n)) (by kernel_rfl) (by kernel_rfl)
noncomputable def c27_39 : VCode := .seq (.region false (A27 [1, 0, 1, 0, 1, 1, 1, 1, 0])) (.cond (.tmp 30) c27_8 c27_37)
noncomputable def J27_40 (call : VCaller) (n : Nat) (t0 t1 t4 t10 : VVal) (h : VHeap) : VAns :=
  rd (eqI t10 (I 3)) fun t31 =>
  (cnd t31 (J27_9 call n t0 t1 h) (J27_38 call n t0 t1 t4 t10 h))
theorem L27_40 (call : VCaller) (n : Nat) : Sim 143 (runK call n c27_39 (D27_3 call n)) (apL [0, 1, 4, 10] (J27_40 call n)) := Sim.reg (Sim.cond (L27_9 call n) (L27_38 call n)) (by kernel_rfl) (by kernel_rfl)
noncomputable def c27_41 : VCode := .seq (.region false (A27 [1, 0, 1, 0, 1, 1, 0])) (.cond (.tmp 22) c27_6 c27_39)
noncomputable def J27_42 (call : VCaller) (n : Nat) (t0 t1 t4 t10 : VVal) (h : VHeap) : VAns :=
  rd (eqI t10 (I 2)) fun t23 =>
  (cnd t23 (J27_7 call n t0 t1 h) (J27_40 call n t0 t1 t4 t10 h))
theorem L27_42 (call : VCaller) (n : Nat) : Sim 143 (runK call n c27_41 (D27_3 call n)) (apL [0, 1, 4, 10] (J27_42 call n)) := Sim.reg (Sim.cond (L27_7 call n) (L27_40 call n)) (by kernel_rfl) (by kernel_rfl)
noncomputable def c27_43 : VCode := .seq (.region false (A27 [1, 0, 1, 0, 0])) (.cond (.tmp 14) c27_4 c27_41)
noncomputable def J27_44 (call : VCaller) (n : Nat) (t0 t1 t4 t10 : VVal) (h : VHeap) : VAns :=
  rd (eqI t10 (I 1)) fun t15 =>
  (cnd t15 (J27_5 call n t0 t1 h) (J27_42 call n t0 t1 t4 t10 h))
theorem L27_44 (call : VCaller) (n : Nat) : Sim 143 (runK call n c27_43 (D27_3 call n)) (apL [0, 1, 4, 10] (J27_44 call n)) := Sim.reg (Sim.cond (L27_5 call n) (L27_42 call n)) (by kernel_rfl) (by kernel_rfl)
noncomputable def c27_45 : VCode := .seq (.region false (A27 [1, 0, 0])) (.block 0 c27_43)
noncomputable def J27_46 (call : VCaller) (n : Nat) (t0 t1 t4 : VVal) (h : VHeap) : VAns :=
  rd (nilF t1) fun t8 =>
  rd (faddr 0 t8) fun t9 =>
  rd (VHeap.load1 h t9) fun t10 =>
  (J27_44 call n t0 t1 t4 t10 h)
theorem L27_46 (call : VCaller) (n : Nat) : Sim 143 (runK call n c27_45 (D27_2 call n)) (apL [0, 1, 4] (J27_46 call n)) := Sim.reg (Sim.block (L27_44 call n)) (by kernel_rfl) (by kernel_rfl)
noncomputable def c27_47 : VCode := .seq (.region false (A27 [0])) (.seq c27_45 c27_0)
noncomputable def J27_48 (call : VCaller) (n : Nat) (t0 t1 : VVal) (h : VHeap) : VAns :=
  (J27_46 call n t0 t1 (I 0) h)
theorem L27_48 (call : VCaller) (n : Nat) : Sim 143 (runK call n c27_47 (fin rs27)) (apL [0, 1] (J27_48 call n)) := Sim.reg (Sim.seq (L27_46 call n)) (by kernel_rfl) (by kernel_rfl)
noncomputable def vf27 : VFunc := ⟨143, rs27, c27_47⟩
noncomputable def S27 (call : VCaller) (n : Nat) : VRun := fun args h => match args with
  | [a0, a1] => (J27_48 call n a0 a1 h)
  | args => runK call n vf27.body (fin vf27.results) (args ++ List.replicate (vf27.ntmps - args.length) .undef) h
theorem S27_ok : FastFn.ok ⟨27, vf27, S27⟩ := by
  intro call n args h
  show _ = S27 call n args h
  unfold S27
  split
  · exact (((L27_48 call n) : Sim 143 (runK call n vf27.body (fin vf27.results)) _) _ _ rfl).trans (by kernel_rfl)
  · rfl
theorem vf27_ok : FastFn.inP Try.prog ⟨27, vf27, S27⟩ := by
  show funcV Try.prog 27 = some vf27
  kernel_rfl
/- (*ferrule/low.machine).reg -/
noncomputable def A29 := opsAt Try.prog 29
noncomputable def rs29 : List VResult := [.tmp 4]
theorem R29 : Sim 21 (fin rs29 .ret) (fun σ h => (finV [rT (σ 4)] h)) := Sim.of (by kernel_rfl)
noncomputable def c29_0 : VCode := .seq (.region false (A29 [1, 1, 0])) .ret
noncomputable def J29_1 (call : VCaller) (n : Nat) (t0 t1 : VVal) (h : VHeap) : VAns :=
  rd (nilF t0) fun t15 =>
  rd (faddr 12 t15) fun t16 =>
  rd (VHeap.load1 h t16) fun t17 =>
  rd (idxS 1 t17 t1) fun t19 =>
  rd (VHeap.load1 h t19) fun t20 =>
  (finV [rT t20] h)
theorem L29_1 (call : VCaller) (n : Nat) : Sim 21 (runK call n c29_0 (fin rs29)) (apL [0, 1] (J29_1 call n)) := Sim.reg (Sim.ret R29) (by kernel_rfl) (by kernel_rfl)
noncomputable def D29_2 (call : VCaller) (n : Nat) : Kont := kn (runK call n c29_0 (fin rs29)) (fin rs29)
noncomputable def D29_3 (call : VCaller) (n : Nat) : Kont := kb 0 (D29_2 call n)
noncomputable def c29_4 : VCode := .seq (.region false (A29 [1, 0, 1, 0, 1, 0, 0])) .ret
noncomputable def J29_5 (call : VCaller) (n : Nat) (h : VHeap) : VAns :=
  (finV [rT (I 0)] h)
theorem L29_5 (call : VCaller) (n : Nat) : Sim 21 (runK call n c29_4 (D29_3 call n)) (apL [] (J29_5 call n)) := Sim.reg (Sim.ret R29) (by kernel_rfl) (by kernel_rfl)
noncomputable def c29_6 : VCode := .seq (.region false (A29 [1, 0, 1, 0, 1, 1, 1, 0, 0])) .ret
noncomputable def J29_7 (call : VCaller) (n : Nat) (t0 : VVal) (h : VHeap) : VAns :=
  rd (nilF t0) fun t11 =>
  rd (faddr 13 t11) fun t12 =>
  rd (VHeap.load1 h t12) fun t13 =>
  (finV [rT t13] h)
theorem L29_7 (call : VCaller) (n : Nat) : Sim 21 (runK call n c29_6 (D29_3 call n)) (apL [0] (J29_7 call n)) := Sim.reg (Sim.ret R29) (by kernel_rfl) (by kernel_rfl)
noncomputable def c29_8 : VCode := .seq (.region false (A29 [1, 0, 1, 0, 1, 1, 0])) (.cond (.tmp 8) c29_6 .skip)
noncomputable def J29_9 (call : VCaller) (n : Nat) (t0 t1 t5 : VVal) (h : VHeap) : VAns :=
  rd (eqI t5 (.int .i64 (.negSucc 1))) fun t9 =>
  (cnd t9 (J29_7 call n t0 h) (J29_1 call n t0 t1 h))
theorem L29_9 (call : VCaller) (n : Nat) : Sim 21 (runK call n c29_8 (D29_3 call n)) (apL [0, 1, 5] (J29_9 call n)) := Sim.reg (Sim.cond (L29_7 call n) (Sim.skip (L29_1 call n))) (by kernel_rfl) (by kernel_rfl)
noncomputable def c29_10 : VCode := .seq (.region false (A29 [1, 0, 1, 0, 0])) (.cond (.tmp 6) c29_4 c29_8)
noncomputable def J29_11 (call : VCaller) (n : Nat) (t0 t1 t5 : VVal) (h : VHeap) : VAns :=
  rd (eqI t5 (.int .i64 (.negSucc 0))) fun t7 =>
  (cnd t7 (J29_5 call n h) (J29_9 call n t0 t1 t5 h))
theorem L29_11 (call : VCaller) (n : Nat) : Sim 21 (runK call n c29_10 (D29_3 call n)) (apL [0, 1, 5] (J29_11 call n)) := Sim.reg (Sim.cond (L29_5 call n) (L29_9 call n)) (by kernel_rfl) (by kernel_rfl)
noncomputable def c29_12 : VCode := .seq (.region false (A29 [1, 0, 0])) (.block 0 c29_10)
noncomputable def J29_13 (call : VCaller) (n : Nat) (t0 t1 : VVal) (h : VHeap) : VAns :=
  (J29_11 call n t0 t1 t1 h)
theorem L29_13 (call : VCaller) (n : Nat) : Sim 21 (runK call n c29_12 (D29_2 call n)) (apL [0, 1] (J29_13 call n)) := Sim.reg (Sim.block (L29_11 call n)) (by kernel_rfl) (by kernel_rfl)
noncomputable def c29_14 : VCode := .seq (.region false (A29 [0])) (.seq c29_12 c29_0)
noncomputable def J29_15 (call : VCaller) (n : Nat) (t0 t1 : VVal) (h : VHeap) : VAns :=
  (J29_13 call n t0 t1 h)
theorem L29_15 (call : VCaller) (n : Nat) : Sim 21 (runK call n c29_14 (fin rs29)) (apL [0, 1] (J29_15 call n)) := Sim.reg (Sim.seq (L29_13 call n)) (by kernel_rfl) (by kernel_rfl)
noncomputable def vf29 : VFunc := ⟨21, rs29, c29_14⟩
noncomputable def S29 (call : VCaller) (n : Nat) : VRun := fun args h => match args with
  | [a0, a1] => (J29_15 call n a0 a1 h)
  | args => runK call n vf29.body (fin vf29.results) (args ++ List.replicate (vf29.ntmps - args.length) .undef) h
theorem S29_ok : FastFn.ok ⟨29, vf29, S29⟩ := by
  intro call n args h
  show _ = S29 call n args h
  unfold S29
  split
  · exact (((L29_15 call n) : Sim 21 (runK call n vf29.body (fin vf29.results)) _) _ _ rfl).trans (by kernel_rfl)
  · rfl
theorem vf29_ok : FastFn.inP Try.prog ⟨29, vf29, S29⟩ := by
  show funcV Try.prog 29 = some vf29
  kernel_rfl
/- (*ferrule/low.machine).cell -/
noncomputable def A37 := opsAt Try.prog 37
noncomputable def rs37 : List VResult := [.tmp 4]
theorem R37 : Sim 44 (fin rs37 .ret) (fun σ h => (finV [rT (σ 4)] h)) := Sim.of (by kernel_rfl)
noncomputable def c37_0 : VCode := .seq (.region false (A37 [1, 1, 1, 0])) .ret
noncomputable def J37_1 (call : VCaller) (n : Nat) (h : VHeap) : VAns :=
  (finV [rT .nilptr] h)
theorem L37_1 (call : VCaller) (n : Nat) : Sim 44 (runK call n c37_0 (fin rs37)) (apL [] (J37_1 call n)) := Sim.reg (Sim.ret R37) (by kernel_rfl) (by kernel_rfl)
noncomputable def c37_2 : VCode := .seq (.region false (A37 [1, 1, 0])) c37_0
noncomputable def J37_3 (call : VCaller) (n : Nat) (h : VHeap) : VAns :=
  bc (call 11 [(I 4), (I 0)] h) thr fun t43 h0 =>
  (J37_1 call n h0)
theorem L37_3 (call : VCaller) (n : Nat) : Sim 44 (runK call n c37_2 (fin rs37)) (apL [] (J37_3 call n)) := Sim.reg (L37_1 call n) (by kernel_rfl) (by kernel_rfl)
noncomputable def D37_4 (call : VCaller) (n : Nat) : Kont := kn (runK call n c37_2 (fin rs37)) (fin rs37)
noncomputable def c37_5 : VCode := .seq (.region false (A37 [1, 0, 1, 0, 1, 1, 0, 0])) .ret
noncomputable def J37_6 (call : VCaller) (n : Nat) (t0 t1 : VVal) (h : VHeap) : VAns :=
  rd (nilF t0) fun t36 =>
  rd (faddr 9 t36) fun t37 =>
  rd (VHeap.load1 h t37) fun t38 =>
  rd (subI t1 (I 262144)) fun t40 =>
  rd (binV .quo (.flat .int) t40 (I 4)) fun t41 =>
  rd (idxS 1 t38 t41) fun t42 =>
  (finV [rT t42] h)
theorem L37_6 (call : VCaller) (n : Nat) : Sim 44 (runK call n c37_5 (D37_4 call n)) (apL [0, 1] (J37_6 call n)) := Sim.reg (Sim.ret R37) (by kernel_rfl) (by kernel_rfl)
noncomputable def c37_7 : VCode := .seq (.region false (A37 [1, 0, 1, 0, 1, 0])) (.cond (.tmp 34) c37_5 .skip)
noncomputable def J37_8 (call : VCaller) (n : Nat) (t0 t1 : VVal) (h : VHeap) : VAns :=
  rd (nilF t0) fun t30 =>
  rd (faddr 8 t30) fun t31 =>
  rd (VHeap.load1 h t31) fun t32 =>
  bc (call 42 [t32, t1, (I 1)] h) thr fun t34 h5 =>
  (cnd t34 (J37_6 call n t0 t1 h5) (J37_3 call n h5))
theorem L37_8 (call : VCaller) (n : Nat) : Sim 44 (runK call n c37_7 (D37_4 call n)) (apL [0, 1] (J37_8 call n)) := Sim.reg (Sim.cond (L37_6 call n) (Sim.skip (L37_3 call n))) (by kernel_rfl) (by kernel_rfl)
noncomputable def D37_9 (call : VCaller) (n : Nat) : Kont := kn (runK call n c37_7 (D37_4 call n)) (D37_4 call n)
noncomputable def c37_10 : VCode := .seq (.region false (A37 [1, 0, 1, 0, 0, 1, 1, 0, 0])) .ret
noncomputable def J37_11 (call : VCaller) (n : Nat) (t0 t5 : VVal) (h : VHeap) : VAns :=
  rd (nilF t0) fun t24 =>
  rd (faddr 7 t24) fun t25 =>
  rd (VHeap.load1 h t25) fun t26 =>
  rd (idxS 1 t26 t5) fun t28 =>
  (finV [rT t28] h)
theorem L37_11 (call : VCaller) (n : Nat) : Sim 44 (runK call n c37_10 (D37_9 call n)) (apL [0, 5] (J37_11 call n)) := Sim.reg (Sim.ret R37) (by kernel_rfl) (by kernel_rfl)
noncomputable def c37_12 : VCode := .seq (.region false (A37 [1, 0, 1, 0, 0, 1, 0])) (.cond (.tmp 22) c37_10 .skip)
noncomputable def J37_13 (call : VCaller) (n : Nat) (t0 t1 t5 : VVal) (h : VHeap) : VAns :=
  rd (geI t1 (I 1048576)) fun t13 =>
  gd true t13 (some t5) fun t15 =>
  gd true t13 (some t0) fun t16 =>
  gd true t13 (nilF t16) fun t17 =>
  gd true t13 (faddr 7 t17) fun t18 =>
  gd true t13 (VHeap.load1 h t18) fun t19 =>
  gd true t13 (lenF .slice t19 h) fun t20 =>
  gd true t13 (ltI t15 t20) fun t21 =>
  rd (pickF t13 t21 (.bool false)) fun t22 =>
  (cnd t22 (J37_11 call n t0 t5 h) (J37_8 call n t0 t1 h))
theorem L37_13 (call : VCaller) (n : Nat) : Sim 44 (runK call n c37_12 (D37_9 call n)) (apL [0, 1, 5] (J37_13 call n)) := Sim.reg (Sim.cond (L37_11 call n) (Sim.skip (L37_8 call n))) (by kernel_rfl) (by kernel_rfl)
noncomputable def c37_14 : VCode := .seq (.region false (A37 [1, 0, 1, 0, 0, 0])) c37_12
noncomputable def J37_15 (call : VCaller) (n : Nat) (t0 t1 : VVal) (h : VHeap) : VAns :=
  rd (subI t1 (I 1048576)) fun t10 =>
  rd (binV .quo (.flat .int) t10 (I 4)) fun t11 =>
  (J37_13 call n t0 t1 t11 h)
theorem L37_15 (call : VCaller) (n : Nat) : Sim 44 (runK call n c37_14 (D37_9 call n)) (apL [0, 1] (J37_15 call n)) := Sim.reg (L37_13 call n) (by kernel_rfl) (by kernel_rfl)
noncomputable def c37_16 : VCode := .seq (.region false (A37 [1, 0, 0])) (.cond (.tmp 8) (.seq c37_14 c37_7) .skip)
noncomputable def J37_17 (call : VCaller) (n : Nat) (t0 t1 : VVal) (h : VHeap) : VAns :=
  rd (binV .rem (.flat .int) t1 (I 4)) fun t7 =>
  rd (eqI t7 (I 0)) fun t8 =>
  (cnd t8 (J37_15 call n t0 t1 h) (J37_3 call n h))
theorem L37_17 (call : VCaller) (n : Nat) : Sim 44 (runK call n c37_16 (D37_4 call n)) (apL [0, 1] (J37_17 call n)) := Sim.reg (Sim.cond (Sim.seq (L37_15 call n)) (Sim.skip (L37_3 call n))) (by kernel_rfl) (by kernel_rfl)
noncomputable def c37_18 : VCode := .seq (.region false (A37 [0])) (.seq c37_16 c37_2)
noncomputable def J37_19 (call : VCaller) (n : Nat) (t0 t1 : VVal) (h : VHeap) : VAns :=
  (J37_17 call n t0 t1 h)
theorem L37_19 (call : VCaller) (n : Nat) : Sim 44 (runK call n c37_18 (fin rs37)) (apL [0, 1] (J37_19 call n)) := Sim.reg (Sim.seq (L37_17 call n)) (by kernel_rfl) (by kernel_rfl)
noncomputable def vf37 : VFunc := ⟨44, rs37, c37_18⟩
noncomputable def S37 (call : VCaller) (n : Nat) : VRun := fun args h => match args with
  | [a0, a1] => (J37_19 call n a0 a1 h)
  | args => runK call n vf37.body (fin vf37.results) (args ++ List.replicate (vf37.ntmps - args.length) .undef) h
theorem S37_ok : FastFn.ok ⟨37, vf37, S37⟩ := by
  intro call n args h
  show _ = S37 call n args h
  unfold S37
  split
  · exact (((L37_19 call n) : Sim 44 (runK call n vf37.body (fin vf37.results)) _) _ _ rfl).trans (by kernel_rfl)
  · rfl
theorem vf37_ok : FastFn.inP Try.prog ⟨37, vf37, S37⟩ := by
  show funcV Try.prog 37 = some vf37
  kernel_rfl
/- (*ferrule/heap.Heap).Within -/
noncomputable def A42 := opsAt Try.prog 42
noncomputable def rs42 : List VResult := [.tmp 6]
theorem R42 : Sim 42 (fin rs42 .ret) (fun σ h => (finV [rT (σ 6)] h)) := Sim.of (by kernel_rfl)
noncomputable def c42_0 : VCode := .seq (.region false (A42 [1, 1, 1, 0])) .ret
noncomputable def J42_1 (call : VCaller) (n : Nat) (t2 t7 t9 t10 : VVal) (h : VHeap) : VAns :=
  gd true t10 (some t2) fun t32 =>
  bp .call (opStep call ⟨none, .callF 20 [], some (0, true), [], []⟩ [t10] h) thr fun t33 h3 =>
  gd true t10 (some t7) fun t34 =>
  gd true t10 (VOp.read [] h3 (.indexArr 4 true 3 (.const t33) (.const t34))) fun t35 =>
  gd true t10 (fieldF false 1 0 t35) fun t36 =>
  gd true t10 (some t9) fun t37 =>
  gd true t10 (binV .quo (.flat .int) t37 (I 4)) fun t38 =>
  gd true t10 (subI t36 t38) fun t39 =>
  gd true t10 (leI t32 t39) fun t40 =>
  rd (pickF t10 t40 (.bool false)) fun t41 =>
  (finV [rT t41] h3)
theorem L42_1 (call : VCaller) (n : Nat) : Sim 42 (runK call n c42_0 (fin rs42)) (apL [2, 7, 9, 10] (J42_1 call n)) := Sim.reg (Sim.ret R42) (by kernel_rfl) (by kernel_rfl)
noncomputable def c42_2 : VCode := .seq (.region false (A42 [1, 1, 0])) c42_0
noncomputable def J42_3 (call : VCaller) (n : Nat) (t0 t1 t2 : VVal) (h : VHeap) : VAns :=
  bc (call 47 [t0, t1] h) thr fun t25 h2 =>
  rd (extF t25 0) fun t26 =>
  rd (extF t25 1) fun t27 =>
  rd (extF t25 2) fun t28 =>
  rd (extF t25 3) fun t29 =>
  (J42_1 call n t2 t26 t28 t29 h2)
theorem L42_3 (call : VCaller) (n : Nat) : Sim 42 (runK call n c42_2 (fin rs42)) (apL [0, 1, 2] (J42_3 call n)) := Sim.reg (L42_1 call n) (by kernel_rfl) (by kernel_rfl)
noncomputable def D42_4 (call : VCaller) (n : Nat) : Kont := kn (runK call n c42_2 (fin rs42)) (fin rs42)
noncomputable def c42_5 : VCode := .seq (.region false (A42 [1, 0, 1, 0, 0])) .ret
noncomputable def J42_6 (call : VCaller) (n : Nat) (h : VHeap) : VAns :=
  (finV [rT (.bool false)] h)
theorem L42_6 (call : VCaller) (n : Nat) : Sim 42 (runK call n c42_5 (D42_4 call n)) (apL [] (J42_6 call n)) := Sim.reg (Sim.ret R42) (by kernel_rfl) (by kernel_rfl)
noncomputable def c42_7 : VCode := .seq (.region false (A42 [1, 0, 0])) (.cond (.tmp 21) c42_5 .skip)
noncomputable def J42_8 (call : VCaller) (n : Nat) (t0 t1 t2 : VVal) (h : VHeap) : VAns :=
  bc (call 43 [t0] h) thr fun t12 h1 =>
  gd false t12 (some t1) fun t14 =>
  gd false t12 (binV .rem (.flat .int) t14 (I 4)) fun t15 =>
  gd false t12 (neI t15 (I 0)) fun t16 =>
  rd (pickF t12 (.bool true) t16) fun t17 =>
  gd false t17 (some t2) fun t19 =>
  gd false t17 (ltI t19 (I 1)) fun t20 =>
  rd (pickF t17 (.bool true) t20) fun t21 =>
  (cnd t21 (J42_6 call n h1) (J42_3 call n t0 t1 t2 h1))
theorem L42_8 (call : VCaller) (n : Nat) : Sim 42 (runK call n c42_7 (D42_4 call n)) (apL [0, 1, 2] (J42_8 call n)) := Sim.reg (Sim.cond (L42_6 call n) (Sim.skip (L42_3 call n))) (by kernel_rfl) (by kernel_rfl)
noncomputable def c42_9 : VCode := .seq (.region false (A42 [0])) (.seq c42_7 c42_2)
noncomputable def J42_10 (call : VCaller) (n : Nat) (t0 t1 t2 : VVal) (h : VHeap) : VAns :=
  (J42_8 call n t0 t1 t2 h)
theorem L42_10 (call : VCaller) (n : Nat) : Sim 42 (runK call n c42_9 (fin rs42)) (apL [0, 1, 2] (J42_10 call n)) := Sim.reg (Sim.seq (L42_8 call n)) (by kernel_rfl) (by kernel_rfl)
noncomputable def vf42 : VFunc := ⟨42, rs42, c42_9⟩
noncomputable def S42 (call : VCaller) (n : Nat) : VRun := fun args h => match args with
  | [a0, a1, a2] => (J42_10 call n a0 a1 a2 h)
  | args => runK call n vf42.body (fin vf42.results) (args ++ List.replicate (vf42.ntmps - args.length) .undef) h
theorem S42_ok : FastFn.ok ⟨42, vf42, S42⟩ := by
  intro call n args h
  show _ = S42 call n args h
  unfold S42
  split
  · exact (((L42_10 call n) : Sim 42 (runK call n vf42.body (fin vf42.results)) _) _ _ rfl).trans (by kernel_rfl)
  · rfl
theorem vf42_ok : FastFn.inP Try.prog ⟨42, vf42, S42⟩ := by
  show funcV Try.prog 42 = some vf42
  kernel_rfl
/- (*ferrule/heap.Heap).none -/
noncomputable def A43 := opsAt Try.prog 43
noncomputable def rs43 : List VResult := [.tmp 2]
theorem R43 : Sim 12 (fin rs43 .ret) (fun σ h => (finV [rT (σ 2)] h)) := Sim.of (by kernel_rfl)
noncomputable def c43_0 : VCode := .seq (.region false (A43 [1, 0])) .ret
noncomputable def J43_1 (call : VCaller) (n : Nat) (t0 : VVal) (h : VHeap) : VAns :=
  rd (binV .eql (.flat .ptr) t0 .nilptr) fun t4 =>
  gd false t4 (some t0) fun t6 =>
  gd false t4 (nilF t6) fun t7 =>
  gd false t4 (faddr 0 t7) fun t8 =>
  gd false t4 (VHeap.load1 h t8) fun t9 =>
  gd false t4 (unV .not t9) fun t10 =>
  rd (pickF t4 (.bool true) t10) fun t11 =>
  (finV [rT t11] h)
theorem L43_1 (call : VCaller) (n : Nat) : Sim 12 (runK call n c43_0 (fin rs43)) (apL [0] (J43_1 call n)) := Sim.reg (Sim.ret R43) (by kernel_rfl) (by kernel_rfl)
noncomputable def c43_2 : VCode := .seq (.region false (A43 [0])) c43_0
noncomputable def J43_3 (call : VCaller) (n : Nat) (t0 : VVal) (h : VHeap) : VAns :=
  (J43_1 call n t0 h)
theorem L43_3 (call : VCaller) (n : Nat) : Sim 12 (runK call n c43_2 (fin rs43)) (apL [0] (J43_3 call n)) := Sim.reg (L43_1 call n) (by kernel_rfl) (by kernel_rfl)
noncomputable def vf43 : VFunc := ⟨12, rs43, c43_2⟩
noncomputable def S43 (call : VCaller) (n : Nat) : VRun := fun args h => match args with
  | [a0] => (J43_3 call n a0 h)
  | args => runK call n vf43.body (fin vf43.results) (args ++ List.replicate (vf43.ntmps - args.length) .undef) h
theorem S43_ok : FastFn.ok ⟨43, vf43, S43⟩ := by
  intro call n args h
  show _ = S43 call n args h
  unfold S43
  split
  · exact (((L43_3 call n) : Sim 12 (runK call n vf43.body (fin vf43.results)) _) _ _ rfl).trans (by kernel_rfl)
  · rfl
theorem vf43_ok : FastFn.inP Try.prog ⟨43, vf43, S43⟩ := by
  show funcV Try.prog 43 = some vf43
  kernel_rfl
end Go.Proofs.Ythefbgflndpggaa.LF
