/- Functions that are reached, as the virtual machine has them. Printed by program. -/
import Derived.Test.YthefbgflndpggaaChecked
import Derived.Test.YthefbgflndpggaaV30
set_option linter.unusedSimpArgs false
set_option linter.unusedVariables false
open Go.V
namespace Go.Proofs.Ythefbgflndpggaa.LF
set_option linter.unusedVariables false
/- ferrule/low.imm -/
noncomputable def A33 := opsAt Try.prog 33
noncomputable def rs33 : List VResult := [.tmp 4]
theorem R33 : Sim 21 (fin rs33 .ret) (fun σ h => (finV [rT (σ 4)] h)) := Sim.of (by kernel_rfl)
noncomputable def c33_0 : VCode := .seq (.region false (A33 [1, 1, 0])) .ret
noncomputable def J33_1 (call : VCaller) (n : Nat) (h : VHeap) : VAns :=
  (finV [rT (.bool false)] h)
theorem L33_1 (call : VCaller) (n : Nat) : Sim 21 (runK call n c33_0 (fin rs33)) (apL [] (J33_1 call n)) := Sim.reg (Sim.ret R33) (by kernel_rfl) (by kernel_rfl)
noncomputable def D33_2 (call : VCaller) (n : Nat) : Kont := kn (runK call n c33_0 (fin rs33)) (fin rs33)
noncomputable def D33_3 (call : VCaller) (n : Nat) : Kont := kb 0 (D33_2 call n)
noncomputable def c33_4 : VCode := .seq (.region false (A33 [1, 0, 1, 0, 1, 0, 0])) .ret
noncomputable def J33_5 (call : VCaller) (n : Nat) (t1 : VVal) (h : VHeap) : VAns :=
  bc (call 34 [t1, (.bool false)] h) thr fun t14 h1 =>
  (finV [rT t14] h1)
theorem L33_5 (call : VCaller) (n : Nat) : Sim 21 (runK call n c33_4 (D33_3 call n)) (apL [1] (J33_5 call n)) := Sim.reg (Sim.ret R33) (by kernel_rfl) (by kernel_rfl)
noncomputable def c33_6 : VCode := .seq (.region false (A33 [1, 0, 1, 0, 1, 1, 1, 0, 0])) .ret
noncomputable def J33_7 (call : VCaller) (n : Nat) (t1 : VVal) (h : VHeap) : VAns :=
  bc (call 34 [t1, (.bool true)] h) thr fun t20 h1 =>
  (finV [rT t20] h1)
theorem L33_7 (call : VCaller) (n : Nat) : Sim 21 (runK call n c33_6 (D33_3 call n)) (apL [1] (J33_7 call n)) := Sim.reg (Sim.ret R33) (by kernel_rfl) (by kernel_rfl)
noncomputable def J33_8 (call : VCaller) (n : Nat) (t1 t15 : VVal) (h : VHeap) : VAns :=
  (cnd t15 (J33_7 call n t1 h) (J33_1 call n h))
theorem L33_8 (call : VCaller) (n : Nat) : Sim 21 (runK call n (.cond (.tmp 15) c33_6 .skip) (D33_3 call n)) (apL [1, 15] (J33_8 call n)) := (Sim.cond (L33_7 call n) (Sim.skip (L33_1 call n)))
noncomputable def D33_9 (call : VCaller) (n : Nat) : Kont := kn (runK call n (.cond (.tmp 15) c33_6 .skip) (D33_3 call n)) (D33_3 call n)
noncomputable def c33_10 : VCode := .region false (A33 [1, 0, 1, 0, 1, 1, 0, 1, 1, 1, 1])
noncomputable def J33_11 (call : VCaller) (n : Nat) (t1 t5 : VVal) (h : VHeap) : VAns :=
  rd (eqS t5 (.str [115, 114, 97])) fun t18 =>
  (J33_8 call n t1 t18 h)
theorem L33_11 (call : VCaller) (n : Nat) : Sim 21 (runK call n c33_10 (D33_9 call n)) (apL [1, 5] (J33_11 call n)) := Sim.regE (L33_8 call n) (by kernel_rfl) (by kernel_rfl)
noncomputable def c33_12 : VCode := .seq (.region false (A33 [1, 0, 1, 0, 1, 1, 0, 1, 1, 0])) (.cond (.tmp 15) .skip c33_10)
noncomputable def J33_13 (call : VCaller) (n : Nat) (t1 t5 : VVal) (h : VHeap) : VAns :=
  rd (eqS t5 (.str [115, 114, 108])) fun t17 =>
  (cnd t17 (J33_8 call n t1 t17 h) (J33_11 call n t1 t5 h))
theorem L33_13 (call : VCaller) (n : Nat) : Sim 21 (runK call n c33_12 (D33_9 call n)) (apL [1, 5] (J33_13 call n)) := Sim.reg (Sim.cond (Sim.skip (L33_8 call n)) (L33_11 call n)) (by kernel_rfl) (by kernel_rfl)
noncomputable def c33_14 : VCode := .seq (.region false (A33 [1, 0, 1, 0, 1, 1, 0, 0])) (.cond (.tmp 15) .skip c33_12)
noncomputable def J33_15 (call : VCaller) (n : Nat) (t1 t5 : VVal) (h : VHeap) : VAns :=
  rd (eqS t5 (.str [115, 108, 108])) fun t16 =>
  (cnd t16 (J33_8 call n t1 t16 h) (J33_13 call n t1 t5 h))
theorem L33_15 (call : VCaller) (n : Nat) : Sim 21 (runK call n c33_14 (D33_9 call n)) (apL [1, 5] (J33_15 call n)) := Sim.reg (Sim.cond (Sim.skip (L33_8 call n)) (L33_13 call n)) (by kernel_rfl) (by kernel_rfl)
noncomputable def J33_16 (call : VCaller) (n : Nat) (t1 t5 t6 : VVal) (h : VHeap) : VAns :=
  (cnd t6 (J33_5 call n t1 h) (J33_15 call n t1 t5 h))
theorem L33_16 (call : VCaller) (n : Nat) : Sim 21 (runK call n (.cond (.tmp 6) c33_4 (.seq c33_14 (.cond (.tmp 15) c33_6 .skip))) (D33_3 call n)) (apL [1, 5, 6] (J33_16 call n)) := (Sim.cond (L33_5 call n) (Sim.seq (L33_15 call n)))
noncomputable def D33_17 (call : VCaller) (n : Nat) : Kont := kn (runK call n (.cond (.tmp 6) c33_4 (.seq c33_14 (.cond (.tmp 15) c33_6 .skip))) (D33_3 call n)) (D33_3 call n)
noncomputable def c33_18 : VCode := .region false (A33 [1, 0, 1, 0, 0, 1, 1, 1, 1, 1, 1, 1, 1, 1, 1])
noncomputable def J33_19 (call : VCaller) (n : Nat) (t1 t5 : VVal) (h : VHeap) : VAns :=
  rd (eqS t5 (.str [115, 108, 116, 117])) fun t12 =>
  (J33_16 call n t1 t5 t12 h)
theorem L33_19 (call : VCaller) (n : Nat) : Sim 21 (runK call n c33_18 (D33_17 call n)) (apL [1, 5] (J33_19 call n)) := Sim.regE (L33_16 call n) (by kernel_rfl) (by kernel_rfl)
noncomputable def c33_20 : VCode := .seq (.region false (A33 [1, 0, 1, 0, 0, 1, 1, 1, 1, 1, 1, 1, 1, 0])) (.cond (.tmp 6) .skip c33_18)
noncomputable def J33_21 (call : VCaller) (n : Nat) (t1 t5 : VVal) (h : VHeap) : VAns :=
  rd (eqS t5 (.str [115, 108, 116])) fun t11 =>
  (cnd t11 (J33_16 call n t1 t5 t11 h) (J33_19 call n t1 t5 h))
theorem L33_21 (call : VCaller) (n : Nat) : Sim 21 (runK call n c33_20 (D33_17 call n)) (apL [1, 5] (J33_21 call n)) := Sim.reg (Sim.cond (Sim.skip (L33_16 call n)) (L33_19 call n)) (by kernel_rfl) (by kernel_rfl)
noncomputable def c33_22 : VCode := .seq (.region false (A33 [1, 0, 1, 0, 0, 1, 1, 1, 1, 1, 1, 0])) (.cond (.tmp 6) .skip c33_20)
noncomputable def J33_23 (call : VCaller) (n : Nat) (t1 t5 : VVal) (h : VHeap) : VAns :=
  rd (eqS t5 (.str [120, 111, 114])) fun t10 =>
  (cnd t10 (J33_16 call n t1 t5 t10 h) (J33_21 call n t1 t5 h))
theorem L33_23 (call : VCaller) (n : Nat) : Sim 21 (runK call n c33_22 (D33_17 call n)) (apL [1, 5] (J33_23 call n)) := Sim.reg (Sim.cond (Sim.skip (L33_16 call n)) (L33_21 call n)) (by kernel_rfl) (by kernel_rfl)
noncomputable def c33_24 : VCode := .seq (.region false (A33 [1, 0, 1, 0, 0, 1, 1, 1, 1, 0])) (.cond (.tmp 6) .skip c33_22)
noncomputable def J33_25 (call : VCaller) (n : Nat) (t1 t5 : VVal) (h : VHeap) : VAns :=
  rd (eqS t5 (.str [111, 114])) fun t9 =>
  (cnd t9 (J33_16 call n t1 t5 t9 h) (J33_23 call n t1 t5 h))
theorem L33_25 (call : VCaller) (n : Nat) : Sim 21 (runK call n c33_24 (D33_17 call n)) (apL [1, 5] (J33_25 call n)) := Sim.reg (Sim.cond (Sim.skip (L33_16 call n)) (L33_23 call n)) (by kernel_rfl) (by kernel_rfl)
noncomputable def c33_26 : VCode := .seq (.region false (A33 [1, 0, 1, 0, 0, 1, 1, 0])) (.cond (.tmp 6) .skip c33_24)
noncomputable def J33_27 (call : VCaller) (n : Nat) (t1 t5 : VVal) (h : VHeap) : VAns :=
  rd (eqS t5 (.str [97, 110, 100])) fun t8 =>
  (cnd t8 (J33_16 call n t1 t5 t8 h) (J33_25 call n t1 t5 h))
theorem L33_27 (call : VCaller) (n : Nat) : Sim 21 (runK call n c33_26 (D33_17 call n)) (apL [1, 5] (J33_27 call n)) := Sim.reg (Sim.cond (Sim.skip (L33_16 call n)) (L33_25 call n)) (by kernel_rfl) (by kernel_rfl)
noncomputable def c33_28 : VCode := .seq (.region false (A33 [1, 0, 1, 0, 0, 0])) (.cond (.tmp 6) .skip c33_26)
noncomputable def J33_29 (call : VCaller) (n : Nat) (t1 t5 : VVal) (h : VHeap) : VAns :=
  rd (eqS t5 (.str [97, 100, 100])) fun t7 =>
  (cnd t7 (J33_16 call n t1 t5 t7 h) (J33_27 call n t1 t5 h))
theorem L33_29 (call : VCaller) (n : Nat) : Sim 21 (runK call n c33_28 (D33_17 call n)) (apL [1, 5] (J33_29 call n)) := Sim.reg (Sim.cond (Sim.skip (L33_16 call n)) (L33_27 call n)) (by kernel_rfl) (by kernel_rfl)
noncomputable def c33_30 : VCode := .seq (.region false (A33 [1, 0, 0])) (.block 0 (.seq c33_28 (.cond (.tmp 6) c33_4 (.seq c33_14 (.cond (.tmp 15) c33_6 .skip)))))
noncomputable def J33_31 (call : VCaller) (n : Nat) (t0 t1 : VVal) (h : VHeap) : VAns :=
  (J33_29 call n t1 t0 h)
theorem L33_31 (call : VCaller) (n : Nat) : Sim 21 (runK call n c33_30 (D33_2 call n)) (apL [0, 1] (J33_31 call n)) := Sim.reg (Sim.block (Sim.seq (L33_29 call n))) (by kernel_rfl) (by kernel_rfl)
noncomputable def c33_32 : VCode := .seq (.region false (A33 [0])) (.seq c33_30 c33_0)
noncomputable def J33_33 (call : VCaller) (n : Nat) (t0 t1 : VVal) (h : VHeap) : VAns :=
  (J33_31 call n t0 t1 h)
theorem L33_33 (call : VCaller) (n : Nat) : Sim 21 (runK call n c33_32 (fin rs33)) (apL [0, 1] (J33_33 call n)) := Sim.reg (Sim.seq (L33_31 call n)) (by kernel_rfl) (by kernel_rfl)
noncomputable def vf33 : VFunc := ⟨21, rs33, c33_32⟩
noncomputable def S33 (call : VCaller) (n : Nat) : VRun := fun args h => match args with
  | [a0, a1] => (J33_33 call n a0 a1 h)
  | args => runK call n vf33.body (fin vf33.results) (args ++ List.replicate (vf33.ntmps - args.length) .undef) h
theorem S33_ok : FastFn.ok ⟨33, vf33, S33⟩ := by
  intro call n args h
  show _ = S33 call n args h
  unfold S33
  split
  · exact (((L33_33 call n) : Sim 21 (runK call n vf33.body (fin vf33.results)) _) _ _ rfl).trans (by kernel_rfl)
  · rfl
theorem vf33_ok : FastFn.inP Try.prog ⟨33, vf33, S33⟩ := by
  show funcV Try.prog 33 = some vf33
  kernel_rfl
/- ferrule/layout.Fits -/
noncomputable def A34 := opsAt Try.prog 34
noncomputable def rs34 : List VResult := [.tmp 4]
theorem R34 : Sim 18 (fin rs34 .ret) (fun σ h => (finV [rT (σ 4)] h)) := Sim.of (by kernel_rfl)
noncomputable def c34_0 : VCode := .seq (.region false (A34 [1, 1, 0])) .ret
noncomputable def J34_1 (call : VCaller) (n : Nat) (t0 : VVal) (h : VHeap) : VAns :=
  rd (geI t0 (.int .i64 (.negSucc 2047))) fun t13 =>
  gd true t13 (some t0) fun t15 =>
  gd true t13 (ltI t15 (I 2048)) fun t16 =>
  rd (pickF t13 t16 (.bool false)) fun t17 =>
  (finV [rT t17] h)
theorem L34_1 (call : VCaller) (n : Nat) : Sim 18 (runK call n c34_0 (fin rs34)) (apL [0] (J34_1 call n)) := Sim.reg (Sim.ret R34) (by kernel_rfl) (by kernel_rfl)
noncomputable def D34_2 (call : VCaller) (n : Nat) : Kont := kn (runK call n c34_0 (fin rs34)) (fin rs34)
noncomputable def c34_3 : VCode := .seq (.region false (A34 [1, 0, 1, 0, 0])) .ret
noncomputable def J34_4 (call : VCaller) (n : Nat) (t0 : VVal) (h : VHeap) : VAns :=
  rd (geI t0 (I 0)) fun t7 =>
  gd true t7 (some t0) fun t9 =>
  gd true t7 (ltI t9 (I 32)) fun t10 =>
  rd (pickF t7 t10 (.bool false)) fun t11 =>
  (finV [rT t11] h)
theorem L34_4 (call : VCaller) (n : Nat) : Sim 18 (runK call n c34_3 (D34_2 call n)) (apL [0] (J34_4 call n)) := Sim.reg (Sim.ret R34) (by kernel_rfl) (by kernel_rfl)
noncomputable def c34_5 : VCode := .seq (.region false (A34 [1, 0, 0])) (.cond (.tmp 5) c34_3 .skip)
noncomputable def J34_6 (call : VCaller) (n : Nat) (t0 t1 : VVal) (h : VHeap) : VAns :=
  (cnd t1 (J34_4 call n t0 h) (J34_1 call n t0 h))
theorem L34_6 (call : VCaller) (n : Nat) : Sim 18 (runK call n c34_5 (D34_2 call n)) (apL [0, 1] (J34_6 call n)) := Sim.reg (Sim.cond (L34_4 call n) (Sim.skip (L34_1 call n))) (by kernel_rfl) (by kernel_rfl)
noncomputable def c34_7 : VCode := .seq (.region false (A34 [0])) (.seq c34_5 c34_0)
noncomputable def J34_8 (call : VCaller) (n : Nat) (t0 t1 : VVal) (h : VHeap) : VAns :=
  (J34_6 call n t0 t1 h)
theorem L34_8 (call : VCaller) (n : Nat) : Sim 18 (runK call n c34_7 (fin rs34)) (apL [0, 1] (J34_8 call n)) := Sim.reg (Sim.seq (L34_6 call n)) (by kernel_rfl) (by kernel_rfl)
noncomputable def vf34 : VFunc := ⟨18, rs34, c34_7⟩
noncomputable def S34 (call : VCaller) (n : Nat) : VRun := fun args h => match args with
  | [a0, a1] => (J34_8 call n a0 a1 h)
  | args => runK call n vf34.body (fin vf34.results) (args ++ List.replicate (vf34.ntmps - args.length) .undef) h
theorem S34_ok : FastFn.ok ⟨34, vf34, S34⟩ := by
  intro call n args h
  show _ = S34 call n args h
  unfold S34
  split
  · exact (((L34_8 call n) : Sim 18 (runK call n vf34.body (fin vf34.results)) _) _ _ rfl).trans (by kernel_rfl)
  · rfl
theorem vf34_ok : FastFn.inP Try.prog ⟨34, vf34, S34⟩ := by
  show funcV Try.prog 34 = some vf34
  kernel_rfl
/- (ferrule/low.former).term -/
noncomputable def A25 := opsAt Try.prog 25
noncomputable def rs25 : List VResult := [.tmp 4]
theorem R25 : Sim 70 (fin rs25 .ret) (fun σ h => (finV [rT (σ 4)] h)) := Sim.of (by kernel_rfl)
noncomputable def c25_0 : VCode := .seq (.region false (A25 [1, 1, 1, 0])) .ret
noncomputable def J25_1 (call : VCaller) (n : Nat) (t3 : VVal) (h : VHeap) : VAns :=
  rd (faddr 0 t3) fun t67 =>
  rd (VHeap.load1 h t67) fun t68 =>
  rd (eqI t68 (I 4)) fun t69 =>
  (finV [rT t69] h)
theorem L25_1 (call : VCaller) (n : Nat) : Sim 70 (runK call n c25_0 (fin rs25)) (apL [3] (J25_1 call n)) := Sim.reg (Sim.ret R25) (by kernel_rfl) (by kernel_rfl)
noncomputable def D25_2 (call : VCaller) (n : Nat) : Kont := kn (runK call n c25_0 (fin rs25)) (fin rs25)
noncomputable def D25_3 (call : VCaller) (n : Nat) : Kont := kb 0 (D25_2 call n)
noncomputable def c25_4 : VCode := .seq (.region false (A25 [1, 1, 0, 1, 0, 1, 0, 0])) .ret
noncomputable def J25_5 (call : VCaller) (n : Nat) (t3 t5 : VVal) (h : VHeap) : VAns :=
  rd (faddr 3 t3) fun t14 =>
  rd (VHeap.load1 h t14) fun t15 =>
  cl call (VOp.callee [] (.call (.const t5) [(.const t15)])) h thr fun t16 h3 =>
  (finV [rT t16] h3)
theorem L25_5 (call : VCaller) (n : Nat) : Sim 70 (runK call n c25_4 (D25_3 call n)) (apL [3, 5] (J25_5 call n)) := Sim.reg (Sim.ret R25) (by kernel_rfl) (by kernel_rfl)
noncomputable def c25_6 : VCode := .seq (.region false (A25 [1, 1, 0, 1, 0, 1, 1, 1, 0, 1, 0])) .ret
noncomputable def J25_7 (call : VCaller) (n : Nat) (t2 t3 t5 t7 : VVal) (h : VHeap) : VAns :=
  gd true t7 (VHeap.loadA h 8 t2) fun t27 =>
  gd true t7 (faddr 1 t3) fun t28 =>
  gd true t7 (VHeap.load1 h t28) fun t29 =>
  bp .call (opStep call ⟨none, .callF 30 [(.const t27), (.const t29)], some (0, true), [], []⟩ [t7] h) thr fun t30 h5 =>
  rd (pickF t7 t30 (.bool false)) fun t31 =>
  gd true t31 (VHeap.loadA h5 8 t2) fun t33 =>
  gd true t31 (faddr 2 t3) fun t34 =>
  gd true t31 (VHeap.load1 h5 t34) fun t35 =>
  bp .call (opStep call ⟨none, .callF 30 [(.const t33), (.const t35)], some (0, true), [], []⟩ [t31] h5) thr fun t36 h11 =>
  rd (pickF t31 t36 (.bool false)) fun t37 =>
  gd true t37 (some t5) fun t39 =>
  gd true t37 (faddr 3 t3) fun t40 =>
  gd true t37 (VHeap.load1 h11 t40) fun t41 =>
  bp .call (opStep call ⟨none, .call (.const t39) [(.const t41)], some (0, true), [], []⟩ [t37] h11) thr fun t42 h17 =>
  rd (pickF t37 t42 (.bool false)) fun t43 =>
  gd true t43 (some t5) fun t45 =>
  gd true t43 (faddr 4 t3) fun t46 =>
  gd true t43 (VHeap.load1 h17 t46) fun t47 =>
  bp .call (opStep call ⟨none, .call (.const t45) [(.const t47)], some (0, true), [], []⟩ [t43] h17) thr fun t48 h23 =>
  rd (pickF t43 t48 (.bool false)) fun t49 =>
  (finV [rT t49] h23)
theorem L25_7 (call : VCaller) (n : Nat) : Sim 70 (runK call n c25_6 (D25_3 call n)) (apL [2, 3, 5, 7] (J25_7 call n)) := Sim.reg (Sim.ret R25) (by kernel_rfl) (by kernel_rfl)
noncomputable def c25_8 : VCode := .seq (.region false (A25 [1, 1, 0, 1, 0, 1, 1, 1, 0, 0])) c25_6
noncomputable def J25_9 (call : VCaller) (n : Nat) (t2 t3 t5 : VVal) (h : VHeap) : VAns :=
  rd (faddr 5 t3) fun t20 =>
  rd (VHeap.load1 h t20) fun t21 =>
  bc (call 36 [t21, (I 0), (I 0)] h) thr fun t22 h2 =>
  rd (extF t22 0) fun t23 =>
  rd (extF t22 1) fun t24 =>
  (J25_7 call n t2 t3 t5 t24 h2)
theorem L25_9 (call : VCaller) (n : Nat) : Sim 70 (runK call n c25_8 (D25_3 call n)) (apL [2, 3, 5] (J25_9 call n)) := Sim.reg (L25_7 call n) (by kernel_rfl) (by kernel_rfl)
noncomputable def c25_10 : VCode := .seq (.region false (A25 [1, 1, 0, 1, 0, 1, 1, 1, 1, 1, 0, 0])) .ret
noncomputable def J25_11 (call : VCaller) (n : Nat) (t2 t3 : VVal) (h : VHeap) : VAns :=
  rd (faddr 6 t3) fun t52 =>
  rd (VHeap.load1 h t52) fun t53 =>
  rd (lenF .slice t53 h) fun t54 =>
  rd (faddr 1 t2) fun t55 =>
  rd (faddr 3 t55) fun t56 =>
  rd (VHeap.load1 h t56) fun t57 =>
  rd (eqI t54 t57) fun t58 =>
  gd true t58 (VHeap.loadA h 8 t2) fun t60 =>
  gd true t58 (faddr 6 t3) fun t61 =>
  gd true t58 (VHeap.load1 h t61) fun t62 =>
  gd true t58 (VHeap.loadA h 8 t2) fun t63 =>
  gd true t58 (VOp.read [] h (.mkFunc 30 [(.const t63)] [])) fun t64 =>
  bp .call (opStep call ⟨none, .callF 22 [(.const t60), (.const t62), (.const t64)], some (0, true), [], []⟩ [t58] h) thr fun t65 h13 =>
  rd (pickF t58 t65 (.bool false)) fun t66 =>
  (finV [rT t66] h13)
theorem L25_11 (call : VCaller) (n : Nat) : Sim 70 (runK call n c25_10 (D25_3 call n)) (apL [2, 3] (J25_11 call n)) := Sim.reg (Sim.ret R25) (by kernel_rfl) (by kernel_rfl)
noncomputable def c25_12 : VCode := .seq (.region false (A25 [1, 1, 0, 1, 0, 1, 1, 1, 1, 0])) (.cond (.tmp 50) c25_10 .skip)
noncomputable def J25_13 (call : VCaller) (n : Nat) (t2 t3 t10 : VVal) (h : VHeap) : VAns :=
  rd (eqI t10 (I 3)) fun t51 =>
  (cnd t51 (J25_11 call n t2 t3 h) (J25_1 call n t3 h))
theorem L25_13 (call : VCaller) (n : Nat) : Sim 70 (runK call n c25_12 (D25_3 call n)) (apL [2, 3, 10] (J25_13 call n)) := Sim.reg (Sim.cond (L25_11 call n) (Sim.skip (L25_1 call n))) (by kernel_rfl) (by kernel_rfl)
noncomputable def c25_14 : VCode := .seq (.region false (A25 [1, 1, 0, 1, 0, 1, 1, 0])) (.cond (.tmp 17) c25_8 c25_12)
noncomputable def J25_15 (call : VCaller) (n : Nat) (t2 t3 t5 t10 : VVal) (h : VHeap) : VAns :=
  rd (eqI t10 (I 2)) fun t18 =>
  (cnd t18 (J25_9 call n t2 t3 t5 h) (J25_13 call n t2 t3 t10 h))
theorem L25_15 (call : VCaller) (n : Nat) : Sim 70 (runK call n c25_14 (D25_3 call n)) (apL [2, 3, 5, 10] (J25_15 call n)) := Sim.reg (Sim.cond (L25_9 call n) (L25_13 call n)) (by kernel_rfl) (by kernel_rfl)
noncomputable def c25_16 : VCode := .seq (.region false (A25 [1, 1, 0, 1, 0, 0])) (.cond (.tmp 11) c25_4 c25_14)
noncomputable def J25_17 (call : VCaller) (n : Nat) (t2 t3 t5 t10 : VVal) (h : VHeap) : VAns :=
  rd (eqI t10 (I 1)) fun t12 =>
  (cnd t12 (J25_5 call n t3 t5 h) (J25_15 call n t2 t3 t5 t10 h))
theorem L25_17 (call : VCaller) (n : Nat) : Sim 70 (runK call n c25_16 (D25_3 call n)) (apL [2, 3, 5, 10] (J25_17 call n)) := Sim.reg (Sim.cond (L25_5 call n) (L25_15 call n)) (by kernel_rfl) (by kernel_rfl)
noncomputable def c25_18 : VCode := .seq (.region false (A25 [1, 1, 0, 0])) (.block 0 c25_16)
noncomputable def J25_19 (call : VCaller) (n : Nat) (t2 t3 t5 : VVal) (h : VHeap) : VAns :=
  rd (faddr 0 t3) fun t9 =>
  rd (VHeap.load1 h t9) fun t10 =>
  (J25_17 call n t2 t3 t5 t10 h)
theorem L25_19 (call : VCaller) (n : Nat) : Sim 70 (runK call n c25_18 (D25_2 call n)) (apL [2, 3, 5] (J25_19 call n)) := Sim.reg (Sim.block (L25_17 call n)) (by kernel_rfl) (by kernel_rfl)
noncomputable def c25_20 : VCode := .seq (.region false (A25 [1, 0])) (.seq c25_18 c25_0)
noncomputable def J25_21 (call : VCaller) (n : Nat) (t2 t3 : VVal) (h : VHeap) : VAns :=
  (J25_19 call n t2 t3 (.func 35 [] [t2]) h)
theorem L25_21 (call : VCaller) (n : Nat) : Sim 70 (runK call n c25_20 (fin rs25)) (apL [2, 3] (J25_21 call n)) := Sim.reg (Sim.seq (L25_19 call n)) (by kernel_rfl) (by kernel_rfl)
noncomputable def c25_22 : VCode := .seq (.region false (A25 [0])) c25_20
noncomputable def J25_23 (call : VCaller) (n : Nat) (t0 t1 : VVal) (h : VHeap) : VAns :=
  fr (VOp.fresh [] (.box 61 (.const t0))) h fun t2 h0 =>
  fr (VOp.fresh [] (.box 33 (.const t1))) h0 fun t3 h1 =>
  (J25_21 call n t2 t3 h1)
theorem L25_23 (call : VCaller) (n : Nat) : Sim 70 (runK call n c25_22 (fin rs25)) (apL [0, 1] (J25_23 call n)) := Sim.reg (L25_21 call n) (by kernel_rfl) (by kernel_rfl)
noncomputable def vf25 : VFunc := ⟨70, rs25, c25_22⟩
noncomputable def S25 (call : VCaller) (n : Nat) : VRun := fun args h => match args with
  | [a0, a1] => (J25_23 call n a0 a1 h)
  | args => runK call n vf25.body (fin vf25.results) (args ++ List.replicate (vf25.ntmps - args.length) .undef) h
theorem S25_ok : FastFn.ok ⟨25, vf25, S25⟩ := by
  intro call n args h
  show _ = S25 call n args h
  unfold S25
  split
  · exact (((L25_23 call n) : Sim 70 (runK call n vf25.body (fin vf25.results)) _) _ _ rfl).trans (by kernel_rfl)
  · rfl
theorem vf25_ok : FastFn.inP Try.prog ⟨25, vf25, S25⟩ := by
  show funcV Try.prog 25 = some vf25
  kernel_rfl
/- (ferrule/low.former).term$1 -/
noncomputable def A35 := opsAt Try.prog 35
noncomputable def rs35 : List VResult := [.tmp 3]
theorem R35 : Sim 14 (fin rs35 .ret) (fun σ h => (finV [rT (σ 3)] h)) := Sim.of (by kernel_rfl)
noncomputable def c35_0 : VCode := .seq (.region false (A35 [1, 0])) .ret
noncomputable def J35_1 (call : VCaller) (n : Nat) (t0 t1 : VVal) (h : VHeap) : VAns :=
  rd (geI t0 (I 0)) fun t5 =>
  gd true t5 (some t0) fun t7 =>
  gd true t5 (faddr 1 t1) fun t8 =>
  gd true t5 (faddr 6 t8) fun t9 =>
  gd true t5 (VHeap.load1 h t9) fun t10 =>
  gd true t5 (lenF .slice t10 h) fun t11 =>
  gd true t5 (ltI t7 t11) fun t12 =>
  rd (pickF t5 t12 (.bool false)) fun t13 =>
  (finV [rT t13] h)
theorem L35_1 (call : VCaller) (n : Nat) : Sim 14 (runK call n c35_0 (fin rs35)) (apL [0, 1] (J35_1 call n)) := Sim.reg (Sim.ret R35) (by kernel_rfl) (by kernel_rfl)
noncomputable def c35_2 : VCode := .seq (.region false (A35 [0])) c35_0
noncomputable def J35_3 (call : VCaller) (n : Nat) (t0 t1 : VVal) (h : VHeap) : VAns :=
  (J35_1 call n t0 t1 h)
theorem L35_3 (call : VCaller) (n : Nat) : Sim 14 (runK call n c35_2 (fin rs35)) (apL [0, 1] (J35_3 call n)) := Sim.reg (L35_1 call n) (by kernel_rfl) (by kernel_rfl)
noncomputable def vf35 : VFunc := ⟨14, rs35, c35_2⟩
noncomputable def S35 (call : VCaller) (n : Nat) : VRun := fun args h => match args with
  | [a0] => (J35_3 call n a0 .undef h)
  | args => runK call n vf35.body (fin vf35.results) (args ++ List.replicate (vf35.ntmps - args.length) .undef) h
theorem S35_ok : FastFn.ok ⟨35, vf35, S35⟩ := by
  intro call n args h
  show _ = S35 call n args h
  unfold S35
  split
  · exact (((L35_3 call n) : Sim 14 (runK call n vf35.body (fin vf35.results)) _) _ _ rfl).trans (by kernel_rfl)
  · rfl
theorem vf35_ok : FastFn.inP Try.prog ⟨35, vf35, S35⟩ := by
  show funcV Try.prog 35 = some vf35
  kernel_rfl
/- ferrule/low.Holds -/
noncomputable def A36 := opsAt Try.prog 36
noncomputable def rs36 : List VResult := [.tmp 6, .tmp 7]
theorem R36 : Sim 27 (fin rs36 .ret) (fun σ h => (finV [rT (σ 6), rT (σ 7)] h)) := Sim.of (by kernel_rfl)
noncomputable def c36_0 : VCode := .seq (.region false (A36 [1, 1, 0])) .ret
noncomputable def J36_1 (call : VCaller) (n : Nat) (t1 t2 t8 t9 : VVal) (h : VHeap) : VAns :=
  gd true t9 (faddr 0 t8) fun t18 =>
  gd true t9 (VHeap.load1 h t18) fun t19 =>
  gd true t9 (some t1) fun t20 =>
  gd true t9 (convF .i32 t20) fun t21 =>
  gd true t9 (some t2) fun t22 =>
  gd true t9 (convF .i32 t22) fun t23 =>
  bp .call (opStep call ⟨none, .call (.const t19) [(.const t21), (.const t23)], some (0, true), [], []⟩ [t9] h) thr fun t24 h8 =>
  rd (pickF t9 t24 (.bool false)) fun t25 =>
  (finV [rT t25, rT t9] h8)
theorem L36_1 (call : VCaller) (n : Nat) : Sim 27 (runK call n c36_0 (fin rs36)) (apL [1, 2, 8, 9] (J36_1 call n)) := Sim.reg (Sim.ret R36) (by kernel_rfl) (by kernel_rfl)
noncomputable def c36_2 : VCode := .seq (.region false (A36 [1, 0])) c36_0
noncomputable def J36_3 (call : VCaller) (n : Nat) (t0 t1 t2 : VVal) (h : VHeap) : VAns :=
  bc (call 8 [] h) thr fun t11 h0 =>
  rd (VOp.read [] h0 (.lookup .str (.agg [.nilfunc]) (.const t11) (.const t0) true)) fun t13 =>
  rd (extF t13 0) fun t14 =>
  rd (extF t13 1) fun t15 =>
  fr (VOp.fresh [] (.box 67 (.const (.agg [.nilfunc])))) h0 fun t8 h6 =>
  bd (VOp.write [] h6 (.store 1 (.const t8) (.const t14))) fun _ h7 =>
  (J36_1 call n t1 t2 t8 t15 h7)
theorem L36_3 (call : VCaller) (n : Nat) : Sim 27 (runK call n c36_2 (fin rs36)) (apL [0, 1, 2] (J36_3 call n)) := Sim.reg (L36_1 call n) (by kernel_rfl) (by kernel_rfl)
noncomputable def c36_4 : VCode := .seq (.region false (A36 [0])) c36_2
noncomputable def J36_5 (call : VCaller) (n : Nat) (t0 t1 t2 : VVal) (h : VHeap) : VAns :=
  (J36_3 call n t0 t1 t2 h)
theorem L36_5 (call : VCaller) (n : Nat) : Sim 27 (runK call n c36_4 (fin rs36)) (apL [0, 1, 2] (J36_5 call n)) := Sim.reg (L36_3 call n) (by kernel_rfl) (by kernel_rfl)
noncomputable def vf36 : VFunc := ⟨27, rs36, c36_4⟩
noncomputable def S36 (call : VCaller) (n : Nat) : VRun := fun args h => match args with
  | [a0, a1, a2] => (J36_5 call n a0 a1 a2 h)
  | args => runK call n vf36.body (fin vf36.results) (args ++ List.replicate (vf36.ntmps - args.length) .undef) h
theorem S36_ok : FastFn.ok ⟨36, vf36, S36⟩ := by
  intro call n args h
  show _ = S36 call n args h
  unfold S36
  split
  · exact (((L36_5 call n) : Sim 27 (runK call n vf36.body (fin vf36.results)) _) _ _ rfl).trans (by kernel_rfl)
  · rfl
theorem vf36_ok : FastFn.inP Try.prog ⟨36, vf36, S36⟩ := by
  show funcV Try.prog 36 = some vf36
  kernel_rfl
/- ferrule/low.compares -/
noncomputable def A8 := opsAt Try.prog 8
noncomputable def rs8 : List VResult := [.tmp 0]
theorem R8 : Sim 22 (fin rs8 .ret) (fun σ h => (finV [rT (σ 0)] h)) := Sim.of (by kernel_rfl)
noncomputable def c8_0 : VCode := .seq (.region false (A8 [1, 1, 1, 1, 1, 0])) .ret
noncomputable def J8_1 (call : VCaller) (n : Nat) (t1 t2 t3 t4 : VVal) (h : VHeap) : VAns :=
  fr (VOp.fresh [] (.mkMap)) h fun t5 h0 =>
  rd (VOp.read [] h0 (.build [.nilfunc] [(0, 1, (.const t1))])) fun t7 =>
  bd (VOp.write [] h0 (.mapUpdate .str (.const t5) (.const (.str [101, 113])) (.const t7))) fun _ h3 =>
  cl call (VOp.callee [] (.call (.const t4) [(.const t1)])) h3 thr fun t10 h6 =>
  bd (VOp.write [] h6 (.mapUpdate .str (.const t5) (.const (.str [110, 101])) (.const t10))) fun _ h7 =>
  rd (VOp.read [] h7 (.build [.nilfunc] [(0, 1, (.const t2))])) fun t12 =>
  bd (VOp.write [] h7 (.mapUpdate .str (.const t5) (.const (.str [108, 116])) (.const t12))) fun _ h10 =>
  cl call (VOp.callee [] (.call (.const t4) [(.const t2)])) h10 thr fun t15 h13 =>
  bd (VOp.write [] h13 (.mapUpdate .str (.const t5) (.const (.str [103, 101])) (.const t15))) fun _ h14 =>
  rd (VOp.read [] h14 (.build [.nilfunc] [(0, 1, (.const t3))])) fun t17 =>
  bd (VOp.write [] h14 (.mapUpdate .str (.const t5) (.const (.str [108, 116, 117])) (.const t17))) fun _ h17 =>
  cl call (VOp.callee [] (.call (.const t4) [(.const t3)])) h17 thr fun t20 h20 =>
  bd (VOp.write [] h20 (.mapUpdate .str (.const t5) (.const (.str [103, 101, 117])) (.const t20))) fun _ h21 =>
  (finV [rT t5] h21)
theorem L8_1 (call : VCaller) (n : Nat) : Sim 22 (runK call n c8_0 (fin rs8)) (apL [1, 2, 3, 4] (J8_1 call n)) := Sim.reg (Sim.ret R8) (by kernel_rfl) (by kernel_rfl)
noncomputable def c8_2 : VCode := .seq (.region false (A8 [1, 1, 1, 1, 0])) c8_0
noncomputable def J8_3 (call : VCaller) (n : Nat) (t1 t2 t3 : VVal) (h : VHeap) : VAns :=
  (J8_1 call n t1 t2 t3 (.func 18 [] []) h)
theorem L8_3 (call : VCaller) (n : Nat) : Sim 22 (runK call n c8_2 (fin rs8)) (apL [1, 2, 3] (J8_3 call n)) := Sim.reg (L8_1 call n) (by kernel_rfl) (by kernel_rfl)
noncomputable def c8_4 : VCode := .seq (.region false (A8 [1, 1, 1, 0])) c8_2
noncomputable def J8_5 (call : VCaller) (n : Nat) (t1 t2 : VVal) (h : VHeap) : VAns :=
  (J8_3 call n t1 t2 (.func 17 [] []) h)
theorem L8_5 (call : VCaller) (n : Nat) : Sim 22 (runK call n c8_4 (fin rs8)) (apL [1, 2] (J8_5 call n)) := Sim.reg (L8_3 call n) (by kernel_rfl) (by kernel_rfl)
noncomputable def c8_6 : VCode := .seq (.region false (A8 [1, 1, 0])) c8_4
noncomputable def J8_7 (call : VCaller) (n : Nat) (t1 : VVal) (h : VHeap) : VAns :=
  (J8_5 call n t1 (.func 16 [] []) h)
theorem L8_7 (call : VCaller) (n : Nat) : Sim 22 (runK call n c8_6 (fin rs8)) (apL [1] (J8_7 call n)) := Sim.reg (L8_5 call n) (by kernel_rfl) (by kernel_rfl)
noncomputable def c8_8 : VCode := .seq (.region false (A8 [1, 0])) c8_6
noncomputable def J8_9 (call : VCaller) (n : Nat) (h : VHeap) : VAns :=
  (J8_7 call n (.func 15 [] []) h)
theorem L8_9 (call : VCaller) (n : Nat) : Sim 22 (runK call n c8_8 (fin rs8)) (apL [] (J8_9 call n)) := Sim.reg (L8_7 call n) (by kernel_rfl) (by kernel_rfl)
noncomputable def c8_10 : VCode := .seq (.region false (A8 [0])) c8_8
noncomputable def J8_11 (call : VCaller) (n : Nat) (h : VHeap) : VAns :=
  (J8_9 call n h)
theorem L8_11 (call : VCaller) (n : Nat) : Sim 22 (runK call n c8_10 (fin rs8)) (apL [] (J8_11 call n)) := Sim.reg (L8_9 call n) (by kernel_rfl) (by kernel_rfl)
noncomputable def vf8 : VFunc := ⟨22, rs8, c8_10⟩
noncomputable def S8 (call : VCaller) (n : Nat) : VRun := fun args h => match args with
  | [] => (J8_11 call n h)
  | args => runK call n vf8.body (fin vf8.results) (args ++ List.replicate (vf8.ntmps - args.length) .undef) h
theorem S8_ok : FastFn.ok ⟨8, vf8, S8⟩ := by
  intro call n args h
  show _ = S8 call n args h
  unfold S8
  split
  · exact (((L8_11 call n) : Sim 22 (runK call n vf8.body (fin vf8.results)) _) _ _ rfl).trans (by kernel_rfl)
  · rfl
theorem vf8_ok : FastFn.inP Try.prog ⟨8, vf8, S8⟩ := by
  show funcV Try.prog 8 = some vf8
  kernel_rfl
/- ferrule/low.compares$1 -/
noncomputable def A15 := opsAt Try.prog 15
noncomputable def rs15 : List VResult := [.tmp 4]
theorem R15 : Sim 8 (fin rs15 .ret) (fun σ h => (finV [rT (σ 4)] h)) := Sim.of (by kernel_rfl)
noncomputable def c15_0 : VCode := .seq (.region false (A15 [1, 0])) .ret
noncomputable def J15_1 (call : VCaller) (n : Nat) (t0 t1 : VVal) (h : VHeap) : VAns :=
  rd (eqI t0 t1) fun t7 =>
  (finV [rT t7] h)
theorem L15_1 (call : VCaller) (n : Nat) : Sim 8 (runK call n c15_0 (fin rs15)) (apL [0, 1] (J15_1 call n)) := Sim.reg (Sim.ret R15) (by kernel_rfl) (by kernel_rfl)
noncomputable def c15_2 : VCode := .seq (.region false (A15 [0])) c15_0
noncomputable def J15_3 (call : VCaller) (n : Nat) (t0 t1 : VVal) (h : VHeap) : VAns :=
  (J15_1 call n t0 t1 h)
theorem L15_3 (call : VCaller) (n : Nat) : Sim 8 (runK call n c15_2 (fin rs15)) (apL [0, 1] (J15_3 call n)) := Sim.reg (L15_1 call n) (by kernel_rfl) (by kernel_rfl)
noncomputable def vf15 : VFunc := ⟨8, rs15, c15_2⟩
noncomputable def S15 (call : VCaller) (n : Nat) : VRun := fun args h => match args with
  | [a0, a1] => (J15_3 call n a0 a1 h)
  | args => runK call n vf15.body (fin vf15.results) (args ++ List.replicate (vf15.ntmps - args.length) .undef) h
theorem S15_ok : FastFn.ok ⟨15, vf15, S15⟩ := by
  intro call n args h
  show _ = S15 call n args h
  unfold S15
  split
  · exact (((L15_3 call n) : Sim 8 (runK call n vf15.body (fin vf15.results)) _) _ _ rfl).trans (by kernel_rfl)
  · rfl
theorem vf15_ok : FastFn.inP Try.prog ⟨15, vf15, S15⟩ := by
  show funcV Try.prog 15 = some vf15
  kernel_rfl
/- ferrule/low.compares$2 -/
noncomputable def A16 := opsAt Try.prog 16
noncomputable def rs16 : List VResult := [.tmp 4]
theorem R16 : Sim 8 (fin rs16 .ret) (fun σ h => (finV [rT (σ 4)] h)) := Sim.of (by kernel_rfl)
noncomputable def c16_0 : VCode := .seq (.region false (A16 [1, 0])) .ret
noncomputable def J16_1 (call : VCaller) (n : Nat) (t0 t1 : VVal) (h : VHeap) : VAns :=
  rd (ltI t0 t1) fun t7 =>
  (finV [rT t7] h)
theorem L16_1 (call : VCaller) (n : Nat) : Sim 8 (runK call n c16_0 (fin rs16)) (apL [0, 1] (J16_1 call n)) := Sim.reg (Sim.ret R16) (by kernel_rfl) (by kernel_rfl)
noncomputable def c16_2 : VCode := .seq (.region false (A16 [0])) c16_0
noncomputable def J16_3 (call : VCaller) (n : Nat) (t0 t1 : VVal) (h : VHeap) : VAns :=
  (J16_1 call n t0 t1 h)
theorem L16_3 (call : VCaller) (n : Nat) : Sim 8 (runK call n c16_2 (fin rs16)) (apL [0, 1] (J16_3 call n)) := Sim.reg (L16_1 call n) (by kernel_rfl) (by kernel_rfl)
noncomputable def vf16 : VFunc := ⟨8, rs16, c16_2⟩
noncomputable def S16 (call : VCaller) (n : Nat) : VRun := fun args h => match args with
  | [a0, a1] => (J16_3 call n a0 a1 h)
  | args => runK call n vf16.body (fin vf16.results) (args ++ List.replicate (vf16.ntmps - args.length) .undef) h
theorem S16_ok : FastFn.ok ⟨16, vf16, S16⟩ := by
  intro call n args h
  show _ = S16 call n args h
  unfold S16
  split
  · exact (((L16_3 call n) : Sim 8 (runK call n vf16.body (fin vf16.results)) _) _ _ rfl).trans (by kernel_rfl)
  · rfl
theorem vf16_ok : FastFn.inP Try.prog ⟨16, vf16, S16⟩ := by
  show funcV Try.prog 16 = some vf16
  kernel_rfl
/- ferrule/low.compares$3 -/
noncomputable def A17 := opsAt Try.prog 17
noncomputable def rs17 : List VResult := [.tmp 4]
theorem R17 : Sim 10 (fin rs17 .ret) (fun σ h => (finV [rT (σ 4)] h)) := Sim.of (by kernel_rfl)
noncomputable def c17_0 : VCode := .seq (.region false (A17 [1, 0])) .ret
noncomputable def J17_1 (call : VCaller) (n : Nat) (t0 t1 : VVal) (h : VHeap) : VAns :=
  rd (convF .u32 t0) fun t6 =>
  rd (convF .u32 t1) fun t8 =>
  rd (ltI t6 t8) fun t9 =>
  (finV [rT t9] h)
theorem L17_1 (call : VCaller) (n : Nat) : Sim 10 (runK call n c17_0 (fin rs17)) (apL [0, 1] (J17_1 call n)) := Sim.reg (Sim.ret R17) (by kernel_rfl) (by kernel_rfl)
noncomputable def c17_2 : VCode := .seq (.region false (A17 [0])) c17_0
noncomputable def J17_3 (call : VCaller) (n : Nat) (t0 t1 : VVal) (h : VHeap) : VAns :=
  (J17_1 call n t0 t1 h)
theorem L17_3 (call : VCaller) (n : Nat) : Sim 10 (runK call n c17_2 (fin rs17)) (apL [0, 1] (J17_3 call n)) := Sim.reg (L17_1 call n) (by kernel_rfl) (by kernel_rfl)
noncomputable def vf17 : VFunc := ⟨10, rs17, c17_2⟩
noncomputable def S17 (call : VCaller) (n : Nat) : VRun := fun args h => match args with
  | [a0, a1] => (J17_3 call n a0 a1 h)
  | args => runK call n vf17.body (fin vf17.results) (args ++ List.replicate (vf17.ntmps - args.length) .undef) h
theorem S17_ok : FastFn.ok ⟨17, vf17, S17⟩ := by
  intro call n args h
  show _ = S17 call n args h
  unfold S17
  split
  · exact (((L17_3 call n) : Sim 10 (runK call n vf17.body (fin vf17.results)) _) _ _ rfl).trans (by kernel_rfl)
  · rfl
theorem vf17_ok : FastFn.inP Try.prog ⟨17, vf17, S17⟩ := by
  show funcV Try.prog 17 = some vf17
  kernel_rfl
/- ferrule/low.compares$4 -/
noncomputable def A18 := opsAt Try.prog 18
noncomputable def rs18 : List VResult := [.cell 2 true 1]
theorem R18 : Sim 5 (fin rs18 .ret) (fun σ h => (finV [rC h (σ 2) true 1] h)) := Sim.of (by kernel_rfl)
noncomputable def c18_0 : VCode := .seq (.region false (A18 [1, 0])) .ret
noncomputable def J18_1 (call : VCaller) (n : Nat) (t1 t2 : VVal) (h : VHeap) : VAns :=
  rd (VOp.read [] h (.build [.nilfunc] [(0, 1, (.const (.func 19 [] [t1])))])) fun t4 =>
  bd (VOp.write [] h (.store 1 (.const t2) (.const t4))) fun _ h2 =>
  (finV [rC h2 t2 true 1] h2)
theorem L18_1 (call : VCaller) (n : Nat) : Sim 5 (runK call n c18_0 (fin rs18)) (apL [1, 2] (J18_1 call n)) := Sim.reg (Sim.ret R18) (by kernel_rfl) (by kernel_rfl)
noncomputable def c18_2 : VCode := .seq (.region false (A18 [0])) c18_0
noncomputable def J18_3 (call : VCaller) (n : Nat) (t0 : VVal) (h : VHeap) : VAns :=
  fr (VOp.fresh [] (.box 64 (.const t0))) h fun t1 h0 =>
  fr (VOp.fresh [] (.box 67 (.const (.agg [.nilfunc])))) h0 fun t2 h1 =>
  (J18_1 call n t1 t2 h1)
theorem L18_3 (call : VCaller) (n : Nat) : Sim 5 (runK call n c18_2 (fin rs18)) (apL [0] (J18_3 call n)) := Sim.reg (L18_1 call n) (by kernel_rfl) (by kernel_rfl)
noncomputable def vf18 : VFunc := ⟨5, rs18, c18_2⟩
noncomputable def S18 (call : VCaller) (n : Nat) : VRun := fun args h => match args with
  | [a0] => (J18_3 call n a0 h)
  | args => runK call n vf18.body (fin vf18.results) (args ++ List.replicate (vf18.ntmps - args.length) .undef) h
theorem S18_ok : FastFn.ok ⟨18, vf18, S18⟩ := by
  intro call n args h
  show _ = S18 call n args h
  unfold S18
  split
  · exact (((L18_3 call n) : Sim 5 (runK call n vf18.body (fin vf18.results)) _) _ _ rfl).trans (by kernel_rfl)
  · rfl
theorem vf18_ok : FastFn.inP Try.prog ⟨18, vf18, S18⟩ := by
  show funcV Try.prog 18 = some vf18
  kernel_rfl
/- ferrule/low.compares$4$1 -/
noncomputable def A19 := opsAt Try.prog 19
noncomputable def rs19 : List VResult := [.tmp 5]
theorem R19 : Sim 11 (fin rs19 .ret) (fun σ h => (finV [rT (σ 5)] h)) := Sim.of (by kernel_rfl)
noncomputable def c19_0 : VCode := .seq (.region false (A19 [1, 0])) .ret
noncomputable def J19_1 (call : VCaller) (n : Nat) (t0 t1 t2 : VVal) (h : VHeap) : VAns :=
  rd (VHeap.load1 h t2) fun t6 =>
  cl call (VOp.callee [] (.call (.const t6) [(.const t0), (.const t1)])) h thr fun t9 h3 =>
  rd (unV .not t9) fun t10 =>
  (finV [rT t10] h3)
theorem L19_1 (call : VCaller) (n : Nat) : Sim 11 (runK call n c19_0 (fin rs19)) (apL [0, 1, 2] (J19_1 call n)) := Sim.reg (Sim.ret R19) (by kernel_rfl) (by kernel_rfl)
noncomputable def c19_2 : VCode := .seq (.region false (A19 [0])) c19_0
noncomputable def J19_3 (call : VCaller) (n : Nat) (t0 t1 t2 : VVal) (h : VHeap) : VAns :=
  (J19_1 call n t0 t1 t2 h)
theorem L19_3 (call : VCaller) (n : Nat) : Sim 11 (runK call n c19_2 (fin rs19)) (apL [0, 1, 2] (J19_3 call n)) := Sim.reg (L19_1 call n) (by kernel_rfl) (by kernel_rfl)
noncomputable def vf19 : VFunc := ⟨11, rs19, c19_2⟩
noncomputable def S19 (call : VCaller) (n : Nat) : VRun := fun args h => match args with
  | [a0, a1] => (J19_3 call n a0 a1 .undef h)
  | args => runK call n vf19.body (fin vf19.results) (args ++ List.replicate (vf19.ntmps - args.length) .undef) h
theorem S19_ok : FastFn.ok ⟨19, vf19, S19⟩ := by
  intro call n args h
  show _ = S19 call n args h
  unfold S19
  split
  · exact (((L19_3 call n) : Sim 11 (runK call n vf19.body (fin vf19.results)) _) _ _ rfl).trans (by kernel_rfl)
  · rfl
theorem vf19_ok : FastFn.inP Try.prog ⟨19, vf19, S19⟩ := by
  show funcV Try.prog 19 = some vf19
  kernel_rfl
/- ferrule/heap.New -/
noncomputable def A9 := opsAt Try.prog 9
noncomputable def rs9 : List VResult := [.tmp 0]
theorem R9 : Sim 21 (fin rs9 .ret) (fun σ h => (finV [rT (σ 0)] h)) := Sim.of (by kernel_rfl)
noncomputable def c9_0 : VCode := .seq (.region false (A9 [1, 1, 1, 0])) .ret
noncomputable def J9_1 (call : VCaller) (n : Nat) (t1 : VVal) (h : VHeap) : VAns :=
  (finV [rT t1] h)
theorem L9_1 (call : VCaller) (n : Nat) : Sim 21 (runK call n c9_0 (fin rs9)) (apL [1] (J9_1 call n)) := Sim.reg (Sim.ret R9) (by kernel_rfl) (by kernel_rfl)
noncomputable def D9_2 (call : VCaller) (n : Nat) : Kont := kn (runK call n c9_0 (fin rs9)) (fin rs9)
noncomputable def D9_3 (call : VCaller) (n : Nat) : Kont := kb 0 (D9_2 call n)
noncomputable def D9_4 (call : VCaller) (n : Nat) (K4 : VRun) : Kont := kn K4 (D9_3 call n)
noncomputable def c9_5 : VCode := .region false (A9 [1, 1, 0, 1, 0, 0, 1, 1, 1])
noncomputable def J9_6 (call : VCaller) (n : Nat) (ih4 : VVal → VVal → VVal → VHeap → VAns) (t1 t6 t7 : VVal) (h : VHeap) : VAns :=
  rd (addI t7 (I 1)) fun t19 =>
  (ih4 t1 t6 t19 h)
theorem L9_6 (call : VCaller) (n : Nat) {K4 : VRun} {ih4 : VVal → VVal → VVal → VHeap → VAns} (I4 : Sim 21 K4 (apL [1, 6, 7] ih4)) : Sim 21 (runK call n c9_5 (D9_4 call n K4)) (apL [1, 6, 7] (J9_6 call n ih4)) := Sim.regE I4 (by kernel_rfl) (by kernel_rfl)
noncomputable def D9_7 (call : VCaller) (n : Nat) (K4 : VRun) : Kont := kn (runK call n c9_5 (D9_4 call n K4)) (D9_4 call n K4)
noncomputable def D9_8 (call : VCaller) (n : Nat) (K4 : VRun) : Kont := kb 1 (D9_7 call n K4)
noncomputable def c9_9 : VCode := .region true (A9 [1, 1, 0, 1, 0, 0, 1, 1, 0, 0, 1])
noncomputable def J9_10 (call : VCaller) (n : Nat) (ih4 : VVal → VVal → VVal → VHeap → VAns) (t1 t2 t3 t6 t7 : VVal) (h : VHeap) : VAns :=
  rd (faddr 1 t3) fun v2 =>
  rd (VHeap.load1 h v2) fun v3 =>
  fr (VOp.fresh [] (.mkSlice 4 1 1 [(.bool false)] (.const v3) (.const v3))) h fun v4 h4 =>
  rd (nilF t1) fun v5 =>
  rd (faddr 1 v5) fun v6 =>
  rd (VOp.read [] h4 (.indexAddr (some 4) 1 (.const v6) (.const t2))) fun v7 =>
  bd (VOp.write [] h4 (.store 1 (.const v7) (.const v4))) fun v8 h8 =>
  (J9_6 call n ih4 t1 t6 t7 h8)
theorem L9_10 (call : VCaller) (n : Nat) {K4 : VRun} {ih4 : VVal → VVal → VVal → VHeap → VAns} (I4 : Sim 21 K4 (apL [1, 6, 7] ih4)) : Sim 21 (runK call n c9_9 (D9_8 call n K4)) (apL [1, 2, 3, 6, 7] (J9_10 call n ih4)) := Sim.drwE (L9_6 call n I4) (by kernel_rfl) (by kernel_rfl)
noncomputable def c9_11 : VCode := .seq (.region false (A9 [1, 1, 0, 1, 0, 0, 1, 1, 0, 0, 0])) c9_9
noncomputable def J9_12 (call : VCaller) (n : Nat) (ih4 : VVal → VVal → VVal → VHeap → VAns) (t1 t6 t7 : VVal) (h : VHeap) : VAns :=
  rd (VOp.read [] h (.indexArr 4 true 3 (.const t6) (.const t7))) fun t10 =>
  fr (VOp.fresh [] (.box 74 (.const (.agg [(I 0), (I 0), (I 0)])))) h fun t3 h2 =>
  bd (VOp.write [] h2 (.store 3 (.const t3) (.const t10))) fun _ h4 =>
  (J9_10 call n ih4 t1 t7 t3 t6 t7 h4)
theorem L9_12 (call : VCaller) (n : Nat) {K4 : VRun} {ih4 : VVal → VVal → VVal → VHeap → VAns} (I4 : Sim 21 K4 (apL [1, 6, 7] ih4)) : Sim 21 (runK call n c9_11 (D9_8 call n K4)) (apL [1, 6, 7] (J9_12 call n ih4)) := Sim.reg (L9_10 call n I4) (by kernel_rfl) (by kernel_rfl)
noncomputable def D9_13 (call : VCaller) (n : Nat) (K4 : VRun) : Kont := kn (runK call n (.seq (.block 1 c9_11) c9_5) (D9_4 call n K4)) (D9_4 call n K4)
noncomputable def c9_14 : VCode := .seq (.region false (A9 [1, 1, 0, 1, 0, 0, 0])) (.seq (.cond (.tmp 8) .skip (.exit 0)) (.seq (.block 1 c9_11) c9_5))
noncomputable def J9_15 (call : VCaller) (n : Nat) (ih4 : VVal → VVal → VVal → VHeap → VAns) (t1 t6 t7 : VVal) (h : VHeap) : VAns :=
  rd (ltI t7 (I 4)) fun t8 =>
  (cnd t8 (J9_12 call n ih4 t1 t6 t7 h) (J9_1 call n t1 h))
theorem L9_15 (call : VCaller) (n : Nat) {K4 : VRun} {ih4 : VVal → VVal → VVal → VHeap → VAns} (I4 : Sim 21 K4 (apL [1, 6, 7] ih4)) : Sim 21 (runK call n c9_14 (D9_4 call n K4)) (apL [1, 6, 7] (J9_15 call n ih4)) := Sim.reg (Sim.seq (Sim.cond (Sim.skip (Sim.seq (Sim.block (L9_12 call n I4)))) (Sim.exit (L9_1 call n)))) (by kernel_rfl) (by kernel_rfl)
noncomputable def J9_4 (call : VCaller) (n : Nat) (m : Nat) : VVal → VVal → VVal → VHeap → VAns :=
  Nat.rec (motive := fun _ => VVal → VVal → VVal → VHeap → VAns) (fun _ _ _ _ => none) (fun _ ih4 => fun t1 t6 t7 h => (J9_15 call n ih4 t1 t6 t7 h)) m
noncomputable def c9_16 : VCode := .seq (.region false (A9 [1, 1, 0, 0])) (.block 0 (.loop c9_14))
noncomputable def J9_17 (call : VCaller) (n : Nat) (t1 : VVal) (h : VHeap) : VAns :=
  bc (call 20 [] h) thr fun t6 h0 =>
  (J9_4 call n n t1 t6 (I 0) h0)
theorem L9_17 (call : VCaller) (n : Nat) : Sim 21 (runK call n c9_16 (D9_2 call n)) (apL [1] (J9_17 call n)) := Sim.reg (Sim.block (Sim.loop (J := fun m => apL [1, 6, 7] (J9_4 call n m)) (by kernel_rfl) (fun _ I4 => (L9_15 call n I4)))) (by kernel_rfl) (by kernel_rfl)
noncomputable def c9_18 : VCode := .seq (.region false (A9 [1, 0])) (.seq c9_16 c9_0)
noncomputable def J9_19 (call : VCaller) (n : Nat) (h : VHeap) : VAns :=
  rd (VOp.read [] h (.build [(.bool false), .nilslice, .nilslice, .nilslice, .nilslice] [(0, 1, (.const (.bool true)))])) fun t4 =>
  fr (VOp.fresh [] (.box 72 (.const t4))) h fun t5 h1 =>
  (J9_17 call n t5 h1)
theorem L9_19 (call : VCaller) (n : Nat) : Sim 21 (runK call n c9_18 (fin rs9)) (apL [] (J9_19 call n)) := Sim.reg (Sim.seq (L9_17 call n)) (by kernel_rfl) (by kernel_rfl)
noncomputable def c9_20 : VCode := .seq (.region false (A9 [0])) c9_18
noncomputable def J9_21 (call : VCaller) (n : Nat) (h : VHeap) : VAns :=
  (J9_19 call n h)
theorem L9_21 (call : VCaller) (n : Nat) : Sim 21 (runK call n c9_20 (fin rs9)) (apL [] (J9_21 call n)) := Sim.reg (L9_19 call n) (by kernel_rfl) (by kernel_rfl)
noncomputable def vf9 : VFunc := ⟨21, rs9, c9_20⟩
noncomputable def S9 (call : VCaller) (n : Nat) : VRun := fun args h => match args with
  | [] => (J9_21 call n h)
  | args => runK call n vf9.body (fin vf9.results) (args ++ List.replicate (vf9.ntmps - args.length) .undef) h
theorem S9_ok : FastFn.ok ⟨9, vf9, S9⟩ := by
  intro call n args h
  show _ = S9 call n args h
  unfold S9
  split
  · exact (((L9_21 call n) : Sim 21 (runK call n vf9.body (fin vf9.results)) _) _ _ rfl).trans (by kernel_rfl)
  · rfl
theorem vf9_ok : FastFn.inP Try.prog ⟨9, vf9, S9⟩ := by
  show funcV Try.prog 9 = some vf9
  kernel_rfl
/- ferrule/heap.all -/
noncomputable def A20 := opsAt Try.prog 20
noncomputable def rs20 : List VResult := [.cell 0 true 12]
theorem R20 : Sim 30 (fin rs20 .ret) (fun σ h => (finV [rC h (σ 0) true 12] h)) := Sim.of (by kernel_rfl)
noncomputable def c20_0 : VCode := .seq (.region false (A20 [1, 1, 1, 1, 0])) .ret
noncomputable def J20_1 (call : VCaller) (n : Nat) (t0 t1 : VVal) (h : VHeap) : VAns :=
  rd (VHeap.loadA h 12 t1) fun t29 =>
  bd (VOp.write [] h (.store 12 (.const t0) (.const t29))) fun _ h1 =>
  (finV [rC h1 t0 true 12] h1)
theorem L20_1 (call : VCaller) (n : Nat) : Sim 30 (runK call n c20_0 (fin rs20)) (apL [0, 1] (J20_1 call n)) := Sim.reg (Sim.ret R20) (by kernel_rfl) (by kernel_rfl)
noncomputable def D20_2 (call : VCaller) (n : Nat) : Kont := kn (runK call n c20_0 (fin rs20)) (fin rs20)
noncomputable def D20_3 (call : VCaller) (n : Nat) : Kont := kb 0 (D20_2 call n)
noncomputable def D20_4 (call : VCaller) (n : Nat) (K4 : VRun) : Kont := kn K4 (D20_3 call n)
noncomputable def c20_5 : VCode := .region false (A20 [1, 1, 1, 0, 1, 0, 0, 1, 1, 1])
noncomputable def J20_6 (call : VCaller) (n : Nat) (ih4 : VVal → VVal → VVal → VVal → VHeap → VAns) (t0 t1 t2 t9 : VVal) (h : VHeap) : VAns :=
  rd (addI t9 (I 1)) fun t28 =>
  (ih4 t0 t1 t2 t28 h)
theorem L20_6 (call : VCaller) (n : Nat) {K4 : VRun} {ih4 : VVal → VVal → VVal → VVal → VHeap → VAns} (I4 : Sim 30 K4 (apL [0, 1, 2, 9] ih4)) : Sim 30 (runK call n c20_5 (D20_4 call n K4)) (apL [0, 1, 2, 9] (J20_6 call n ih4)) := Sim.regE I4 (by kernel_rfl) (by kernel_rfl)
noncomputable def D20_7 (call : VCaller) (n : Nat) (K4 : VRun) : Kont := kn (runK call n c20_5 (D20_4 call n K4)) (D20_4 call n K4)
noncomputable def D20_8 (call : VCaller) (n : Nat) (K4 : VRun) : Kont := kb 1 (D20_7 call n K4)
noncomputable def c20_9 : VCode := .region true (A20 [1, 1, 1, 0, 1, 0, 0, 1, 1, 0, 0, 1, 1])
noncomputable def J20_10 (call : VCaller) (n : Nat) (ih4 : VVal → VVal → VVal → VVal → VHeap → VAns) (t0 t1 t2 t3 t9 : VVal) (h : VHeap) : VAns :=
  rd (VOp.read [] h (.indexAddr (some 4) 3 (.const t1) (.const t3))) fun v2 =>
  rd (faddr 0 v2) fun v3 =>
  rd (VHeap.load1 h v3) fun v4 =>
  rd (binV .mul (.flat .int) (I 4) v4) fun v5 =>
  rd (VOp.read [] h (.indexAddr (some 4) 3 (.const t1) (.const t3))) fun v7 =>
  rd (faddr 1 v7) fun v8 =>
  rd (VHeap.load1 h v8) fun v9 =>
  rd (binV .mul (.flat .int) v5 v9) fun v10 =>
  rd (addI t2 v10) fun v11 =>
  (J20_6 call n ih4 t0 t1 v11 t9 h)
theorem L20_10 (call : VCaller) (n : Nat) {K4 : VRun} {ih4 : VVal → VVal → VVal → VVal → VHeap → VAns} (I4 : Sim 30 K4 (apL [0, 1, 2, 9] ih4)) : Sim 30 (runK call n c20_9 (D20_8 call n K4)) (apL [0, 1, 2, 3, 9] (J20_10 call n ih4)) := Sim.drwE (L20_6 call n I4) (by kernel_rfl) (by kernel_rfl)
noncomputable def c20_11 : VCode := .seq (.region false (A20 [1, 1, 1, 0, 1, 0, 0, 1, 1, 0, 0, 1, 0])) c20_9
noncomputable def J20_12 (call : VCaller) (n : Nat) (ih4 : VVal → VVal → VVal → VVal → VHeap → VAns) (t0 t1 t2 t3 t9 : VVal) (h : VHeap) : VAns :=
  rd (VOp.read [] h (.indexAddr (some 4) 3 (.const t1) (.const t3))) fun t14 =>
  rd (faddr 2 t14) fun t15 =>
  bd (VOp.write [] h (.store 1 (.const t15) (.const t2))) fun _ h4 =>
  (J20_10 call n ih4 t0 t1 t2 t3 t9 h4)
theorem L20_12 (call : VCaller) (n : Nat) {K4 : VRun} {ih4 : VVal → VVal → VVal → VVal → VHeap → VAns} (I4 : Sim 30 K4 (apL [0, 1, 2, 9] ih4)) : Sim 30 (runK call n c20_11 (D20_8 call n K4)) (apL [0, 1, 2, 3, 9] (J20_12 call n ih4)) := Sim.reg (L20_10 call n I4) (by kernel_rfl) (by kernel_rfl)
noncomputable def c20_13 : VCode := .seq (.region false (A20 [1, 1, 1, 0, 1, 0, 0, 1, 1, 0, 0, 0])) c20_11
noncomputable def J20_14 (call : VCaller) (n : Nat) (ih4 : VVal → VVal → VVal → VVal → VHeap → VAns) (t0 t1 t2 t9 : VVal) (h : VHeap) : VAns :=
  (J20_12 call n ih4 t0 t1 t2 t9 t9 h)
theorem L20_14 (call : VCaller) (n : Nat) {K4 : VRun} {ih4 : VVal → VVal → VVal → VVal → VHeap → VAns} (I4 : Sim 30 K4 (apL [0, 1, 2, 9] ih4)) : Sim 30 (runK call n c20_13 (D20_8 call n K4)) (apL [0, 1, 2, 9] (J20_14 call n ih4)) := Sim.reg (L20_12 call n I4) (by kernel_rfl) (by kernel_rfl)
noncomputable def D20_15 (call : VCaller) (n : Nat) (K4 : VRun) : Kont := kn (runK call n (.seq (.block 1 c20_13) c20_5) (D20_4 call n K4)) (D20_4 call n K4)
noncomputable def c20_16 : VCode := .seq (.region false (A20 [1, 1, 1, 0, 1, 0, 0, 0])) (.seq (.cond (.tmp 10) .skip (.exit 0)) (.seq (.block 1 c20_13) c20_5))
noncomputable def J20_17 (call : VCaller) (n : Nat) (ih4 : VVal → VVal → VVal → VVal → VHeap → VAns) (t0 t1 t2 t9 : VVal) (h : VHeap) : VAns :=
  rd (ltI t9 (I 4)) fun t10 =>
  (cnd t10 (J20_14 call n ih4 t0 t1 t2 t9 h) (J20_1 call n t0 t1 h))
theorem L20_17 (call : VCaller) (n : Nat) {K4 : VRun} {ih4 : VVal → VVal → VVal → VVal → VHeap → VAns} (I4 : Sim 30 K4 (apL [0, 1, 2, 9] ih4)) : Sim 30 (runK call n c20_16 (D20_4 call n K4)) (apL [0, 1, 2, 9] (J20_17 call n ih4)) := Sim.reg (Sim.seq (Sim.cond (Sim.skip (Sim.seq (Sim.block (L20_14 call n I4)))) (Sim.exit (L20_1 call n)))) (by kernel_rfl) (by kernel_rfl)
noncomputable def J20_4 (call : VCaller) (n : Nat) (m : Nat) : VVal → VVal → VVal → VVal → VHeap → VAns :=
  Nat.rec (motive := fun _ => VVal → VVal → VVal → VVal → VHeap → VAns) (fun _ _ _ _ _ => none) (fun _ ih4 => fun t0 t1 t2 t9 h => (J20_17 call n ih4 t0 t1 t2 t9 h)) m
noncomputable def c20_18 : VCode := .seq (.region false (A20 [1, 1, 1, 0, 0])) (.block 0 (.loop c20_16))
noncomputable def J20_19 (call : VCaller) (n : Nat) (t0 t1 t2 : VVal) (h : VHeap) : VAns :=
  (J20_4 call n n t0 t1 t2 (I 0) h)
theorem L20_19 (call : VCaller) (n : Nat) : Sim 30 (runK call n c20_18 (D20_2 call n)) (apL [0, 1, 2] (J20_19 call n)) := Sim.reg (Sim.block (Sim.loop (J := fun m => apL [0, 1, 2, 9] (J20_4 call n m)) (by kernel_rfl) (fun _ I4 => (L20_17 call n I4)))) (by kernel_rfl) (by kernel_rfl)
noncomputable def c20_20 : VCode := .seq (.region false (A20 [1, 1, 0])) (.seq c20_18 c20_0)
noncomputable def J20_21 (call : VCaller) (n : Nat) (t0 t1 : VVal) (h : VHeap) : VAns :=
  (J20_19 call n t0 t1 (I 262144) h)
theorem L20_21 (call : VCaller) (n : Nat) : Sim 30 (runK call n c20_20 (fin rs20)) (apL [0, 1] (J20_21 call n)) := Sim.reg (Sim.seq (L20_19 call n)) (by kernel_rfl) (by kernel_rfl)
noncomputable def c20_22 : VCode := .seq (.region false (A20 [1, 0])) c20_20
noncomputable def J20_23 (call : VCaller) (n : Nat) (t0 : VVal) (h : VHeap) : VAns :=
  rd (VOp.read [] h (.build [(I 0), (I 0), (I 0)] [(0, 1, (.const (I 4))), (1, 1, (.const (I 64)))])) fun t4 =>
  rd (VOp.read [] h (.build [(I 0), (I 0), (I 0)] [(0, 1, (.const (I 16))), (1, 1, (.const (I 32)))])) fun t5 =>
  rd (VOp.read [] h (.build [(I 0), (I 0), (I 0)] [(0, 1, (.const (I 64))), (1, 1, (.const (I 16)))])) fun t6 =>
  rd (VOp.read [] h (.build [(I 0), (I 0), (I 0)] [(0, 1, (.const (I 128))), (1, 1, (.const (I 8)))])) fun t7 =>
  rd (VOp.read [] h (.build [(I 0), (I 0), (I 0), (I 0), (I 0), (I 0), (I 0), (I 0), (I 0), (I 0), (I 0), (I 0)] [(0, 3, (.const t4)), (3, 3, (.const t5)), (6, 3, (.const t6)), (9, 3, (.const t7))])) fun t8 =>
  fr (VOp.fresh [] (.box 75 (.const (.agg [(I 0), (I 0), (I 0), (I 0), (I 0), (I 0), (I 0), (I 0), (I 0), (I 0), (I 0), (I 0)])))) h fun t1 h5 =>
  bd (VOp.write [] h5 (.store 12 (.const t1) (.const t8))) fun _ h6 =>
  (J20_21 call n t0 t1 h6)
theorem L20_23 (call : VCaller) (n : Nat) : Sim 30 (runK call n c20_22 (fin rs20)) (apL [0] (J20_23 call n)) := Sim.reg (L20_21 call n) (by kernel_rfl) (by kernel_rfl)
noncomputable def c20_24 : VCode := .seq (.region false (A20 [0])) c20_22
noncomputable def J20_25 (call : VCaller) (n : Nat) (h : VHeap) : VAns :=
  fr (VOp.fresh [] (.box 75 (.const (.agg [(I 0), (I 0), (I 0), (I 0), (I 0), (I 0), (I 0), (I 0), (I 0), (I 0), (I 0), (I 0)])))) h fun t0 h0 =>
  (J20_23 call n t0 h0)
theorem L20_25 (call : VCaller) (n : Nat) : Sim 30 (runK call n c20_24 (fin rs20)) (apL [] (J20_25 call n)) := Sim.reg (L20_23 call n) (by kernel_rfl) (by kernel_rfl)
noncomputable def vf20 : VFunc := ⟨30, rs20, c20_24⟩
noncomputable def S20 (call : VCaller) (n : Nat) : VRun := fun args h => match args with
  | [] => (J20_25 call n h)
  | args => runK call n vf20.body (fin vf20.results) (args ++ List.replicate (vf20.ntmps - args.length) .undef) h
theorem S20_ok : FastFn.ok ⟨20, vf20, S20⟩ := by
  intro call n args h
  show _ = S20 call n args h
  unfold S20
  split
  · exact (((L20_25 call n) : Sim 30 (runK call n vf20.body (fin vf20.results)) _) _ _ rfl).trans (by kernel_rfl)
  · rfl
theorem vf20_ok : FastFn.inP Try.prog ⟨20, vf20, S20⟩ := by
  show funcV Try.prog 20 = some vf20
  kernel_rfl
/- ferrule/low.stop -/
noncomputable def A11 := opsAt Try.prog 11
noncomputable def rs11 : List VResult := []
theorem R11 : Sim 8 (fin rs11 .ret) (fun σ h => (finV [] h)) := Sim.of (by kernel_rfl)
noncomputable def c11_0 : VCode := .region false (A11 [])
noncomputable def J11_1 (call : VCaller) (n : Nat) (t0 t1 : VVal) (h : VHeap) : VAns :=
  rd (VOp.read [] h (.build [(I 0), (I 0)] [(0, 1, (.const t0)), (1, 1, (.const t1))])) fun t6 =>
  pn (VOp.panicV [] (.panic (.const (.iface 53 t6)))) h thr
theorem L11_1 (call : VCaller) (n : Nat) : Sim 8 (runK call n c11_0 (fin rs11)) (apL [0, 1] (J11_1 call n)) := Sim.regE R11 (by kernel_rfl) (by kernel_rfl)
noncomputable def vf11 : VFunc := ⟨8, rs11, c11_0⟩
noncomputable def S11 (call : VCaller) (n : Nat) : VRun := fun args h => match args with
  | [a0, a1] => (J11_1 call n a0 a1 h)
  | args => runK call n vf11.body (fin vf11.results) (args ++ List.replicate (vf11.ntmps - args.length) .undef) h
theorem S11_ok : FastFn.ok ⟨11, vf11, S11⟩ := by
  intro call n args h
  show _ = S11 call n args h
  unfold S11
  split
  · exact (((L11_1 call n) : Sim 8 (runK call n vf11.body (fin vf11.results)) _) _ _ rfl).trans (by kernel_rfl)
  · rfl
theorem vf11_ok : FastFn.inP Try.prog ⟨11, vf11, S11⟩ := by
  show funcV Try.prog 11 = some vf11
  kernel_rfl
end Go.Proofs.Ythefbgflndpggaa.LF
