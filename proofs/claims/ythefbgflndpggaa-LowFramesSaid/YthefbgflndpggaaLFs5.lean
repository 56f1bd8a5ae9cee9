/- Functions that are reached, as the virtual machine has them. Printed by program. -/
import Derived.Test.YthefbgflndpggaaChecked
import Derived.Test.YthefbgflndpggaaV30
set_option linter.unusedSimpArgs false
set_option linter.unusedVariables false
open Go.V
namespace Go.Proofs.Ythefbgflndpggaa.LF
set_option linter.unusedVariables false
/- (*ferrule/heap.Heap).find -/
noncomputable def A47 := opsAt Try.prog 47
noncomputable def rs47 : List VResult := [.tmp 4, .tmp 5, .tmp 6, .tmp 7]
theorem R47 : Sim 50 (fin rs47 .ret) (fun σ h => (finV [rT (σ 4), rT (σ 5), rT (σ 6), rT (σ 7)] h)) := Sim.of (by kernel_rfl)
noncomputable def c47_0 : VCode := .seq (.region false (A47 [1, 1, 1, 0])) .ret
noncomputable def J47_1 (call : VCaller) (n : Nat) (h : VHeap) : VAns :=
  (finV [rT (I 0), rT (I 0), rT (I 0), rT (.bool false)] h)
theorem L47_1 (call : VCaller) (n : Nat) : Sim 50 (runK call n c47_0 (fin rs47)) (apL [] (J47_1 call n)) := Sim.reg (Sim.ret R47) (by kernel_rfl) (by kernel_rfl)
noncomputable def D47_2 (call : VCaller) (n : Nat) : Kont := kn (runK call n c47_0 (fin rs47)) (fin rs47)
noncomputable def D47_3 (call : VCaller) (n : Nat) : Kont := kb 0 (D47_2 call n)
noncomputable def D47_4 (call : VCaller) (n : Nat) (K4 : VRun) : Kont := kn K4 (D47_3 call n)
noncomputable def c47_5 : VCode := .region false (A47 [1, 1, 0, 1, 0, 0, 1, 1, 1])
noncomputable def J47_6 (call : VCaller) (n : Nat) (ih4 : VVal → VVal → VVal → VVal → VVal → VHeap → VAns) (t0 t3 t8 t12 t13 : VVal) (h : VHeap) : VAns :=
  rd (addI t13 (I 1)) fun t49 =>
  (ih4 t0 t3 t8 t12 t49 h)
theorem L47_6 (call : VCaller) (n : Nat) {K4 : VRun} {ih4 : VVal → VVal → VVal → VVal → VVal → VHeap → VAns} (I4 : Sim 50 K4 (apL [0, 3, 8, 12, 13] ih4)) : Sim 50 (runK call n c47_5 (D47_4 call n K4)) (apL [0, 3, 8, 12, 13] (J47_6 call n ih4)) := Sim.regE I4 (by kernel_rfl) (by kernel_rfl)
noncomputable def D47_7 (call : VCaller) (n : Nat) (K4 : VRun) : Kont := kn (runK call n c47_5 (D47_4 call n K4)) (D47_4 call n K4)
noncomputable def D47_8 (call : VCaller) (n : Nat) (K4 : VRun) : Kont := kb 1 (D47_7 call n K4)
noncomputable def c47_9 : VCode := .seq (.region true (A47 [1, 1, 0, 1, 0, 0, 1, 1, 0, 0, 1, 1, 0, 1, 0])) .ret
noncomputable def J47_10 (call : VCaller) (n : Nat) (ih4 : VVal → VVal → VVal → VVal → VVal → VHeap → VAns) (t0 t3 t5 t9 t10 : VVal) (h : VHeap) : VAns :=
  rd (VHeap.load1 h t3) fun v2 =>
  rd (faddr 2 t10) fun v3 =>
  rd (VHeap.load1 h v3) fun v4 =>
  rd (subI v2 v4) fun v5 =>
  rd (faddr 0 t10) fun v6 =>
  rd (VHeap.load1 h v6) fun v7 =>
  rd (binV .mul (.flat .int) (I 4) v7) fun v8 =>
  rd (binV .mul (.flat .int) v8 t5) fun v10 =>
  rd (subI v5 v10) fun v11 =>
  rd (nilF t0) fun v14 =>
  rd (faddr 1 v14) fun v15 =>
  rd (VOp.read [] h (.indexAddr (some 4) 1 (.const v15) (.const t9))) fun v16 =>
  rd (VHeap.load1 h v16) fun v17 =>
  rd (idxS 1 v17 t5) fun v19 =>
  rd (VHeap.load1 h v19) fun v20 =>
  (finV [rT t9, rT t5, rT v11, rT v20] h)
theorem L47_10 (call : VCaller) (n : Nat) {K4 : VRun} {ih4 : VVal → VVal → VVal → VVal → VVal → VHeap → VAns} (I4 : Sim 50 K4 (apL [0, 3, 8, 12, 13] ih4)) : Sim 50 (runK call n c47_9 (D47_8 call n K4)) (apL [0, 3, 5, 9, 10] (J47_10 call n ih4)) := Sim.drw (Sim.ret R47) (by kernel_rfl) (by kernel_rfl)
noncomputable def c47_11 : VCode := .seq (.region false (A47 [1, 1, 0, 1, 0, 0, 1, 1, 0, 0, 1, 1, 0, 0])) c47_9
noncomputable def J47_12 (call : VCaller) (n : Nat) (ih4 : VVal → VVal → VVal → VVal → VVal → VHeap → VAns) (t0 t3 t9 t10 : VVal) (h : VHeap) : VAns :=
  rd (VHeap.load1 h t3) fun t20 =>
  rd (faddr 2 t10) fun t21 =>
  rd (VHeap.load1 h t21) fun t22 =>
  rd (subI t20 t22) fun t23 =>
  rd (faddr 0 t10) fun t24 =>
  rd (VHeap.load1 h t24) fun t25 =>
  rd (binV .mul (.flat .int) (I 4) t25) fun t26 =>
  rd (binV .quo (.flat .int) t23 t26) fun t27 =>
  (J47_10 call n ih4 t0 t3 t27 t9 t10 h)
theorem L47_12 (call : VCaller) (n : Nat) {K4 : VRun} {ih4 : VVal → VVal → VVal → VVal → VVal → VHeap → VAns} (I4 : Sim 50 K4 (apL [0, 3, 8, 12, 13] ih4)) : Sim 50 (runK call n c47_11 (D47_8 call n K4)) (apL [0, 3, 9, 10] (J47_12 call n ih4)) := Sim.reg (L47_10 call n I4) (by kernel_rfl) (by kernel_rfl)
noncomputable def c47_13 : VCode := .seq (.region false (A47 [1, 1, 0, 1, 0, 0, 1, 1, 0, 0, 1, 0])) (.cond (.tmp 19) c47_11 .skip)
noncomputable def J47_14 (call : VCaller) (n : Nat) (ih4 : VVal → VVal → VVal → VVal → VVal → VHeap → VAns) (t0 t3 t8 t9 t10 t12 t13 : VVal) (h : VHeap) : VAns :=
  rd (VHeap.loadA h 3 t10) fun t18 =>
  cl call (VOp.callee [] (.call (.const t8) [(.const t18)])) h thr fun t19 h2 =>
  (cnd t19 (J47_12 call n ih4 t0 t3 t9 t10 h2) (J47_6 call n ih4 t0 t3 t8 t12 t13 h2))
theorem L47_14 (call : VCaller) (n : Nat) {K4 : VRun} {ih4 : VVal → VVal → VVal → VVal → VVal → VHeap → VAns} (I4 : Sim 50 K4 (apL [0, 3, 8, 12, 13] ih4)) : Sim 50 (runK call n c47_13 (D47_8 call n K4)) (apL [0, 3, 8, 9, 10, 12, 13] (J47_14 call n ih4)) := Sim.reg (Sim.cond (L47_12 call n I4) (Sim.skip (L47_6 call n I4))) (by kernel_rfl) (by kernel_rfl)
noncomputable def c47_15 : VCode := .seq (.region false (A47 [1, 1, 0, 1, 0, 0, 1, 1, 0, 0, 0])) c47_13
noncomputable def J47_16 (call : VCaller) (n : Nat) (ih4 : VVal → VVal → VVal → VVal → VVal → VHeap → VAns) (t0 t3 t8 t12 t13 : VVal) (h : VHeap) : VAns :=
  rd (VOp.read [] h (.indexArr 4 true 3 (.const t12) (.const t13))) fun t16 =>
  fr (VOp.fresh [] (.box 74 (.const (.agg [(I 0), (I 0), (I 0)])))) h fun t10 h2 =>
  bd (VOp.write [] h2 (.store 3 (.const t10) (.const t16))) fun _ h4 =>
  (J47_14 call n ih4 t0 t3 t8 t13 t10 t12 t13 h4)
theorem L47_16 (call : VCaller) (n : Nat) {K4 : VRun} {ih4 : VVal → VVal → VVal → VVal → VVal → VHeap → VAns} (I4 : Sim 50 K4 (apL [0, 3, 8, 12, 13] ih4)) : Sim 50 (runK call n c47_15 (D47_8 call n K4)) (apL [0, 3, 8, 12, 13] (J47_16 call n ih4)) := Sim.reg (L47_14 call n I4) (by kernel_rfl) (by kernel_rfl)
noncomputable def D47_17 (call : VCaller) (n : Nat) (K4 : VRun) : Kont := kn (runK call n (.seq (.block 1 c47_15) c47_5) (D47_4 call n K4)) (D47_4 call n K4)
noncomputable def c47_18 : VCode := .seq (.region false (A47 [1, 1, 0, 1, 0, 0, 0])) (.seq (.cond (.tmp 14) .skip (.exit 0)) (.seq (.block 1 c47_15) c47_5))
noncomputable def J47_19 (call : VCaller) (n : Nat) (ih4 : VVal → VVal → VVal → VVal → VVal → VHeap → VAns) (t0 t3 t8 t12 t13 : VVal) (h : VHeap) : VAns :=
  rd (ltI t13 (I 4)) fun t14 =>
  (cnd t14 (J47_16 call n ih4 t0 t3 t8 t12 t13 h) (J47_1 call n h))
theorem L47_19 (call : VCaller) (n : Nat) {K4 : VRun} {ih4 : VVal → VVal → VVal → VVal → VVal → VHeap → VAns} (I4 : Sim 50 K4 (apL [0, 3, 8, 12, 13] ih4)) : Sim 50 (runK call n c47_18 (D47_4 call n K4)) (apL [0, 3, 8, 12, 13] (J47_19 call n ih4)) := Sim.reg (Sim.seq (Sim.cond (Sim.skip (Sim.seq (Sim.block (L47_16 call n I4)))) (Sim.exit (L47_1 call n)))) (by kernel_rfl) (by kernel_rfl)
noncomputable def J47_4 (call : VCaller) (n : Nat) (m : Nat) : VVal → VVal → VVal → VVal → VVal → VHeap → VAns :=
  Nat.rec (motive := fun _ => VVal → VVal → VVal → VVal → VVal → VHeap → VAns) (fun _ _ _ _ _ _ => none) (fun _ ih4 => fun t0 t3 t8 t12 t13 h => (J47_19 call n ih4 t0 t3 t8 t12 t13 h)) m
noncomputable def c47_20 : VCode := .seq (.region false (A47 [1, 1, 0, 0])) (.block 0 (.loop c47_18))
noncomputable def J47_21 (call : VCaller) (n : Nat) (t0 t3 t8 : VVal) (h : VHeap) : VAns :=
  bc (call 20 [] h) thr fun t12 h0 =>
  (J47_4 call n n t0 t3 t8 t12 (I 0) h0)
theorem L47_21 (call : VCaller) (n : Nat) : Sim 50 (runK call n c47_20 (D47_2 call n)) (apL [0, 3, 8] (J47_21 call n)) := Sim.reg (Sim.block (Sim.loop (J := fun m => apL [0, 3, 8, 12, 13] (J47_4 call n m)) (by kernel_rfl) (fun _ I4 => (L47_19 call n I4)))) (by kernel_rfl) (by kernel_rfl)
noncomputable def c47_22 : VCode := .seq (.region false (A47 [1, 0])) (.seq c47_20 c47_0)
noncomputable def J47_23 (call : VCaller) (n : Nat) (t0 t3 : VVal) (h : VHeap) : VAns :=
  (J47_21 call n t0 t3 (.func 48 [] [t3]) h)
theorem L47_23 (call : VCaller) (n : Nat) : Sim 50 (runK call n c47_22 (fin rs47)) (apL [0, 3] (J47_23 call n)) := Sim.reg (Sim.seq (L47_21 call n)) (by kernel_rfl) (by kernel_rfl)
noncomputable def c47_24 : VCode := .seq (.region false (A47 [0])) c47_22
noncomputable def J47_25 (call : VCaller) (n : Nat) (t0 t1 : VVal) (h : VHeap) : VAns :=
  fr (VOp.fresh [] (.box 3 (.const t1))) h fun t3 h0 =>
  (J47_23 call n t0 t3 h0)
theorem L47_25 (call : VCaller) (n : Nat) : Sim 50 (runK call n c47_24 (fin rs47)) (apL [0, 1] (J47_25 call n)) := Sim.reg (L47_23 call n) (by kernel_rfl) (by kernel_rfl)
noncomputable def vf47 : VFunc := ⟨50, rs47, c47_24⟩
noncomputable def S47 (call : VCaller) (n : Nat) : VRun := fun args h => match args with
  | [a0, a1] => (J47_25 call n a0 a1 h)
  | args => runK call n vf47.body (fin vf47.results) (args ++ List.replicate (vf47.ntmps - args.length) .undef) h
theorem S47_ok : FastFn.ok ⟨47, vf47, S47⟩ := by
  intro call n args h
  show _ = S47 call n args h
  unfold S47
  split
  · exact (((L47_25 call n) : Sim 50 (runK call n vf47.body (fin vf47.results)) _) _ _ rfl).trans (by kernel_rfl)
  · rfl
theorem vf47_ok : FastFn.inP Try.prog ⟨47, vf47, S47⟩ := by
  show funcV Try.prog 47 = some vf47
  kernel_rfl
/- (*ferrule/heap.Heap).find$1 -/
noncomputable def A48 := opsAt Try.prog 48
noncomputable def rs48 : List VResult := [.tmp 3]
theorem R48 : Sim 21 (fin rs48 .ret) (fun σ h => (finV [rT (σ 3)] h)) := Sim.of (by kernel_rfl)
noncomputable def c48_0 : VCode := .seq (.region false (A48 [1, 0])) .ret
noncomputable def J48_1 (call : VCaller) (n : Nat) (t1 t2 : VVal) (h : VHeap) : VAns :=
  rd (VHeap.load1 h t1) fun t4 =>
  rd (faddr 2 t2) fun t5 =>
  rd (VHeap.load1 h t5) fun t6 =>
  rd (geI t4 t6) fun t7 =>
  gd true t7 (VHeap.load1 h t1) fun t9 =>
  gd true t7 (faddr 2 t2) fun t10 =>
  gd true t7 (VHeap.load1 h t10) fun t11 =>
  gd true t7 (faddr 0 t2) fun t12 =>
  gd true t7 (VHeap.load1 h t12) fun t13 =>
  gd true t7 (binV .mul (.flat .int) (I 4) t13) fun t14 =>
  gd true t7 (faddr 1 t2) fun t15 =>
  gd true t7 (VHeap.load1 h t15) fun t16 =>
  gd true t7 (binV .mul (.flat .int) t14 t16) fun t17 =>
  gd true t7 (addI t11 t17) fun t18 =>
  gd true t7 (ltI t9 t18) fun t19 =>
  rd (pickF t7 t19 (.bool false)) fun t20 =>
  (finV [rT t20] h)
theorem L48_1 (call : VCaller) (n : Nat) : Sim 21 (runK call n c48_0 (fin rs48)) (apL [1, 2] (J48_1 call n)) := Sim.reg (Sim.ret R48) (by kernel_rfl) (by kernel_rfl)
noncomputable def c48_2 : VCode := .seq (.region false (A48 [0])) c48_0
noncomputable def J48_3 (call : VCaller) (n : Nat) (t0 t1 : VVal) (h : VHeap) : VAns :=
  fr (VOp.fresh [] (.box 74 (.const t0))) h fun t2 h0 =>
  (J48_1 call n t1 t2 h0)
theorem L48_3 (call : VCaller) (n : Nat) : Sim 21 (runK call n c48_2 (fin rs48)) (apL [0, 1] (J48_3 call n)) := Sim.reg (L48_1 call n) (by kernel_rfl) (by kernel_rfl)
noncomputable def vf48 : VFunc := ⟨21, rs48, c48_2⟩
noncomputable def S48 (call : VCaller) (n : Nat) : VRun := fun args h => match args with
  | [a0] => (J48_3 call n a0 .undef h)
  | args => runK call n vf48.body (fin vf48.results) (args ++ List.replicate (vf48.ntmps - args.length) .undef) h
theorem S48_ok : FastFn.ok ⟨48, vf48, S48⟩ := by
  intro call n args h
  show _ = S48 call n args h
  unfold S48
  split
  · exact (((L48_3 call n) : Sim 21 (runK call n vf48.body (fin vf48.results)) _) _ _ rfl).trans (by kernel_rfl)
  · rfl
theorem vf48_ok : FastFn.inP Try.prog ⟨48, vf48, S48⟩ := by
  show funcV Try.prog 48 = some vf48
  kernel_rfl
/- (*ferrule/heap.Heap).Alloc -/
noncomputable def A38 := opsAt Try.prog 38
noncomputable def rs38 : List VResult := [.tmp 4, .tmp 5]
theorem R38 : Sim 55 (fin rs38 .ret) (fun σ h => (finV [rT (σ 4), rT (σ 5)] h)) := Sim.of (by kernel_rfl)
noncomputable def c38_0 : VCode := .seq (.region false (A38 [1, 1, 1, 1, 1, 0])) .ret
noncomputable def J38_1 (call : VCaller) (n : Nat) (h : VHeap) : VAns :=
  (finV [rT (I 0), rT (I 12)] h)
theorem L38_1 (call : VCaller) (n : Nat) : Sim 55 (runK call n c38_0 (fin rs38)) (apL [] (J38_1 call n)) := Sim.reg (Sim.ret R38) (by kernel_rfl) (by kernel_rfl)
noncomputable def D38_2 (call : VCaller) (n : Nat) : Kont := kn (runK call n c38_0 (fin rs38)) (fin rs38)
noncomputable def D38_3 (call : VCaller) (n : Nat) : Kont := kb 0 (D38_2 call n)
noncomputable def D38_4 (call : VCaller) (n : Nat) (K4 : VRun) : Kont := kn K4 (D38_3 call n)
noncomputable def c38_5 : VCode := .region false (A38 [1, 1, 1, 1, 0, 1, 0, 0, 1, 1, 1])
noncomputable def J38_6 (call : VCaller) (n : Nat) (ih4 : VVal → VVal → VVal → VVal → VVal → VHeap → VAns) (t0 t6 t7 t23 t24 : VVal) (h : VHeap) : VAns :=
  rd (addI t24 (I 1)) fun t54 =>
  (ih4 t0 t6 t7 t23 t54 h)
theorem L38_6 (call : VCaller) (n : Nat) {K4 : VRun} {ih4 : VVal → VVal → VVal → VVal → VVal → VHeap → VAns} (I4 : Sim 55 K4 (apL [0, 6, 7, 23, 24] ih4)) : Sim 55 (runK call n c38_5 (D38_4 call n K4)) (apL [0, 6, 7, 23, 24] (J38_6 call n ih4)) := Sim.regE I4 (by kernel_rfl) (by kernel_rfl)
noncomputable def D38_7 (call : VCaller) (n : Nat) (K4 : VRun) : Kont := kn (runK call n c38_5 (D38_4 call n K4)) (D38_4 call n K4)
noncomputable def D38_8 (call : VCaller) (n : Nat) (K4 : VRun) : Kont := kb 1 (D38_7 call n K4)
noncomputable def c38_9 : VCode := .seq (.region false (A38 [1, 1, 1, 1, 0, 1, 0, 0, 1, 1, 0, 0, 1, 1, 0, 1, 0])) .ret
noncomputable def J38_10 (call : VCaller) (n : Nat) (ih4 : VVal → VVal → VVal → VVal → VVal → VHeap → VAns) (t6 t7 t10 : VVal) (h : VHeap) : VAns :=
  bc (call 20 [] h) thr fun t45 h0 =>
  rd (VOp.read [] h0 (.indexArr 4 true 3 (.const t45) (.const t6))) fun t47 =>
  rd (fieldF false 1 2 t47) fun t48 =>
  rd (binV .mul (.flat .int) (I 4) t7) fun t50 =>
  rd (binV .mul (.flat .int) t50 t10) fun t52 =>
  rd (addI t48 t52) fun t53 =>
  (finV [rT t53, rT (I 0)] h0)
theorem L38_10 (call : VCaller) (n : Nat) {K4 : VRun} {ih4 : VVal → VVal → VVal → VVal → VVal → VHeap → VAns} (I4 : Sim 55 K4 (apL [0, 6, 7, 23, 24] ih4)) : Sim 55 (runK call n c38_9 (D38_8 call n K4)) (apL [6, 7, 10] (J38_10 call n ih4)) := Sim.reg (Sim.ret R38) (by kernel_rfl) (by kernel_rfl)
noncomputable def c38_11 : VCode := .seq (.region false (A38 [1, 1, 1, 1, 0, 1, 0, 0, 1, 1, 0, 0, 1, 1, 0, 0])) c38_9
noncomputable def J38_12 (call : VCaller) (n : Nat) (ih4 : VVal → VVal → VVal → VVal → VVal → VHeap → VAns) (t0 t6 t7 t10 : VVal) (h : VHeap) : VAns :=
  rd (nilF t0) fun t39 =>
  rd (faddr 1 t39) fun t40 =>
  rd (VOp.read [] h (.indexAddr (some 4) 1 (.const t40) (.const t6))) fun t41 =>
  rd (VHeap.load1 h t41) fun t42 =>
  rd (idxS 1 t42 t10) fun t44 =>
  bd (VOp.write [] h (.store 1 (.const t44) (.const (.bool true)))) fun _ h8 =>
  (J38_10 call n ih4 t6 t7 t10 h8)
theorem L38_12 (call : VCaller) (n : Nat) {K4 : VRun} {ih4 : VVal → VVal → VVal → VVal → VVal → VHeap → VAns} (I4 : Sim 55 K4 (apL [0, 6, 7, 23, 24] ih4)) : Sim 55 (runK call n c38_11 (D38_8 call n K4)) (apL [0, 6, 7, 10] (J38_12 call n ih4)) := Sim.reg (L38_10 call n I4) (by kernel_rfl) (by kernel_rfl)
noncomputable def c38_13 : VCode := .seq (.region false (A38 [1, 1, 1, 1, 0, 1, 0, 0, 1, 1, 0, 0, 1, 0])) (.cond (.tmp 36) c38_11 .skip)
noncomputable def J38_14 (call : VCaller) (n : Nat) (ih4 : VVal → VVal → VVal → VVal → VVal → VHeap → VAns) (t0 t6 t7 t10 t23 t24 : VVal) (h : VHeap) : VAns :=
  rd (nilF t0) fun t29 =>
  rd (faddr 1 t29) fun t30 =>
  rd (VOp.read [] h (.indexAddr (some 4) 1 (.const t30) (.const t6))) fun t31 =>
  rd (VHeap.load1 h t31) fun t32 =>
  rd (idxS 1 t32 t10) fun t34 =>
  rd (VHeap.load1 h t34) fun t35 =>
  rd (unV .not t35) fun t36 =>
  (cnd t36 (J38_12 call n ih4 t0 t6 t7 t10 h) (J38_6 call n ih4 t0 t6 t7 t23 t24 h))
theorem L38_14 (call : VCaller) (n : Nat) {K4 : VRun} {ih4 : VVal → VVal → VVal → VVal → VVal → VHeap → VAns} (I4 : Sim 55 K4 (apL [0, 6, 7, 23, 24] ih4)) : Sim 55 (runK call n c38_13 (D38_8 call n K4)) (apL [0, 6, 7, 10, 23, 24] (J38_14 call n ih4)) := Sim.reg (Sim.cond (L38_12 call n I4) (Sim.skip (L38_6 call n I4))) (by kernel_rfl) (by kernel_rfl)
noncomputable def c38_15 : VCode := .seq (.region false (A38 [1, 1, 1, 1, 0, 1, 0, 0, 1, 1, 0, 0, 0])) c38_13
noncomputable def J38_16 (call : VCaller) (n : Nat) (ih4 : VVal → VVal → VVal → VVal → VVal → VHeap → VAns) (t0 t6 t7 t23 t24 : VVal) (h : VHeap) : VAns :=
  (J38_14 call n ih4 t0 t6 t7 t24 t23 t24 h)
theorem L38_16 (call : VCaller) (n : Nat) {K4 : VRun} {ih4 : VVal → VVal → VVal → VVal → VVal → VHeap → VAns} (I4 : Sim 55 K4 (apL [0, 6, 7, 23, 24] ih4)) : Sim 55 (runK call n c38_15 (D38_8 call n K4)) (apL [0, 6, 7, 23, 24] (J38_16 call n ih4)) := Sim.reg (L38_14 call n I4) (by kernel_rfl) (by kernel_rfl)
noncomputable def D38_17 (call : VCaller) (n : Nat) (K4 : VRun) : Kont := kn (runK call n (.seq (.block 1 c38_15) c38_5) (D38_4 call n K4)) (D38_4 call n K4)
noncomputable def c38_18 : VCode := .seq (.region false (A38 [1, 1, 1, 1, 0, 1, 0, 0, 0])) (.seq (.cond (.tmp 25) .skip (.exit 0)) (.seq (.block 1 c38_15) c38_5))
noncomputable def J38_19 (call : VCaller) (n : Nat) (ih4 : VVal → VVal → VVal → VVal → VVal → VHeap → VAns) (t0 t6 t7 t23 t24 : VVal) (h : VHeap) : VAns :=
  rd (ltI t24 t23) fun t25 =>
  (cnd t25 (J38_16 call n ih4 t0 t6 t7 t23 t24 h) (J38_1 call n h))
theorem L38_19 (call : VCaller) (n : Nat) {K4 : VRun} {ih4 : VVal → VVal → VVal → VVal → VVal → VHeap → VAns} (I4 : Sim 55 K4 (apL [0, 6, 7, 23, 24] ih4)) : Sim 55 (runK call n c38_18 (D38_4 call n K4)) (apL [0, 6, 7, 23, 24] (J38_19 call n ih4)) := Sim.reg (Sim.seq (Sim.cond (Sim.skip (Sim.seq (Sim.block (L38_16 call n I4)))) (Sim.exit (L38_1 call n)))) (by kernel_rfl) (by kernel_rfl)
noncomputable def J38_4 (call : VCaller) (n : Nat) (m : Nat) : VVal → VVal → VVal → VVal → VVal → VHeap → VAns :=
  Nat.rec (motive := fun _ => VVal → VVal → VVal → VVal → VVal → VHeap → VAns) (fun _ _ _ _ _ _ => none) (fun _ ih4 => fun t0 t6 t7 t23 t24 h => (J38_19 call n ih4 t0 t6 t7 t23 t24 h)) m
noncomputable def c38_20 : VCode := .seq (.region false (A38 [1, 1, 1, 1, 0, 0])) (.block 0 (.loop c38_18))
noncomputable def J38_21 (call : VCaller) (n : Nat) (t0 t6 t7 t8 : VVal) (h : VHeap) : VAns :=
  (J38_4 call n n t0 t6 t7 t8 (I 0) h)
theorem L38_21 (call : VCaller) (n : Nat) : Sim 55 (runK call n c38_20 (D38_2 call n)) (apL [0, 6, 7, 8] (J38_21 call n)) := Sim.reg (Sim.block (Sim.loop (J := fun m => apL [0, 6, 7, 23, 24] (J38_4 call n m)) (by kernel_rfl) (fun _ I4 => (L38_19 call n I4)))) (by kernel_rfl) (by kernel_rfl)
noncomputable def D38_22 (call : VCaller) (n : Nat) : Kont := kn (runK call n (.seq c38_20 c38_0) (fin rs38)) (fin rs38)
noncomputable def c38_23 : VCode := .seq (.region false (A38 [1, 1, 1, 0, 1, 0, 0])) .ret
noncomputable def J38_24 (call : VCaller) (n : Nat) (t9 : VVal) (h : VHeap) : VAns :=
  (finV [rT (I 0), rT t9] h)
theorem L38_24 (call : VCaller) (n : Nat) : Sim 55 (runK call n c38_23 (D38_22 call n)) (apL [9] (J38_24 call n)) := Sim.reg (Sim.ret R38) (by kernel_rfl) (by kernel_rfl)
noncomputable def c38_25 : VCode := .seq (.region false (A38 [1, 1, 1, 0, 0])) (.cond (.tmp 21) c38_23 .skip)
noncomputable def J38_26 (call : VCaller) (n : Nat) (t0 t6 t7 t8 t9 : VVal) (h : VHeap) : VAns :=
  rd (neI t9 (I 0)) fun t21 =>
  (cnd t21 (J38_24 call n t9 h) (J38_21 call n t0 t6 t7 t8 h))
theorem L38_26 (call : VCaller) (n : Nat) : Sim 55 (runK call n c38_25 (D38_22 call n)) (apL [0, 6, 7, 8, 9] (J38_26 call n)) := Sim.reg (Sim.cond (L38_24 call n) (Sim.skip (Sim.seq (L38_21 call n)))) (by kernel_rfl) (by kernel_rfl)
noncomputable def c38_27 : VCode := .seq (.region false (A38 [1, 1, 0])) (.seq c38_25 (.seq c38_20 c38_0))
noncomputable def J38_28 (call : VCaller) (n : Nat) (t0 t1 : VVal) (h : VHeap) : VAns :=
  bc (call 44 [t1] h) thr fun t15 h1 =>
  rd (extF t15 0) fun t16 =>
  rd (extF t15 1) fun t17 =>
  rd (extF t15 2) fun t18 =>
  rd (extF t15 3) fun t19 =>
  (J38_26 call n t0 t16 t17 t18 t19 h1)
theorem L38_28 (call : VCaller) (n : Nat) : Sim 55 (runK call n c38_27 (fin rs38)) (apL [0, 1] (J38_28 call n)) := Sim.reg (Sim.seq (L38_26 call n)) (by kernel_rfl) (by kernel_rfl)
noncomputable def D38_29 (call : VCaller) (n : Nat) : Kont := kn (runK call n c38_27 (fin rs38)) (fin rs38)
noncomputable def c38_30 : VCode := .seq (.region false (A38 [1, 0, 1, 0, 0])) .ret
noncomputable def J38_31 (call : VCaller) (n : Nat) (h : VHeap) : VAns :=
  (finV [rT (I 0), rT (I 1)] h)
theorem L38_31 (call : VCaller) (n : Nat) : Sim 55 (runK call n c38_30 (D38_29 call n)) (apL [] (J38_31 call n)) := Sim.reg (Sim.ret R38) (by kernel_rfl) (by kernel_rfl)
noncomputable def c38_32 : VCode := .seq (.region false (A38 [1, 0, 0])) (.cond (.tmp 12) c38_30 .skip)
noncomputable def J38_33 (call : VCaller) (n : Nat) (t0 t1 : VVal) (h : VHeap) : VAns :=
  bc (call 43 [t0] h) thr fun t12 h1 =>
  (cnd t12 (J38_31 call n h1) (J38_28 call n t0 t1 h1))
theorem L38_33 (call : VCaller) (n : Nat) : Sim 55 (runK call n c38_32 (D38_29 call n)) (apL [0, 1] (J38_33 call n)) := Sim.reg (Sim.cond (L38_31 call n) (Sim.skip (L38_28 call n))) (by kernel_rfl) (by kernel_rfl)
noncomputable def c38_34 : VCode := .seq (.region false (A38 [0])) (.seq c38_32 c38_27)
noncomputable def J38_35 (call : VCaller) (n : Nat) (t0 t1 : VVal) (h : VHeap) : VAns :=
  (J38_33 call n t0 t1 h)
theorem L38_35 (call : VCaller) (n : Nat) : Sim 55 (runK call n c38_34 (fin rs38)) (apL [0, 1] (J38_35 call n)) := Sim.reg (Sim.seq (L38_33 call n)) (by kernel_rfl) (by kernel_rfl)
noncomputable def vf38 : VFunc := ⟨55, rs38, c38_34⟩
noncomputable def S38 (call : VCaller) (n : Nat) : VRun := fun args h => match args with
  | [a0, a1] => (J38_35 call n a0 a1 h)
  | args => runK call n vf38.body (fin vf38.results) (args ++ List.replicate (vf38.ntmps - args.length) .undef) h
theorem S38_ok : FastFn.ok ⟨38, vf38, S38⟩ := by
  intro call n args h
  show _ = S38 call n args h
  unfold S38
  split
  · exact (((L38_35 call n) : Sim 55 (runK call n vf38.body (fin vf38.results)) _) _ _ rfl).trans (by kernel_rfl)
  · rfl
theorem vf38_ok : FastFn.inP Try.prog ⟨38, vf38, S38⟩ := by
  show funcV Try.prog 38 = some vf38
  kernel_rfl
/- ferrule/heap.Class -/
noncomputable def A44 := opsAt Try.prog 44
noncomputable def rs44 : List VResult := [.tmp 2, .tmp 3, .tmp 4, .tmp 5]
theorem R44 : Sim 27 (fin rs44 .ret) (fun σ h => (finV [rT (σ 2), rT (σ 3), rT (σ 4), rT (σ 5)] h)) := Sim.of (by kernel_rfl)
noncomputable def c44_0 : VCode := .seq (.region false (A44 [1, 1, 0])) .ret
noncomputable def J44_1 (call : VCaller) (n : Nat) (h : VHeap) : VAns :=
  (finV [rT (I 0), rT (I 0), rT (I 0), rT (I 2)] h)
theorem L44_1 (call : VCaller) (n : Nat) : Sim 27 (runK call n c44_0 (fin rs44)) (apL [] (J44_1 call n)) := Sim.reg (Sim.ret R44) (by kernel_rfl) (by kernel_rfl)
noncomputable def D44_2 (call : VCaller) (n : Nat) : Kont := kn (runK call n c44_0 (fin rs44)) (fin rs44)
noncomputable def D44_3 (call : VCaller) (n : Nat) : Kont := kb 0 (D44_2 call n)
noncomputable def D44_4 (call : VCaller) (n : Nat) (K4 : VRun) : Kont := kn K4 (D44_3 call n)
noncomputable def c44_5 : VCode := .region false (A44 [1, 0, 1, 0, 0, 1, 1, 1])
noncomputable def J44_6 (call : VCaller) (n : Nat) (ih4 : VVal → VVal → VVal → VHeap → VAns) (t0 t8 t9 : VVal) (h : VHeap) : VAns :=
  rd (addI t9 (I 1)) fun t26 =>
  (ih4 t0 t8 t26 h)
theorem L44_6 (call : VCaller) (n : Nat) {K4 : VRun} {ih4 : VVal → VVal → VVal → VHeap → VAns} (I4 : Sim 27 K4 (apL [0, 8, 9] ih4)) : Sim 27 (runK call n c44_5 (D44_4 call n K4)) (apL [0, 8, 9] (J44_6 call n ih4)) := Sim.regE I4 (by kernel_rfl) (by kernel_rfl)
noncomputable def D44_7 (call : VCaller) (n : Nat) (K4 : VRun) : Kont := kn (runK call n c44_5 (D44_4 call n K4)) (D44_4 call n K4)
noncomputable def D44_8 (call : VCaller) (n : Nat) (K4 : VRun) : Kont := kb 1 (D44_7 call n K4)
noncomputable def c44_9 : VCode := .seq (.region true (A44 [1, 0, 1, 0, 0, 1, 1, 0, 0, 1, 1, 0, 0])) .ret
noncomputable def J44_10 (call : VCaller) (n : Nat) (ih4 : VVal → VVal → VVal → VHeap → VAns) (t6 t7 : VVal) (h : VHeap) : VAns :=
  rd (faddr 0 t7) fun v1 =>
  rd (VHeap.load1 h v1) fun v2 =>
  rd (faddr 1 t7) fun v3 =>
  rd (VHeap.load1 h v3) fun v4 =>
  (finV [rT t6, rT v2, rT v4, rT (I 0)] h)
theorem L44_10 (call : VCaller) (n : Nat) {K4 : VRun} {ih4 : VVal → VVal → VVal → VHeap → VAns} (I4 : Sim 27 K4 (apL [0, 8, 9] ih4)) : Sim 27 (runK call n c44_9 (D44_8 call n K4)) (apL [6, 7] (J44_10 call n ih4)) := Sim.drw (Sim.ret R44) (by kernel_rfl) (by kernel_rfl)
noncomputable def c44_11 : VCode := .seq (.region false (A44 [1, 0, 1, 0, 0, 1, 1, 0, 0, 1, 0])) (.cond (.tmp 20) c44_9 .skip)
noncomputable def J44_12 (call : VCaller) (n : Nat) (ih4 : VVal → VVal → VVal → VHeap → VAns) (t0 t6 t7 t8 t9 : VVal) (h : VHeap) : VAns :=
  rd (geI t0 (I 0)) fun t14 =>
  gd true t14 (some t0) fun t16 =>
  gd true t14 (faddr 0 t7) fun t17 =>
  gd true t14 (VHeap.load1 h t17) fun t18 =>
  gd true t14 (leI t16 t18) fun t19 =>
  rd (pickF t14 t19 (.bool false)) fun t20 =>
  (cnd t20 (J44_10 call n ih4 t6 t7 h) (J44_6 call n ih4 t0 t8 t9 h))
theorem L44_12 (call : VCaller) (n : Nat) {K4 : VRun} {ih4 : VVal → VVal → VVal → VHeap → VAns} (I4 : Sim 27 K4 (apL [0, 8, 9] ih4)) : Sim 27 (runK call n c44_11 (D44_8 call n K4)) (apL [0, 6, 7, 8, 9] (J44_12 call n ih4)) := Sim.reg (Sim.cond (L44_10 call n I4) (Sim.skip (L44_6 call n I4))) (by kernel_rfl) (by kernel_rfl)
noncomputable def c44_13 : VCode := .seq (.region false (A44 [1, 0, 1, 0, 0, 1, 1, 0, 0, 0])) c44_11
noncomputable def J44_14 (call : VCaller) (n : Nat) (ih4 : VVal → VVal → VVal → VHeap → VAns) (t0 t8 t9 : VVal) (h : VHeap) : VAns :=
  rd (VOp.read [] h (.indexArr 4 true 3 (.const t8) (.const t9))) fun t12 =>
  fr (VOp.fresh [] (.box 74 (.const (.agg [(I 0), (I 0), (I 0)])))) h fun t7 h2 =>
  bd (VOp.write [] h2 (.store 3 (.const t7) (.const t12))) fun _ h4 =>
  (J44_12 call n ih4 t0 t9 t7 t8 t9 h4)
theorem L44_14 (call : VCaller) (n : Nat) {K4 : VRun} {ih4 : VVal → VVal → VVal → VHeap → VAns} (I4 : Sim 27 K4 (apL [0, 8, 9] ih4)) : Sim 27 (runK call n c44_13 (D44_8 call n K4)) (apL [0, 8, 9] (J44_14 call n ih4)) := Sim.reg (L44_12 call n I4) (by kernel_rfl) (by kernel_rfl)
noncomputable def D44_15 (call : VCaller) (n : Nat) (K4 : VRun) : Kont := kn (runK call n (.seq (.block 1 c44_13) c44_5) (D44_4 call n K4)) (D44_4 call n K4)
noncomputable def c44_16 : VCode := .seq (.region false (A44 [1, 0, 1, 0, 0, 0])) (.seq (.cond (.tmp 10) .skip (.exit 0)) (.seq (.block 1 c44_13) c44_5))
noncomputable def J44_17 (call : VCaller) (n : Nat) (ih4 : VVal → VVal → VVal → VHeap → VAns) (t0 t8 t9 : VVal) (h : VHeap) : VAns :=
  rd (ltI t9 (I 4)) fun t10 =>
  (cnd t10 (J44_14 call n ih4 t0 t8 t9 h) (J44_1 call n h))
theorem L44_17 (call : VCaller) (n : Nat) {K4 : VRun} {ih4 : VVal → VVal → VVal → VHeap → VAns} (I4 : Sim 27 K4 (apL [0, 8, 9] ih4)) : Sim 27 (runK call n c44_16 (D44_4 call n K4)) (apL [0, 8, 9] (J44_17 call n ih4)) := Sim.reg (Sim.seq (Sim.cond (Sim.skip (Sim.seq (Sim.block (L44_14 call n I4)))) (Sim.exit (L44_1 call n)))) (by kernel_rfl) (by kernel_rfl)
noncomputable def J44_4 (call : VCaller) (n : Nat) (m : Nat) : VVal → VVal → VVal → VHeap → VAns :=
  Nat.rec (motive := fun _ => VVal → VVal → VVal → VHeap → VAns) (fun _ _ _ _ => none) (fun _ ih4 => fun t0 t8 t9 h => (J44_17 call n ih4 t0 t8 t9 h)) m
noncomputable def c44_18 : VCode := .seq (.region false (A44 [1, 0, 0])) (.block 0 (.loop c44_16))
noncomputable def J44_19 (call : VCaller) (n : Nat) (t0 : VVal) (h : VHeap) : VAns :=
  bc (call 20 [] h) thr fun t8 h0 =>
  (J44_4 call n n t0 t8 (I 0) h0)
theorem L44_19 (call : VCaller) (n : Nat) : Sim 27 (runK call n c44_18 (D44_2 call n)) (apL [0] (J44_19 call n)) := Sim.reg (Sim.block (Sim.loop (J := fun m => apL [0, 8, 9] (J44_4 call n m)) (by kernel_rfl) (fun _ I4 => (L44_17 call n I4)))) (by kernel_rfl) (by kernel_rfl)
noncomputable def c44_20 : VCode := .seq (.region false (A44 [0])) (.seq c44_18 c44_0)
noncomputable def J44_21 (call : VCaller) (n : Nat) (t0 : VVal) (h : VHeap) : VAns :=
  (J44_19 call n t0 h)
theorem L44_21 (call : VCaller) (n : Nat) : Sim 27 (runK call n c44_20 (fin rs44)) (apL [0] (J44_21 call n)) := Sim.reg (Sim.seq (L44_19 call n)) (by kernel_rfl) (by kernel_rfl)
noncomputable def vf44 : VFunc := ⟨27, rs44, c44_20⟩
noncomputable def S44 (call : VCaller) (n : Nat) : VRun := fun args h => match args with
  | [a0] => (J44_21 call n a0 h)
  | args => runK call n vf44.body (fin vf44.results) (args ++ List.replicate (vf44.ntmps - args.length) .undef) h
theorem S44_ok : FastFn.ok ⟨44, vf44, S44⟩ := by
  intro call n args h
  show _ = S44 call n args h
  unfold S44
  split
  · exact (((L44_21 call n) : Sim 27 (runK call n vf44.body (fin vf44.results)) _) _ _ rfl).trans (by kernel_rfl)
  · rfl
theorem vf44_ok : FastFn.inP Try.prog ⟨44, vf44, S44⟩ := by
  show funcV Try.prog 44 = some vf44
  kernel_rfl
/- (*ferrule/low.machine).other -/
noncomputable def A39 := opsAt Try.prog 39
noncomputable def rs39 : List VResult := []
theorem R39 : Sim 120 (fin rs39 .ret) (fun σ h => (finV [] h)) := Sim.of (by kernel_rfl)
noncomputable def D39_0 (call : VCaller) (n : Nat) : Kont := kb 0 (fin rs39)
noncomputable def c39_1 : VCode := .region true (A39 [1, 0, 1, 0])
noncomputable def J39_2 (call : VCaller) (n : Nat) (t0 t1 : VVal) (h : VHeap) : VAns :=
  rd (nilF t1) fun v3 =>
  rd (faddr 2 v3) fun v4 =>
  rd (VHeap.load1 h v4) fun v5 =>
  bc (call 29 [t0, v5] h) thn fun v6 h6 =>
  rd (nilF t1) fun v8 =>
  rd (faddr 4 v8) fun v9 =>
  rd (VHeap.load1 h6 v9) fun v10 =>
  rd (addI v6 v10) fun v11 =>
  rd (convF .i32 v11) fun v12 =>
  rd (convF .i64 v12) fun v13 =>
  bc (call 37 [t0, v13] h6) thn fun v14 h14 =>
  rd (nilF t1) fun v17 =>
  rd (faddr 3 v17) fun v18 =>
  rd (VHeap.load1 h14 v18) fun v19 =>
  bc (call 29 [t0, v19] h14) thn fun v20 h20 =>
  rd (nilF v14) fun v21 =>
  bd (VOp.write [] h20 (.store 1 (.const v21) (.const v20))) fun v22 h22 =>
  ck ((((readsSame (.load false 1 (.const v9)) [] h v10) && true) && (((readsSame (.load false 1 (.const v18)) [] h v19) && ((readsSame (.load false 1 (.const v18)) [] h6 v19) && true)) && true))) ((finV [] h22))
theorem L39_2 (call : VCaller) (n : Nat) : Sim 120 (runK call n c39_1 (D39_0 call n)) (apL [0, 1] (J39_2 call n)) := Sim.drwE R39 (by kernel_rfl) (by kernel_rfl)
noncomputable def c39_3 : VCode := .region false (A39 [1, 0, 1, 1, 1, 0, 1, 1])
noncomputable def J39_4 (call : VCaller) (n : Nat) (t0 t4 : VVal) (h : VHeap) : VAns :=
  rd (nilF t0) fun t53 =>
  rd (faddr 6 t53) fun t54 =>
  rd (VHeap.load1 h t54) fun t55 =>
  fr (VOp.fresh [] (.buildSlice 3 1 1 [(I 0)] [(0, 1, (.const t4))])) h fun t57 h6 =>
  bd (VOp.write [] h6 (.append 3 1 8 none (.const t55) (.const t57))) fun t58 h7 =>
  rd (nilF t0) fun t59 =>
  rd (faddr 6 t59) fun t60 =>
  bd (VOp.write [] h7 (.store 1 (.const t60) (.const t58))) fun _ h10 =>
  (finV [] h10)
theorem L39_4 (call : VCaller) (n : Nat) : Sim 120 (runK call n c39_3 (D39_0 call n)) (apL [0, 4] (J39_4 call n)) := Sim.regE R39 (by kernel_rfl) (by kernel_rfl)
noncomputable def D39_5 (call : VCaller) (n : Nat) : Kont := kn (runK call n c39_3 (D39_0 call n)) (D39_0 call n)
noncomputable def c39_6 : VCode := .region false (A39 [1, 0, 1, 1, 1, 0, 1, 0, 1, 0])
noncomputable def J39_7 (call : VCaller) (n : Nat) (t0 t4 : VVal) (h : VHeap) : VAns :=
  rd (convF .u32 t4) fun t49 =>
  rd (convF .i64 t49) fun t50 =>
  (J39_4 call n t0 t50 h)
theorem L39_7 (call : VCaller) (n : Nat) : Sim 120 (runK call n c39_6 (D39_5 call n)) (apL [0, 4] (J39_7 call n)) := Sim.regE (L39_4 call n) (by kernel_rfl) (by kernel_rfl)
noncomputable def c39_8 : VCode := .seq (.region false (A39 [1, 0, 1, 1, 1, 0, 1, 0, 0])) (.cond (.tmp 47) c39_6 .skip)
noncomputable def J39_9 (call : VCaller) (n : Nat) (t0 t1 t4 : VVal) (h : VHeap) : VAns :=
  rd (nilF t1) fun t44 =>
  rd (faddr 4 t44) fun t45 =>
  rd (VHeap.load1 h t45) fun t46 =>
  rd (eqI t46 (I 1)) fun t47 =>
  (cnd t47 (J39_7 call n t0 t4 h) (J39_4 call n t0 t4 h))
theorem L39_9 (call : VCaller) (n : Nat) : Sim 120 (runK call n c39_8 (D39_5 call n)) (apL [0, 1, 4] (J39_9 call n)) := Sim.reg (Sim.cond (L39_7 call n) (Sim.skip (L39_4 call n))) (by kernel_rfl) (by kernel_rfl)
noncomputable def c39_10 : VCode := .seq (.region false (A39 [1, 0, 1, 1, 1, 0, 0])) (.seq c39_8 c39_3)
noncomputable def J39_11 (call : VCaller) (n : Nat) (t0 t1 : VVal) (h : VHeap) : VAns :=
  rd (nilF t1) fun t39 =>
  rd (faddr 2 t39) fun t40 =>
  rd (VHeap.load1 h t40) fun t41 =>
  bc (call 29 [t0, t41] h) thr fun t42 h5 =>
  (J39_9 call n t0 t1 t42 h5)
theorem L39_11 (call : VCaller) (n : Nat) : Sim 120 (runK call n c39_10 (D39_0 call n)) (apL [0, 1] (J39_11 call n)) := Sim.reg (Sim.seq (L39_9 call n)) (by kernel_rfl) (by kernel_rfl)
noncomputable def c39_12 : VCode := .region false (A39 [1, 0, 1, 1, 1, 1, 1, 0, 1, 0])
noncomputable def J39_13 (call : VCaller) (n : Nat) (h : VHeap) : VAns :=
  bc (call 11 [(I 4), (I 0)] h) thr fun t75 h0 =>
  (finV [] h0)
theorem L39_13 (call : VCaller) (n : Nat) : Sim 120 (runK call n c39_12 (D39_0 call n)) (apL [] (J39_13 call n)) := Sim.regE R39 (by kernel_rfl) (by kernel_rfl)
noncomputable def c39_14 : VCode := .seq (.region true (A39 [1, 0, 1, 1, 1, 1, 1, 0, 0])) (.cond (.tmp 74) c39_12 .skip)
noncomputable def J39_15 (call : VCaller) (n : Nat) (t0 t1 : VVal) (h : VHeap) : VAns :=
  rd (nilF t0) fun v1 =>
  rd (faddr 8 v1) fun v2 =>
  rd (VHeap.load1 h v2) fun v3 =>
  rd (nilF t1) fun v6 =>
  rd (faddr 2 v6) fun v7 =>
  rd (VHeap.load1 h v7) fun v8 =>
  bc (call 29 [t0, v8] h) thn fun v9 h9 =>
  bc (call 45 [v3, v9] h9) thn fun v10 h10 =>
  rd (neI v10 (I 0)) fun v11 =>
  ck ((((readsSame (.load false 1 (.const v2)) [] h9 v3) && true) && true)) ((cnd v11 (J39_13 call n h10) (finV [] h10)))
theorem L39_15 (call : VCaller) (n : Nat) : Sim 120 (runK call n c39_14 (D39_0 call n)) (apL [0, 1] (J39_15 call n)) := Sim.drw (Sim.cond (L39_13 call n) (Sim.skip R39)) (by kernel_rfl) (by kernel_rfl)
noncomputable def D39_16 (call : VCaller) (n : Nat) : Kont := kb 1 (D39_0 call n)
noncomputable def D39_17 (call : VCaller) (n : Nat) (K17 : VRun) : Kont := kn K17 (D39_16 call n)
noncomputable def c39_18 : VCode := .region false (A39 [1, 0, 1, 1, 1, 1, 1, 1, 1, 0, 1, 0, 0, 1, 1, 1])
noncomputable def J39_19 (call : VCaller) (n : Nat) (ih17 : VVal → VVal → VVal → VVal → VVal → VHeap → VAns) (t0 t1 t99 t100 t101 : VVal) (h : VHeap) : VAns :=
  rd (addI t101 (I 1)) fun t119 =>
  (ih17 t0 t1 t99 t100 t119 h)
theorem L39_19 (call : VCaller) (n : Nat) {K17 : VRun} {ih17 : VVal → VVal → VVal → VVal → VVal → VHeap → VAns} (I17 : Sim 120 K17 (apL [0, 1, 99, 100, 101] ih17)) : Sim 120 (runK call n c39_18 (D39_17 call n K17)) (apL [0, 1, 99, 100, 101] (J39_19 call n ih17)) := Sim.regE I17 (by kernel_rfl) (by kernel_rfl)
noncomputable def D39_20 (call : VCaller) (n : Nat) (K17 : VRun) : Kont := kn (runK call n c39_18 (D39_17 call n K17)) (D39_17 call n K17)
noncomputable def D39_21 (call : VCaller) (n : Nat) (K17 : VRun) : Kont := kb 2 (D39_20 call n K17)
noncomputable def c39_22 : VCode := .region true (A39 [1, 0, 1, 1, 1, 1, 1, 1, 1, 0, 1, 0, 0, 1, 1, 0, 0, 1])
noncomputable def J39_23 (call : VCaller) (n : Nat) (ih17 : VVal → VVal → VVal → VVal → VVal → VHeap → VAns) (t0 t1 t5 t6 t99 t100 t101 : VVal) (h : VHeap) : VAns :=
  rd (nilF t0) fun v1 =>
  rd (faddr 12 v1) fun v2 =>
  rd (VHeap.load1 h v2) fun v3 =>
  rd (nilF t1) fun v5 =>
  rd (faddr 7 v5) fun v6 =>
  rd (VHeap.load1 h v6) fun v7 =>
  rd (idxS 1 v7 t5) fun v9 =>
  rd (VHeap.load1 h v9) fun v10 =>
  rd (idxS 1 v3 v10) fun v12 =>
  bd (VOp.write [] h (.store 1 (.const v12) (.const t6))) fun v13 h13 =>
  (J39_19 call n ih17 t0 t1 t99 t100 t101 h13)
theorem L39_23 (call : VCaller) (n : Nat) {K17 : VRun} {ih17 : VVal → VVal → VVal → VVal → VVal → VHeap → VAns} (I17 : Sim 120 K17 (apL [0, 1, 99, 100, 101] ih17)) : Sim 120 (runK call n c39_22 (D39_21 call n K17)) (apL [0, 1, 5, 6, 99, 100, 101] (J39_23 call n ih17)) := Sim.drwE (L39_19 call n I17) (by kernel_rfl) (by kernel_rfl)
noncomputable def c39_24 : VCode := .seq (.region false (A39 [1, 0, 1, 1, 1, 1, 1, 1, 1, 0, 1, 0, 0, 1, 1, 0, 0, 0])) c39_22
noncomputable def J39_25 (call : VCaller) (n : Nat) (ih17 : VVal → VVal → VVal → VVal → VVal → VHeap → VAns) (t0 t1 t99 t100 t101 : VVal) (h : VHeap) : VAns :=
  rd (idxS 1 t99 t101) fun t104 =>
  rd (VHeap.load1 h t104) fun t105 =>
  (J39_23 call n ih17 t0 t1 t101 t105 t99 t100 t101 h)
theorem L39_25 (call : VCaller) (n : Nat) {K17 : VRun} {ih17 : VVal → VVal → VVal → VVal → VVal → VHeap → VAns} (I17 : Sim 120 K17 (apL [0, 1, 99, 100, 101] ih17)) : Sim 120 (runK call n c39_24 (D39_21 call n K17)) (apL [0, 1, 99, 100, 101] (J39_25 call n ih17)) := Sim.reg (L39_23 call n I17) (by kernel_rfl) (by kernel_rfl)
noncomputable def D39_26 (call : VCaller) (n : Nat) (K17 : VRun) : Kont := kn (runK call n (.seq (.block 2 c39_24) c39_18) (D39_17 call n K17)) (D39_17 call n K17)
noncomputable def c39_27 : VCode := .seq (.region false (A39 [1, 0, 1, 1, 1, 1, 1, 1, 1, 0, 1, 0, 0, 0])) (.seq (.cond (.tmp 102) .skip (.exit 1)) (.seq (.block 2 c39_24) c39_18))
noncomputable def J39_28 (call : VCaller) (n : Nat) (ih17 : VVal → VVal → VVal → VVal → VVal → VHeap → VAns) (t0 t1 t99 t100 t101 : VVal) (h : VHeap) : VAns :=
  rd (ltI t101 t100) fun t102 =>
  (cnd t102 (J39_25 call n ih17 t0 t1 t99 t100 t101 h) (finV [] h))
theorem L39_28 (call : VCaller) (n : Nat) {K17 : VRun} {ih17 : VVal → VVal → VVal → VVal → VVal → VHeap → VAns} (I17 : Sim 120 K17 (apL [0, 1, 99, 100, 101] ih17)) : Sim 120 (runK call n c39_27 (D39_17 call n K17)) (apL [0, 1, 99, 100, 101] (J39_28 call n ih17)) := Sim.reg (Sim.seq (Sim.cond (Sim.skip (Sim.seq (Sim.block (L39_25 call n I17)))) (Sim.exit R39))) (by kernel_rfl) (by kernel_rfl)
noncomputable def J39_17 (call : VCaller) (n : Nat) (m : Nat) : VVal → VVal → VVal → VVal → VVal → VHeap → VAns :=
  Nat.rec (motive := fun _ => VVal → VVal → VVal → VVal → VVal → VHeap → VAns) (fun _ _ _ _ _ _ => none) (fun _ ih17 => fun t0 t1 t99 t100 t101 h => (J39_28 call n ih17 t0 t1 t99 t100 t101 h)) m
noncomputable def c39_29 : VCode := .seq (.region true (A39 [1, 0, 1, 1, 1, 1, 1, 1, 1, 0, 0])) (.block 1 (.loop c39_27))
noncomputable def J39_30 (call : VCaller) (n : Nat) (t0 t1 : VVal) (h : VHeap) : VAns :=
  rd (nilF t0) fun v2 =>
  rd (faddr 0 v2) fun v3 =>
  rd (VHeap.load1 h v3) fun v4 =>
  rd (nilF t0) fun v6 =>
  rd (faddr 2 v6) fun v7 =>
  rd (VHeap.load1 h v7) fun v8 =>
  rd (nilF t1) fun v10 =>
  rd (faddr 5 v10) fun v11 =>
  rd (VHeap.load1 h v11) fun v12 =>
  rd (VOp.read [] h (.lookup .str (I 0) (.const v8) (.const v12) false)) fun v13 =>
  rd (idxS 7 v4 v13) fun v14 =>
  rd (nilF t1) fun v17 =>
  rd (faddr 6 v17) fun v18 =>
  rd (VHeap.load1 h v18) fun v19 =>
  bc (call 28 [t0, v19] h) thn fun v20 h20 =>
  bc (call 12 [t0, v14, v20] h20) thn fun v21 h21 =>
  rd (lenF .slice v21 h21) fun v22 =>
  ck ((((readsSame (.load false 1 (.const v3)) [] h20 v4) && ((readsSame (.load false 1 (.const v7)) [] h20 v8) && ((readsSame (.load false 1 (.const v11)) [] h20 v12) && ((readsSame (.lookup .str (I 0) (.const v8) (.const v12) false) [] h20 v13) && true)))) && true)) ((J39_17 call n n t0 t1 v21 v22 (I 0) h21))
theorem L39_30 (call : VCaller) (n : Nat) : Sim 120 (runK call n c39_29 (D39_0 call n)) (apL [0, 1] (J39_30 call n)) := Sim.drw (Sim.block (Sim.loop (J := fun m => apL [0, 1, 99, 100, 101] (J39_17 call n m)) (by kernel_rfl) (fun _ I17 => (L39_28 call n I17)))) (by kernel_rfl) (by kernel_rfl)
noncomputable def c39_31 : VCode := .seq (.region false (A39 [1, 0, 1, 1, 1, 1, 1, 1, 0])) (.cond (.tmp 76) c39_29 .skip)
noncomputable def J39_32 (call : VCaller) (n : Nat) (t0 t1 t10 : VVal) (h : VHeap) : VAns :=
  rd (eqI t10 (I 7)) fun t77 =>
  (cnd t77 (J39_30 call n t0 t1 h) (finV [] h))
theorem L39_32 (call : VCaller) (n : Nat) : Sim 120 (runK call n c39_31 (D39_0 call n)) (apL [0, 1, 10] (J39_32 call n)) := Sim.reg (Sim.cond (L39_30 call n) (Sim.skip R39)) (by kernel_rfl) (by kernel_rfl)
noncomputable def c39_33 : VCode := .seq (.region false (A39 [1, 0, 1, 1, 1, 1, 0])) (.cond (.tmp 61) c39_14 c39_31)
noncomputable def J39_34 (call : VCaller) (n : Nat) (t0 t1 t10 : VVal) (h : VHeap) : VAns :=
  rd (eqI t10 (I 11)) fun t62 =>
  (cnd t62 (J39_15 call n t0 t1 h) (J39_32 call n t0 t1 t10 h))
theorem L39_34 (call : VCaller) (n : Nat) : Sim 120 (runK call n c39_33 (D39_0 call n)) (apL [0, 1, 10] (J39_34 call n)) := Sim.reg (Sim.cond (L39_15 call n) (L39_32 call n)) (by kernel_rfl) (by kernel_rfl)
noncomputable def c39_35 : VCode := .seq (.region false (A39 [1, 0, 1, 1, 0])) (.cond (.tmp 35) c39_10 c39_33)
noncomputable def J39_36 (call : VCaller) (n : Nat) (t0 t1 t10 : VVal) (h : VHeap) : VAns :=
  rd (eqI t10 (I 8)) fun t36 =>
  (cnd t36 (J39_11 call n t0 t1 h) (J39_34 call n t0 t1 t10 h))
theorem L39_36 (call : VCaller) (n : Nat) : Sim 120 (runK call n c39_35 (D39_0 call n)) (apL [0, 1, 10] (J39_36 call n)) := Sim.reg (Sim.cond (L39_11 call n) (L39_34 call n)) (by kernel_rfl) (by kernel_rfl)
noncomputable def c39_37 : VCode := .seq (.region false (A39 [1, 0, 0])) (.cond (.tmp 11) c39_1 c39_35)
noncomputable def J39_38 (call : VCaller) (n : Nat) (t0 t1 t10 : VVal) (h : VHeap) : VAns :=
  rd (eqI t10 (I 6)) fun t12 =>
  (cnd t12 (J39_2 call n t0 t1 h) (J39_36 call n t0 t1 t10 h))
theorem L39_38 (call : VCaller) (n : Nat) : Sim 120 (runK call n c39_37 (D39_0 call n)) (apL [0, 1, 10] (J39_38 call n)) := Sim.reg (Sim.cond (L39_2 call n) (L39_36 call n)) (by kernel_rfl) (by kernel_rfl)
noncomputable def c39_39 : VCode := .seq (.region false (A39 [0])) (.block 0 c39_37)
noncomputable def J39_40 (call : VCaller) (n : Nat) (t0 t1 : VVal) (h : VHeap) : VAns :=
  rd (nilF t1) fun t8 =>
  rd (faddr 0 t8) fun t9 =>
  rd (VHeap.load1 h t9) fun t10 =>
  (J39_38 call n t0 t1 t10 h)
theorem L39_40 (call : VCaller) (n : Nat) : Sim 120 (runK call n c39_39 (fin rs39)) (apL [0, 1] (J39_40 call n)) := Sim.reg (Sim.block (L39_38 call n)) (by kernel_rfl) (by kernel_rfl)
noncomputable def vf39 : VFunc := ⟨120, rs39, c39_39⟩
noncomputable def S39 (call : VCaller) (n : Nat) : VRun := fun args h => match args with
  | [a0, a1] => (J39_40 call n a0 a1 h)
  | args => runK call n vf39.body (fin vf39.results) (args ++ List.replicate (vf39.ntmps - args.length) .undef) h
theorem S39_ok : FastFn.ok ⟨39, vf39, S39⟩ := by
  intro call n args h
  show _ = S39 call n args h
  unfold S39
  split
  · exact (((L39_40 call n) : Sim 120 (runK call n vf39.body (fin vf39.results)) _) _ _ rfl).trans (by kernel_rfl)
  · rfl
theorem vf39_ok : FastFn.inP Try.prog ⟨39, vf39, S39⟩ := by
  show funcV Try.prog 39 = some vf39
  kernel_rfl
/- (*ferrule/heap.Heap).Free -/
noncomputable def A45 := opsAt Try.prog 45
noncomputable def rs45 : List VResult := [.tmp 4]
theorem R45 : Sim 33 (fin rs45 .ret) (fun σ h => (finV [rT (σ 4)] h)) := Sim.of (by kernel_rfl)
noncomputable def c45_0 : VCode := .seq (.region false (A45 [1, 1, 1, 1, 1, 0])) .ret
noncomputable def J45_1 (call : VCaller) (n : Nat) (h : VHeap) : VAns :=
  (finV [rT (I 0)] h)
theorem L45_1 (call : VCaller) (n : Nat) : Sim 33 (runK call n c45_0 (fin rs45)) (apL [] (J45_1 call n)) := Sim.reg (Sim.ret R45) (by kernel_rfl) (by kernel_rfl)
noncomputable def c45_2 : VCode := .seq (.region false (A45 [1, 1, 1, 1, 0])) c45_0
noncomputable def J45_3 (call : VCaller) (n : Nat) (t0 t5 t6 : VVal) (h : VHeap) : VAns :=
  rd (nilF t0) fun t27 =>
  rd (faddr 1 t27) fun t28 =>
  rd (VOp.read [] h (.indexAddr (some 4) 1 (.const t28) (.const t5))) fun t29 =>
  rd (VHeap.load1 h t29) fun t30 =>
  rd (idxS 1 t30 t6) fun t32 =>
  bd (VOp.write [] h (.store 1 (.const t32) (.const (.bool false)))) fun _ h8 =>
  (J45_1 call n h8)
theorem L45_3 (call : VCaller) (n : Nat) : Sim 33 (runK call n c45_2 (fin rs45)) (apL [0, 5, 6] (J45_3 call n)) := Sim.reg (L45_1 call n) (by kernel_rfl) (by kernel_rfl)
noncomputable def D45_4 (call : VCaller) (n : Nat) : Kont := kn (runK call n c45_2 (fin rs45)) (fin rs45)
noncomputable def c45_5 : VCode := .seq (.region false (A45 [1, 1, 1, 0, 1, 0, 0])) .ret
noncomputable def J45_6 (call : VCaller) (n : Nat) (h : VHeap) : VAns :=
  (finV [rT (I 13)] h)
theorem L45_6 (call : VCaller) (n : Nat) : Sim 33 (runK call n c45_5 (D45_4 call n)) (apL [] (J45_6 call n)) := Sim.reg (Sim.ret R45) (by kernel_rfl) (by kernel_rfl)
noncomputable def c45_7 : VCode := .seq (.region false (A45 [1, 1, 1, 0, 0])) (.cond (.tmp 24) c45_5 .skip)
noncomputable def J45_8 (call : VCaller) (n : Nat) (t0 t5 t6 t7 t8 : VVal) (h : VHeap) : VAns :=
  rd (unV .not t8) fun t20 =>
  gd false t20 (some t7) fun t22 =>
  gd false t20 (neI t22 (I 0)) fun t23 =>
  rd (pickF t20 (.bool true) t23) fun t24 =>
  (cnd t24 (J45_6 call n h) (J45_3 call n t0 t5 t6 h))
theorem L45_8 (call : VCaller) (n : Nat) : Sim 33 (runK call n c45_7 (D45_4 call n)) (apL [0, 5, 6, 7, 8] (J45_8 call n)) := Sim.reg (Sim.cond (L45_6 call n) (Sim.skip (L45_3 call n))) (by kernel_rfl) (by kernel_rfl)
noncomputable def c45_9 : VCode := .seq (.region false (A45 [1, 1, 0])) (.seq c45_7 c45_2)
noncomputable def J45_10 (call : VCaller) (n : Nat) (t0 t1 : VVal) (h : VHeap) : VAns :=
  bc (call 47 [t0, t1] h) thr fun t14 h2 =>
  rd (extF t14 0) fun t15 =>
  rd (extF t14 1) fun t16 =>
  rd (extF t14 2) fun t17 =>
  rd (extF t14 3) fun t18 =>
  (J45_8 call n t0 t15 t16 t17 t18 h2)
theorem L45_10 (call : VCaller) (n : Nat) : Sim 33 (runK call n c45_9 (fin rs45)) (apL [0, 1] (J45_10 call n)) := Sim.reg (Sim.seq (L45_8 call n)) (by kernel_rfl) (by kernel_rfl)
noncomputable def D45_11 (call : VCaller) (n : Nat) : Kont := kn (runK call n c45_9 (fin rs45)) (fin rs45)
noncomputable def c45_12 : VCode := .seq (.region false (A45 [1, 0, 1, 0, 0])) .ret
noncomputable def J45_13 (call : VCaller) (n : Nat) (h : VHeap) : VAns :=
  (finV [rT (I 1)] h)
theorem L45_13 (call : VCaller) (n : Nat) : Sim 33 (runK call n c45_12 (D45_11 call n)) (apL [] (J45_13 call n)) := Sim.reg (Sim.ret R45) (by kernel_rfl) (by kernel_rfl)
noncomputable def c45_14 : VCode := .seq (.region false (A45 [1, 0, 0])) (.cond (.tmp 10) c45_12 .skip)
noncomputable def J45_15 (call : VCaller) (n : Nat) (t0 t1 : VVal) (h : VHeap) : VAns :=
  bc (call 43 [t0] h) thr fun t10 h1 =>
  (cnd t10 (J45_13 call n h1) (J45_10 call n t0 t1 h1))
theorem L45_15 (call : VCaller) (n : Nat) : Sim 33 (runK call n c45_14 (D45_11 call n)) (apL [0, 1] (J45_15 call n)) := Sim.reg (Sim.cond (L45_13 call n) (Sim.skip (L45_10 call n))) (by kernel_rfl) (by kernel_rfl)
noncomputable def c45_16 : VCode := .seq (.region false (A45 [0])) (.seq c45_14 c45_9)
noncomputable def J45_17 (call : VCaller) (n : Nat) (t0 t1 : VVal) (h : VHeap) : VAns :=
  (J45_15 call n t0 t1 h)
theorem L45_17 (call : VCaller) (n : Nat) : Sim 33 (runK call n c45_16 (fin rs45)) (apL [0, 1] (J45_17 call n)) := Sim.reg (Sim.seq (L45_15 call n)) (by kernel_rfl) (by kernel_rfl)
noncomputable def vf45 : VFunc := ⟨33, rs45, c45_16⟩
noncomputable def S45 (call : VCaller) (n : Nat) : VRun := fun args h => match args with
  | [a0, a1] => (J45_17 call n a0 a1 h)
  | args => runK call n vf45.body (fin vf45.results) (args ++ List.replicate (vf45.ntmps - args.length) .undef) h
theorem S45_ok : FastFn.ok ⟨45, vf45, S45⟩ := by
  intro call n args h
  show _ = S45 call n args h
  unfold S45
  split
  · exact (((L45_17 call n) : Sim 33 (runK call n vf45.body (fin vf45.results)) _) _ _ rfl).trans (by kernel_rfl)
  · rfl
theorem vf45_ok : FastFn.inP Try.prog ⟨45, vf45, S45⟩ := by
  show funcV Try.prog 45 = some vf45
  kernel_rfl
/- (*ferrule/low.machine).all -/
noncomputable def A28 := opsAt Try.prog 28
noncomputable def rs28 : List VResult := [.tmp 4]
theorem R28 : Sim 22 (fin rs28 .ret) (fun σ h => (finV [rT (σ 4)] h)) := Sim.of (by kernel_rfl)
noncomputable def c28_0 : VCode := .seq (.region false (A28 [1, 1, 1, 0])) .ret
noncomputable def J28_1 (call : VCaller) (n : Nat) (t5 : VVal) (h : VHeap) : VAns :=
  (finV [rT t5] h)
theorem L28_1 (call : VCaller) (n : Nat) : Sim 22 (runK call n c28_0 (fin rs28)) (apL [5] (J28_1 call n)) := Sim.reg (Sim.ret R28) (by kernel_rfl) (by kernel_rfl)
noncomputable def D28_2 (call : VCaller) (n : Nat) : Kont := kn (runK call n c28_0 (fin rs28)) (fin rs28)
noncomputable def D28_3 (call : VCaller) (n : Nat) : Kont := kb 0 (D28_2 call n)
noncomputable def D28_4 (call : VCaller) (n : Nat) (K4 : VRun) : Kont := kn K4 (D28_3 call n)
noncomputable def c28_5 : VCode := .region false (A28 [1, 1, 0, 1, 0, 0, 1, 1, 1])
noncomputable def J28_6 (call : VCaller) (n : Nat) (ih4 : VVal → VVal → VVal → VVal → VVal → VHeap → VAns) (t0 t5 t8 t9 t10 : VVal) (h : VHeap) : VAns :=
  rd (addI t10 (I 1)) fun t20 =>
  (ih4 t0 t5 t8 t9 t20 h)
theorem L28_6 (call : VCaller) (n : Nat) {K4 : VRun} {ih4 : VVal → VVal → VVal → VVal → VVal → VHeap → VAns} (I4 : Sim 22 K4 (apL [0, 5, 8, 9, 10] ih4)) : Sim 22 (runK call n c28_5 (D28_4 call n K4)) (apL [0, 5, 8, 9, 10] (J28_6 call n ih4)) := Sim.regE I4 (by kernel_rfl) (by kernel_rfl)
noncomputable def D28_7 (call : VCaller) (n : Nat) (K4 : VRun) : Kont := kn (runK call n c28_5 (D28_4 call n K4)) (D28_4 call n K4)
noncomputable def D28_8 (call : VCaller) (n : Nat) (K4 : VRun) : Kont := kb 1 (D28_7 call n K4)
noncomputable def c28_9 : VCode := .region false (A28 [1, 1, 0, 1, 0, 0, 1, 1, 0, 0, 1])
noncomputable def J28_10 (call : VCaller) (n : Nat) (ih4 : VVal → VVal → VVal → VVal → VVal → VHeap → VAns) (t0 t5 t7 t8 t9 t10 : VVal) (h : VHeap) : VAns :=
  bc (call 29 [t0, t7] h) thr fun t17 h3 =>
  fr (VOp.fresh [] (.buildSlice 3 1 1 [(I 0)] [(0, 1, (.const t17))])) h3 fun t18 h4 =>
  bd (VOp.write [] h4 (.append 3 1 8 none (.const t5) (.const t18))) fun t19 h5 =>
  (J28_6 call n ih4 t0 t19 t8 t9 t10 h5)
theorem L28_10 (call : VCaller) (n : Nat) {K4 : VRun} {ih4 : VVal → VVal → VVal → VVal → VVal → VHeap → VAns} (I4 : Sim 22 K4 (apL [0, 5, 8, 9, 10] ih4)) : Sim 22 (runK call n c28_9 (D28_8 call n K4)) (apL [0, 5, 7, 8, 9, 10] (J28_10 call n ih4)) := Sim.regE (L28_6 call n I4) (by kernel_rfl) (by kernel_rfl)
noncomputable def c28_11 : VCode := .seq (.region false (A28 [1, 1, 0, 1, 0, 0, 1, 1, 0, 0, 0])) c28_9
noncomputable def J28_12 (call : VCaller) (n : Nat) (ih4 : VVal → VVal → VVal → VVal → VVal → VHeap → VAns) (t0 t5 t8 t9 t10 : VVal) (h : VHeap) : VAns :=
  rd (idxS 1 t8 t10) fun t12 =>
  rd (VHeap.load1 h t12) fun t13 =>
  (J28_10 call n ih4 t0 t5 t13 t8 t9 t10 h)
theorem L28_12 (call : VCaller) (n : Nat) {K4 : VRun} {ih4 : VVal → VVal → VVal → VVal → VVal → VHeap → VAns} (I4 : Sim 22 K4 (apL [0, 5, 8, 9, 10] ih4)) : Sim 22 (runK call n c28_11 (D28_8 call n K4)) (apL [0, 5, 8, 9, 10] (J28_12 call n ih4)) := Sim.reg (L28_10 call n I4) (by kernel_rfl) (by kernel_rfl)
noncomputable def D28_13 (call : VCaller) (n : Nat) (K4 : VRun) : Kont := kn (runK call n (.seq (.block 1 c28_11) c28_5) (D28_4 call n K4)) (D28_4 call n K4)
noncomputable def c28_14 : VCode := .seq (.region false (A28 [1, 1, 0, 1, 0, 0, 0])) (.seq (.cond (.tmp 11) .skip (.exit 0)) (.seq (.block 1 c28_11) c28_5))
noncomputable def J28_15 (call : VCaller) (n : Nat) (ih4 : VVal → VVal → VVal → VVal → VVal → VHeap → VAns) (t0 t5 t8 t9 t10 : VVal) (h : VHeap) : VAns :=
  rd (ltI t10 t9) fun t11 =>
  (cnd t11 (J28_12 call n ih4 t0 t5 t8 t9 t10 h) (J28_1 call n t5 h))
theorem L28_15 (call : VCaller) (n : Nat) {K4 : VRun} {ih4 : VVal → VVal → VVal → VVal → VVal → VHeap → VAns} (I4 : Sim 22 K4 (apL [0, 5, 8, 9, 10] ih4)) : Sim 22 (runK call n c28_14 (D28_4 call n K4)) (apL [0, 5, 8, 9, 10] (J28_15 call n ih4)) := Sim.reg (Sim.seq (Sim.cond (Sim.skip (Sim.seq (Sim.block (L28_12 call n I4)))) (Sim.exit (L28_1 call n)))) (by kernel_rfl) (by kernel_rfl)
noncomputable def J28_4 (call : VCaller) (n : Nat) (m : Nat) : VVal → VVal → VVal → VVal → VVal → VHeap → VAns :=
  Nat.rec (motive := fun _ => VVal → VVal → VVal → VVal → VVal → VHeap → VAns) (fun _ _ _ _ _ _ => none) (fun _ ih4 => fun t0 t5 t8 t9 t10 h => (J28_15 call n ih4 t0 t5 t8 t9 t10 h)) m
noncomputable def c28_16 : VCode := .seq (.region false (A28 [1, 1, 0, 0])) (.block 0 (.loop c28_14))
noncomputable def J28_17 (call : VCaller) (n : Nat) (t0 t1 t5 : VVal) (h : VHeap) : VAns :=
  rd (lenF .slice t1 h) fun t9 =>
  (J28_4 call n n t0 t5 t1 t9 (I 0) h)
theorem L28_17 (call : VCaller) (n : Nat) : Sim 22 (runK call n c28_16 (D28_2 call n)) (apL [0, 1, 5] (J28_17 call n)) := Sim.reg (Sim.block (Sim.loop (J := fun m => apL [0, 5, 8, 9, 10] (J28_4 call n m)) (by kernel_rfl) (fun _ I4 => (L28_15 call n I4)))) (by kernel_rfl) (by kernel_rfl)
noncomputable def c28_18 : VCode := .seq (.region false (A28 [1, 0])) (.seq c28_16 c28_0)
noncomputable def J28_19 (call : VCaller) (n : Nat) (t0 t1 : VVal) (h : VHeap) : VAns :=
  (J28_17 call n t0 t1 .nilslice h)
theorem L28_19 (call : VCaller) (n : Nat) : Sim 22 (runK call n c28_18 (fin rs28)) (apL [0, 1] (J28_19 call n)) := Sim.reg (Sim.seq (L28_17 call n)) (by kernel_rfl) (by kernel_rfl)
noncomputable def c28_20 : VCode := .seq (.region false (A28 [0])) c28_18
noncomputable def J28_21 (call : VCaller) (n : Nat) (t0 t1 : VVal) (h : VHeap) : VAns :=
  (J28_19 call n t0 t1 h)
theorem L28_21 (call : VCaller) (n : Nat) : Sim 22 (runK call n c28_20 (fin rs28)) (apL [0, 1] (J28_21 call n)) := Sim.reg (L28_19 call n) (by kernel_rfl) (by kernel_rfl)
noncomputable def vf28 : VFunc := ⟨22, rs28, c28_20⟩
noncomputable def S28 (call : VCaller) (n : Nat) : VRun := fun args h => match args with
  | [a0, a1] => (J28_21 call n a0 a1 h)
  | args => runK call n vf28.body (fin vf28.results) (args ++ List.replicate (vf28.ntmps - args.length) .undef) h
theorem S28_ok : FastFn.ok ⟨28, vf28, S28⟩ := by
  intro call n args h
  show _ = S28 call n args h
  unfold S28
  split
  · exact (((L28_21 call n) : Sim 22 (runK call n vf28.body (fin vf28.results)) _) _ _ rfl).trans (by kernel_rfl)
  · rfl
theorem vf28_ok : FastFn.inP Try.prog ⟨28, vf28, S28⟩ := by
  show funcV Try.prog 28 = some vf28
  kernel_rfl
end Go.Proofs.Ythefbgflndpggaa.LF
