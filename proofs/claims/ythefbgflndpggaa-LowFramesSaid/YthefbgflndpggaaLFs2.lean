/- Functions that are reached, as the virtual machine has them. Printed by program. -/
import Derived.Test.YthefbgflndpggaaChecked
import Derived.Test.YthefbgflndpggaaV30
set_option linter.unusedSimpArgs false
set_option linter.unusedVariables false
open Go.V
namespace Go.Proofs.Ythefbgflndpggaa.LF
set_option linter.unusedVariables false
/- (ferrule/low.former).block -/
noncomputable def A14 := opsAt Try.prog 14
noncomputable def rs14 : List VResult := [.tmp 4]
theorem R14 : Sim 23 (fin rs14 .ret) (fun σ h => (finV [rT (σ 4)] h)) := Sim.of (by kernel_rfl)
noncomputable def c14_0 : VCode := .seq (.region false (A14 [1, 1, 0])) .ret
noncomputable def J14_1 (call : VCaller) (n : Nat) (t2 t3 : VVal) (h : VHeap) : VAns :=
  rd (VHeap.loadA h 8 t2) fun t19 =>
  rd (faddr 1 t3) fun t20 =>
  rd (VHeap.loadA h 7 t20) fun t21 =>
  bc (call 25 [t19, t21] h) thr fun t22 h3 =>
  (finV [rT t22] h3)
theorem L14_1 (call : VCaller) (n : Nat) : Sim 23 (runK call n c14_0 (fin rs14)) (apL [2, 3] (J14_1 call n)) := Sim.reg (Sim.ret R14) (by kernel_rfl) (by kernel_rfl)
noncomputable def D14_2 (call : VCaller) (n : Nat) : Kont := kn (runK call n c14_0 (fin rs14)) (fin rs14)
noncomputable def D14_3 (call : VCaller) (n : Nat) : Kont := kb 0 (D14_2 call n)
noncomputable def D14_4 (call : VCaller) (n : Nat) (K4 : VRun) : Kont := kn K4 (D14_3 call n)
noncomputable def c14_5 : VCode := .region false (A14 [1, 0, 1, 0, 0, 1, 1, 1])
noncomputable def J14_6 (call : VCaller) (n : Nat) (ih4 : VVal → VVal → VVal → VVal → VVal → VHeap → VAns) (t2 t3 t8 t9 t10 : VVal) (h : VHeap) : VAns :=
  rd (addI t10 (I 1)) fun t18 =>
  (ih4 t2 t3 t8 t9 t18 h)
theorem L14_6 (call : VCaller) (n : Nat) {K4 : VRun} {ih4 : VVal → VVal → VVal → VVal → VVal → VHeap → VAns} (I4 : Sim 23 K4 (apL [2, 3, 8, 9, 10] ih4)) : Sim 23 (runK call n c14_5 (D14_4 call n K4)) (apL [2, 3, 8, 9, 10] (J14_6 call n ih4)) := Sim.regE I4 (by kernel_rfl) (by kernel_rfl)
noncomputable def D14_7 (call : VCaller) (n : Nat) (K4 : VRun) : Kont := kn (runK call n c14_5 (D14_4 call n K4)) (D14_4 call n K4)
noncomputable def D14_8 (call : VCaller) (n : Nat) (K4 : VRun) : Kont := kb 1 (D14_7 call n K4)
noncomputable def c14_9 : VCode := .seq (.region false (A14 [1, 0, 1, 0, 0, 1, 1, 0, 0, 1, 1, 0, 0])) .ret
noncomputable def J14_10 (call : VCaller) (n : Nat) (ih4 : VVal → VVal → VVal → VVal → VVal → VHeap → VAns) (h : VHeap) : VAns :=
  (finV [rT (.bool false)] h)
theorem L14_10 (call : VCaller) (n : Nat) {K4 : VRun} {ih4 : VVal → VVal → VVal → VVal → VVal → VHeap → VAns} (I4 : Sim 23 K4 (apL [2, 3, 8, 9, 10] ih4)) : Sim 23 (runK call n c14_9 (D14_8 call n K4)) (apL [] (J14_10 call n ih4)) := Sim.reg (Sim.ret R14) (by kernel_rfl) (by kernel_rfl)
noncomputable def c14_11 : VCode := .seq (.region false (A14 [1, 0, 1, 0, 0, 1, 1, 0, 0, 1, 0])) (.cond (.tmp 17) c14_9 .skip)
noncomputable def J14_12 (call : VCaller) (n : Nat) (ih4 : VVal → VVal → VVal → VVal → VVal → VHeap → VAns) (t2 t3 t6 t8 t9 t10 : VVal) (h : VHeap) : VAns :=
  rd (VHeap.loadA h 8 t2) fun t14 =>
  rd (VHeap.loadA h 8 t6) fun t15 =>
  bc (call 24 [t14, t15] h) thr fun t16 h2 =>
  rd (unV .not t16) fun t17 =>
  (cnd t17 (J14_10 call n ih4 h2) (J14_6 call n ih4 t2 t3 t8 t9 t10 h2))
theorem L14_12 (call : VCaller) (n : Nat) {K4 : VRun} {ih4 : VVal → VVal → VVal → VVal → VVal → VHeap → VAns} (I4 : Sim 23 K4 (apL [2, 3, 8, 9, 10] ih4)) : Sim 23 (runK call n c14_11 (D14_8 call n K4)) (apL [2, 3, 6, 8, 9, 10] (J14_12 call n ih4)) := Sim.reg (Sim.cond (L14_10 call n I4) (Sim.skip (L14_6 call n I4))) (by kernel_rfl) (by kernel_rfl)
noncomputable def c14_13 : VCode := .seq (.region false (A14 [1, 0, 1, 0, 0, 1, 1, 0, 0, 0])) c14_11
noncomputable def J14_14 (call : VCaller) (n : Nat) (ih4 : VVal → VVal → VVal → VVal → VVal → VHeap → VAns) (t2 t3 t8 t9 t10 : VVal) (h : VHeap) : VAns :=
  rd (idxS 8 t8 t10) fun t12 =>
  rd (VHeap.loadA h 8 t12) fun t13 =>
  fr (VOp.fresh [] (.box 30 (.const (.agg [(I 0), (I 0), (I 0), (I 0), (I 0), (.str []), .nilslice, .nilslice])))) h fun t6 h2 =>
  bd (VOp.write [] h2 (.store 8 (.const t6) (.const t13))) fun _ h3 =>
  (J14_12 call n ih4 t2 t3 t6 t8 t9 t10 h3)
theorem L14_14 (call : VCaller) (n : Nat) {K4 : VRun} {ih4 : VVal → VVal → VVal → VVal → VVal → VHeap → VAns} (I4 : Sim 23 K4 (apL [2, 3, 8, 9, 10] ih4)) : Sim 23 (runK call n c14_13 (D14_8 call n K4)) (apL [2, 3, 8, 9, 10] (J14_14 call n ih4)) := Sim.reg (L14_12 call n I4) (by kernel_rfl) (by kernel_rfl)
noncomputable def D14_15 (call : VCaller) (n : Nat) (K4 : VRun) : Kont := kn (runK call n (.seq (.block 1 c14_13) c14_5) (D14_4 call n K4)) (D14_4 call n K4)
noncomputable def c14_16 : VCode := .seq (.region false (A14 [1, 0, 1, 0, 0, 0])) (.seq (.cond (.tmp 11) .skip (.exit 0)) (.seq (.block 1 c14_13) c14_5))
noncomputable def J14_17 (call : VCaller) (n : Nat) (ih4 : VVal → VVal → VVal → VVal → VVal → VHeap → VAns) (t2 t3 t8 t9 t10 : VVal) (h : VHeap) : VAns :=
  rd (ltI t10 t9) fun t11 =>
  (cnd t11 (J14_14 call n ih4 t2 t3 t8 t9 t10 h) (J14_1 call n t2 t3 h))
theorem L14_17 (call : VCaller) (n : Nat) {K4 : VRun} {ih4 : VVal → VVal → VVal → VVal → VVal → VHeap → VAns} (I4 : Sim 23 K4 (apL [2, 3, 8, 9, 10] ih4)) : Sim 23 (runK call n c14_16 (D14_4 call n K4)) (apL [2, 3, 8, 9, 10] (J14_17 call n ih4)) := Sim.reg (Sim.seq (Sim.cond (Sim.skip (Sim.seq (Sim.block (L14_14 call n I4)))) (Sim.exit (L14_1 call n)))) (by kernel_rfl) (by kernel_rfl)
noncomputable def J14_4 (call : VCaller) (n : Nat) (m : Nat) : VVal → VVal → VVal → VVal → VVal → VHeap → VAns :=
  Nat.rec (motive := fun _ => VVal → VVal → VVal → VVal → VVal → VHeap → VAns) (fun _ _ _ _ _ _ => none) (fun _ ih4 => fun t2 t3 t8 t9 t10 h => (J14_17 call n ih4 t2 t3 t8 t9 t10 h)) m
noncomputable def c14_18 : VCode := .seq (.region false (A14 [1, 0, 0])) (.block 0 (.loop c14_16))
noncomputable def J14_19 (call : VCaller) (n : Nat) (t2 t3 : VVal) (h : VHeap) : VAns :=
  rd (faddr 0 t3) fun t7 =>
  rd (VHeap.load1 h t7) fun t8 =>
  rd (lenF .slice t8 h) fun t9 =>
  (J14_4 call n n t2 t3 t8 t9 (I 0) h)
theorem L14_19 (call : VCaller) (n : Nat) : Sim 23 (runK call n c14_18 (D14_2 call n)) (apL [2, 3] (J14_19 call n)) := Sim.reg (Sim.block (Sim.loop (J := fun m => apL [2, 3, 8, 9, 10] (J14_4 call n m)) (by kernel_rfl) (fun _ I4 => (L14_17 call n I4)))) (by kernel_rfl) (by kernel_rfl)
noncomputable def c14_20 : VCode := .seq (.region false (A14 [0])) (.seq c14_18 c14_0)
noncomputable def J14_21 (call : VCaller) (n : Nat) (t0 t1 : VVal) (h : VHeap) : VAns :=
  fr (VOp.fresh [] (.box 61 (.const t0))) h fun t2 h0 =>
  fr (VOp.fresh [] (.box 35 (.const t1))) h0 fun t3 h1 =>
  (J14_19 call n t2 t3 h1)
theorem L14_21 (call : VCaller) (n : Nat) : Sim 23 (runK call n c14_20 (fin rs14)) (apL [0, 1] (J14_21 call n)) := Sim.reg (Sim.seq (L14_19 call n)) (by kernel_rfl) (by kernel_rfl)
noncomputable def vf14 : VFunc := ⟨23, rs14, c14_20⟩
noncomputable def S14 (call : VCaller) (n : Nat) : VRun := fun args h => match args with
  | [a0, a1] => (J14_21 call n a0 a1 h)
  | args => runK call n vf14.body (fin vf14.results) (args ++ List.replicate (vf14.ntmps - args.length) .undef) h
theorem S14_ok : FastFn.ok ⟨14, vf14, S14⟩ := by
  intro call n args h
  show _ = S14 call n args h
  unfold S14
  split
  · exact (((L14_21 call n) : Sim 23 (runK call n vf14.body (fin vf14.results)) _) _ _ rfl).trans (by kernel_rfl)
  · rfl
theorem vf14_ok : FastFn.inP Try.prog ⟨14, vf14, S14⟩ := by
  show funcV Try.prog 14 = some vf14
  kernel_rfl
/- (ferrule/low.former).instr -/
noncomputable def A24 := opsAt Try.prog 24
noncomputable def rs24 : List VResult := [.tmp 4]
theorem R24 : Sim 177 (fin rs24 .ret) (fun σ h => (finV [rT (σ 4)] h)) := Sim.of (by kernel_rfl)
noncomputable def c24_0 : VCode := .seq (.region false (A24 [1, 1, 0])) .ret
noncomputable def J24_1 (call : VCaller) (n : Nat) (h : VHeap) : VAns :=
  (finV [rT (.bool false)] h)
theorem L24_1 (call : VCaller) (n : Nat) : Sim 177 (runK call n c24_0 (fin rs24)) (apL [] (J24_1 call n)) := Sim.reg (Sim.ret R24) (by kernel_rfl) (by kernel_rfl)
noncomputable def D24_2 (call : VCaller) (n : Nat) : Kont := kn (runK call n c24_0 (fin rs24)) (fin rs24)
noncomputable def D24_3 (call : VCaller) (n : Nat) : Kont := kb 0 (D24_2 call n)
noncomputable def c24_4 : VCode := .seq (.region false (A24 [1, 0, 1, 0, 1, 0, 0])) .ret
noncomputable def J24_5 (call : VCaller) (n : Nat) (t2 t3 : VVal) (h : VHeap) : VAns :=
  rd (VHeap.loadA h 8 t2) fun t14 =>
  rd (faddr 1 t3) fun t15 =>
  rd (VHeap.load1 h t15) fun t16 =>
  bc (call 23 [t14, t16] h) thr fun t17 h3 =>
  (finV [rT t17] h3)
theorem L24_5 (call : VCaller) (n : Nat) : Sim 177 (runK call n c24_4 (D24_3 call n)) (apL [2, 3] (J24_5 call n)) := Sim.reg (Sim.ret R24) (by kernel_rfl) (by kernel_rfl)
noncomputable def c24_6 : VCode := .seq (.region false (A24 [1, 0, 1, 0, 1, 1, 1, 0, 0])) .ret
noncomputable def J24_7 (call : VCaller) (n : Nat) (t2 t3 : VVal) (h : VHeap) : VAns :=
  rd (VHeap.loadA h 8 t2) fun t20 =>
  rd (faddr 1 t3) fun t21 =>
  rd (VHeap.load1 h t21) fun t22 =>
  bc (call 23 [t20, t22] h) thr fun t23 h3 =>
  gd true t23 (VHeap.loadA h3 8 t2) fun t25 =>
  gd true t23 (faddr 2 t3) fun t26 =>
  gd true t23 (VHeap.load1 h3 t26) fun t27 =>
  bp .call (opStep call ⟨none, .callF 30 [(.const t25), (.const t27)], some (0, true), [], []⟩ [t23] h3) thr fun t28 h8 =>
  rd (pickF t23 t28 (.bool false)) fun t29 =>
  (finV [rT t29] h8)
theorem L24_7 (call : VCaller) (n : Nat) : Sim 177 (runK call n c24_6 (D24_3 call n)) (apL [2, 3] (J24_7 call n)) := Sim.reg (Sim.ret R24) (by kernel_rfl) (by kernel_rfl)
noncomputable def c24_8 : VCode := .seq (.region false (A24 [1, 0, 1, 0, 1, 1, 1, 1, 1, 0, 1, 0])) .ret
noncomputable def J24_9 (call : VCaller) (n : Nat) (t2 t3 t6 : VVal) (h : VHeap) : VAns :=
  rd (VHeap.loadA h 8 t2) fun t38 =>
  rd (faddr 1 t3) fun t39 =>
  rd (VHeap.load1 h t39) fun t40 =>
  bc (call 23 [t38, t40] h) thr fun t41 h3 =>
  gd true t41 (VHeap.loadA h3 8 t2) fun t43 =>
  gd true t41 (faddr 2 t3) fun t44 =>
  gd true t41 (VHeap.load1 h3 t44) fun t45 =>
  bp .call (opStep call ⟨none, .callF 30 [(.const t43), (.const t45)], some (0, true), [], []⟩ [t41] h3) thr fun t46 h8 =>
  rd (pickF t41 t46 (.bool false)) fun t47 =>
  gd true t47 (VHeap.loadA h8 8 t2) fun t49 =>
  gd true t47 (faddr 3 t3) fun t50 =>
  gd true t47 (VHeap.load1 h8 t50) fun t51 =>
  bp .call (opStep call ⟨none, .callF 30 [(.const t49), (.const t51)], some (0, true), [], []⟩ [t47] h8) thr fun t52 h14 =>
  rd (pickF t47 t52 (.bool false)) fun t53 =>
  gd true t53 (some t6) fun t55 =>
  rd (pickF t53 t55 (.bool false)) fun t56 =>
  (finV [rT t56] h14)
theorem L24_9 (call : VCaller) (n : Nat) : Sim 177 (runK call n c24_8 (D24_3 call n)) (apL [2, 3, 6] (J24_9 call n)) := Sim.reg (Sim.ret R24) (by kernel_rfl) (by kernel_rfl)
noncomputable def c24_10 : VCode := .seq (.region false (A24 [1, 0, 1, 0, 1, 1, 1, 1, 1, 0, 0])) c24_8
noncomputable def J24_11 (call : VCaller) (n : Nat) (t2 t3 : VVal) (h : VHeap) : VAns :=
  rd (faddr 5 t3) fun t33 =>
  rd (VHeap.load1 h t33) fun t34 =>
  bc (call 31 [t34, (I 0), (I 0)] h) thr fun t35 h2 =>
  rd (extF t35 0) fun t36 =>
  rd (extF t35 1) fun t37 =>
  (J24_9 call n t2 t3 t37 h2)
theorem L24_11 (call : VCaller) (n : Nat) : Sim 177 (runK call n c24_10 (D24_3 call n)) (apL [2, 3] (J24_11 call n)) := Sim.reg (L24_9 call n) (by kernel_rfl) (by kernel_rfl)
noncomputable def c24_12 : VCode := .seq (.region false (A24 [1, 0, 1, 0, 1, 1, 1, 1, 1, 1, 1, 0, 0])) .ret
noncomputable def J24_13 (call : VCaller) (n : Nat) (t2 t3 : VVal) (h : VHeap) : VAns :=
  rd (VHeap.loadA h 8 t2) fun t59 =>
  rd (faddr 1 t3) fun t60 =>
  rd (VHeap.load1 h t60) fun t61 =>
  bc (call 23 [t59, t61] h) thr fun t62 h3 =>
  gd true t62 (VHeap.loadA h3 8 t2) fun t64 =>
  gd true t62 (faddr 2 t3) fun t65 =>
  gd true t62 (VHeap.load1 h3 t65) fun t66 =>
  bp .call (opStep call ⟨none, .callF 32 [(.const t64), (.const t66)], some (0, true), [], []⟩ [t62] h3) thr fun t67 h8 =>
  rd (pickF t62 t67 (.bool false)) fun t68 =>
  gd true t68 (faddr 5 t3) fun t70 =>
  gd true t68 (VHeap.load1 h8 t70) fun t71 =>
  gd true t68 (faddr 4 t3) fun t72 =>
  gd true t68 (VHeap.load1 h8 t72) fun t73 =>
  bp .call (opStep call ⟨none, .callF 33 [(.const t71), (.const t73)], some (0, true), [], []⟩ [t68] h8) thr fun t74 h15 =>
  rd (pickF t68 t74 (.bool false)) fun t75 =>
  (finV [rT t75] h15)
theorem L24_13 (call : VCaller) (n : Nat) : Sim 177 (runK call n c24_12 (D24_3 call n)) (apL [2, 3] (J24_13 call n)) := Sim.reg (Sim.ret R24) (by kernel_rfl) (by kernel_rfl)
noncomputable def c24_14 : VCode := .seq (.region false (A24 [1, 0, 1, 0, 1, 1, 1, 1, 1, 1, 1, 1, 1, 0, 0])) .ret
noncomputable def J24_15 (call : VCaller) (n : Nat) (t2 t3 : VVal) (h : VHeap) : VAns :=
  rd (VHeap.loadA h 8 t2) fun t78 =>
  rd (faddr 1 t3) fun t79 =>
  rd (VHeap.load1 h t79) fun t80 =>
  bc (call 23 [t78, t80] h) thr fun t81 h3 =>
  gd true t81 (VHeap.loadA h3 8 t2) fun t83 =>
  gd true t81 (faddr 2 t3) fun t84 =>
  gd true t81 (VHeap.load1 h3 t84) fun t85 =>
  bp .call (opStep call ⟨none, .callF 32 [(.const t83), (.const t85)], some (0, true), [], []⟩ [t81] h3) thr fun t86 h8 =>
  rd (pickF t81 t86 (.bool false)) fun t87 =>
  gd true t87 (faddr 4 t3) fun t89 =>
  gd true t87 (VHeap.load1 h8 t89) fun t90 =>
  bp .call (opStep call ⟨none, .callF 34 [(.const t90), (.const (.bool false))], some (0, true), [], []⟩ [t87] h8) thr fun t91 h13 =>
  rd (pickF t87 t91 (.bool false)) fun t92 =>
  (finV [rT t92] h13)
theorem L24_15 (call : VCaller) (n : Nat) : Sim 177 (runK call n c24_14 (D24_3 call n)) (apL [2, 3] (J24_15 call n)) := Sim.reg (Sim.ret R24) (by kernel_rfl) (by kernel_rfl)
noncomputable def c24_16 : VCode := .seq (.region false (A24 [1, 0, 1, 0, 1, 1, 1, 1, 1, 1, 1, 1, 1, 1, 1, 0, 0])) .ret
noncomputable def J24_17 (call : VCaller) (n : Nat) (t2 t3 : VVal) (h : VHeap) : VAns :=
  rd (VHeap.loadA h 8 t2) fun t95 =>
  rd (faddr 3 t3) fun t96 =>
  rd (VHeap.load1 h t96) fun t97 =>
  bc (call 30 [t95, t97] h) thr fun t98 h3 =>
  gd true t98 (VHeap.loadA h3 8 t2) fun t100 =>
  gd true t98 (faddr 2 t3) fun t101 =>
  gd true t98 (VHeap.load1 h3 t101) fun t102 =>
  bp .call (opStep call ⟨none, .callF 32 [(.const t100), (.const t102)], some (0, true), [], []⟩ [t98] h3) thr fun t103 h8 =>
  rd (pickF t98 t103 (.bool false)) fun t104 =>
  gd true t104 (faddr 4 t3) fun t106 =>
  gd true t104 (VHeap.load1 h8 t106) fun t107 =>
  bp .call (opStep call ⟨none, .callF 34 [(.const t107), (.const (.bool false))], some (0, true), [], []⟩ [t104] h8) thr fun t108 h13 =>
  rd (pickF t104 t108 (.bool false)) fun t109 =>
  (finV [rT t109] h13)
theorem L24_17 (call : VCaller) (n : Nat) : Sim 177 (runK call n c24_16 (D24_3 call n)) (apL [2, 3] (J24_17 call n)) := Sim.reg (Sim.ret R24) (by kernel_rfl) (by kernel_rfl)
noncomputable def c24_18 : VCode := .seq (.region false (A24 [1, 0, 1, 0, 1, 1, 1, 1, 1, 1, 1, 1, 1, 1, 1, 1, 1, 0, 0])) .ret
noncomputable def J24_19 (call : VCaller) (n : Nat) (t2 t3 : VVal) (h : VHeap) : VAns :=
  rd (VHeap.loadA h 8 t2) fun t113 =>
  rd (faddr 2 t3) fun t114 =>
  rd (VHeap.load1 h t114) fun t115 =>
  bc (call 30 [t113, t115] h) thr fun t116 h3 =>
  (finV [rT t116] h3)
theorem L24_19 (call : VCaller) (n : Nat) : Sim 177 (runK call n c24_18 (D24_3 call n)) (apL [2, 3] (J24_19 call n)) := Sim.reg (Sim.ret R24) (by kernel_rfl) (by kernel_rfl)
noncomputable def c24_20 : VCode := .seq (.region false (A24 [1, 0, 1, 0, 1, 1, 1, 1, 1, 1, 1, 1, 1, 1, 1, 1, 1, 1, 1, 0, 0])) .ret
noncomputable def J24_21 (call : VCaller) (n : Nat) (t2 t3 : VVal) (h : VHeap) : VAns :=
  rd (VHeap.loadA h 8 t2) fun t119 =>
  rd (faddr 1 t3) fun t120 =>
  rd (VHeap.load1 h t120) fun t121 =>
  bc (call 23 [t119, t121] h) thr fun t122 h3 =>
  gd true t122 (faddr 4 t3) fun t124 =>
  gd true t122 (VHeap.load1 h3 t124) fun t125 =>
  gd true t122 (geI t125 (I 0)) fun t126 =>
  rd (pickF t122 t126 (.bool false)) fun t127 =>
  gd true t127 (faddr 4 t3) fun t129 =>
  gd true t127 (VHeap.load1 h3 t129) fun t130 =>
  gd true t127 (leI t130 (I 128)) fun t131 =>
  rd (pickF t127 t131 (.bool false)) fun t132 =>
  (finV [rT t132] h3)
theorem L24_21 (call : VCaller) (n : Nat) : Sim 177 (runK call n c24_20 (D24_3 call n)) (apL [2, 3] (J24_21 call n)) := Sim.reg (Sim.ret R24) (by kernel_rfl) (by kernel_rfl)
noncomputable def c24_22 : VCode := .seq (.region false (A24 [1, 0, 1, 0, 1, 1, 1, 1, 1, 1, 1, 1, 1, 1, 1, 1, 1, 1, 1, 1, 1, 0, 1, 0])) .ret
noncomputable def J24_23 (call : VCaller) (n : Nat) (t2 t3 t7 t8 : VVal) (h : VHeap) : VAns :=
  gd true t8 (faddr 6 t3) fun t145 =>
  gd true t8 (VHeap.load1 h t145) fun t146 =>
  gd true t8 (lenF .slice t146 h) fun t147 =>
  gd true t8 (faddr 2 t7) fun t148 =>
  gd true t8 (VHeap.load1 h t148) fun t149 =>
  gd true t8 (lenF .slice t149 h) fun t150 =>
  gd true t8 (eqI t147 t150) fun t151 =>
  rd (pickF t8 t151 (.bool false)) fun t152 =>
  gd true t152 (faddr 7 t3) fun t154 =>
  gd true t152 (VHeap.load1 h t154) fun t155 =>
  gd true t152 (lenF .slice t155 h) fun t156 =>
  gd true t152 (faddr 3 t7) fun t157 =>
  gd true t152 (VHeap.load1 h t157) fun t158 =>
  gd true t152 (eqI t156 t158) fun t159 =>
  rd (pickF t152 t159 (.bool false)) fun t160 =>
  gd true t160 (VHeap.loadA h 8 t2) fun t162 =>
  gd true t160 (faddr 6 t3) fun t163 =>
  gd true t160 (VHeap.load1 h t163) fun t164 =>
  gd true t160 (VHeap.loadA h 8 t2) fun t165 =>
  gd true t160 (VOp.read [] h (.mkFunc 30 [(.const t165)] [])) fun t166 =>
  bp .call (opStep call ⟨none, .callF 22 [(.const t162), (.const t164), (.const t166)], some (0, true), [], []⟩ [t160] h) thr fun t167 h24 =>
  rd (pickF t160 t167 (.bool false)) fun t168 =>
  gd true t168 (VHeap.loadA h24 8 t2) fun t170 =>
  gd true t168 (faddr 7 t3) fun t171 =>
  gd true t168 (VHeap.load1 h24 t171) fun t172 =>
  gd true t168 (VHeap.loadA h24 8 t2) fun t173 =>
  gd true t168 (VOp.read [] h24 (.mkFunc 23 [(.const t173)] [])) fun t174 =>
  bp .call (opStep call ⟨none, .callF 22 [(.const t170), (.const t172), (.const t174)], some (0, true), [], []⟩ [t168] h24) thr fun t175 h32 =>
  rd (pickF t168 t175 (.bool false)) fun t176 =>
  (finV [rT t176] h32)
theorem L24_23 (call : VCaller) (n : Nat) : Sim 177 (runK call n c24_22 (D24_3 call n)) (apL [2, 3, 7, 8] (J24_23 call n)) := Sim.reg (Sim.ret R24) (by kernel_rfl) (by kernel_rfl)
noncomputable def c24_24 : VCode := .seq (.region false (A24 [1, 0, 1, 0, 1, 1, 1, 1, 1, 1, 1, 1, 1, 1, 1, 1, 1, 1, 1, 1, 1, 0, 0])) c24_22
noncomputable def J24_25 (call : VCaller) (n : Nat) (t2 t3 : VVal) (h : VHeap) : VAns :=
  rd (faddr 0 t2) fun t136 =>
  rd (VHeap.load1 h t136) fun t137 =>
  rd (faddr 5 t3) fun t138 =>
  rd (VHeap.load1 h t138) fun t139 =>
  rd (VOp.read [] h (.lookup .str (.agg [(.str []), (I 0), .nilslice, (I 0), (I 0), (.bool false), .nilslice]) (.const t137) (.const t139) true)) fun t140 =>
  rd (extF t140 0) fun t141 =>
  rd (extF t140 1) fun t142 =>
  fr (VOp.fresh [] (.box 38 (.const (.agg [(.str []), (I 0), .nilslice, (I 0), (I 0), (.bool false), .nilslice])))) h fun t7 h8 =>
  bd (VOp.write [] h8 (.store 7 (.const t7) (.const t141))) fun _ h9 =>
  (J24_23 call n t2 t3 t7 t142 h9)
theorem L24_25 (call : VCaller) (n : Nat) : Sim 177 (runK call n c24_24 (D24_3 call n)) (apL [2, 3] (J24_25 call n)) := Sim.reg (L24_23 call n) (by kernel_rfl) (by kernel_rfl)
noncomputable def c24_26 : VCode := .seq (.region false (A24 [1, 0, 1, 0, 1, 1, 1, 1, 1, 1, 1, 1, 1, 1, 1, 1, 1, 1, 1, 1, 0])) (.cond (.tmp 133) c24_24 .skip)
noncomputable def J24_27 (call : VCaller) (n : Nat) (t2 t3 t10 : VVal) (h : VHeap) : VAns :=
  rd (eqI t10 (I 7)) fun t134 =>
  (cnd t134 (J24_25 call n t2 t3 h) (J24_1 call n h))
theorem L24_27 (call : VCaller) (n : Nat) : Sim 177 (runK call n c24_26 (D24_3 call n)) (apL [2, 3, 10] (J24_27 call n)) := Sim.reg (Sim.cond (L24_25 call n) (Sim.skip (L24_1 call n))) (by kernel_rfl) (by kernel_rfl)
noncomputable def c24_28 : VCode := .seq (.region false (A24 [1, 0, 1, 0, 1, 1, 1, 1, 1, 1, 1, 1, 1, 1, 1, 1, 1, 1, 0])) (.cond (.tmp 117) c24_20 c24_26)
noncomputable def J24_29 (call : VCaller) (n : Nat) (t2 t3 t10 : VVal) (h : VHeap) : VAns :=
  rd (eqI t10 (I 10)) fun t118 =>
  (cnd t118 (J24_21 call n t2 t3 h) (J24_27 call n t2 t3 t10 h))
theorem L24_29 (call : VCaller) (n : Nat) : Sim 177 (runK call n c24_28 (D24_3 call n)) (apL [2, 3, 10] (J24_29 call n)) := Sim.reg (Sim.cond (L24_21 call n) (L24_27 call n)) (by kernel_rfl) (by kernel_rfl)
noncomputable def J24_30 (call : VCaller) (n : Nat) (t2 t3 t10 t110 : VVal) (h : VHeap) : VAns :=
  (cnd t110 (J24_19 call n t2 t3 h) (J24_29 call n t2 t3 t10 h))
theorem L24_30 (call : VCaller) (n : Nat) : Sim 177 (runK call n (.cond (.tmp 110) c24_18 c24_28) (D24_3 call n)) (apL [2, 3, 10, 110] (J24_30 call n)) := (Sim.cond (L24_19 call n) (L24_29 call n))
noncomputable def D24_31 (call : VCaller) (n : Nat) : Kont := kn (runK call n (.cond (.tmp 110) c24_18 c24_28) (D24_3 call n)) (D24_3 call n)
noncomputable def c24_32 : VCode := .region false (A24 [1, 0, 1, 0, 1, 1, 1, 1, 1, 1, 1, 1, 1, 1, 1, 1, 0, 1, 1])
noncomputable def J24_33 (call : VCaller) (n : Nat) (t2 t3 t10 : VVal) (h : VHeap) : VAns :=
  rd (eqI t10 (I 11)) fun t112 =>
  (J24_30 call n t2 t3 t10 t112 h)
theorem L24_33 (call : VCaller) (n : Nat) : Sim 177 (runK call n c24_32 (D24_31 call n)) (apL [2, 3, 10] (J24_33 call n)) := Sim.regE (L24_30 call n) (by kernel_rfl) (by kernel_rfl)
noncomputable def c24_34 : VCode := .seq (.region false (A24 [1, 0, 1, 0, 1, 1, 1, 1, 1, 1, 1, 1, 1, 1, 1, 1, 0, 0])) (.cond (.tmp 110) .skip c24_32)
noncomputable def J24_35 (call : VCaller) (n : Nat) (t2 t3 t10 : VVal) (h : VHeap) : VAns :=
  rd (eqI t10 (I 8)) fun t111 =>
  (cnd t111 (J24_30 call n t2 t3 t10 t111 h) (J24_33 call n t2 t3 t10 h))
theorem L24_35 (call : VCaller) (n : Nat) : Sim 177 (runK call n c24_34 (D24_31 call n)) (apL [2, 3, 10] (J24_35 call n)) := Sim.reg (Sim.cond (Sim.skip (L24_30 call n)) (L24_33 call n)) (by kernel_rfl) (by kernel_rfl)
noncomputable def c24_36 : VCode := .seq (.region false (A24 [1, 0, 1, 0, 1, 1, 1, 1, 1, 1, 1, 1, 1, 1, 0])) (.cond (.tmp 93) c24_16 (.seq c24_34 (.cond (.tmp 110) c24_18 c24_28)))
noncomputable def J24_37 (call : VCaller) (n : Nat) (t2 t3 t10 : VVal) (h : VHeap) : VAns :=
  rd (eqI t10 (I 6)) fun t94 =>
  (cnd t94 (J24_17 call n t2 t3 h) (J24_35 call n t2 t3 t10 h))
theorem L24_37 (call : VCaller) (n : Nat) : Sim 177 (runK call n c24_36 (D24_3 call n)) (apL [2, 3, 10] (J24_37 call n)) := Sim.reg (Sim.cond (L24_17 call n) (Sim.seq (L24_35 call n))) (by kernel_rfl) (by kernel_rfl)
noncomputable def c24_38 : VCode := .seq (.region false (A24 [1, 0, 1, 0, 1, 1, 1, 1, 1, 1, 1, 1, 0])) (.cond (.tmp 76) c24_14 c24_36)
noncomputable def J24_39 (call : VCaller) (n : Nat) (t2 t3 t10 : VVal) (h : VHeap) : VAns :=
  rd (eqI t10 (I 5)) fun t77 =>
  (cnd t77 (J24_15 call n t2 t3 h) (J24_37 call n t2 t3 t10 h))
theorem L24_39 (call : VCaller) (n : Nat) : Sim 177 (runK call n c24_38 (D24_3 call n)) (apL [2, 3, 10] (J24_39 call n)) := Sim.reg (Sim.cond (L24_15 call n) (L24_37 call n)) (by kernel_rfl) (by kernel_rfl)
noncomputable def c24_40 : VCode := .seq (.region false (A24 [1, 0, 1, 0, 1, 1, 1, 1, 1, 1, 0])) (.cond (.tmp 57) c24_12 c24_38)
noncomputable def J24_41 (call : VCaller) (n : Nat) (t2 t3 t10 : VVal) (h : VHeap) : VAns :=
  rd (eqI t10 (I 4)) fun t58 =>
  (cnd t58 (J24_13 call n t2 t3 h) (J24_39 call n t2 t3 t10 h))
theorem L24_41 (call : VCaller) (n : Nat) : Sim 177 (runK call n c24_40 (D24_3 call n)) (apL [2, 3, 10] (J24_41 call n)) := Sim.reg (Sim.cond (L24_13 call n) (L24_39 call n)) (by kernel_rfl) (by kernel_rfl)
noncomputable def c24_42 : VCode := .seq (.region false (A24 [1, 0, 1, 0, 1, 1, 1, 1, 0])) (.cond (.tmp 30) c24_10 c24_40)
noncomputable def J24_43 (call : VCaller) (n : Nat) (t2 t3 t10 : VVal) (h : VHeap) : VAns :=
  rd (eqI t10 (I 3)) fun t31 =>
  (cnd t31 (J24_11 call n t2 t3 h) (J24_41 call n t2 t3 t10 h))
theorem L24_43 (call : VCaller) (n : Nat) : Sim 177 (runK call n c24_42 (D24_3 call n)) (apL [2, 3, 10] (J24_43 call n)) := Sim.reg (Sim.cond (L24_11 call n) (L24_41 call n)) (by kernel_rfl) (by kernel_rfl)
noncomputable def c24_44 : VCode := .seq (.region false (A24 [1, 0, 1, 0, 1, 1, 0])) (.cond (.tmp 18) c24_6 c24_42)
noncomputable def J24_45 (call : VCaller) (n : Nat) (t2 t3 t10 : VVal) (h : VHeap) : VAns :=
  rd (eqI t10 (I 2)) fun t19 =>
  (cnd t19 (J24_7 call n t2 t3 h) (J24_43 call n t2 t3 t10 h))
theorem L24_45 (call : VCaller) (n : Nat) : Sim 177 (runK call n c24_44 (D24_3 call n)) (apL [2, 3, 10] (J24_45 call n)) := Sim.reg (Sim.cond (L24_7 call n) (L24_43 call n)) (by kernel_rfl) (by kernel_rfl)
noncomputable def J24_46 (call : VCaller) (n : Nat) (t2 t3 t10 t11 : VVal) (h : VHeap) : VAns :=
  (cnd t11 (J24_5 call n t2 t3 h) (J24_45 call n t2 t3 t10 h))
theorem L24_46 (call : VCaller) (n : Nat) : Sim 177 (runK call n (.cond (.tmp 11) c24_4 c24_44) (D24_3 call n)) (apL [2, 3, 10, 11] (J24_46 call n)) := (Sim.cond (L24_5 call n) (L24_45 call n))
noncomputable def D24_47 (call : VCaller) (n : Nat) : Kont := kn (runK call n (.cond (.tmp 11) c24_4 c24_44) (D24_3 call n)) (D24_3 call n)
noncomputable def c24_48 : VCode := .region false (A24 [1, 0, 1, 0, 0, 1, 1])
noncomputable def J24_49 (call : VCaller) (n : Nat) (t2 t3 t10 : VVal) (h : VHeap) : VAns :=
  rd (eqI t10 (I 9)) fun t13 =>
  (J24_46 call n t2 t3 t10 t13 h)
theorem L24_49 (call : VCaller) (n : Nat) : Sim 177 (runK call n c24_48 (D24_47 call n)) (apL [2, 3, 10] (J24_49 call n)) := Sim.regE (L24_46 call n) (by kernel_rfl) (by kernel_rfl)
noncomputable def c24_50 : VCode := .seq (.region false (A24 [1, 0, 1, 0, 0, 0])) (.cond (.tmp 11) .skip c24_48)
noncomputable def J24_51 (call : VCaller) (n : Nat) (t2 t3 t10 : VVal) (h : VHeap) : VAns :=
  rd (eqI t10 (I 1)) fun t12 =>
  (cnd t12 (J24_46 call n t2 t3 t10 t12 h) (J24_49 call n t2 t3 t10 h))
theorem L24_51 (call : VCaller) (n : Nat) : Sim 177 (runK call n c24_50 (D24_47 call n)) (apL [2, 3, 10] (J24_51 call n)) := Sim.reg (Sim.cond (Sim.skip (L24_46 call n)) (L24_49 call n)) (by kernel_rfl) (by kernel_rfl)
noncomputable def c24_52 : VCode := .seq (.region false (A24 [1, 0, 0])) (.block 0 (.seq c24_50 (.cond (.tmp 11) c24_4 c24_44)))
noncomputable def J24_53 (call : VCaller) (n : Nat) (t2 t3 : VVal) (h : VHeap) : VAns :=
  rd (faddr 0 t3) fun t9 =>
  rd (VHeap.load1 h t9) fun t10 =>
  (J24_51 call n t2 t3 t10 h)
theorem L24_53 (call : VCaller) (n : Nat) : Sim 177 (runK call n c24_52 (D24_2 call n)) (apL [2, 3] (J24_53 call n)) := Sim.reg (Sim.block (Sim.seq (L24_51 call n))) (by kernel_rfl) (by kernel_rfl)
noncomputable def c24_54 : VCode := .seq (.region false (A24 [0])) (.seq c24_52 c24_0)
noncomputable def J24_55 (call : VCaller) (n : Nat) (t0 t1 : VVal) (h : VHeap) : VAns :=
  fr (VOp.fresh [] (.box 61 (.const t0))) h fun t2 h0 =>
  fr (VOp.fresh [] (.box 30 (.const t1))) h0 fun t3 h1 =>
  (J24_53 call n t2 t3 h1)
theorem L24_55 (call : VCaller) (n : Nat) : Sim 177 (runK call n c24_54 (fin rs24)) (apL [0, 1] (J24_55 call n)) := Sim.reg (Sim.seq (L24_53 call n)) (by kernel_rfl) (by kernel_rfl)
noncomputable def vf24 : VFunc := ⟨177, rs24, c24_54⟩
noncomputable def S24 (call : VCaller) (n : Nat) : VRun := fun args h => match args with
  | [a0, a1] => (J24_55 call n a0 a1 h)
  | args => runK call n vf24.body (fin vf24.results) (args ++ List.replicate (vf24.ntmps - args.length) .undef) h
theorem S24_ok : FastFn.ok ⟨24, vf24, S24⟩ := by
  intro call n args h
  show _ = S24 call n args h
  unfold S24
  split
  · exact (((L24_55 call n) : Sim 177 (runK call n vf24.body (fin vf24.results)) _) _ _ rfl).trans (by kernel_rfl)
  · rfl
theorem vf24_ok : FastFn.inP Try.prog ⟨24, vf24, S24⟩ := by
  show funcV Try.prog 24 = some vf24
  kernel_rfl
/- (ferrule/low.former).read -/
noncomputable def A30 := opsAt Try.prog 30
noncomputable def rs30 : List VResult := [.tmp 4]
theorem R30 : Sim 12 (fin rs30 .ret) (fun σ h => (finV [rT (σ 4)] h)) := Sim.of (by kernel_rfl)
noncomputable def c30_0 : VCode := .seq (.region false (A30 [1, 0])) .ret
noncomputable def J30_1 (call : VCaller) (n : Nat) (t1 t2 : VVal) (h : VHeap) : VAns :=
  rd (eqI t1 (.int .i64 (.negSucc 0))) fun t6 =>
  gd false t6 (VHeap.loadA h 8 t2) fun t8 =>
  gd false t6 (some t1) fun t9 =>
  bp .call (opStep call ⟨none, .callF 23 [(.const t8), (.const t9)], some (0, false), [], []⟩ [t6] h) thr fun t10 h5 =>
  rd (pickF t6 (.bool true) t10) fun t11 =>
  (finV [rT t11] h5)
theorem L30_1 (call : VCaller) (n : Nat) : Sim 12 (runK call n c30_0 (fin rs30)) (apL [1, 2] (J30_1 call n)) := Sim.reg (Sim.ret R30) (by kernel_rfl) (by kernel_rfl)
noncomputable def c30_2 : VCode := .seq (.region false (A30 [0])) c30_0
noncomputable def J30_3 (call : VCaller) (n : Nat) (t0 t1 : VVal) (h : VHeap) : VAns :=
  fr (VOp.fresh [] (.box 61 (.const t0))) h fun t2 h0 =>
  (J30_1 call n t1 t2 h0)
theorem L30_3 (call : VCaller) (n : Nat) : Sim 12 (runK call n c30_2 (fin rs30)) (apL [0, 1] (J30_3 call n)) := Sim.reg (L30_1 call n) (by kernel_rfl) (by kernel_rfl)
noncomputable def vf30 : VFunc := ⟨12, rs30, c30_2⟩
noncomputable def S30 (call : VCaller) (n : Nat) : VRun := fun args h => match args with
  | [a0, a1] => (J30_3 call n a0 a1 h)
  | args => runK call n vf30.body (fin vf30.results) (args ++ List.replicate (vf30.ntmps - args.length) .undef) h
theorem S30_ok : FastFn.ok ⟨30, vf30, S30⟩ := by
  intro call n args h
  show _ = S30 call n args h
  unfold S30
  split
  · exact (((L30_3 call n) : Sim 12 (runK call n vf30.body (fin vf30.results)) _) _ _ rfl).trans (by kernel_rfl)
  · rfl
theorem vf30_ok : FastFn.inP Try.prog ⟨30, vf30, S30⟩ := by
  show funcV Try.prog 30 = some vf30
  kernel_rfl
/- ferrule/mir.Do -/
noncomputable def A31 := opsAt Try.prog 31
noncomputable def rs31 : List VResult := [.tmp 6, .tmp 7]
theorem R31 : Sim 122 (fin rs31 .ret) (fun σ h => (finV [rT (σ 6), rT (σ 7)] h)) := Sim.of (by kernel_rfl)
noncomputable def c31_0 : VCode := .seq (.region false (A31 [1, 1, 1, 1, 1, 0])) .ret
noncomputable def J31_1 (call : VCaller) (n : Nat) (t11 : VVal) (h : VHeap) : VAns :=
  rd (convF .i32 t11) fun t120 =>
  rd (convF .i64 t120) fun t121 =>
  (finV [rT t121, rT (.bool true)] h)
theorem L31_1 (call : VCaller) (n : Nat) : Sim 122 (runK call n c31_0 (fin rs31)) (apL [11] (J31_1 call n)) := Sim.reg (Sim.ret R31) (by kernel_rfl) (by kernel_rfl)
noncomputable def D31_2 (call : VCaller) (n : Nat) : Kont := kn (runK call n c31_0 (fin rs31)) (fin rs31)
noncomputable def D31_3 (call : VCaller) (n : Nat) : Kont := kb 0 (D31_2 call n)
noncomputable def c31_4 : VCode := .region false (A31 [1, 1, 1, 1, 0, 1, 0, 1, 0])
noncomputable def J31_5 (call : VCaller) (n : Nat) (t8 t9 : VVal) (h : VHeap) : VAns :=
  rd (addI t8 t9) fun t24 =>
  rd (convF .i64 t24) fun t25 =>
  (J31_1 call n t25 h)
theorem L31_5 (call : VCaller) (n : Nat) : Sim 122 (runK call n c31_4 (D31_3 call n)) (apL [8, 9] (J31_5 call n)) := Sim.regE (L31_1 call n) (by kernel_rfl) (by kernel_rfl)
noncomputable def c31_6 : VCode := .region false (A31 [1, 1, 1, 1, 0, 1, 0, 1, 1, 1, 0])
noncomputable def J31_7 (call : VCaller) (n : Nat) (t8 t9 : VVal) (h : VHeap) : VAns :=
  rd (subI t8 t9) fun t30 =>
  rd (convF .i64 t30) fun t31 =>
  (J31_1 call n t31 h)
theorem L31_7 (call : VCaller) (n : Nat) : Sim 122 (runK call n c31_6 (D31_3 call n)) (apL [8, 9] (J31_7 call n)) := Sim.regE (L31_1 call n) (by kernel_rfl) (by kernel_rfl)
noncomputable def c31_8 : VCode := .region false (A31 [1, 1, 1, 1, 0, 1, 0, 1, 1, 1, 1, 1, 0])
noncomputable def J31_9 (call : VCaller) (n : Nat) (t8 t9 : VVal) (h : VHeap) : VAns :=
  rd (binV .mul (.flat .int) t8 t9) fun t36 =>
  rd (convF .i64 t36) fun t37 =>
  (J31_1 call n t37 h)
theorem L31_9 (call : VCaller) (n : Nat) : Sim 122 (runK call n c31_8 (D31_3 call n)) (apL [8, 9] (J31_9 call n)) := Sim.regE (L31_1 call n) (by kernel_rfl) (by kernel_rfl)
noncomputable def c31_10 : VCode := .region false (A31 [1, 1, 1, 1, 0, 1, 0, 1, 1, 1, 1, 1, 1, 1, 0])
noncomputable def J31_11 (call : VCaller) (n : Nat) (t8 t9 : VVal) (h : VHeap) : VAns :=
  rd (convF .i64 t8) fun t41 =>
  rd (convF .i64 t9) fun t43 =>
  rd (binV .mul (.flat .int) t41 t43) fun t44 =>
  rd (binV .shr (.flat .int) t44 (.int .u64 (.ofNat 32))) fun t45 =>
  (J31_1 call n t45 h)
theorem L31_11 (call : VCaller) (n : Nat) : Sim 122 (runK call n c31_10 (D31_3 call n)) (apL [8, 9] (J31_11 call n)) := Sim.regE (L31_1 call n) (by kernel_rfl) (by kernel_rfl)
noncomputable def c31_12 : VCode := .region false (A31 [1, 1, 1, 1, 0, 1, 0, 1, 1, 1, 1, 1, 1, 1, 1, 1, 0])
noncomputable def J31_13 (call : VCaller) (n : Nat) (t8 t9 : VVal) (h : VHeap) : VAns :=
  rd (convF .u32 t8) fun t49 =>
  rd (convF .u64 t49) fun t50 =>
  rd (convF .u32 t9) fun t52 =>
  rd (convF .u64 t52) fun t53 =>
  rd (binV .mul (.flat .int) t50 t53) fun t54 =>
  rd (binV .shr (.flat .int) t54 (.int .u64 (.ofNat 32))) fun t55 =>
  rd (convF .i64 t55) fun t56 =>
  (J31_1 call n t56 h)
theorem L31_13 (call : VCaller) (n : Nat) : Sim 122 (runK call n c31_12 (D31_3 call n)) (apL [8, 9] (J31_13 call n)) := Sim.regE (L31_1 call n) (by kernel_rfl) (by kernel_rfl)
noncomputable def c31_14 : VCode := .region false (A31 [1, 1, 1, 1, 0, 1, 0, 1, 1, 1, 1, 1, 1, 1, 1, 1, 1, 1, 0])
noncomputable def J31_15 (call : VCaller) (n : Nat) (t0 t8 t9 : VVal) (h : VHeap) : VAns :=
  rd (convF .i64 t8) fun t64 =>
  rd (convF .i64 t9) fun t66 =>
  bc (call 40 [t0, t64, t66] h) thr fun t67 h5 =>
  (J31_1 call n t67 h5)
theorem L31_15 (call : VCaller) (n : Nat) : Sim 122 (runK call n c31_14 (D31_3 call n)) (apL [0, 8, 9] (J31_15 call n)) := Sim.regE (L31_1 call n) (by kernel_rfl) (by kernel_rfl)
noncomputable def c31_16 : VCode := .region false (A31 [1, 1, 1, 1, 0, 1, 0, 1, 1, 1, 1, 1, 1, 1, 1, 1, 1, 1, 1, 1, 0])
noncomputable def J31_17 (call : VCaller) (n : Nat) (t8 t9 : VVal) (h : VHeap) : VAns :=
  rd (binV .and (.flat .int) t8 t9) fun t72 =>
  rd (convF .i64 t72) fun t73 =>
  (J31_1 call n t73 h)
theorem L31_17 (call : VCaller) (n : Nat) : Sim 122 (runK call n c31_16 (D31_3 call n)) (apL [8, 9] (J31_17 call n)) := Sim.regE (L31_1 call n) (by kernel_rfl) (by kernel_rfl)
noncomputable def c31_18 : VCode := .region false (A31 [1, 1, 1, 1, 0, 1, 0, 1, 1, 1, 1, 1, 1, 1, 1, 1, 1, 1, 1, 1, 1, 1, 0])
noncomputable def J31_19 (call : VCaller) (n : Nat) (t8 t9 : VVal) (h : VHeap) : VAns :=
  rd (binV .or (.flat .int) t8 t9) fun t78 =>
  rd (convF .i64 t78) fun t79 =>
  (J31_1 call n t79 h)
theorem L31_19 (call : VCaller) (n : Nat) : Sim 122 (runK call n c31_18 (D31_3 call n)) (apL [8, 9] (J31_19 call n)) := Sim.regE (L31_1 call n) (by kernel_rfl) (by kernel_rfl)
noncomputable def c31_20 : VCode := .region false (A31 [1, 1, 1, 1, 0, 1, 0, 1, 1, 1, 1, 1, 1, 1, 1, 1, 1, 1, 1, 1, 1, 1, 1, 1, 0])
noncomputable def J31_21 (call : VCaller) (n : Nat) (t8 t9 : VVal) (h : VHeap) : VAns :=
  rd (binV .xor (.flat .int) t8 t9) fun t84 =>
  rd (convF .i64 t84) fun t85 =>
  (J31_1 call n t85 h)
theorem L31_21 (call : VCaller) (n : Nat) : Sim 122 (runK call n c31_20 (D31_3 call n)) (apL [8, 9] (J31_21 call n)) := Sim.regE (L31_1 call n) (by kernel_rfl) (by kernel_rfl)
noncomputable def c31_22 : VCode := .region false (A31 [1, 1, 1, 1, 0, 1, 0, 1, 1, 1, 1, 1, 1, 1, 1, 1, 1, 1, 1, 1, 1, 1, 1, 1, 1, 1, 0])
noncomputable def J31_23 (call : VCaller) (n : Nat) (t8 t10 : VVal) (h : VHeap) : VAns :=
  rd (binV .shl (.flat .int) t8 t10) fun t90 =>
  rd (convF .i64 t90) fun t91 =>
  (J31_1 call n t91 h)
theorem L31_23 (call : VCaller) (n : Nat) : Sim 122 (runK call n c31_22 (D31_3 call n)) (apL [8, 10] (J31_23 call n)) := Sim.regE (L31_1 call n) (by kernel_rfl) (by kernel_rfl)
noncomputable def c31_24 : VCode := .region false (A31 [1, 1, 1, 1, 0, 1, 0, 1, 1, 1, 1, 1, 1, 1, 1, 1, 1, 1, 1, 1, 1, 1, 1, 1, 1, 1, 1, 1, 0])
noncomputable def J31_25 (call : VCaller) (n : Nat) (t8 t10 : VVal) (h : VHeap) : VAns :=
  rd (convF .u32 t8) fun t95 =>
  rd (binV .shr (.flat .int) t95 t10) fun t97 =>
  rd (convF .i64 t97) fun t98 =>
  (J31_1 call n t98 h)
theorem L31_25 (call : VCaller) (n : Nat) : Sim 122 (runK call n c31_24 (D31_3 call n)) (apL [8, 10] (J31_25 call n)) := Sim.regE (L31_1 call n) (by kernel_rfl) (by kernel_rfl)
noncomputable def c31_26 : VCode := .region false (A31 [1, 1, 1, 1, 0, 1, 0, 1, 1, 1, 1, 1, 1, 1, 1, 1, 1, 1, 1, 1, 1, 1, 1, 1, 1, 1, 1, 1, 1, 1, 0])
noncomputable def J31_27 (call : VCaller) (n : Nat) (t8 t10 : VVal) (h : VHeap) : VAns :=
  rd (binV .shr (.flat .int) t8 t10) fun t103 =>
  rd (convF .i64 t103) fun t104 =>
  (J31_1 call n t104 h)
theorem L31_27 (call : VCaller) (n : Nat) : Sim 122 (runK call n c31_26 (D31_3 call n)) (apL [8, 10] (J31_27 call n)) := Sim.regE (L31_1 call n) (by kernel_rfl) (by kernel_rfl)
noncomputable def c31_28 : VCode := .region false (A31 [1, 1, 1, 1, 0, 1, 0, 1, 1, 1, 1, 1, 1, 1, 1, 1, 1, 1, 1, 1, 1, 1, 1, 1, 1, 1, 1, 1, 1, 1, 1, 1, 0])
noncomputable def J31_29 (call : VCaller) (n : Nat) (t8 t9 : VVal) (h : VHeap) : VAns :=
  rd (ltI t8 t9) fun t109 =>
  bc (call 41 [t109] h) thr fun t110 h3 =>
  (J31_1 call n t110 h3)
theorem L31_29 (call : VCaller) (n : Nat) : Sim 122 (runK call n c31_28 (D31_3 call n)) (apL [8, 9] (J31_29 call n)) := Sim.regE (L31_1 call n) (by kernel_rfl) (by kernel_rfl)
noncomputable def c31_30 : VCode := .region false (A31 [1, 1, 1, 1, 0, 1, 0, 1, 1, 1, 1, 1, 1, 1, 1, 1, 1, 1, 1, 1, 1, 1, 1, 1, 1, 1, 1, 1, 1, 1, 1, 1, 1, 1, 0])
noncomputable def J31_31 (call : VCaller) (n : Nat) (t8 t9 : VVal) (h : VHeap) : VAns :=
  rd (convF .u32 t8) fun t114 =>
  rd (convF .u32 t9) fun t116 =>
  rd (ltI t114 t116) fun t117 =>
  bc (call 41 [t117] h) thr fun t118 h5 =>
  (J31_1 call n t118 h5)
theorem L31_31 (call : VCaller) (n : Nat) : Sim 122 (runK call n c31_30 (D31_3 call n)) (apL [8, 9] (J31_31 call n)) := Sim.regE (L31_1 call n) (by kernel_rfl) (by kernel_rfl)
noncomputable def c31_32 : VCode := .seq (.region false (A31 [1, 1, 1, 1, 0, 1, 0, 1, 1, 1, 1, 1, 1, 1, 1, 1, 1, 1, 1, 1, 1, 1, 1, 1, 1, 1, 1, 1, 1, 1, 1, 1, 1, 1, 1, 0])) .ret
noncomputable def J31_33 (call : VCaller) (n : Nat) (h : VHeap) : VAns :=
  (finV [rT (I 0), rT (.bool false)] h)
theorem L31_33 (call : VCaller) (n : Nat) : Sim 122 (runK call n c31_32 (D31_3 call n)) (apL [] (J31_33 call n)) := Sim.reg (Sim.ret R31) (by kernel_rfl) (by kernel_rfl)
noncomputable def c31_34 : VCode := .seq (.region false (A31 [1, 1, 1, 1, 0, 1, 0, 1, 1, 1, 1, 1, 1, 1, 1, 1, 1, 1, 1, 1, 1, 1, 1, 1, 1, 1, 1, 1, 1, 1, 1, 1, 1, 0])) (.cond (.tmp 111) c31_30 c31_32)
noncomputable def J31_35 (call : VCaller) (n : Nat) (t8 t9 t19 : VVal) (h : VHeap) : VAns :=
  rd (eqS t19 (.str [115, 108, 116, 117])) fun t112 =>
  (cnd t112 (J31_31 call n t8 t9 h) (J31_33 call n h))
theorem L31_35 (call : VCaller) (n : Nat) : Sim 122 (runK call n c31_34 (D31_3 call n)) (apL [8, 9, 19] (J31_35 call n)) := Sim.reg (Sim.cond (L31_31 call n) (L31_33 call n)) (by kernel_rfl) (by kernel_rfl)
noncomputable def c31_36 : VCode := .seq (.region false (A31 [1, 1, 1, 1, 0, 1, 0, 1, 1, 1, 1, 1, 1, 1, 1, 1, 1, 1, 1, 1, 1, 1, 1, 1, 1, 1, 1, 1, 1, 1, 1, 0])) (.cond (.tmp 105) c31_28 c31_34)
noncomputable def J31_37 (call : VCaller) (n : Nat) (t8 t9 t19 : VVal) (h : VHeap) : VAns :=
  rd (eqS t19 (.str [115, 108, 116])) fun t106 =>
  (cnd t106 (J31_29 call n t8 t9 h) (J31_35 call n t8 t9 t19 h))
theorem L31_37 (call : VCaller) (n : Nat) : Sim 122 (runK call n c31_36 (D31_3 call n)) (apL [8, 9, 19] (J31_37 call n)) := Sim.reg (Sim.cond (L31_29 call n) (L31_35 call n)) (by kernel_rfl) (by kernel_rfl)
noncomputable def c31_38 : VCode := .seq (.region false (A31 [1, 1, 1, 1, 0, 1, 0, 1, 1, 1, 1, 1, 1, 1, 1, 1, 1, 1, 1, 1, 1, 1, 1, 1, 1, 1, 1, 1, 1, 0])) (.cond (.tmp 99) c31_26 c31_36)
noncomputable def J31_39 (call : VCaller) (n : Nat) (t8 t9 t10 t19 : VVal) (h : VHeap) : VAns :=
  rd (eqS t19 (.str [115, 114, 97])) fun t100 =>
  (cnd t100 (J31_27 call n t8 t10 h) (J31_37 call n t8 t9 t19 h))
theorem L31_39 (call : VCaller) (n : Nat) : Sim 122 (runK call n c31_38 (D31_3 call n)) (apL [8, 9, 10, 19] (J31_39 call n)) := Sim.reg (Sim.cond (L31_27 call n) (L31_37 call n)) (by kernel_rfl) (by kernel_rfl)
noncomputable def c31_40 : VCode := .seq (.region false (A31 [1, 1, 1, 1, 0, 1, 0, 1, 1, 1, 1, 1, 1, 1, 1, 1, 1, 1, 1, 1, 1, 1, 1, 1, 1, 1, 1, 0])) (.cond (.tmp 92) c31_24 c31_38)
noncomputable def J31_41 (call : VCaller) (n : Nat) (t8 t9 t10 t19 : VVal) (h : VHeap) : VAns :=
  rd (eqS t19 (.str [115, 114, 108])) fun t93 =>
  (cnd t93 (J31_25 call n t8 t10 h) (J31_39 call n t8 t9 t10 t19 h))
theorem L31_41 (call : VCaller) (n : Nat) : Sim 122 (runK call n c31_40 (D31_3 call n)) (apL [8, 9, 10, 19] (J31_41 call n)) := Sim.reg (Sim.cond (L31_25 call n) (L31_39 call n)) (by kernel_rfl) (by kernel_rfl)
noncomputable def c31_42 : VCode := .seq (.region false (A31 [1, 1, 1, 1, 0, 1, 0, 1, 1, 1, 1, 1, 1, 1, 1, 1, 1, 1, 1, 1, 1, 1, 1, 1, 1, 0])) (.cond (.tmp 86) c31_22 c31_40)
noncomputable def J31_43 (call : VCaller) (n : Nat) (t8 t9 t10 t19 : VVal) (h : VHeap) : VAns :=
  rd (eqS t19 (.str [115, 108, 108])) fun t87 =>
  (cnd t87 (J31_23 call n t8 t10 h) (J31_41 call n t8 t9 t10 t19 h))
theorem L31_43 (call : VCaller) (n : Nat) : Sim 122 (runK call n c31_42 (D31_3 call n)) (apL [8, 9, 10, 19] (J31_43 call n)) := Sim.reg (Sim.cond (L31_23 call n) (L31_41 call n)) (by kernel_rfl) (by kernel_rfl)
noncomputable def c31_44 : VCode := .seq (.region false (A31 [1, 1, 1, 1, 0, 1, 0, 1, 1, 1, 1, 1, 1, 1, 1, 1, 1, 1, 1, 1, 1, 1, 1, 0])) (.cond (.tmp 80) c31_20 c31_42)
noncomputable def J31_45 (call : VCaller) (n : Nat) (t8 t9 t10 t19 : VVal) (h : VHeap) : VAns :=
  rd (eqS t19 (.str [120, 111, 114])) fun t81 =>
  (cnd t81 (J31_21 call n t8 t9 h) (J31_43 call n t8 t9 t10 t19 h))
theorem L31_45 (call : VCaller) (n : Nat) : Sim 122 (runK call n c31_44 (D31_3 call n)) (apL [8, 9, 10, 19] (J31_45 call n)) := Sim.reg (Sim.cond (L31_21 call n) (L31_43 call n)) (by kernel_rfl) (by kernel_rfl)
noncomputable def c31_46 : VCode := .seq (.region false (A31 [1, 1, 1, 1, 0, 1, 0, 1, 1, 1, 1, 1, 1, 1, 1, 1, 1, 1, 1, 1, 1, 0])) (.cond (.tmp 74) c31_18 c31_44)
noncomputable def J31_47 (call : VCaller) (n : Nat) (t8 t9 t10 t19 : VVal) (h : VHeap) : VAns :=
  rd (eqS t19 (.str [111, 114])) fun t75 =>
  (cnd t75 (J31_19 call n t8 t9 h) (J31_45 call n t8 t9 t10 t19 h))
theorem L31_47 (call : VCaller) (n : Nat) : Sim 122 (runK call n c31_46 (D31_3 call n)) (apL [8, 9, 10, 19] (J31_47 call n)) := Sim.reg (Sim.cond (L31_19 call n) (L31_45 call n)) (by kernel_rfl) (by kernel_rfl)
noncomputable def c31_48 : VCode := .seq (.region false (A31 [1, 1, 1, 1, 0, 1, 0, 1, 1, 1, 1, 1, 1, 1, 1, 1, 1, 1, 1, 0])) (.cond (.tmp 68) c31_16 c31_46)
noncomputable def J31_49 (call : VCaller) (n : Nat) (t8 t9 t10 t19 : VVal) (h : VHeap) : VAns :=
  rd (eqS t19 (.str [97, 110, 100])) fun t69 =>
  (cnd t69 (J31_17 call n t8 t9 h) (J31_47 call n t8 t9 t10 t19 h))
theorem L31_49 (call : VCaller) (n : Nat) : Sim 122 (runK call n c31_48 (D31_3 call n)) (apL [8, 9, 10, 19] (J31_49 call n)) := Sim.reg (Sim.cond (L31_17 call n) (L31_47 call n)) (by kernel_rfl) (by kernel_rfl)
noncomputable def J31_50 (call : VCaller) (n : Nat) (t0 t8 t9 t10 t19 t57 : VVal) (h : VHeap) : VAns :=
  (cnd t57 (J31_15 call n t0 t8 t9 h) (J31_49 call n t8 t9 t10 t19 h))
theorem L31_50 (call : VCaller) (n : Nat) : Sim 122 (runK call n (.cond (.tmp 57) c31_14 c31_48) (D31_3 call n)) (apL [0, 8, 9, 10, 19, 57] (J31_50 call n)) := (Sim.cond (L31_15 call n) (L31_49 call n))
noncomputable def D31_51 (call : VCaller) (n : Nat) : Kont := kn (runK call n (.cond (.tmp 57) c31_14 c31_48) (D31_3 call n)) (D31_3 call n)
noncomputable def c31_52 : VCode := .region false (A31 [1, 1, 1, 1, 0, 1, 0, 1, 1, 1, 1, 1, 1, 1, 1, 1, 1, 0, 1, 1, 1, 1, 1, 1])
noncomputable def J31_53 (call : VCaller) (n : Nat) (t0 t8 t9 t10 t19 : VVal) (h : VHeap) : VAns :=
  rd (eqS t19 (.str [114, 101, 109, 117])) fun t61 =>
  (J31_50 call n t0 t8 t9 t10 t19 t61 h)
theorem L31_53 (call : VCaller) (n : Nat) : Sim 122 (runK call n c31_52 (D31_51 call n)) (apL [0, 8, 9, 10, 19] (J31_53 call n)) := Sim.regE (L31_50 call n) (by kernel_rfl) (by kernel_rfl)
noncomputable def c31_54 : VCode := .seq (.region false (A31 [1, 1, 1, 1, 0, 1, 0, 1, 1, 1, 1, 1, 1, 1, 1, 1, 1, 0, 1, 1, 1, 1, 0])) (.cond (.tmp 57) .skip c31_52)
noncomputable def J31_55 (call : VCaller) (n : Nat) (t0 t8 t9 t10 t19 : VVal) (h : VHeap) : VAns :=
  rd (eqS t19 (.str [114, 101, 109])) fun t60 =>
  (cnd t60 (J31_50 call n t0 t8 t9 t10 t19 t60 h) (J31_53 call n t0 t8 t9 t10 t19 h))
theorem L31_55 (call : VCaller) (n : Nat) : Sim 122 (runK call n c31_54 (D31_51 call n)) (apL [0, 8, 9, 10, 19] (J31_55 call n)) := Sim.reg (Sim.cond (Sim.skip (L31_50 call n)) (L31_53 call n)) (by kernel_rfl) (by kernel_rfl)
noncomputable def c31_56 : VCode := .seq (.region false (A31 [1, 1, 1, 1, 0, 1, 0, 1, 1, 1, 1, 1, 1, 1, 1, 1, 1, 0, 1, 1, 0])) (.cond (.tmp 57) .skip c31_54)
noncomputable def J31_57 (call : VCaller) (n : Nat) (t0 t8 t9 t10 t19 : VVal) (h : VHeap) : VAns :=
  rd (eqS t19 (.str [100, 105, 118, 117])) fun t59 =>
  (cnd t59 (J31_50 call n t0 t8 t9 t10 t19 t59 h) (J31_55 call n t0 t8 t9 t10 t19 h))
theorem L31_57 (call : VCaller) (n : Nat) : Sim 122 (runK call n c31_56 (D31_51 call n)) (apL [0, 8, 9, 10, 19] (J31_57 call n)) := Sim.reg (Sim.cond (Sim.skip (L31_50 call n)) (L31_55 call n)) (by kernel_rfl) (by kernel_rfl)
noncomputable def c31_58 : VCode := .seq (.region false (A31 [1, 1, 1, 1, 0, 1, 0, 1, 1, 1, 1, 1, 1, 1, 1, 1, 1, 0, 0])) (.cond (.tmp 57) .skip c31_56)
noncomputable def J31_59 (call : VCaller) (n : Nat) (t0 t8 t9 t10 t19 : VVal) (h : VHeap) : VAns :=
  rd (eqS t19 (.str [100, 105, 118])) fun t58 =>
  (cnd t58 (J31_50 call n t0 t8 t9 t10 t19 t58 h) (J31_57 call n t0 t8 t9 t10 t19 h))
theorem L31_59 (call : VCaller) (n : Nat) : Sim 122 (runK call n c31_58 (D31_51 call n)) (apL [0, 8, 9, 10, 19] (J31_59 call n)) := Sim.reg (Sim.cond (Sim.skip (L31_50 call n)) (L31_57 call n)) (by kernel_rfl) (by kernel_rfl)
noncomputable def c31_60 : VCode := .seq (.region false (A31 [1, 1, 1, 1, 0, 1, 0, 1, 1, 1, 1, 1, 1, 1, 1, 0])) (.cond (.tmp 46) c31_12 (.seq c31_58 (.cond (.tmp 57) c31_14 c31_48)))
noncomputable def J31_61 (call : VCaller) (n : Nat) (t0 t8 t9 t10 t19 : VVal) (h : VHeap) : VAns :=
  rd (eqS t19 (.str [109, 117, 108, 104, 117])) fun t47 =>
  (cnd t47 (J31_13 call n t8 t9 h) (J31_59 call n t0 t8 t9 t10 t19 h))
theorem L31_61 (call : VCaller) (n : Nat) : Sim 122 (runK call n c31_60 (D31_3 call n)) (apL [0, 8, 9, 10, 19] (J31_61 call n)) := Sim.reg (Sim.cond (L31_13 call n) (Sim.seq (L31_59 call n))) (by kernel_rfl) (by kernel_rfl)
noncomputable def c31_62 : VCode := .seq (.region false (A31 [1, 1, 1, 1, 0, 1, 0, 1, 1, 1, 1, 1, 1, 0])) (.cond (.tmp 38) c31_10 c31_60)
noncomputable def J31_63 (call : VCaller) (n : Nat) (t0 t8 t9 t10 t19 : VVal) (h : VHeap) : VAns :=
  rd (eqS t19 (.str [109, 117, 108, 104])) fun t39 =>
  (cnd t39 (J31_11 call n t8 t9 h) (J31_61 call n t0 t8 t9 t10 t19 h))
theorem L31_63 (call : VCaller) (n : Nat) : Sim 122 (runK call n c31_62 (D31_3 call n)) (apL [0, 8, 9, 10, 19] (J31_63 call n)) := Sim.reg (Sim.cond (L31_11 call n) (L31_61 call n)) (by kernel_rfl) (by kernel_rfl)
noncomputable def c31_64 : VCode := .seq (.region false (A31 [1, 1, 1, 1, 0, 1, 0, 1, 1, 1, 1, 0])) (.cond (.tmp 32) c31_8 c31_62)
noncomputable def J31_65 (call : VCaller) (n : Nat) (t0 t8 t9 t10 t19 : VVal) (h : VHeap) : VAns :=
  rd (eqS t19 (.str [109, 117, 108])) fun t33 =>
  (cnd t33 (J31_9 call n t8 t9 h) (J31_63 call n t0 t8 t9 t10 t19 h))
theorem L31_65 (call : VCaller) (n : Nat) : Sim 122 (runK call n c31_64 (D31_3 call n)) (apL [0, 8, 9, 10, 19] (J31_65 call n)) := Sim.reg (Sim.cond (L31_9 call n) (L31_63 call n)) (by kernel_rfl) (by kernel_rfl)
noncomputable def c31_66 : VCode := .seq (.region false (A31 [1, 1, 1, 1, 0, 1, 0, 1, 1, 0])) (.cond (.tmp 26) c31_6 c31_64)
noncomputable def J31_67 (call : VCaller) (n : Nat) (t0 t8 t9 t10 t19 : VVal) (h : VHeap) : VAns :=
  rd (eqS t19 (.str [115, 117, 98])) fun t27 =>
  (cnd t27 (J31_7 call n t8 t9 h) (J31_65 call n t0 t8 t9 t10 t19 h))
theorem L31_67 (call : VCaller) (n : Nat) : Sim 122 (runK call n c31_66 (D31_3 call n)) (apL [0, 8, 9, 10, 19] (J31_67 call n)) := Sim.reg (Sim.cond (L31_7 call n) (L31_65 call n)) (by kernel_rfl) (by kernel_rfl)
noncomputable def c31_68 : VCode := .seq (.region false (A31 [1, 1, 1, 1, 0, 1, 0, 0])) (.cond (.tmp 20) c31_4 c31_66)
noncomputable def J31_69 (call : VCaller) (n : Nat) (t0 t8 t9 t10 t19 : VVal) (h : VHeap) : VAns :=
  rd (eqS t19 (.str [97, 100, 100])) fun t21 =>
  (cnd t21 (J31_5 call n t8 t9 h) (J31_67 call n t0 t8 t9 t10 t19 h))
theorem L31_69 (call : VCaller) (n : Nat) : Sim 122 (runK call n c31_68 (D31_3 call n)) (apL [0, 8, 9, 10, 19] (J31_69 call n)) := Sim.reg (Sim.cond (L31_5 call n) (L31_67 call n)) (by kernel_rfl) (by kernel_rfl)
noncomputable def c31_70 : VCode := .seq (.region false (A31 [1, 1, 1, 1, 0, 0])) (.block 0 c31_68)
noncomputable def J31_71 (call : VCaller) (n : Nat) (t0 t8 t9 t10 : VVal) (h : VHeap) : VAns :=
  (J31_69 call n t0 t8 t9 t10 t0 h)
theorem L31_71 (call : VCaller) (n : Nat) : Sim 122 (runK call n c31_70 (D31_2 call n)) (apL [0, 8, 9, 10] (J31_71 call n)) := Sim.reg (Sim.block (L31_69 call n)) (by kernel_rfl) (by kernel_rfl)
noncomputable def c31_72 : VCode := .seq (.region false (A31 [1, 1, 1, 0])) (.seq c31_70 c31_0)
noncomputable def J31_73 (call : VCaller) (n : Nat) (t0 t8 t9 t10 : VVal) (h : VHeap) : VAns :=
  (J31_71 call n t0 t8 t9 t10 h)
theorem L31_73 (call : VCaller) (n : Nat) : Sim 122 (runK call n c31_72 (fin rs31)) (apL [0, 8, 9, 10] (J31_73 call n)) := Sim.reg (Sim.seq (L31_71 call n)) (by kernel_rfl) (by kernel_rfl)
noncomputable def c31_74 : VCode := .seq (.region false (A31 [1, 1, 0])) c31_72
noncomputable def J31_75 (call : VCaller) (n : Nat) (t0 t8 t9 : VVal) (h : VHeap) : VAns :=
  rd (convF .u64 t9) fun t17 =>
  rd (binV .and (.flat .int) t17 (.int .u64 (.ofNat 31))) fun t18 =>
  (J31_73 call n t0 t8 t9 t18 h)
theorem L31_75 (call : VCaller) (n : Nat) : Sim 122 (runK call n c31_74 (fin rs31)) (apL [0, 8, 9] (J31_75 call n)) := Sim.reg (L31_73 call n) (by kernel_rfl) (by kernel_rfl)
noncomputable def c31_76 : VCode := .seq (.region false (A31 [1, 0])) c31_74
noncomputable def J31_77 (call : VCaller) (n : Nat) (t0 t1 t2 : VVal) (h : VHeap) : VAns :=
  rd (convF .i32 t1) fun t13 =>
  rd (convF .i32 t2) fun t15 =>
  (J31_75 call n t0 t13 t15 h)
theorem L31_77 (call : VCaller) (n : Nat) : Sim 122 (runK call n c31_76 (fin rs31)) (apL [0, 1, 2] (J31_77 call n)) := Sim.reg (L31_75 call n) (by kernel_rfl) (by kernel_rfl)
noncomputable def c31_78 : VCode := .seq (.region false (A31 [0])) c31_76
noncomputable def J31_79 (call : VCaller) (n : Nat) (t0 t1 t2 : VVal) (h : VHeap) : VAns :=
  (J31_77 call n t0 t1 t2 h)
theorem L31_79 (call : VCaller) (n : Nat) : Sim 122 (runK call n c31_78 (fin rs31)) (apL [0, 1, 2] (J31_79 call n)) := Sim.reg (L31_77 call n) (by kernel_rfl) (by kernel_rfl)
noncomputable def vf31 : VFunc := ⟨122, rs31, c31_78⟩
noncomputable def S31 (call : VCaller) (n : Nat) : VRun := fun args h => match args with
  | [a0, a1, a2] => (J31_79 call n a0 a1 a2 h)
  | args => runK call n vf31.body (fin vf31.results) (args ++ List.replicate (vf31.ntmps - args.length) .undef) h
theorem S31_ok : FastFn.ok ⟨31, vf31, S31⟩ := by
  intro call n args h
  show _ = S31 call n args h
  unfold S31
  split
  · exact (((L31_79 call n) : Sim 122 (runK call n vf31.body (fin vf31.results)) _) _ _ rfl).trans (by kernel_rfl)
  · rfl
theorem vf31_ok : FastFn.inP Try.prog ⟨31, vf31, S31⟩ := by
  show funcV Try.prog 31 = some vf31
  kernel_rfl
/- ferrule/mir.divide -/
noncomputable def A40 := opsAt Try.prog 40
noncomputable def rs40 : List VResult := [.tmp 6]
theorem R40 : Sim 32 (fin rs40 .ret) (fun σ h => (finV [rT (σ 6)] h)) := Sim.of (by kernel_rfl)
noncomputable def c40_0 : VCode := .seq (.region false (A40 [1, 1, 1, 1, 0])) .ret
noncomputable def J40_1 (call : VCaller) (n : Nat) (t8 : VVal) (h : VHeap) : VAns :=
  (finV [rT t8] h)
theorem L40_1 (call : VCaller) (n : Nat) : Sim 32 (runK call n c40_0 (fin rs40)) (apL [8] (J40_1 call n)) := Sim.reg (Sim.ret R40) (by kernel_rfl) (by kernel_rfl)
noncomputable def D40_2 (call : VCaller) (n : Nat) : Kont := kn (runK call n c40_0 (fin rs40)) (fin rs40)
noncomputable def c40_3 : VCode := .seq (.region false (A40 [1, 1, 1, 0, 1, 0, 0])) .ret
noncomputable def J40_4 (call : VCaller) (n : Nat) (t7 : VVal) (h : VHeap) : VAns :=
  (finV [rT t7] h)
theorem L40_4 (call : VCaller) (n : Nat) : Sim 32 (runK call n c40_3 (D40_2 call n)) (apL [7] (J40_4 call n)) := Sim.reg (Sim.ret R40) (by kernel_rfl) (by kernel_rfl)
noncomputable def c40_5 : VCode := .seq (.region false (A40 [1, 1, 1, 0, 0])) (.cond (.tmp 29) c40_3 .skip)
noncomputable def J40_6 (call : VCaller) (n : Nat) (t0 t7 t8 : VVal) (h : VHeap) : VAns :=
  rd (VOp.read [] h (.indexStr (.const t0) (.const (I 0)))) fun t28 =>
  rd (eqI t28 (.int .u8 (.ofNat 100))) fun t29 =>
  (cnd t29 (J40_4 call n t7 h) (J40_1 call n t8 h))
theorem L40_6 (call : VCaller) (n : Nat) : Sim 32 (runK call n c40_5 (D40_2 call n)) (apL [0, 7, 8] (J40_6 call n)) := Sim.reg (Sim.cond (L40_4 call n) (Sim.skip (L40_1 call n))) (by kernel_rfl) (by kernel_rfl)
noncomputable def c40_7 : VCode := .seq (.region false (A40 [1, 1, 0])) (.seq c40_5 c40_0)
noncomputable def J40_8 (call : VCaller) (n : Nat) (t0 t1 t2 : VVal) (h : VHeap) : VAns :=
  bc (call 46 [t1, t2] h) thr fun t24 h2 =>
  rd (extF t24 0) fun t25 =>
  rd (extF t24 1) fun t26 =>
  (J40_6 call n t0 t25 t26 h2)
theorem L40_8 (call : VCaller) (n : Nat) : Sim 32 (runK call n c40_7 (fin rs40)) (apL [0, 1, 2] (J40_8 call n)) := Sim.reg (Sim.seq (L40_6 call n)) (by kernel_rfl) (by kernel_rfl)
noncomputable def D40_9 (call : VCaller) (n : Nat) : Kont := kn (runK call n c40_7 (fin rs40)) (fin rs40)
noncomputable def c40_10 : VCode := .region false (A40 [1, 0, 1, 0])
noncomputable def J40_11 (call : VCaller) (n : Nat) (t0 t1 t2 : VVal) (h : VHeap) : VAns :=
  rd (convF .u32 t1) fun t16 =>
  rd (convF .i64 t16) fun t17 =>
  rd (convF .u32 t2) fun t19 =>
  rd (convF .i64 t19) fun t20 =>
  (J40_8 call n t0 t17 t20 h)
theorem L40_11 (call : VCaller) (n : Nat) : Sim 32 (runK call n c40_10 (D40_9 call n)) (apL [0, 1, 2] (J40_11 call n)) := Sim.regE (L40_8 call n) (by kernel_rfl) (by kernel_rfl)
noncomputable def c40_12 : VCode := .seq (.region false (A40 [1, 0, 0])) (.cond (.tmp 14) c40_10 .skip)
noncomputable def J40_13 (call : VCaller) (n : Nat) (t0 t1 t2 : VVal) (h : VHeap) : VAns :=
  rd (eqS t0 (.str [100, 105, 118, 117])) fun t10 =>
  gd false t10 (some t0) fun t12 =>
  gd false t10 (eqS t12 (.str [114, 101, 109, 117])) fun t13 =>
  rd (pickF t10 (.bool true) t13) fun t14 =>
  (cnd t14 (J40_11 call n t0 t1 t2 h) (J40_8 call n t0 t1 t2 h))
theorem L40_13 (call : VCaller) (n : Nat) : Sim 32 (runK call n c40_12 (D40_9 call n)) (apL [0, 1, 2] (J40_13 call n)) := Sim.reg (Sim.cond (L40_11 call n) (Sim.skip (L40_8 call n))) (by kernel_rfl) (by kernel_rfl)
noncomputable def c40_14 : VCode := .seq (.region false (A40 [0])) (.seq c40_12 c40_7)
noncomputable def J40_15 (call : VCaller) (n : Nat) (t0 t1 t2 : VVal) (h : VHeap) : VAns :=
  (J40_13 call n t0 t1 t2 h)
theorem L40_15 (call : VCaller) (n : Nat) : Sim 32 (runK call n c40_14 (fin rs40)) (apL [0, 1, 2] (J40_15 call n)) := Sim.reg (Sim.seq (L40_13 call n)) (by kernel_rfl) (by kernel_rfl)
noncomputable def vf40 : VFunc := ⟨32, rs40, c40_14⟩
noncomputable def S40 (call : VCaller) (n : Nat) : VRun := fun args h => match args with
  | [a0, a1, a2] => (J40_15 call n a0 a1 a2 h)
  | args => runK call n vf40.body (fin vf40.results) (args ++ List.replicate (vf40.ntmps - args.length) .undef) h
theorem S40_ok : FastFn.ok ⟨40, vf40, S40⟩ := by
  intro call n args h
  show _ = S40 call n args h
  unfold S40
  split
  · exact (((L40_15 call n) : Sim 32 (runK call n vf40.body (fin vf40.results)) _) _ _ rfl).trans (by kernel_rfl)
  · rfl
theorem vf40_ok : FastFn.inP Try.prog ⟨40, vf40, S40⟩ := by
  show funcV Try.prog 40 = some vf40
  kernel_rfl
/- ferrule/mir.quotient -/
noncomputable def A46 := opsAt Try.prog 46
noncomputable def rs46 : List VResult := [.tmp 4, .tmp 5]
theorem R46 : Sim 15 (fin rs46 .ret) (fun σ h => (finV [rT (σ 4), rT (σ 5)] h)) := Sim.of (by kernel_rfl)
noncomputable def c46_0 : VCode := .seq (.region true (A46 [1, 1, 0])) .ret
noncomputable def J46_1 (call : VCaller) (n : Nat) (t0 t1 : VVal) (h : VHeap) : VAns :=
  rd (binV .quo (.flat .int) t0 t1) fun v2 =>
  rd (binV .rem (.flat .int) t0 t1) fun v5 =>
  (finV [rT v2, rT v5] h)
theorem L46_1 (call : VCaller) (n : Nat) : Sim 15 (runK call n c46_0 (fin rs46)) (apL [0, 1] (J46_1 call n)) := Sim.drw (Sim.ret R46) (by kernel_rfl) (by kernel_rfl)
noncomputable def D46_2 (call : VCaller) (n : Nat) : Kont := kn (runK call n c46_0 (fin rs46)) (fin rs46)
noncomputable def c46_3 : VCode := .seq (.region false (A46 [1, 0, 1, 0, 0])) .ret
noncomputable def J46_4 (call : VCaller) (n : Nat) (t0 : VVal) (h : VHeap) : VAns :=
  (finV [rT (.int .i64 (.negSucc 0)), rT t0] h)
theorem L46_4 (call : VCaller) (n : Nat) : Sim 15 (runK call n c46_3 (D46_2 call n)) (apL [0] (J46_4 call n)) := Sim.reg (Sim.ret R46) (by kernel_rfl) (by kernel_rfl)
noncomputable def c46_5 : VCode := .seq (.region false (A46 [1, 0, 0])) (.cond (.tmp 7) c46_3 .skip)
noncomputable def J46_6 (call : VCaller) (n : Nat) (t0 t1 : VVal) (h : VHeap) : VAns :=
  rd (eqI t1 (I 0)) fun t7 =>
  (cnd t7 (J46_4 call n t0 h) (J46_1 call n t0 t1 h))
theorem L46_6 (call : VCaller) (n : Nat) : Sim 15 (runK call n c46_5 (D46_2 call n)) (apL [0, 1] (J46_6 call n)) := Sim.reg (Sim.cond (L46_4 call n) (Sim.skip (L46_1 call n))) (by kernel_rfl) (by kernel_rfl)
noncomputable def c46_7 : VCode := .seq (.region false (A46 [0])) (.seq c46_5 c46_0)
noncomputable def J46_8 (call : VCaller) (n : Nat) (t0 t1 : VVal) (h : VHeap) : VAns :=
  (J46_6 call n t0 t1 h)
theorem L46_8 (call : VCaller) (n : Nat) : Sim 15 (runK call n c46_7 (fin rs46)) (apL [0, 1] (J46_8 call n)) := Sim.reg (Sim.seq (L46_6 call n)) (by kernel_rfl) (by kernel_rfl)
noncomputable def vf46 : VFunc := ⟨15, rs46, c46_7⟩
noncomputable def S46 (call : VCaller) (n : Nat) : VRun := fun args h => match args with
  | [a0, a1] => (J46_8 call n a0 a1 h)
  | args => runK call n vf46.body (fin vf46.results) (args ++ List.replicate (vf46.ntmps - args.length) .undef) h
theorem S46_ok : FastFn.ok ⟨46, vf46, S46⟩ := by
  intro call n args h
  show _ = S46 call n args h
  unfold S46
  split
  · exact (((L46_8 call n) : Sim 15 (runK call n vf46.body (fin vf46.results)) _) _ _ rfl).trans (by kernel_rfl)
  · rfl
theorem vf46_ok : FastFn.inP Try.prog ⟨46, vf46, S46⟩ := by
  show funcV Try.prog 46 = some vf46
  kernel_rfl
/- ferrule/mir.flag -/
noncomputable def A41 := opsAt Try.prog 41
noncomputable def rs41 : List VResult := [.tmp 2]
theorem R41 : Sim 4 (fin rs41 .ret) (fun σ h => (finV [rT (σ 2)] h)) := Sim.of (by kernel_rfl)
noncomputable def c41_0 : VCode := .seq (.region false (A41 [1, 1, 0])) .ret
noncomputable def J41_1 (call : VCaller) (n : Nat) (h : VHeap) : VAns :=
  (finV [rT (I 0)] h)
theorem L41_1 (call : VCaller) (n : Nat) : Sim 4 (runK call n c41_0 (fin rs41)) (apL [] (J41_1 call n)) := Sim.reg (Sim.ret R41) (by kernel_rfl) (by kernel_rfl)
noncomputable def D41_2 (call : VCaller) (n : Nat) : Kont := kn (runK call n c41_0 (fin rs41)) (fin rs41)
noncomputable def c41_3 : VCode := .seq (.region false (A41 [1, 0, 1, 0, 0])) .ret
noncomputable def J41_4 (call : VCaller) (n : Nat) (h : VHeap) : VAns :=
  (finV [rT (I 1)] h)
theorem L41_4 (call : VCaller) (n : Nat) : Sim 4 (runK call n c41_3 (D41_2 call n)) (apL [] (J41_4 call n)) := Sim.reg (Sim.ret R41) (by kernel_rfl) (by kernel_rfl)
noncomputable def c41_5 : VCode := .seq (.region false (A41 [1, 0, 0])) (.cond (.tmp 3) c41_3 .skip)
noncomputable def J41_6 (call : VCaller) (n : Nat) (t0 : VVal) (h : VHeap) : VAns :=
  (cnd t0 (J41_4 call n h) (J41_1 call n h))
theorem L41_6 (call : VCaller) (n : Nat) : Sim 4 (runK call n c41_5 (D41_2 call n)) (apL [0] (J41_6 call n)) := Sim.reg (Sim.cond (L41_4 call n) (Sim.skip (L41_1 call n))) (by kernel_rfl) (by kernel_rfl)
noncomputable def c41_7 : VCode := .seq (.region false (A41 [0])) (.seq c41_5 c41_0)
noncomputable def J41_8 (call : VCaller) (n : Nat) (t0 : VVal) (h : VHeap) : VAns :=
  (J41_6 call n t0 h)
theorem L41_8 (call : VCaller) (n : Nat) : Sim 4 (runK call n c41_7 (fin rs41)) (apL [0] (J41_8 call n)) := Sim.reg (Sim.seq (L41_6 call n)) (by kernel_rfl) (by kernel_rfl)
noncomputable def vf41 : VFunc := ⟨4, rs41, c41_7⟩
noncomputable def S41 (call : VCaller) (n : Nat) : VRun := fun args h => match args with
  | [a0] => (J41_8 call n a0 h)
  | args => runK call n vf41.body (fin vf41.results) (args ++ List.replicate (vf41.ntmps - args.length) .undef) h
theorem S41_ok : FastFn.ok ⟨41, vf41, S41⟩ := by
  intro call n args h
  show _ = S41 call n args h
  unfold S41
  split
  · exact (((L41_8 call n) : Sim 4 (runK call n vf41.body (fin vf41.results)) _) _ _ rfl).trans (by kernel_rfl)
  · rfl
theorem vf41_ok : FastFn.inP Try.prog ⟨41, vf41, S41⟩ := by
  show funcV Try.prog 41 = some vf41
  kernel_rfl
/- (ferrule/low.former).base -/
noncomputable def A32 := opsAt Try.prog 32
noncomputable def rs32 : List VResult := [.tmp 4]
theorem R32 : Sim 12 (fin rs32 .ret) (fun σ h => (finV [rT (σ 4)] h)) := Sim.of (by kernel_rfl)
noncomputable def c32_0 : VCode := .seq (.region false (A32 [1, 0])) .ret
noncomputable def J32_1 (call : VCaller) (n : Nat) (t1 t2 : VVal) (h : VHeap) : VAns :=
  rd (eqI t1 (.int .i64 (.negSucc 1))) fun t6 =>
  gd false t6 (VHeap.loadA h 8 t2) fun t8 =>
  gd false t6 (some t1) fun t9 =>
  bp .call (opStep call ⟨none, .callF 30 [(.const t8), (.const t9)], some (0, false), [], []⟩ [t6] h) thr fun t10 h5 =>
  rd (pickF t6 (.bool true) t10) fun t11 =>
  (finV [rT t11] h5)
theorem L32_1 (call : VCaller) (n : Nat) : Sim 12 (runK call n c32_0 (fin rs32)) (apL [1, 2] (J32_1 call n)) := Sim.reg (Sim.ret R32) (by kernel_rfl) (by kernel_rfl)
noncomputable def c32_2 : VCode := .seq (.region false (A32 [0])) c32_0
noncomputable def J32_3 (call : VCaller) (n : Nat) (t0 t1 : VVal) (h : VHeap) : VAns :=
  fr (VOp.fresh [] (.box 61 (.const t0))) h fun t2 h0 =>
  (J32_1 call n t1 t2 h0)
theorem L32_3 (call : VCaller) (n : Nat) : Sim 12 (runK call n c32_2 (fin rs32)) (apL [0, 1] (J32_3 call n)) := Sim.reg (L32_1 call n) (by kernel_rfl) (by kernel_rfl)
noncomputable def vf32 : VFunc := ⟨12, rs32, c32_2⟩
noncomputable def S32 (call : VCaller) (n : Nat) : VRun := fun args h => match args with
  | [a0, a1] => (J32_3 call n a0 a1 h)
  | args => runK call n vf32.body (fin vf32.results) (args ++ List.replicate (vf32.ntmps - args.length) .undef) h
theorem S32_ok : FastFn.ok ⟨32, vf32, S32⟩ := by
  intro call n args h
  show _ = S32 call n args h
  unfold S32
  split
  · exact (((L32_3 call n) : Sim 12 (runK call n vf32.body (fin vf32.results)) _) _ _ rfl).trans (by kernel_rfl)
  · rfl
theorem vf32_ok : FastFn.inP Try.prog ⟨32, vf32, S32⟩ := by
  show funcV Try.prog 32 = some vf32
  kernel_rfl
end Go.Proofs.Ythefbgflndpggaa.LF
