/- Functions that are reached, as the virtual machine has them. Printed by program. -/
import Derived.Test.YthefbgflndpggaaChecked
import Derived.Test.YthefbgflndpggaaV30
set_option linter.unusedSimpArgs false
set_option linter.unusedVariables false
open Go.V
namespace Go.Proofs.Ythefbgflndpggaa.LF
set_option linter.unusedVariables false
/- ferrule/ferrulelaw17.LowFrames -/
noncomputable def A4 := opsAt Try.prog 4
noncomputable def rs4 : List VResult := [.tmp 4]
theorem R4 : Sim 94 (fin rs4 .ret) (fun σ h => (finV [rT (σ 4)] h)) := Sim.of (by kernel_rfl)
noncomputable def c4_0 : VCode := .seq (.region false (A4 [1, 1, 1, 1, 1, 1, 1, 1, 1, 1, 1, 0])) .ret
noncomputable def J4_1 (call : VCaller) (n : Nat) (t9 t12 : VVal) (h : VHeap) : VAns :=
  rd (VHeap.loadA h 3 t12) fun t90 =>
  rd (VOp.read [] h (.build [(I 0), (I 0), .nilslice] [(0, 1, (.const (I 1))), (2, 1, (.const t9))])) fun t92 =>
  bc (call 6 [t90, t92] h) thr fun t93 h3 =>
  (finV [rT t93] h3)
theorem L4_1 (call : VCaller) (n : Nat) : Sim 94 (runK call n c4_0 (fin rs4)) (apL [9, 12] (J4_1 call n)) := Sim.reg (Sim.ret R4) (by kernel_rfl) (by kernel_rfl)
noncomputable def c4_2 : VCode := .seq (.region false (A4 [1, 1, 1, 1, 1, 1, 1, 1, 1, 1, 0])) c4_0
noncomputable def J4_3 (call : VCaller) (n : Nat) (t7 t8 t9 : VVal) (h : VHeap) : VAns :=
  rd (VHeap.loadA h 7 t8) fun t84 =>
  rd (VHeap.loadA h 7 t7) fun t85 =>
  fr (VOp.fresh [] (.buildSlice 38 7 2 [(.str []), (I 0), .nilslice, (I 0), (I 0), (.bool false), .nilslice, (.str []), (I 0), .nilslice, (I 0), (I 0), (.bool false), .nilslice] [(0, 7, (.const t84)), (7, 7, (.const t85))])) h fun t86 h2 =>
  bc (call 5 [t86, .nilslice, (I 10000)] h2) thr fun t87 h3 =>
  rd (extF t87 0) fun t88 =>
  rd (extF t87 1) fun t89 =>
  fr (VOp.fresh [] (.box 26 (.const (.agg [(I 0), (I 0), .nilslice])))) h3 fun t12 h7 =>
  bd (VOp.write [] h7 (.store 3 (.const t12) (.const t88))) fun _ h8 =>
  (J4_1 call n t9 t12 h8)
theorem L4_3 (call : VCaller) (n : Nat) : Sim 94 (runK call n c4_2 (fin rs4)) (apL [7, 8, 9] (J4_3 call n)) := Sim.reg (L4_1 call n) (by kernel_rfl) (by kernel_rfl)
noncomputable def c4_4 : VCode := .seq (.region false (A4 [1, 1, 1, 1, 1, 1, 1, 1, 1, 0])) c4_2
noncomputable def J4_5 (call : VCaller) (n : Nat) (t0 t7 t8 t9 : VVal) (h : VHeap) : VAns :=
  fr (VOp.fresh [] (.buildSlice 3 1 1 [(I 0)] [(0, 1, (.const t0))])) h fun t81 h2 =>
  bd (VOp.write [] h2 (.append 3 1 8 none (.const t9) (.const t81))) fun t82 h3 =>
  (J4_3 call n t7 t8 t82 h3)
theorem L4_5 (call : VCaller) (n : Nat) : Sim 94 (runK call n c4_4 (fin rs4)) (apL [0, 7, 8, 9] (J4_5 call n)) := Sim.reg (L4_3 call n) (by kernel_rfl) (by kernel_rfl)
noncomputable def D4_6 (call : VCaller) (n : Nat) : Kont := kn (runK call n c4_4 (fin rs4)) (fin rs4)
noncomputable def D4_7 (call : VCaller) (n : Nat) : Kont := kb 2 (D4_6 call n)
noncomputable def D4_8 (call : VCaller) (n : Nat) (K8 : VRun) : Kont := kn K8 (D4_7 call n)
noncomputable def c4_9 : VCode := .region false (A4 [1, 1, 1, 1, 1, 1, 1, 1, 0, 1, 0, 0, 1, 1])
noncomputable def J4_10 (call : VCaller) (n : Nat) (ih8 : VVal → VVal → VVal → VVal → VVal → VHeap → VAns) (t0 t7 t8 t9 t11 : VVal) (h : VHeap) : VAns :=
  rd (addI t11 (I 1)) fun t74 =>
  (ih8 t0 t7 t8 t9 t74 h)
theorem L4_10 (call : VCaller) (n : Nat) {K8 : VRun} {ih8 : VVal → VVal → VVal → VVal → VVal → VHeap → VAns} (I8 : Sim 94 K8 (apL [0, 7, 8, 9, 11] ih8)) : Sim 94 (runK call n c4_9 (D4_8 call n K8)) (apL [0, 7, 8, 9, 11] (J4_10 call n ih8)) := Sim.regE I8 (by kernel_rfl) (by kernel_rfl)
noncomputable def D4_11 (call : VCaller) (n : Nat) (K8 : VRun) : Kont := kn (runK call n c4_9 (D4_8 call n K8)) (D4_8 call n K8)
noncomputable def D4_12 (call : VCaller) (n : Nat) (K8 : VRun) : Kont := kb 3 (D4_11 call n K8)
noncomputable def c4_13 : VCode := .region false (A4 [1, 1, 1, 1, 1, 1, 1, 1, 0, 1, 0, 0, 1, 0, 0])
noncomputable def J4_14 (call : VCaller) (n : Nat) (ih8 : VVal → VVal → VVal → VVal → VVal → VHeap → VAns) (t0 t7 t8 t9 t11 : VVal) (h : VHeap) : VAns :=
  fr (VOp.fresh [] (.buildSlice 3 1 1 [(I 0)] [(0, 1, (.const t11))])) h fun t77 h2 =>
  bd (VOp.write [] h2 (.append 3 1 8 none (.const t9) (.const t77))) fun t78 h3 =>
  (J4_10 call n ih8 t0 t7 t8 t78 t11 h3)
theorem L4_14 (call : VCaller) (n : Nat) {K8 : VRun} {ih8 : VVal → VVal → VVal → VVal → VVal → VHeap → VAns} (I8 : Sim 94 K8 (apL [0, 7, 8, 9, 11] ih8)) : Sim 94 (runK call n c4_13 (D4_12 call n K8)) (apL [0, 7, 8, 9, 11] (J4_14 call n ih8)) := Sim.regE (L4_10 call n I8) (by kernel_rfl) (by kernel_rfl)
noncomputable def D4_15 (call : VCaller) (n : Nat) (K8 : VRun) : Kont := kn (runK call n (.seq (.block 3 c4_13) c4_9) (D4_8 call n K8)) (D4_8 call n K8)
noncomputable def c4_16 : VCode := .seq (.region false (A4 [1, 1, 1, 1, 1, 1, 1, 1, 0, 1, 0, 0, 0, 0])) (.cond (.tmp 72) .skip (.exit 2))
noncomputable def J4_17 (call : VCaller) (n : Nat) (ih8 : VVal → VVal → VVal → VVal → VVal → VHeap → VAns) (t0 t7 t8 t9 t11 : VVal) (h : VHeap) : VAns :=
  rd (leI t11 t0) fun t72 =>
  (cnd t72 (J4_14 call n ih8 t0 t7 t8 t9 t11 h) (J4_5 call n t0 t7 t8 t9 h))
theorem L4_17 (call : VCaller) (n : Nat) {K8 : VRun} {ih8 : VVal → VVal → VVal → VVal → VVal → VHeap → VAns} (I8 : Sim 94 K8 (apL [0, 7, 8, 9, 11] ih8)) : Sim 94 (runK call n c4_16 (D4_15 call n K8)) (apL [0, 7, 8, 9, 11] (J4_17 call n ih8)) := Sim.reg (Sim.cond (Sim.skip (Sim.seq (Sim.block (L4_14 call n I8)))) (Sim.exit (L4_5 call n))) (by kernel_rfl) (by kernel_rfl)
noncomputable def J4_8 (call : VCaller) (n : Nat) (m : Nat) : VVal → VVal → VVal → VVal → VVal → VHeap → VAns :=
  Nat.rec (motive := fun _ => VVal → VVal → VVal → VVal → VVal → VHeap → VAns) (fun _ _ _ _ _ _ => none) (fun _ ih8 => fun t0 t7 t8 t9 t11 h => (J4_17 call n ih8 t0 t7 t8 t9 t11 h)) m
noncomputable def c4_18 : VCode := .seq (.region false (A4 [1, 1, 1, 1, 1, 1, 1, 1, 0, 0])) (.block 2 (.loop (.seq c4_16 (.seq (.block 3 c4_13) c4_9))))
noncomputable def J4_19 (call : VCaller) (n : Nat) (t0 t7 t8 t9 : VVal) (h : VHeap) : VAns :=
  (J4_8 call n n t0 t7 t8 t9 (I 1) h)
theorem L4_19 (call : VCaller) (n : Nat) : Sim 94 (runK call n c4_18 (D4_6 call n)) (apL [0, 7, 8, 9] (J4_19 call n)) := Sim.reg (Sim.block (Sim.loop (J := fun m => apL [0, 7, 8, 9, 11] (J4_8 call n m)) (by kernel_rfl) (fun _ I8 => (Sim.seq (L4_17 call n I8))))) (by kernel_rfl) (by kernel_rfl)
noncomputable def D4_20 (call : VCaller) (n : Nat) : Kont := kn (runK call n (.seq c4_18 c4_4) (fin rs4)) (fin rs4)
noncomputable def D4_21 (call : VCaller) (n : Nat) : Kont := kb 0 (D4_20 call n)
noncomputable def D4_22 (call : VCaller) (n : Nat) (K22 : VRun) : Kont := kn K22 (D4_21 call n)
noncomputable def c4_23 : VCode := .region false (A4 [1, 1, 1, 1, 1, 1, 1, 0, 1, 0, 0, 1, 1])
noncomputable def J4_24 (call : VCaller) (n : Nat) (ih22 : VVal → VVal → VVal → VVal → VVal → VHeap → VAns) (t0 t7 t8 t9 t10 : VVal) (h : VHeap) : VAns :=
  rd (addI t10 (I 1)) fun t66 =>
  (ih22 t0 t7 t8 t9 t66 h)
theorem L4_24 (call : VCaller) (n : Nat) {K22 : VRun} {ih22 : VVal → VVal → VVal → VVal → VVal → VHeap → VAns} (I22 : Sim 94 K22 (apL [0, 7, 8, 9, 10] ih22)) : Sim 94 (runK call n c4_23 (D4_22 call n K22)) (apL [0, 7, 8, 9, 10] (J4_24 call n ih22)) := Sim.regE I22 (by kernel_rfl) (by kernel_rfl)
noncomputable def D4_25 (call : VCaller) (n : Nat) (K22 : VRun) : Kont := kn (runK call n c4_23 (D4_22 call n K22)) (D4_22 call n K22)
noncomputable def D4_26 (call : VCaller) (n : Nat) (K22 : VRun) : Kont := kb 1 (D4_25 call n K22)
noncomputable def c4_27 : VCode := .region false (A4 [1, 1, 1, 1, 1, 1, 1, 0, 1, 0, 0, 1, 0, 0])
noncomputable def J4_28 (call : VCaller) (n : Nat) (ih22 : VVal → VVal → VVal → VVal → VVal → VHeap → VAns) (t0 t7 t8 t9 t10 : VVal) (h : VHeap) : VAns :=
  fr (VOp.fresh [] (.buildSlice 3 1 1 [(I 0)] [(0, 1, (.const (I 0)))])) h fun t68 h1 =>
  bd (VOp.write [] h1 (.append 3 1 8 none (.const t9) (.const t68))) fun t69 h2 =>
  (J4_24 call n ih22 t0 t7 t8 t69 t10 h2)
theorem L4_28 (call : VCaller) (n : Nat) {K22 : VRun} {ih22 : VVal → VVal → VVal → VVal → VVal → VHeap → VAns} (I22 : Sim 94 K22 (apL [0, 7, 8, 9, 10] ih22)) : Sim 94 (runK call n c4_27 (D4_26 call n K22)) (apL [0, 7, 8, 9, 10] (J4_28 call n ih22)) := Sim.regE (L4_24 call n I22) (by kernel_rfl) (by kernel_rfl)
noncomputable def D4_29 (call : VCaller) (n : Nat) (K22 : VRun) : Kont := kn (runK call n (.seq (.block 1 c4_27) c4_23) (D4_22 call n K22)) (D4_22 call n K22)
noncomputable def c4_30 : VCode := .seq (.region false (A4 [1, 1, 1, 1, 1, 1, 1, 0, 1, 0, 0, 0, 0])) (.cond (.tmp 64) .skip (.exit 0))
noncomputable def J4_31 (call : VCaller) (n : Nat) (ih22 : VVal → VVal → VVal → VVal → VVal → VHeap → VAns) (t0 t7 t8 t9 t10 : VVal) (h : VHeap) : VAns :=
  rd (leI t10 t0) fun t64 =>
  (cnd t64 (J4_28 call n ih22 t0 t7 t8 t9 t10 h) (J4_19 call n t0 t7 t8 t9 h))
theorem L4_31 (call : VCaller) (n : Nat) {K22 : VRun} {ih22 : VVal → VVal → VVal → VVal → VVal → VHeap → VAns} (I22 : Sim 94 K22 (apL [0, 7, 8, 9, 10] ih22)) : Sim 94 (runK call n c4_30 (D4_29 call n K22)) (apL [0, 7, 8, 9, 10] (J4_31 call n ih22)) := Sim.reg (Sim.cond (Sim.skip (Sim.seq (Sim.block (L4_28 call n I22)))) (Sim.exit (Sim.seq (L4_19 call n)))) (by kernel_rfl) (by kernel_rfl)
noncomputable def J4_22 (call : VCaller) (n : Nat) (m : Nat) : VVal → VVal → VVal → VVal → VVal → VHeap → VAns :=
  Nat.rec (motive := fun _ => VVal → VVal → VVal → VVal → VVal → VHeap → VAns) (fun _ _ _ _ _ _ => none) (fun _ ih22 => fun t0 t7 t8 t9 t10 h => (J4_31 call n ih22 t0 t7 t8 t9 t10 h)) m
noncomputable def c4_32 : VCode := .seq (.region false (A4 [1, 1, 1, 1, 1, 1, 1, 0, 0])) (.block 0 (.loop (.seq c4_30 (.seq (.block 1 c4_27) c4_23))))
noncomputable def J4_33 (call : VCaller) (n : Nat) (t0 t7 t8 t9 : VVal) (h : VHeap) : VAns :=
  (J4_22 call n n t0 t7 t8 t9 (I 0) h)
theorem L4_33 (call : VCaller) (n : Nat) : Sim 94 (runK call n c4_32 (D4_20 call n)) (apL [0, 7, 8, 9] (J4_33 call n)) := Sim.reg (Sim.block (Sim.loop (J := fun m => apL [0, 7, 8, 9, 10] (J4_22 call n m)) (by kernel_rfl) (fun _ I22 => (Sim.seq (L4_31 call n I22))))) (by kernel_rfl) (by kernel_rfl)
noncomputable def c4_34 : VCode := .seq (.region false (A4 [1, 1, 1, 1, 1, 1, 0])) (.seq c4_32 (.seq c4_18 c4_4))
noncomputable def J4_35 (call : VCaller) (n : Nat) (t0 t7 t8 : VVal) (h : VHeap) : VAns :=
  (J4_33 call n t0 t7 t8 .nilslice h)
theorem L4_35 (call : VCaller) (n : Nat) : Sim 94 (runK call n c4_34 (fin rs4)) (apL [0, 7, 8] (J4_35 call n)) := Sim.reg (Sim.seq (L4_33 call n)) (by kernel_rfl) (by kernel_rfl)
noncomputable def c4_36 : VCode := .seq (.region false (A4 [1, 1, 1, 1, 1, 0])) c4_34
noncomputable def J4_37 (call : VCaller) (n : Nat) (t0 t7 : VVal) (h : VHeap) : VAns :=
  rd (VOp.read [] h (.build [(I 0), (I 0), (I 0), (I 0), (I 0), (.str []), .nilslice, .nilslice] [(0, 1, (.const (I 1))), (1, 1, (.const (I 0))), (4, 1, (.const t0))])) fun t52 =>
  fr (VOp.fresh [] (.buildSlice 3 1 1 [(I 0)] [(0, 1, (.const (I 0)))])) h fun t53 h2 =>
  fr (VOp.fresh [] (.buildSlice 3 1 1 [(I 0)] [(0, 1, (.const (I 0)))])) h2 fun t54 h3 =>
  rd (VOp.read [] h3 (.build [(I 0), (I 0), (I 0), (I 0), (I 0), (.str []), .nilslice, .nilslice] [(0, 1, (.const (I 7))), (5, 1, (.const (.str [103]))), (6, 1, (.const t53)), (7, 1, (.const t54))])) fun t55 =>
  rd (VOp.read [] h3 (.build [(I 0), (I 0), (I 0), (I 0), (I 0), (.str []), .nilslice, .nilslice] [(0, 1, (.const (I 8))), (2, 1, (.const (I 0)))])) fun t56 =>
  fr (VOp.fresh [] (.buildSlice 30 8 3 [(I 0), (I 0), (I 0), (I 0), (I 0), (.str []), .nilslice, .nilslice, (I 0), (I 0), (I 0), (I 0), (I 0), (.str []), .nilslice, .nilslice, (I 0), (I 0), (I 0), (I 0), (I 0), (.str []), .nilslice, .nilslice] [(0, 8, (.const t52)), (8, 8, (.const t55)), (16, 8, (.const t56))])) h3 fun t57 h6 =>
  rd (VOp.read [] h6 (.build [(I 0), (I 0), (I 0), (I 0), (I 0), (.str []), .nilslice] [(0, 1, (.const (I 3)))])) fun t58 =>
  rd (VOp.read [] h6 (.build [.nilslice, (I 0), (I 0), (I 0), (I 0), (I 0), (.str []), .nilslice] [(0, 1, (.const t57)), (1, 7, (.const t58))])) fun t59 =>
  fr (VOp.fresh [] (.buildSlice 35 8 1 [.nilslice, (I 0), (I 0), (I 0), (I 0), (I 0), (.str []), .nilslice] [(0, 8, (.const t59))])) h6 fun t60 h9 =>
  rd (VOp.read [] h9 (.build [(.str []), (I 0), .nilslice, (I 0), (I 0), (.bool false), .nilslice] [(0, 1, (.const (.str [109, 97, 105, 110]))), (1, 1, (.const (I 1))), (6, 1, (.const t60))])) fun t61 =>
  fr (VOp.fresh [] (.box 38 (.const (.agg [(.str []), (I 0), .nilslice, (I 0), (I 0), (.bool false), .nilslice])))) h9 fun t8 h11 =>
  bd (VOp.write [] h11 (.store 7 (.const t8) (.const t61))) fun _ h12 =>
  (J4_35 call n t0 t7 t8 h12)
theorem L4_37 (call : VCaller) (n : Nat) : Sim 94 (runK call n c4_36 (fin rs4)) (apL [0, 7] (J4_37 call n)) := Sim.reg (L4_35 call n) (by kernel_rfl) (by kernel_rfl)
noncomputable def c4_38 : VCode := .seq (.region false (A4 [1, 1, 1, 1, 0])) c4_36
noncomputable def J4_39 (call : VCaller) (n : Nat) (t0 t1 t5 t6 : VVal) (h : VHeap) : VAns :=
  fr (VOp.fresh [] (.buildSlice 3 1 1 [(I 0)] [(0, 1, (.const (I 0)))])) h fun t22 h0 =>
  rd (VOp.read [] h0 (.build [(I 0), (I 0), (I 0), (I 0), (I 0), (.str []), .nilslice, .nilslice] [(0, 1, (.const (I 5))), (1, 1, (.const (I 1))), (2, 1, (.const t5)), (4, 1, (.const t6))])) fun t26 =>
  rd (VOp.read [] h0 (.build [(I 0), (I 0), (I 0), (I 0), (I 0), (.str []), .nilslice, .nilslice] [(0, 1, (.const (I 8))), (2, 1, (.const (I 1)))])) fun t27 =>
  rd (VOp.read [] h0 (.build [(I 0), (I 0), (I 0), (I 0), (I 0), (.str []), .nilslice, .nilslice] [(0, 1, (.const (I 6))), (2, 1, (.const t5)), (4, 1, (.const t6)), (3, 1, (.const (I 0)))])) fun t30 =>
  fr (VOp.fresh [] (.buildSlice 30 8 3 [(I 0), (I 0), (I 0), (I 0), (I 0), (.str []), .nilslice, .nilslice, (I 0), (I 0), (I 0), (I 0), (I 0), (.str []), .nilslice, .nilslice, (I 0), (I 0), (I 0), (I 0), (I 0), (.str []), .nilslice, .nilslice] [(0, 8, (.const t26)), (8, 8, (.const t27)), (16, 8, (.const t30))])) h0 fun t31 h9 =>
  rd (VOp.read [] h9 (.build [(I 0), (I 0), (I 0), (I 0), (I 0), (.str []), .nilslice] [(0, 1, (.const (I 2))), (5, 1, (.const (.str [101, 113]))), (1, 1, (.const (I 0))), (2, 1, (.const (.int .i64 (.negSucc 0)))), (3, 1, (.const (I 2))), (4, 1, (.const (I 1)))])) fun t32 =>
  rd (VOp.read [] h9 (.build [.nilslice, (I 0), (I 0), (I 0), (I 0), (I 0), (.str []), .nilslice] [(0, 1, (.const t31)), (1, 7, (.const t32))])) fun t33 =>
  rd (VOp.read [] h9 (.build [(I 0), (I 0), (I 0), (I 0), (I 0), (.str []), .nilslice, .nilslice] [(0, 1, (.const (I 4))), (5, 1, (.const (.str [97, 100, 100]))), (1, 1, (.const (I 2))), (2, 1, (.const (I 0))), (4, 1, (.const (.int .i64 (.negSucc 0))))])) fun t34 =>
  fr (VOp.fresh [] (.buildSlice 3 1 1 [(I 0)] [(0, 1, (.const (I 2)))])) h9 fun t35 h13 =>
  fr (VOp.fresh [] (.buildSlice 3 1 1 [(I 0)] [(0, 1, (.const (I 2)))])) h13 fun t36 h14 =>
  rd (VOp.read [] h14 (.build [(I 0), (I 0), (I 0), (I 0), (I 0), (.str []), .nilslice, .nilslice] [(0, 1, (.const (I 7))), (5, 1, (.const (.str [103]))), (6, 1, (.const t35)), (7, 1, (.const t36))])) fun t37 =>
  rd (VOp.read [] h14 (.build [(I 0), (I 0), (I 0), (I 0), (I 0), (.str []), .nilslice, .nilslice] [(0, 1, (.const (I 5))), (1, 1, (.const (I 1))), (2, 1, (.const t5)), (4, 1, (.const t6))])) fun t40 =>
  rd (VOp.read [] h14 (.build [(I 0), (I 0), (I 0), (I 0), (I 0), (.str []), .nilslice, .nilslice] [(0, 1, (.const (I 8))), (2, 1, (.const (I 1)))])) fun t41 =>
  fr (VOp.fresh [] (.buildSlice 30 8 4 [(I 0), (I 0), (I 0), (I 0), (I 0), (.str []), .nilslice, .nilslice, (I 0), (I 0), (I 0), (I 0), (I 0), (.str []), .nilslice, .nilslice, (I 0), (I 0), (I 0), (I 0), (I 0), (.str []), .nilslice, .nilslice, (I 0), (I 0), (I 0), (I 0), (I 0), (.str []), .nilslice, .nilslice] [(0, 8, (.const t34)), (8, 8, (.const t37)), (16, 8, (.const t40)), (24, 8, (.const t41))])) h14 fun t42 h20 =>
  fr (VOp.fresh [] (.buildSlice 3 1 1 [(I 0)] [(0, 1, (.const (I 1)))])) h20 fun t43 h21 =>
  rd (VOp.read [] h21 (.build [(I 0), (I 0), (I 0), (I 0), (I 0), (.str []), .nilslice] [(0, 1, (.const (I 3))), (6, 1, (.const t43))])) fun t44 =>
  rd (VOp.read [] h21 (.build [.nilslice, (I 0), (I 0), (I 0), (I 0), (I 0), (.str []), .nilslice] [(0, 1, (.const t42)), (1, 7, (.const t44))])) fun t45 =>
  fr (VOp.fresh [] (.buildSlice 3 1 1 [(I 0)] [(0, 1, (.const (I 0)))])) h21 fun t46 h24 =>
  rd (VOp.read [] h24 (.build [(I 0), (I 0), (I 0), (I 0), (I 0), (.str []), .nilslice] [(0, 1, (.const (I 3))), (6, 1, (.const t46))])) fun t47 =>
  rd (VOp.read [] h24 (.build [.nilslice, (I 0), (I 0), (I 0), (I 0), (I 0), (.str []), .nilslice] [(1, 7, (.const t47))])) fun t48 =>
  fr (VOp.fresh [] (.buildSlice 35 8 3 [.nilslice, (I 0), (I 0), (I 0), (I 0), (I 0), (.str []), .nilslice, .nilslice, (I 0), (I 0), (I 0), (I 0), (I 0), (.str []), .nilslice, .nilslice, (I 0), (I 0), (I 0), (I 0), (I 0), (.str []), .nilslice] [(0, 8, (.const t33)), (8, 8, (.const t45)), (16, 8, (.const t48))])) h24 fun t49 h27 =>
  rd (VOp.read [] h27 (.build [(.str []), (I 0), .nilslice, (I 0), (I 0), (.bool false), .nilslice] [(0, 1, (.const (.str [103]))), (1, 1, (.const (I 3))), (2, 1, (.const t22)), (3, 1, (.const (I 1))), (4, 1, (.const t1)), (6, 1, (.const t49))])) fun t50 =>
  fr (VOp.fresh [] (.box 38 (.const (.agg [(.str []), (I 0), .nilslice, (I 0), (I 0), (.bool false), .nilslice])))) h27 fun t7 h29 =>
  bd (VOp.write [] h29 (.store 7 (.const t7) (.const t50))) fun _ h30 =>
  (J4_37 call n t0 t7 h30)
theorem L4_39 (call : VCaller) (n : Nat) : Sim 94 (runK call n c4_38 (fin rs4)) (apL [0, 1, 5, 6] (J4_39 call n)) := Sim.reg (L4_37 call n) (by kernel_rfl) (by kernel_rfl)
noncomputable def c4_40 : VCode := .seq (.region false (A4 [1, 1, 1, 0])) c4_38
noncomputable def J4_41 (call : VCaller) (n : Nat) (t0 t1 t5 : VVal) (h : VHeap) : VAns :=
  rd (subI t1 (I 1)) fun t20 =>
  rd (binV .mul (.flat .int) (I 4) t20) fun t21 =>
  (J4_39 call n t0 t1 t5 t21 h)
theorem L4_41 (call : VCaller) (n : Nat) : Sim 94 (runK call n c4_40 (fin rs4)) (apL [0, 1, 5] (J4_41 call n)) := Sim.reg (L4_39 call n) (by kernel_rfl) (by kernel_rfl)
noncomputable def c4_42 : VCode := .seq (.region false (A4 [1, 1, 0])) c4_40
noncomputable def J4_43 (call : VCaller) (n : Nat) (t0 t1 : VVal) (h : VHeap) : VAns :=
  (J4_41 call n t0 t1 (.int .i64 (.negSucc 1)) h)
theorem L4_43 (call : VCaller) (n : Nat) : Sim 94 (runK call n c4_42 (fin rs4)) (apL [0, 1] (J4_43 call n)) := Sim.reg (L4_41 call n) (by kernel_rfl) (by kernel_rfl)
noncomputable def c4_44 : VCode := .seq (.region false (A4 [1, 0])) c4_42
noncomputable def J4_45 (call : VCaller) (n : Nat) (t0 t1 : VVal) (h : VHeap) : VAns :=
  rd (binV .and (.flat .int) t0 (I 15)) fun t15 =>
  rd (binV .and (.flat .int) t1 (I 31)) fun t17 =>
  rd (addI (I 1) t17) fun t18 =>
  (J4_43 call n t15 t18 h)
theorem L4_45 (call : VCaller) (n : Nat) : Sim 94 (runK call n c4_44 (fin rs4)) (apL [0, 1] (J4_45 call n)) := Sim.reg (L4_43 call n) (by kernel_rfl) (by kernel_rfl)
noncomputable def c4_46 : VCode := .seq (.region false (A4 [0])) c4_44
noncomputable def J4_47 (call : VCaller) (n : Nat) (t0 t1 : VVal) (h : VHeap) : VAns :=
  (J4_45 call n t0 t1 h)
theorem L4_47 (call : VCaller) (n : Nat) : Sim 94 (runK call n c4_46 (fin rs4)) (apL [0, 1] (J4_47 call n)) := Sim.reg (L4_45 call n) (by kernel_rfl) (by kernel_rfl)
noncomputable def vf4 : VFunc := ⟨94, rs4, c4_46⟩
noncomputable def S4 (call : VCaller) (n : Nat) : VRun := fun args h => match args with
  | [a0, a1] => (J4_47 call n a0 a1 h)
  | args => runK call n vf4.body (fin vf4.results) (args ++ List.replicate (vf4.ntmps - args.length) .undef) h
theorem S4_ok : FastFn.ok ⟨4, vf4, S4⟩ := by
  intro call n args h
  show _ = S4 call n args h
  unfold S4
  split
  · exact (((L4_47 call n) : Sim 94 (runK call n vf4.body (fin vf4.results)) _) _ _ rfl).trans (by kernel_rfl)
  · rfl
theorem vf4_ok : FastFn.inP Try.prog ⟨4, vf4, S4⟩ := by
  show funcV Try.prog 4 = some vf4
  kernel_rfl
/- ferrule/ferruleref10.Same -/
noncomputable def A6 := opsAt Try.prog 6
noncomputable def rs6 : List VResult := [.tmp 4]
theorem R6 : Sim 45 (fin rs6 .ret) (fun σ h => (finV [rT (σ 4)] h)) := Sim.of (by kernel_rfl)
noncomputable def c6_0 : VCode := .seq (.region false (A6 [1, 1, 1, 0])) .ret
noncomputable def J6_1 (call : VCaller) (n : Nat) (h : VHeap) : VAns :=
  (finV [rT (.bool true)] h)
theorem L6_1 (call : VCaller) (n : Nat) : Sim 45 (runK call n c6_0 (fin rs6)) (apL [] (J6_1 call n)) := Sim.reg (Sim.ret R6) (by kernel_rfl) (by kernel_rfl)
noncomputable def D6_2 (call : VCaller) (n : Nat) : Kont := kn (runK call n c6_0 (fin rs6)) (fin rs6)
noncomputable def D6_3 (call : VCaller) (n : Nat) : Kont := kb 0 (D6_2 call n)
noncomputable def D6_4 (call : VCaller) (n : Nat) (K4 : VRun) : Kont := kn K4 (D6_3 call n)
noncomputable def c6_5 : VCode := .region false (A6 [1, 1, 0, 1, 0, 0, 1, 1])
noncomputable def J6_6 (call : VCaller) (n : Nat) (ih4 : VVal → VVal → VVal → VHeap → VAns) (t2 t3 t5 : VVal) (h : VHeap) : VAns :=
  rd (addI t5 (I 1)) fun t33 =>
  (ih4 t2 t3 t33 h)
theorem L6_6 (call : VCaller) (n : Nat) {K4 : VRun} {ih4 : VVal → VVal → VVal → VHeap → VAns} (I4 : Sim 45 K4 (apL [2, 3, 5] ih4)) : Sim 45 (runK call n c6_5 (D6_4 call n K4)) (apL [2, 3, 5] (J6_6 call n ih4)) := Sim.regE I4 (by kernel_rfl) (by kernel_rfl)
noncomputable def D6_7 (call : VCaller) (n : Nat) (K4 : VRun) : Kont := kn (runK call n c6_5 (D6_4 call n K4)) (D6_4 call n K4)
noncomputable def D6_8 (call : VCaller) (n : Nat) (K4 : VRun) : Kont := kb 1 (D6_7 call n K4)
noncomputable def c6_9 : VCode := .seq (.region false (A6 [1, 1, 0, 1, 0, 0, 1, 0, 0, 1, 0, 0])) .ret
noncomputable def J6_10 (call : VCaller) (n : Nat) (ih4 : VVal → VVal → VVal → VHeap → VAns) (h : VHeap) : VAns :=
  (finV [rT (.bool false)] h)
theorem L6_10 (call : VCaller) (n : Nat) {K4 : VRun} {ih4 : VVal → VVal → VVal → VHeap → VAns} (I4 : Sim 45 K4 (apL [2, 3, 5] ih4)) : Sim 45 (runK call n c6_9 (D6_8 call n K4)) (apL [] (J6_10 call n ih4)) := Sim.reg (Sim.ret R6) (by kernel_rfl) (by kernel_rfl)
noncomputable def c6_11 : VCode := .seq (.region true (A6 [1, 1, 0, 1, 0, 0, 1, 0, 0, 0])) (.cond (.tmp 44) c6_9 .skip)
noncomputable def J6_12 (call : VCaller) (n : Nat) (ih4 : VVal → VVal → VVal → VHeap → VAns) (t2 t3 t5 : VVal) (h : VHeap) : VAns :=
  rd (faddr 2 t2) fun v0 =>
  rd (VHeap.load1 h v0) fun v1 =>
  rd (idxS 1 v1 t5) fun v3 =>
  rd (VHeap.load1 h v3) fun v4 =>
  rd (faddr 2 t3) fun v5 =>
  rd (VHeap.load1 h v5) fun v6 =>
  rd (idxS 1 v6 t5) fun v8 =>
  rd (VHeap.load1 h v8) fun v9 =>
  rd (neI v4 v9) fun v10 =>
  (cnd v10 (J6_10 call n ih4 h) (J6_6 call n ih4 t2 t3 t5 h))
theorem L6_12 (call : VCaller) (n : Nat) {K4 : VRun} {ih4 : VVal → VVal → VVal → VHeap → VAns} (I4 : Sim 45 K4 (apL [2, 3, 5] ih4)) : Sim 45 (runK call n c6_11 (D6_8 call n K4)) (apL [2, 3, 5] (J6_12 call n ih4)) := Sim.drw (Sim.cond (L6_10 call n I4) (Sim.skip (L6_6 call n I4))) (by kernel_rfl) (by kernel_rfl)
noncomputable def D6_13 (call : VCaller) (n : Nat) (K4 : VRun) : Kont := kn (runK call n (.seq (.block 1 c6_11) c6_5) (D6_4 call n K4)) (D6_4 call n K4)
noncomputable def c6_14 : VCode := .seq (.region false (A6 [1, 1, 0, 1, 0, 0, 0, 0])) (.cond (.tmp 31) .skip (.exit 0))
noncomputable def J6_15 (call : VCaller) (n : Nat) (ih4 : VVal → VVal → VVal → VHeap → VAns) (t2 t3 t5 : VVal) (h : VHeap) : VAns :=
  rd (faddr 2 t2) fun t28 =>
  rd (VHeap.load1 h t28) fun t29 =>
  rd (lenF .slice t29 h) fun t30 =>
  rd (ltI t5 t30) fun t31 =>
  (cnd t31 (J6_12 call n ih4 t2 t3 t5 h) (J6_1 call n h))
theorem L6_15 (call : VCaller) (n : Nat) {K4 : VRun} {ih4 : VVal → VVal → VVal → VHeap → VAns} (I4 : Sim 45 K4 (apL [2, 3, 5] ih4)) : Sim 45 (runK call n c6_14 (D6_13 call n K4)) (apL [2, 3, 5] (J6_15 call n ih4)) := Sim.reg (Sim.cond (Sim.skip (Sim.seq (Sim.block (L6_12 call n I4)))) (Sim.exit (L6_1 call n))) (by kernel_rfl) (by kernel_rfl)
noncomputable def J6_4 (call : VCaller) (n : Nat) (m : Nat) : VVal → VVal → VVal → VHeap → VAns :=
  Nat.rec (motive := fun _ => VVal → VVal → VVal → VHeap → VAns) (fun _ _ _ _ => none) (fun _ ih4 => fun t2 t3 t5 h => (J6_15 call n ih4 t2 t3 t5 h)) m
noncomputable def c6_16 : VCode := .seq (.region false (A6 [1, 1, 0, 0])) (.block 0 (.loop (.seq c6_14 (.seq (.block 1 c6_11) c6_5))))
noncomputable def J6_17 (call : VCaller) (n : Nat) (t2 t3 : VVal) (h : VHeap) : VAns :=
  (J6_4 call n n t2 t3 (I 0) h)
theorem L6_17 (call : VCaller) (n : Nat) : Sim 45 (runK call n c6_16 (D6_2 call n)) (apL [2, 3] (J6_17 call n)) := Sim.reg (Sim.block (Sim.loop (J := fun m => apL [2, 3, 5] (J6_4 call n m)) (by kernel_rfl) (fun _ I4 => (Sim.seq (L6_15 call n I4))))) (by kernel_rfl) (by kernel_rfl)
noncomputable def D6_18 (call : VCaller) (n : Nat) : Kont := kn (runK call n (.seq c6_16 c6_0) (fin rs6)) (fin rs6)
noncomputable def c6_19 : VCode := .seq (.region false (A6 [1, 0, 1, 0, 0])) .ret
noncomputable def J6_20 (call : VCaller) (n : Nat) (h : VHeap) : VAns :=
  (finV [rT (.bool false)] h)
theorem L6_20 (call : VCaller) (n : Nat) : Sim 45 (runK call n c6_19 (D6_18 call n)) (apL [] (J6_20 call n)) := Sim.reg (Sim.ret R6) (by kernel_rfl) (by kernel_rfl)
noncomputable def c6_21 : VCode := .seq (.region false (A6 [1, 0, 0])) (.cond (.tmp 26) c6_19 .skip)
noncomputable def J6_22 (call : VCaller) (n : Nat) (t2 t3 : VVal) (h : VHeap) : VAns :=
  rd (faddr 0 t2) fun t6 =>
  rd (VHeap.load1 h t6) fun t7 =>
  rd (faddr 0 t3) fun t8 =>
  rd (VHeap.load1 h t8) fun t9 =>
  rd (neI t7 t9) fun t10 =>
  gd false t10 (faddr 1 t2) fun t12 =>
  gd false t10 (VHeap.load1 h t12) fun t13 =>
  gd false t10 (faddr 1 t3) fun t14 =>
  gd false t10 (VHeap.load1 h t14) fun t15 =>
  gd false t10 (neI t13 t15) fun t16 =>
  rd (pickF t10 (.bool true) t16) fun t17 =>
  gd false t17 (faddr 2 t2) fun t19 =>
  gd false t17 (VHeap.load1 h t19) fun t20 =>
  gd false t17 (lenF .slice t20 h) fun t21 =>
  gd false t17 (faddr 2 t3) fun t22 =>
  gd false t17 (VHeap.load1 h t22) fun t23 =>
  gd false t17 (lenF .slice t23 h) fun t24 =>
  gd false t17 (neI t21 t24) fun t25 =>
  rd (pickF t17 (.bool true) t25) fun t26 =>
  (cnd t26 (J6_20 call n h) (J6_17 call n t2 t3 h))
theorem L6_22 (call : VCaller) (n : Nat) : Sim 45 (runK call n c6_21 (D6_18 call n)) (apL [2, 3] (J6_22 call n)) := Sim.reg (Sim.cond (L6_20 call n) (Sim.skip (Sim.seq (L6_17 call n)))) (by kernel_rfl) (by kernel_rfl)
noncomputable def c6_23 : VCode := .seq (.region false (A6 [0])) (.seq c6_21 (.seq c6_16 c6_0))
noncomputable def J6_24 (call : VCaller) (n : Nat) (t0 t1 : VVal) (h : VHeap) : VAns :=
  fr (VOp.fresh [] (.box 26 (.const t0))) h fun t2 h0 =>
  fr (VOp.fresh [] (.box 26 (.const t1))) h0 fun t3 h1 =>
  (J6_22 call n t2 t3 h1)
theorem L6_24 (call : VCaller) (n : Nat) : Sim 45 (runK call n c6_23 (fin rs6)) (apL [0, 1] (J6_24 call n)) := Sim.reg (Sim.seq (L6_22 call n)) (by kernel_rfl) (by kernel_rfl)
noncomputable def vf6 : VFunc := ⟨45, rs6, c6_23⟩
noncomputable def S6 (call : VCaller) (n : Nat) : VRun := fun args h => match args with
  | [a0, a1] => (J6_24 call n a0 a1 h)
  | args => runK call n vf6.body (fin vf6.results) (args ++ List.replicate (vf6.ntmps - args.length) .undef) h
theorem S6_ok : FastFn.ok ⟨6, vf6, S6⟩ := by
  intro call n args h
  show _ = S6 call n args h
  unfold S6
  split
  · exact (((L6_24 call n) : Sim 45 (runK call n vf6.body (fin vf6.results)) _) _ _ rfl).trans (by kernel_rfl)
  · rfl
theorem vf6_ok : FastFn.inP Try.prog ⟨6, vf6, S6⟩ := by
  show funcV Try.prog 6 = some vf6
  kernel_rfl
/- ferrule/low.Check -/
noncomputable def A7 := opsAt Try.prog 7
noncomputable def rs7 : List VResult := [.tmp 2]
theorem R7 : Sim 58 (fin rs7 .ret) (fun σ h => (finV [rT (σ 2)] h)) := Sim.of (by kernel_rfl)
noncomputable def c7_0 : VCode := .seq (.region false (A7 [1, 1, 1, 1, 0])) .ret
noncomputable def J7_1 (call : VCaller) (n : Nat) (h : VHeap) : VAns :=
  (finV [rT (I 0)] h)
theorem L7_1 (call : VCaller) (n : Nat) : Sim 58 (runK call n c7_0 (fin rs7)) (apL [] (J7_1 call n)) := Sim.reg (Sim.ret R7) (by kernel_rfl) (by kernel_rfl)
noncomputable def D7_2 (call : VCaller) (n : Nat) : Kont := kn (runK call n c7_0 (fin rs7)) (fin rs7)
noncomputable def D7_3 (call : VCaller) (n : Nat) : Kont := kb 2 (D7_2 call n)
noncomputable def D7_4 (call : VCaller) (n : Nat) (K4 : VRun) : Kont := kn K4 (D7_3 call n)
noncomputable def c7_5 : VCode := .region false (A7 [1, 1, 1, 0, 1, 0, 0, 1, 1, 1])
noncomputable def J7_6 (call : VCaller) (n : Nat) (ih4 : VVal → VVal → VVal → VVal → VHeap → VAns) (t3 t33 t34 t35 : VVal) (h : VHeap) : VAns :=
  rd (addI t35 (I 1)) fun t57 =>
  (ih4 t3 t33 t34 t57 h)
theorem L7_6 (call : VCaller) (n : Nat) {K4 : VRun} {ih4 : VVal → VVal → VVal → VVal → VHeap → VAns} (I4 : Sim 58 K4 (apL [3, 33, 34, 35] ih4)) : Sim 58 (runK call n c7_5 (D7_4 call n K4)) (apL [3, 33, 34, 35] (J7_6 call n ih4)) := Sim.regE I4 (by kernel_rfl) (by kernel_rfl)
noncomputable def D7_7 (call : VCaller) (n : Nat) (K4 : VRun) : Kont := kn (runK call n c7_5 (D7_4 call n K4)) (D7_4 call n K4)
noncomputable def D7_8 (call : VCaller) (n : Nat) (K4 : VRun) : Kont := kb 3 (D7_7 call n K4)
noncomputable def D7_9 (call : VCaller) (n : Nat) (K4 : VRun) : Kont := kb 4 (D7_8 call n K4)
noncomputable def D7_10 (call : VCaller) (n : Nat) (K4 : VRun) (K10 : VRun) : Kont := kn K10 (D7_9 call n K4)
noncomputable def c7_11 : VCode := .region false (A7 [1, 1, 1, 0, 1, 0, 0, 1, 1, 0, 0, 1, 1, 1, 1, 0, 0, 1, 1, 1])
noncomputable def J7_12 (call : VCaller) (n : Nat) (ih4 : VVal → VVal → VVal → VVal → VHeap → VAns) (ih10 : VVal → VVal → VVal → VVal → VVal → VVal → VVal → VVal → VHeap → VAns) (t3 t10 t33 t34 t35 t46 t47 t48 : VVal) (h : VHeap) : VAns :=
  rd (addI t48 (I 1)) fun t56 =>
  (ih10 t3 t10 t33 t34 t35 t46 t47 t56 h)
theorem L7_12 (call : VCaller) (n : Nat) {K4 : VRun} {ih4 : VVal → VVal → VVal → VVal → VHeap → VAns} (I4 : Sim 58 K4 (apL [3, 33, 34, 35] ih4)) {K10 : VRun} {ih10 : VVal → VVal → VVal → VVal → VVal → VVal → VVal → VVal → VHeap → VAns} (I10 : Sim 58 K10 (apL [3, 10, 33, 34, 35, 46, 47, 48] ih10)) : Sim 58 (runK call n c7_11 (D7_10 call n K4 K10)) (apL [3, 10, 33, 34, 35, 46, 47, 48] (J7_12 call n ih4 ih10)) := Sim.regE I10 (by kernel_rfl) (by kernel_rfl)
noncomputable def D7_13 (call : VCaller) (n : Nat) (K4 : VRun) (K10 : VRun) : Kont := kn (runK call n c7_11 (D7_10 call n K4 K10)) (D7_10 call n K4 K10)
noncomputable def D7_14 (call : VCaller) (n : Nat) (K4 : VRun) (K10 : VRun) : Kont := kb 5 (D7_13 call n K4 K10)
noncomputable def c7_15 : VCode := .seq (.region false (A7 [1, 1, 1, 0, 1, 0, 0, 1, 1, 0, 0, 1, 1, 1, 1, 0, 0, 1, 1, 0, 0, 1, 1, 0, 0])) .ret
noncomputable def J7_16 (call : VCaller) (n : Nat) (ih4 : VVal → VVal → VVal → VVal → VHeap → VAns) (ih10 : VVal → VVal → VVal → VVal → VVal → VVal → VVal → VVal → VHeap → VAns) (h : VHeap) : VAns :=
  (finV [rT (I 10)] h)
theorem L7_16 (call : VCaller) (n : Nat) {K4 : VRun} {ih4 : VVal → VVal → VVal → VVal → VHeap → VAns} (I4 : Sim 58 K4 (apL [3, 33, 34, 35] ih4)) {K10 : VRun} {ih10 : VVal → VVal → VVal → VVal → VVal → VVal → VVal → VVal → VHeap → VAns} (I10 : Sim 58 K10 (apL [3, 10, 33, 34, 35, 46, 47, 48] ih10)) : Sim 58 (runK call n c7_15 (D7_14 call n K4 K10)) (apL [] (J7_16 call n ih4 ih10)) := Sim.reg (Sim.ret R7) (by kernel_rfl) (by kernel_rfl)
noncomputable def c7_17 : VCode := .seq (.region false (A7 [1, 1, 1, 0, 1, 0, 0, 1, 1, 0, 0, 1, 1, 1, 1, 0, 0, 1, 1, 0, 0, 1, 0])) (.cond (.tmp 55) c7_15 .skip)
noncomputable def J7_18 (call : VCaller) (n : Nat) (ih4 : VVal → VVal → VVal → VVal → VHeap → VAns) (ih10 : VVal → VVal → VVal → VVal → VVal → VVal → VVal → VVal → VHeap → VAns) (t3 t10 t12 t33 t34 t35 t46 t47 t48 : VVal) (h : VHeap) : VAns :=
  rd (VHeap.loadA h 8 t10) fun t52 =>
  rd (VHeap.loadA h 8 t12) fun t53 =>
  bc (call 14 [t52, t53] h) thr fun t54 h2 =>
  rd (unV .not t54) fun t55 =>
  (cnd t55 (J7_16 call n ih4 ih10 h2) (J7_12 call n ih4 ih10 t3 t10 t33 t34 t35 t46 t47 t48 h2))
theorem L7_18 (call : VCaller) (n : Nat) {K4 : VRun} {ih4 : VVal → VVal → VVal → VVal → VHeap → VAns} (I4 : Sim 58 K4 (apL [3, 33, 34, 35] ih4)) {K10 : VRun} {ih10 : VVal → VVal → VVal → VVal → VVal → VVal → VVal → VVal → VHeap → VAns} (I10 : Sim 58 K10 (apL [3, 10, 33, 34, 35, 46, 47, 48] ih10)) : Sim 58 (runK call n c7_17 (D7_14 call n K4 K10)) (apL [3, 10, 12, 33, 34, 35, 46, 47, 48] (J7_18 call n ih4 ih10)) := Sim.reg (Sim.cond (L7_16 call n I4 I10) (Sim.skip (L7_12 call n I4 I10))) (by kernel_rfl) (by kernel_rfl)
noncomputable def c7_19 : VCode := .seq (.region false (A7 [1, 1, 1, 0, 1, 0, 0, 1, 1, 0, 0, 1, 1, 1, 1, 0, 0, 1, 1, 0, 0, 0])) c7_17
noncomputable def J7_20 (call : VCaller) (n : Nat) (ih4 : VVal → VVal → VVal → VVal → VHeap → VAns) (ih10 : VVal → VVal → VVal → VVal → VVal → VVal → VVal → VVal → VHeap → VAns) (t3 t10 t33 t34 t35 t46 t47 t48 : VVal) (h : VHeap) : VAns :=
  rd (idxS 8 t46 t48) fun t50 =>
  rd (VHeap.loadA h 8 t50) fun t51 =>
  fr (VOp.fresh [] (.box 35 (.const (.agg [.nilslice, (I 0), (I 0), (I 0), (I 0), (I 0), (.str []), .nilslice])))) h fun t12 h2 =>
  bd (VOp.write [] h2 (.store 8 (.const t12) (.const t51))) fun _ h3 =>
  (J7_18 call n ih4 ih10 t3 t10 t12 t33 t34 t35 t46 t47 t48 h3)
theorem L7_20 (call : VCaller) (n : Nat) {K4 : VRun} {ih4 : VVal → VVal → VVal → VVal → VHeap → VAns} (I4 : Sim 58 K4 (apL [3, 33, 34, 35] ih4)) {K10 : VRun} {ih10 : VVal → VVal → VVal → VVal → VVal → VVal → VVal → VVal → VHeap → VAns} (I10 : Sim 58 K10 (apL [3, 10, 33, 34, 35, 46, 47, 48] ih10)) : Sim 58 (runK call n c7_19 (D7_14 call n K4 K10)) (apL [3, 10, 33, 34, 35, 46, 47, 48] (J7_20 call n ih4 ih10)) := Sim.reg (L7_18 call n I4 I10) (by kernel_rfl) (by kernel_rfl)
noncomputable def D7_21 (call : VCaller) (n : Nat) (K4 : VRun) (K10 : VRun) : Kont := kn (runK call n (.seq (.block 5 c7_19) c7_11) (D7_10 call n K4 K10)) (D7_10 call n K4 K10)
noncomputable def c7_22 : VCode := .seq (.region false (A7 [1, 1, 1, 0, 1, 0, 0, 1, 1, 0, 0, 1, 1, 1, 1, 0, 0, 0])) (.seq (.cond (.tmp 49) .skip (.exit 4)) (.seq (.block 5 c7_19) c7_11))
noncomputable def J7_23 (call : VCaller) (n : Nat) (ih4 : VVal → VVal → VVal → VVal → VHeap → VAns) (ih10 : VVal → VVal → VVal → VVal → VVal → VVal → VVal → VVal → VHeap → VAns) (t3 t10 t33 t34 t35 t46 t47 t48 : VVal) (h : VHeap) : VAns :=
  rd (ltI t48 t47) fun t49 =>
  (cnd t49 (J7_20 call n ih4 ih10 t3 t10 t33 t34 t35 t46 t47 t48 h) (J7_6 call n ih4 t3 t33 t34 t35 h))
theorem L7_23 (call : VCaller) (n : Nat) {K4 : VRun} {ih4 : VVal → VVal → VVal → VVal → VHeap → VAns} (I4 : Sim 58 K4 (apL [3, 33, 34, 35] ih4)) {K10 : VRun} {ih10 : VVal → VVal → VVal → VVal → VVal → VVal → VVal → VVal → VHeap → VAns} (I10 : Sim 58 K10 (apL [3, 10, 33, 34, 35, 46, 47, 48] ih10)) : Sim 58 (runK call n c7_22 (D7_10 call n K4 K10)) (apL [3, 10, 33, 34, 35, 46, 47, 48] (J7_23 call n ih4 ih10)) := Sim.reg (Sim.seq (Sim.cond (Sim.skip (Sim.seq (Sim.block (L7_20 call n I4 I10)))) (Sim.exit (L7_6 call n I4)))) (by kernel_rfl) (by kernel_rfl)
noncomputable def J7_10 (call : VCaller) (n : Nat) (ih4 : VVal → VVal → VVal → VVal → VHeap → VAns) (m : Nat) : VVal → VVal → VVal → VVal → VVal → VVal → VVal → VVal → VHeap → VAns :=
  Nat.rec (motive := fun _ => VVal → VVal → VVal → VVal → VVal → VVal → VVal → VVal → VHeap → VAns) (fun _ _ _ _ _ _ _ _ _ => none) (fun _ ih10 => fun t3 t10 t33 t34 t35 t46 t47 t48 h => (J7_23 call n ih4 ih10 t3 t10 t33 t34 t35 t46 t47 t48 h)) m
noncomputable def c7_24 : VCode := .seq (.region false (A7 [1, 1, 1, 0, 1, 0, 0, 1, 1, 0, 0, 1, 1, 1, 0])) (.block 4 (.loop c7_22))
noncomputable def J7_25 (call : VCaller) (n : Nat) (ih4 : VVal → VVal → VVal → VVal → VHeap → VAns) (t3 t9 t10 t33 t34 t35 : VVal) (h : VHeap) : VAns :=
  rd (faddr 6 t9) fun t45 =>
  rd (VHeap.load1 h t45) fun t46 =>
  rd (lenF .slice t46 h) fun t47 =>
  (J7_10 call n ih4 n t3 t10 t33 t34 t35 t46 t47 (I 0) h)
theorem L7_25 (call : VCaller) (n : Nat) {K4 : VRun} {ih4 : VVal → VVal → VVal → VVal → VHeap → VAns} (I4 : Sim 58 K4 (apL [3, 33, 34, 35] ih4)) : Sim 58 (runK call n c7_24 (D7_8 call n K4)) (apL [3, 9, 10, 33, 34, 35] (J7_25 call n ih4)) := Sim.reg (Sim.block (Sim.loop (J := fun m => apL [3, 10, 33, 34, 35, 46, 47, 48] (J7_10 call n ih4 m)) (by kernel_rfl) (fun _ I10 => (L7_23 call n I4 I10)))) (by kernel_rfl) (by kernel_rfl)
noncomputable def D7_26 (call : VCaller) (n : Nat) (K4 : VRun) : Kont := kn (runK call n c7_24 (D7_8 call n K4)) (D7_8 call n K4)
noncomputable def c7_27 : VCode := .seq (.region false (A7 [1, 1, 1, 0, 1, 0, 0, 1, 1, 0, 0, 1, 1, 0, 1, 0, 0])) .ret
noncomputable def J7_28 (call : VCaller) (n : Nat) (ih4 : VVal → VVal → VVal → VVal → VHeap → VAns) (h : VHeap) : VAns :=
  (finV [rT (I 10)] h)
theorem L7_28 (call : VCaller) (n : Nat) {K4 : VRun} {ih4 : VVal → VVal → VVal → VVal → VHeap → VAns} (I4 : Sim 58 K4 (apL [3, 33, 34, 35] ih4)) : Sim 58 (runK call n c7_27 (D7_26 call n K4)) (apL [] (J7_28 call n ih4)) := Sim.reg (Sim.ret R7) (by kernel_rfl) (by kernel_rfl)
noncomputable def c7_29 : VCode := .seq (.region false (A7 [1, 1, 1, 0, 1, 0, 0, 1, 1, 0, 0, 1, 1, 0, 0])) (.cond (.tmp 44) c7_27 .skip)
noncomputable def J7_30 (call : VCaller) (n : Nat) (ih4 : VVal → VVal → VVal → VVal → VHeap → VAns) (t3 t9 t10 t33 t34 t35 : VVal) (h : VHeap) : VAns :=
  rd (VHeap.loadA h 8 t10) fun t42 =>
  bc (call 13 [t42] h) thr fun t43 h1 =>
  rd (unV .not t43) fun t44 =>
  (cnd t44 (J7_28 call n ih4 h1) (J7_25 call n ih4 t3 t9 t10 t33 t34 t35 h1))
theorem L7_30 (call : VCaller) (n : Nat) {K4 : VRun} {ih4 : VVal → VVal → VVal → VVal → VHeap → VAns} (I4 : Sim 58 K4 (apL [3, 33, 34, 35] ih4)) : Sim 58 (runK call n c7_29 (D7_26 call n K4)) (apL [3, 9, 10, 33, 34, 35] (J7_30 call n ih4)) := Sim.reg (Sim.cond (L7_28 call n I4) (Sim.skip (L7_25 call n I4))) (by kernel_rfl) (by kernel_rfl)
noncomputable def c7_31 : VCode := .seq (.region false (A7 [1, 1, 1, 0, 1, 0, 0, 1, 1, 0, 0, 1, 0])) (.seq c7_29 c7_24)
noncomputable def J7_32 (call : VCaller) (n : Nat) (ih4 : VVal → VVal → VVal → VVal → VHeap → VAns) (t3 t9 t33 t34 t35 : VVal) (h : VHeap) : VAns :=
  rd (VHeap.loadA h 7 t9) fun t40 =>
  rd (VOp.read [] h (.build [.nilmap, (.str []), (I 0), .nilslice, (I 0), (I 0), (.bool false), .nilslice] [(0, 1, (.const t3)), (1, 7, (.const t40))])) fun t41 =>
  fr (VOp.fresh [] (.box 61 (.const (.agg [.nilmap, (.str []), (I 0), .nilslice, (I 0), (I 0), (.bool false), .nilslice])))) h fun t10 h3 =>
  bd (VOp.write [] h3 (.store 8 (.const t10) (.const t41))) fun _ h4 =>
  (J7_30 call n ih4 t3 t9 t10 t33 t34 t35 h4)
theorem L7_32 (call : VCaller) (n : Nat) {K4 : VRun} {ih4 : VVal → VVal → VVal → VVal → VHeap → VAns} (I4 : Sim 58 K4 (apL [3, 33, 34, 35] ih4)) : Sim 58 (runK call n c7_31 (D7_8 call n K4)) (apL [3, 9, 33, 34, 35] (J7_32 call n ih4)) := Sim.reg (Sim.seq (L7_30 call n I4)) (by kernel_rfl) (by kernel_rfl)
noncomputable def c7_33 : VCode := .seq (.region false (A7 [1, 1, 1, 0, 1, 0, 0, 1, 1, 0, 0, 0])) c7_31
noncomputable def J7_34 (call : VCaller) (n : Nat) (ih4 : VVal → VVal → VVal → VVal → VHeap → VAns) (t3 t33 t34 t35 : VVal) (h : VHeap) : VAns :=
  rd (idxS 7 t33 t35) fun t37 =>
  rd (VHeap.loadA h 7 t37) fun t38 =>
  fr (VOp.fresh [] (.box 38 (.const (.agg [(.str []), (I 0), .nilslice, (I 0), (I 0), (.bool false), .nilslice])))) h fun t9 h2 =>
  bd (VOp.write [] h2 (.store 7 (.const t9) (.const t38))) fun _ h3 =>
  (J7_32 call n ih4 t3 t9 t33 t34 t35 h3)
theorem L7_34 (call : VCaller) (n : Nat) {K4 : VRun} {ih4 : VVal → VVal → VVal → VVal → VHeap → VAns} (I4 : Sim 58 K4 (apL [3, 33, 34, 35] ih4)) : Sim 58 (runK call n c7_33 (D7_8 call n K4)) (apL [3, 33, 34, 35] (J7_34 call n ih4)) := Sim.reg (L7_32 call n I4) (by kernel_rfl) (by kernel_rfl)
noncomputable def D7_35 (call : VCaller) (n : Nat) (K4 : VRun) : Kont := kn (runK call n (.seq (.block 3 c7_33) c7_5) (D7_4 call n K4)) (D7_4 call n K4)
noncomputable def c7_36 : VCode := .seq (.region false (A7 [1, 1, 1, 0, 1, 0, 0, 0])) (.seq (.cond (.tmp 36) .skip (.exit 2)) (.seq (.block 3 c7_33) c7_5))
noncomputable def J7_37 (call : VCaller) (n : Nat) (ih4 : VVal → VVal → VVal → VVal → VHeap → VAns) (t3 t33 t34 t35 : VVal) (h : VHeap) : VAns :=
  rd (ltI t35 t34) fun t36 =>
  (cnd t36 (J7_34 call n ih4 t3 t33 t34 t35 h) (J7_1 call n h))
theorem L7_37 (call : VCaller) (n : Nat) {K4 : VRun} {ih4 : VVal → VVal → VVal → VVal → VHeap → VAns} (I4 : Sim 58 K4 (apL [3, 33, 34, 35] ih4)) : Sim 58 (runK call n c7_36 (D7_4 call n K4)) (apL [3, 33, 34, 35] (J7_37 call n ih4)) := Sim.reg (Sim.seq (Sim.cond (Sim.skip (Sim.seq (Sim.block (L7_34 call n I4)))) (Sim.exit (L7_1 call n)))) (by kernel_rfl) (by kernel_rfl)
noncomputable def J7_4 (call : VCaller) (n : Nat) (m : Nat) : VVal → VVal → VVal → VVal → VHeap → VAns :=
  Nat.rec (motive := fun _ => VVal → VVal → VVal → VVal → VHeap → VAns) (fun _ _ _ _ _ => none) (fun _ ih4 => fun t3 t33 t34 t35 h => (J7_37 call n ih4 t3 t33 t34 t35 h)) m
noncomputable def c7_38 : VCode := .seq (.region false (A7 [1, 1, 1, 0, 0])) (.block 2 (.loop c7_36))
noncomputable def J7_39 (call : VCaller) (n : Nat) (t0 t3 : VVal) (h : VHeap) : VAns :=
  rd (lenF .slice t0 h) fun t34 =>
  (J7_4 call n n t3 t0 t34 (I 0) h)
theorem L7_39 (call : VCaller) (n : Nat) : Sim 58 (runK call n c7_38 (D7_2 call n)) (apL [0, 3] (J7_39 call n)) := Sim.reg (Sim.block (Sim.loop (J := fun m => apL [3, 33, 34, 35] (J7_4 call n m)) (by kernel_rfl) (fun _ I4 => (L7_37 call n I4)))) (by kernel_rfl) (by kernel_rfl)
noncomputable def D7_40 (call : VCaller) (n : Nat) : Kont := kn (runK call n (.seq c7_38 c7_0) (fin rs7)) (fin rs7)
noncomputable def D7_41 (call : VCaller) (n : Nat) : Kont := kb 0 (D7_40 call n)
noncomputable def D7_42 (call : VCaller) (n : Nat) (K42 : VRun) : Kont := kn K42 (D7_41 call n)
noncomputable def c7_43 : VCode := .region false (A7 [1, 1, 0, 1, 0, 0, 1, 1, 1])
noncomputable def J7_44 (call : VCaller) (n : Nat) (ih42 : VVal → VVal → VVal → VVal → VVal → VHeap → VAns) (t0 t3 t14 t15 t16 : VVal) (h : VHeap) : VAns :=
  rd (addI t16 (I 1)) fun t32 =>
  (ih42 t0 t3 t14 t15 t32 h)
theorem L7_44 (call : VCaller) (n : Nat) {K42 : VRun} {ih42 : VVal → VVal → VVal → VVal → VVal → VHeap → VAns} (I42 : Sim 58 K42 (apL [0, 3, 14, 15, 16] ih42)) : Sim 58 (runK call n c7_43 (D7_42 call n K42)) (apL [0, 3, 14, 15, 16] (J7_44 call n ih42)) := Sim.regE I42 (by kernel_rfl) (by kernel_rfl)
noncomputable def D7_45 (call : VCaller) (n : Nat) (K42 : VRun) : Kont := kn (runK call n c7_43 (D7_42 call n K42)) (D7_42 call n K42)
noncomputable def D7_46 (call : VCaller) (n : Nat) (K42 : VRun) : Kont := kb 1 (D7_45 call n K42)
noncomputable def c7_47 : VCode := .region false (A7 [1, 1, 0, 1, 0, 0, 1, 1, 0, 0, 1, 1])
noncomputable def J7_48 (call : VCaller) (n : Nat) (ih42 : VVal → VVal → VVal → VVal → VVal → VHeap → VAns) (t0 t3 t5 t14 t15 t16 : VVal) (h : VHeap) : VAns :=
  rd (faddr 0 t5) fun t29 =>
  rd (VHeap.load1 h t29) fun t30 =>
  rd (VHeap.loadA h 7 t5) fun t31 =>
  bd (VOp.write [] h (.mapUpdate .str (.const t3) (.const t30) (.const t31))) fun _ h4 =>
  (J7_44 call n ih42 t0 t3 t14 t15 t16 h4)
theorem L7_48 (call : VCaller) (n : Nat) {K42 : VRun} {ih42 : VVal → VVal → VVal → VVal → VVal → VHeap → VAns} (I42 : Sim 58 K42 (apL [0, 3, 14, 15, 16] ih42)) : Sim 58 (runK call n c7_47 (D7_46 call n K42)) (apL [0, 3, 5, 14, 15, 16] (J7_48 call n ih42)) := Sim.regE (L7_44 call n I42) (by kernel_rfl) (by kernel_rfl)
noncomputable def D7_49 (call : VCaller) (n : Nat) (K42 : VRun) : Kont := kn (runK call n c7_47 (D7_46 call n K42)) (D7_46 call n K42)
noncomputable def c7_50 : VCode := .seq (.region false (A7 [1, 1, 0, 1, 0, 0, 1, 1, 0, 0, 1, 0, 1, 1, 0, 0])) .ret
noncomputable def J7_51 (call : VCaller) (n : Nat) (ih42 : VVal → VVal → VVal → VVal → VVal → VHeap → VAns) (h : VHeap) : VAns :=
  (finV [rT (I 10)] h)
theorem L7_51 (call : VCaller) (n : Nat) {K42 : VRun} {ih42 : VVal → VVal → VVal → VVal → VVal → VHeap → VAns} (I42 : Sim 58 K42 (apL [0, 3, 14, 15, 16] ih42)) : Sim 58 (runK call n c7_50 (D7_49 call n K42)) (apL [] (J7_51 call n ih42)) := Sim.reg (Sim.ret R7) (by kernel_rfl) (by kernel_rfl)
noncomputable def c7_52 : VCode := .seq (.region false (A7 [1, 1, 0, 1, 0, 0, 1, 1, 0, 0, 1, 0, 1, 0])) (.cond (.tmp 27) c7_50 .skip)
noncomputable def J7_53 (call : VCaller) (n : Nat) (ih42 : VVal → VVal → VVal → VVal → VVal → VHeap → VAns) (t0 t3 t5 t7 t14 t15 t16 : VVal) (h : VHeap) : VAns :=
  (cnd t7 (J7_51 call n ih42 h) (J7_48 call n ih42 t0 t3 t5 t14 t15 t16 h))
theorem L7_53 (call : VCaller) (n : Nat) {K42 : VRun} {ih42 : VVal → VVal → VVal → VVal → VVal → VHeap → VAns} (I42 : Sim 58 K42 (apL [0, 3, 14, 15, 16] ih42)) : Sim 58 (runK call n c7_52 (D7_49 call n K42)) (apL [0, 3, 5, 7, 14, 15, 16] (J7_53 call n ih42)) := Sim.reg (Sim.cond (L7_51 call n I42) (Sim.skip (L7_48 call n I42))) (by kernel_rfl) (by kernel_rfl)
noncomputable def c7_54 : VCode := .seq (.region false (A7 [1, 1, 0, 1, 0, 0, 1, 1, 0, 0, 1, 0, 0])) c7_52
noncomputable def J7_55 (call : VCaller) (n : Nat) (ih42 : VVal → VVal → VVal → VVal → VVal → VHeap → VAns) (t0 t3 t5 t14 t15 t16 : VVal) (h : VHeap) : VAns :=
  rd (faddr 0 t5) fun t22 =>
  rd (VHeap.load1 h t22) fun t23 =>
  rd (VOp.read [] h (.lookup .str (.agg [(.str []), (I 0), .nilslice, (I 0), (I 0), (.bool false), .nilslice]) (.const t3) (.const t23) true)) fun t24 =>
  rd (extF t24 0) fun t25 =>
  rd (extF t24 1) fun t26 =>
  fr (VOp.fresh [] (.box 38 (.const (.agg [(.str []), (I 0), .nilslice, (I 0), (I 0), (.bool false), .nilslice])))) h fun t6 h7 =>
  bd (VOp.write [] h7 (.store 7 (.const t6) (.const t25))) fun _ h8 =>
  (J7_53 call n ih42 t0 t3 t5 t26 t14 t15 t16 h8)
theorem L7_55 (call : VCaller) (n : Nat) {K42 : VRun} {ih42 : VVal → VVal → VVal → VVal → VVal → VHeap → VAns} (I42 : Sim 58 K42 (apL [0, 3, 14, 15, 16] ih42)) : Sim 58 (runK call n c7_54 (D7_49 call n K42)) (apL [0, 3, 5, 14, 15, 16] (J7_55 call n ih42)) := Sim.reg (L7_53 call n I42) (by kernel_rfl) (by kernel_rfl)
noncomputable def c7_56 : VCode := .seq (.region false (A7 [1, 1, 0, 1, 0, 0, 1, 1, 0, 0, 0])) (.seq c7_54 c7_47)
noncomputable def J7_57 (call : VCaller) (n : Nat) (ih42 : VVal → VVal → VVal → VVal → VVal → VHeap → VAns) (t0 t3 t14 t15 t16 : VVal) (h : VHeap) : VAns :=
  rd (idxS 7 t14 t16) fun t18 =>
  rd (VHeap.loadA h 7 t18) fun t19 =>
  fr (VOp.fresh [] (.box 38 (.const (.agg [(.str []), (I 0), .nilslice, (I 0), (I 0), (.bool false), .nilslice])))) h fun t5 h2 =>
  bd (VOp.write [] h2 (.store 7 (.const t5) (.const t19))) fun _ h3 =>
  (J7_55 call n ih42 t0 t3 t5 t14 t15 t16 h3)
theorem L7_57 (call : VCaller) (n : Nat) {K42 : VRun} {ih42 : VVal → VVal → VVal → VVal → VVal → VHeap → VAns} (I42 : Sim 58 K42 (apL [0, 3, 14, 15, 16] ih42)) : Sim 58 (runK call n c7_56 (D7_46 call n K42)) (apL [0, 3, 14, 15, 16] (J7_57 call n ih42)) := Sim.reg (Sim.seq (L7_55 call n I42)) (by kernel_rfl) (by kernel_rfl)
noncomputable def D7_58 (call : VCaller) (n : Nat) (K42 : VRun) : Kont := kn (runK call n (.seq (.block 1 c7_56) c7_43) (D7_42 call n K42)) (D7_42 call n K42)
noncomputable def c7_59 : VCode := .seq (.region false (A7 [1, 1, 0, 1, 0, 0, 0])) (.seq (.cond (.tmp 17) .skip (.exit 0)) (.seq (.block 1 c7_56) c7_43))
noncomputable def J7_60 (call : VCaller) (n : Nat) (ih42 : VVal → VVal → VVal → VVal → VVal → VHeap → VAns) (t0 t3 t14 t15 t16 : VVal) (h : VHeap) : VAns :=
  rd (ltI t16 t15) fun t17 =>
  (cnd t17 (J7_57 call n ih42 t0 t3 t14 t15 t16 h) (J7_39 call n t0 t3 h))
theorem L7_60 (call : VCaller) (n : Nat) {K42 : VRun} {ih42 : VVal → VVal → VVal → VVal → VVal → VHeap → VAns} (I42 : Sim 58 K42 (apL [0, 3, 14, 15, 16] ih42)) : Sim 58 (runK call n c7_59 (D7_42 call n K42)) (apL [0, 3, 14, 15, 16] (J7_60 call n ih42)) := Sim.reg (Sim.seq (Sim.cond (Sim.skip (Sim.seq (Sim.block (L7_57 call n I42)))) (Sim.exit (Sim.seq (L7_39 call n))))) (by kernel_rfl) (by kernel_rfl)
noncomputable def J7_42 (call : VCaller) (n : Nat) (m : Nat) : VVal → VVal → VVal → VVal → VVal → VHeap → VAns :=
  Nat.rec (motive := fun _ => VVal → VVal → VVal → VVal → VVal → VHeap → VAns) (fun _ _ _ _ _ _ => none) (fun _ ih42 => fun t0 t3 t14 t15 t16 h => (J7_60 call n ih42 t0 t3 t14 t15 t16 h)) m
noncomputable def c7_61 : VCode := .seq (.region false (A7 [1, 1, 0, 0])) (.block 0 (.loop c7_59))
noncomputable def J7_62 (call : VCaller) (n : Nat) (t0 t3 : VVal) (h : VHeap) : VAns :=
  rd (lenF .slice t0 h) fun t15 =>
  (J7_42 call n n t0 t3 t0 t15 (I 0) h)
theorem L7_62 (call : VCaller) (n : Nat) : Sim 58 (runK call n c7_61 (D7_40 call n)) (apL [0, 3] (J7_62 call n)) := Sim.reg (Sim.block (Sim.loop (J := fun m => apL [0, 3, 14, 15, 16] (J7_42 call n m)) (by kernel_rfl) (fun _ I42 => (L7_60 call n I42)))) (by kernel_rfl) (by kernel_rfl)
noncomputable def c7_63 : VCode := .seq (.region false (A7 [1, 0])) (.seq c7_61 (.seq c7_38 c7_0))
noncomputable def J7_64 (call : VCaller) (n : Nat) (t0 : VVal) (h : VHeap) : VAns :=
  fr (VOp.fresh [] (.mkMap)) h fun t13 h0 =>
  (J7_62 call n t0 t13 h0)
theorem L7_64 (call : VCaller) (n : Nat) : Sim 58 (runK call n c7_63 (fin rs7)) (apL [0] (J7_64 call n)) := Sim.reg (Sim.seq (L7_62 call n)) (by kernel_rfl) (by kernel_rfl)
noncomputable def c7_65 : VCode := .seq (.region false (A7 [0])) c7_63
noncomputable def J7_66 (call : VCaller) (n : Nat) (t0 : VVal) (h : VHeap) : VAns :=
  (J7_64 call n t0 h)
theorem L7_66 (call : VCaller) (n : Nat) : Sim 58 (runK call n c7_65 (fin rs7)) (apL [0] (J7_66 call n)) := Sim.reg (L7_64 call n) (by kernel_rfl) (by kernel_rfl)
noncomputable def vf7 : VFunc := ⟨58, rs7, c7_65⟩
noncomputable def S7 (call : VCaller) (n : Nat) : VRun := fun args h => match args with
  | [a0] => (J7_66 call n a0 h)
  | args => runK call n vf7.body (fin vf7.results) (args ++ List.replicate (vf7.ntmps - args.length) .undef) h
theorem S7_ok : FastFn.ok ⟨7, vf7, S7⟩ := by
  intro call n args h
  show _ = S7 call n args h
  unfold S7
  split
  · exact (((L7_66 call n) : Sim 58 (runK call n vf7.body (fin vf7.results)) _) _ _ rfl).trans (by kernel_rfl)
  · rfl
theorem vf7_ok : FastFn.inP Try.prog ⟨7, vf7, S7⟩ := by
  show funcV Try.prog 7 = some vf7
  kernel_rfl
/- (ferrule/low.former).frame -/
noncomputable def A13 := opsAt Try.prog 13
noncomputable def rs13 : List VResult := [.tmp 2]
theorem R13 : Sim 54 (fin rs13 .ret) (fun σ h => (finV [rT (σ 2)] h)) := Sim.of (by kernel_rfl)
noncomputable def c13_0 : VCode := .seq (.region false (A13 [1, 1, 0])) .ret
noncomputable def J13_1 (call : VCaller) (n : Nat) (t1 t3 : VVal) (h : VHeap) : VAns :=
  rd (faddr 6 t3) fun t6 =>
  rd (VHeap.load1 h t6) fun t7 =>
  rd (lenF .slice t7 h) fun t8 =>
  rd (gtI t8 (I 0)) fun t9 =>
  gd true t9 (faddr 1 t3) fun t11 =>
  gd true t9 (VHeap.load1 h t11) fun t12 =>
  gd true t9 (geI t12 (I 0)) fun t13 =>
  rd (pickF t9 t13 (.bool false)) fun t14 =>
  gd true t14 (faddr 1 t3) fun t16 =>
  gd true t14 (VHeap.load1 h t16) fun t17 =>
  gd true t14 (leI t17 (I 65536)) fun t18 =>
  rd (pickF t14 t18 (.bool false)) fun t19 =>
  gd true t19 (faddr 4 t3) fun t21 =>
  gd true t19 (VHeap.load1 h t21) fun t22 =>
  gd true t19 (geI t22 (I 0)) fun t23 =>
  rd (pickF t19 t23 (.bool false)) fun t24 =>
  gd true t24 (faddr 4 t3) fun t26 =>
  gd true t24 (VHeap.load1 h t26) fun t27 =>
  gd true t24 (leI t27 (I 65536)) fun t28 =>
  rd (pickF t24 t28 (.bool false)) fun t29 =>
  gd true t29 (faddr 3 t3) fun t31 =>
  gd true t29 (VHeap.load1 h t31) fun t32 =>
  gd true t29 (geI t32 (I 0)) fun t33 =>
  rd (pickF t29 t33 (.bool false)) fun t34 =>
  gd true t34 (faddr 3 t3) fun t36 =>
  gd true t34 (VHeap.load1 h t36) fun t37 =>
  gd true t34 (leI t37 (I 8)) fun t38 =>
  rd (pickF t34 t38 (.bool false)) fun t39 =>
  gd true t39 (faddr 2 t3) fun t41 =>
  gd true t39 (VHeap.load1 h t41) fun t42 =>
  gd true t39 (lenF .slice t42 h) fun t43 =>
  gd true t39 (leI t43 (I 8)) fun t44 =>
  rd (pickF t39 t44 (.bool false)) fun t45 =>
  gd true t45 (VHeap.loadA h 8 t1) fun t47 =>
  gd true t45 (faddr 2 t3) fun t48 =>
  gd true t45 (VHeap.load1 h t48) fun t49 =>
  gd true t45 (VHeap.loadA h 8 t1) fun t50 =>
  gd true t45 (VOp.read [] h (.mkFunc 23 [(.const t50)] [])) fun t51 =>
  bp .call (opStep call ⟨none, .callF 22 [(.const t47), (.const t49), (.const t51)], some (0, true), [], []⟩ [t45] h) thr fun t52 h46 =>
  rd (pickF t45 t52 (.bool false)) fun t53 =>
  (finV [rT t53] h46)
theorem L13_1 (call : VCaller) (n : Nat) : Sim 54 (runK call n c13_0 (fin rs13)) (apL [1, 3] (J13_1 call n)) := Sim.reg (Sim.ret R13) (by kernel_rfl) (by kernel_rfl)
noncomputable def c13_2 : VCode := .seq (.region false (A13 [1, 0])) c13_0
noncomputable def J13_3 (call : VCaller) (n : Nat) (t1 : VVal) (h : VHeap) : VAns :=
  rd (faddr 1 t1) fun t4 =>
  rd (VHeap.loadA h 7 t4) fun t5 =>
  fr (VOp.fresh [] (.box 38 (.const (.agg [(.str []), (I 0), .nilslice, (I 0), (I 0), (.bool false), .nilslice])))) h fun t3 h2 =>
  bd (VOp.write [] h2 (.store 7 (.const t3) (.const t5))) fun _ h3 =>
  (J13_1 call n t1 t3 h3)
theorem L13_3 (call : VCaller) (n : Nat) : Sim 54 (runK call n c13_2 (fin rs13)) (apL [1] (J13_3 call n)) := Sim.reg (L13_1 call n) (by kernel_rfl) (by kernel_rfl)
noncomputable def c13_4 : VCode := .seq (.region false (A13 [0])) c13_2
noncomputable def J13_5 (call : VCaller) (n : Nat) (t0 : VVal) (h : VHeap) : VAns :=
  fr (VOp.fresh [] (.box 61 (.const t0))) h fun t1 h0 =>
  (J13_3 call n t1 h0)
theorem L13_5 (call : VCaller) (n : Nat) : Sim 54 (runK call n c13_4 (fin rs13)) (apL [0] (J13_5 call n)) := Sim.reg (L13_3 call n) (by kernel_rfl) (by kernel_rfl)
noncomputable def vf13 : VFunc := ⟨54, rs13, c13_4⟩
noncomputable def S13 (call : VCaller) (n : Nat) : VRun := fun args h => match args with
  | [a0] => (J13_5 call n a0 h)
  | args => runK call n vf13.body (fin vf13.results) (args ++ List.replicate (vf13.ntmps - args.length) .undef) h
theorem S13_ok : FastFn.ok ⟨13, vf13, S13⟩ := by
  intro call n args h
  show _ = S13 call n args h
  unfold S13
  split
  · exact (((L13_5 call n) : Sim 54 (runK call n vf13.body (fin vf13.results)) _) _ _ rfl).trans (by kernel_rfl)
  · rfl
theorem vf13_ok : FastFn.inP Try.prog ⟨13, vf13, S13⟩ := by
  show funcV Try.prog 13 = some vf13
  kernel_rfl
/- (ferrule/low.former).set -/
noncomputable def A23 := opsAt Try.prog 23
noncomputable def rs23 : List VResult := [.tmp 4]
theorem R23 : Sim 14 (fin rs23 .ret) (fun σ h => (finV [rT (σ 4)] h)) := Sim.of (by kernel_rfl)
noncomputable def c23_0 : VCode := .seq (.region false (A23 [1, 0])) .ret
noncomputable def J23_1 (call : VCaller) (n : Nat) (t1 t2 : VVal) (h : VHeap) : VAns :=
  rd (geI t1 (I 0)) fun t6 =>
  gd true t6 (some t1) fun t8 =>
  gd true t6 (faddr 1 t2) fun t9 =>
  gd true t6 (faddr 1 t9) fun t10 =>
  gd true t6 (VHeap.load1 h t10) fun t11 =>
  gd true t6 (ltI t8 t11) fun t12 =>
  rd (pickF t6 t12 (.bool false)) fun t13 =>
  (finV [rT t13] h)
theorem L23_1 (call : VCaller) (n : Nat) : Sim 14 (runK call n c23_0 (fin rs23)) (apL [1, 2] (J23_1 call n)) := Sim.reg (Sim.ret R23) (by kernel_rfl) (by kernel_rfl)
noncomputable def c23_2 : VCode := .seq (.region false (A23 [0])) c23_0
noncomputable def J23_3 (call : VCaller) (n : Nat) (t0 t1 : VVal) (h : VHeap) : VAns :=
  fr (VOp.fresh [] (.box 61 (.const t0))) h fun t2 h0 =>
  (J23_1 call n t1 t2 h0)
theorem L23_3 (call : VCaller) (n : Nat) : Sim 14 (runK call n c23_2 (fin rs23)) (apL [0, 1] (J23_3 call n)) := Sim.reg (L23_1 call n) (by kernel_rfl) (by kernel_rfl)
noncomputable def vf23 : VFunc := ⟨14, rs23, c23_2⟩
noncomputable def S23 (call : VCaller) (n : Nat) : VRun := fun args h => match args with
  | [a0, a1] => (J23_3 call n a0 a1 h)
  | args => runK call n vf23.body (fin vf23.results) (args ++ List.replicate (vf23.ntmps - args.length) .undef) h
theorem S23_ok : FastFn.ok ⟨23, vf23, S23⟩ := by
  intro call n args h
  show _ = S23 call n args h
  unfold S23
  split
  · exact (((L23_3 call n) : Sim 14 (runK call n vf23.body (fin vf23.results)) _) _ _ rfl).trans (by kernel_rfl)
  · rfl
theorem vf23_ok : FastFn.inP Try.prog ⟨23, vf23, S23⟩ := by
  show funcV Try.prog 23 = some vf23
  kernel_rfl
/- (ferrule/low.former).all -/
noncomputable def A22 := opsAt Try.prog 22
noncomputable def rs22 : List VResult := [.tmp 6]
theorem R22 : Sim 20 (fin rs22 .ret) (fun σ h => (finV [rT (σ 6)] h)) := Sim.of (by kernel_rfl)
noncomputable def c22_0 : VCode := .seq (.region false (A22 [1, 1, 0])) .ret
noncomputable def J22_1 (call : VCaller) (n : Nat) (h : VHeap) : VAns :=
  (finV [rT (.bool true)] h)
theorem L22_1 (call : VCaller) (n : Nat) : Sim 20 (runK call n c22_0 (fin rs22)) (apL [] (J22_1 call n)) := Sim.reg (Sim.ret R22) (by kernel_rfl) (by kernel_rfl)
noncomputable def D22_2 (call : VCaller) (n : Nat) : Kont := kn (runK call n c22_0 (fin rs22)) (fin rs22)
noncomputable def D22_3 (call : VCaller) (n : Nat) : Kont := kb 0 (D22_2 call n)
noncomputable def D22_4 (call : VCaller) (n : Nat) (K4 : VRun) : Kont := kn K4 (D22_3 call n)
noncomputable def c22_5 : VCode := .region false (A22 [1, 0, 1, 0, 0, 1, 1, 1])
noncomputable def J22_6 (call : VCaller) (n : Nat) (ih4 : VVal → VVal → VVal → VVal → VHeap → VAns) (t2 t9 t10 t11 : VVal) (h : VHeap) : VAns :=
  rd (addI t11 (I 1)) fun t19 =>
  (ih4 t2 t9 t10 t19 h)
theorem L22_6 (call : VCaller) (n : Nat) {K4 : VRun} {ih4 : VVal → VVal → VVal → VVal → VHeap → VAns} (I4 : Sim 20 K4 (apL [2, 9, 10, 11] ih4)) : Sim 20 (runK call n c22_5 (D22_4 call n K4)) (apL [2, 9, 10, 11] (J22_6 call n ih4)) := Sim.regE I4 (by kernel_rfl) (by kernel_rfl)
noncomputable def D22_7 (call : VCaller) (n : Nat) (K4 : VRun) : Kont := kn (runK call n c22_5 (D22_4 call n K4)) (D22_4 call n K4)
noncomputable def D22_8 (call : VCaller) (n : Nat) (K4 : VRun) : Kont := kb 1 (D22_7 call n K4)
noncomputable def c22_9 : VCode := .seq (.region false (A22 [1, 0, 1, 0, 0, 1, 1, 0, 0, 1, 1, 0, 0])) .ret
noncomputable def J22_10 (call : VCaller) (n : Nat) (ih4 : VVal → VVal → VVal → VVal → VHeap → VAns) (h : VHeap) : VAns :=
  (finV [rT (.bool false)] h)
theorem L22_10 (call : VCaller) (n : Nat) {K4 : VRun} {ih4 : VVal → VVal → VVal → VVal → VHeap → VAns} (I4 : Sim 20 K4 (apL [2, 9, 10, 11] ih4)) : Sim 20 (runK call n c22_9 (D22_8 call n K4)) (apL [] (J22_10 call n ih4)) := Sim.reg (Sim.ret R22) (by kernel_rfl) (by kernel_rfl)
noncomputable def c22_11 : VCode := .seq (.region false (A22 [1, 0, 1, 0, 0, 1, 1, 0, 0, 1, 0])) (.cond (.tmp 18) c22_9 .skip)
noncomputable def J22_12 (call : VCaller) (n : Nat) (ih4 : VVal → VVal → VVal → VVal → VHeap → VAns) (t2 t8 t9 t10 t11 : VVal) (h : VHeap) : VAns :=
  cl call (VOp.callee [] (.call (.const t2) [(.const t8)])) h thr fun t17 h2 =>
  rd (unV .not t17) fun t18 =>
  (cnd t18 (J22_10 call n ih4 h2) (J22_6 call n ih4 t2 t9 t10 t11 h2))
theorem L22_12 (call : VCaller) (n : Nat) {K4 : VRun} {ih4 : VVal → VVal → VVal → VVal → VHeap → VAns} (I4 : Sim 20 K4 (apL [2, 9, 10, 11] ih4)) : Sim 20 (runK call n c22_11 (D22_8 call n K4)) (apL [2, 8, 9, 10, 11] (J22_12 call n ih4)) := Sim.reg (Sim.cond (L22_10 call n I4) (Sim.skip (L22_6 call n I4))) (by kernel_rfl) (by kernel_rfl)
noncomputable def c22_13 : VCode := .seq (.region false (A22 [1, 0, 1, 0, 0, 1, 1, 0, 0, 0])) c22_11
noncomputable def J22_14 (call : VCaller) (n : Nat) (ih4 : VVal → VVal → VVal → VVal → VHeap → VAns) (t2 t9 t10 t11 : VVal) (h : VHeap) : VAns :=
  rd (idxS 1 t9 t11) fun t13 =>
  rd (VHeap.load1 h t13) fun t14 =>
  (J22_12 call n ih4 t2 t14 t9 t10 t11 h)
theorem L22_14 (call : VCaller) (n : Nat) {K4 : VRun} {ih4 : VVal → VVal → VVal → VVal → VHeap → VAns} (I4 : Sim 20 K4 (apL [2, 9, 10, 11] ih4)) : Sim 20 (runK call n c22_13 (D22_8 call n K4)) (apL [2, 9, 10, 11] (J22_14 call n ih4)) := Sim.reg (L22_12 call n I4) (by kernel_rfl) (by kernel_rfl)
noncomputable def D22_15 (call : VCaller) (n : Nat) (K4 : VRun) : Kont := kn (runK call n (.seq (.block 1 c22_13) c22_5) (D22_4 call n K4)) (D22_4 call n K4)
noncomputable def c22_16 : VCode := .seq (.region false (A22 [1, 0, 1, 0, 0, 0])) (.seq (.cond (.tmp 12) .skip (.exit 0)) (.seq (.block 1 c22_13) c22_5))
noncomputable def J22_17 (call : VCaller) (n : Nat) (ih4 : VVal → VVal → VVal → VVal → VHeap → VAns) (t2 t9 t10 t11 : VVal) (h : VHeap) : VAns :=
  rd (ltI t11 t10) fun t12 =>
  (cnd t12 (J22_14 call n ih4 t2 t9 t10 t11 h) (J22_1 call n h))
theorem L22_17 (call : VCaller) (n : Nat) {K4 : VRun} {ih4 : VVal → VVal → VVal → VVal → VHeap → VAns} (I4 : Sim 20 K4 (apL [2, 9, 10, 11] ih4)) : Sim 20 (runK call n c22_16 (D22_4 call n K4)) (apL [2, 9, 10, 11] (J22_17 call n ih4)) := Sim.reg (Sim.seq (Sim.cond (Sim.skip (Sim.seq (Sim.block (L22_14 call n I4)))) (Sim.exit (L22_1 call n)))) (by kernel_rfl) (by kernel_rfl)
noncomputable def J22_4 (call : VCaller) (n : Nat) (m : Nat) : VVal → VVal → VVal → VVal → VHeap → VAns :=
  Nat.rec (motive := fun _ => VVal → VVal → VVal → VVal → VHeap → VAns) (fun _ _ _ _ _ => none) (fun _ ih4 => fun t2 t9 t10 t11 h => (J22_17 call n ih4 t2 t9 t10 t11 h)) m
noncomputable def c22_18 : VCode := .seq (.region false (A22 [1, 0, 0])) (.block 0 (.loop c22_16))
noncomputable def J22_19 (call : VCaller) (n : Nat) (t1 t2 : VVal) (h : VHeap) : VAns :=
  rd (lenF .slice t1 h) fun t10 =>
  (J22_4 call n n t2 t1 t10 (I 0) h)
theorem L22_19 (call : VCaller) (n : Nat) : Sim 20 (runK call n c22_18 (D22_2 call n)) (apL [1, 2] (J22_19 call n)) := Sim.reg (Sim.block (Sim.loop (J := fun m => apL [2, 9, 10, 11] (J22_4 call n m)) (by kernel_rfl) (fun _ I4 => (L22_17 call n I4)))) (by kernel_rfl) (by kernel_rfl)
noncomputable def c22_20 : VCode := .seq (.region false (A22 [0])) (.seq c22_18 c22_0)
noncomputable def J22_21 (call : VCaller) (n : Nat) (t0 t1 t2 : VVal) (h : VHeap) : VAns :=
  fr (VOp.fresh [] (.box 61 (.const t0))) h fun t3 h0 =>
  (J22_19 call n t1 t2 h0)
theorem L22_21 (call : VCaller) (n : Nat) : Sim 20 (runK call n c22_20 (fin rs22)) (apL [0, 1, 2] (J22_21 call n)) := Sim.reg (Sim.seq (L22_19 call n)) (by kernel_rfl) (by kernel_rfl)
noncomputable def vf22 : VFunc := ⟨20, rs22, c22_20⟩
noncomputable def S22 (call : VCaller) (n : Nat) : VRun := fun args h => match args with
  | [a0, a1, a2] => (J22_21 call n a0 a1 a2 h)
  | args => runK call n vf22.body (fin vf22.results) (args ++ List.replicate (vf22.ntmps - args.length) .undef) h
theorem S22_ok : FastFn.ok ⟨22, vf22, S22⟩ := by
  intro call n args h
  show _ = S22 call n args h
  unfold S22
  split
  · exact (((L22_21 call n) : Sim 20 (runK call n vf22.body (fin vf22.results)) _) _ _ rfl).trans (by kernel_rfl)
  · rfl
theorem vf22_ok : FastFn.inP Try.prog ⟨22, vf22, S22⟩ := by
  show funcV Try.prog 22 = some vf22
  kernel_rfl
end Go.Proofs.Ythefbgflndpggaa.LF
