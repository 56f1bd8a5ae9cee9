/- Operations that make a block. -/
import Derived.Test.YthefbgflndpggaaV14
set_option linter.unusedSimpArgs false
set_option linter.unusedVariables false
namespace Go.V
open Go.RowKit

structure NewW (w w' : World) : Prop where
  size : w'.heap.size = w.heap.size + 1
  old : ∀ c, c < w.heap.size → w'.heap[c]? = w.heap[c]?
  os : w'.os = w.os
  tape : w'.tape = w.tape
  output : w'.output = w.output

section
variable {P : Program} {w0 : World} {φ : VMap} {h : VHeap} {w : World} {ts : List VVal} {ρ : Operand → Value}

def FreshOk (P : Program) (w0 : World) (φ : VMap) (w : World) (ρ : Operand → Value) (o : Oper) (x : VObj) (mk : Nat → VVal) : Prop :=
  ∃ v' w' N, (execOp ρ o).run P w = .ok (.value v') w' ∧ NewW w w' ∧ RelObj w0 φ w' 0 ⟨w.heap.size, N⟩ x ∧ ∀ (φ' : VMap) (b : Nat), φ' b 0 = some ⟨w.heap.size, N⟩ → RelV w0 φ' (mk b) v'

theorem NewW.alloc (w : World) (o : Obj) : NewW w (w.alloc o) := ⟨by simp, fun c hc => (by show (w.heap.push o)[c]? = _; rw [Array.getElem?_push, if_neg (by omega)]), rfl, rfl, rfl⟩
theorem NewW.drewAlloc (w : World) (o : Obj) : NewW w (w.drew.alloc o) := ⟨by simp, fun c hc => (by show (w.heap.push o)[c]? = _; rw [Array.getElem?_push, if_neg (by omega)]), rfl, rfl, rfl⟩

/-- A new row of cells. -/
theorem relObj_row {w' : World} {c : Nat} {arr : Array Value} {e : TypeId} {fr : Nat × Nat} {cs : List VVal} (hb : w'.heap[c]? = some (.cells arr e fr)) (hfr : fr.2 ≤ fr.1 ∨ arr.size ≤ fr.1) {pre post : List Value} (hp : arr.toList = pre ++ post)
    (hr : RelVs w0 φ cs pre) : RelObj w0 φ w' 0 ⟨c, arr.size⟩ (.cells cs e 0) :=
  ⟨Nat.le_refl _, fun _ => ⟨arr, fr, hb, rfl, hfr, pre, post, hp, hr⟩⟩

theorem fr_box (hρ : RelEnv w0 φ ts ρ) {o : Oper} {elem : TypeId} {x : Operand} (ho : o.op = .box elem x) {vo : VOp} (hc : opV? P o.op = some vo) {r : VObj × (Nat → VVal)} (hf : vo.fresh ts = some r) : FreshOk P w0 φ w ρ o r.1 r.2 := by
  rw [ho] at hc
  obtain ⟨y, h1, rfl⟩ := one_opd hc
  simp only [VOp.fresh] at hf
  split at hf
  · rename_i hwh
    injection hf with hf; subst hf
    have hnp : y.ev ts ≠ .poison := by intro e; rw [e] at hwh; cases hwh
    have hcells := cells_rel' (hρ _ _ h1) hnp
    refine ⟨.pointer (some ⟨w.heap.size, 0, none⟩), w.alloc (.cells (ρ x).cells elem), (ρ x).cells.size, ?_, NewW.alloc _ _, ?_, fun φ' b hb => .ptr hb⟩
    · simp only [execOp, ho, Instr.box, newVar, newRow, Sem.run_bind, run_newObj, Result.andThen_ok, Sem.run_pure]; rfl
    · exact relObj_row (heap_alloc_new w _) (.inl (Nat.le_refl _)) (List.append_nil _).symm hcells
  · cases hf

theorem fr_alloc {o : Oper} {elem : TypeId} (ho : o.op = .alloc elem) {vo : VOp} (hc : opV? P o.op = some vo) {r : VObj × (Nat → VVal)} (hf : vo.fresh ts = some r) : FreshOk P w0 φ w ρ o r.1 r.2 := by
  rw [ho] at hc
  simp only [opV?, Option.map_eq_some_iff] at hc
  obtain ⟨z, hz, rfl⟩ := hc
  have hf : (if z.whole = true then some (VObj.cells z.cells elem 0, fun b => VVal.ptr b 0 0) else none) = some r := hf
  by_cases hwh : z.whole = true
  · rw [if_pos hwh] at hf
    injection hf with hf; subst hf
    obtain ⟨zv, hz1, hz2, _⟩ := run_zero (w := w) hz
    have hcells := cells_rel' (valueV_rel (w0 := w0) (φ := φ) hz2) (zero_whole hz2)
    refine ⟨.pointer (some ⟨w.heap.size, 0, none⟩), w.alloc (.cells zv.cells elem), zv.cells.size, ?_, NewW.alloc _ _, ?_, fun φ' b hb => .ptr hb⟩
    · simp only [execOp, ho, Instr.alloc, newVar, newRow, Sem.run_bind, hz1, run_newObj, Result.andThen_ok, Sem.run_pure]; rfl
    · exact relObj_row (heap_alloc_new w _) (.inl (Nat.le_refl _)) (List.append_nil _).symm hcells
  · rw [if_neg hwh] at hf; cases hf

theorem repeatV_length (z : List VVal) : ∀ n, (repeatV z n).length = n * z.length := by
  intro n
  induction n with
  | zero => simp [repeatV]
  | succ n ih => simp [repeatV, ih, Nat.add_mul]; omega

theorem repeatV_get (z : List VVal) : ∀ n i, i < n * z.length → (repeatV z n)[i]? = z[i % z.length]? := by
  intro n
  induction n with
  | zero => intro i hi; simp at hi
  | succ n ih =>
    intro i hi
    simp only [repeatV]
    by_cases hlt : i < z.length
    · rw [List.getElem?_append_left hlt, Nat.mod_eq_of_lt hlt]
    · rw [List.getElem?_append_right (by omega), ih _ (by rw [Nat.add_mul] at hi; omega)]
      rw [Nat.mod_eq_sub_mod (by omega : i ≥ z.length)]

theorem madeCells_rel {z : List VVal} {zv : Array Value} (hr : RelVs w0 φ z zv.toList) (n : Nat) : RelVs w0 φ (repeatV z n) (madeCells zv (n * zv.size)).toList := by
  have hl : z.length = zv.size := by rw [hr.length]; simp
  refine .of_get (by rw [repeatV_length, hl]; simp [madeCells]) fun i x hx => ?_
  have hi : i < n * z.length := by obtain ⟨hlt, _⟩ := List.getElem?_eq_some_iff.1 hx; rwa [repeatV_length] at hlt
  rw [repeatV_get z n i hi] at hx
  obtain ⟨y, hy, hrel⟩ := hr.get _ hx
  refine ⟨y, ?_, hrel⟩
  rw [hl] at hi hy
  rw [Array.getElem?_toList] at hy
  simp [madeCells, hi, Array.getElem!_eq_getD, Array.getD_eq_getD_getElem?, hy]

theorem zeroCells_rel {z : List VVal} {zv : Array Value} (hr : RelVs w0 φ z zv.toList) (n : Nat) : RelVs w0 φ (repeatV z n) (Builtin.zeroCells zv n).toList := madeCells_rel hr n

theorem fr_buildSlice (hρ : RelEnv w0 φ ts ρ) {o : Oper} {t : TypeId} {ln : Nat} {parts : Array (Nat × Operand)} (ho : o.op = .buildSlice t ln parts) {vo : VOp} (hc : opV? P o.op = some vo) {r : VObj × (Nat → VVal)} (hf : vo.fresh ts = some r) : FreshOk P w0 φ w ρ o r.1 r.2 := by
  rw [ho] at hc
  simp only [opV?] at hc
  split at hc
  · rename_i e hu
    split at hc
    · rename_i z i hz hi
      split at hc
      · rename_i hcond
        obtain ⟨hc1, hc2, hc3⟩ := hcond
        simp only [Option.map_eq_some_iff] at hc
        obtain ⟨vp, hp, rfl⟩ := hc
        obtain ⟨zv, hz1, hz2, _⟩ := run_zero (w := w) hz
        have hzr := cells_rel' (valueV_rel (w0 := w0) (φ := φ) hz2) (zero_whole hz2)
        have hzs : zv.cells.size = i.size := by rw [← hc1, hzr.length]; simp
        obtain ⟨hl, hsp⟩ := placesA_spec hp
        simp only [VOp.fresh] at hf
        split at hf
        · rename_i cs hfill
          injection hf with hf; subst hf
          have hmade := madeCells_rel (n := ln) hzr
          obtain ⟨arr', ha, hb⟩ := fill_rel (place := fun k => some (k * i.size, i.size)) parts.toList vp _ (madeCells zv.cells (ln * zv.cells.size)) cs hρ hsp hl hmade hfill
          rw [hzs] at ha
          have ha' : Instr.fill (fun k => some (k * i.size, i.size)) ((Array.range (ln * i.size)).map (zv.cells[· % zv.cells.size]!)) (List.map (fun p => (p.1, ρ p.2)) parts.toList) = some arr' := ha
          refine ⟨.slice (some ⟨w.heap.size, 0, none⟩) ln ln, w.alloc (.cells arr' e), arr'.size, ?_, NewW.alloc _ _, ?_, fun φ' b hb => .sliceK hb (Nat.le_refl _)⟩
          · by_cases hz0 : ln * i.size = 0
            · have hle : ¬ (ln * i.size > 2 ^ 24) := by omega
              have hr0 : Array.range (ln * i.size) = #[] := by rw [hz0]; rfl
              rw [hr0, Array.map_empty] at ha'
              simp only [execOp, ho, Instr.buildSlice, Sem.run_bind, run_underlying hu, run_size hi, Result.andThen_ok, hr0, Array.map_empty, Array.toList_map, ha']
              rw [if_neg hle]
              simp only [hz0, if_true, Sem.run_bind, Sem.run_pure, Result.andThen_ok, newRow, run_newObj]
              rfl
            · have hle : ¬ (ln * i.size > 2 ^ 24) := by omega
              simp only [execOp, ho, Instr.buildSlice, Sem.run_bind, run_underlying hu, run_size hi, Result.andThen_ok, hle, if_false, hz0, Sem.run_pure, hz1, newRow, run_newObj, Array.toList_map, ha']
              rfl
          · exact relObj_row (heap_alloc_new w _) (.inl (Nat.le_refl _)) (List.append_nil _).symm hb
        · cases hf
      · cases hc
    · cases hc
  · cases hc

theorem fr_toBytes (hρ : RelEnv w0 φ ts ρ) {o : Oper} {s d : TypeId} {x : Operand} (ho : o.op = .convert s d x) {vo : VOp} (hc : opV? P o.op = some vo) {r : VObj × (Nat → VVal)} (hf : vo.fresh ts = some r) : FreshOk P w0 φ w ρ o r.1 r.2 := by
  rw [ho] at hc
  simp only [opV?] at hc
  split at hc
  · injection hc with hc; subst hc; simp [VOp.fresh] at hf
  · injection hc with hc; subst hc; simp [VOp.fresh] at hf
  · rename_i e y hs hd hx
    split at hc
    · rename_i he
      injection hc with hc; subst hc
      simp only [VOp.fresh] at hf
      have hr := hρ _ _ hx
      split at hf
      · rename_i l heq
        split at hf
        · rename_i hle
          injection hf with hf; subst hf
          rw [heq] at hr
          cases hx' : ρ x <;> rw [hx'] at hr <;> cases hr
          rename_i sb
          have hrun := run_bytes_of_string (P := P) w s d e sb hs hd he
          have hcap := grownCap_ge w sb.size 0 e
          have hsz : (bytesRow sb (grownCap w sb.size 0 e)).size = grownCap w sb.size 0 e := by
            have h0 : sb.data.size = sb.size := rfl
            simp [bytesRow, h0]; omega
          refine ⟨.slice (some ⟨w.heap.size, 0, none⟩) sb.size (grownCap w sb.size 0 e), w.drew.alloc (.cells (bytesRow sb (grownCap w sb.size 0 e)) e ((bytesRow sb (grownCap w sb.size 0 e)).size, (bytesRow sb (grownCap w sb.size 0 e)).size + 1)), (bytesRow sb (grownCap w sb.size 0 e)).size, ?_, NewW.drewAlloc w _, ?_, ?_⟩
          · simp only [execOp, ho, hx', Sem.run_bind, hrun, Result.andThen_ok, Sem.run_pure]
          · refine relObj_row (heap_alloc_new w.drew _) (.inr (Nat.le_refl _)) (pre := sb.data.toList.map fun b => Value.int .u8 b.toNat) (post := List.replicate (grownCap w sb.size 0 e - sb.size) (.int .u8 0)) (by simp [bytesRow]) ?_
            rw [List.map_map]
            generalize sb.data.toList = l
            induction l with
            | nil => exact .nil
            | cons a l ih => exact .cons (.int _ _) ih
          · intro φ' b hb
            have hlen : (sb.data.toList.map UInt8.toNat).length = sb.size := by rw [List.length_map, Array.length_toList]; rfl
            rw [hlen]
            exact .sliceU hb hcap (.inr ⟨rfl, by show 0 + grownCap w sb.size 0 e * 1 ≤ (bytesRow sb (grownCap w sb.size 0 e)).size; omega⟩)
        · cases hf
      · cases hf
    · cases hc
  · split at hc
    · injection hc with hc; subst hc; simp [VOp.fresh] at hf
    · cases hc
  · cases hc

theorem fr_mkMap {o : Oper} {t : TypeId} {rs : Option Operand} (ho : o.op = .makeMap t rs) (hρ : RelEnv w0 φ ts ρ) {vo : VOp} (hc : opV? P o.op = some vo) {r : VObj × (Nat → VVal)} (hf : vo.fresh ts = some r) : FreshOk P w0 φ w ρ o r.1 r.2 := by
  rw [ho] at hc
  have fin : vo = .mkMap → (Instr.makeMap t (rs.map ρ)).run P w = .ok (.map (some w.heap.size)) (w.alloc (.map #[] 0)) → FreshOk P w0 φ w ρ o r.1 r.2 := by
    rintro rfl hrun
    simp only [VOp.fresh, Option.some.injEq] at hf; subst hf
    refine ⟨.map (some w.heap.size), w.alloc (.map #[] 0), 0, ?_, NewW.alloc _ _, ?_, fun φ' b hb => .map hb⟩
    · simp only [execOp, ho, Sem.run_bind, hrun, Result.andThen_ok, Sem.run_pure]
    · exact ⟨rfl, #[], 0, heap_alloc_new w _, ⟨[], .refl _, .nil, fun _ => rfl⟩, List.Pairwise.nil, List.Pairwise.nil, fun x hx => (by simp at hx), fun bs c h => (by injection h with h; injection h with h1 h2; subst h1 h2; exact ⟨rfl, rfl⟩)⟩
  simp only [opV?, mapV] at hc
  split at hc
  · injection hc with hc
    exact fin hc.symm (by simp [Instr.makeMap])
  · rename_i k n kt e hu
    injection hc with hc
    have := hρ (.const (.int k n)) (.const (.int k n)) rfl
    refine fin hc.symm ?_
    cases hx : ρ (.const (.int k n)) <;> rw [hx] at this <;> cases this
    simp [Instr.makeMap, hx, run_underlying hu, asInt, asIntOf]
  · cases hc

theorem fr_mkSlice (hρ : RelEnv w0 φ ts ρ) {o : Oper} {t : TypeId} {l c : Operand} (ho : o.op = .makeSlice t l c) {vo : VOp} (hc : opV? P o.op = some vo) {r : VObj × (Nat → VVal)} (hf : vo.fresh ts = some r) : FreshOk P w0 φ w ρ o r.1 r.2 := by
  rw [ho] at hc
  simp only [opV?] at hc
  split at hc
  · rename_i e hu
    split at hc
    · rename_i z i l' c' hz hi hl hcc
      split at hc
      · rename_i hcond
        obtain ⟨hc1, hc2⟩ := hcond
        injection hc with hc; subst hc
        obtain ⟨zv, hz1, hz2, i', hi', hzi⟩ := run_zero (w := w) hz
        rw [hi] at hi'; injection hi' with hi'; subst hi'
        have hzr := cells_rel' (valueV_rel (w0 := w0) (φ := φ) hz2) (zero_whole hz2)
        have hzs : zv.cells.size = i.size := by rw [← hc1, hzr.length]; simp
        simp only [VOp.fresh, repeatR_eq] at hf
        split at hf
        · rename_i li ci hli hci
          obtain ⟨kl, hkl⟩ := idx_rel (hρ _ _ hl) hli
          obtain ⟨kc, hkc⟩ := idx_rel (hρ _ _ hcc) hci
          split at hf
          · rename_i ln cn hln hcn
            obtain ⟨rfl, hle1⟩ := natOf_spec hln
            obtain ⟨rfl, hle2⟩ := natOf_spec hcn
            split at hf
            · rename_i hcond
              rw [Bool.and_eq_true] at hcond
              have hlc : ln ≤ cn := Nat.le_of_ble_eq_true hcond.1
              have hby : i.bytes * cn ≤ 281474976710656 := Nat.le_of_ble_eq_true hcond.2
              injection hf with hf; subst hf
              have hrun := run_make (P := P) w t e i zv hu hi hzi kl kc ln cn (by omega) (by omega) (by have h := Int.ofNat_le.2 hby; rw [Int.natCast_mul] at h; exact h) (by omega)
              simp only [Int.toNat_natCast] at hrun
              refine ⟨.slice (some ⟨w.heap.size, 0, none⟩) ln cn, w.alloc (.cells (madeCells zv.cells (cn * i.size)) e), (madeCells zv.cells (cn * i.size)).size, ?_, NewW.alloc _ _, ?_, fun φ' b hb => .sliceK hb hlc⟩
              · simp only [execOp, ho, hkl, hkc, Sem.run_bind, hrun, Result.andThen_ok, Sem.run_pure]
              · have := madeCells_rel (n := cn) hzr
                rw [hzs] at this
                exact relObj_row (heap_alloc_new w _) (.inl (Nat.le_refl _)) (List.append_nil _).symm this
            · cases hf
          · cases hf
        · cases hf
      · cases hc
    · cases hc
  · cases hc
theorem fresh_sound (hρ : RelEnv w0 φ ts ρ) {o : Oper} {vo : VOp} (hc : opV? P o.op = some vo) {r : VObj × (Nat → VVal)} (hf : vo.fresh ts = some r) : FreshOk P w0 φ w ρ o r.1 r.2 := by
  cases ho : o.op with
  | alloc e => exact fr_alloc ho hc hf
  | box e x => exact fr_box hρ ho hc hf
  | buildSlice t l p => exact fr_buildSlice hρ ho hc hf
  | convert s d x => exact fr_toBytes hρ ho hc hf
  | makeMap t r => exact fr_mkMap ho hρ hc hf
  | makeSlice t l c => exact fr_mkSlice hρ ho hc hf
  | call c =>
    obtain ⟨callee, args, tys⟩ := c
    cases callee with
    | builtin b =>
      cases b with
      | _ => first
        | (rw [ho] at hc; simp only [opV?, reduceCtorEq] at hc; done)
        | (rw [ho] at hc; simp only [opV?] at hc; (repeat' split at hc) <;> first | (cases hc; done) | (injection hc with hc; subst hc; simp [VOp.fresh] at hf; done) | (simp only [Option.map_eq_some_iff] at hc; obtain ⟨_, _, rfl⟩ := hc; simp [VOp.fresh] at hf; done))
    | value f => first
        | (rw [ho] at hc; simp only [opV?, reduceCtorEq] at hc; done)
        | (rw [ho] at hc; simp only [opV?] at hc; (repeat' split at hc) <;> first | (cases hc; done) | (injection hc with hc; subst hc; simp [VOp.fresh] at hf; done) | (simp only [Option.map_eq_some_iff] at hc; obtain ⟨_, _, rfl⟩ := hc; simp [VOp.fresh] at hf; done))
    | invoke r m => first
        | (rw [ho] at hc; simp only [opV?, reduceCtorEq] at hc; done)
        | (rw [ho] at hc; simp only [opV?] at hc; (repeat' split at hc) <;> first | (cases hc; done) | (injection hc with hc; subst hc; simp [VOp.fresh] at hf; done) | (simp only [Option.map_eq_some_iff] at hc; obtain ⟨_, _, rfl⟩ := hc; simp [VOp.fresh] at hf; done))
  | binOp op t x y u =>
    rw [ho] at hc
    simp only [opV?] at hc
    (repeat' split at hc) <;> first | (cases hc; done) | (injection hc with hc; subst hc; simp [VOp.fresh] at hf; done)
  | makeFunc f a c =>
    rw [ho] at hc
    cases f with
    | func f => simp only [opV?] at hc; split at hc <;> first | (cases hc; done) | (injection hc with hc; subst hc; simp [VOp.fresh] at hf; done)
    | _ => simp [opV?] at hc
  | _ => first
    | (rw [ho] at hc; simp only [opV?, reduceCtorEq] at hc; done)
    | (rw [ho] at hc; simp only [opV?] at hc; (repeat' split at hc) <;> first | (cases hc; done) | (injection hc with hc; subst hc; simp [VOp.fresh] at hf; done) | (simp only [Option.map_eq_some_iff] at hc; obtain ⟨_, _, rfl⟩ := hc; simp [VOp.fresh] at hf; done))
end
end Go.V
