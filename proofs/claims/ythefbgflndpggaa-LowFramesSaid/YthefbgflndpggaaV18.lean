/- Operations that write: append and copy. -/
import Derived.Test.YthefbgflndpggaaV17
set_option linter.unusedSimpArgs false
set_option linter.unusedVariables false
namespace Go.V
open Go.RowKit

section
variable {P : Program} {w0 : World} {φ : VMap} {h : VHeap} {w : World} {ts : List VVal} {ρ : Operand → Value}

theorem firstCells_same {w1 : World} (hh : w1.heap = w.heap) {size n : Nat} {y : Value} {c : Array Value} (hr : (Builtin.firstCells size n y).run P w = .ok c w)
    (hc : (∃ s, y = .string s) ∨ ∃ ao k cap, y = .slice ao k cap ∧ (ao = none ∨ ∃ g off, ao = some ⟨g, off, none⟩ ∧ ∀ j v, c.toList[j]? = some v → w.cell? ⟨g, off + j, none⟩ = some v) ∧ (ao ≠ none → c.size = n * size)) :
    (Builtin.firstCells size n y).run P w1 = .ok c w1 := by
  rcases hc with ⟨s, rfl⟩ | ⟨ao, k, cap, rfl, hao, hsz⟩
  · simp only [Builtin.firstCells, Sem.run_pure] at hr ⊢
    injection hr with hr; rw [hr]
  · rcases hao with rfl | ⟨g, off, rfl, hcell⟩
    · simp only [Builtin.firstCells, Sem.run_pure] at hr ⊢
      injection hr with hr; rw [hr]
    · simp only [Builtin.firstCells]
      have hcell' : ∀ j v, c.toList[j]? = some v → w1.cell? ((⟨g, off, none⟩ : Addr).add j) = some v := by
        intro j v hv
        rw [addr_add]
        have := hcell j v hv
        unfold World.cell? at this ⊢
        rw [hh]; exact this
      have := run_loadCells_list (P := P) w1 ⟨g, off, none⟩ c.toList hcell'
      rw [← hsz (by simp)]
      simpa using this

/-- What is appended, as the model has it: n elements, these cells, in any world of this heap. -/
def Added (P : Program) (w : World) (size bytes : Nat) (zeros : Bool) (zv : Array Value) (y : Value) (n : Nat) (c : Array Value) : Prop :=
  match zeros with
  | true => ∃ k, y = .int k n ∧ n * bytes ≤ 140737488355328 ∧ n ≤ 1099511627776 ∧ c = Builtin.zeroCells zv n ∧ zv.size = size
  | false => (Builtin.lenOf y).run P w = .ok n w ∧ ∀ w1 : World, w1.heap = w.heap → (Builtin.firstCells size n y).run P w1 = .ok c w1

section runs
variable {t u ty e : TypeId} {d : TypeDesc} {tys : Array TypeId} {i : TypeInfo} {zv : Value}

theorem lenOf_world {y : Value} {n : Nat} (hy : (Builtin.lenOf y).run P w = .ok n w) (w1 : World) : (Builtin.lenOf y).run P w1 = .ok n w1 := by
  cases y <;> simp [Builtin.lenOf] at hy ⊢ <;> exact hy

def kindOf (d : TypeDesc) (zeros : Bool) : Prop := (zeros = false ∧ ((∃ x, d = .slice x) ∨ d = .string)) ∨ (zeros = true ∧ ∃ k, d = .int k)

theorem run_append_fit (h0 : tys[0]? = some t) (h1 : tys[1]? = some u) (hu : P.underlying t = some (.slice e)) (hd : P.underlying u = some d) (hi : P.info? e = some i) (hzi : i.zero = some zv)
    {zeros : Bool} (hz : kindOf d zeros) {y : Value} {n : Nat} {c : Array Value} (ha : Added P w i.size i.bytes zeros zv.cells y n c) {base : Option Addr} {ln cap : Nat} (hfit : ln + n ≤ cap) :
    (Builtin.append_ tys ty #[.slice base ln cap, y]).run P w = (match base with
      | some a => (do storeCells (a.add (ln * i.size)) c.toList; pure (.slice base (ln + n) cap) : Sem Value)
      | none => pure (.slice base (ln + n) cap)).run P w := by
  have hzero : (zeroValue e).run P w = .ok zv w := by simp [zeroValue, run_info hi, hzi]
  rcases hz with ⟨rfl, hk⟩ | ⟨rfl, k, rfl⟩
  · obtain ⟨hl, hf⟩ := ha
    rcases hk with ⟨x, rfl⟩ | rfl <;> cases base <;> simp [Builtin.append_, h0, h1, run_underlying hu, run_underlying hd, run_size hi, hl, hfit, hf w rfl]
  · obtain ⟨k', rfl, hb1, hb2, rfl, hzs⟩ := ha
    have hw : IntKind.i64.wrap (n : Int) = n := by rw [IntKind.wrap_i64]; omega
    have hb3 : ¬ (281474976710656 < (n : Int) * i.bytes) := by
      have := Int.ofNat_le.2 hb1; rw [Int.natCast_mul] at this; omega
    by_cases hn : n * i.size = 0
    · have hnone : Builtin.zeroCells zv.cells n = #[] := by simp [Builtin.zeroCells, hzs, hn, Array.range_zero']
      have hneg : ¬ ((n : Int) < 0) := by omega
      cases base <;> simp [Builtin.append_, h0, h1, run_underlying hu, run_underlying hd, run_size hi, asInt, asIntOf, hw, run_info hi, hb3, hfit, hn, hneg, hnone]
    · have hneg : ¬ ((n : Int) < 0) := by omega
      cases base <;> simp [Builtin.append_, h0, h1, run_underlying hu, run_underlying hd, run_size hi, asInt, asIntOf, hw, run_info hi, hb3, hfit, hn, hneg, hzero]

theorem run_append_grow' (h0 : tys[0]? = some t) (h1 : tys[1]? = some u) (hu : P.underlying t = some (.slice e)) (hd : P.underlying u = some d) (hi : P.info? e = some i) (hzi : i.zero = some zv)
    {zeros : Bool} (hz : kindOf d zeros) {y : Value} {n : Nat} {c : Array Value} (ha : Added P w i.size i.bytes zeros zv.cells y n c) {base : Option Addr} {ln cap : Nat} (hgrow : cap < ln + n) {olds : Array Value}
    (hold : ∀ w1 : World, w1.heap = w.heap → (Builtin.firstCells i.size ln (.slice base ln cap)).run P w1 = .ok olds w1) (hby : (ln + n) * i.bytes ≤ 140737488355328) (hbig : ln + n ≤ 1099511627776) (hnz : i.bytes ≠ 0) :
    (Builtin.append_ tys ty #[.slice base ln cap, y]).run P w = .ok (.slice (some ⟨w.heap.size, 0, none⟩) (ln + n) (grownCap w (ln + n) cap e))
        (w.drew.alloc (.cells (olds ++ c ++ Builtin.zeroCells zv.cells (grownCap w (ln + n) cap e - (ln + n))) e)) := by
  have hzero : ∀ w1, (zeroValue e).run P w1 = .ok zv w1 := fun w1 => by simp [zeroValue, run_info hi, hzi]
  have hn0 : ¬ (ln + n ≤ cap) := by omega
  have h63 : ¬ (9223372036854775807 < ((ln : Int) + (n : Int))) := by omega
  have h48 : ¬ (281474976710656 < Builtin.nextslicecap (ln + n) cap * i.bytes) := by
    have := growslice_fits hgrow hby; omega
  rcases hz with ⟨rfl, hk⟩ | ⟨rfl, k, rfl⟩
  · obtain ⟨hl, hf⟩ := ha
    rcases hk with ⟨x, rfl⟩ | rfl <;> simp [Builtin.append_, h0, h1, run_underlying hu, run_underlying hd, run_size hi, hl, hn0, h63, h48, run_info hi, hzero, Question.forced, hf w.drew rfl, hold w.drew rfl, newRow, grownCap, hnz]
  · obtain ⟨k', rfl, hb1, hb2, rfl, hzs⟩ := ha
    have hw : IntKind.i64.wrap (n : Int) = n := by rw [IntKind.wrap_i64]; omega
    have hb3 : ¬ (281474976710656 < (n : Int) * i.bytes) := by
      have := Int.ofNat_le.2 hb1; rw [Int.natCast_mul] at this; omega
    by_cases hn : n * i.size = 0
    · have hnone : Builtin.zeroCells zv.cells n = #[] := by simp [Builtin.zeroCells, hzs, hn, Array.range_zero']
      have hneg : ¬ ((n : Int) < 0) := by omega
      simp [Builtin.append_, h0, h1, run_underlying hu, run_underlying hd, run_size hi, asInt, asIntOf, hw, run_info hi, hb3, hn, hneg, hnone, hn0, h63, h48, hzero, Question.forced, hold w.drew rfl, newRow, grownCap]
    · have hneg : ¬ ((n : Int) < 0) := by omega
      simp [Builtin.append_, h0, h1, run_underlying hu, run_underlying hd, run_size hi, asInt, asIntOf, hw, run_info hi, hb3, hn, hneg, hn0, h63, h48, hzero, Question.forced, hold w.drew rfl, newRow, grownCap]
end runs

theorem added_rel (H : RelH w0 φ h w) (hρ : RelEnv w0 φ ts ρ) {y : Operand} {y' : VOpd} (hy : opdV y = some y') {sz bytes : Nat} {zeros : Option (List VVal)} {n : Nat} {new : List VVal} (ha : addedV ts h sz bytes zeros y' = some (n, new))
    {z : VVal} {zv : Value} (hzv : RelVs w0 φ z.cells zv.cells.toList) (hzl : z.cells.length = sz) (hzeros : zeros = none ∨ zeros = some z.cells) :
    ∃ c : Array Value, Added P w sz bytes zeros.isSome zv.cells (ρ y) n c ∧ RelVs w0 φ new c.toList ∧ new.length = n * sz := by
  have hzs : zv.cells.size = sz := by rw [← hzl, hzv.length]; simp
  have hr := hρ _ _ hy
  unfold addedV at ha
  simp only [repeatR_eq, lenR_eq] at ha
  rcases hzeros with rfl | rfl
  · simp only at ha
    split at ha
    · rename_i n' cs h1 h2
      split at ha
      · rename_i hlen
        injection ha with ha
        injection ha with e1 e2; subst e1 e2
        have hlen : cs.length = n' * sz := by simpa using hlen
        by_cases hstr : ∃ s, y'.ev ts = .str s
        · obtain ⟨s, hs⟩ := hstr
          rw [hs] at h1 h2 hr
          cases hy' : ρ y <;> rw [hy'] at hr <;> cases hr
          rename_i sb
          simp only [lenV, Option.some.injEq] at h1
          simp only [VHeap.rowCells, Option.some.injEq] at h2
          have hn : n' = sb.size := by rw [← h1, lenR_eq, List.length_map, Array.length_toList]; rfl
          subst hn
          refine ⟨sb.data.map fun b => .int .u8 b.toNat, ⟨by simp [Builtin.lenOf], fun w1 _ => ?_⟩, ?_, hlen⟩
          · simp only [Builtin.firstCells, Sem.run_pure]
            congr 2
            have : sb.extract 0 sb.size = sb := by
              apply ByteArray.ext; rw [ByteArray.data_extract]; exact Array.extract_size
            rw [this]
          · subst h2
            simp only [Array.toList_map, List.map_map]
            generalize sb.data.toList = l
            induction l with
            | nil => exact .nil
            | cons a l ih => exact .cons (.int _ _) ih
        · obtain ⟨ao, n2, cap, e1, e2, e3⟩ := rowCells_rel H hr (fun s e => hstr ⟨s, e⟩) h2
          rw [h1] at e2; injection e2 with e2; subst e2
          rcases e3 with rfl | ⟨g, off, rfl, ys, hys, hcell⟩
          · have h00 : n' * sz = 0 := by simpa using hlen.symm
            refine ⟨#[], ⟨by rw [e1]; simp [Builtin.lenOf], fun w1 _ => ?_⟩, .nil, hlen⟩
            rw [e1]
            cases ao with
            | none => rfl
            | some a => simp only [Builtin.firstCells, h00]; rfl
          · refine ⟨⟨ys⟩, ⟨by rw [e1]; simp [Builtin.lenOf], fun w1 hw1 => ?_⟩, hys, hlen⟩
            rw [e1]
            simp only [Builtin.firstCells]
            exact run_loadCells_rel hlen hys (fun j v hv => by have := hcell j v hv; unfold World.cell? at this ⊢; rw [hw1]; exact this)
      · cases ha
    · cases ha
  · simp only at ha
    split at ha
    · rename_i l hl
      split at ha
      · rename_i n' hn
        split at ha
        · rename_i hroom
          injection ha with ha
          injection ha with e1 e2; subst e1 e2
          obtain ⟨rfl, hle⟩ := natOf_spec hn
          obtain ⟨k, hk⟩ := idx_rel hr hl
          have hroom1 : n' * bytes ≤ 140737488355328 := Nat.le_of_ble_eq_true ((Bool.and_eq_true _ _).mp hroom).1
          exact ⟨_, ⟨k, hk, hroom1, hle, rfl, hzs⟩, zeroCells_rel hzv n', by rw [repeatV_length, hzl]⟩
        · cases ha
      · cases ha
    · cases ha

theorem zeroCells_size (zv : Array Value) (n : Nat) : (Builtin.zeroCells zv n).size = n * zv.size := by simp [Builtin.zeroCells]

theorem writeRow_split (vs : List Value) : ∀ (arr : List Value) (o : Nat), o + vs.length ≤ arr.length → writeRow arr o vs = arr.take o ++ vs ++ arr.drop (o + vs.length) := by
  intro arr o hle
  apply List.ext_getElem?
  intro i
  rw [writeRow_get _ _ _ hle]
  by_cases h1 : i < o
  · rw [if_neg (by omega), List.append_assoc, List.getElem?_append_left (by simp; omega), List.getElem?_take, if_pos h1]
  · by_cases h2 : i < o + vs.length
    · rw [if_pos ⟨by omega, h2⟩, List.append_assoc, List.getElem?_append_right (by simp; omega), List.getElem?_append_left (by simp; omega)]
      congr 1; simp; omega
    · rw [if_neg (by omega), List.getElem?_append_right (by simp; omega), List.getElem?_drop]
      congr 1; simp; omega

theorem roomV_spec {n b : Nat} (hr : roomV n b = true) : n * b ≤ 140737488355328 ∧ n ≤ 1099511627776 := by
  have := (Bool.and_eq_true _ _).mp hr
  exact ⟨Nat.le_of_ble_eq_true this.1, Nat.le_of_ble_eq_true this.2⟩

theorem wr_append (H : RelH w0 φ h w) (hρ : RelEnv w0 φ ts ρ) {o : Oper} {args : Array Operand} {tys : Array TypeId} (ho : o.op = .call { callee := .builtin .append, args := args, argTypes := tys }) {vo : VOp} (hc : opV? P o.op = some vo) {v : VVal} {h' : VHeap}
    (hw : vo.write ts h = some (v, h')) (hfree : ∀ b k, h.size ≤ b → b < h'.size → φ b k = none) : WriteOk P w0 φ h w ρ o v h' := by
  rw [ho] at hc
  simp only [opV?] at hc
  split at hc
  · rename_i t u x y h0 h1 hargs0
    have hargs : args = #[x, y] := Array.toList_inj.1 (by simpa using hargs0)
    subst hargs
    have run1 : ∀ {r w'}, (Builtin.append_ tys o.type #[ρ x, ρ y]).run P w = .ok r w' → (execOp ρ o).run P w = .ok (.value r) w' := by
      intro r w' hrun
      simp only [execOp, ho, resolve, Sem.run_bind, Sem.run_pure, Result.andThen_ok, invoke, builtin]
      have : (#[x, y].map ρ) = #[ρ x, ρ y] := by simp
      rw [this, hrun]; rfl
    split at hc
    · rename_i e d x' y' hu hd hx hy
      split at hc
      · rename_i z i hz hi
        split at hc
        · rename_i hcond
          obtain ⟨hzl, hsz0, hb0⟩ := hcond
          obtain ⟨zv, hz1, hz2, i', hi', hzi⟩ := run_zero (w := w) hz
          rw [hi] at hi'; injection hi' with hi'; subst hi'
          have hzr := cells_rel' (valueV_rel (w0 := w0) (φ := φ) hz2) (zero_whole hz2)
          have hzs : zv.cells.size = i.size := by rw [← hzl, hzr.length]; simp
          obtain ⟨zeros, rfl, hzeros, hkind⟩ : ∃ zeros, vo = .append e i.size i.bytes zeros x' y' ∧ (zeros = none ∨ zeros = some z.cells) ∧ kindOf d zeros.isSome := by
            split at hc
            · injection hc with hc; exact ⟨_, hc.symm, .inr rfl, .inr ⟨rfl, _, rfl⟩⟩
            · injection hc with hc; exact ⟨_, hc.symm, .inl rfl, .inl ⟨rfl, .inl ⟨_, rfl⟩⟩⟩
            · injection hc with hc; exact ⟨_, hc.symm, .inl rfl, .inl ⟨rfl, .inr rfl⟩⟩
            · cases hc
          clear hc
          simp only [VOp.write, appR_eq] at hw
          split at hw
          · cases hw
          · rename_i n new hadd
            obtain ⟨c, hA, hnew, hnl⟩ := added_rel (P := P) H hρ hy hadd hzr hzl hzeros
            have hcs : c.size = n * i.size := by rw [← hnl, hnew.length]; simp
            have hrx := hρ _ _ hx
            -- a new block
            have grow : ∀ {base : Option Addr} {ln cap : Nat} {olds : Array Value} {old : List VVal}, ρ x = .slice base ln cap → cap < ln + n → RelVs w0 φ old olds.toList → olds.size = ln * i.size →
                (∀ w1 : World, w1.heap = w.heap → (Builtin.firstCells i.size ln (.slice base ln cap)).run P w1 = .ok olds w1) → roomV (ln + n) i.bytes = true →
                ∃ w' N cap', (execOp ρ o).run P w = .ok (.value (.slice (some ⟨w.heap.size, 0, none⟩) (ln + n) cap')) w' ∧ NewW w w' ∧ ln + n ≤ cap' ∧ 0 + cap' * i.size ≤ N ∧
                  ∀ ver, RelObj w0 φ w' ver ⟨w.heap.size, N⟩ (.cells (old ++ new) e ver) := by
              intro base ln cap olds old hx' hg hro hso hfirst hroom
              obtain ⟨r1, r2⟩ := roomV_spec hroom
              have hrun := run_append_grow' (ty := o.type) h0 h1 hu hd hi hzi hkind hA hg hfirst r1 r2 hb0
              have hge := grownCap_ge w (ln + n) cap e
              have hsize : (olds ++ c ++ Builtin.zeroCells zv.cells (grownCap w (ln + n) cap e - (ln + n))).size = grownCap w (ln + n) cap e * i.size := by
                simp only [Array.size_append, zeroCells_size, hso, hcs, hzs]
                rw [← Nat.add_mul, ← Nat.add_mul]; congr 1; omega
              refine ⟨_, (olds ++ c ++ Builtin.zeroCells zv.cells (grownCap w (ln + n) cap e - (ln + n))).size, _, run1 (by rw [hx']; exact hrun), NewW.drewAlloc w _, hge, by omega, fun ver => ⟨Nat.le_refl _, fun _ => ?_⟩⟩
              refine ⟨_, (0, 0), heap_alloc_new w.drew _, rfl, .inl (Nat.le_refl _), olds.toList ++ c.toList, (Builtin.zeroCells zv.cells (grownCap w (ln + n) cap e - (ln + n))).toList, by simp, hro.append hnew⟩
            split at hw
            · -- nothing was there
              rename_i heq
              rw [heq] at hrx
              cases hx' : ρ x <;> rw [hx'] at hrx <;> cases hrx
              split at hw
              · rename_i hn
                have hn : n = 0 := by simpa using hn
                subst hn
                injection hw with hw
                injection hw with e1 e2; subst e1 e2
                have hrun := run_append_fit (ty := o.type) h0 h1 hu hd hi hzi hkind hA (base := none) (ln := 0) (cap := 0) (by omega)
                exact ⟨_, w, φ, .inl (run1 (by rw [hx', hrun]; rfl)), H, Ext.refl _ _ _, .nilslice⟩
              · rename_i hn
                have hn : n ≠ 0 := by simpa using hn
                split at hw
                · rename_i hroom
                  injection hw with hw
                  injection hw with e1 e2; subst e1 e2
                  obtain ⟨w', N, cap', g1, g2, g3, g4, g5⟩ := grow (base := none) (ln := 0) (cap := 0) (olds := #[]) (old := []) hx' (by omega) .nil (by simp) (fun w1 _ => rfl) (by simpa using hroom)
                  obtain ⟨s1, s2⟩ := step_new H g2 (by simpa using g5 0) (fun k => hfree _ k (Nat.le_refl _) (by simp))
                  refine ⟨_, w', _, .inl g1, s1, s2, ?_⟩
                  simp only [Nat.zero_add] at g3 ⊢
                  exact .sliceU (VMap.put_same _ _ _ _) g3 (.inr ⟨rfl, g4⟩)
                · cases hw
            · -- a row of a known capacity
              rename_i b vv off ln zz cap heq
              rw [heq] at hrx
              split at hw
              · rename_i hzz
                have hzz : zz = i.size := by simpa using hzz
                subst hzz
                cases hx' : ρ x <;> rw [hx'] at hrx <;> cases hrx
                rename_i l hφ hle
                split at hw
                · rename_i hfit
                  have hfit : ln + n ≤ cap := Nat.le_of_ble_eq_true hfit
                  have hrun := run_append_fit (ty := o.type) h0 h1 hu hd hi hzi hkind hA (base := some ⟨l.c, off, none⟩) hfit
                  split at hw
                  · rename_i hn
                    have hn : n = 0 := by simpa using hn
                    subst hn
                    injection hw with hw
                    injection hw with e1 e2; subst e1 e2
                    have hc0 : c.toList = [] := by have := hcs; simp at this; simp [this]
                    refine ⟨_, w, φ, .inl (run1 ?_), H, Ext.refl _ _ _, .sliceK hφ hle⟩
                    rw [hx', hrun]
                    simp only [hc0, storeCells, Sem.run_bind, Sem.run_pure, Result.andThen_ok, Nat.add_zero]
                  · rename_i hn
                    have hn : n ≠ 0 := by simpa using hn
                    split at hw
                    · cases hw
                    · rename_i hok
                      have hok : cellsOk new = true := by simpa using hok
                      split at hw
                      · rename_i h2 hst
                        injection hw with hw
                        injection hw with e1 e2; subst e1 e2
                        have hne : new ≠ [] := by
                          intro e0; rw [e0] at hnl
                          have h00 : n * i.size = 0 := by simpa using hnl.symm
                          rcases Nat.mul_eq_zero.1 h00 with e1 | e1
                          · exact hn e1
                          · exact hsz0 e1
                        obtain ⟨g, off', w', f1, f2, f3, f4⟩ := store_rel (P := P) H (.ptr (off := off + ln * i.size) hφ) hnew (oneCells hnew hok) hst hne
                        injection f1 with f1; injection f1 with f1; injection f1 with f11 f12 f13; subst f11 f12
                        refine ⟨_, w', φ, .inl (run1 ?_), f3, f4, .sliceK (cap := cap) hφ hfit⟩
                        rw [hx', hrun]
                        simp only [Sem.run_bind, addr_add, f2, Result.andThen_ok, Sem.run_pure]
                      · cases hw
                · rename_i hfit
                  have hfit : cap < ln + n := by
                    have : ¬ (ln + n ≤ cap) := fun e0 => hfit (Nat.ble_eq_true_of_le e0)
                    omega
                  split at hw
                  · rename_i hroom
                    split at hw
                    · rename_i old hrow
                      injection hw with hw
                      injection hw with e1 e2; subst e1 e2
                      obtain ⟨ao, n2, cap2, f1, f2, f3⟩ := rowCells_rel H (.sliceK (sz := i.size) (off := off) hφ hle) (by intro s e0; cases e0) hrow
                      injection f1 with f11 f12 f13; subst f11 f12 f13
                      have hol : old.length = ln * i.size := by
                        simp only [VHeap.rowCells] at hrow
                        split at hrow
                        · split at hrow
                          · exact (cut_eq hrow).2
                          · cases hrow
                        · cases hrow
                      obtain ⟨ys, hys, hfirst⟩ : ∃ ys, RelVs w0 φ old ys ∧ ∀ w1 : World, w1.heap = w.heap → (Builtin.firstCells i.size ln (.slice (some ⟨l.c, off, none⟩) ln cap)).run P w1 = .ok ⟨ys⟩ w1 := by
                        rcases f3 with rfl | ⟨g, off', e0, ys, hys, hcell⟩
                        · refine ⟨[], .nil, fun w1 _ => ?_⟩
                          have : ln * i.size = 0 := by simpa using hol.symm
                          simp only [Builtin.firstCells, this]; rfl
                        · injection e0 with e0; injection e0 with e01 e02 e03; subst e01 e02
                          refine ⟨ys, hys, fun w1 hw1 => ?_⟩
                          simp only [Builtin.firstCells]
                          exact run_loadCells_rel hol hys (fun j v hv => by have := hcell j v hv; unfold World.cell? at this ⊢; rw [hw1]; exact this)
                      obtain ⟨w', N, cap', g1, g2, g3, g4, g5⟩ := grow hx' hfit (olds := ⟨ys⟩) hys (by show ys.length = _; rw [← hys.length, hol]) hfirst hroom
                      obtain ⟨s1, s2⟩ := step_new H g2 (g5 0) (fun k => hfree _ k (Nat.le_refl _) (by simp))
                      exact ⟨_, w', _, .inl g1, s1, s2, .sliceU (VMap.put_same _ _ _ _) g3 (.inr ⟨rfl, g4⟩)⟩
                    · cases hw
                  · cases hw
              · cases hw
            · -- a row of an unknown capacity
              rename_i b vv off ln zz heq
              rw [heq] at hrx
              cases hx' : ρ x <;> rw [hx'] at hrx <;> cases hrx
              rename_i cap l a hφ hle hcap
              split at hw
              · rename_i hn
                have hn : n = 0 := by simpa using hn
                subst hn
                injection hw with hw
                injection hw with e1 e2; subst e1 e2
                have hrun := run_append_fit (ty := o.type) h0 h1 hu hd hi hzi hkind hA (base := some a) (ln := ln) (cap := cap) (by omega)
                have hc0 : c.toList = [] := by have := hcs; simp at this; simp [this]
                refine ⟨_, w, φ, .inl (run1 ?_), H, Ext.refl _ _ _, .sliceU hφ hle hcap⟩
                rw [hx', hrun]
                simp only [hc0, storeCells, Sem.run_bind, Sem.run_pure, Result.andThen_ok, Nat.add_zero]
              · rename_i hn
                have hn : n ≠ 0 := by simpa using hn
                split at hw
                · rename_i hcond
                  simp only [Bool.and_eq_true, Nat.beq_eq] at hcond
                  obtain ⟨⟨hzz, hoff⟩, hroom⟩ := hcond
                  subst hzz hoff
                  split at hw
                  · rename_i cs ee ver hg
                    split at hw
                    · rename_i hcond2
                      simp only [Bool.and_eq_true, Nat.beq_eq] at hcond2
                      obtain ⟨he, hver, hok⟩ := hcond2
                      subst he hver
                      split at hw
                      · rename_i old hcut
                        injection hw with hw
                        injection hw with e1 e2; subst e1 e2
                        obtain ⟨hcut1, hol⟩ := cut_eq hcut
                        simp only [List.drop_zero] at hcut1
                        have hlecs : ln * i.size ≤ cs.length := by rcases cut_le hcut with e0 | e0 <;> omega
                        obtain ⟨_, hobj⟩ := H.obj _ _ _ _ hφ hg
                        obtain ⟨arr, fr, hb, hN, hfr, pre, post, hpp, hr⟩ := hobj rfl
                        have htakeR : ∀ {xs : List VVal} {zs : List Value}, RelVs w0 φ xs zs → ∀ k, RelVs w0 φ (xs.take k) (zs.take k) := by
                          intro xs
                          induction xs with
                          | nil => intro zs hz k; cases hz; simp; exact .nil
                          | cons a xs ih => intro zs hz k; cases hz with | cons a b => cases k with | zero => simp; exact .nil | succ k => simp; exact .cons a (ih b k)
                        have hold := htakeR hr (ln * i.size)
                        rw [← hcut1] at hold
                        have hprelen := hr.length
                        have htk : pre.take (ln * i.size) = arr.toList.take (ln * i.size) := by rw [hpp, List.take_append_of_le_length (by omega)]
                        have hnew0 : c.toList.length = n * i.size := by simpa using hcs
                        by_cases hfit : ln + n ≤ cap
                        · -- in place
                          have hal : arr.toList.length = arr.size := Array.length_toList
                          rcases hcap with rfl | ⟨rfl, hcapN⟩
                          · exact (hn (Nat.le_zero.1 (Nat.le_trans (Nat.le_add_left _ _) hfit))).elim
                          · have hmul : (ln + n) * i.size ≤ cap * i.size := Nat.mul_le_mul_right _ hfit
                            rw [Nat.add_mul] at hmul
                            have hrun := run_append_fit (ty := o.type) h0 h1 hu hd hi hzi hkind hA (base := some ⟨l.c, 0, none⟩) hfit
                            obtain ⟨w', s1, s2, s3, s4, s5, s6, s7⟩ := run_storeCells_row (P := P) l.c (ln * i.size) _ fr c.toList 0 arr w hb (by omega) (by omega) (oneCells hnew hok)
                            have hsplit := writeRow_split c.toList arr.toList (ln * i.size) (by omega)
                            obtain ⟨r1, r2⟩ := step_bump H hg hφ (l' := l) (cs' := old ++ new) (w' := w') (by omega) (fun c0 _ hc0 => by rw [s7, if_neg hc0]) ⟨by rw [s2]; exact (H.lt _ _ _ hφ).2, .inl rfl⟩ s3 s4 s5
                              ⟨Nat.le_refl _, fun _ => ⟨_, fr, by rw [s7, if_pos rfl], by simp [writeRow_length]; exact hN, hfr, _, arr.toList.drop (ln * i.size + c.toList.length), by show writeRow arr.toList (ln * i.size + 0) c.toList = _; rw [Nat.add_zero, hsplit, ← htk], hold.append hnew⟩⟩
                            refine ⟨_, w', _, .inl (run1 ?_), r1, r2, .sliceU (VMap.put_same _ _ _ _) hfit (.inr ⟨rfl, hcapN⟩)⟩
                            rw [hx', hrun]
                            simp only [Sem.run_bind, addr_add, Nat.zero_add, s1, Result.andThen_ok, Sem.run_pure]
                        · -- anew
                          have hfirst : ∀ w1 : World, w1.heap = w.heap → (Builtin.firstCells i.size ln (.slice (some a) ln cap)).run P w1 = .ok ⟨pre.take (ln * i.size)⟩ w1 := by
                            intro w1 hw1
                            simp only [Builtin.firstCells]
                            rcases hcap with rfl | ⟨rfl, hcapN⟩
                            · have hln : ln = 0 := Nat.le_zero.1 hle
                              subst hln
                              simp; rfl
                            · refine run_loadCells_rel hol hold (fun j v hv => ?_)
                              unfold World.cell?
                              rw [hw1]
                              simp only [hb, Nat.zero_add, Option.isSome_none, Bool.false_eq_true, if_false]
                              have hj : j < ln * i.size := by
                                obtain ⟨hlt, _⟩ := List.getElem?_eq_some_iff.1 hv
                                simp at hlt; omega
                              rw [htk, List.getElem?_take, if_pos hj] at hv
                              rw [← Array.getElem?_toList]; exact hv
                          obtain ⟨w', N, cap', g1, g2, g3, g4, g5⟩ := grow hx' (by omega) (olds := ⟨pre.take (ln * i.size)⟩) hold (by show (pre.take (ln * i.size)).length = _; rw [← hold.length, hol]) hfirst hroom
                          have hsz := g2.size
                          obtain ⟨r1, r2⟩ := step_bump H hg hφ (l' := ⟨w.heap.size, N⟩) (cs' := old ++ new) (w' := w') (by omega) (fun c0 hc0 _ => g2.old c0 hc0) ⟨by show w.heap.size < _; omega, .inr rfl⟩ g2.os g2.tape g2.output (g5 _)
                          exact ⟨_, w', _, .inl g1, r1, r2, .sliceU (VMap.put_same _ _ _ _) g3 (.inr ⟨rfl, g4⟩)⟩
                      · cases hw
                    · cases hw
                  · cases hw
                · cases hw
            · cases hw
        · cases hc
      · cases hc
    · cases hc
  · cases hc
end
end Go.V
