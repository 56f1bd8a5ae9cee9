/- Operations that only read: one by one. -/
import Derived.Test.YthefbgflndpggaaV5
set_option linter.unusedSimpArgs false
set_option linter.unusedVariables false
namespace Go.V
open Go.RowKit

section
variable {P : Program} {w0 : World} {φ : VMap} {h : VHeap} {w : World} {ts : List VVal} {ρ : Operand → Value}

theorem RelVs.of_get : ∀ {xs : List VVal} {ys : List Value}, xs.length = ys.length → (∀ (i : Nat) (x : VVal), xs[i]? = some x → ∃ y, ys[i]? = some y ∧ RelV w0 φ x y) → RelVs w0 φ xs ys := by
  intro xs
  induction xs with
  | nil => intro ys hl _; cases ys with | nil => exact .nil | cons _ _ => simp at hl
  | cons a xs ih =>
    intro ys hl hg
    cases ys with
    | nil => simp at hl
    | cons b ys =>
      obtain ⟨y, hy, hr⟩ := hg 0 a (by simp)
      simp at hy; subst hy
      exact .cons hr (ih (by simpa using hl) fun i x hx => by simpa using hg (i + 1) x (by simpa using hx))

theorem RelVs.lay {cs vs cs' : List VVal} {arr ys : List Value} {o : Nat} (hc : RelVs w0 φ cs arr) (hv : RelVs w0 φ vs ys) (hl : lay cs o vs = some cs') : RelVs w0 φ cs' (writeRow arr o ys) := by
  obtain ⟨h1, h2⟩ := lay_len hl
  refine .of_get (by rw [h1, writeRow_length]; exact hc.length) fun i x hx => ?_
  rw [lay_get hl i] at hx
  rcases h2 with rfl | h2
  · cases hv
    rw [if_neg (by simp)] at hx
    simpa [writeRow] using hc.get i hx
  · rw [writeRow_get _ _ _ (by rw [← hv.length, ← hc.length]; exact h2), ← hv.length]
    split at hx
    · rename_i hi; rw [if_pos hi]; exact hv.get _ hx
    · rename_i hi; rw [if_neg hi]; exact hc.get _ hx

theorem foldl_zipIdx_write (off : Nat) : ∀ (vs : List Value) (k : Nat) (cs : Array Value), off + k + vs.length ≤ cs.size →
    (vs.zipIdx k).foldl (fun (cs : Array Value) (c : Value × Nat) => cs.setIfInBounds (off + c.2) c.1) cs = ⟨writeRow cs.toList (off + k) vs⟩ := by
  intro vs
  induction vs with
  | nil => intro k cs _; rfl
  | cons v vs ih =>
    intro k cs hle
    simp only [List.length_cons] at hle
    simp only [List.zipIdx_cons, List.foldl_cons, writeRow]
    rw [ih (k + 1) _ (by simp; omega)]
    have hlt : off + k < cs.size := by omega
    simp [Array.setIfInBounds, hlt, Nat.add_assoc]

theorem fill_rel {place : Nat → Option (Nat × Nat)} : ∀ (parts : List (Nat × Operand)) (vparts : List (Nat × Nat × VOpd)) (cs : List VVal) (arr : Array Value) (cs' : List VVal),
    RelEnv w0 φ ts ρ → (∀ (i : Nat) (p : Nat × Operand), parts[i]? = some p → ∃ q : Nat × Nat × VOpd, vparts[i]? = some q ∧ opdV p.2 = some q.2.2 ∧ place p.1 = some (q.1, q.2.1)) → parts.length = vparts.length →
    RelVs w0 φ cs arr.toList → fillV cs (evParts ts vparts) = some cs' →
    ∃ arr', Instr.fill place arr (parts.map fun p => (p.1, ρ p.2)) = some arr' ∧ RelVs w0 φ cs' arr'.toList := by
  intro parts
  induction parts with
  | nil =>
    intro vparts cs arr cs' _ _ hl hr hf
    cases vparts with
    | nil => simp [evParts, fillV] at hf; subst hf; exact ⟨arr, rfl, hr⟩
    | cons _ _ => simp at hl
  | cons p parts ih =>
    intro vparts cs arr cs' hρ hp hl hr hf
    cases vparts with
    | nil => simp at hl
    | cons q vparts =>
      obtain ⟨q', hq, ho, hpl⟩ := hp 0 p (by simp)
      simp at hq; subst hq
      obtain ⟨off, sz, x⟩ := q
      obtain ⟨i, y⟩ := p
      simp only at ho hpl
      simp only [evParts, fillV] at hf
      split at hf
      · rename_i hc
        simp only [Bool.and_eq_true, Nat.beq_eq, blt_iff] at hc
        obtain ⟨h1, h2, h3⟩ := hc
        have hrx := hρ _ _ ho
        have hnp : x.ev ts ≠ .poison := by intro e; rw [e] at h3; cases h3
        have hcells := cells_rel' hrx hnp
        cases hly : lay cs off (x.ev ts).cells with
        | none => simp [hly] at hf
        | some cs1 =>
          simp only [hly] at hf
          have hlen := hcells.length
          obtain ⟨_, h5⟩ := lay_len hly
          have h6 : off + (x.ev ts).cells.length ≤ cs.length := by
            rcases h5 with h5 | h5
            · rw [h5] at h1; simp at h1; omega
            · exact h5
          have hsz : (ρ y).cells.size = sz := by rw [← h1, hlen]; simp
          have harr : off + (ρ y).cells.size ≤ arr.size := by
            have := hr.length
            rw [hlen] at h6
            simp at this h6; omega
          obtain ⟨arr', ha, hb⟩ := ih vparts cs1 ⟨writeRow arr.toList off (ρ y).cells.toList⟩ cs' hρ (fun j p' hp' => by simpa using hp (j + 1) p' (by simpa using hp')) (by simpa using hl) (hr.lay hcells hly) hf
          refine ⟨arr', ?_, hb⟩
          simp only [List.map_cons, Instr.fill, hpl]
          rw [if_neg (by simp; omega)]
          have hfold := foldl_zipIdx_write off (ρ y).cells.toList 0 arr (by simpa using harr)
          have : ((ρ y).cells.zipIdx.foldl (fun (cs : Array Value) (x : Value × Nat) => match x with | (c, j) => cs.setIfInBounds (off + j) c) arr) = ⟨writeRow arr.toList off (ρ y).cells.toList⟩ := by
            rw [← Array.foldl_toList, Array.toList_zipIdx]
            exact hfold
          rw [this]
          exact ha
      · cases hf

theorem run_fields (w : World) : ∀ (fs : List Field), (∀ f ∈ fs, (P.info? f.type).isSome = true) →
    (fs.mapM fun f => (do pure (f.offset, ← sizeOf f.type) : Sem (Nat × Nat))).run P w = .ok (fs.map fun f => (f.offset, P.cellsOf f.type)) w := by
  intro fs
  induction fs with
  | nil => intro _; rfl
  | cons f fs ih =>
    intro hf
    obtain ⟨i, hi⟩ := Option.isSome_iff_exists.1 (hf f (by simp))
    simp only [List.mapM_cons, Sem.run_bind, run_size hi, Result.andThen_ok, Sem.run_pure, ih fun g hg => hf g (by simp [hg])]
    simp [Program.cellsOf, hi]

theorem run_fieldsA (w : World) (fs : Array Field) (hf : allInfo P fs.toList = true) :
    (fs.mapM fun f => (do pure (f.offset, ← sizeOf f.type) : Sem (Nat × Nat))).run P w = .ok (fs.map fun f => (f.offset, P.cellsOf f.type)) w := by
  rw [Array.mapM_eq_mapM_toList]
  have := run_fields (P := P) w fs.toList (fun f hm => by simpa [allInfo] using (List.all_eq_true.1 hf f hm))
  rw [Sem.run_map, this]
  simp [Result.andThen]
  exact (Array.toList_inj.1 (by simp))

theorem placesV_spec {fields : Array Field} : ∀ {parts : List (Nat × Operand)} {vparts : List (Nat × Nat × VOpd)}, placesV P fields parts = some vparts →
    parts.length = vparts.length ∧ ∀ (i : Nat) (p : Nat × Operand), parts[i]? = some p → ∃ q : Nat × Nat × VOpd, vparts[i]? = some q ∧ opdV p.2 = some q.2.2 ∧ (fields.map fun f => (f.offset, P.cellsOf f.type))[p.1]? = some (q.1, q.2.1) := by
  intro parts
  induction parts with
  | nil => intro vparts e; simp [placesV] at e; subst e; exact ⟨rfl, fun i p hp => by simp at hp⟩
  | cons p parts ih =>
    intro vparts e
    obtain ⟨i, x⟩ := p
    simp only [placesV] at e
    cases h1 : fields[i]? with
    | none => simp [h1] at e
    | some f =>
      cases h2 : opdV x with
      | none => simp [h1, h2] at e
      | some y =>
        cases h3 : placesV P fields parts with
        | none => simp [h1, h2, h3] at e
        | some l =>
          cases h4 : P.info? f.type with
          | none => simp [h1, h2, h3, h4] at e
          | some inf =>
            simp [h1, h2, h3, h4] at e
            subst e
            obtain ⟨hl, hp⟩ := ih h3
            refine ⟨by simp [hl], fun j p' hp' => ?_⟩
            cases j with
            | zero => simp at hp'; subst hp'; exact ⟨_, rfl, h2, by simp [h1, Program.cellsOf, h4]⟩
            | succ j => simpa using hp j p' (by simpa using hp')

theorem placesA_spec {sz : Nat} : ∀ {parts : List (Nat × Operand)} {vparts : List (Nat × Nat × VOpd)}, placesA sz parts = some vparts →
    parts.length = vparts.length ∧ ∀ (i : Nat) (p : Nat × Operand), parts[i]? = some p → ∃ q : Nat × Nat × VOpd, vparts[i]? = some q ∧ opdV p.2 = some q.2.2 ∧ (fun i => some (i * sz, sz)) p.1 = some (q.1, q.2.1) := by
  intro parts
  induction parts with
  | nil => intro vparts e; simp [placesA] at e; subst e; exact ⟨rfl, fun i p hp => by simp at hp⟩
  | cons p parts ih =>
    intro vparts e
    obtain ⟨i, x⟩ := p
    simp only [placesA] at e
    cases h2 : opdV x with
    | none => simp [h2] at e
    | some y =>
      cases h3 : placesA sz parts with
      | none => simp [h2, h3] at e
      | some l =>
        simp [h2, h3] at e
        subst e
        obtain ⟨hl, hp⟩ := ih h3
        refine ⟨by simp [hl], fun j p' hp' => ?_⟩
        cases j with
        | zero => simp at hp'; subst hp'; exact ⟨_, rfl, h2, rfl⟩
        | succ j => simpa using hp j p' (by simpa using hp')

theorem zero_whole {v : Value} {z : VVal} (h : valueV v = some z) : z ≠ .poison := by
  rintro rfl
  unfold valueV at h
  split at h
  all_goals first
    | cases h
    | (split at h <;> cases h)

theorem read_build (hρ : RelEnv w0 φ ts ρ) {t : TypeId} {parts : Array (Nat × Operand)} {vo : VOp} (hc : opV? P (.build t parts) = some vo) {v : VVal} (hv : vo.read ts h = some v) :
    ∃ v', (Instr.build t (parts.map fun (i, x) => (i, ρ x))).run P w = .ok v' w ∧ RelV w0 φ v v' := by
  simp only [opV?] at hc
  cases hz : zeroV P t with
  | none => simp [hz] at hc
  | some z =>
    obtain ⟨zv, hz1, hz2, _⟩ := run_zero (w := w) hz
    have hzr : RelVs w0 φ z.cells zv.cells.toList := cells_rel' (valueV_rel hz2) (zero_whole hz2)
    cases hu : P.underlying t with
    | none => simp [hz, hu] at hc
    | some d =>
      cases d with
      | struct fs =>
        simp only [hz, hu] at hc
        split at hc
        · rename_i hall
          cases hp : placesV P fs parts.toList with
          | none => simp [hp] at hc
          | some vp =>
            simp [hp] at hc; subst hc
            obtain ⟨hl, hsp⟩ := placesV_spec hp
            simp only [VOp.read] at hv
            cases hf : fillV z.cells (evParts ts vp) with
            | none => simp [hf] at hv
            | some cs =>
              simp [hf] at hv; subst hv
              obtain ⟨arr', ha, hb⟩ := fill_rel (place := ((fs.map fun f => (f.offset, P.cellsOf f.type))[·]?)) parts.toList vp z.cells zv.cells cs hρ hsp hl hzr hf
              refine ⟨.agg arr', ?_, ?_⟩
              · simp only [Instr.build, Sem.run_bind, hz1, Result.andThen_ok, run_underlying hu, run_fieldsA w fs hall]
                rw [Array.toList_map, ha]
                rfl
              · obtain ⟨l⟩ := arr'; exact .agg hb
        · cases hc
      | array n e =>
        simp only [hz, hu] at hc
        cases hi : P.info? e with
        | none => simp [hi] at hc
        | some i =>
          cases hp : placesA i.size parts.toList with
          | none => simp [hi, hp] at hc
          | some vp =>
            simp [hi, hp] at hc; subst hc
            obtain ⟨hl, hsp⟩ := placesA_spec hp
            simp only [VOp.read] at hv
            cases hf : fillV z.cells (evParts ts vp) with
            | none => simp [hf] at hv
            | some cs =>
              simp [hf] at hv; subst hv
              obtain ⟨arr', ha, hb⟩ := fill_rel (place := fun k => some (k * i.size, i.size)) parts.toList vp z.cells zv.cells cs hρ hsp hl hzr hf
              refine ⟨.agg arr', ?_, ?_⟩
              · simp only [Instr.build, Sem.run_bind, hz1, Result.andThen_ok, run_underlying hu, run_size hi]
                rw [Array.toList_map, ha]
                rfl
              · obtain ⟨l⟩ := arr'; exact .agg hb
      | _ => simp [hz, hu] at hc
end
end Go.V
