/- The operations that read, one by one: slices, strings, fields, maps. -/
import Derived.Test.YthefbgflndpggaaV7
set_option linter.unusedSimpArgs false
set_option linter.unusedVariables false
namespace Go.V
open Go.RowKit

section
variable {P : Program} {w0 : World} {φ : VMap} {h : VHeap} {w : World} {ts : List VVal} {ρ : Operand → Value}

theorem RelRows.cells {g sz : Nat} : ∀ {rows : List (List VVal)} {off : Nat}, RelRows w0 φ g off sz rows → RelCells w0 φ g off rows.flatten := by
  intro rows
  induction rows with
  | nil => intro off _; exact .nil _ _
  | cons r rows ih =>
    intro off hr
    cases hr with
    | cons hl hc hs =>
      have h2 := ih hs
      clear ih hs
      subst hl
      simp only [List.flatten_cons]
      generalize rows.flatten = tl at h2
      induction r generalizing off with
      | nil => simpa using h2
      | cons x r ih =>
        cases hc with
        | cons a b c => exact .cons a b (ih c (by simpa [Nat.add_assoc, Nat.add_comm 1] using h2))

theorem RelRows.drop {g sz : Nat} : ∀ {rows : List (List VVal)} {off : Nat}, RelRows w0 φ g off sz rows → ∀ n, RelRows w0 φ g (off + n * sz) sz (rows.drop n) := by
  intro rows
  induction rows with
  | nil => intro off _ n; simp; exact .nil _ _ _
  | cons r rows ih =>
    intro off hr n
    cases n with
    | zero => simpa using hr
    | succ n =>
      cases hr with
      | cons a b c => have := ih c n; rwa [List.drop_succ_cons, show off + (n + 1) * sz = off + sz + n * sz by rw [Nat.add_mul]; omega]

theorem RelRows.take {g sz : Nat} : ∀ {rows : List (List VVal)} {off : Nat}, RelRows w0 φ g off sz rows → ∀ n, RelRows w0 φ g off sz (rows.take n) := by
  intro rows
  induction rows with
  | nil => intro off _ n; simp; exact .nil _ _ _
  | cons r rows ih =>
    intro off hr n
    cases n with
    | zero => simp; exact .nil _ _ _
    | succ n =>
      cases hr with
      | cons a b c => exact .cons a b (ih c n)

theorem RelRows.flat {g sz : Nat} : ∀ {rows : List (List VVal)} {off : Nat}, RelRows w0 φ g off sz rows → rows.flatten.length = rows.length * sz := by
  intro rows
  induction rows with
  | nil => intro off _; simp
  | cons r rows ih =>
    intro off hr
    cases hr with
    | cons a b c => rw [List.flatten_cons, List.length_append, ih c, a, List.length_cons, Nat.add_mul]; omega

/-- A slice's cells. -/
theorem rowCells_rel (H : RelH w0 φ h w) {x : VVal} {y : Value} (hx : RelV w0 φ x y) (hns : ∀ s, x ≠ .str s) {cs : List VVal} (hc : h.rowCells x = some cs) :
    ∃ ao n cap, y = .slice ao n cap ∧ lenV x = some n ∧ (cs = [] ∨ ∃ g off, ao = some ⟨g, off, none⟩ ∧ ∃ ys, RelVs w0 φ cs ys ∧ ∀ j v, ys[j]? = some v → w.cell? ⟨g, off + j, none⟩ = some v) := by
  have own : ∀ {b v off ln sz : Nat} {l : Loc} {cap : Option Nat}, φ b v = some l → h.rowCells (.slice b v off ln sz cap) = some cs →
      ∃ ys, RelVs w0 φ cs ys ∧ ∀ j v, ys[j]? = some v → w.cell? ⟨l.c, off + j, none⟩ = some v := by
    intro b v off ln sz l cap hφ hc
    simp only [VHeap.rowCells] at hc
    cases hb : h.get b with
    | none => simp [hb] at hc
    | some o =>
      cases o with
      | map es => simp [hb] at hc
      | cells cs0 elem ver =>
        simp only [hb] at hc
        split at hc
        · rename_i hv
          have hv : v = ver := by simpa using hv
          subst hv
          have ho := H.obj _ _ _ _ hφ hb
          refine relVs_of_get (fun j => w.cell? ⟨l.c, off + j, none⟩) (fun i x hx => ?_)
          have hi : i < ln * sz := by obtain ⟨hlt, _⟩ := List.getElem?_eq_some_iff.1 hx; have := (cut_eq hc).2; omega
          rw [cut_get hc i hi] at hx
          exact ho.cell _ _ hx
        · cases hc
  cases hx with
  | nilslice => simp [VHeap.rowCells] at hc; subst hc; exact ⟨_, _, _, rfl, rfl, .inl rfl⟩
  | sliceK hφ hl =>
    obtain ⟨ys, h1, h2⟩ := own hφ hc
    exact ⟨_, _, _, rfl, rfl, .inr ⟨_, _, rfl, ys, h1, h2⟩⟩
  | sliceU hφ hl hd =>
    obtain ⟨ys, h1, h2⟩ := own hφ hc
    rcases hd with rfl | ⟨rfl, hd⟩
    · rename_i b v off ln sz l a
      obtain rfl : ln = 0 := by omega
      refine ⟨_, _, _, rfl, rfl, .inl ?_⟩
      simp only [VHeap.rowCells] at hc
      split at hc
      · split at hc
        · have := (cut_eq hc).2; simp at this; exact this
        · cases hc
      · cases hc
    · exact ⟨_, _, _, rfl, rfl, .inr ⟨_, _, rfl, ys, h1, h2⟩⟩
  | rslice0 sz a cap => simp [VHeap.rowCells] at hc; subst hc; exact ⟨_, _, _, rfl, rfl, .inl rfl⟩
  | rslice hg hr hcap =>
    rename_i sz r rows g off cap
    simp only [VHeap.rowCells, Option.some.injEq] at hc
    have hcells := hr.cells
    rw [hc] at hcells
    obtain ⟨ys, h1, h2⟩ := relVs_of_get (xs := cs) (w0 := w0) (φ := φ) (fun j => w.cell? ⟨g, off + j, none⟩) (fun i x hx => by
      obtain ⟨y, h1, h2⟩ := hcells.get i x hx
      exact ⟨y, by rw [H.cell_old hg]; exact h1, h2⟩)
    exact ⟨_, _, _, rfl, by simp [lenV], .inr ⟨_, _, rfl, ys, h1, h2⟩⟩
  | str s => exact absurd rfl (hns _)
  | _ => simp [VHeap.rowCells] at hc

theorem idx_rel {x : VVal} {y : Value} (hr : RelV w0 φ x y) {i : Int} (hi : asIdx x = some i) : ∃ k, y = .int k i := by
  cases hr <;> simp [asIdx] at hi
  subst hi; exact ⟨_, rfl⟩

theorem inRange_spec {i : Int} {n k : Nat} (h : inRange i n = some k) : i = k ∧ k < n := by
  unfold inRange at h
  split at h
  · split at h
    · rename_i hb; injection h with h; subst h; exact ⟨rfl, (blt_iff _ _).1 hb⟩
    · cases h
  · cases h

theorem natOf_spec {i : Int} {n k : Nat} (h : natOf i n = some k) : i = k ∧ k ≤ n := by
  unfold natOf at h
  split at h
  · split at h
    · rename_i hb; injection h with h; subst h; exact ⟨rfl, Nat.le_of_ble_eq_true hb⟩
    · cases h
  · cases h

/-- A bound of a slice expression. -/
theorem bound_rel (hρ : RelEnv w0 φ ts ρ) {x : Option Operand} {y : Option VOpd} (hxy : opdOV x = some y) {d m e : Nat} (hb : bound ts y d m = some e) :
    (x = none ∧ e = d) ∨ ∃ o k, x = some o ∧ ρ o = .int k e ∧ e ≤ m := by
  cases x with
  | none => simp [opdOV] at hxy; subst hxy; simp [bound] at hb; exact .inl ⟨rfl, hb.symm⟩
  | some o =>
    simp only [opdOV] at hxy
    cases ho : opdV o with
    | none => simp [ho] at hxy
    | some z =>
      simp [ho] at hxy; subst hxy
      simp only [bound] at hb
      cases hi : asIdx (z.ev ts) with
      | none => simp [hi] at hb
      | some i =>
        simp [hi] at hb
        obtain ⟨rfl, hle⟩ := natOf_spec hb
        obtain ⟨k, hk⟩ := idx_rel (hρ _ _ ho) hi
        exact .inr ⟨o, k, rfl, hk, hle⟩

theorem run_sliceBound {k : IntKind} {e m : Nat} (hle : e ≤ m) (code : BoundsCode) : (Instr.sliceBound (.int k e) m code).run P w = .ok e w := by
  have : (0 : Int) ≤ (e : Int) ∧ (e : Int) ≤ (m : Int) := ⟨by omega, by omega⟩
  simp [Instr.sliceBound, asIntOf, this]

/-- The three bounds. -/
theorem bounds_rel (hρ : RelEnv w0 φ ts ρ) {lo hi mx : Option Operand} {vlo vhi vmx : Option VOpd} (hlo : opdOV lo = some vlo) (hhi : opdOV hi = some vhi) (hmx : opdOV mx = some vmx) {isS : Bool} {ln cap m e l : Nat}
    (h1 : bound ts vmx cap cap = some m) (h2 : bound ts vhi ln m = some e) (h3 : bound ts vlo 0 e = some l) (hno : mx = none ∨ hi ≠ none) :
    (Instr.sliceBounds isS ln cap (lo.map ρ) (hi.map ρ) (mx.map ρ)).run P w = .ok (l, e, m) w := by
  have r1 := bound_rel hρ hmx h1
  have r2 := bound_rel hρ hhi h2
  have r3 := bound_rel hρ hlo h3
  unfold Instr.sliceBounds
  rcases r1 with ⟨rfl, rfl⟩ | ⟨o1, k1, rfl, e1, hle1⟩ <;> rcases r2 with ⟨rfl, rfl⟩ | ⟨o2, k2, rfl, e2, hle2⟩ <;> rcases r3 with ⟨rfl, rfl⟩ | ⟨o3, k3, rfl, e3, hle3⟩
  all_goals first
    | (rcases hno with hno | hno <;> simp at hno; done)
    | (simp only [Option.map_some, Option.map_none, Sem.run_bind, Sem.run_pure, Result.andThen_ok, run_sliceBound, *]; done)
    | (simp only [Option.map_some, Option.map_none, Sem.run_bind, Sem.run_pure, Result.andThen_ok, run_sliceBound, *]
       trace_state
       rfl)

end
end Go.V
