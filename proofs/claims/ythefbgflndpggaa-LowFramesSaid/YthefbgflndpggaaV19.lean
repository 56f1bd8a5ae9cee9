/- Operations that write: copy; all of them. -/
import Derived.Test.YthefbgflndpggaaV18
set_option linter.unusedSimpArgs false
set_option linter.unusedVariables false
namespace Go.V
open Go.RowKit

section
variable {P : Program} {w0 : World} {φ : VMap} {h : VHeap} {w : World} {ts : List VVal} {ρ : Operand → Value}

theorem RelVs.take {xs : List VVal} {zs : List Value} (hz : RelVs w0 φ xs zs) (k : Nat) : RelVs w0 φ (xs.take k) (zs.take k) := by
  induction xs generalizing zs k with
  | nil => cases hz; simp; exact .nil
  | cons a xs ih => cases hz with | cons a b => cases k with | zero => simp; exact .nil | succ k => simp; exact .cons a (ih b k)

theorem wr_copy (H : RelH w0 φ h w) (hρ : RelEnv w0 φ ts ρ) {o : Oper} {args : Array Operand} {tys : Array TypeId} (ho : o.op = .call { callee := .builtin .copy, args := args, argTypes := tys }) {vo : VOp} (hc : opV? P o.op = some vo) {v : VVal} {h' : VHeap}
    (hw : vo.write ts h = some (v, h')) : WriteOk P w0 φ h w ρ o v h' := by
  rw [ho] at hc
  simp only [opV?] at hc
  split at hc
  · rename_i t x y h0 hargs0
    have hargs : args = #[x, y] := Array.toList_inj.1 (by simpa using hargs0)
    subst hargs
    have run1 : ∀ {r w'}, (Builtin.copy_ tys o.type #[ρ x, ρ y]).run P w = .ok r w' → (execOp ρ o).run P w = .ok (.value r) w' := by
      intro r w' hrun
      simp only [execOp, ho, resolve, Sem.run_bind, Sem.run_pure, Result.andThen_ok, invoke, builtin]
      have : (#[x, y].map ρ) = #[ρ x, ρ y] := by simp
      rw [this, hrun]; rfl
    split at hc
    · rename_i e x' y' hu hx hy
      split at hc
      · rename_i i hi
        split at hc
        · rename_i hsz0
          injection hc with hc; subst hc
          simp only [VOp.write] at hw
          split at hw
          · rename_i dl sl cs b vv off ln z cap hdl hsl hrow hxe
            split at hw
            · rename_i hz
              have hz : z = i.size := by simpa using hz
              subst hz
              split at hw
              · rename_i new hcut
                obtain ⟨hcut1, hcl⟩ := cut_eq hcut
                simp only [List.drop_zero] at hcut1
                have hry := hρ _ _ hy
                have hrx := hρ _ _ hx
                have hns : ∀ s, y'.ev ts ≠ .str s := by
                  intro s es; rw [es] at hrow; cases hrow
                have hrow' : h.rowCells (y'.ev ts) = some cs := by
                  unfold VHeap.rowSlice at hrow; split at hrow
                  · cases hrow
                  · exact hrow
                obtain ⟨ao, n, cp, f1, f2, f3⟩ := rowCells_rel H hry hns hrow'
                rw [hsl] at f2; injection f2 with f2; subst f2
                rw [hxe] at hrx
                have hdl' : some ln = some dl := by rw [← hdl, hxe]; rfl
                injection hdl' with hdl'; subst hdl'
                obtain ⟨l, a, cp', hxv, hφ, haddr⟩ : ∃ l a cp', ρ x = .slice (some a) ln cp' ∧ φ b vv = some l ∧ (ln = 0 ∨ a = ⟨l.c, off, none⟩) := by
                  cases hx' : ρ x <;> rw [hx'] at hrx <;> cases hrx
                  · rename_i l hφ hle; exact ⟨_, _, _, rfl, hφ, .inr rfl⟩
                  · rename_i cap l a hφ hle hd
                    refine ⟨_, _, _, rfl, hφ, ?_⟩
                    rcases hd with rfl | ⟨rfl, _⟩
                    · exact .inl (by omega)
                    · exact .inr rfl
                -- the cells that are copied
                obtain ⟨ys, hys, hfirst⟩ : ∃ ys, RelVs w0 φ new ys ∧ (Builtin.firstCells i.size (Nat.min sl ln) (.slice ao sl cp)).run P w = .ok ⟨ys⟩ w := by
                  rcases f3 with rfl | ⟨g, off', rfl, ys, hys, hcell⟩
                  · simp at hcut1; subst hcut1
                    have h00 : Nat.min sl ln * i.size = 0 := by simpa using hcl.symm
                    refine ⟨[], .nil, ?_⟩
                    cases ao with
                    | none => rfl
                    | some a => simp only [Builtin.firstCells, h00]; rfl
                  · have hys' := hys.take (Nat.min sl ln * i.size)
                    rw [← hcut1] at hys'
                    refine ⟨_, hys', ?_⟩
                    simp only [Builtin.firstCells]
                    refine run_loadCells_rel hcl hys' (fun j v hv => hcell j v ?_)
                    rw [List.getElem?_take] at hv
                    split at hv
                    · exact hv
                    · cases hv
                have hlen : (Builtin.lenOf (.slice ao sl cp)).run P w = .ok sl w := by simp [Builtin.lenOf]
                have hcopy : ∀ {w'}, (storeCells a ys).run P w = .ok () w' → (Builtin.copy_ tys o.type #[ρ x, ρ y]).run P w = .ok (goInt (Nat.min sl ln : Nat)) w' := by
                  intro w' hst
                  rw [hxv, f1]
                  simp only [Builtin.copy_, h0, Sem.run_bind, run_underlying hu, Result.andThen_ok, hlen, run_size hi]
                  have e0 : (#[Value.slice (some a) ln cp', Value.slice ao sl cp] : Array Value)[0]? = some (Value.slice (some a) ln cp') := rfl
                  have e1 : (#[Value.slice (some a) ln cp', Value.slice ao sl cp] : Array Value)[1]? = some (Value.slice ao sl cp) := rfl
                  simp only [e0, e1, Sem.run_bind, run_underlying hu, Result.andThen_ok, hlen, run_size hi, hfirst, hst, Sem.run_pure]
                split at hw
                · rename_i hmin
                  have hmin : Nat.min sl ln = 0 := by simpa using hmin
                  injection hw with hw
                  injection hw with e1 e2; subst e1 e2
                  have hnil : ys = [] := by
                    have := hys.length; rw [hcl, hmin] at this; simp at this; exact List.eq_nil_of_length_eq_zero this.symm
                  subst hnil
                  refine ⟨_, w, φ, .inl (run1 (hcopy rfl)), H, Ext.refl _ _ _, ?_⟩
                  rw [hmin]; exact .int _ _
                · rename_i hmin
                  have hmin : Nat.min sl ln ≠ 0 := by simpa using hmin
                  split at hw
                  · cases hw
                  · rename_i hok
                    have hok : cellsOk new = true := by simpa using hok
                    split at hw
                    · rename_i h2 hst
                      injection hw with hw
                      injection hw with e1 e2; subst e1 e2
                      have hne : new ≠ [] := by
                        intro e0; rw [e0] at hcl
                        have h00 : Nat.min sl ln * i.size = 0 := by simpa using hcl.symm
                        rcases Nat.mul_eq_zero.1 h00 with e1 | e1
                        · exact hmin e1
                        · exact hsz0 e1
                      have hln : ln ≠ 0 := by intro e0; subst e0; exact hmin (Nat.min_zero sl)
                      obtain rfl := haddr.resolve_left hln
                      obtain ⟨g, off', w', g1, g2, g3, g4⟩ := store_rel (P := P) H (.ptr (off := off) hφ) hys (oneCells hys hok) hst hne
                      injection g1 with g1; injection g1 with g1; injection g1 with g11 g12 g13; subst g11 g12
                      exact ⟨_, w', φ, .inl (run1 (hcopy g2)), g3, g4, .int _ _⟩
                    · cases hw
              · cases hw
            · cases hw
          · cases hw
        · cases hc
      · cases hc
    · cases hc
  · cases hc

theorem write_sound (H : RelH w0 φ h w) (hρ : RelEnv w0 φ ts ρ) {o : Oper} {vo : VOp} (hc : opV? P o.op = some vo) {v : VVal} {h' : VHeap} (hw : vo.write ts h = some (v, h')) (hfree : ∀ b k, h.size ≤ b → b < h'.size → φ b k = none) : WriteOk P w0 φ h w ρ o v h' := by
  cases ho : o.op with
  | store t a x => exact wr_store H hρ ho hc hw
  | mapUpdate t m k x => exact wr_mapUpdate H hρ (.inl ho) hc hw
  | insert t m k x => exact wr_mapUpdate H hρ (.inr ho) hc hw
  | mapEntry t m k => exact wr_mapEntry H hρ ho hc hw
  | entryStore t m s x => exact wr_entryStore H hρ ho hc hw
  | call c =>
    obtain ⟨callee, args, tys⟩ := c
    cases callee with
    | builtin b =>
      cases b with
      | append => exact wr_append H hρ ho hc hw hfree
      | copy => exact wr_copy H hρ ho hc hw
      | delete => exact wr_delete H hρ ho hc hw
      | _ => first
        | (rw [ho] at hc; simp only [opV?, reduceCtorEq] at hc; done)
        | (rw [ho] at hc; simp only [opV?] at hc; (repeat' split at hc) <;> first | (cases hc; done) | (injection hc with hc; subst hc; simp [VOp.write] at hw; done) | (simp only [Option.map_eq_some_iff] at hc; obtain ⟨_, _, rfl⟩ := hc; simp [VOp.write] at hw; done))
    | value f => first
        | (rw [ho] at hc; simp only [opV?, reduceCtorEq] at hc; done)
        | (rw [ho] at hc; simp only [opV?] at hc; (repeat' split at hc) <;> first | (cases hc; done) | (injection hc with hc; subst hc; simp [VOp.write] at hw; done) | (simp only [Option.map_eq_some_iff] at hc; obtain ⟨_, _, rfl⟩ := hc; simp [VOp.write] at hw; done))
    | invoke r m => first
        | (rw [ho] at hc; simp only [opV?, reduceCtorEq] at hc; done)
        | (rw [ho] at hc; simp only [opV?] at hc; (repeat' split at hc) <;> first | (cases hc; done) | (injection hc with hc; subst hc; simp [VOp.write] at hw; done) | (simp only [Option.map_eq_some_iff] at hc; obtain ⟨_, _, rfl⟩ := hc; simp [VOp.write] at hw; done))
  | makeFunc f a c =>
    rw [ho] at hc
    cases f with
    | func f => simp only [opV?] at hc; split at hc <;> first | (cases hc; done) | (injection hc with hc; subst hc; simp [VOp.write] at hw; done)
    | _ => simp [opV?] at hc
  | makeMap t r =>
    rw [ho] at hc
    simp only [opV?, mapV] at hc
    split at hc
    · injection hc with hc; subst hc; simp [VOp.write] at hw
    · injection hc with hc; subst hc; simp [VOp.write] at hw
    · cases hc
  | _ => first
        | (rw [ho] at hc; simp only [opV?, reduceCtorEq] at hc; done)
        | (rw [ho] at hc; simp only [opV?] at hc; (repeat' split at hc) <;> first | (cases hc; done) | (injection hc with hc; subst hc; simp [VOp.write] at hw; done) | (simp only [Option.map_eq_some_iff] at hc; obtain ⟨_, _, rfl⟩ := hc; simp [VOp.write] at hw; done))
end
end Go.V
