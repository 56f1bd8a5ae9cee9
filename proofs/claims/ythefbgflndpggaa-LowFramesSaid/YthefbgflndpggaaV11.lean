/- The operations that read: slices, fields, indices. -/
import Derived.Test.YthefbgflndpggaaV10
set_option linter.unusedSimpArgs false
set_option linter.unusedVariables false
namespace Go.V
open Go.RowKit

section
variable {P : Program} {w0 : World} {φ : VMap} {h : VHeap} {w : World} {ts : List VVal} {ρ : Operand → Value}

theorem rd_mkIface (hρ : RelEnv w0 φ ts ρ) {o : Oper} {t : TypeId} {x : Operand} (ho : o.op = .makeInterface t x) {vo : VOp} (hc : opV? P o.op = some vo) {v : VVal} (hv : vo.read ts h = some v) : ReadOk P w0 φ w ρ o v := by
  rw [ho] at hc
  simp only [opV?] at hc
  split at hc
  · cases hc
  · rename_i d y hne hd hx
    injection hc with hc; subst hc
    simp only [VOp.read, Option.some.injEq] at hv; subst hv
    refine ⟨.iface t (ρ x), ?_, .iface t (hρ _ _ hx)⟩
    simp only [execOp, ho, Instr.makeInterface, Sem.run_bind, run_underlying hd, Result.andThen_ok]
    cases d <;> first | rfl | exact (hne _ rfl).elim
  · cases hc

theorem rd_mkFunc (hρ : RelEnv w0 φ ts ρ) {o : Oper} {fn : Fn} {a c : Array Operand} (ho : o.op = .makeFunc fn a c) {vo : VOp} (hc : opV? P o.op = some vo) {v : VVal} (hv : vo.read ts h = some v) : ReadOk P w0 φ w ρ o v := by
  rw [ho] at hc
  unfold opV? at hc
  cases fn with
  | func f =>
    simp only at hc
    cases h1 : opdsV a.toList with
    | none => simp [h1] at hc
    | some a' => cases h2 : opdsV c.toList with
      | none => simp [h1, h2] at hc
      | some c' =>
        simp [h1, h2] at hc; subst hc
        simp only [VOp.read, Option.some.injEq] at hv; subst hv
        refine ⟨.func (.func f) (a.map ρ) (c.map ρ), by simp [execOp, ho, Instr.makeFunc], ?_⟩
        have e1 := hρ.all h1
        have e2 := hρ.all h2
        have : ∀ x : Array Operand, x.map ρ = ⟨x.toList.map ρ⟩ := fun x => Array.toList_inj.1 (by simp)
        rw [this, this]
        exact .func f e1 e2
  | _ => simp at hc

theorem rd_fieldAddr (hρ : RelEnv w0 φ ts ρ) {o : Oper} {t : TypeId} {x : Operand} {k : Nat} (ho : o.op = .fieldAddr t x k) {vo : VOp} (hc : opV? P o.op = some vo) {v : VVal} (hv : vo.read ts h = some v) : ReadOk P w0 φ w ρ o v := by
  rw [ho] at hc
  simp only [opV?] at hc
  split at hc
  · rename_i fs y hu hx
    split at hc
    · rename_i f hf
      split at hc
      · rename_i i hi
        split at hc
        · rename_i hne
          injection hc with hc; subst hc
          have hr := hρ _ _ hx
          simp only [VOp.read, nilF_eq, pickF_eq, faddr_eq, fieldF_eq, extF_eq, convF_eq, idxS_eq, lenF_eq, unV_eq] at hv
          have hplace : ∀ ad : Addr, (fieldPlace ad f).run P w = .ok (ad.add f.offset) w := by
            intro ad; simp [fieldPlace, run_size hi, hne]
          split at hv
          · rename_i b vv off heq
            injection hv with hv; subst hv
            rw [heq] at hr
            cases hx' : ρ x <;> rw [hx'] at hr <;> cases hr
            rename_i l hφ
            refine ⟨_, ?_, .ptr (off := off + f.offset) hφ⟩
            simp [execOp, ho, hx', Instr.fieldAt, run_underlying hu, hf, Instr.sureAddr, hplace, addr_add]
          · rename_i cs heq
            injection hv with hv; subst hv
            rw [heq] at hr
            cases hx' : ρ x <;> rw [hx'] at hr <;> cases hr
            rename_i g off hg hcs
            refine ⟨_, ?_, .rptr hg (by rw [dropR_eq]; exact hcs.drop f.offset)⟩
            simp [execOp, ho, hx', Instr.fieldAt, run_underlying hu, hf, Instr.sureAddr, hplace, addr_add]
          · cases hv
        · cases hc
      · cases hc
    · cases hc
  · cases hc

theorem rd_field (hρ : RelEnv w0 φ ts ρ) {o : Oper} {t : TypeId} {x : Operand} {k : Nat} (ho : o.op = .field t x k) {vo : VOp} (hc : opV? P o.op = some vo) {v : VVal} (hv : vo.read ts h = some v) : ReadOk P w0 φ w ρ o v := by
  rw [ho] at hc
  simp only [opV?] at hc
  split at hc
  · rename_i fs y hu hx
    split at hc
    · rename_i f hf
      split at hc
      · rename_i agg n hs
        injection hc with hc; subst hc
        have hr := hρ _ _ hx
        simp only [VOp.read, nilF_eq, pickF_eq, faddr_eq, fieldF_eq, extF_eq, convF_eq, idxS_eq, lenF_eq, unV_eq] at hv
        split at hv
        · rename_i cs heq
          rw [heq] at hr
          cases hx' : ρ x <;> rw [hx'] at hr <;> cases hr
          rename_i ys hys
          obtain ⟨v', e1, e2⟩ := part_rel (w := w) hs hys hv
          exact ⟨v', by simp [execOp, ho, hx', Instr.field, run_underlying hu, hf, asAgg, e1], e2⟩
        · cases hv
      · cases hc
    · cases hc
  · cases hc

theorem RelRows.at {g sz : Nat} : ∀ {rows : List (List VVal)} {off : Nat}, RelRows w0 φ g off sz rows → ∀ k r, rowAtV rows k = some r → RelCells w0 φ g (off + k * sz) r := by
  intro rows
  induction rows with
  | nil => intro off _ k r hk; simp [rowAtV] at hk
  | cons a rows ih =>
    intro off hr k r hk
    cases hr with
    | cons hl hc hs =>
      cases k with
      | zero => simp [rowAtV] at hk; subst hk; simpa using hc
      | succ k => have := ih hs k r (by simpa [rowAtV] using hk); rwa [show off + (k + 1) * sz = off + sz + k * sz by rw [Nat.add_mul]; omega]

theorem rd_indexAddr (hρ : RelEnv w0 φ ts ρ) {o : Oper} {t : TypeId} {x i : Operand} (ho : o.op = .indexAddr t x i) {vo : VOp} (hc : opV? P o.op = some vo) {v : VVal} (hv : vo.read ts h = some v) : ReadOk P w0 φ w ρ o v := by
  rw [ho] at hc
  simp only [opV?] at hc
  split at hc
  · rename_i n e x' i' hu hx hi
    split at hc
    · rename_i inf hinf
      injection hc with hc; subst hc
      have hr := hρ _ _ hx
      simp only [VOp.read, nilF_eq, pickF_eq, faddr_eq, fieldF_eq, extF_eq, convF_eq, idxS_eq, lenF_eq, unV_eq] at hv
      split at hv
      · rename_i j hj
        obtain ⟨kk, hik⟩ := idx_rel (hρ _ _ hi) hj
        split at hv
        · rename_i k hk
          obtain ⟨rfl, hlt⟩ := inRange_spec hk
          have hcond : (0 : Int) ≤ (k : Int) ∧ (k : Int) < (n : Int) := ⟨by omega, by omega⟩
          split at hv
          · rename_i b vv off heq
            injection hv with hv; subst hv
            rw [heq] at hr
            cases hx' : ρ x <;> rw [hx'] at hr <;> cases hr
            rename_i l hφ
            refine ⟨_, ?_, .ptr (off := off + k * inf.size) hφ⟩
            simp only [execOp, ho, hx', hik, Instr.indexAt, run_underlying hu, asIntOf, Instr.sureAddr, hcond, run_size hinf, addr_add, Sem.run_bind, Sem.run_pure, Result.andThen_ok, and_self, if_true, Int.toNat_natCast]
          · rename_i cs heq
            injection hv with hv; subst hv
            rw [heq] at hr
            cases hx' : ρ x <;> rw [hx'] at hr <;> cases hr
            rename_i g off hg hcs
            refine ⟨_, ?_, .rptr hg (by rw [dropR_eq]; exact (hcs.drop (k * inf.size)).take inf.size)⟩
            simp only [execOp, ho, hx', hik, Instr.indexAt, run_underlying hu, asIntOf, Instr.sureAddr, hcond, run_size hinf, addr_add, Sem.run_bind, Sem.run_pure, Result.andThen_ok, and_self, if_true, Int.toNat_natCast]
          · cases hv
        · cases hv
      · cases hv
    · cases hc
  · rename_i e x' i' hu hx hi
    split at hc
    · rename_i inf hinf
      injection hc with hc; subst hc
      have hr := hρ _ _ hx
      simp only [VOp.read, nilF_eq, pickF_eq, faddr_eq, fieldF_eq, extF_eq, convF_eq, idxS_eq, lenF_eq, unV_eq] at hv
      split at hv
      · rename_i j hj
        obtain ⟨kk, hik⟩ := idx_rel (hρ _ _ hi) hj
        split at hv
        · rename_i b vv off ln z cap heq
          split at hv
          · rename_i hz
            have hz : z = inf.size := by simpa using hz
            subst hz
            split at hv
            · rename_i k hk
              obtain ⟨rfl, hlt⟩ := inRange_spec hk
              have hcond : (0 : Int) ≤ (k : Int) ∧ (k : Int) < (ln : Int) := ⟨by omega, by omega⟩
              injection hv with hv; subst hv
              rw [heq] at hr
              cases hx' : ρ x <;> rw [hx'] at hr <;> cases hr
              · rename_i l cap hφ hle
                refine ⟨_, ?_, .ptr (off := off + k * inf.size) hφ⟩
                simp only [execOp, ho, hx', hik, Instr.indexAt, run_underlying hu, asIntOf, hcond, run_size hinf, addr_add, Sem.run_bind, Sem.run_pure, Result.andThen_ok, and_self, if_true, Int.toNat_natCast]
              · rename_i cap l a hφ hle hd
                rcases hd with rfl | ⟨rfl, _⟩
                · omega
                · refine ⟨_, ?_, .ptr (off := off + k * inf.size) hφ⟩
                  simp only [execOp, ho, hx', hik, Instr.indexAt, run_underlying hu, asIntOf, hcond, run_size hinf, addr_add, Sem.run_bind, Sem.run_pure, Result.andThen_ok, and_self, if_true, Int.toNat_natCast]
            · cases hv
          · cases hv
        · rename_i z rows heq
          split at hv
          · rename_i hz
            have hz : z = inf.size := by simpa using hz
            subst hz
            split at hv
            · rename_i k hk
              obtain ⟨rfl, hlt⟩ := inRange_spec hk
              split at hv
              · rename_i r hrow
                injection hv with hv; subst hv
                rw [heq] at hr
                cases hx' : ρ x <;> rw [hx'] at hr <;> cases hr
                · simp at hlt
                · rename_i cap r0 rows0 g off hg hrows hcap
                  have hcond : (0 : Int) ≤ (k : Int) ∧ (k : Int) < ((rows0.length + 1 : Nat) : Int) := ⟨by omega, by simp at hlt; omega⟩
                  refine ⟨_, ?_, .rptr hg (hrows.at k r hrow)⟩
                  simp only [execOp, ho, hx', hik, Instr.indexAt, run_underlying hu, asIntOf, hcond, run_size hinf, addr_add, Sem.run_bind, Sem.run_pure, Result.andThen_ok, and_self, if_true, Int.toNat_natCast]
              · cases hv
            · cases hv
          · cases hv
        · cases hv
      · cases hv
    · cases hc
  · cases hc

theorem rd_index (hρ : RelEnv w0 φ ts ρ) {o : Oper} {t : TypeId} {x i : Operand} (ho : o.op = .index t x i) {vo : VOp} (hc : opV? P o.op = some vo) {v : VVal} (hv : vo.read ts h = some v) : ReadOk P w0 φ w ρ o v := by
  rw [ho] at hc
  simp only [opV?] at hc
  split at hc
  · rename_i x' i' hu hx hi
    injection hc with hc; subst hc
    have hr := hρ _ _ hx
    simp only [VOp.read, nilF_eq, pickF_eq, faddr_eq, fieldF_eq, extF_eq, convF_eq, idxS_eq, lenF_eq, unV_eq] at hv
    split at hv
    · rename_i s j hs hj
      obtain ⟨kk, hik⟩ := idx_rel (hρ _ _ hi) hj
      split at hv
      · rename_i k hk
        obtain ⟨rfl, hlt⟩ := inRange_spec hk
        split at hv
        · rename_i n hn
          injection hv with hv; subst hv
          rw [hs] at hr
          cases hx' : ρ x <;> rw [hx'] at hr <;> cases hr
          rename_i s
          have hsz : k < s.size := by rw [lenR_eq, List.length_map, Array.length_toList] at hlt; exact hlt
          rw [nthR_eq, List.getElem?_map] at hn
          have hb : s.data.toList[k]? = some (s[k]'hsz) := by
            rw [Array.getElem?_toList]; exact Array.getElem?_eq_getElem hsz
          rw [hb] at hn
          simp only [Option.map_some, Option.some.injEq] at hn; subst hn
          refine ⟨_, ?_, .int _ _⟩
          have h0 : (0 : Int) ≤ (k : Int) := by omega
          have hget : s[k]? = some (s[k]'hsz) := getElem?_pos s k hsz
          simp only [execOp, ho, hx', hik, Instr.index, run_underlying hu, asIntOf, h0, Sem.run_bind, Sem.run_pure, Result.andThen_ok, if_true, Int.toNat_natCast, hget]
        · cases hv
      · cases hv
    · cases hv
  · rename_i n e x' i' hu hx hi
    split at hc
    · rename_i agg sz hsz
      injection hc with hc; subst hc
      have hr := hρ _ _ hx
      simp only [VOp.read, nilF_eq, pickF_eq, faddr_eq, fieldF_eq, extF_eq, convF_eq, idxS_eq, lenF_eq, unV_eq] at hv
      split at hv
      · rename_i cs j hs hj
        obtain ⟨kk, hik⟩ := idx_rel (hρ _ _ hi) hj
        split at hv
        · rename_i k hk
          obtain ⟨rfl, hlt⟩ := inRange_spec hk
          rw [hs] at hr
          cases hx' : ρ x <;> rw [hx'] at hr <;> cases hr
          rename_i ys hys
          obtain ⟨inf, hinf, hsize, _, _⟩ := sizeT_spec hsz
          obtain ⟨v', e1, e2⟩ := part_rel (w := w) hsz hys hv
          refine ⟨v', ?_, e2⟩
          have hcond : (0 : Int) ≤ (k : Int) ∧ (k : Int) < (n : Int) := ⟨by omega, by omega⟩
          simp only [execOp, ho, hx', hik, Instr.index, run_underlying hu, asIntOf, hcond, run_size hinf, hsize, e1, Sem.run_bind, Sem.run_pure, Result.andThen_ok, and_self, if_true, Int.toNat_natCast]
        · cases hv
      · cases hv
    · cases hc
  · cases hc
end
end Go.V
