/- The operations that read: slice expressions. -/
import Derived.Test.YthefbgflndpggaaV11
set_option linter.unusedSimpArgs false
set_option linter.unusedVariables false
namespace Go.V
open Go.RowKit

section
variable {P : Program} {w0 : World} {φ : VMap} {h : VHeap} {w : World} {ts : List VVal} {ρ : Operand → Value}

theorem bound_wide {o : Option VOpd} {d m m' e : Nat} (hb : bound ts o d m = some e) (hm : m ≤ m') : bound ts o d m' = some e := by
  cases o with
  | none => exact hb
  | some x =>
    simp only [bound] at hb ⊢
    cases hi : asIdx (x.ev ts) with
    | none => simp [hi] at hb
    | some i =>
      simp only [hi] at hb ⊢
      obtain ⟨rfl, hle⟩ := natOf_spec hb
      have : Nat.ble e m' = true := Nat.ble_eq_true_of_le (by omega)
      show (if Nat.ble e m' = true then some e else none) = some e
      rw [if_pos this]

theorem bound_le {o : Option VOpd} {d m e : Nat} (hb : bound ts o d m = some e) (hd : d ≤ m) : e ≤ m := by
  cases o with
  | none => simp [bound] at hb; omega
  | some x =>
    simp only [bound] at hb
    cases hi : asIdx (x.ev ts) with
    | none => simp [hi] at hb
    | some i => simp only [hi] at hb; exact (natOf_spec hb).2

theorem opdOV_none {o : Option Operand} (h : opdOV o = some none) : o = none := by
  cases o with
  | none => rfl
  | some x => simp only [opdOV] at h; split at h <;> cases h

/-- A slice expression over a slice. -/
theorem run_sliceAt_slice {t e : TypeId} {inf : TypeInfo} (hu : P.underlying t = some (.slice e)) (hi : P.info? e = some inf) {ao : Option Addr} {ln cap l e' m : Nat} {lo hi' mx : Option Value}
    (hb : (Instr.sliceBounds true ln cap lo hi' mx).run P w = .ok (l, e', m) w) :
    (Instr.sliceAt t (.slice ao ln cap) lo hi' mx).run P w = .ok (.slice (if m = l then ao else ao.map (·.add (l * inf.size))) (e' - l) (m - l)) w := by
  simp only [Instr.sliceAt, Instr.slice, Sem.run_bind, run_underlying hu, Result.andThen_ok, hb, run_size hi, Sem.run_pure]

theorem rd_slice_slice (hρ : RelEnv w0 φ ts ρ) {o : Oper} {t e : TypeId} {x : Operand} {lo hi mx : Option Operand} (ho : o.op = .slice t x lo hi mx) (hu : P.underlying t = some (.slice e)) {inf : TypeInfo} (hinf : P.info? e = some inf)
    {x' : VOpd} {vlo vhi vmx : Option VOpd} (hx : opdV x = some x') (hlo : opdOV lo = some vlo) (hhi : opdOV hi = some vhi) (hmx : opdOV mx = some vmx) (hno : mx = none ∨ hi ≠ none)
    {v : VVal} (hv : (VOp.slice inf.size x' vlo vhi vmx).read ts h = some v) : ReadOk P w0 φ w ρ o v := by
  have hr := hρ _ _ hx
  have fin : ∀ {ao : Option Addr} {ln cap l e' m : Nat}, ρ x = .slice ao ln cap → bound ts vmx cap cap = some m → bound ts vhi ln m = some e' → bound ts vlo 0 e' = some l →
      RelV w0 φ v (.slice (if m = l then ao else ao.map (·.add (l * inf.size))) (e' - l) (m - l)) → ReadOk P w0 φ w ρ o v := by
    intro ao ln cap l e' m hx' h1 h2 h3 h4
    refine ⟨_, ?_, h4⟩
    simp only [execOp, ho, hx', Sem.run_bind, run_sliceAt_slice hu hinf (bounds_rel hρ hlo hhi hmx (isS := true) (w := w) h1 h2 h3 hno), Result.andThen_ok, Sem.run_pure]
  simp only [VOp.read, nilF_eq, pickF_eq, faddr_eq, fieldF_eq, extF_eq, convF_eq, idxS_eq, lenF_eq, unV_eq] at hv
  split at hv
  · rename_i heq
    rw [heq] at hr
    cases hx' : ρ x <;> rw [hx'] at hr <;> cases hr
    cases h1 : bound ts vmx 0 0 with
    | none => simp [h1] at hv
    | some m =>
      cases h2 : bound ts vhi 0 0 with
      | none => simp [h1, h2] at hv
      | some e' =>
        cases h3 : bound ts vlo 0 0 with
        | none => simp [h1, h2, h3] at hv
        | some l =>
          simp [h1, h2, h3] at hv; subst hv
          have a1 := bound_le h1 (Nat.le_refl _)
          have a2 := bound_le h2 (Nat.le_refl _)
          have a3 := bound_le h3 (Nat.le_refl _)
          obtain rfl : m = 0 := by omega
          obtain rfl : e' = 0 := by omega
          obtain rfl : l = 0 := by omega
          exact fin hx' h1 h2 h3 (by simpa using RelV.nilslice)
  · rename_i z rows heq
    split at hv
    · obtain rfl := opdOV_none hmx
      rw [heq] at hr
      cases h2 : bound ts vhi rows.length rows.length with
      | none => simp [h2] at hv
      | some e' =>
        cases h3 : bound ts vlo 0 e' with
        | none => simp [h2, h3] at hv
        | some l =>
          simp only [h2, h3] at hv
          split at hv
          · rename_i hz
            have hz : z = inf.size := by simpa using hz
            subst hz
            injection hv with hv; subst hv
            have a2 := bound_le h2 (Nat.le_refl _)
            have a3 := bound_le h3 (Nat.zero_le _)
            cases hx' : ρ x <;> rw [hx'] at hr <;> cases hr
            · simp at a2; subst a2
              simp at a3; subst a3
              rename_i ao cap
              refine fin hx' (m := cap) rfl (bound_wide h2 (Nat.zero_le _)) h3 ?_
              simp
              exact .rslice0 _ _ _
            · rename_i cap r rows g off hg hrows hcap
              refine fin hx' (m := cap) rfl (bound_wide h2 (by simpa using hcap)) h3 ?_
              simp at a2
              have hd := (hrows.drop l).take (e' - l)
              by_cases hl0 : e' - l = 0
              · rw [hl0]; simp; exact .rslice0 _ _ _
              · have hne : cap ≠ l := by omega
                simp only [hne, if_false, Option.map_some, addr_add]
                have hlen : (((r :: rows).drop l).take (e' - l)).length = e' - l := by simp; omega
                cases hs : ((r :: rows).drop l).take (e' - l) with
                | nil => rw [hs] at hlen; simp at hlen; omega
                | cons r' rows' =>
                  rw [hs] at hlen hd
                  simp at hlen
                  rw [← hlen]
                  exact .rslice hg hd (by omega)
          · cases hv
    · cases hv
  · rename_i b vv off ln z cap heq
    split at hv
    · rename_i hz
      have hz : z = inf.size := by simpa using hz
      subst hz
      rw [heq] at hr
      cases h1 : bound ts vmx cap cap with
      | none => simp [h1] at hv
      | some m =>
        cases h2 : bound ts vhi ln m with
        | none => simp [h1, h2] at hv
        | some e' =>
          cases h3 : bound ts vlo 0 e' with
          | none => simp [h1, h2, h3] at hv
          | some l =>
            simp [h1, h2, h3] at hv; subst hv
            have a3 := bound_le h3 (Nat.zero_le _)
            cases hx' : ρ x <;> rw [hx'] at hr <;> cases hr
            rename_i l0 hφ hle
            refine fin hx' h1 h2 h3 ?_
            have hem : e' ≤ m := by
              cases vmx with
              | none => simp [bound] at h1; subst h1; exact bound_le h2 hle
              | some vm =>
                cases vhi with
                | none =>
                  rcases hno with rfl | hno
                  · simp [opdOV] at hmx
                  · exfalso; exact hno (opdOV_none hhi)
                | some vh => simp only [bound] at h2; split at h2 <;> first | exact (natOf_spec h2).2 | cases h2
            by_cases hml : m = l
            · simp only [hml, if_true]; exact .sliceK hφ (by omega)
            · simp only [hml, if_false, Option.map_some, addr_add]; exact .sliceK hφ (by omega)
    · cases hv
  · rename_i b vv off ln z heq
    split at hv
    · obtain rfl := opdOV_none hmx
      split at hv
      · rename_i hz
        have hz : z = inf.size := by simpa using hz
        subst hz
        rw [heq] at hr
        cases h2 : bound ts vhi ln ln with
        | none => simp [h2] at hv
        | some e' =>
          cases h3 : bound ts vlo 0 e' with
          | none => simp [h2, h3] at hv
          | some l =>
            simp [h2, h3] at hv; subst hv
            have a2 := bound_le h2 (Nat.le_refl _)
            have a3 := bound_le h3 (Nat.zero_le _)
            cases hx' : ρ x <;> rw [hx'] at hr <;> cases hr
            rename_i cap l0 a hφ hle hd
            refine fin hx' (m := cap) rfl (bound_wide h2 hle) h3 ?_
            by_cases hml : cap = l
            · simp only [hml, if_true]
              exact .sliceU hφ (by omega) (.inl (by omega))
            · simp only [hml, if_false, Option.map_some]
              refine .sliceU hφ (by omega) ?_
              rcases hd with rfl | ⟨rfl, hd⟩
              · omega
              · refine .inr ⟨addr_add _ _ _, ?_⟩
                have : l * inf.size + (cap - l) * inf.size = cap * inf.size := by rw [← Nat.add_mul]; congr 1; omega
                omega
      · cases hv
    · cases hv
  · cases hv

theorem rd_slice (hρ : RelEnv w0 φ ts ρ) {o : Oper} {t : TypeId} {x : Operand} {lo hi mx : Option Operand} (ho : o.op = .slice t x lo hi mx) {vo : VOp} (hc : opV? P o.op = some vo) {v : VVal} (hv : vo.read ts h = some v) : ReadOk P w0 φ w ρ o v := by
  rw [ho] at hc
  simp only [opV?] at hc
  split at hc
  · cases hc
  · rename_i hno
    have hno : mx = none ∨ hi ≠ none := by
      cases mx <;> cases hi <;> simp at hno <;> simp
    split at hc
    · -- a string
      rename_i x' vlo vhi hu hx hlo hhi hmx
      injection hc with hc; subst hc
      obtain rfl := opdOV_none hmx
      have hr := hρ _ _ hx
      simp only [VOp.read, nilF_eq, pickF_eq, faddr_eq, fieldF_eq, extF_eq, convF_eq, idxS_eq, lenF_eq, unV_eq] at hv
      split at hv
      · rename_i s heq
        rw [heq] at hr
        cases h2 : bound ts vhi s.length s.length with
        | none => simp [h2] at hv
        | some e' =>
          cases h3 : bound ts vlo 0 e' with
          | none => simp [h2, h3] at hv
          | some l =>
            simp [h2, h3] at hv; subst hv
            cases hx' : ρ x <;> rw [hx'] at hr <;> cases hr
            rename_i s
            have hlen : (s.data.toList.map UInt8.toNat).length = s.size := by rw [List.length_map, Array.length_toList]; rfl
            rw [hlen] at h2
            have hb := bounds_rel (P := P) (w := w) hρ hlo hhi hmx (isS := false) (m := s.size) (cap := s.size) rfl h2 h3 (.inl rfl)
            refine ⟨.string (s.extract l e'), ?_, ?_⟩
            · have hb' : (Instr.sliceBounds false s.size s.size (lo.map ρ) (hi.map ρ) none).run P w = .ok (l, e', s.size) w := hb
              simp only [execOp, ho, hx', Instr.sliceAt, Instr.slice, Sem.run_bind, run_underlying hu, Result.andThen_ok, Option.map_none, Option.isSome_none, Bool.false_eq_true, if_false, hb', Sem.run_pure]
            · have := RelV.str (w0 := w0) (φ := φ) (s.extract l e')
              have e2 : (s.extract l e').data.toList.map UInt8.toNat = List.take (e' - l) (List.drop l (s.data.toList.map UInt8.toNat)) := by
                rw [ByteArray.data_extract]
                simp [List.map_take, List.map_drop]
              rw [e2] at this
              exact this
      · cases hv
    · rename_i e x' vlo vhi vmx hu hx hlo hhi hmx
      split at hc
      · rename_i inf hinf
        injection hc with hc; subst hc
        exact rd_slice_slice hρ ho hu hinf hx hlo hhi hmx hno hv
      · cases hc
    · -- an array
      rename_i n e x' vlo vhi vmx hu hx hlo hhi hmx
      split at hc
      · rename_i inf hinf
        injection hc with hc; subst hc
        have hr := hρ _ _ hx
        simp only [VOp.read, nilF_eq, pickF_eq, faddr_eq, fieldF_eq, extF_eq, convF_eq, idxS_eq, lenF_eq, unV_eq] at hv
        split at hv
        · rename_i b vv off heq
          rw [heq] at hr
          cases h1 : bound ts vmx n n with
          | none => simp [h1] at hv
          | some m =>
            cases h2 : bound ts vhi n m with
            | none => simp [h1, h2] at hv
            | some e' =>
              cases h3 : bound ts vlo 0 e' with
              | none => simp [h1, h2, h3] at hv
              | some l =>
                simp [h1, h2, h3] at hv; subst hv
                cases hx' : ρ x <;> rw [hx'] at hr <;> cases hr
                rename_i l0 hφ
                have a3 := bound_le h3 (Nat.zero_le _)
                have hb := bounds_rel (P := P) (w := w) hρ hlo hhi hmx (isS := false) h1 h2 h3 hno
                have hem : e' ≤ m := by
                  cases vmx with
                  | none => simp [bound] at h1; subst h1; exact bound_le h2 (Nat.le_refl _)
                  | some vm =>
                    cases vhi with
                    | none =>
                      rcases hno with rfl | hno
                      · simp [opdOV] at hmx
                      · exfalso; exact hno (opdOV_none hhi)
                    | some vh => simp only [bound] at h2; split at h2 <;> first | exact (natOf_spec h2).2 | cases h2
                refine ⟨.slice (some (if m = l then ⟨l0.c, off, none⟩ else (⟨l0.c, off, none⟩ : Addr).add (l * inf.size))) (e' - l) (m - l), ?_, ?_⟩
                · simp only [execOp, ho, hx', Instr.sliceAt, Sem.run_bind, run_underlying hu, Instr.sureAddr, Result.andThen_ok, hb, run_size hinf, Sem.run_pure]
                · by_cases hml : m = l
                  · simp only [hml, if_true]; exact .sliceK hφ (by omega)
                  · simp only [hml, if_false, addr_add]; exact .sliceK hφ (by omega)
        · cases hv
      · cases hc
    · -- a pointer to an array
      rename_i a x' vlo vhi vmx hu hx hlo hhi hmx
      split at hc
      · rename_i n e ha
        split at hc
        · rename_i inf hinf
          injection hc with hc; subst hc
          have hr := hρ _ _ hx
          simp only [VOp.read, nilF_eq, pickF_eq, faddr_eq, fieldF_eq, extF_eq, convF_eq, idxS_eq, lenF_eq, unV_eq] at hv
          split at hv
          · rename_i b vv off heq
            rw [heq] at hr
            cases h1 : bound ts vmx n n with
            | none => simp [h1] at hv
            | some m =>
              cases h2 : bound ts vhi n m with
              | none => simp [h1, h2] at hv
              | some e' =>
                cases h3 : bound ts vlo 0 e' with
                | none => simp [h1, h2, h3] at hv
                | some l =>
                  simp [h1, h2, h3] at hv; subst hv
                  cases hx' : ρ x <;> rw [hx'] at hr <;> cases hr
                  rename_i l0 hφ
                  have a3 := bound_le h3 (Nat.zero_le _)
                  have hb := bounds_rel (P := P) (w := w) hρ hlo hhi hmx (isS := false) h1 h2 h3 hno
                  have hem : e' ≤ m := by
                    cases vmx with
                    | none => simp [bound] at h1; subst h1; exact bound_le h2 (Nat.le_refl _)
                    | some vm =>
                      cases vhi with
                      | none =>
                        rcases hno with rfl | hno
                        · simp [opdOV] at hmx
                        · exfalso; exact hno (opdOV_none hhi)
                      | some vh => simp only [bound] at h2; split at h2 <;> first | exact (natOf_spec h2).2 | cases h2
                  refine ⟨.slice (some (if m = l then ⟨l0.c, off, none⟩ else (⟨l0.c, off, none⟩ : Addr).add (l * inf.size))) (e' - l) (m - l), ?_, ?_⟩
                  · simp only [execOp, ho, hx', Instr.sliceAt, Instr.slice, Sem.run_bind, run_underlying hu, run_underlying ha, asAddr, Result.andThen_ok, hb, run_size hinf, Sem.run_pure]
                  · by_cases hml : m = l
                    · simp only [hml, if_true]; exact .sliceK hφ (by omega)
                    · simp only [hml, if_false, addr_add]; exact .sliceK hφ (by omega)
          · cases hv
        · cases hc
      · cases hc
    · cases hc
end
end Go.V
