/- The operations that read: conversions, slices, fields, indices, maps. -/
import Derived.Test.YthefbgflndpggaaV9
set_option linter.unusedSimpArgs false
set_option linter.unusedVariables false
namespace Go.V
open Go.RowKit

section
variable {P : Program} {w0 : World} {φ : VMap} {h : VHeap} {w : World} {ts : List VVal} {ρ : Operand → Value}

/-- One operand. -/
theorem one_opd {x : Operand} {f : VOpd → VOp} {vo : VOp} (hc : (opdV x).map f = some vo) : ∃ y, opdV x = some y ∧ vo = f y := by
  cases h1 : opdV x with
  | none => simp [h1] at hc
  | some y => simp [h1] at hc; exact ⟨y, rfl, hc.symm⟩

theorem rd_un (hρ : RelEnv w0 φ ts ρ) {o : Oper} {op : UnOp} {t : TypeId} {x : Operand} (ho : o.op = .unOp op t x) {vo : VOp} (hc : opV? P o.op = some vo) {v : VVal} (hv : vo.read ts h = some v) : ReadOk P w0 φ w ρ o v := by
  rw [ho] at hc
  obtain ⟨y, h1, rfl⟩ := one_opd hc
  have hr := hρ _ _ h1
  simp only [VOp.read, nilF_eq, pickF_eq, faddr_eq, fieldF_eq, extF_eq, convF_eq, idxS_eq, lenF_eq, unV_eq] at hv
  unfold unV0 at hv
  split at hv
  · rename_i k n heq
    rw [heq] at hr
    simp [intOp] at hv; subst hv
    cases hx : ρ x <;> rw [hx] at hr <;> cases hr
    exact ⟨_, by simp [execOp, ho, hx, Op.unary, Op.intArith], .int _ _⟩
  · rename_i k n heq
    rw [heq] at hr
    simp only [intOp, Option.some.injEq] at hv; subst hv
    cases hx : ρ x <;> rw [hx] at hr <;> cases hr
    exact ⟨_, by simp only [execOp, ho, hx, Op.unary, Op.intBits]; rfl, .int _ _⟩
  · rename_i b heq
    rw [heq] at hr
    simp at hv; subst hv
    cases hx : ρ x <;> rw [hx] at hr <;> cases hr
    exact ⟨_, by simp [execOp, ho, hx, Op.unary], .bool _⟩
  · cases hv

theorem bytesOfV_rel : ∀ {cs : List VVal} {ys : List Value} {l : List Nat}, RelVs w0 φ cs ys → bytesOfV cs = some l → ∃ ns : List Int, ys = ns.map (Value.int .u8) ∧ l = ns.map fun n => n.toNat % 256 := by
  intro cs
  induction cs with
  | nil => intro ys l hr hb; cases hr; simp [bytesOfV] at hb; subst hb; exact ⟨[], rfl, rfl⟩
  | cons c cs ih =>
    intro ys l hr hb
    cases hr with
    | cons h1 h2 =>
      unfold bytesOfV at hb
      split at hb
      · rename_i e; cases e
      · rename_i n r e
        injection e with e1 e2; subst e1 e2
        cases hb2 : bytesOfV cs with
        | none => simp [hb2] at hb
        | some l' =>
          simp [hb2] at hb; subst hb
          obtain ⟨ns, rfl, rfl⟩ := ih h2 hb2
          cases h1
          exact ⟨n :: ns, rfl, rfl⟩
      · cases hb

theorem str_of_nums (ns : List Int) : RelV w0 φ (.str (ns.map fun n => n.toNat % 256)) (.string (ns.foldl (fun r n => r.push (UInt8.ofNat n.toNat)) ByteArray.empty)) := by
  rw [foldl_push_bytes]
  have := RelV.str (w0 := w0) (φ := φ) ⟨ByteArray.empty.data ++ (ns.map fun n => UInt8.ofNat n.toNat).toArray⟩
  simp only [Array.toList_append, List.map_append] at this
  have e : (ByteArray.empty.data.toList.map UInt8.toNat) = [] := rfl
  rw [e, List.nil_append, List.map_map] at this
  have e2 : (ns.map fun n : Int => n.toNat % 256) = List.map (UInt8.toNat ∘ fun n : Int => UInt8.ofNat n.toNat) ns := by
    apply List.map_congr_left; intro n _; simp [UInt8.toNat_ofNat']
  rw [e2]; exact this

theorem rd_convert (H : RelH w0 φ h w) (hρ : RelEnv w0 φ ts ρ) {o : Oper} {src dst : TypeId} {x : Operand} (ho : o.op = .convert src dst x) {vo : VOp} (hc : opV? P o.op = some vo) {v : VVal} (hv : vo.read ts h = some v) : ReadOk P w0 φ w ρ o v := by
  rw [ho] at hc
  simp only [opV?] at hc
  cases hs : P.underlying src with
  | none => simp [hs] at hc
  | some us =>
    cases hd : P.underlying dst with
    | none => cases us <;> simp [hs, hd] at hc
    | some ud =>
      cases hx : opdV x with
      | none => cases us <;> cases ud <;> simp [hs, hd, hx] at hc
      | some y =>
        have hr := hρ _ _ hx
        simp only [hs, hd, hx] at hc
        split at hc
        · rename_i k e1 e2 e3
          injection e2 with e2; subst e2
          injection e3 with e3; subst e3
          injection hc with hc; subst hc
          simp only [VOp.read, nilF_eq, pickF_eq, faddr_eq, fieldF_eq, extF_eq, convF_eq, idxS_eq, lenF_eq, unV_eq] at hv
          split at hv
          · rename_i k' n heq
            injection hv with hv; subst hv
            rw [heq] at hr
            cases hx' : ρ x <;> rw [hx'] at hr <;> cases hr
            exact ⟨_, by simp [execOp, ho, hx', convert, run_underlying hs, run_underlying hd, Conv.intToInt], .int _ _⟩
          · cases hv
        · rename_i e1 e2 e3
          injection e1 with e1; subst e1
          injection e2 with e2; subst e2
          injection e3 with e3; subst e3
          injection hc with hc; subst hc
          simp only [VOp.read, nilF_eq, pickF_eq, faddr_eq, fieldF_eq, extF_eq, convF_eq, idxS_eq, lenF_eq, unV_eq] at hv
          split at hv
          · rename_i s heq
            injection hv with hv; subst hv
            rw [heq] at hr
            refine ⟨ρ x, ?_, hr⟩
            cases hx' : ρ x <;> rw [hx'] at hr <;> cases hr
            simp [execOp, ho, hx', convert, run_underlying hs, run_underlying hd]
          · cases hv
        · rename_i e e1 e2 e3
          injection e1 with e1; subst e1
          injection e2 with e2; subst e2
          injection e3 with e3; subst e3
          split at hc
          · injection hc with hc; subst hc; simp [VOp.read] at hv
          · cases hc
        · rename_i e e1 e2 e3
          injection e1 with e1; subst e1
          injection e2 with e2; subst e2
          injection e3 with e3; subst e3
          split at hc
          · rename_i he
            injection hc with hc; subst hc
            simp only [VOp.read, nilF_eq, pickF_eq, faddr_eq, fieldF_eq, extF_eq, convF_eq, idxS_eq, lenF_eq, unV_eq] at hv
            cases hrow : h.rowBytes (y.ev ts) with
            | none => simp [hrow] at hv
            | some cs =>
              simp only [hrow] at hv
              cases hb : bytesOfV cs with
              | none => simp [hb] at hv
              | some l =>
                simp [hb] at hv; subst hv
                unfold VHeap.rowBytes at hrow
                split at hrow
                · cases hrow
                · rename_i hns
                  split at hrow
                  · rename_i cs' n hr1 hr2
                    split at hrow
                    · rename_i hlen
                      injection hrow with hrow; subst hrow
                      have hlen : cs'.length = n := by simpa using hlen
                      obtain ⟨ao, n', cap, hy, hln, hrest⟩ := rowCells_rel H hr (fun s e => hns s e) hr1
                      rw [hr2] at hln; injection hln with hln; subst hln
                      have fin : ∀ (g off : Nat) (ys : List Value), ao = some ⟨g, off, none⟩ → RelVs w0 φ cs' ys → (∀ j v, ys[j]? = some v → w.cell? ⟨g, off + j, none⟩ = some v) → ReadOk P w0 φ w ρ o (.str l) := by
                        rintro g off ys rfl hrel hcell
                        obtain ⟨ns, rfl, rfl⟩ := bytesOfV_rel hrel hb
                        refine ⟨_, ?_, str_of_nums ns⟩
                        have hl : (loadCells ⟨g, off, none⟩ n).run P w = .ok (ns.map (Value.int .u8)).toArray w := by
                          have := run_loadCells_rel (P := P) hlen hrel hcell
                          simpa using this
                        simp only [execOp, ho, hy, Sem.run_bind, run_convert_bytes_string w src dst _ _ _ _ hs he hd, run_bytesToString w _ n cap ns hl, Result.andThen_ok]
                        rfl
                      rcases hrest with rfl | ⟨g, off, hao, ys, hrel, hcell⟩
                      · cases ao with
                        | none =>
                          simp [bytesOfV] at hb; subst hb
                          refine ⟨.string .empty, ?_, by simpa using RelV.str (w0 := w0) (φ := φ) ByteArray.empty⟩
                          simp only [execOp, ho, hy, Sem.run_bind, run_convert_bytes_string w src dst _ _ _ _ hs he hd]
                          rfl
                        | some a =>
                          simp [bytesOfV] at hb; subst hb
                          simp at hlen; subst hlen
                          refine ⟨.string .empty, ?_, by simpa using RelV.str (w0 := w0) (φ := φ) ByteArray.empty⟩
                          have hl : (loadCells a 0).run P w = .ok (([] : List Int).map (Value.int .u8)).toArray w := rfl
                          simp only [execOp, ho, hy, Sem.run_bind, run_convert_bytes_string w src dst _ _ _ _ hs he hd, run_bytesToString w _ 0 cap [] hl, Result.andThen_ok]
                          rfl
                      · exact fin g off ys hao hrel hcell
                    · cases hrow
                  · cases hrow
          · cases hc
        · cases hc
end
end Go.V
