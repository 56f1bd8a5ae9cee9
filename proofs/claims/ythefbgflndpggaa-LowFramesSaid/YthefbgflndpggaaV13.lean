/- The operations that read: maps, type assertions, lengths; all of them together. -/
import Derived.Test.YthefbgflndpggaaV12
set_option linter.unusedSimpArgs false
set_option linter.unusedVariables false
namespace Go.V
open Go.RowKit

section
variable {P : Program} {w0 : World} {φ : VMap} {h : VHeap} {w : World} {ts : List VVal} {ρ : Operand → Value}

theorem keyTag_spec {kt : TypeId} {g : VTag} (h : keyTag P kt = some g) : ∃ d, P.underlying kt = some d ∧ ((g = .int ∧ ∃ k, d = .int k) ∨ (g = .str ∧ d = .string) ∨ (g = .bool ∧ d = .bool)) := by
  unfold keyTag at h
  split at h
  · rename_i k hu; injection h with h; exact ⟨_, hu, .inl ⟨h.symm, _, rfl⟩⟩
  · rename_i hu; injection h with h; exact ⟨_, hu, .inr (.inl ⟨h.symm, rfl⟩)⟩
  · rename_i hu; injection h with h; exact ⟨_, hu, .inr (.inr ⟨h.symm, rfl⟩)⟩
  · cases h

theorem run_checkKey_succ {kt : TypeId} {g : VTag} (hk : keyTag P kt = some g) (e : Bool) (n : Nat) (v : Value) : (Instr.checkKey e (n + 1) kt v).run P w = .ok () w := by
  obtain ⟨d, hu, hd⟩ := keyTag_spec hk
  simp only [Instr.checkKey, Sem.run_bind, run_underlying hu, Result.andThen_ok]
  rcases hd with ⟨_, k, rfl⟩ | ⟨_, rfl⟩ | ⟨_, rfl⟩ <;> rfl

theorem run_checkKey_plain {kt : TypeId} {g : VTag} (hk : keyTag P kt = some g) (e : Bool) (v : Value) : (Instr.checkKey e 10000 kt v).run P w = .ok () w := run_checkKey_succ hk e 9999 v

theorem intBeq_iff {a b : Int} : intBeq a b = (a == b) := by
  cases a with
  | ofNat a => cases b with
    | ofNat b => rw [Bool.eq_iff_iff]; simp [intBeq]; omega
    | negSucc b => rw [Bool.eq_iff_iff]; simp [intBeq]
  | negSucc a => cases b with
    | ofNat b => rw [Bool.eq_iff_iff]; simp [intBeq]
    | negSucc b => rw [Bool.eq_iff_iff]; simp [intBeq]

/-- A key's shape. -/
inductive KeyRel (w0 : World) (φ : VMap) : VTag → VVal → Value → Prop
  | int (k : IntKind) (n : Int) : KeyRel w0 φ .int (.int k n) (.int k n)
  | str (s : ByteArray) : KeyRel w0 φ .str (.str (s.data.toList.map UInt8.toNat)) (.string s)
  | bool (b : Bool) : KeyRel w0 φ .bool (.bool b) (.bool b)

theorem key_rel {g : VTag} {k : VVal} {k' : Value} (hr : RelV w0 φ k k') (hk : keyOk g k = true) : KeyRel w0 φ g k k' := by
  cases hr <;> cases g <;> simp [keyOk] at hk
  · exact .bool _
  · exact .int _ _
  · exact .str _

theorem sameNow_rel {g : VTag} {d : TypeDesc} (hd : (g = .int ∧ ∃ k, d = .int k) ∨ (g = .str ∧ d = .string) ∨ (g = .bool ∧ d = .bool)) {k e : VVal} {k' e' : Value} (hk : KeyRel w0 φ g k k') (he : RelV w0 φ e e') {r : Bool}
    (hb : keyBeq k e = some r) : Instr.sameNow d k' e' = some r := by
  cases hk with
  | int kk n =>
    obtain ⟨q, rfl⟩ : ∃ q, d = .int q := by rcases hd with ⟨_, h⟩ | ⟨h, _⟩ | ⟨h, _⟩; exact h; cases h; cases h
    cases he <;> simp [keyBeq] at hb
    obtain ⟨h1, h2⟩ := hb
    have := code_inj (by simpa using h1); subst this
    rw [intBeq_iff] at h2
    simp [Instr.sameNow, h2]
  | str s =>
    obtain rfl : d = .string := by rcases hd with ⟨h, _⟩ | ⟨_, h⟩ | ⟨h, _⟩; cases h; exact h; cases h
    cases he <;> simp [keyBeq] at hb
    rw [natsBeq_bytes] at hb
    simp only [Instr.sameNow, beq_toListBytes, hb]
  | bool b =>
    obtain rfl : d = .bool := by rcases hd with ⟨h, _⟩ | ⟨h, _⟩ | ⟨_, h⟩; cases h; cases h; exact h
    cases he <;> simp [keyBeq] at hb
    subst hb
    rename_i b'
    cases b <;> cases b' <;> rfl

theorem findNow_rel {g : VTag} {d : TypeDesc} (hd : (g = .int ∧ ∃ k, d = .int k) ∨ (g = .str ∧ d = .string) ∨ (g = .bool ∧ d = .bool)) {k : VVal} {k' : Value} (hk : KeyRel w0 φ g k k') :
    ∀ {es : List (VVal × VVal)} {es' : List MapEntry} (i : Nat) {r : Option VVal}, RelEs w0 φ es es' → findV k es = some r →
      (r = none ∧ Instr.findNow d k' es' i = some none) ∨ ∃ x j v, r = some x ∧ Instr.findNow d k' es' i = some (some (j, v)) ∧ RelV w0 φ x v := by
  intro es
  induction es with
  | nil => intro es' i r hr hf; cases hr; rw [findV_eq0] at hf; simp [findV0] at hf; subst hf; exact .inl ⟨rfl, rfl⟩
  | cons p es ih =>
    intro es' i r hr hf
    cases hr with
    | cons h1 h2 h3 =>
      rw [findV_cons] at hf
      simp only at hf
      split at hf
      · rename_i hb
        injection hf with hf; subst hf
        exact .inr ⟨_, i, _, rfl, by simp [Instr.findNow, sameNow_rel hd hk h1 hb], h2⟩
      · rename_i hb
        rcases ih (i + 1) h3 hf with ⟨e1, e2⟩ | ⟨x, j, v, e1, e2, e3⟩
        · exact .inl ⟨e1, by simp [Instr.findNow, sameNow_rel hd hk h1 hb, e2]⟩
        · exact .inr ⟨x, j, v, e1, by simp [Instr.findNow, sameNow_rel hd hk h1 hb, e2], e3⟩
      · cases hf

theorem run_findKey {kt : TypeId} {g : VTag} (ht : keyTag P kt = some g) {k : VVal} {k' : Value} (hk : KeyRel w0 φ g k k') {es : List (VVal × VVal)} {es' : List MapEntry} {r : Option VVal} (hr : RelEs w0 φ es es') (hf : findV k es = some r) :
    (r = none ∧ (Instr.findKey kt k' es').run P w = .ok none w) ∨ ∃ x j v, r = some x ∧ (Instr.findKey kt k' es').run P w = .ok (some (j, v)) w ∧ RelV w0 φ x v := by
  obtain ⟨d, hu, hd⟩ := keyTag_spec ht
  rcases findNow_rel hd hk 0 hr hf with ⟨e1, e2⟩ | ⟨x, j, v, e1, e2, e3⟩
  · exact .inl ⟨e1, by simp [Instr.findKey, run_underlying hu, e2]⟩
  · exact .inr ⟨x, j, v, e1, by simp [Instr.findKey, run_underlying hu, e2], e3⟩

theorem run_getMap {r : Nat} {es : Array MapEntry} {clock : Nat} (hb : w.heap[r]? = some (.map es clock)) : (getObj r).run P w = .ok (.map es clock) w := by
  simp [getObj, Sem.run, hb]

theorem rd_lookup (H : RelH w0 φ h w) (hρ : RelEnv w0 φ ts ρ) {o : Oper} {t : TypeId} {m k : Operand} {ok : Bool} (ho : o.op = .lookup t m k ok) {vo : VOp} (hc : opV? P o.op = some vo) {v : VVal} (hv : vo.read ts h = some v) : ReadOk P w0 φ w ρ o v := by
  rw [ho] at hc
  simp only [opV?] at hc
  split at hc
  · rename_i kt e m' k' hu hm hk
    split at hc
    · rename_i g z hg hz
      injection hc with hc; subst hc
      simp only [VOp.read, nilF_eq, pickF_eq, faddr_eq, fieldF_eq, extF_eq, convF_eq, idxS_eq, lenF_eq, unV_eq] at hv
      split at hv
      · rename_i hok
        have hrm := hρ _ _ hm
        have hkey := key_rel (hρ _ _ hk) hok
        obtain ⟨zv, hz1, hz2, _⟩ := run_zero (w := w) hz
        have hzr := valueV_rel (w0 := w0) (φ := φ) hz2
        have zrel : RelV w0 φ (if ok then .tuple [z, .bool false] else z) (if ok then .tuple #[zv, .bool false] else zv) := by
          cases ok
          · exact hzr
          · exact .tuple (.cons hzr (.cons (.bool _) .nil))
        split at hv
        · rename_i heq
          injection hv with hv; subst hv
          rw [heq] at hrm
          cases hm' : ρ m <;> rw [hm'] at hrm <;> cases hrm
          refine ⟨_, ?_, zrel⟩
          obtain ⟨d, hud, _⟩ := keyTag_spec hg
          have hfk : (Instr.findKey kt (ρ k) []).run P w = .ok none w := by simp [Instr.findKey, run_underlying hud, Instr.findNow]
          simp only [execOp, ho, hm', Instr.lookup, Sem.run_bind, run_underlying hu, Result.andThen_ok, Sem.run_pure, run_checkKey_plain hg, hfk, hz1]
        · rename_i b heq
          rw [heq] at hrm
          cases hm' : ρ m <;> rw [hm'] at hrm <;> cases hrm
          rename_i l hφ
          split at hv
          · rename_i es st hes
            obtain ⟨_, ces, clock, hb, hmr⟩ := H.obj _ _ _ _ hφ hes
            obtain ⟨es', hperm, hrel, _⟩ := hmr.rel
            cases hf : findV (k'.ev ts) es with
            | none => simp [hf] at hv
            | some r =>
              have hf' := findV_perm hperm.symm hmr.keys hf
              rcases run_findKey (w := w) hg hkey hrel hf' with ⟨rfl, e2⟩ | ⟨x, j, vv, rfl, e2, e3⟩
              · simp only [hf, Option.some.injEq] at hv; subst hv
                refine ⟨_, ?_, zrel⟩
                simp only [execOp, ho, hm', Instr.lookup, Sem.run_bind, run_underlying hu, Result.andThen_ok, run_getMap hb, Sem.run_pure, run_checkKey_plain hg, e2, hz1]
              · simp only [hf, Option.some.injEq] at hv; subst hv
                refine ⟨if ok then .tuple #[vv, .bool true] else vv, ?_, ?_⟩
                · simp only [execOp, ho, hm', Instr.lookup, Sem.run_bind, run_underlying hu, Result.andThen_ok, run_getMap hb, Sem.run_pure, run_checkKey_plain hg, e2]
                · cases ok
                  · exact e3
                  · exact .tuple (.cons e3 (.cons (.bool _) .nil))
          · cases hv
        · cases hv
      · cases hv
    · cases hc
  · cases hc

theorem rd_typeAssert (hρ : RelEnv w0 φ ts ρ) {o : Oper} {t u : TypeId} {x : Operand} {ok : Bool} (ho : o.op = .typeAssert x t u ok) {vo : VOp} (hc : opV? P o.op = some vo) {v : VVal} (hv : vo.read ts h = some v) : ReadOk P w0 φ w ρ o v := by
  rw [ho] at hc
  simp only [opV?] at hc
  split at hc
  · cases hc
  · rename_i d y z hni hu hx hz
    injection hc with hc; subst hc
    have hr := hρ _ _ hx
    obtain ⟨zv, hz1, hz2, _⟩ := run_zero (w := w) hz
    have hzr := valueV_rel (w0 := w0) (φ := φ) hz2
    have hnd : ∀ {a b : Sem Value} (vx : Value) (c : TypeId → Value → Sem Value), vx = .nilIface → (match d, vx with
        | .interface _, .nilIface => a | .interface _, .iface _ _ => b | _, .nilIface => a | _, .iface t v => c t v | _, _ => b) = a := by
      rintro a b vx c rfl; cases d <;> rfl
    simp only [VOp.read, nilF_eq, pickF_eq, faddr_eq, fieldF_eq, extF_eq, convF_eq, idxS_eq, lenF_eq, unV_eq] at hv
    split at hv
    · rename_i t' v' heq
      rw [heq] at hr
      cases hx' : ρ x <;> rw [hx'] at hr <;> cases hr
      rename_i y' hy'
      split at hv
      · rename_i hte
        have hte : t' = u := by simpa using hte
        subst hte
        injection hv with hv; subst hv
        refine ⟨if ok then .tuple #[y', .bool true] else y', ?_, ?_⟩
        · simp only [execOp, ho, hx', Instr.typeAssert, Sem.run_bind, run_underlying hu, Result.andThen_ok]
          cases d <;> first | (exact (hni _ rfl).elim) | (simp; done)
        · cases ok
          · exact hy'
          · exact .tuple (.cons hy' (.cons (.bool _) .nil))
      · rename_i hte
        have hte : t' ≠ u := by simpa using hte
        cases ok
        · simp at hv
        · simp at hv; subst hv
          refine ⟨.tuple #[zv, .bool false], ?_, .tuple (.cons hzr (.cons (.bool _) .nil))⟩
          simp only [execOp, ho, hx', Instr.typeAssert, Sem.run_bind, run_underlying hu, Result.andThen_ok]
          cases d <;> first | (exact (hni _ rfl).elim) | (simp [hte, hz1]; done)
    · rename_i heq
      rw [heq] at hr
      cases hx' : ρ x <;> rw [hx'] at hr <;> cases hr
      cases ok
      · simp at hv
      · simp at hv; subst hv
        refine ⟨.tuple #[zv, .bool false], ?_, .tuple (.cons hzr (.cons (.bool _) .nil))⟩
        simp only [execOp, ho, hx', Instr.typeAssert, Sem.run_bind, run_underlying hu, Result.andThen_ok]
        cases d <;> first | (exact (hni _ rfl).elim) | (simp [hz1]; done)
    · cases hv
  · cases hc

theorem rd_extract (hρ : RelEnv w0 φ ts ρ) {o : Oper} {x : Operand} {i : Nat} (ho : o.op = .extract x i) {vo : VOp} (hc : opV? P o.op = some vo) {v : VVal} (hv : vo.read ts h = some v) : ReadOk P w0 φ w ρ o v := by
  rw [ho] at hc
  obtain ⟨y, h1, rfl⟩ := one_opd hc
  have hr := hρ _ _ h1
  simp only [VOp.read, nilF_eq, pickF_eq, faddr_eq, fieldF_eq, extF_eq, convF_eq, idxS_eq, lenF_eq, unV_eq] at hv
  split at hv
  · rename_i vs heq
    rw [heq] at hr
    cases hx' : ρ x <;> rw [hx'] at hr <;> cases hr
    rename_i ys hys
    split at hv
    · rename_i a hcut
      injection hv with hv; subst hv
      have := cut_get hcut 0 (by omega)
      simp at this
      obtain ⟨b, hb, hrel⟩ := hys.get i this.symm
      exact ⟨b, by simp [execOp, ho, hx', Instr.extract, hb], hrel⟩
    · cases hv
  · cases hv
end
end Go.V
