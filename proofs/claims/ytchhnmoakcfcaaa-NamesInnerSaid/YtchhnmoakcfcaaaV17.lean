/- Operations that write: stores and maps. -/
import Derived.Test.YtchhnmoakcfcaaaV16
namespace Go.V
open Go.RowKit

section
variable {P : Program} {w0 : World} {φ : VMap} {h : VHeap} {w : World} {ts : List VVal} {ρ : Operand → Value}

def WriteOk (P : Program) (w0 : World) (φ : VMap) (h : VHeap) (w : World) (ρ : Operand → Value) (o : Oper) (v : VVal) (h' : VHeap) : Prop :=
  ∃ r w' φ', ((execOp ρ o).run P w = .ok (.value r) w' ∨ ((execOp ρ o).run P w = .ok .skip w' ∧ r = Go.undef)) ∧ RelH w0 φ' h' w' ∧ Ext φ h w φ' h' w' ∧ RelV w0 φ' v r

theorem oneCells {xs : List VVal} {ys : List Value} (hr : RelVs w0 φ xs ys) (hok : cellsOk xs = true) : ∀ v ∈ ys, v.oneCell' = true := by
  induction xs generalizing ys with
  | nil => cases hr; intro v hv; cases hv
  | cons x xs ih =>
    cases hr with
    | cons h1 h2 =>
      simp only [cellsOk, Bool.and_eq_true] at hok
      intro v hv
      cases hv with
      | head => cases h1 <;> first | rfl | (simp [cellOk] at hok; done)
      | tail _ hm => exact ih h2 hok.2 v hm

theorem wr_store (H : RelH w0 φ h w) (hρ : RelEnv w0 φ ts ρ) {o : Oper} {t : TypeId} {a x : Operand} (ho : o.op = .store t a x) {vo : VOp} (hc : opV? P o.op = some vo) {v : VVal} {h' : VHeap} (hw : vo.write ts h = some (v, h')) : WriteOk P w0 φ h w ρ o v h' := by
  rw [ho] at hc
  simp only [opV?] at hc
  split at hc
  · rename_i i a' x' hi ha hx
    split at hc
    · rename_i hne
      injection hc with hc; subst hc
      simp only [VOp.write] at hw
      split at hw
      · rename_i hcond
        rw [Bool.and_eq_true] at hcond
        obtain ⟨hc1, hc2⟩ := hcond
        have hc1 : (x'.ev ts).cells.length = i.size := by simpa using hc1
        split at hw
        · rename_i h1 hst
          injection hw with hw
          injection hw with e1 e2; subst e1 e2
          have hnp : x'.ev ts ≠ .poison := by intro e; rw [e] at hc2; simp [VVal.cells, cellsOk, cellOk] at hc2
          have hcells := cells_rel' (hρ _ _ hx) hnp
          have hnil : (x'.ev ts).cells ≠ [] := by intro e; rw [e] at hc1; simp at hc1; omega
          obtain ⟨g, off, w', e1, e2, e3, e4⟩ := store_rel (P := P) H (hρ _ _ ha) hcells (oneCells hcells hc2) hst hnil
          refine ⟨Go.undef, w', φ, .inr ⟨?_, rfl⟩, e3, e4, .tuple .nil⟩
          have hsz : (ρ x).cells.size = i.size := by rw [← hc1, hcells.length]; simp
          simp only [execOp, ho, Instr.storeAt, e1, Instr.sureAddr, storeVar, Sem.run_bind, Sem.run_pure, Result.andThen_ok, run_size hi, hsz, ne_eq, not_true_eq_false, if_false, e2]
        · cases hw
      · cases hw
    · cases hc
  · cases hc

theorem run_setMap {r : Nat} {es : Array MapEntry} {clock : Nat} (hb : w.heap[r]? = some (.map es clock)) (o : Obj) : (setObj r o).run P w = .ok () { w with heap := w.heap.setIfInBounds r o } := by
  simp [setObj, Sem.run, hb]

theorem heap_set {r : Nat} {o : Obj} (hlt : r < w.heap.size) (c : Nat) : ({ w with heap := w.heap.setIfInBounds r o } : World).heap[c]? = if c = r then some o else w.heap[c]? := by
  show (w.heap.setIfInBounds r o)[c]? = _
  rw [Array.getElem?_setIfInBounds]
  by_cases e : r = c
  · subst e; simp [hlt]
  · rw [if_neg e, if_neg (fun h => e h.symm)]

theorem sameBits_key {g : VTag} {k e : VVal} {k' e' : Value} (hk : KeyRel w0 φ g k k') (he : RelV w0 φ e e') (hb : keyBeq k e = some true) (n : Nat) : Instr.sameBits n e' k' = true := by
  cases hk with
  | int kk m =>
    cases he <;> simp [keyBeq] at hb
    obtain ⟨h1, h2⟩ := hb
    have := code_inj (by simpa using h1); subst this
    rw [intBeq_iff] at h2
    rw [beq_iff_eq] at h2
    subst h2
    unfold Instr.sameBits; simp
  | str s =>
    cases he <;> simp [keyBeq] at hb
    rw [natsBeq_bytes] at hb
    rename_i s'
    have : (s' == s) = true := by rw [beq_toListBytes]; rw [beq_iff_eq] at hb ⊢; exact hb.symm
    unfold Instr.sameBits; simpa using this
  | bool b =>
    cases he <;> simp [keyBeq] at hb
    rename_i b'
    unfold Instr.sameBits
    cases b <;> cases b' <;> first | rfl | (simp at hb)

theorem putV_rel {g : VTag} {d : TypeDesc} (hd : (g = .int ∧ ∃ k, d = .int k) ∨ (g = .str ∧ d = .string) ∨ (g = .bool ∧ d = .bool)) {k x : VVal} {k' x' : Value} (hk : KeyRel w0 φ g k k') (hkr : RelV w0 φ k k') (hx : RelV w0 φ x x') :
    ∀ {es es2 : List (VVal × VVal)} {es' : List MapEntry} (i : Nat), RelEs w0 φ es es' → putV k x es = some es2 →
      (Instr.findNow d k' es' i = some none ∧ ∀ n, RelEs w0 φ es2 (es' ++ [{ key := k', val := x', born := n }])) ∨
      ∃ j v, Instr.findNow d k' es' i = some (some (i + j, v)) ∧ (∃ e, es'[j]? = some e ∧ ∀ n, Instr.sameBits n e.key k' = true) ∧ RelEs w0 φ es2 (es'.modify j fun e => { e with key := k', val := x' }) := by
  intro es
  induction es with
  | nil => intro es2 es' i hr hp; cases hr; simp [putV] at hp; subst hp; exact .inl ⟨rfl, fun n => .cons hkr hx .nil⟩
  | cons p es ih =>
    intro es2 es' i hr hp
    cases hr with
    | cons h1 h2 h3 =>
      rename_i kk vv e es'
      simp only [putV] at hp
      split at hp
      · rename_i hb
        injection hp with hp; subst hp
        exact .inr ⟨0, e.val, by simp [Instr.findNow, sameNow_rel hd hk h1 hb], ⟨e, rfl, fun n => sameBits_key hk h1 hb n⟩, .cons hkr hx h3⟩
      · rename_i hb
        split at hp
        · rename_i r hr2
          injection hp with hp; subst hp
          rcases ih (i + 1) h3 hr2 with ⟨e1, e2⟩ | ⟨j, v, e1, ⟨e', e2, e2'⟩, e3⟩
          · exact .inl ⟨by simp [Instr.findNow, sameNow_rel hd hk h1 hb, e1], fun n => .cons h1 h2 (e2 n)⟩
          · refine .inr ⟨j + 1, v, by simp [Instr.findNow, sameNow_rel hd hk h1 hb, e1]; omega, ⟨e', by simpa using e2, e2'⟩, ?_⟩
            rw [List.modify_succ_cons]
            exact .cons h1 h2 e3
        · cases hp
      · cases hp

theorem delV_rel {g : VTag} {d : TypeDesc} (hd : (g = .int ∧ ∃ k, d = .int k) ∨ (g = .str ∧ d = .string) ∨ (g = .bool ∧ d = .bool)) {k : VVal} {k' : Value} (hk : KeyRel w0 φ g k k') :
    ∀ {es es2 : List (VVal × VVal)} {es' : List MapEntry} (i : Nat), RelEs w0 φ es es' → delV k es = some es2 →
      (Instr.findNow d k' es' i = some none ∧ RelEs w0 φ es2 es') ∨ ∃ j v, Instr.findNow d k' es' i = some (some (i + j, v)) ∧ RelEs w0 φ es2 (es'.eraseIdx j) := by
  intro es
  induction es with
  | nil => intro es2 es' i hr hp; cases hr; simp [delV] at hp; subst hp; exact .inl ⟨rfl, .nil⟩
  | cons p es ih =>
    intro es2 es' i hr hp
    cases hr with
    | cons h1 h2 h3 =>
      rename_i kk vv e es'
      simp only [delV] at hp
      split at hp
      · rename_i hb
        injection hp with hp; subst hp
        exact .inr ⟨0, e.val, by simp [Instr.findNow, sameNow_rel hd hk h1 hb], h3⟩
      · rename_i hb
        split at hp
        · rename_i r hr2
          injection hp with hp; subst hp
          rcases ih (i + 1) h3 hr2 with ⟨e1, e2⟩ | ⟨j, v, e1, e3⟩
          · exact .inl ⟨by simp [Instr.findNow, sameNow_rel hd hk h1 hb, e1], .cons h1 h2 e2⟩
          · exact .inr ⟨j + 1, v, by simp [Instr.findNow, sameNow_rel hd hk h1 hb, e1]; omega, .cons h1 h2 e3⟩
        · cases hp
      · cases hp

/-- A map's block is written. -/
theorem step_map (H : RelH w0 φ h w) {b : Nat} {l : Loc} (hφ : φ b 0 = some l) {es es2 : List (VVal × VVal)} (hg : h.get b = some (.map es)) {es' : Array MapEntry} {clock : Nat} (hr : RelEs w0 φ es2 es'.toList) :
    RelH w0 φ (h.set b (.map es2)) { w with heap := w.heap.setIfInBounds l.c (.map es' clock) } ∧ Ext φ h w φ (h.set b (.map es2)) { w with heap := w.heap.setIfInBounds l.c (.map es' clock) } := by
  have hlt := (H.lt _ _ _ hφ).2
  refine step_write H hφ (VHeap.lt_of_get hg) (by simp) (fun c hc => by rw [heap_set hlt, if_neg hc]) rfl rfl rfl ?_
  intro v l' h'
  obtain ⟨hv, _⟩ := H.obj _ _ _ _ h' hg
  subst hv
  rw [hφ] at h'; injection h' with h'; subst h'
  exact ⟨rfl, es', clock, by rw [heap_set hlt, if_pos rfl], hr⟩

theorem run_mapUpdate {t kt e : TypeId} (hu : P.underlying t = some (.map kt e)) {g : VTag} (hg : keyTag P kt = some g) (H : RelH w0 φ h w) {b : Nat} {l : Loc} (hφ : φ b 0 = some l) {es es2 : List (VVal × VVal)} (hes : h.get b = some (.map es)) {k x : VVal} {k' x' : Value}
    (hok : keyOk g k = true) (hk : RelV w0 φ k k') (hx : RelV w0 φ x x') (hp : putV k x es = some es2) :
    ∃ w', (Instr.mapUpdate t (.map (some l.c)) k' x').run P w = .ok () w' ∧ RelH w0 φ (h.set b (.map es2)) w' ∧ Ext φ h w φ (h.set b (.map es2)) w' := by
  obtain ⟨_, ces, clock, hb, hrel⟩ := H.obj _ _ _ _ hφ hes
  obtain ⟨d, hud, hd⟩ := keyTag_spec hg
  rcases putV_rel hd (key_rel hk hok) hk hx 0 hrel hp with ⟨e1, e2⟩ | ⟨j, v, e1, ⟨e', e2, e2'⟩, e3⟩
  · refine ⟨_, ?_, step_map H hφ hes (es' := ces.push { key := k', val := x', born := clock }) (clock := clock + 1) (by simpa using e2 clock)⟩
    simp only [Instr.mapUpdate, Sem.run_bind, run_underlying hu, Result.andThen_ok, run_getMap hb, run_checkKey_plain hg, Instr.findKey, run_underlying hud, e1, Sem.run_pure, run_setMap hb]
  · have hget : ces[j]? = some e' := by rw [← Array.getElem?_toList]; exact e2
    have hfk : (Instr.findKey kt k' ces.toList).run P w = .ok (some (j, v)) w := by simp [Instr.findKey, run_underlying hud, e1]
    have hstay : (Instr.keyThatStays (((ces[j]?).map (·.key)).getD k') k').run P w = .ok k' w := by
      simp [hget, Instr.keyThatStays, e2' 10000]
    refine ⟨_, ?_, step_map H hφ hes (es' := ces.modify j fun e => { e with key := k', val := x' }) (clock := clock) (by simpa using e3)⟩
    simp only [Instr.mapUpdate, Sem.run_bind, run_underlying hu, Result.andThen_ok, run_getMap hb, run_checkKey_plain hg, hfk, hstay, run_setMap hb]

theorem wr_mapUpdate (H : RelH w0 φ h w) (hρ : RelEnv w0 φ ts ρ) {o : Oper} {t : TypeId} {m k x : Operand} (ho : o.op = .mapUpdate t m k x ∨ o.op = .insert t m k x) {vo : VOp} (hc : opV? P o.op = some vo) {v : VVal} {h' : VHeap} (hw : vo.write ts h = some (v, h')) : WriteOk P w0 φ h w ρ o v h' := by
  have hc' : opV? P (.mapUpdate t m k x) = some vo := by rcases ho with ho | ho <;> rw [ho] at hc <;> exact hc
  have hex : (execOp ρ o) = (do Instr.mapUpdate t (ρ m) (ρ k) (ρ x); pure .skip) := by rcases ho with ho | ho <;> simp only [execOp, ho]
  clear hc
  simp only [opV?] at hc'
  split at hc'
  · rename_i kt e m' k' x' hu hm hk hx
    split at hc'
    · rename_i g hg
      injection hc' with hc'; subst hc'
      simp only [VOp.write] at hw
      split at hw
      · rename_i hok
        have hrm := hρ _ _ hm
        split at hw
        · rename_i b heq
          rw [heq] at hrm
          split at hw
          · rename_i es hes
            split at hw
            · rename_i es2 hp
              injection hw with hw
              injection hw with e1 e2; subst e1 e2
              cases hm' : ρ m <;> rw [hm'] at hrm <;> cases hrm
              rename_i l hφ
              obtain ⟨w', r1, r2, r3⟩ := run_mapUpdate (P := P) hu hg H hφ hes hok (hρ _ _ hk) (hρ _ _ hx) hp
              refine ⟨Go.undef, w', φ, .inr ⟨?_, rfl⟩, r2, r3, .tuple .nil⟩
              rw [hex, hm']
              simp only [Sem.run_bind, r1, Result.andThen_ok, Sem.run_pure]
            · cases hw
          · cases hw
        · cases hw
      · cases hw
    · cases hc'
  · cases hc'

theorem wr_delete (H : RelH w0 φ h w) (hρ : RelEnv w0 φ ts ρ) {o : Oper} {args : Array Operand} {tys : Array TypeId} (ho : o.op = .call { callee := .builtin .delete, args := args, argTypes := tys }) {vo : VOp} (hc : opV? P o.op = some vo) {v : VVal} {h' : VHeap}
    (hw : vo.write ts h = some (v, h')) : WriteOk P w0 φ h w ρ o v h' := by
  rw [ho] at hc
  simp only [opV?] at hc
  split at hc
  · rename_i t m k ht ha
    have hargs : args = #[m, k] := Array.toList_inj.1 (by simpa using ha)
    subst hargs
    split at hc
    · rename_i kt e m' k' hu hm hk
      split at hc
      · rename_i g hg
        injection hc with hc; subst hc
        simp only [VOp.write] at hw
        have run1 : ∀ {w'}, (Builtin.delete_ tys o.type #[ρ m, ρ k]).run P w = .ok (.tuple #[]) w' → (execOp ρ o).run P w = .ok (.value (.tuple #[])) w' := by
          intro w' hrun
          simp only [execOp, ho, resolve, Sem.run_bind, Sem.run_pure, Result.andThen_ok, invoke, builtin]
          have : (#[m, k].map ρ) = #[ρ m, ρ k] := by simp
          rw [this, hrun]; rfl
        split at hw
        · rename_i hok
          have hrm := hρ _ _ hm
          have hkey := key_rel (hρ _ _ hk) hok
          split at hw
          · rename_i heq
            injection hw with hw
            injection hw with e1 e2; subst e1 e2
            rw [heq] at hrm
            cases hm' : ρ m <;> rw [hm'] at hrm <;> cases hrm
            refine ⟨.tuple #[], w, φ, .inl (run1 ?_), H, Ext.refl _ _ _, .tuple .nil⟩
            simp [Builtin.delete_, ht, run_underlying hu, hm', run_checkKey_plain hg]
          · rename_i b heq
            rw [heq] at hrm
            split at hw
            · rename_i es hes
              split at hw
              · rename_i es2 hp
                injection hw with hw
                injection hw with e1 e2; subst e1 e2
                cases hm' : ρ m <;> rw [hm'] at hrm <;> cases hrm
                rename_i l hφ
                obtain ⟨_, ces, clock, hb, hrel⟩ := H.obj _ _ _ _ hφ hes
                obtain ⟨d, hud, hd⟩ := keyTag_spec hg
                rcases delV_rel hd hkey 0 hrel hp with ⟨e1, e2⟩ | ⟨j, v, e1, e3⟩
                · obtain ⟨r1, r2⟩ := step_map H hφ hes (es' := ces) (clock := clock) e2
                  refine ⟨.tuple #[], _, φ, .inl (run1 ?_), r1, r2, .tuple .nil⟩
                  have hfk : (Instr.findKey kt (ρ k) ces.toList).run P w = .ok none w := by simp [Instr.findKey, run_underlying hud, e1]
                  simp [Builtin.delete_, ht, run_underlying hu, hm', run_checkKey_plain hg, run_getMap hb, hfk, run_setMap hb]
                · obtain ⟨r1, r2⟩ := step_map H hφ hes (es' := ces.eraseIdxIfInBounds j) (clock := clock) (by rw [Array.toList_eraseIdxIfInBounds]; exact e3)
                  refine ⟨.tuple #[], _, φ, .inl (run1 ?_), r1, r2, .tuple .nil⟩
                  have hfk : (Instr.findKey kt (ρ k) ces.toList).run P w = .ok (some (j, v)) w := by simp [Instr.findKey, run_underlying hud, e1]
                  simp [Builtin.delete_, ht, run_underlying hu, hm', run_checkKey_plain hg, run_getMap hb, hfk, run_setMap hb]
              · cases hw
            · cases hw
          · cases hw
        · cases hw
      · cases hc
    · cases hc
  · cases hc
end
end Go.V
