/- Operations that write: stores and maps. -/
import Derived.Test.YthefbgflndpggaaV16
set_option linter.unusedSimpArgs false
set_option linter.unusedVariables false
namespace Go.V
open Go.RowKit

section
variable {P : Program} {w0 : World} {φ : VMap} {h : VHeap} {w : World} {ts : List VVal} {ρ : Operand → Value}

def WriteOk (P : Program) (w0 : World) (φ : VMap) (h : VHeap) (w : World) (ρ : Operand → Value) (o : Oper) (v : VVal) (h' : VHeap) : Prop :=
  ∃ r w' φ', ((execOp ρ o).run P w = .ok (.value r) w' ∨ ((execOp ρ o).run P w = .ok .skip w' ∧ r = Go.undef)) ∧ RelH w0 φ' h' w' ∧ Ext φ h w φ' h' w' ∧ RelV w0 φ' v r

theorem oneCells {xs : List VVal} {ys : List Value} (hr : RelVs w0 φ xs ys) (hok : cellsOk xs = true) : ∀ v ∈ ys, v.oneCell' = true := by
  induction xs generalizing ys with
  | nil => cases hr; intro v hv; cases hv
  | cons x xs ih =>
    cases hr with
    | cons h1 h2 =>
      simp only [cellsOk_eq0, cellsOk0, Bool.and_eq_true] at hok
      intro v hv
      cases hv with
      | head => cases h1 <;> first | rfl | (simp [cellOk] at hok; done)
      | tail _ hm => exact ih h2 (by rw [cellsOk_eq0]; exact hok.2) v hm

theorem wr_store (H : RelH w0 φ h w) (hρ : RelEnv w0 φ ts ρ) {o : Oper} {t : TypeId} {a x : Operand} (ho : o.op = .store t a x) {vo : VOp} (hc : opV? P o.op = some vo) {v : VVal} {h' : VHeap} (hw : vo.write ts h = some (v, h')) : WriteOk P w0 φ h w ρ o v h' := by
  rw [ho] at hc
  simp only [opV?] at hc
  split at hc
  · rename_i i a' x' hi ha hx
    split at hc
    · rename_i hne
      injection hc with hc; subst hc
      simp only [VOp.write, lenR_eq] at hw
      split at hw
      · rename_i hcond
        rw [Bool.and_eq_true] at hcond
        obtain ⟨hc1, hc2⟩ := hcond
        have hc1 : (x'.ev ts).cells.length = i.size := by simpa using hc1
        split at hw
        · rename_i h1 hst
          injection hw with hw
          injection hw with e1 e2; subst e1 e2
          have hnp : x'.ev ts ≠ .poison := by intro e; rw [e] at hc2; simp [VVal.cells, cellsOk_eq0, cellsOk0, cellOk] at hc2
          have hcells := cells_rel' (hρ _ _ hx) hnp
          have hnil : (x'.ev ts).cells ≠ [] := by intro e; rw [e] at hc1; simp at hc1; omega
          obtain ⟨g, off, w', e1, e2, e3, e4⟩ := store_rel (P := P) H (hρ _ _ ha) hcells (oneCells hcells hc2) hst hnil
          refine ⟨Go.undef, w', φ, .inr ⟨?_, rfl⟩, e3, e4, .tuple .nil⟩
          have hsz : (ρ x).cells.size = i.size := by rw [← hc1, hcells.length]; simp
          simp only [execOp, ho, Instr.storeAt, e1, Instr.sureAddr, storeVar, Sem.run_bind, Sem.run_pure, Result.andThen_ok, run_size hi, hsz, ne_eq, not_true_eq_false, if_false, e2]
        · cases hw
      · cases hw
    · cases hc
  · cases hc

theorem run_setMap {r : Nat} {es : Array MapEntry} {clock : Nat} (hb : w.heap[r]? = some (.map es clock)) (o : Obj) : (setObj r o).run P w = .ok () { w with heap := w.heap.setIfInBounds r o } := by
  simp [setObj, Sem.run, hb]

theorem heap_set {r : Nat} {o : Obj} (hlt : r < w.heap.size) (c : Nat) : ({ w with heap := w.heap.setIfInBounds r o } : World).heap[c]? = if c = r then some o else w.heap[c]? := by
  show (w.heap.setIfInBounds r o)[c]? = _
  rw [Array.getElem?_setIfInBounds]
  by_cases e : r = c
  · subst e; simp [hlt]
  · rw [if_neg e, if_neg (fun h => e h.symm)]

theorem sameBits_key {g : VTag} {k e : VVal} {k' e' : Value} (hk : KeyRel w0 φ g k k') (he : RelV w0 φ e e') (hb : keyBeq k e = some true) (n : Nat) : Instr.sameBits n e' k' = true := by
  cases hk with
  | int kk m =>
    cases he <;> simp [keyBeq] at hb
    obtain ⟨h1, h2⟩ := hb
    have := code_inj (by simpa using h1); subst this
    rw [intBeq_iff] at h2
    rw [beq_iff_eq] at h2
    subst h2
    unfold Instr.sameBits; simp
  | str s =>
    cases he <;> simp [keyBeq] at hb
    rw [natsBeq_bytes] at hb
    rename_i s'
    have : (s' == s) = true := by rw [beq_toListBytes]; rw [beq_iff_eq] at hb ⊢; exact hb.symm
    unfold Instr.sameBits; simpa using this
  | bool b =>
    cases he <;> simp [keyBeq] at hb
    rename_i b'
    unfold Instr.sameBits
    cases b <;> cases b' <;> first | rfl | (simp at hb)

theorem putV_rel {g : VTag} {d : TypeDesc} (hd : (g = .int ∧ ∃ k, d = .int k) ∨ (g = .str ∧ d = .string) ∨ (g = .bool ∧ d = .bool)) {k x : VVal} {k' x' : Value} (hk : KeyRel w0 φ g k k') (hkr : RelV w0 φ k k') (hx : RelV w0 φ x x') :
    ∀ {es es2 : List (VVal × VVal)} {es' : List MapEntry} (i : Nat), RelEs w0 φ es es' → putV k x es = some es2 →
      (Instr.findNow d k' es' i = some none ∧ ∀ n, RelEs w0 φ es2 (es' ++ [{ key := k', val := x', born := n }])) ∨
      ∃ j v, Instr.findNow d k' es' i = some (some (i + j, v)) ∧ (∃ e, es'[j]? = some e ∧ ∀ n, Instr.sameBits n e.key k' = true) ∧ RelEs w0 φ es2 (es'.modify j fun e => { e with key := k', val := x' }) := by
  intro es
  induction es with
  | nil => intro es2 es' i hr hp; cases hr; simp [putV] at hp; subst hp; exact .inl ⟨rfl, fun n => .cons hkr hx .nil⟩
  | cons p es ih =>
    intro es2 es' i hr hp
    cases hr with
    | cons h1 h2 h3 =>
      rename_i kk vv e es'
      simp only [putV] at hp
      split at hp
      · rename_i hb
        injection hp with hp; subst hp
        exact .inr ⟨0, e.val, by simp [Instr.findNow, sameNow_rel hd hk h1 hb], ⟨e, rfl, fun n => sameBits_key hk h1 hb n⟩, .cons hkr hx h3⟩
      · rename_i hb
        split at hp
        · rename_i r hr2
          injection hp with hp; subst hp
          rcases ih (i + 1) h3 hr2 with ⟨e1, e2⟩ | ⟨j, v, e1, ⟨e', e2, e2'⟩, e3⟩
          · exact .inl ⟨by simp [Instr.findNow, sameNow_rel hd hk h1 hb, e1], fun n => .cons h1 h2 (e2 n)⟩
          · refine .inr ⟨j + 1, v, by simp [Instr.findNow, sameNow_rel hd hk h1 hb, e1]; omega, ⟨e', by simpa using e2, e2'⟩, ?_⟩
            rw [List.modify_succ_cons]
            exact .cons h1 h2 e3
        · cases hp
      · cases hp

theorem delV_rel {g : VTag} {d : TypeDesc} (hd : (g = .int ∧ ∃ k, d = .int k) ∨ (g = .str ∧ d = .string) ∨ (g = .bool ∧ d = .bool)) {k : VVal} {k' : Value} (hk : KeyRel w0 φ g k k') :
    ∀ {es es2 : List (VVal × VVal)} {es' : List MapEntry} (i : Nat), RelEs w0 φ es es' → delV k es = some es2 →
      (Instr.findNow d k' es' i = some none ∧ RelEs w0 φ es2 es') ∨ ∃ j v, Instr.findNow d k' es' i = some (some (i + j, v)) ∧ RelEs w0 φ es2 (es'.eraseIdx j) := by
  intro es
  induction es with
  | nil => intro es2 es' i hr hp; cases hr; simp [delV] at hp; subst hp; exact .inl ⟨rfl, .nil⟩
  | cons p es ih =>
    intro es2 es' i hr hp
    cases hr with
    | cons h1 h2 h3 =>
      rename_i kk vv e es'
      simp only [delV] at hp
      split at hp
      · rename_i hb
        injection hp with hp; subst hp
        exact .inr ⟨0, e.val, by simp [Instr.findNow, sameNow_rel hd hk h1 hb], h3⟩
      · rename_i hb
        split at hp
        · rename_i r hr2
          injection hp with hp; subst hp
          rcases ih (i + 1) h3 hr2 with ⟨e1, e2⟩ | ⟨j, v, e1, e3⟩
          · exact .inl ⟨by simp [Instr.findNow, sameNow_rel hd hk h1 hb, e1], .cons h1 h2 e2⟩
          · exact .inr ⟨j + 1, v, by simp [Instr.findNow, sameNow_rel hd hk h1 hb, e1]; omega, .cons h1 h2 e3⟩
        · cases hp
      · cases hp

theorem born_modify (f : MapEntry → MapEntry) (hf : ∀ e, (f e).born = e.born) : ∀ (l : List MapEntry) (j : Nat), (l.modify j f).map (·.born) = l.map (·.born) := by
  intro l
  induction l with
  | nil => intro j; simp
  | cons e l ih =>
    intro j
    cases j with
    | zero => simp [List.modify, hf]
    | succ j => rw [List.modify_succ_cons, List.map_cons, List.map_cons, ih j]

theorem lt_of_born {l l' : List MapEntry} {c : Nat} (h : l'.map (·.born) = l.map (·.born)) (hl : ∀ x ∈ l, x.born < c) : ∀ x ∈ l', x.born < c := by
  intro x hx
  have : x.born ∈ l.map (·.born) := by rw [← h]; exact List.mem_map.2 ⟨x, hx, rfl⟩
  obtain ⟨y, hy, e⟩ := List.mem_map.1 this
  rw [← e]; exact hl y hy

theorem stampsUp_some {n m : Nat} {st : Option (List Nat × Nat)} (h : (stampsUp n m st).isSome = true) : st.isSome = true := by
  cases st with
  | none => cases h
  | some p => rfl

/-- A store into a map. -/
theorem map_put {g : VTag} {d : TypeDesc} (hd : (g = .int ∧ ∃ k, d = .int k) ∨ (g = .str ∧ d = .string) ∨ (g = .bool ∧ d = .bool)) {es es2 : List (VVal × VVal)} {st : Option (List Nat × Nat)} {ces : Array MapEntry} {clock : Nat} (M : MapRel w0 φ es st ces clock) {k x : VVal} {k' x' : Value}
    (hk : KeyRel w0 φ g k k') (hkr : RelV w0 φ k k') (hx : RelV w0 φ x x') (hp : putV k x es = some es2) :
    (Instr.findNow d k' ces.toList 0 = some none ∧ MapRel w0 φ es2 (stampsUp es.length es2.length st) (ces.push { key := k', val := x', born := clock }) (clock + 1)) ∨
    ∃ j v e', Instr.findNow d k' ces.toList 0 = some (some (j, v)) ∧ ces[j]? = some e' ∧ (∀ n, Instr.sameBits n e'.key k' = true) ∧ MapRel w0 φ es2 (stampsUp es.length es2.length st) (ces.modify j fun e => { e with key := k', val := x' }) clock := by
  obtain ⟨es', hperm, hrel, hst⟩ := M.rel
  obtain ⟨es2', hp', hperm2⟩ := putV_perm hperm.symm M.keys hp
  have hkeys := M.keys.put hp
  have hlen : es.length = ces.toList.length := by rw [← hperm.length_eq, hrel.length]
  have hsame : st.isSome = true → es2' = es2 := by
    intro h; have := hst h; subst this; rw [hp] at hp'; injection hp' with hp'; exact hp'.symm
  rcases putV_rel hd hk hkr hx 0 hrel hp' with ⟨e1, e2⟩ | ⟨j, v, e1, ⟨e', e2, e2'⟩, e3⟩
  · have hlen2 : es2.length = ces.toList.length + 1 := by rw [hperm2.length_eq, (e2 clock).length]; simp
    refine .inl ⟨e1, ⟨es2', hperm2.symm, by simpa using e2 clock, fun h => hsame (stampsUp_some h)⟩, hkeys, ?_, ?_, ?_⟩
    · rw [Array.toList_push, List.map_append]
      refine List.nodup_append.2 ⟨M.born, by simp, ?_⟩
      intro a ha b hb
      simp only [List.map_cons, List.map_nil, List.mem_singleton] at hb
      subst hb
      obtain ⟨y, hy, rfl⟩ := List.mem_map.1 ha
      exact Nat.ne_of_lt (M.lt y hy)
    · intro y hy
      rw [Array.toList_push, List.mem_append] at hy
      rcases hy with hy | hy
      · exact Nat.lt_succ_of_lt (M.lt y hy)
      · simp only [List.mem_singleton] at hy; subst hy; exact Nat.lt_succ_self _
    · intro bs c h
      cases st with
      | none => cases h
      | some p =>
        obtain ⟨b0, c0⟩ := p
        obtain ⟨m1, m2⟩ := M.st b0 c0 rfl
        simp only [stampsUp] at h
        rw [if_neg (by omega)] at h
        injection h with h; injection h with h1 h2
        rw [Array.toList_push, List.map_append, ← h1, ← h2, m1, m2]; exact ⟨rfl, rfl⟩
  · have hb : (ces.modify j fun e => { e with key := k', val := x' }).toList.map (·.born) = ces.toList.map (·.born) := by rw [Array.toList_modify]; apply born_modify; intro _; rfl
    have hlen2 : es2.length = ces.toList.length := by rw [hperm2.length_eq, e3.length]; simp
    refine .inr ⟨j, v, e', by simpa using e1, by rw [← Array.getElem?_toList]; exact e2, e2', ⟨es2', hperm2.symm, by simpa using e3, fun h => hsame (stampsUp_some h)⟩, hkeys, by rw [hb]; exact M.born, lt_of_born hb M.lt, ?_⟩
    intro bs c h
    cases st with
    | none => cases h
    | some p =>
      obtain ⟨b0, c0⟩ := p
      obtain ⟨m1, m2⟩ := M.st b0 c0 rfl
      simp only [stampsUp] at h
      rw [if_pos (by omega)] at h
      injection h with h; injection h with h1 h2
      rw [hb, ← h1, ← h2]; exact ⟨m1, m2⟩

theorem map_del {g : VTag} {d : TypeDesc} (hd : (g = .int ∧ ∃ k, d = .int k) ∨ (g = .str ∧ d = .string) ∨ (g = .bool ∧ d = .bool)) {es es2 : List (VVal × VVal)} {st : Option (List Nat × Nat)} {ces : Array MapEntry} {clock : Nat} (M : MapRel w0 φ es st ces clock) {k : VVal} {k' : Value}
    (hk : KeyRel w0 φ g k k') (hp : delV k es = some es2) :
    (Instr.findNow d k' ces.toList 0 = some none ∧ MapRel w0 φ es2 none ces clock) ∨
    ∃ j v, Instr.findNow d k' ces.toList 0 = some (some (j, v)) ∧ MapRel w0 φ es2 none (ces.eraseIdxIfInBounds j) clock := by
  obtain ⟨es', hperm, hrel, hst⟩ := M.rel
  obtain ⟨es2', hp', hperm2⟩ := delV_perm hperm.symm M.keys hp
  have hkeys := M.keys.del hp
  rcases delV_rel hd hk 0 hrel hp' with ⟨e1, e2⟩ | ⟨j, v, e1, e3⟩
  · exact .inl ⟨e1, ⟨es2', hperm2.symm, e2, fun h => by cases h⟩, hkeys, M.born, M.lt, fun bs c h => by cases h⟩
  · have hs : (ces.eraseIdxIfInBounds j).toList.Sublist ces.toList := by rw [Array.toList_eraseIdxIfInBounds]; exact List.eraseIdx_sublist _ _
    exact .inr ⟨j, v, by simpa using e1, ⟨es2', hperm2.symm, by rw [Array.toList_eraseIdxIfInBounds]; exact e3, fun h => by cases h⟩, hkeys, List.Pairwise.sublist (hs.map _) M.born, fun x hx => M.lt x (hs.subset hx), fun bs c h => by cases h⟩

/-- A map's block is written. -/
theorem step_map (H : RelH w0 φ h w) {b : Nat} {l : Loc} (hφ : φ b 0 = some l) {es es2 : List (VVal × VVal)} {st st2 : Option (List Nat × Nat)} (hg : h.get b = some (.map es st)) {es' : Array MapEntry} {clock : Nat} (hr : MapRel w0 φ es2 st2 es' clock) :
    RelH w0 φ (h.set b (.map es2 st2)) { w with heap := w.heap.setIfInBounds l.c (.map es' clock) } ∧ Ext φ h w φ (h.set b (.map es2 st2)) { w with heap := w.heap.setIfInBounds l.c (.map es' clock) } := by
  have hlt := (H.lt _ _ _ hφ).2
  refine step_write H hφ (VHeap.lt_of_get hg) (by simp) (fun c hc => by rw [heap_set hlt, if_neg hc]) rfl rfl rfl ?_
  intro v l' h'
  obtain ⟨hv, _⟩ := H.obj _ _ _ _ h' hg
  subst hv
  rw [hφ] at h'; injection h' with h'; subst h'
  exact ⟨rfl, es', clock, by rw [heap_set hlt, if_pos rfl], hr⟩

theorem run_mapUpdate {t kt e : TypeId} (hu : P.underlying t = some (.map kt e)) {g : VTag} (hg : keyTag P kt = some g) (H : RelH w0 φ h w) {b : Nat} {l : Loc} (hφ : φ b 0 = some l) {es es2 : List (VVal × VVal)} {st : Option (List Nat × Nat)} (hes : h.get b = some (.map es st)) {k x : VVal} {k' x' : Value}
    (hok : keyOk g k = true) (hk : RelV w0 φ k k') (hx : RelV w0 φ x x') (hp : putV k x es = some es2) :
    ∃ w', (Instr.mapUpdate t (.map (some l.c)) k' x').run P w = .ok () w' ∧ RelH w0 φ (h.set b (.map es2 (stampsUp es.length es2.length st))) w' ∧ Ext φ h w φ (h.set b (.map es2 (stampsUp es.length es2.length st))) w' := by
  obtain ⟨_, ces, clock, hb, hmr⟩ := H.obj _ _ _ _ hφ hes
  obtain ⟨d, hud, hd⟩ := keyTag_spec hg
  rcases map_put hd hmr (key_rel hk hok) hk hx hp with ⟨e1, e2⟩ | ⟨j, v, e', e1, hget, e2', e3⟩
  · refine ⟨_, ?_, step_map H hφ hes e2⟩
    simp only [Instr.mapUpdate, Sem.run_bind, run_underlying hu, Result.andThen_ok, run_getMap hb, run_checkKey_plain hg, Instr.findKey, run_underlying hud, e1, Sem.run_pure, run_setMap hb]
  · have hfk : (Instr.findKey kt k' ces.toList).run P w = .ok (some (j, v)) w := by simp [Instr.findKey, run_underlying hud, e1]
    have hstay : (Instr.keyThatStays (((ces[j]?).map (·.key)).getD k') k').run P w = .ok k' w := by
      simp [hget, Instr.keyThatStays, e2' 10000]
    refine ⟨_, ?_, step_map H hφ hes e3⟩
    simp only [Instr.mapUpdate, Sem.run_bind, run_underlying hu, Result.andThen_ok, run_getMap hb, run_checkKey_plain hg, hfk, hstay, run_setMap hb]

theorem wr_mapUpdate (H : RelH w0 φ h w) (hρ : RelEnv w0 φ ts ρ) {o : Oper} {t : TypeId} {m k x : Operand} (ho : o.op = .mapUpdate t m k x ∨ o.op = .insert t m k x) {vo : VOp} (hc : opV? P o.op = some vo) {v : VVal} {h' : VHeap} (hw : vo.write ts h = some (v, h')) : WriteOk P w0 φ h w ρ o v h' := by
  have hc' : opV? P (.mapUpdate t m k x) = some vo := by rcases ho with ho | ho <;> rw [ho] at hc <;> exact hc
  have hex : (execOp ρ o) = (do Instr.mapUpdate t (ρ m) (ρ k) (ρ x); pure .skip) := by rcases ho with ho | ho <;> simp only [execOp, ho]
  clear hc
  simp only [opV?] at hc'
  split at hc'
  · rename_i kt e m' k' x' hu hm hk hx
    split at hc'
    · rename_i g hg
      injection hc' with hc'; subst hc'
      simp only [VOp.write, lenR_eq] at hw
      split at hw
      · rename_i hok
        have hrm := hρ _ _ hm
        split at hw
        · rename_i b heq
          rw [heq] at hrm
          split at hw
          · rename_i es st hes
            split at hw
            · rename_i es2 hp
              injection hw with hw
              injection hw with e1 e2; subst e1 e2
              cases hm' : ρ m <;> rw [hm'] at hrm <;> cases hrm
              rename_i l hφ
              obtain ⟨w', r1, r2, r3⟩ := run_mapUpdate (P := P) hu hg H hφ hes hok (hρ _ _ hk) (hρ _ _ hx) hp
              refine ⟨Go.undef, w', φ, .inr ⟨?_, rfl⟩, r2, r3, .tuple .nil⟩
              rw [hex, hm']
              simp only [Sem.run_bind, r1, Result.andThen_ok, Sem.run_pure]
            · cases hw
          · cases hw
        · cases hw
      · cases hw
    · cases hc'
  · cases hc'

theorem wr_delete (H : RelH w0 φ h w) (hρ : RelEnv w0 φ ts ρ) {o : Oper} {args : Array Operand} {tys : Array TypeId} (ho : o.op = .call { callee := .builtin .delete, args := args, argTypes := tys }) {vo : VOp} (hc : opV? P o.op = some vo) {v : VVal} {h' : VHeap}
    (hw : vo.write ts h = some (v, h')) : WriteOk P w0 φ h w ρ o v h' := by
  rw [ho] at hc
  simp only [opV?] at hc
  split at hc
  · rename_i t m k ht ha
    have hargs : args = #[m, k] := Array.toList_inj.1 (by simpa using ha)
    subst hargs
    split at hc
    · rename_i kt e m' k' hu hm hk
      split at hc
      · rename_i g hg
        injection hc with hc; subst hc
        simp only [VOp.write, lenR_eq] at hw
        have run1 : ∀ {w'}, (Builtin.delete_ tys o.type #[ρ m, ρ k]).run P w = .ok (.tuple #[]) w' → (execOp ρ o).run P w = .ok (.value (.tuple #[])) w' := by
          intro w' hrun
          simp only [execOp, ho, resolve, Sem.run_bind, Sem.run_pure, Result.andThen_ok, invoke, builtin]
          have : (#[m, k].map ρ) = #[ρ m, ρ k] := by simp
          rw [this, hrun]; rfl
        split at hw
        · rename_i hok
          have hrm := hρ _ _ hm
          have hkey := key_rel (hρ _ _ hk) hok
          split at hw
          · rename_i heq
            injection hw with hw
            injection hw with e1 e2; subst e1 e2
            rw [heq] at hrm
            cases hm' : ρ m <;> rw [hm'] at hrm <;> cases hrm
            refine ⟨.tuple #[], w, φ, .inl (run1 ?_), H, Ext.refl _ _ _, .tuple .nil⟩
            simp [Builtin.delete_, ht, run_underlying hu, hm', run_checkKey_plain hg]
          · rename_i b heq
            rw [heq] at hrm
            split at hw
            · rename_i es st hes
              split at hw
              · rename_i es2 hp
                injection hw with hw
                injection hw with e1 e2; subst e1 e2
                cases hm' : ρ m <;> rw [hm'] at hrm <;> cases hrm
                rename_i l hφ
                obtain ⟨_, ces, clock, hb, hmr⟩ := H.obj _ _ _ _ hφ hes
                obtain ⟨d, hud, hd⟩ := keyTag_spec hg
                rcases map_del hd hmr hkey hp with ⟨e1, e2⟩ | ⟨j, v, e1, e3⟩
                · obtain ⟨r1, r2⟩ := step_map H hφ hes e2
                  refine ⟨.tuple #[], _, φ, .inl (run1 ?_), r1, r2, .tuple .nil⟩
                  have hfk : (Instr.findKey kt (ρ k) ces.toList).run P w = .ok none w := by simp [Instr.findKey, run_underlying hud, e1]
                  simp [Builtin.delete_, ht, run_underlying hu, hm', run_checkKey_plain hg, run_getMap hb, hfk, run_setMap hb]
                · obtain ⟨r1, r2⟩ := step_map H hφ hes e3
                  refine ⟨.tuple #[], _, φ, .inl (run1 ?_), r1, r2, .tuple .nil⟩
                  have hfk : (Instr.findKey kt (ρ k) ces.toList).run P w = .ok (some (j, v)) w := by simp [Instr.findKey, run_underlying hud, e1]
                  simp [Builtin.delete_, ht, run_underlying hu, hm', run_checkKey_plain hg, run_getMap hb, hfk, run_setMap hb]
              · cases hw
            · cases hw
          · cases hw
        · cases hw
      · cases hc
    · cases hc
  · cases hc

theorem putV_none {k x : VVal} : ∀ {es : List (VVal × VVal)}, findV k es = some none → putV k x es = some (es ++ [(k, x)]) := by
  intro es
  induction es with
  | nil => intro _; rfl
  | cons p es ih =>
    intro h
    rw [findV_cons] at h
    rw [putV_cons]
    cases e : keyBeq k p.1 with
    | none => rw [e] at h; cases h
    | some b =>
      rw [e] at h
      cases b
      · simp only at h ⊢; rw [ih h]; rfl
      · cases h

theorem entry_rel {g : VTag} {d : TypeDesc} (hd : (g = .int ∧ ∃ k, d = .int k) ∨ (g = .str ∧ d = .string) ∨ (g = .bool ∧ d = .bool)) {k v : VVal} {k' : Value} (hk : KeyRel w0 φ g k k') (hkr : RelV w0 φ k k') {n : Nat} :
    ∀ {es es2 : List (VVal × VVal)} {ces : List MapEntry} (i : Nat), RelEs w0 φ es ces → findV k es = some (some v) → stampOf k es (ces.map (·.born)) = some n → putV k v es = some es2 →
      ∃ j e, Instr.findNow d k' ces i = some (some (i + j, e.val)) ∧ ces[j]? = some e ∧ e.born = n ∧ RelV w0 φ v e.val ∧ (∀ m, Instr.sameBits m e.key k' = true) ∧ RelEs w0 φ es2 (ces.modify j fun e => { e with key := k' }) := by
  intro es
  induction es with
  | nil => intro es2 ces i hr hf; simp [findV_eq0, findV0] at hf
  | cons p es ih =>
    intro es2 ces i hr hf hs hp
    cases hr with
    | cons h1 h2 h3 =>
      rename_i kk vv e ces
      rw [findV_cons] at hf
      rw [putV_cons] at hp
      simp only [List.map_cons, stampOf] at hs
      cases hb : keyBeq k kk with
      | none => simp only [hb] at hf; cases hf
      | some b =>
        simp only [hb] at hf hp hs
        cases b
        · simp only at hf hp hs
          cases hp2 : putV k v es with
          | none => rw [hp2] at hp; cases hp
          | some r =>
            rw [hp2] at hp; injection hp with hp; subst hp
            obtain ⟨j, e', a1, a2, a3, a4, a5, a6⟩ := ih (i + 1) h3 hf hs hp2
            refine ⟨j + 1, e', by simp [Instr.findNow, sameNow_rel hd hk h1 hb, a1]; omega, by simpa using a2, a3, a4, a5, ?_⟩
            rw [List.modify_succ_cons]
            exact .cons h1 h2 a6
        · simp only at hf hp hs
          injection hf with hf; injection hf with hf; subst hf
          injection hp with hp; subst hp
          injection hs with hs
          exact ⟨0, e, by simp [Instr.findNow, sameNow_rel hd hk h1 hb], rfl, hs, h2, fun m => sameBits_key hk h1 hb m, .cons hkr h2 h3⟩

theorem setAt_rel {x : VVal} {x' : Value} (hx : RelV w0 φ x x') {n : Int} : ∀ {es es2 : List (VVal × VVal)} {ces : List MapEntry}, RelEs w0 φ es ces → setAt n x es (ces.map (·.born)) = some es2 →
    ∃ i, ces.findIdx? (fun e => (e.born : Int) == n) = some i ∧ RelEs w0 φ es2 (ces.modify i fun e => { e with val := x' }) ∧ es2.map (·.1) = es.map (·.1) := by
  intro es
  induction es with
  | nil => intro es2 ces hr hs; simp [setAt] at hs
  | cons p es ih =>
    intro es2 ces hr hs
    cases hr with
    | cons h1 h2 h3 =>
      rename_i kk vv e ces
      simp only [List.map_cons, setAt] at hs
      split at hs
      · rename_i hb
        injection hs with hs; subst hs
        have : n = e.born := intBeq_iff'.1 hb
        exact ⟨0, by simp [List.findIdx?_cons, this], .cons h1 hx h3, rfl⟩
      · rename_i hb
        cases hs2 : setAt n x es (ces.map (·.born)) with
        | none => rw [hs2] at hs; cases hs
        | some r =>
          rw [hs2] at hs; injection hs with hs; subst hs
          obtain ⟨i, a1, a2, a3⟩ := ih h3 hs2
          have hne : ((e.born : Int) == n) = false := by
            rw [Bool.eq_false_iff]; intro h; rw [beq_iff_eq] at h; exact hb (intBeq_iff'.2 h.symm)
          refine ⟨i + 1, by simp [List.findIdx?_cons, hne, a1], ?_, by simp [a3]⟩
          rw [List.modify_succ_cons]
          exact .cons h1 h2 a2

theorem KeysOk.of_keys {a b : List (VVal × VVal)} (h : a.map (·.1) = b.map (·.1)) (hb : KeysOk b) : KeysOk a := by
  have h1 : (b.map (·.1)).Pairwise fun p q => keyBeq p q = some false := List.pairwise_map.2 hb
  rw [← h] at h1
  exact List.pairwise_map.1 h1

theorem wr_mapEntry (H : RelH w0 φ h w) (hρ : RelEnv w0 φ ts ρ) {o : Oper} {t : TypeId} {m k : Operand} (ho : o.op = .mapEntry t m k) {vo : VOp} (hc : opV? P o.op = some vo) {v : VVal} {h' : VHeap} (hw : vo.write ts h = some (v, h')) : WriteOk P w0 φ h w ρ o v h' := by
  rw [ho] at hc
  simp only [opV?] at hc
  split at hc
  · rename_i kt e m' k' hu hm hk
    split at hc
    · rename_i g z hg hz
      injection hc with hc; subst hc
      simp only [VOp.write, lenR_eq] at hw
      split at hw
      · rename_i hok
        have hrm := hρ _ _ hm
        have hkr := hρ _ _ hk
        split at hw
        · rename_i b heq
          rw [heq] at hrm
          split at hw
          · rename_i es bs c hes
            cases hm' : ρ m <;> rw [hm'] at hrm <;> cases hrm
            rename_i l hφ
            obtain ⟨_, ces, clock, hb, hmr⟩ := H.obj _ _ _ _ hφ hes
            obtain ⟨es', hperm, hrel, hst⟩ := hmr.rel
            have := hst rfl; subst this
            obtain ⟨m1, m2⟩ := hmr.st bs c rfl
            obtain ⟨d, hud, hd⟩ := keyTag_spec hg
            split at hw
            · rename_i vv hf
              split at hw
              · rename_i n es2 hs hp
                injection hw with hw
                injection hw with e1 e2; subst e1 e2
                rw [← m1] at hs
                obtain ⟨j, en, a1, a2, a3, a4, a5, a6⟩ := entry_rel hd (key_rel hkr hok) hkr 0 hrel hf hs hp
                have hfk : (Instr.findKey kt (ρ k) ces.toList).run P w = .ok (some (j, en.val)) w := by simp [Instr.findKey, run_underlying hud, a1]
                have hget : ces[j]? = some en := by rw [← Array.getElem?_toList]; exact a2
                have hstay : (Instr.keyThatStays (((ces[j]?).map (·.key)).getD (ρ k)) (ρ k)).run P w = .ok (ρ k) w := by
                  simp [hget, Instr.keyThatStays, a5 10000]
                have hbn : (ces.modify j fun e => { e with key := ρ k }).toList.map (·.born) = ces.toList.map (·.born) := by rw [Array.toList_modify]; apply born_modify; intro _; rfl
                obtain ⟨r1, r2⟩ := step_map H hφ hes (es' := ces.modify j fun e => { e with key := ρ k }) (clock := clock) (es2 := es2) (st2 := some (bs, c))
                  ⟨⟨es2, .refl _, by simpa using a6, fun _ => rfl⟩, hmr.keys.put hp, by rw [hbn]; exact hmr.born, lt_of_born hbn hmr.lt, fun b' c' h => by injection h with h; injection h with h1 h2; subst h1 h2; rw [hbn]; exact ⟨m1, m2⟩⟩
                refine ⟨.tuple #[en.val, goInt en.born], _, φ, .inl ?_, r1, r2, .tuple (.cons a4 (.cons ?_ .nil))⟩
                · simp only [execOp, ho, hm', Instr.mapEntry, Sem.run_bind, run_underlying hu, Result.andThen_ok, run_getMap hb, run_checkKey_plain hg, hfk, hstay, run_setMap hb, Sem.run_pure]
                  simp [hget]
                · rw [← a3]; exact .int _ _
              · cases hw
            · rename_i hf
              injection hw with hw
              injection hw with e1 e2; subst e1 e2
              obtain ⟨zv, hz1, hz2, _⟩ := run_zero (w := w) hz
              have hzr := valueV_rel (w0 := w0) (φ := φ) hz2
              have hp := putV_none (x := z) hf
              rcases map_put hd hmr (key_rel hkr hok) hkr hzr hp with ⟨e1, e2⟩ | ⟨j, v, e', e1, _, _, _⟩
              · have hsu : stampsUp es'.length (es' ++ [(k'.ev ts, z)]).length (some (bs, c)) = some (bs ++ [c], c + 1) := by simp [stampsUp]
                rw [hsu] at e2
                obtain ⟨r1, r2⟩ := step_map H hφ hes e2
                have hfk : (Instr.findKey kt (ρ k) ces.toList).run P w = .ok none w := by simp [Instr.findKey, run_underlying hud, e1]
                refine ⟨.tuple #[zv, goInt clock], _, φ, .inl ?_, r1, r2, .tuple (.cons hzr (.cons ?_ .nil))⟩
                · simp only [execOp, ho, hm', Instr.mapEntry, Sem.run_bind, run_underlying hu, Result.andThen_ok, run_getMap hb, run_checkKey_plain hg, hfk, hz1, run_setMap hb, Sem.run_pure]
                · rw [← m2]; exact .int _ _
              · rcases findNow_rel hd (key_rel hkr hok) 0 hrel hf with ⟨_, x2⟩ | ⟨x, _, _, x1, _⟩
                · rw [x2] at e1; cases e1
                · cases x1
            · cases hw
          · cases hw
        · cases hw
      · cases hw
    · cases hc
  · cases hc

theorem wr_entryStore (H : RelH w0 φ h w) (hρ : RelEnv w0 φ ts ρ) {o : Oper} {t : TypeId} {m s x : Operand} (ho : o.op = .entryStore t m s x) {vo : VOp} (hc : opV? P o.op = some vo) {v : VVal} {h' : VHeap} (hw : vo.write ts h = some (v, h')) : WriteOk P w0 φ h w ρ o v h' := by
  rw [ho] at hc
  simp only [opV?] at hc
  split at hc
  · rename_i m' s' x' hm hs hx
    injection hc with hc; subst hc
    simp only [VOp.write] at hw
    have hrm := hρ _ _ hm
    have hrs := hρ _ _ hs
    have hrx := hρ _ _ hx
    split at hw
    · rename_i b n heq heq2
      rw [heq] at hrm
      rw [heq2] at hrs
      split at hw
      · rename_i es bs c hes
        split at hw
        · rename_i es2 hp
          injection hw with hw
          injection hw with e1 e2; subst e1 e2
          cases hm' : ρ m <;> rw [hm'] at hrm <;> cases hrm
          rename_i l hφ
          cases hs' : ρ s <;> rw [hs'] at hrs <;> cases hrs
          obtain ⟨_, ces, clock, hb, hmr⟩ := H.obj _ _ _ _ hφ hes
          obtain ⟨es', hperm, hrel, hst⟩ := hmr.rel
          have := hst rfl; subst this
          obtain ⟨m1, m2⟩ := hmr.st bs c rfl
          rw [← m1] at hp
          obtain ⟨i, a1, a2, a3⟩ := setAt_rel hrx hrel hp
          have hbn : (ces.modify i fun e => { e with val := ρ x }).toList.map (·.born) = ces.toList.map (·.born) := by rw [Array.toList_modify]; apply born_modify; intro _; rfl
          obtain ⟨r1, r2⟩ := step_map H hφ hes (es' := ces.modify i fun e => { e with val := ρ x }) (clock := clock) (es2 := es2) (st2 := some (bs, c))
            ⟨⟨es2, .refl _, by simpa using a2, fun _ => rfl⟩, hmr.keys.of_keys a3, by rw [hbn]; exact hmr.born, lt_of_born hbn hmr.lt, fun b' c' h => by injection h with h; injection h with h1 h2; subst h1 h2; rw [hbn]; exact ⟨m1, m2⟩⟩
          refine ⟨Go.undef, _, φ, .inr ⟨?_, rfl⟩, r1, r2, .tuple .nil⟩
          have hfi : ces.findIdx? (fun e => (e.born : Int) == n) = some i := by
            have := List.findIdx?_toArray (fun e : MapEntry => (e.born : Int) == n) ces.toList
            rw [Array.toArray_toList] at this; rw [this]; exact a1
          simp only [execOp, ho, hm', hs', Instr.entryStore, Sem.run_bind, Result.andThen_ok, run_getMap hb, asInt, asIntOf, Sem.run_pure, hfi, run_setMap hb]
        · cases hw
      · cases hw
    · cases hw
  · cases hc
end
end Go.V
