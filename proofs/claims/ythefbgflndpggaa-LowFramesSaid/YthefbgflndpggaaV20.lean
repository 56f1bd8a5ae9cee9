/- One operation: what the virtual machine does, the model does. -/
import Derived.Test.YthefbgflndpggaaV19
set_option linter.unusedSimpArgs false
set_option linter.unusedVariables false
namespace Go.V
open Go.RowKit

section
variable {P : Program} {w0 : World} {φ : VMap} {h : VHeap} {w : World} {ts : List VVal}

theorem tmpAt_get : ∀ (ts : List VVal) (t : Nat), tmpAt ts t = (ts[t]?).getD .undef := by
  intro ts
  induction ts with
  | nil => intro t; simp [tmpAt]
  | cons x ts ih => intro t; cases t with | zero => simp [tmpAt] | succ t => simp [tmpAt, ih]

theorem tmpPut_set : ∀ (ts : List VVal) (t : Nat) (v : VVal), tmpPut ts t v = ts.set t v := by
  intro ts
  induction ts with
  | nil => intro t v; simp [tmpPut]
  | cons x ts ih => intro t v; cases t with | zero => simp [tmpPut] | succ t => simp [tmpPut, ih]

theorem relTmp {tmps : Array Value} (ht : RelVs w0 φ ts tmps.toList) (t : Nat) : RelV w0 φ (tmpAt ts t) (tmps.getD t Go.undef) := by
  rw [tmpAt_get]
  cases hx : ts[t]? with
  | none =>
    have : tmps.size ≤ t := by have := List.getElem?_eq_none_iff.1 hx; have := ht.length; simp at this; omega
    rw [Array.getD_eq_getD_getElem?, Array.getElem?_eq_none this]
    exact .tuple .nil
  | some x =>
    obtain ⟨y, hy, hr⟩ := ht.get t hx
    rw [Array.getD_eq_getD_getElem?, ← Array.getElem?_toList, hy]
    exact hr

theorem relEnv_of {a : Act} (ht : RelVs w0 φ ts a.tmps.toList) : RelEnv w0 φ ts a.eval := by
  intro x y hxy
  cases x with
  | tmp t => simp [opdV] at hxy; subst hxy; exact relTmp ht t
  | const v =>
    simp only [opdV] at hxy
    split at hxy
    · rename_i z hz; injection hxy with hxy; subst hxy; exact valueV_rel hz
    · cases hxy
  | func f => simp [opdV] at hxy; subst hxy; exact .func f .nil .nil
  | global g => simp [opdV] at hxy

theorem RelVs.set {xs : List VVal} {ys : List Value} (hr : RelVs w0 φ xs ys) {x : VVal} {y : Value} (hv : RelV w0 φ x y) (t : Nat) : RelVs w0 φ (xs.set t x) (ys.set t y) := by
  induction xs generalizing ys t with
  | nil => cases hr; exact .nil
  | cons a xs ih => cases hr with | cons h1 h2 => cases t with | zero => exact .cons hv h2 | succ t => exact .cons h1 (ih h2 t)

theorem relPut {a : Act} (ht : RelVs w0 φ ts a.tmps.toList) (d : Option Nat) {x : VVal} {y : Value} (hv : RelV w0 φ x y) : RelVs w0 φ (putDst ts d x) (a.put d y).tmps.toList := by
  cases d with
  | none => exact ht
  | some t =>
    simp only [putDst, Act.put, tmpPut_set, Array.toList_setIfInBounds]
    exact ht.set hv t

/-- Whom the virtual machine can call, the model can enter. -/
def Enters (P : Program) (f : FuncId) : Prop := ∃ fn, P.funcs[f]? = some fn ∧ fn.body.isNone = false ∧ (fn.name == "runtime.NumGoroutine") = false

theorem callee_sound (hρ : ∀ {ρ : Operand → Value}, RelEnv w0 φ ts ρ → True) {ρ : Operand → Value} (hr : RelEnv w0 φ ts ρ) {o : Oper} {vo : VOp} (hc : opV? P o.op = some vo) {f : FuncId} {args : List VVal} (hca : vo.callee ts = some (f, args)) (he : Enters P f) :
    ∃ args', (execOp ρ o).run P w = .ok (.enter f ⟨args'⟩) w ∧ RelVs w0 φ args args' := by
  obtain ⟨fn, hf, hb, hn⟩ := he
  have hcf : ∀ as, (callFunc f as).run P w = .ok (.enter f as) w := by
    intro as
    simp only [callFunc, Sem.run_bind, run_program, Result.andThen_ok, hf, hn, Bool.false_eq_true, if_false, hb, Sem.run_pure]
  cases ho : o.op with
  | call c =>
    obtain ⟨callee, as, tys⟩ := c
    cases callee with
    | value fo =>
      rw [ho] at hc
      have fin : ∀ {l : List VOpd} {first captured : List VVal}, opdsV as.toList = some l → RelV w0 φ (.func f first captured) (ρ fo) → args = first ++ evs ts l ++ captured → ∃ args', (execOp ρ o).run P w = .ok (.enter f ⟨args'⟩) w ∧ RelVs w0 φ args args' := by
        intro l first captured hl hrf he
        have hall := hr.all hl
        cases hfo : ρ fo <;> rw [hfo] at hrf <;> cases hrf
        rename_i a' c' h1 h2
        refine ⟨a' ++ as.toList.map ρ ++ c', ?_, by rw [he]; exact (h1.append hall).append h2⟩
        simp only [execOp, ho, resolve, Sem.run_bind, hfo, Deferred.ofValue, Sem.run_pure, Result.andThen_ok, invoke]
        rw [hcf]
        congr 2
        apply Array.toList_inj.1
        simp
      simp only [opV?] at hc
      split at hc
      · rename_i g l _ hl
        injection hc with hc; subst hc
        simp only [VOp.callee, Option.some.injEq] at hca
        injection hca with e1 e2; subst e1 e2
        exact fin hl (hr (.func _) (.const (.func _ [] [])) rfl) (by simp)
      · rename_i l _ _ hl
        simp only [Option.map_eq_some_iff] at hc
        obtain ⟨g, hg, rfl⟩ := hc
        simp only [VOp.callee] at hca
        split at hca
        · rename_i ff first captured heq
          injection hca with hca
          injection hca with e1 e2; subst e1 e2
          have hrf := hr _ _ hg
          rw [heq] at hrf
          exact fin hl hrf rfl
        · cases hca
      · cases hc
    | builtin b => cases b <;> first
        | (rw [ho] at hc; simp only [opV?, reduceCtorEq] at hc; done)
        | (rw [ho] at hc; simp only [opV?] at hc; (repeat' split at hc) <;> first | (cases hc; done) | (injection hc with hc; subst hc; simp [VOp.callee] at hca; done) | (simp only [Option.map_eq_some_iff] at hc; obtain ⟨_, _, rfl⟩ := hc; simp [VOp.callee] at hca; done))
    | invoke r m => first
        | (rw [ho] at hc; simp only [opV?, reduceCtorEq] at hc; done)
        | (rw [ho] at hc; simp only [opV?] at hc; (repeat' split at hc) <;> first | (cases hc; done) | (injection hc with hc; subst hc; simp [VOp.callee] at hca; done) | (simp only [Option.map_eq_some_iff] at hc; obtain ⟨_, _, rfl⟩ := hc; simp [VOp.callee] at hca; done))
  | makeFunc f a c =>
    rw [ho] at hc
    cases f with
    | func f => simp only [opV?] at hc; split at hc <;> first | (cases hc; done) | (injection hc with hc; subst hc; simp [VOp.callee] at hca; done)
    | _ => simp [opV?] at hc
  | makeMap t r =>
    rw [ho] at hc
    simp only [opV?, mapV] at hc
    split at hc
    · injection hc with hc; subst hc; simp [VOp.callee] at hca
    · injection hc with hc; subst hc; simp [VOp.callee] at hca
    · cases hc
  | _ => first
        | (rw [ho] at hc; simp only [opV?, reduceCtorEq] at hc; done)
        | (rw [ho] at hc; simp only [opV?] at hc; (repeat' split at hc) <;> first | (cases hc; done) | (injection hc with hc; subst hc; simp [VOp.callee] at hca; done) | (simp only [Option.map_eq_some_iff] at hc; obtain ⟨_, _, rfl⟩ := hc; simp [VOp.callee] at hca; done))

/-- How a call ends. -/
inductive RetRel (w0 : World) (φ : VMap) : VVal → Ending → Prop
  | ok {v : VVal} {r : Value} : RelV w0 φ v r → RetRel w0 φ v (.returned r)
  | panic {x : VVal} {r : Value} : RelV w0 φ x r → RetRel w0 φ (.panicked x) (.panicked [{ v := r, recovered := false }])

theorem RelV.not_panicked {x : VVal} {r : Value} (h : RelV w0 φ (.panicked x) r) : False := by cases h

/-- What is asked of the virtual machine's calls. -/
def CallerOk (P : Program) (w0 : World) (call : VCaller) : Prop :=
  ∀ f args h v h', call f args h = some (v, h') → Enters P f ∧ ∀ φ w args', RelH w0 φ h w → RelVs w0 φ args args' → (∀ b k, h.size ≤ b → b < h'.size → φ b k = none) →
    Calls P f ⟨args'⟩ w fun e w' => ∃ φ', RelH w0 φ' h' w' ∧ Ext φ h w φ' h' w' ∧ RetRel w0 φ' v e

theorem opV_some {P : Program} {o : Op} {call : VCaller} {ts : List VVal} {h : VHeap} {r : VVal × VHeap} (hs : stepV call (opV P o) ts h = some r) : ∃ vo, opV? P o = some vo ∧ opV P o = vo := by
  unfold opV at hs ⊢
  cases ho : opV? P o with
  | none => rw [ho] at hs; simp [stepV, VOp.kind, VOp.read] at hs
  | some vo => exact ⟨vo, rfl, rfl⟩

theorem panic_op {o : Op} {x : VOpd} (hc : opV? P o = some (.panic x)) : ∃ xo, o = .panic xo ∧ opdV xo = some x := by
  cases o with
  | panic xo =>
    simp only [opV?, Option.map_eq_some_iff] at hc
    obtain ⟨y, h1, h2⟩ := hc
    injection h2 with h2; subst h2
    exact ⟨xo, rfl, h1⟩
  | _ => first
        | (simp only [opV?, reduceCtorEq] at hc; done)
        | (simp only [opV?] at hc; (try unfold mapV at hc); (repeat' split at hc) <;> first | (cases hc; done) | contradiction | (rw [Option.map_eq_some_iff] at hc; obtain ⟨_, _, h2⟩ := hc; cases h2; done) | (cases hc <;> contradiction))

theorem run_panic_iface {o : Oper} {xo : Operand} (ho : o.op = .panic xo) {ρ : Operand → Value} {t : TypeId} {y : VVal} (hr : RelV w0 φ (.iface t y) (ρ xo)) : (execOp ρ o).run P w = .halt (.panic (ρ xo)) w := by
  cases hx : ρ xo <;> rw [hx] at hr <;> cases hr
  simp only [execOp, ho, hx, Instr.panic]
  rfl

theorem step_sound {call : VCaller} (hcall : CallerOk P w0 call) (H : RelH w0 φ h w) {a : Act} (ht : RelVs w0 φ ts a.tmps.toList) {o : Oper} {v : VVal} {h' : VHeap} (hs : stepV call (opV P o.op) ts h = some (v, h'))
    (hfree : ∀ b k, h.size ≤ b → b < h'.size → φ b k = none) {K : Act → World → Prop} {Q : Exit → Act → World → Prop}
    (hK : ∀ r w' φ', RelH w0 φ' h' w' → Ext φ h w φ' h' w' → RelV w0 φ' v r → K (a.put o.dst r) w')
    (hP : ∀ x r w' φ', panOf (opV P o.op).kind v = some x → RelH w0 φ' h' w' → Ext φ h w φ' h' w' → RelV w0 φ' x r → Q (.panic [{ v := r, recovered := false }]) a w') : o.wp P a w K Q := by
  obtain ⟨vo, hc, hvo⟩ := opV_some hs
  rw [hvo] at hs hP
  have hρ := relEnv_of ht
  unfold Oper.wp
  unfold stepV at hs
  split at hs
  · -- a read
    split at hs
    · rename_i v1 hv
      injection hs with hs
      injection hs with e1 e2; subst e1 e2
      obtain ⟨v', h1, h2⟩ := read_sound H hρ hc hv
      rw [h1]
      exact hK v' w φ H (Ext.refl _ _ _) h2
    · cases hs
  · -- a new block
    split at hs
    · rename_i x mk hf
      injection hs with hs
      injection hs with e1 e2; subst e1 e2
      obtain ⟨v', w', N, h1, h2, h3, h4⟩ := fresh_sound (w := w) hρ hc hf
      rw [h1]
      obtain ⟨s1, s2⟩ := step_new H h2 h3 (fun k => hfree _ k (Nat.le_refl _) (by simp))
      exact hK v' w' _ s1 s2 (h4 _ _ (VMap.put_same _ _ _ _))
    · cases hs
  · -- a write
    obtain ⟨r, w', φ', h1, h2, h3, h4⟩ := write_sound H hρ hc hs hfree
    rcases h1 with h1 | ⟨h1, rfl⟩
    · rw [h1]; exact hK r w' φ' h2 h3 h4
    · rw [h1]; exact hK _ w' φ' h2 h3 h4
  · -- a call
    rename_i hkind
    split at hs
    · rename_i f args hca
      obtain ⟨hen, hcl⟩ := hcall _ _ _ _ _ hs
      obtain ⟨args', h1, h2⟩ := callee_sound (w := w) (fun _ => trivial) hρ hc hca hen
      rw [h1]
      refine Calls.mono (hcl φ w args' H h2 hfree) ?_
      rintro e w' ⟨φ', h3, h4, h5⟩
      cases h5 with
      | ok h5 => exact hK _ w' φ' h3 h4 h5
      | panic h5 => exact hP _ _ w' φ' (by rw [hkind]; rfl) h3 h4 h5
    · cases hs
  · -- a panic
    rename_i hkind
    split at hs
    · rename_i z hz
      injection hs with hs; injection hs with e1 e2; subst e1 e2
      unfold VOp.panicV at hz
      split at hz
      · rename_i x
        split at hz
        · rename_i t y hx
          injection hz with hz; subst hz
          obtain ⟨xo, ho, hxo⟩ := panic_op hc
          have hr := hρ _ _ hxo
          rw [hx] at hr
          have : (execOp a.eval o).run P w = .halt (.panic (a.eval xo)) w := run_panic_iface ho hr
          rw [this]
          exact hP _ _ w φ rfl H (Ext.refl _ _ _) hr
        · cases hz
      · cases hz
    · cases hs
end
end Go.V
