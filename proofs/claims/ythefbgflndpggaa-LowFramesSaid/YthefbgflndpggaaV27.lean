/- Deferred closures that recover. -/
import Derived.Test.YthefbgflndpggaaV24
import Derived.Recover
set_option linter.unusedSimpArgs false
set_option linter.unusedVariables false
namespace Go.V
noncomputable section
open Go.RowKit

section
variable {P : Program} {w0 : World}

/-- Where a piece of code stands: ahead of it (left), or behind it (right); from the outside in. -/
inductive Ctx where
  | ahead (p : Code)
  | behind (q : Code)

def fill : List Ctx → Code → Code
  | [], x => x
  | .ahead p :: r, x => .seq p (fill r x)
  | .behind q :: r, x => .seq (fill r x) q

def pres : List Ctx → List Code
  | [] => []
  | .ahead p :: r => p :: pres r
  | .behind _ :: r => pres r

def posts : List Ctx → List Code
  | [] => []
  | .ahead _ :: r => posts r
  | .behind q :: r => posts r ++ [q]

def runPre (call : VCaller) (n : Nat) : List VCode → VSt → Option VSt
  | [], st => some st
  | p :: ps, st => match runCode call n p st with
    | some (.normal, st') => runPre call n ps st'
    | _ => none

/-- Pieces, one behind another. -/
def runSeq (call : VCaller) (n : Nat) : List VCode → VSt → Option (VExit × VSt)
  | [], st => some (.normal, st)
  | p :: ps, st => match runCode call n p st with
    | some (.normal, st') => runSeq call n ps st'
    | r => r

theorem runPre_size {call : VCaller} (hm : CallerMono call) {n : Nat} : ∀ {ps : List VCode} {st st' : VSt}, runPre call n ps st = some st' → st.h.size ≤ st'.h.size := by
  intro ps
  induction ps with
  | nil => intro st st' h; simp [runPre] at h; rw [h]; exact Nat.le_refl _
  | cons p ps ih =>
    intro st st' h
    simp only [runPre] at h
    split at h
    · rename_i st1 h1; exact Nat.le_trans (runCode_size hm n _ _ _ _ h1) (ih h)
    · cases h

theorem runSeq_size {call : VCaller} (hm : CallerMono call) {n : Nat} : ∀ {ps : List VCode} {st st' : VSt} {e : VExit}, runSeq call n ps st = some (e, st') → st.h.size ≤ st'.h.size := by
  intro ps
  induction ps with
  | nil => intro st st' e h; simp [runSeq] at h; rw [h.2]; exact Nat.le_refl _
  | cons p ps ih =>
    intro st st' e h
    simp only [runSeq] at h
    split at h
    · rename_i st1 h1; exact Nat.le_trans (runCode_size hm n _ _ _ _ h1) (ih h)
    · exact runCode_size hm n _ _ _ _ h

def tailS (P : Program) : List Code → (Exit → Act → List Frame → World → Prop) → Exit → Act → List Frame → World → Prop
  | [], Q => Q
  | q :: l, Q => Exit.thenS (q.wpS P (tailS P l Q)) (tailS P l Q)

theorem tailS_append {P : Program} : ∀ (l : List Code) (q : Code) (Q : Exit → Act → List Frame → World → Prop), tailS P (l ++ [q]) Q = tailS P l (Exit.thenS (q.wpS P Q) Q) := by
  intro l
  induction l with
  | nil => intro q Q; rfl
  | cons x l ih => intro q Q; simp only [List.cons_append, tailS, ih]

theorem tailS_other {P : Program} {e : Exit} (he : e ≠ .normal) : ∀ (l : List Code) {Q : Exit → Act → List Frame → World → Prop} {a : Act} {cs : List Frame} {w : World}, Q e a cs w → tailS P l Q e a cs w := by
  intro l
  induction l with
  | nil => intro Q a cs w h; exact h
  | cons x l ih =>
    intro Q a cs w h
    have := ih h
    simp only [tailS]
    cases e <;> first | exact absurd rfl he | exact this

theorem nestS_sound (hmix : P.follows .mixedOrders = true) {call : VCaller} (hcall : CallerOk P w0 call) (hm : CallerMono call) {n : Nat} {x : Code} {cs : List Frame} :
    ∀ (ps : List Ctx) (Q : Exit → Act → List Frame → World → Prop) (ts : List VVal) (h : VHeap) (st' : VSt), runPre call n ((pres ps).map (codeV P)) ⟨ts, h⟩ = some st' → ∀ (φ : VMap) (a : Act) (w : World), RelH w0 φ h w → RelVs w0 φ ts a.tmps.toList → (∀ b k, h.size ≤ b → b < st'.h.size → φ b k = none) →
      (∀ a' w' φ', RelH w0 φ' st'.h w' → Ext φ h w φ' st'.h w' → RelVs w0 φ' st'.ts a'.tmps.toList → a'.defers = a.defers → x.wpS P (tailS P (posts ps) Q) a' cs w') → (fill ps x).wpS P Q a cs w := by
  intro ps
  induction ps with
  | nil =>
    intro Q ts h st' hr φ a w H ht hfree hQ
    simp [pres, runPre] at hr; subst hr
    exact hQ a w φ H (Ext.refl _ _ _) ht rfl
  | cons p ps ih =>
    intro Q ts h st' hr φ a w H ht hfree hQ
    cases p with
    | ahead p =>
      simp only [pres, List.map_cons, runPre] at hr
      split at hr
      · rename_i st1 h1
        have hsz := runPre_size hm hr
        apply wpS_seq
        apply wpS_of_wp
        refine code_sound hmix hcall hm n p ts h .normal st1 h1 φ a w H ht (fun b k x y => hfree b k x (by omega)) _ ?_
        intro a1 w1 φ1 ex1 H1 hx1 ht1 hd1 he1
        cases he1
        refine ih Q st1.ts st1.h st' hr φ1 a1 w1 H1 ht1 (hx1.free hfree) ?_
        intro a2 w2 φ2 H2 hx2 ht2 hd2
        exact hQ a2 w2 φ2 H2 (hx1.trans hx2) ht2 (hd2.trans hd1)
      · cases hr
    | behind q =>
      apply wpS_seq
      refine ih _ ts h st' hr φ a w H ht hfree ?_
      intro a2 w2 φ2 H2 hx2 ht2 hd2
      have := hQ a2 w2 φ2 H2 hx2 ht2 hd2
      simp only [posts] at this
      rw [tailS_append] at this
      exact this

theorem exit_ne_normal {φ : VMap} {e : VExit} {ex : Exit} (h : ExitRel w0 φ e ex) (he : e ≠ .normal) : ex ≠ .normal := by
  cases h <;> simp_all

theorem seqS_sound (hmix : P.follows .mixedOrders = true) {call : VCaller} (hcall : CallerOk P w0 call) (hm : CallerMono call) {n : Nat} {cs : List Frame} {Q : Exit → Act → List Frame → World → Prop} :
    ∀ (l : List Code) (c : Code) (ts : List VVal) (h : VHeap) (e : VExit) (st' : VSt), runSeq call n ((c :: l).map (codeV P)) ⟨ts, h⟩ = some (e, st') → ∀ (φ : VMap) (a : Act) (w : World), RelH w0 φ h w → RelVs w0 φ ts a.tmps.toList → (∀ b k, h.size ≤ b → b < st'.h.size → φ b k = none) →
      (∀ a' w' φ' ex, RelH w0 φ' st'.h w' → Ext φ h w φ' st'.h w' → RelVs w0 φ' st'.ts a'.tmps.toList → a'.defers = a.defers → ExitRel w0 φ' e ex → Q ex a' cs w') → c.wpS P (tailS P l Q) a cs w := by
  intro l
  induction l with
  | nil =>
    intro c ts h e st' hr φ a w H ht hfree hQ
    have hr' : runCode call n (codeV P c) ⟨ts, h⟩ = some (e, st') := by
      simp only [List.map_cons, List.map_nil, runSeq] at hr
      split at hr
      · rename_i st1 h1; injection hr with hr; injection hr with e1 e2; subst e1 e2; exact h1
      · exact hr
    apply wpS_of_wp
    exact code_sound hmix hcall hm n c ts h e st' hr' φ a w H ht hfree _ hQ
  | cons q l ih =>
    intro c ts h e st' hr φ a w H ht hfree hQ
    rw [List.map_cons, runSeq] at hr
    split at hr
    · rename_i st1 h1
      have hsz := runSeq_size hm hr
      apply wpS_of_wp
      refine code_sound hmix hcall hm n c ts h .normal st1 h1 φ a w H ht (fun b k x y => hfree b k x (by omega)) _ ?_
      intro a1 w1 φ1 ex1 H1 hx1 ht1 hd1 he1
      cases he1
      refine ih q st1.ts st1.h e st' hr φ1 a1 w1 H1 ht1 (hx1.free hfree) ?_
      intro a2 w2 φ2 ex H2 hx2 ht2 hd2 he2
      exact hQ a2 w2 φ2 ex H2 (hx1.trans hx2) ht2 (hd2.trans hd1) he2
    · rename_i hne
      apply wpS_of_wp
      refine code_sound hmix hcall hm n c ts h e st' hr φ a w H ht hfree _ ?_
      intro a1 w1 φ1 ex1 H1 hx1 ht1 hd1 he1
      have hn : e ≠ .normal := by rintro rfl; exact hne _ hr
      exact tailS_other (exit_ne_normal he1 hn) (q :: l) (hQ a1 w1 φ1 ex1 H1 hx1 ht1 hd1 he1)

/-- A closure that recovers behind its first pieces, and that has no results. -/
structure Recovers (P : Program) (g : FuncId) (fg : Func) (ps : List Ctx) (o : Oper) (r : Nat) (c2 : Code) : Prop where
  func : P.funcs[g]? = some fg
  body : ∃ id, fg.body = some (fill ps (.seq (.region id #[o] false) c2))
  op : ∃ ts, o.op = .call { callee := .builtin .recover, args := #[], argTypes := ts }
  dst : o.dst = some r
  guard : o.guard = none
  results : fg.results = #[]

/-- What 'recover' gives, and the mode of the frame below. -/
inductive ModeRel (w0 : World) (φ : VMap) : VVal → FrameMode → Prop
  | returning : ModeRel w0 φ .niliface .returning
  | panicking {v : VVal} {x : Value} : RelV w0 φ v x → ModeRel w0 φ v (.panicking [{ v := x, recovered := false }])

theorem closure_sound (hmix : P.follows .mixedOrders = true) {call : VCaller} (hcall : CallerOk P w0 call) (hm : CallerMono call) {n : Nat} {g : FuncId} {fg : Func} {ps : List Ctx} {o : Oper} {r : Nat} {c2 : Code} (G : Recovers P g fg ps o r c2)
    {dargs : List VVal} {dargs' : List Value} {h : VHeap} {v : VVal} {e : VExit} {st0 st : VSt} (hpre : runPre call n ((pres ps).map (codeV P)) ⟨dargs ++ List.replicate (fg.ntmps - dargs.length) .undef, h⟩ = some st0) (hrun : runSeq call n ((c2 :: posts ps).map (codeV P)) ⟨putDst st0.ts (some r) v, st0.h⟩ = some (e, st)) (he : e = .normal ∨ e = .ret)
    {φ : VMap} {w : World} (H : RelH w0 φ h w) (ha : RelVs w0 φ dargs dargs') {u : FrameMode} (hu : ModeRel w0 φ v u) (hfree : ∀ b k, h.size ≤ b → b < st.h.size → φ b k = none) :
    CallsD P g ⟨dargs'⟩ u w fun e u' w' => (∃ x, e = .returned x) ∧ settle u' = .returning ∧ ∃ φ', RelH w0 φ' st.h w' ∧ Ext φ h w φ' st.h w' := by
  obtain ⟨id, hbody⟩ := G.body
  obtain ⟨tys, hop⟩ := G.op
  have sz0 := runPre_size hm hpre
  have sz1 := runSeq_size hm hrun
  simp only at sz0 sz1
  refine callsD_of_wpS G.func hbody ?_
  intro c₀ cs hc
  have hlen := ha.length
  have ht0 : RelVs w0 φ (dargs ++ List.replicate (fg.ntmps - dargs.length) .undef) ((⟨dargs'⟩ : Array Value) ++ Array.replicate (fg.ntmps - (⟨dargs'⟩ : Array Value).size) Go.undef).toList := by
    rw [Array.toList_append, Array.toList_replicate]
    have : (⟨dargs'⟩ : Array Value).size = dargs.length := by rw [hlen]; rfl
    rw [this]
    exact ha.append (.undef_replicate _)
  have hexec : ∀ (ρ : Operand → Value) (w : World), (execOp ρ o).run P w = .ok .recover w := by
    intro ρ w; simp only [execOp, hop, resolve]; rfl
  have hrange : List.range (#[o] : Array Oper).size = [0] := rfl
  have hres : ∀ tmps : Array Value, ∀ w, ∃ x, (results fg tmps).run P w = .ok x w := by
    intro tmps w
    refine ⟨.tuple #[], ?_⟩
    rw [results_eq, G.results, Sem.run_bind, Array.mapM_eq_mapM_toList, Sem.run_map]
    rfl
  refine nestS_sound hmix hcall hm ps _ _ h st0 hpre φ { tmps := _, defers := [] } w H ht0 (fun b k x y => hfree b k x (by omega)) ?_
  intro a0 w1 φ1 H1 hx1 ht1 hd1
  have hd1 : a0.defers = [] := hd1
  apply wpS_seq
  apply wpS_region
  rw [hrange]
  -- behind the recover
  have rest : ∀ (rv : Value) (u' : FrameMode), RelV w0 φ1 v rv → settle u' = .returning →
      c2.wpS P (tailS P (posts ps) (bodyPostS P fg c₀ cs fun e u' w' => (∃ x, e = .returned x) ∧ settle u' = .returning ∧ ∃ φ', RelH w0 φ' st.h w' ∧ Ext φ h w φ' st.h w')) (a0.put o.dst rv) ({ c₀ with mode := u' } :: cs) w1 := by
    intro rv u' hrv hset
    have ht2 := relPut (a := a0) ht1 (some r) hrv
    rw [← G.dst] at ht2
    refine seqS_sound hmix hcall hm (posts ps) c2 _ st0.h e st (by rw [G.dst]; exact hrun) φ1 _ w1 H1 ht2 (fun b k x y => hx1.free hfree b k x (by omega)) ?_
    intro a1 w2 φ2 ex H2 hx2 _ hd2 hex
    have hd2 : a1.defers = [] := by rw [hd2, defers_put, hd1]
    obtain ⟨x, hx⟩ := hres a1.tmps w2
    rcases he with rfl | rfl <;> cases hex
    · exact ⟨hd2, u', rfl, x, hx, ⟨x, rfl⟩, hset, φ2, H2, hx1.trans hx2⟩
    · exact ⟨hd2, u', rfl, x, hx, ⟨x, rfl⟩, hset, φ2, H2, hx1.trans hx2⟩
  have hw : Region.wanted o (yielded #[o] a0.tmps) = true := by simp [Region.wanted, G.guard]
  simp only [wpOpsS, List.getElem?_toArray, List.getElem?_cons_zero, hexec]
  rw [if_pos hw]
  cases hu with
  | returning =>
    have : recoverD (c₀ :: cs) = none := by simp [recoverD, hc]
    simp only [this]
    have := rest .nilIface .returning .niliface rfl
    have hf : ({ c₀ with mode := .returning } : Frame) = c₀ := by cases c₀; simp only at hc; subst hc; rfl
    rw [hf] at this
    exact this
  | panicking hv =>
    rename_i x
    have : recoverD (c₀ :: cs) = some (x, { c₀ with mode := .panicking ({ v := x, recovered := true } :: []) } :: cs) := by simp [recoverD, hc]
    simp only [this]
    exact rest x _ (hv.mono hx1.le) rfl
end
end
end Go.V
