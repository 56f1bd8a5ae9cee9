/- Code and calls. -/
import Derived.Test.YthefbgflndpggaaV22
set_option linter.unusedSimpArgs false
set_option linter.unusedVariables false
namespace Go.V
open Go.RowKit

theorem drawOps_size {call : VCaller} (hm : CallerMono call) {l : List VOper} {st st' : VSt} (hr : drawOps call l st = some st') : st.h.size ≤ st'.h.size := by
  unfold drawOps at hr
  split at hr
  · rename_i recs st2 hr2
    split at hr
    · injection hr with hr; subst hr; exact recOps_size hm hr2
    · cases hr
  · cases hr

theorem loopN_size {step : VSt → Option (VExit × VSt)} (hs : ∀ st e st', step st = some (e, st') → st.h.size ≤ st'.h.size) : ∀ n st e st', loopN step n st = some (e, st') → st.h.size ≤ st'.h.size := by
  intro n
  induction n with
  | zero => intro st e st' h; simp [loopN] at h
  | succ n ih =>
    intro st e st' h
    simp only [loopN] at h
    split at h
    · rename_i st1 h1
      exact Nat.le_trans (hs _ _ _ h1) (ih _ _ _ h)
    · exact hs _ _ _ h

theorem runCode_size {call : VCaller} (hm : CallerMono call) (n : Nat) : ∀ (c : VCode) st e st', runCode call n c st = some (e, st') → st.h.size ≤ st'.h.size := by
  intro c
  induction c with
  | skip => intro st e st' h; simp [runCode] at h; rw [← h.2]; exact Nat.le_refl _
  | region d ops =>
    intro st e st' h
    cases d
    · simp only [runCode] at h
      exact runOps_size hm h
    · simp only [runCode] at h
      split at h
      · rename_i st1 h1; injection h with h; injection h with e1 e2; subst e2; exact drawOps_size hm h1
      · cases h
  | seq a b iha ihb =>
    intro st e st' h
    simp only [runCode] at h
    split at h
    · rename_i st1 h1; exact Nat.le_trans (iha _ _ _ h1) (ihb _ _ _ h)
    · exact iha _ _ _ h
  | cond c a b iha ihb =>
    intro st e st' h
    simp only [runCode] at h
    split at h
    · exact iha _ _ _ h
    · exact ihb _ _ _ h
    · cases h
  | block id body ih =>
    intro st e st' h
    simp only [runCode] at h
    split at h
    · rename_i k st1 h1
      split at h <;> (injection h with h; injection h with e1 e2; subst e2; exact ih _ _ _ h1)
    · exact ih _ _ _ h
  | loop body ih => intro st e st' h; simp only [runCode] at h; exact loopN_size ih n st e st' h
  | exit id => intro st e st' h; simp [runCode] at h; rw [← h.2]; exact Nat.le_refl _
  | ret => intro st e st' h; simp [runCode] at h; rw [← h.2]; exact Nat.le_refl _
  | fail => intro st e st' h; simp [runCode] at h

section
variable {P : Program} {w0 : World}

/-- From a round's head on. -/
def LoopFrom (P : Program) (c : Code) (Q : Exit → Act → World → Prop) (a : Act) (w : World) : Prop :=
  ∀ (b : Frame) (k : List Item) (cs : List Frame), ∃ e a' w', Q e a' w' ∧ Arrives P (lone (b.at a (.code c :: .inLoop c :: k)) cs w) b k cs e a' w'

theorem loopFrom_step {c : Code} {Q : Exit → Act → World → Prop} {a : Act} {w : World} (h : c.wp P (Exit.then (fun a' w' => LoopFrom P c Q a' w') Q) a w) : LoopFrom P c Q a w := by
  intro b k cs
  obtain ⟨e, a1, w1, hq, harr⟩ := h b (.inLoop c :: k) cs
  cases e with
  | normal =>
    obtain ⟨e2, a2, w2, hq2, harr2⟩ := hq b k cs
    exact ⟨e2, a2, w2, hq2, .of_steps (Steps.trans harr (.one step_inLoop)) harr2⟩
  | exit id => exact ⟨_, a1, w1, hq, .pass (x := .inLoop c) rfl (fun _ _ => .inl (by simp)) harr⟩
  | goto l => exact ⟨_, a1, w1, hq, .pass (x := .inLoop c) rfl (fun _ _ => .inl (by simp)) harr⟩
  | ret => exact ⟨_, a1, w1, hq, .pass (x := .inLoop c) rfl (fun _ _ => .inl (by simp)) harr⟩
  | panic ch => exact ⟨_, a1, w1, hq, .pass (x := .inLoop c) rfl (fun _ _ => .inl (by simp)) harr⟩
  | outgrown => exact ⟨_, a1, w1, hq, .pass (x := .inLoop c) rfl (fun _ _ => .inl (by simp)) harr⟩

theorem wp_loopFrom {c : Code} {Q : Exit → Act → World → Prop} {a : Act} {w : World} (h : LoopFrom P c Q a w) : (Code.loop c).wp P Q a w :=
  fun b k cs => let ⟨e, a', w', q, r⟩ := h b k cs; ⟨e, a', w', q, .of_steps (.one step_loop) r⟩

/-- What is shown of a piece of code. -/
def CodeOk (P : Program) (w0 : World) (run : VSt → Option (VExit × VSt)) (c : Code) : Prop :=
  ∀ (ts : List VVal) (h : VHeap) (e : VExit) (st' : VSt), run ⟨ts, h⟩ = some (e, st') → ∀ (φ : VMap) (a : Act) (w : World), RelH w0 φ h w → RelVs w0 φ ts a.tmps.toList → (∀ b k, h.size ≤ b → b < st'.h.size → φ b k = none) →
    ∀ (Q : Exit → Act → World → Prop), (∀ a' w' φ' ex, RelH w0 φ' st'.h w' → Ext φ h w φ' st'.h w' → RelVs w0 φ' st'.ts a'.tmps.toList → a'.defers = a.defers → ExitRel w0 φ' e ex → Q ex a' w') → c.wp P Q a w

theorem loop_ok {step : VSt → Option (VExit × VSt)} {c : Code} (hs : ∀ st e st', step st = some (e, st') → st.h.size ≤ st'.h.size) (hc : CodeOk P w0 step c) :
    ∀ (n : Nat) (ts : List VVal) (h : VHeap) (e : VExit) (st' : VSt), loopN step n ⟨ts, h⟩ = some (e, st') → ∀ (φ : VMap) (a : Act) (w : World), RelH w0 φ h w → RelVs w0 φ ts a.tmps.toList → (∀ b k, h.size ≤ b → b < st'.h.size → φ b k = none) →
    ∀ (Q : Exit → Act → World → Prop), (∀ a' w' φ' ex, RelH w0 φ' st'.h w' → Ext φ h w φ' st'.h w' → RelVs w0 φ' st'.ts a'.tmps.toList → a'.defers = a.defers → ExitRel w0 φ' e ex → Q ex a' w') → LoopFrom P c Q a w := by
  intro n
  induction n with
  | zero => intro ts h e st' hr; simp [loopN] at hr
  | succ n ih =>
    intro ts h e st' hr φ a w H ht hfree Q hQ
    apply loopFrom_step
    simp only [loopN] at hr
    split at hr
    · rename_i st1 h1
      have hsz := loopN_size hs _ _ _ _ hr
      refine hc ts h .normal st1 h1 φ a w H ht (fun b k x y => hfree b k x (by omega)) _ ?_
      intro a1 w1 φ1 ex1 H1 hx1 ht1 hd1 he1
      cases he1
      refine ih st1.ts st1.h e st' hr φ1 a1 w1 H1 ht1 (hx1.free hfree) Q ?_
      intro a2 w2 φ2 ex2 H2 hx2 ht2 hd2 he2
      exact hQ a2 w2 φ2 ex2 H2 (hx1.trans hx2) ht2 (hd2.trans hd1) he2
    · rename_i hne
      refine hc ts h e st' hr φ a w H ht hfree _ ?_
      intro a1 w1 φ1 ex1 H1 hx1 ht1 hd1 he1
      have := hQ a1 w1 φ1 ex1 H1 hx1 ht1 hd1 he1
      cases he1 with
      | normal => exact (hne st' hr).elim
      | exit k => exact this
      | ret => exact this
      | panic hv => exact this

theorem code_sound (hmix : P.follows .mixedOrders = true) {call : VCaller} (hcall : CallerOk P w0 call) (hm : CallerMono call) (n : Nat) : ∀ c : Code, CodeOk P w0 (runCode call n (codeV P c)) c := by
  intro c
  induction c with
  | skip =>
    intro ts h e st' hr φ a w H ht hfree Q hQ
    simp [codeV, runCode] at hr; obtain ⟨rfl, rfl⟩ := hr
    exact wp_skip (hQ a w φ _ H (Ext.refl _ _ _) ht rfl .normal)
  | label l =>
    intro ts h e st' hr φ a w H ht hfree Q hQ
    simp [codeV, runCode] at hr; obtain ⟨rfl, rfl⟩ := hr
    exact wp_label (hQ a w φ _ H (Ext.refl _ _ _) ht rfl .normal)
  | exit id =>
    intro ts h e st' hr φ a w H ht hfree Q hQ
    simp [codeV, runCode] at hr; obtain ⟨rfl, rfl⟩ := hr
    exact wp_exit (hQ a w φ _ H (Ext.refl _ _ _) ht rfl (.exit _))
  | ret =>
    intro ts h e st' hr φ a w H ht hfree Q hQ
    simp [codeV, runCode] at hr; obtain ⟨rfl, rfl⟩ := hr
    exact wp_ret (hQ a w φ _ H (Ext.refl _ _ _) ht rfl .ret)
  | goto l => intro ts h e st' hr; simp [codeV, runCode] at hr
  | refuse l => intro ts h e st' hr; simp [codeV, runCode] at hr
  | rangeFunc f p x y _ _ => intro ts h e st' hr; simp [codeV, runCode] at hr
  | seq x y ihx ihy =>
    intro ts h e st' hr φ a w H ht hfree Q hQ
    simp only [codeV, runCode] at hr
    apply wp_seq
    split at hr
    · rename_i st1 h1
      have hsz := runCode_size hm n _ _ _ _ hr
      refine ihx ts h .normal st1 h1 φ a w H ht (fun b k x y => hfree b k x (by omega)) _ ?_
      intro a1 w1 φ1 ex1 H1 hx1 ht1 hd1 he1
      cases he1
      refine ihy st1.ts st1.h e st' hr φ1 a1 w1 H1 ht1 (hx1.free hfree) Q ?_
      intro a2 w2 φ2 ex2 H2 hx2 ht2 hd2 he2
      exact hQ a2 w2 φ2 ex2 H2 (hx1.trans hx2) ht2 (hd2.trans hd1) he2
    · rename_i hne
      refine ihx ts h e st' hr φ a w H ht hfree _ ?_
      intro a1 w1 φ1 ex1 H1 hx1 ht1 hd1 he1
      have := hQ a1 w1 φ1 ex1 H1 hx1 ht1 hd1 he1
      cases he1 with
      | normal => exact (hne st' hr).elim
      | exit k => exact this
      | ret => exact this
      | panic hv => exact this
  | cond c x y ihx ihy =>
    intro ts h e st' hr φ a w H ht hfree Q hQ
    simp only [codeV] at hr
    split at hr
    · rename_i c' hc
      simp only [runCode] at hr
      have hrel := relEnv_of ht c c' hc
      split at hr
      · rename_i hb
        rw [hb] at hrel
        have hce : a.eval c = .bool true := by cases hv : a.eval c <;> rw [hv] at hrel <;> cases hrel; rfl
        exact wp_cond_true hce (ihx ts h e st' hr φ a w H ht hfree Q hQ)
      · rename_i hb
        rw [hb] at hrel
        have hce : a.eval c = .bool false := by cases hv : a.eval c <;> rw [hv] at hrel <;> cases hrel; rfl
        exact wp_cond_false hce (ihy ts h e st' hr φ a w H ht hfree Q hQ)
      · cases hr
    · simp [runCode] at hr
  | block id body ih =>
    intro ts h e st' hr φ a w H ht hfree Q hQ
    simp only [codeV, runCode] at hr
    apply wp_block
    split at hr
    · rename_i k st1 h1
      split at hr
      · rename_i hk
        have hk : k = id := by simpa using hk
        subst hk
        injection hr with hr; injection hr with e1 e2; subst e1 e2
        refine ih ts h _ _ h1 φ a w H ht hfree _ ?_
        intro a1 w1 φ1 ex1 H1 hx1 ht1 hd1 he1
        cases he1
        show (if k = k then Q .normal a1 w1 else Q (.exit k) a1 w1)
        rw [if_pos rfl]
        exact hQ a1 w1 φ1 _ H1 hx1 ht1 hd1 .normal
      · rename_i hk
        have hk : k ≠ id := by simpa using hk
        injection hr with hr; injection hr with e1 e2; subst e1 e2
        refine ih ts h _ _ h1 φ a w H ht hfree _ ?_
        intro a1 w1 φ1 ex1 H1 hx1 ht1 hd1 he1
        cases he1
        show (if k = id then Q .normal a1 w1 else Q (.exit k) a1 w1)
        rw [if_neg hk]
        exact hQ a1 w1 φ1 _ H1 hx1 ht1 hd1 (.exit _)
    · rename_i hne
      refine ih ts h e st' hr φ a w H ht hfree _ ?_
      intro a1 w1 φ1 ex1 H1 hx1 ht1 hd1 he1
      have := hQ a1 w1 φ1 ex1 H1 hx1 ht1 hd1 he1
      cases he1 with
      | normal => exact this
      | exit k => exact (hne k st' hr).elim
      | ret => exact this
      | panic hv => exact this
  | loop body ih =>
    intro ts h e st' hr φ a w H ht hfree Q hQ
    simp only [codeV, runCode] at hr
    exact wp_loopFrom (loop_ok (runCode_size hm n _) ih n ts h e st' hr φ a w H ht hfree Q hQ)
  | scope body ih =>
    intro ts h e st' hr φ a w H ht hfree Q hQ
    simp only [codeV] at hr
    apply wp_scope_straight
    refine ih ts h e st' hr φ a w H ht hfree _ ?_
    intro a1 w1 φ1 ex1 H1 hx1 ht1 hd1 he1
    have := hQ a1 w1 φ1 ex1 H1 hx1 ht1 hd1 he1
    cases he1 <;> exact this
  | region id ops draw =>
    intro ts h e st' hr φ a w H ht hfree Q hQ
    simp only [codeV, regionV] at hr
    split at hr
    · rename_i hok
      simp only [Bool.and_eq_true] at hok
      obtain ⟨hg, hok⟩ := hok
      cases draw with
      | false =>
        simp only [runCode] at hr
        apply wp_region
        have hos : ∀ p ∈ ops.toList.zipIdx, ops[p.2]? = some p.1 := by
          intro p hp
          have := List.mem_zipIdx_iff_getElem?.1 hp
          rw [← Array.getElem?_toList]; exact this
        have := seq_sound hcall hm hg (presOf ops.toList []) (Q := Q) ops.toList.zipIdx hos ts h e st' hr φ a w H ht hfree hQ
        have hmap : ops.toList.zipIdx.map (·.2) = List.range ops.size := by
          rw [List.zipIdx_map_snd]; simp [List.range_eq_range']
        rw [hmap] at this
        exact this
      | true =>
        simp only [Bool.not_true, Bool.false_or, Bool.and_eq_true] at hok
        simp only [runCode] at hr
        split at hr
        · rename_i st1 h1
          injection hr with hr; injection hr with e1 e2; subst e1 e2
          apply wp_region_any hmix
          have Hd : RelH w0 φ h { w with drawn := w.drawn + 1 } := ⟨⟨H.below.os, H.below.tape, H.below.output, H.below.size, H.below.block⟩, H.lt, fun b v l o x y => (H.obj b v l o x y).at rfl, H.sep⟩
          refine draw_sound hcall hm rfl hg hok.1 hok.2 h1 Hd ht hfree ?_
          intro a' w' φ' x1 x2 x3 x4
          exact hQ a' w' φ' _ x1 ⟨x2.le, x2.new, x2.pre, x2.hsize, x2.wsize, x2.vframe, x2.cframe, x2.os, x2.tape, x2.output⟩ x3 x4 .normal
        · cases hr
    · simp [runCode] at hr

def resOne (tmps : Array Value) (r : ResultVar) : Sem Value :=
  match r with
  | .tmp t => pure (tmps.getD t Go.undef)
  | .cell a t => do loadVar t (← asAddr (tmps.getD a Go.undef))

theorem results_eq (fn : Func) (tmps : Array Value) : results fn tmps = (do let vs ← fn.results.mapM (resOne tmps); pure (if h : vs.size = 1 then vs[0] else .tuple vs)) := by
  unfold results
  congr 1

theorem results_rel {φ : VMap} {h : VHeap} {w : World} (H : RelH w0 φ h w) {ts : List VVal} {tmps : Array Value} (ht : RelVs w0 φ ts tmps.toList) : ∀ {rs : List ResultVar} {vrs : List VResult} {vs : List VVal}, resultsOf P rs = some vrs → resultsV ts h vrs = some vs →
    ∃ ys, (rs.mapM (resOne tmps)).run P w = .ok ys w ∧ RelVs w0 φ vs ys := by
  intro rs
  induction rs with
  | nil => intro vrs vs h1 h2; simp [resultsOf] at h1; subst h1; simp [resultsV] at h2; subst h2; exact ⟨[], rfl, .nil⟩
  | cons r rs ih =>
    intro vrs vs h1 h2
    cases r with
    | tmp t =>
      simp only [resultsOf, Option.map_eq_some_iff] at h1
      obtain ⟨l, hl, rfl⟩ := h1
      simp only [resultsV, resultV] at h2
      split at h2
      · rename_i v vs' e1 e2
        injection e1 with e1; subst e1
        injection h2 with h2; subst h2
        obtain ⟨ys, y1, y2⟩ := ih hl e2
        exact ⟨tmps.getD t Go.undef :: ys, by simp only [List.mapM_cons, resOne, Sem.run_bind, Sem.run_pure, Result.andThen_ok, y1], .cons (relTmp ht t) y2⟩
      · cases h2
    | cell a t =>
      simp only [resultsOf] at h1
      split at h1
      · rename_i agg n l hs hl
        injection h1 with h1; subst h1
        simp only [resultsV, resultV] at h2
        split at h2
        · rename_i v vs' e1 e2
          injection h2 with h2; subst h2
          split at e1
          · rename_i cs hload
            obtain ⟨ys, y1, y2⟩ := ih hl e2
            obtain ⟨ad, v', z1, z2, z3⟩ := run_loadVar_rel (P := P) H hs (relTmp ht a) hload e1
            refine ⟨v' :: ys, ?_, .cons z3 y2⟩
            simp only [List.mapM_cons, resOne, Sem.run_bind, z1, asAddr, Sem.run_pure, Result.andThen_ok, z2, y1]
          · cases e1
        · cases h2
      · cases h1

theorem call_sound (hmix : P.follows .mixedOrders = true) (prog : VProg) (hprog : ∀ f fn, prog f = some fn → funcV P f = some fn) {X : VCaller → Nat → VCaller} (hX : ∀ call n, CallerOk P w0 call → CallerMono call → CallerOk P w0 (X call n) ∧ CallerMono (X call n)) : ∀ n, CallerOk P w0 (callN prog X n) ∧ CallerMono (callN prog X n) := by
  intro n
  induction n with
  | zero => exact ⟨fun f args h v h' hc => by simp [callN] at hc, fun f args h v h' hc => by simp [callN] at hc⟩
  | succ n ih =>
    obtain ⟨ihc, ihm⟩ := ih
    have key : ∀ {f args h v h'}, callN prog X (n + 1) f args h = some (v, h') → X (callN prog X n) n f args h = some (v, h') ∨ ∃ fn e st, prog f = some fn ∧ runCode (callN prog X n) n fn.body ⟨args ++ List.replicate (fn.ntmps - args.length) .undef, h⟩ = some (e, st) ∧ h' = st.h ∧
        ((∃ vs, (e = .normal ∨ e = .ret) ∧ resultsV st.ts st.h fn.results = some vs ∧ v = oneOrTuple vs) ∨ ∃ x, e = .panic x ∧ v = .panicked x) := by
      intro f args h v h' hc
      simp only [callN] at hc
      split at hc
      · exact .inl hc
      · rename_i fn hfn
        right
        split at hc
        · rename_i st hrun
          split at hc
          · rename_i vs hvs; injection hc with hc; injection hc with e1 e2; exact ⟨fn, _, st, hfn, hrun, e2.symm, .inl ⟨vs, .inl rfl, hvs, e1.symm⟩⟩
          · cases hc
        · rename_i st hrun
          split at hc
          · rename_i vs hvs; injection hc with hc; injection hc with e1 e2; exact ⟨fn, _, st, hfn, hrun, e2.symm, .inl ⟨vs, .inr rfl, hvs, e1.symm⟩⟩
          · cases hc
        · rename_i x st hrun
          injection hc with hc; injection hc with e1 e2
          exact ⟨fn, _, st, hfn, hrun, e2.symm, .inr ⟨x, rfl, e1.symm⟩⟩
        · cases hc
    constructor
    · intro f args h v h' hc
      rcases key hc with hc | ⟨fn, e, st, hfn, hrun, rfl, hend⟩
      · exact (hX _ n ihc ihm).1 _ _ _ _ _ hc
      have hfv := hprog f fn hfn
      unfold funcV at hfv
      split at hfv
      · cases hfv
      · rename_i pf hpf
        split at hfv
        · rename_i c rs hbody hres
          split at hfv
          · cases hfv
          · rename_i hname
            injection hfv with hfv; subst hfv
            refine ⟨⟨pf, hpf, by rw [hbody]; rfl, by simpa using hname⟩, ?_⟩
            intro φ w args' H hargs hfree
            refine calls_of_wp hpf hbody ?_
            have hlen := hargs.length
            have ht0 : RelVs w0 φ (args ++ List.replicate (pf.ntmps - args.length) .undef) ((⟨args'⟩ : Array Value) ++ Array.replicate (pf.ntmps - (⟨args'⟩ : Array Value).size) Go.undef).toList := by
              rw [Array.toList_append, Array.toList_replicate]
              have : (⟨args'⟩ : Array Value).size = args.length := by rw [hlen]; rfl
              rw [this]
              exact hargs.append (.undef_replicate _)
            refine code_sound hmix ihc ihm n c _ h e st hrun φ { tmps := (⟨args'⟩ : Array Value) ++ Array.replicate (pf.ntmps - (⟨args'⟩ : Array Value).size) Go.undef, defers := [] } w H ht0 hfree _ ?_
            intro a1 w1 φ1 ex1 H1 hx1 ht1 hd1 he1
            rcases hend with ⟨vs, he, hvs, rfl⟩ | ⟨x, rfl, rfl⟩
            rotate_left
            · cases he1 with
              | panic hv => exact ⟨hd1, φ1, H1, hx1, .panic hv⟩
            obtain ⟨ys, y1, y2⟩ := results_rel (P := P) H1 ht1 hres hvs
            have hR : ∃ v, (results pf a1.tmps).run P w1 = .ok v w1 ∧ RelV w0 φ1 (oneOrTuple vs) v := by
              have hmap : (pf.results.mapM (resOne a1.tmps)).run P w1 = .ok ⟨ys⟩ w1 := by
                rw [Array.mapM_eq_mapM_toList, Sem.run_map, y1]; rfl
              refine ⟨if hh : (⟨ys⟩ : Array Value).size = 1 then (⟨ys⟩ : Array Value)[0] else .tuple ⟨ys⟩, ?_, ?_⟩
              · rw [results_eq, Sem.run_bind, hmap]; rfl
              · cases y2 with
                | nil => exact .tuple .nil
                | cons z1 z2 =>
                  cases z2 with
                  | nil => exact z1
                  | cons z2 z3 => exact .tuple (.cons z1 (.cons z2 z3))
            obtain ⟨v, hv1, hv2⟩ := hR
            have hpost : (a1.defers = [] ∧ ∃ v, (results pf a1.tmps).run P w1 = .ok v w1 ∧ ∃ φ', RelH w0 φ' st.h w1 ∧ Ext φ h w φ' st.h w1 ∧ RetRel w0 φ' (oneOrTuple vs) (.returned v)) :=
              ⟨hd1, v, hv1, φ1, H1, hx1, .ok hv2⟩
            rcases he with rfl | rfl
            · cases he1; exact hpost
            · cases he1; exact hpost
        · cases hfv
    · intro f args h v h' hc
      rcases key hc with hc | ⟨fn, e, st, hfn, hrun, rfl, _⟩
      · exact (hX _ n ihc ihm).2 _ _ _ _ _ hc
      exact runCode_size ihm n _ _ _ _ hrun
end
end Go.V
