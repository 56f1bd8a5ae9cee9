/- Functions that defer one closure: the pieces. -/
import Derived.Test.YthefbgflndpggaaV27
set_option linter.unusedSimpArgs false
set_option linter.unusedVariables false
namespace Go.V
noncomputable section
open Go.RowKit

section
variable {P : Program} {w0 : World}

def tailW (P : Program) : List Code → (Exit → Act → World → Prop) → Exit → Act → World → Prop
  | [], Q => Q
  | q :: l, Q => Exit.then (q.wp P (tailW P l Q)) (tailW P l Q)

theorem tailW_append {P : Program} : ∀ (l : List Code) (q : Code) (Q : Exit → Act → World → Prop), tailW P (l ++ [q]) Q = tailW P l (Exit.then (q.wp P Q) Q) := by
  intro l
  induction l with
  | nil => intro q Q; rfl
  | cons x l ih => intro q Q; simp only [List.cons_append, tailW, ih]

theorem tailW_other {P : Program} {e : Exit} (he : e ≠ .normal) : ∀ (l : List Code) {Q : Exit → Act → World → Prop} {a : Act} {w : World}, Q e a w → tailW P l Q e a w := by
  intro l
  induction l with
  | nil => intro Q a w h; exact h
  | cons x l ih =>
    intro Q a w h
    have := ih h
    simp only [tailW]
    cases e <;> first | exact absurd rfl he | exact this

theorem nest_sound (hmix : P.follows .mixedOrders = true) {call : VCaller} (hcall : CallerOk P w0 call) (hm : CallerMono call) {n : Nat} {x : Code} :
    ∀ (ps : List Ctx) (Q : Exit → Act → World → Prop) (ts : List VVal) (h : VHeap) (st' : VSt), runPre call n ((pres ps).map (codeV P)) ⟨ts, h⟩ = some st' → ∀ (φ : VMap) (a : Act) (w : World), RelH w0 φ h w → RelVs w0 φ ts a.tmps.toList → (∀ b k, h.size ≤ b → b < st'.h.size → φ b k = none) →
      (∀ a' w' φ', RelH w0 φ' st'.h w' → Ext φ h w φ' st'.h w' → RelVs w0 φ' st'.ts a'.tmps.toList → a'.defers = a.defers → x.wp P (tailW P (posts ps) Q) a' w') → (fill ps x).wp P Q a w := by
  intro ps
  induction ps with
  | nil =>
    intro Q ts h st' hr φ a w H ht hfree hQ
    simp [pres, runPre] at hr; subst hr
    exact hQ a w φ H (Ext.refl _ _ _) ht rfl
  | cons p ps ih =>
    intro Q ts h st' hr φ a w H ht hfree hQ
    cases p with
    | ahead p =>
      simp only [pres, List.map_cons, runPre] at hr
      split at hr
      · rename_i st1 h1
        have hsz := runPre_size hm hr
        apply wp_seq
        refine code_sound hmix hcall hm n p ts h .normal st1 h1 φ a w H ht (fun b k x y => hfree b k x (by omega)) _ ?_
        intro a1 w1 φ1 ex1 H1 hx1 ht1 hd1 he1
        cases he1
        refine ih Q st1.ts st1.h st' hr φ1 a1 w1 H1 ht1 (hx1.free hfree) ?_
        intro a2 w2 φ2 H2 hx2 ht2 hd2
        exact hQ a2 w2 φ2 H2 (hx1.trans hx2) ht2 (hd2.trans hd1)
      · cases hr
    | behind q =>
      apply wp_seq
      refine ih _ ts h st' hr φ a w H ht hfree ?_
      intro a2 w2 φ2 H2 hx2 ht2 hd2
      have := hQ a2 w2 φ2 H2 hx2 ht2 hd2
      simp only [posts] at this
      rw [tailW_append] at this
      exact this

theorem seqW_sound (hmix : P.follows .mixedOrders = true) {call : VCaller} (hcall : CallerOk P w0 call) (hm : CallerMono call) {n : Nat} {Q : Exit → Act → World → Prop} :
    ∀ (l : List Code) (c : Code) (ts : List VVal) (h : VHeap) (e : VExit) (st' : VSt), runSeq call n ((c :: l).map (codeV P)) ⟨ts, h⟩ = some (e, st') → ∀ (φ : VMap) (a : Act) (w : World), RelH w0 φ h w → RelVs w0 φ ts a.tmps.toList → (∀ b k, h.size ≤ b → b < st'.h.size → φ b k = none) →
      (∀ a' w' φ' ex, RelH w0 φ' st'.h w' → Ext φ h w φ' st'.h w' → RelVs w0 φ' st'.ts a'.tmps.toList → a'.defers = a.defers → ExitRel w0 φ' e ex → Q ex a' w') → c.wp P (tailW P l Q) a w := by
  intro l
  induction l with
  | nil =>
    intro c ts h e st' hr φ a w H ht hfree hQ
    have hr' : runCode call n (codeV P c) ⟨ts, h⟩ = some (e, st') := by
      simp only [List.map_cons, List.map_nil, runSeq] at hr
      split at hr
      · rename_i st1 h1; injection hr with hr; injection hr with e1 e2; subst e1 e2; exact h1
      · exact hr
    exact code_sound hmix hcall hm n c ts h e st' hr' φ a w H ht hfree _ hQ
  | cons q l ih =>
    intro c ts h e st' hr φ a w H ht hfree hQ
    rw [List.map_cons, runSeq] at hr
    split at hr
    · rename_i st1 h1
      have hsz := runSeq_size hm hr
      refine code_sound hmix hcall hm n c ts h .normal st1 h1 φ a w H ht (fun b k x y => hfree b k x (by omega)) _ ?_
      intro a1 w1 φ1 ex1 H1 hx1 ht1 hd1 he1
      cases he1
      refine ih q st1.ts st1.h e st' hr φ1 a1 w1 H1 ht1 (hx1.free hfree) ?_
      intro a2 w2 φ2 ex H2 hx2 ht2 hd2 he2
      exact hQ a2 w2 φ2 ex H2 (hx1.trans hx2) ht2 (hd2.trans hd1) he2
    · rename_i hne
      refine code_sound hmix hcall hm n c ts h e st' hr φ a w H ht hfree _ ?_
      intro a1 w1 φ1 ex1 H1 hx1 ht1 hd1 he1
      have hn : e ≠ .normal := by rintro rfl; exact hne _ hr
      exact tailW_other (exit_ne_normal he1 hn) (q :: l) (hQ a1 w1 φ1 ex1 H1 hx1 ht1 hd1 he1)

theorem front_sound {call : VCaller} (hcall : CallerOk P w0 call) (hm : CallerMono call) {ops : Array Oper} (hg : guardsOk ops.toList = true) (pres : List (List Nat)) {Q : Exit → Act → World → Prop} (tail : List Nat) :
    ∀ (os : List (Oper × Nat)), (∀ p ∈ os, ops[p.2]? = some p.1) → ∀ (ts : List VVal) (h : VHeap) (st' : VSt), runOps call (os.map fun p => operV P false ops.toList pres p.1 p.2) ⟨ts, h⟩ = some (.normal, st') →
      ∀ (φ : VMap) (a : Act) (w : World), RelH w0 φ h w → RelVs w0 φ ts a.tmps.toList → (∀ b k, h.size ≤ b → b < st'.h.size → φ b k = none) →
      (∀ a' w' φ', RelH w0 φ' st'.h w' → Ext φ h w φ' st'.h w' → RelVs w0 φ' st'.ts a'.tmps.toList → a'.defers = a.defers → wpOps P ops Q tail a' w') → wpOps P ops Q (os.map (·.2) ++ tail) a w := by
  intro os
  induction os with
  | nil =>
    intro _ ts h st' hr φ a w H ht hfree hQ
    simp [runOps] at hr; subst hr
    exact hQ a w φ H (Ext.refl _ _ _) ht rfl
  | cons p os ih =>
    intro hos ts h st' hr φ a w H ht hfree hQ
    obtain ⟨o, j⟩ := p
    have hoj : ops[j]? = some o := hos (o, j) (by simp)
    have hgj := guardsOk_at hg hoj
    simp only [List.map_cons, runOps] at hr
    simp only [List.map_cons, List.cons_append, wpOps, hoj]
    split at hr
    · rename_i hwant
      have hwant : wantedV (guardV ops.toList o.guard) ts = true := hwant
      have hwr := guard_rel hgj ht (wantedV_known hwant)
      rw [hwant] at hwr
      rw [if_pos hwr]
      left
      split at hr
      · rename_i v h' hs
        split at hr
        · cases hr
        rename_i hnp
        have hnp : panOf (opV P o.op).kind v = none := hnp
        have hsz := runOps_size hm hr
        have hsz1 := stepV_size hm hs
        refine step_sound hcall H ht hs (fun b k h1 h2 => hfree b k h1 (by simp at hsz; omega)) ?_ (fun x r w' φ' he => by rw [hnp] at he; cases he)
        intro r w' φ' H' hx hv
        refine ih (fun p hp => hos p (by simp [hp])) _ _ st' hr φ' _ w' H' (relPut (ht.mono hx.le) _ hv) (hx.free hfree) ?_
        intro a' w'' φ'' H'' hx' ht'' hd
        refine hQ a' w'' φ'' H'' (hx.trans hx') ht'' ?_
        rw [hd]; cases o.dst <;> rfl
      · cases hr
    · rename_i hwant
      have hwant : wantedV (guardV ops.toList o.guard) ts = false := Bool.eq_false_iff.2 hwant
      split at hr
      · rename_i hk
        have hwr := guard_rel hgj ht hk
        rw [hwant] at hwr
        rw [if_neg (by rw [hwr]; simp)]
        refine ih (fun p hp => hos p (by simp [hp])) _ _ st' hr φ _ w H (relPut ht _ (.tuple .nil)) hfree ?_
        intro a' w'' φ'' H'' hx' ht'' hd
        refine hQ a' w'' φ'' H'' hx' ht'' ?_
        rw [hd]; cases o.dst <;> rfl
      · cases hr
end
end
end Go.V
