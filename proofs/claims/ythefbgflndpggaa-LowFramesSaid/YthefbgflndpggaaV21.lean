/- A region in the text's order; what never shrinks. -/
import Derived.Test.YthefbgflndpggaaV20
set_option linter.unusedSimpArgs false
set_option linter.unusedVariables false
namespace Go.V
open Go.RowKit

def CallerMono (call : VCaller) : Prop := ∀ f args h v h', call f args h = some (v, h') → h.size ≤ h'.size

theorem store_size {h h' : VHeap} {p : VVal} {xs : List VVal} (hs : h.store p xs = some h') : h'.size = h.size := by
  unfold VHeap.store at hs
  split at hs
  · split at hs
    · split at hs
      · split at hs
        · injection hs with hs; subst hs; simp
        · cases hs
      · cases hs
    · cases hs
  · cases hs

theorem write_size {vo : VOp} {ts : List VVal} {h h' : VHeap} {v : VVal} (hw : vo.write ts h = some (v, h')) : h.size ≤ h'.size := by
  unfold VOp.write at hw
  (repeat' split at hw) <;> first
    | (cases hw; done)
    | (injection hw with hw; injection hw with e1 e2; subst e1 e2; simp; done)
    | (rename_i hst; injection hw with hw; injection hw with e1 e2; subst e1 e2; rw [store_size hst]; exact Nat.le_refl _)

theorem stepV_size {call : VCaller} (hm : CallerMono call) {vo : VOp} {ts : List VVal} {h h' : VHeap} {v : VVal} (hs : stepV call vo ts h = some (v, h')) : h.size ≤ h'.size := by
  unfold stepV at hs
  split at hs
  · split at hs
    · injection hs with hs; injection hs with e1 e2; subst e1 e2; exact Nat.le_refl _
    · cases hs
  · split at hs
    · injection hs with hs; injection hs with e1 e2; subst e1 e2; simp
    · cases hs
  · exact write_size hs
  · split at hs
    · exact hm _ _ _ _ _ hs
    · cases hs
  · split at hs
    · injection hs with hs; injection hs with e1 e2; subst e1 e2; exact Nat.le_refl _
    · cases hs

theorem runOps_size {call : VCaller} (hm : CallerMono call) : ∀ {l : List VOper} {st st' : VSt} {e : VExit}, runOps call l st = some (e, st') → st.h.size ≤ st'.h.size := by
  intro l
  induction l with
  | nil => intro st st' e hr; simp [runOps] at hr; rw [← hr.2]; exact Nat.le_refl _
  | cons o l ih =>
    intro st st' e hr
    simp only [runOps] at hr
    split at hr
    · split at hr
      · rename_i v h' hs
        split at hr
        · injection hr with hr; injection hr with e1 e2; subst e2
          exact stepV_size hm hs
        · exact Nat.le_trans (stepV_size hm hs) (ih hr)
      · cases hr
    · split at hr
      · have := ih hr; exact this
      · cases hr

theorem recOps_size {call : VCaller} (hm : CallerMono call) : ∀ {l : List VOper} {st st' : VSt} {rs : List VRec}, recOps call l st = some (rs, st') → st.h.size ≤ st'.h.size := by
  intro l
  induction l with
  | nil => intro st st' rs hr; simp [recOps] at hr; rw [← hr.2]; exact Nat.le_refl _
  | cons o l ih =>
    intro st st' rs hr
    simp only [recOps] at hr
    split at hr
    · split at hr
      · rename_i v h' hs
        split at hr
        · cases hr
        split at hr
        · rename_i l2 st2 hr2
          injection hr with hr; injection hr with e1 e2; subst e2
          exact Nat.le_trans (stepV_size hm hs) (ih hr2)
        · cases hr
      · cases hr
    · split at hr
      · split at hr
        · rename_i l2 st2 hr2
          injection hr with hr; injection hr with e1 e2; subst e2
          have := ih hr2; exact this
        · cases hr
      · cases hr

section
variable {P : Program} {w0 : World} {φ : VMap} {h : VHeap} {w : World} {ts : List VVal}

/-- A guard, as the model reads it. -/
theorem guard_rel {ops : Array Oper} {o : Oper} (hg : match o.guard with | none => True | some (j, _) => (dstOf ops.toList j).isSome = true) {tmps : Array Value} (ht : RelVs w0 φ ts tmps.toList) (hk : guardKnown (guardV ops.toList o.guard) ts = true) :
    Region.wanted o (yielded ops tmps) = wantedV (guardV ops.toList o.guard) ts := by
  unfold Region.wanted
  cases hgd : o.guard with
  | none => rfl
  | some p =>
    obtain ⟨j, want⟩ := p
    rw [hgd] at hg hk
    obtain ⟨t, hdst⟩ := Option.isSome_iff_exists.1 hg
    simp only [guardV, hdst, wantedV, guardKnown] at hk ⊢
    have hy : yielded ops tmps j = match tmps[t]? with | some (.bool b) => some b | _ => none := by
      unfold yielded
      have : ((ops[j]?).bind (·.dst)) = some t := by
        unfold dstOf at hdst; rw [← hdst, Array.getElem?_toList]
      rw [this]; rfl
    rw [hy]
    have hrel := relTmp ht t
    rw [Array.getD_eq_getD_getElem?] at hrel
    split at hk
    · rename_i b hb
      rw [hb] at hrel ⊢
      cases htm : tmps[t]? with
      | none => rw [htm] at hrel; simp [Go.undef] at hrel; cases hrel
      | some y =>
        rw [htm] at hrel
        simp at hrel
        cases hrel
        cases b <;> cases want <;> rfl
    · rename_i hb
      rw [hb] at hrel ⊢
      cases htm : tmps[t]? with
      | none => rfl
      | some y =>
        rw [htm] at hrel
        simp at hrel
        cases hrel with
        | tuple hs => cases hs; rfl
    · cases hk

theorem wantedV_known {g : Option (Nat × Bool)} (hw : wantedV g ts = true) : guardKnown g ts = true := by
  unfold wantedV at hw
  unfold guardKnown
  split at hw
  · rfl
  · split at hw
    · rename_i hb; simp only [hb]
    · cases hw

theorem guardsOk_at {ops : Array Oper} (hg : guardsOk ops.toList = true) {j : Nat} {o : Oper} (ho : ops[j]? = some o) : match o.guard with | none => True | some (j, _) => (dstOf ops.toList j).isSome = true := by
  unfold guardsOk at hg
  have hm : o ∈ ops.toList := by
    rw [← Array.getElem?_toList] at ho
    exact List.mem_of_getElem? ho
  have := List.all_eq_true.1 hg o hm
  split at this <;> rename_i he <;> simp only [he]
  exact this

theorem Ext.free {φ' : VMap} {h' : VHeap} {w' : World} (hx : Ext φ h w φ' h' w') {n : Nat} (hfree : ∀ b k, h.size ≤ b → b < n → φ b k = none) : ∀ b k, h'.size ≤ b → b < n → φ' b k = none := by
  intro b k h1 h2
  have hs := hx.hsize
  have h0 := hfree b k (by omega) h2
  cases hk : φ' b k with
  | none => rfl
  | some l =>
    rcases (hx.new _ _ _ h0 hk).1 with ⟨_, h3⟩ | ⟨_, _, _, h3⟩ <;> omega

theorem panOf_some {k : VKind} {v x : VVal} (h : panOf k v = some x) : v = .panicked x := by
  unfold panOf at h
  split at h
  · injection h with h; rw [h]
  · injection h with h; rw [h]
  · cases h

/-- How a piece of code ends. -/
inductive ExitRel (w0 : World) (φ : VMap) : VExit → Exit → Prop
  | normal : ExitRel w0 φ .normal .normal
  | exit (k : Nat) : ExitRel w0 φ (.exit k) (.exit k)
  | ret : ExitRel w0 φ .ret .ret
  | panic {x : VVal} {r : Value} : RelV w0 φ x r → ExitRel w0 φ (.panic x) (.panic [{ v := r, recovered := false }])

theorem seq_sound {call : VCaller} (hcall : CallerOk P w0 call) (hm : CallerMono call) {ops : Array Oper} (hg : guardsOk ops.toList = true) (pres : List (List Nat)) {Q : Exit → Act → World → Prop} :
    ∀ (os : List (Oper × Nat)), (∀ p ∈ os, ops[p.2]? = some p.1) → ∀ (ts : List VVal) (h : VHeap) (e : VExit) (st' : VSt), runOps call (os.map fun p => operV P false ops.toList pres p.1 p.2) ⟨ts, h⟩ = some (e, st') →
      ∀ (φ : VMap) (a : Act) (w : World), RelH w0 φ h w → RelVs w0 φ ts a.tmps.toList → (∀ b k, h.size ≤ b → b < st'.h.size → φ b k = none) →
      (∀ a' w' φ' ex, RelH w0 φ' st'.h w' → Ext φ h w φ' st'.h w' → RelVs w0 φ' st'.ts a'.tmps.toList → a'.defers = a.defers → ExitRel w0 φ' e ex → Q ex a' w') → wpOps P ops Q (os.map (·.2)) a w := by
  intro os
  induction os with
  | nil =>
    intro _ ts h e st' hr φ a w H ht hfree hQ
    simp [runOps] at hr; obtain ⟨rfl, rfl⟩ := hr
    exact hQ a w φ _ H (Ext.refl _ _ _) ht rfl .normal
  | cons p os ih =>
    intro hos ts h e st' hr φ a w H ht hfree hQ
    obtain ⟨o, j⟩ := p
    have hoj : ops[j]? = some o := hos (o, j) (by simp)
    have hgj := guardsOk_at hg hoj
    simp only [List.map_cons, runOps] at hr
    simp only [List.map_cons, wpOps, hoj]
    split at hr
    · rename_i hwant
      have hwant : wantedV (guardV ops.toList o.guard) ts = true := hwant
      have hwr := guard_rel hgj ht (wantedV_known hwant)
      rw [hwant] at hwr
      rw [if_pos hwr]
      left
      split at hr
      · rename_i v h' hs
        split at hr
        · rename_i x hpan
          injection hr with hr; injection hr with e1 e2; subst e1 e2
          refine step_sound hcall H ht hs hfree ?_ ?_
          · intro r w' φ' H' hx hv; rw [panOf_some hpan] at hv; exact hv.not_panicked.elim
          · intro x' r w' φ' he H' hx hv
            have he : panOf (opV P o.op).kind v = some x' := he
            have hpan : panOf (opV P o.op).kind v = some x := hpan
            rw [hpan] at he
            injection he with he; subst he
            exact hQ a w' φ' _ H' hx (ht_mono hx.le ht) rfl (.panic hv)
        rename_i hnp
        have hnp : panOf (opV P o.op).kind v = none := hnp
        have hsz := runOps_size hm hr
        have hsz1 := stepV_size hm hs
        refine step_sound hcall H ht hs (fun b k h1 h2 => hfree b k h1 (by simp at hsz; omega)) ?_ (fun x r w' φ' he => by rw [hnp] at he; cases he)
        intro r w' φ' H' hx hv
        refine ih (fun p hp => hos p (by simp [hp])) _ _ e st' hr φ' _ w' H' (relPut (ht_mono hx.le ht) _ hv) (hx.free hfree) ?_
        intro a' w'' φ'' ex H'' hx' ht'' hd hex
        refine hQ a' w'' φ'' ex H'' (hx.trans hx') ht'' ?_ hex
        rw [hd]; cases o.dst <;> rfl
      · cases hr
    · rename_i hwant
      have hwant : wantedV (guardV ops.toList o.guard) ts = false := Bool.eq_false_iff.2 hwant
      split at hr
      · rename_i hk
        have hwr := guard_rel hgj ht hk
        rw [hwant] at hwr
        rw [if_neg (by rw [hwr]; simp)]
        refine ih (fun p hp => hos p (by simp [hp])) _ _ e st' hr φ _ w H (relPut ht _ (.tuple .nil)) hfree ?_
        intro a' w'' φ'' ex H'' hx' ht'' hd hex
        refine hQ a' w'' φ'' ex H'' hx' ht'' ?_ hex
        rw [hd]; cases o.dst <;> rfl
      · cases hr
where
  ht_mono {φ φ' : VMap} {ts : List VVal} {tmps : List Value} (hle : φ.le φ') (ht : RelVs w0 φ ts tmps) : RelVs w0 φ' ts tmps := ht.mono hle
end
end Go.V
