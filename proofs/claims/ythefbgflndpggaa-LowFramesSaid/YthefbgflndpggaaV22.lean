/- A region that draws its order: what the checks say, joined with the induction over all orders. -/
import Derived.Test.YthefbgflndpggaaV22b
import Derived.Scope
set_option linter.unusedSimpArgs false
set_option linter.unusedVariables false
namespace Go.V
open Go.RowKit

theorem intBeq_eq {a b : Int} (h : intBeq a b = true) : a = b := by
  cases a <;> cases b <;> simp [intBeq] at h
  · rw [h]
  · rw [h]

theorem natsBeq_imp {a b : List Nat} (h : natsBeq a b = true) : a = b := natsBeq_iff.1 h

theorem factsBeq_eq : ∀ {a b : List SFact}, factsBeq a b = true → a = b := by
  intro a
  induction a with
  | nil => intro b h; cases b <;> simp [factsBeq] at h; rfl
  | cons x a ih =>
    intro b h
    cases b with
    | nil => simp [factsBeq] at h
    | cons y b =>
      obtain ⟨xo, xk, xc, xr⟩ := x
      obtain ⟨yo, yk, yc, yr⟩ := y
      simp only [factsBeq, Bool.and_eq_true] at h
      obtain ⟨h1, h2, h3, h4, h5⟩ := h
      obtain rfl : xk = yk := code_inj (by simpa using h2)
      obtain rfl : xc = yc := intBeq_eq h3
      obtain rfl : a = b := ih h5
      obtain rfl : xo = yo := by revert h1; cases xo <;> cases yo <;> simp [BinOp.code]
      obtain rfl : xr = yr := by
        cases xr <;> cases yr <;> simp only [SRes.beq] at h4
        · rw [intBeq_eq h4]
        · cases h4
        · cases h4
        · rename_i p q; cases p <;> cases q <;> simp at h4 <;> rfl
      rfl

mutual
theorem VVal.beq_eq : ∀ (a b : VVal), VVal.beq a b = true → a = b := by
  intro a b h
  cases a <;> cases b <;> first
    | rfl
    | (simp [VVal.beq] at h; done)
    | skip
  case bool.bool a b => cases a <;> cases b <;> first | rfl | (simp [VVal.beq] at h; done)
  case int.int k a l b => simp only [VVal.beq, Bool.and_eq_true, Nat.beq_eq] at h; obtain rfl : k = l := code_inj (by simpa using h.1); rw [intBeq_eq h.2]
  case sym.sym k a l b => simp only [VVal.beq, Bool.and_eq_true] at h; obtain rfl : k = l := code_inj (by simpa using h.1); rw [factsBeq_eq h.2]
  case str.str a b => simp only [VVal.beq] at h; rw [natsBeq_imp h]
  case ptr.ptr a b c d e f => simp only [VVal.beq, Bool.and_eq_true, Nat.beq_eq] at h; rw [h.1, h.2.1, h.2.2]
  case rptr.rptr a b => simp only [VVal.beq] at h; rw [VVal.beqs_eq a b h]
  case slice.slice a b c d e f g h' i j k l =>
    cases f <;> cases l <;> simp only [VVal.beq, Bool.and_eq_true, Nat.beq_eq, Bool.false_eq_true] at h
    · rw [h.1, h.2.1, h.2.2.1, h.2.2.2.1, h.2.2.2.2]
    · rw [h.1, h.2.1, h.2.2.1, h.2.2.2.1, h.2.2.2.2.1, h.2.2.2.2.2]
  case rslice.rslice a x b y => simp only [VVal.beq, Bool.and_eq_true, Nat.beq_eq] at h; rw [h.1, VVal.beqss_eq x y h.2]
  case map.map a b => simp only [VVal.beq, Nat.beq_eq] at h; rw [h]
  case func.func f a b g c d => simp only [VVal.beq, Bool.and_eq_true, Nat.beq_eq] at h; rw [h.1, VVal.beqs_eq a c h.2.1, VVal.beqs_eq b d h.2.2]
  case iface.iface t v u w => simp only [VVal.beq, Bool.and_eq_true, Nat.beq_eq] at h; rw [h.1, VVal.beq_eq v w h.2]
  case agg.agg a b => simp only [VVal.beq] at h; rw [VVal.beqs_eq a b h]
  case tuple.tuple a b => simp only [VVal.beq] at h; rw [VVal.beqs_eq a b h]
theorem VVal.beqs_eq : ∀ (a b : List VVal), VVal.beqs a b = true → a = b := by
  intro a b h
  cases a with
  | nil => cases b with
    | nil => rfl
    | cons y b => exact absurd h (by simp [VVal.beqs])
  | cons x a => cases b with
    | nil => exact absurd h (by simp [VVal.beqs])
    | cons y b => simp only [VVal.beqs, Bool.and_eq_true] at h; rw [VVal.beq_eq x y h.1, VVal.beqs_eq a b h.2]
theorem VVal.beqss_eq : ∀ (a b : List (List VVal)), VVal.beqss a b = true → a = b := by
  intro a b h
  cases a with
  | nil => cases b with
    | nil => rfl
    | cons y b => exact absurd h (by simp [VVal.beqss])
  | cons x a => cases b with
    | nil => exact absurd h (by simp [VVal.beqss])
    | cons y b => simp only [VVal.beqss, Bool.and_eq_true] at h; rw [VVal.beqs_eq x y h.1, VVal.beqss_eq a b h.2]
end

theorem readsSame_eq {o : VOp} {ts : List VVal} {h : VHeap} {v : VVal} (hr : readsSame o ts h v = true) : o.read ts h = some v := by
  unfold readsSame at hr
  split at hr
  · rename_i v' hv; rw [hv, VVal.beq_eq _ _ hr]
  · cases hr

/-- What is kept of a run in the text's order. -/
theorem recOps_facts {call : VCaller} : ∀ {l : List VOper} {st st' : VSt} {rs : List VRec}, recOps call l st = some (rs, st') →
    ∃ (T : Nat → List VVal) (H : Nat → VHeap) (v : Nat → VVal) (did : Nat → Bool), T 0 = st.ts ∧ H 0 = st.h ∧ T l.length = st'.ts ∧ H l.length = st'.h ∧ rs.length = l.length ∧
      ∀ i o, l[i]? = some o → rs[i]? = some ⟨maskTs o.reads 0 (T i), H i, v i, H (i + 1), did i⟩ ∧ T (i + 1) = putDst (T i) o.dst (v i) ∧ wantedV o.guard (maskTs o.reads 0 (T i)) = did i ∧
        (did i = true → stepV call o.op (maskTs o.reads 0 (T i)) (H i) = some (v i, H (i + 1)) ∧ panOf o.op.kind (v i) = none) ∧
        (did i = false → guardKnown o.guard (maskTs o.reads 0 (T i)) = true ∧ v i = .undef ∧ H (i + 1) = H i) := by
  intro l
  induction l with
  | nil =>
    intro st st' rs h
    simp only [recOps, Option.some.injEq, Prod.mk.injEq] at h
    refine ⟨fun _ => st.ts, fun _ => st.h, fun _ => .undef, fun _ => true, rfl, rfl, by rw [← h.2], by rw [← h.2], by simp [← h.1], fun i o hi => by simp at hi⟩
  | cons o l ih =>
    intro st st' rs h
    simp only [recOps] at h
    split at h
    · rename_i hw
      split at h
      · rename_i v1 h1 hs
        split at h
        · cases h
        rename_i hnp
        split at h
        · rename_i l2 st2 hr2
          injection h with h; injection h with e1 e2; subst e1 e2
          obtain ⟨T, H, v, did, t0, h0, tn, hn, len, all⟩ := ih hr2
          refine ⟨fun | 0 => st.ts | k + 1 => T k, fun | 0 => st.h | k + 1 => H k, fun | 0 => v1 | k + 1 => v k, fun | 0 => true | k + 1 => did k, rfl, rfl, tn, hn, by simp [len], ?_⟩
          intro i o' hi
          cases i with
          | zero =>
            simp only [List.getElem?_cons_zero, Option.some.injEq] at hi
            subst hi
            simp only [List.getElem?_cons_zero, t0, h0]
            exact ⟨trivial, trivial, hw, (fun _ => ⟨hs, hnp⟩), (fun h => by cases h)⟩
          | succ i =>
            simp only [List.getElem?_cons_succ] at hi ⊢
            exact all i o' hi
        · cases h
      · cases h
    · rename_i hw
      split at h
      · rename_i hg
        split at h
        · rename_i l2 st2 hr2
          injection h with h; injection h with e1 e2; subst e1 e2
          obtain ⟨T, H, v, did, t0, h0, tn, hn, len, all⟩ := ih hr2
          refine ⟨fun | 0 => st.ts | k + 1 => T k, fun | 0 => st.h | k + 1 => H k, fun | 0 => .undef | k + 1 => v k, fun | 0 => false | k + 1 => did k, rfl, rfl, tn, hn, by simp [len], ?_⟩
          intro i o' hi
          cases i with
          | zero =>
            simp only [List.getElem?_cons_zero, Option.some.injEq] at hi
            subst hi
            simp only [List.getElem?_cons_zero, t0, h0]
            exact ⟨trivial, trivial, by simpa using hw, (fun h => by cases h), (fun _ => ⟨hg, trivial, trivial⟩)⟩
          | succ i =>
            simp only [List.getElem?_cons_succ] at hi ⊢
            exact all i o' hi
        · cases h
      · cases h

theorem memNat_iff {n : Nat} : ∀ {l : List Nat}, memNat n l = true ↔ n ∈ l := by
  intro l
  induction l with
  | nil => simp [memNat]
  | cons x l ih => simp [memNat, ih]

theorem maskTs_get (rs : List Nat) : ∀ (xs : List VVal) (k t : Nat), (maskTs rs k xs)[t]? = (xs[t]?).map fun x => if memNat (k + t) rs then x else .poison := by
  intro xs
  induction xs with
  | nil => intro k t; simp [maskTs]
  | cons x xs ih =>
    intro k t
    cases t with
    | zero => simp [maskTs]
    | succ t => simp only [maskTs, List.getElem?_cons_succ, ih]; rw [show k + 1 + t = k + (t + 1) by omega]

theorem maskTs_length (rs : List Nat) : ∀ (xs : List VVal) (k : Nat), (maskTs rs k xs).length = xs.length := by
  intro xs
  induction xs with
  | nil => intro k; rfl
  | cons x xs ih => intro k; simp [maskTs, ih]

theorem nthV_get {α : Type} : ∀ (l : List α) (n : Nat), nthV l n = l[n]? := by
  intro l
  induction l with
  | nil => intro n; simp [nthV]
  | cons x l ih => intro n; cases n with | zero => simp [nthV] | succ n => simp [nthV, ih]

theorem calmAll_at {all : List (VOper × VRec)} : ∀ {l : List (VOper × VRec)}, calmAll all l = true → ∀ o r, (o, r) ∈ l → ∀ j ∈ o.chk, ∃ b rb, all[j]? = some (b, rb) ∧ calmPair o b r rb = true := by
  intro l
  induction l with
  | nil => intro _ o r h; cases h
  | cons x l ih =>
    obtain ⟨o', r'⟩ := x
    intro h o r hm j hj
    simp only [calmAll, Bool.and_eq_true] at h
    rcases List.mem_cons.1 hm with e | hm
    · injection e with e1 e2; subst e1 e2
      have := List.all_eq_true.1 h.1 j hj
      rw [nthV_get] at this
      split at this
      · rename_i b rb hb; exact ⟨b, rb, hb, this⟩
      · cases this
    · exact ih h.2 o r hm j hj

theorem putDst_get (ts : List VVal) (d : Option Nat) (x : VVal) {t : Nat} (ht : t < ts.length) : (putDst ts d x)[t]? = if d = some t then some x else ts[t]? := by
  cases d with
  | none => simp [putDst]
  | some u =>
    simp only [putDst, tmpPut_set, List.getElem?_set, Option.some.injEq]
    by_cases e : u = t
    · subst e; simp [ht]
    · simp [e]

theorem putDst_length (ts : List VVal) (d : Option Nat) (x : VVal) : (putDst ts d x).length = ts.length := by
  cases d with
  | none => rfl
  | some u => simp [putDst, tmpPut_set]

/-- The edges that bind. -/
def ownOf (o : Oper) : List Nat := (o.after.toList.filter fun e => Region.binds .any e).map (·.on)

theorem presOf_spec : ∀ (l : List Oper) (acc : List (List Nat)), (∀ i, i < acc.length → (presOf l acc).getD i [] = acc.getD i []) ∧
    ∀ i o, l[i]? = some o → ∀ k ∈ (presOf l acc).getD (acc.length + i) [], k ∈ ownOf o ∨ ∃ j ∈ ownOf o, k ∈ (presOf l acc).getD j [] := by
  intro l
  induction l with
  | nil => intro acc; exact ⟨fun i _ => rfl, fun i o h => by simp at h⟩
  | cons o l ih =>
    intro acc
    obtain ⟨h1, h2⟩ := ih (acc ++ [ownOf o ++ (ownOf o).flatMap fun j => acc.getD j []])
    have hp : presOf (o :: l) acc = presOf l (acc ++ [ownOf o ++ (ownOf o).flatMap fun j => acc.getD j []]) := rfl
    rw [hp]
    have hpre : ∀ i, i < acc.length → (presOf l (acc ++ [ownOf o ++ (ownOf o).flatMap fun j => acc.getD j []])).getD i [] = acc.getD i [] := by
      intro i hi
      rw [h1 i (by simp; omega), List.getD_eq_getElem?_getD, List.getD_eq_getElem?_getD, List.getElem?_append_left hi]
    refine ⟨hpre, ?_⟩
    intro i o' hi k hk
    cases i with
    | zero =>
      simp only [List.getElem?_cons_zero, Option.some.injEq] at hi
      subst hi
      rw [Nat.add_zero, h1 acc.length (by simp), List.getD_eq_getElem?_getD] at hk
      simp only [List.getElem?_concat_length, Option.getD_some, List.mem_append, List.mem_flatMap] at hk
      rcases hk with hk | ⟨j, hj, hk⟩
      · exact .inl hk
      · refine .inr ⟨j, hj, ?_⟩
        have : j < acc.length := by
          rcases Nat.lt_or_ge j acc.length with h | h
          · exact h
          · rw [List.getD_eq_getElem?_getD, List.getElem?_eq_none h] at hk; simp at hk
        rw [hpre j this]; exact hk
    | succ i =>
      simp only [List.getElem?_cons_succ] at hi
      have := h2 i o' hi k
      rw [List.length_append, List.length_singleton, show acc.length + 1 + i = acc.length + (i + 1) by omega] at this
      exact this hk

theorem mem_own {o : Oper} {k : Nat} (h : k ∈ ownOf o) : ∃ ed ∈ o.after.toList, Region.binds .any ed = true ∧ ed.on = k := by
  unfold ownOf at h
  obtain ⟨ed, h1, rfl⟩ := List.mem_map.1 h
  obtain ⟨h2, h3⟩ := List.mem_filter.1 h1
  exact ⟨ed, h2, h3, rfl⟩

theorem zipIdx_mem {α : Type} {l : List α} {i : Nat} {x : α} (h : l[i]? = some x) : (x, i) ∈ l.zipIdx := by
  rw [List.mem_zipIdx_iff_getElem?]; exact h

section
variable {P : Program} {w0 : World}

theorem draw_sound {call : VCaller} (hcall : CallerOk P w0 call) (hm : CallerMono call) {ops : Array Oper} {pres : List (List Nat)} (hpres : pres = presOf ops.toList []) (hg : guardsOk ops.toList = true) (he : edgesBack ops.toList = true) (hp : pairsOk P ops.toList pres = true)
    {ts : List VVal} {h : VHeap} {st' : VSt} (hr : drawOps call (ops.toList.zipIdx.map fun (o, j) => operV P true ops.toList pres o j) ⟨ts, h⟩ = some st') {φ : VMap} {a : Act} {w : World} (H : RelH w0 φ h w) (ht : RelVs w0 φ ts a.tmps.toList)
    (hfree : ∀ b k, h.size ≤ b → b < st'.h.size → φ b k = none) {Q : Exit → Act → World → Prop}
    (hQ : ∀ a' w' φ', RelH w0 φ' st'.h w' → Ext φ h w φ' st'.h w' → RelVs w0 φ' st'.ts a'.tmps.toList → a'.defers = a.defers → Q .normal a' w') :
    wpAny P .any ops Q ops.size (Array.replicate ops.size false) a w := by
  unfold drawOps at hr
  split at hr
  · rename_i recs st2 hrec
    split at hr
    · rename_i hcalm
      injection hr with hr; subst hr
      obtain ⟨T, HH, v, did, hT0, hH0, hTn, hHn, hlen, hall⟩ := recOps_facts hrec
      replace hH0 : HH 0 = h := hH0
      replace hT0 : T 0 = ts := hT0
      generalize hvops : (ops.toList.zipIdx.map fun (o, j) => operV P true ops.toList pres o j) = vops at *
      have hvlen : vops.length = ops.size := by rw [← hvops]; simp
      rw [hvlen] at hTn hHn hlen
      -- operations as a function
      let d0 : Oper := { dst := none, op := .move (.tmp 0), type := 0, pos := "", after := #[], guard := none }
      let o : Nat → Oper := fun i => (ops.toList[i]?).getD d0
      have ho : ∀ i, i < ops.size → ops.toList[i]? = some (o i) := by
        intro i hi
        have : i < ops.toList.length := by simpa using hi
        simp only [o, List.getElem?_eq_getElem this, Option.getD_some]
      have hops : ∀ i, i < ops.size → ops[i]? = some (o i) := fun i hi => by rw [← ho i hi, Array.getElem?_toList]
      have hvop : ∀ i, i < ops.size → vops[i]? = some (operV P true ops.toList pres (o i) i) := by
        intro i hi
        rw [← hvops, List.getElem?_map, List.getElem?_zipIdx, ho i hi]
        simp
      let mts : Nat → List VVal := fun i => maskTs (readsOf ops.toList (o i)) 0 (T i)
      let pre : Nat → List Nat := fun i => pres.getD i []
      have hstep : ∀ i, i < ops.size → recs[i]? = some ⟨mts i, HH i, v i, HH (i + 1), did i⟩ ∧ T (i + 1) = putDst (T i) (o i).dst (v i) ∧ wantedV (guardV ops.toList (o i).guard) (mts i) = did i ∧
          (did i = true → stepV call (opV P (o i).op) (mts i) (HH i) = some (v i, HH (i + 1)) ∧ panOf (opV P (o i).op).kind (v i) = none) ∧ (did i = false → guardKnown (guardV ops.toList (o i).guard) (mts i) = true ∧ v i = .undef ∧ HH (i + 1) = HH i) := by
        intro i hi
        exact hall i _ (hvop i hi)
      have hread : ∀ j, j < ops.size → did j = true → (opV P (o j).op).kind = .read → (opV P (o j).op).read (mts j) (HH j) = some (v j) := by
        intro j hj hd hk
        obtain ⟨h1, _⟩ := (hstep j hj).2.2.2.1 hd
        simp only [stepV, hk] at h1
        split at h1
        · rename_i vv hvv; injection h1 with h1; injection h1 with h1 _; rw [hvv, h1]
        · cases h1
      have nopan : ∀ i, i < ops.size → did i = true → (opV P (o i).op).kind ≠ .panic := by
        intro i hi hd hk
        obtain ⟨h1, h2⟩ := (hstep i hi).2.2.2.1 hd
        simp only [stepV, hk] at h1
        split at h1
        · injection h1 with h1; injection h1 with e1 e2; rw [hk, ← e1] at h2; cases h2
        · cases h1
      have hTlen : ∀ i, i ≤ ops.size → (T i).length = ts.length := by
        intro i
        induction i with
        | zero => intro _; rw [hT0]
        | succ i ih => intro hi; rw [(hstep i (by omega)).2.1, putDst_length, ih (by omega)]
      have hTget : ∀ i, i ≤ ops.size → ∀ t, t < ts.length → (T i)[t]? = some (lastW ts (fun j => (o j).dst) v (fun _ => true) i t) := by
        intro i
        induction i with
        | zero => intro _ t hlt; rw [hT0, lastW, tmpAt_get]; simp [hlt]
        | succ i ih =>
          intro hi t hlt
          rw [(hstep i (by omega)).2.1, putDst_get _ _ _ (by rw [hTlen i (by omega)]; exact hlt), ih (by omega) t hlt]
          simp only [lastW, true_and]
          split <;> rfl
      have hzip : ∀ i, i < ops.size → (vops.zip recs)[i]? = some (operV P true ops.toList pres (o i) i, ⟨mts i, HH i, v i, HH (i + 1), did i⟩) := by
        intro i hi
        rw [List.getElem?_zip_eq_some]
        exact ⟨hvop i hi, (hstep i hi).1⟩
      have hcalmAt : ∀ j, j < ops.size → ∀ i, i ∈ chkOf P ops.toList pres (o j) j → i < ops.size → calmPair (operV P true ops.toList pres (o j) j) (operV P true ops.toList pres (o i) i) ⟨mts j, HH j, v j, HH (j + 1), did j⟩ ⟨mts i, HH i, v i, HH (i + 1), did i⟩ = true := by
        intro j hj i hi hin
        obtain ⟨b, rb, h1, h2⟩ := calmAll_at hcalm _ _ (List.mem_of_getElem? (hzip j hj)) i hi
        rw [hzip i hin] at h1
        injection h1 with h1; injection h1 with e1 e2; subst e1 e2
        exact h2
      have hloose : ∀ i j, i < j → j < ops.size → i ∈ pre j ∨ (¬ (loudK (opV P (o i).op).kind = true ∧ loudK (opV P (o j).op).kind = true) ∧ (∀ d, (o i).dst = some d → d ∉ readsOf ops.toList (o j) ∧ (o j).dst ≠ some d) ∧ (∀ d, (o j).dst = some d → d ∉ readsOf ops.toList (o i))) := by
        intro i j hij hj
        have h1 := List.all_eq_true.1 hp _ (zipIdx_mem (ho j hj))
        have h2 := List.all_eq_true.1 h1 _ (zipIdx_mem (ho i (by omega)))
        simp only [hij, decide_true, Bool.not_true, Bool.false_or, Bool.or_eq_true, List.contains_iff_mem] at h2
        refine h2.imp id fun h3 => ?_
        simp only [loose, Bool.and_eq_true] at h3
        obtain ⟨⟨h4, h5⟩, h6⟩ := h3
        refine ⟨(fun h => by rw [h.1, h.2] at h4; cases h4), fun d hd => ?_, fun d hd => ?_⟩
        · rw [hd] at h5
          simp only [Bool.and_eq_true, Bool.not_eq_true', bne_iff_ne, ne_eq] at h5
          refine ⟨?_, h5.2⟩
          intro hc; rw [List.contains_iff_mem.2 hc] at h5; cases h5.1
        · rw [hd] at h6
          simp only [Bool.not_eq_true'] at h6
          intro hc; rw [List.contains_iff_mem.2 hc] at h6; cases h6
      have hback : ∀ i, i < ops.size → ∀ ed ∈ (o i).after.toList, Region.binds .any ed = true → ed.on < i := by
        intro i hi ed hed hb
        have h1 := List.all_eq_true.1 he _ (zipIdx_mem (ho i hi))
        have h2 := List.all_eq_true.1 h1 ed hed
        simpa [hb] using h2
      have hspec := (presOf_spec ops.toList []).2
      have hprs : ∀ i, i < ops.size → ∀ k ∈ pre i, (∃ ed ∈ (o i).after.toList, Region.binds .any ed = true ∧ ed.on = k) ∨ ∃ ed ∈ (o i).after.toList, Region.binds .any ed = true ∧ k ∈ pre ed.on := by
        intro i hi k hk
        have h1 := hspec i (o i) (ho i hi) k (by rw [← hpres]; simpa [pre] using hk)
        rw [← hpres] at h1
        rcases h1 with h1 | ⟨j, h1, h2⟩
        · exact .inl (mem_own h1)
        · obtain ⟨ed, e1, e2, rfl⟩ := mem_own h1
          exact .inr ⟨ed, e1, e2, h2⟩
      have hprelt : ∀ i, i < ops.size → ∀ k ∈ pre i, k < i := by
        intro i
        induction i using Nat.strongRecOn with
        | _ i ih =>
          intro hi k hk
          rcases hprs i hi k hk with ⟨ed, e1, e2, rfl⟩ | ⟨ed, e1, e2, e3⟩
          · exact hback i hi ed e1 e2
          · have h1 := hback i hi ed e1 e2
            have := ih ed.on h1 (by omega) k e3; omega
      have F : DrawFacts P call ops.size o v HH did mts (fun i => readsOf ops.toList (o i)) pre (fun i => guardV ops.toList (o i).guard) ts := by
        refine ⟨fun i hi hd => ((hstep i hi).2.2.2.1 hd).1, fun i hi hd => ((hstep i hi).2.2.2.1 hd).2, fun i hi hd => ((hstep i hi).2.2.2.2 hd).2, fun i hi => ⟨?_, (hstep i hi).2.2.1⟩, fun i hi => ?_, fun i hi t hlt => ?_, ?_, ?_, hloose, hprelt⟩
        · cases hd : did i with
          | true => exact wantedV_known (by rw [(hstep i hi).2.2.1, hd])
          | false => exact ((hstep i hi).2.2.2.2 hd).1
        · show (maskTs _ 0 (T i)).length = _
          rw [maskTs_length, hTlen i (by omega)]
        · show (t ∈ _ ∧ (maskTs _ 0 (T i))[t]? = _) ∨ (maskTs _ 0 (T i))[t]? = _
          rw [maskTs_get, hTget i (by omega) t hlt, Nat.zero_add]
          by_cases hmem : t ∈ readsOf ops.toList (o i)
          · left; refine ⟨hmem, ?_⟩
            have : memNat t (readsOf ops.toList (o i)) = true := memNat_iff.2 (by simpa using hmem)
            simp [this]
          · right
            have : memNat t (readsOf ops.toList (o i)) = false := by
              cases hmm : memNat t (readsOf ops.toList (o i)) with
              | false => rfl
              | true => exact absurd (by simpa using memNat_iff.1 hmm) hmem
            simp [this]
        · intro j hj hdj hk i hij hdi hli hip
          by_cases hlk : (opV P (o j).op).looks = true
          rotate_left
          · rw [VOp.read_pure (by simpa using hlk) _ _ (HH j)]; exact hread j hj hdj hk
          have hmem : i ∈ chkOf P ops.toList pres (o j) j := by
            simp only [chkOf, hk]
            rw [if_pos hlk]
            refine List.mem_map.2 ⟨(o i, i), List.mem_filter.2 ⟨zipIdx_mem (ho i (by omega)), ?_⟩, rfl⟩
            have : ((pres.getD j []).contains i) = false := by
              cases hc : (pres.getD j []).contains i with
              | false => rfl
              | true => exact absurd (List.contains_iff_mem.1 hc) hip
            simp only [hij, decide_true, this, Bool.not_false, Bool.true_and, hli]
          have h1 := hcalmAt j hj i hmem (by omega)
          simp only [calmPair, hdj, hdi, Bool.and_self, if_true, operV, hk] at h1
          exact readsSame_eq h1
        · intro i hi hdi hli j hji hdj hk hjp
          by_cases hlk : (opV P (o j).op).looks = true
          rotate_left
          · rw [VOp.read_pure (by simpa using hlk) _ _ (HH j)]; exact hread j (by omega) hdj hk
          have hmem : j ∈ chkOf P ops.toList pres (o i) i := by
            have hjn : ((pres.getD i []).contains j) = false := by
              cases hc : (pres.getD i []).contains j with
              | false => rfl
              | true => exact absurd (List.contains_iff_mem.1 hc) hjp
            have hin : (o j, j) ∈ (ops.toList.zipIdx.filter fun (a, i') => decide (i' < i) && !(pres.getD i []).contains i' && ((opV P a.op).kind == .read && (opV P a.op).looks)) := by
              refine List.mem_filter.2 ⟨zipIdx_mem (ho j (by omega)), ?_⟩
              simp only [hji, decide_true, hjn, Bool.not_false, Bool.true_and, hk, hlk, Bool.and_true]; rfl
            unfold chkOf
            cases hki : (opV P (o i).op).kind with
            | read => rw [hki] at hli; cases hli
            | fresh => rw [hki] at hli; cases hli
            | write => exact List.mem_map.2 ⟨_, hin, rfl⟩
            | call => exact List.mem_map.2 ⟨_, hin, rfl⟩
            | panic =>
              exact (nopan i hi hdi hki).elim
          have h1 := hcalmAt i hi j hmem (by omega)
          simp only [calmPair, hdj, hdi, Bool.and_self, if_true, operV] at h1
          cases hki : (opV P (o i).op).kind with
          | read => rw [hki] at hli; cases hli
          | fresh => rw [hki] at hli; cases hli
          | write => rw [hki] at h1; exact readsSame_eq h1
          | call => rw [hki] at h1; exact readsSame_eq h1
          | panic =>
            exact (nopan i hi hdi hki).elim
      have hsize0 : (HH 0).size ≤ (HH ops.size).size := F.size_mono hm (Nat.zero_le _) (Nat.le_refl _)
      have hfree0 : ∀ b k, (HH 0).size ≤ b → b < (HH ops.size).size → φ b k = none := by
        intro b k h1 h2; rw [hH0] at h1; rw [hHn] at h2; exact hfree b k h1 h2
      have hwant : ∀ i, i < ops.size → ∀ φ tmps, RelVs w0 φ (mts i) tmps.toList → Region.wanted (o i) (yielded ops tmps) = did i := by
        intro i hi φ tmps hrel
        rw [guard_rel (guardsOk_at hg (hops i hi)) hrel (F.guard i hi).1, (F.guard i hi).2]
      have lastFalse : ∀ k t, lastW ts (fun j => (o j).dst) v (fun _ => false) k t = tmpAt ts t := by
        intro k t
        induction k with
        | zero => rfl
        | succ k ih => simp only [lastW]; rw [if_neg (by simp), ih]
      have hrepl : (fun i => (Array.replicate ops.size false).getD i false) = fun _ => false := by
        funext i
        rw [Array.getD_eq_getD_getElem?, Array.getElem?_replicate]
        split <;> rfl
      have I0 : Inv P w0 ops.size o v HH did mts pre ts φ w a.defers (fun i => (Array.replicate ops.size false).getD i false) 0 φ a w := by
        rw [hrepl]
        refine ⟨(fun i _ h => by cases h), ?_, fun t hlt => ?_, rfl, Nat.zero_le _, (fun i _ _ h => (by cases h)), (fun i h => by omega), .inl rfl, (by rw [hH0]; exact H), (fun i x mk _ h => (by cases h)), fun b k l h1 h2 h2b => ?_, (fun i x mk h => by omega), VMap.le.refl φ, (fun b k l h1 h2 => (by rw [h1] at h2; cases h2)), fun b _ _ => rfl, fun c _ _ => rfl, Nat.le_refl _, rfl, rfl, rfl⟩
        · have := ht.length; simp at this; omega
        · rw [lastFalse]; exact relTmp ht t
        · have h3 := H.lt b k l h1
          rw [hfree0 b k h2 (by assumption)] at h1; cases h1
      exact draw_any hcall F hm hfree0 rfl hops hwant hback hprs (ds := a.defers) (wi := w) (φ0 := φ) (fun s e φ' a' w' I hs => by
        have hcong : ∀ k, k ≤ ops.size → ∀ t, lastW ts (fun j => (o j).dst) v s k t = lastW ts (fun j => (o j).dst) v (fun _ => true) k t := by
          intro k
          induction k with
          | zero => intro _ t; rfl
          | succ k ih => intro hk t; simp only [lastW, hs k (by omega), ih (by omega)]
        have hq : ∀ i, e ≤ i → i < ops.size → ¬ LoudDid P o did i := fun i h1 h2 => I.above i h1 h2 (hs i h2)
        have hrel := I.relAt F hm I.ele (Nat.le_refl _) hq
        have hquiet := F.quiet hm I.ele (Nat.le_refl _) hq
        have hse : (HH 0).size ≤ (HH e).size := F.size_mono hm (Nat.zero_le _) I.ele
        refine hQ a' w' φ' (by rw [← hHn]; exact hrel) ?_ ?_ I.defers
        · refine ⟨I.le, ?_, hfree, ?_, I.wsize, ?_, (by have := I.cframe; rw [hH0] at this; exact this), I.os, I.tape, I.output⟩
          · have := I.new; rw [hH0, hHn] at this; exact this
          · rw [← hH0, ← hHn]; exact hsize0
          · intro b hb hn
            rw [← hHn, hquiet.1 b (by rw [hH0] at hse; omega), ← hH0]
            exact I.vframe b (by rw [hH0]; exact hb) hn
        · refine .of_get (by rw [← hTn, hTlen _ (Nat.le_refl _)]; show ts.length = a'.tmps.size; rw [I.tsize]) fun t x hx => ?_
          have hlt : t < ts.length := by
            obtain ⟨h1, _⟩ := List.getElem?_eq_some_iff.1 hx
            rw [← hTn, hTlen _ (Nat.le_refl _)] at h1; exact h1
          rw [← hTn, hTget _ (Nat.le_refl _) t hlt] at hx
          injection hx with hx; subst hx
          have hrv := I.temps t hlt
          rw [hcong _ (Nat.le_refl _)] at hrv
          refine ⟨_, ?_, hrv⟩
          rw [Array.getElem?_toList, Array.getD_eq_getD_getElem?]
          have : t < a'.tmps.size := by rw [I.tsize]; exact hlt
          simp [this]) ops.size _ 0 φ a w (by simp) I0 (by
            have := List.countP_le_length (p := fun i => !(Array.replicate ops.size false).getD i false) (l := List.range ops.size)
            simpa using this)
    · cases hr
  · cases hr
end
end Go.V
