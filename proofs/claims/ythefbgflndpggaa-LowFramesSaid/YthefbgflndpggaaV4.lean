/- The virtual heap and the world: reading, writing, new blocks. -/
import Derived.Test.YthefbgflndpggaaV3
set_option linter.unusedSimpArgs false
set_option linter.unusedVariables false
namespace Go.V
open Go.RowKit

inductive RelEs (w0 : World) (φ : VMap) : List (VVal × VVal) → List MapEntry → Prop
  | nil : RelEs w0 φ [] []
  | cons {k v : VVal} {r : List (VVal × VVal)} {e : MapEntry} {es : List MapEntry} : RelV w0 φ k e.key → RelV w0 φ v e.val → RelEs w0 φ r es → RelEs w0 φ ((k, v) :: r) (e :: es)

theorem RelEs.length {w0 : World} {φ : VMap} : ∀ {a : List (VVal × VVal)} {b : List MapEntry}, RelEs w0 φ a b → a.length = b.length := by
  intro a
  induction a with
  | nil => intro b h; cases h; rfl
  | cons p a ih => intro b h; cases h with | cons _ _ h => simp [ih h]

/-- No key stands twice, and all are of one kind. -/
def KeysOk (es : List (VVal × VVal)) : Prop := es.Pairwise fun p q => keyBeq p.1 q.1 = some false

/-- A map: its entries, in whatever order; where their stamps are told, in this one. -/
structure MapRel (w0 : World) (φ : VMap) (es : List (VVal × VVal)) (st : Option (List Nat × Nat)) (ces : Array MapEntry) (clock : Nat) : Prop where
  rel : ∃ es', es'.Perm es ∧ RelEs w0 φ es' ces.toList ∧ (st.isSome = true → es' = es)
  keys : KeysOk es
  born : (ces.toList.map (·.born)).Nodup
  lt : ∀ x ∈ ces.toList, x.born < clock
  st : ∀ bs c, st = some (bs, c) → ces.toList.map (·.born) = bs ∧ clock = c

def RelObj (w0 : World) (φ : VMap) (w : World) (v : Nat) (l : Loc) : VObj → Prop
  | .cells cs elem ver => v ≤ ver ∧ (v = ver → ∃ arr fr, w.heap[l.c]? = some (.cells arr elem fr) ∧ arr.size = l.N ∧ (fr.2 ≤ fr.1 ∨ l.N ≤ fr.1) ∧
      ∃ pre post, arr.toList = pre ++ post ∧ RelVs w0 φ cs pre)
  | .map es st => v = 0 ∧ ∃ ces clock, w.heap[l.c]? = some (.map ces clock) ∧ MapRel w0 φ es st ces clock

structure RelH (w0 : World) (φ : VMap) (h : VHeap) (w : World) : Prop where
  below : Below w0.heap.size w0 w
  lt : ∀ b v l, φ b v = some l → w0.heap.size ≤ l.c ∧ l.c < w.heap.size
  obj : ∀ b v l o, φ b v = some l → h.get b = some o → RelObj w0 φ w v l o
  sep : ∀ b v l b' v' l', φ b v = some l → φ b' v' = some l' → l.c = l'.c → b = b'

structure Ext (φ : VMap) (h : VHeap) (w : World) (φ' : VMap) (h' : VHeap) (w' : World) : Prop where
  le : φ.le φ'
  new : ∀ b v l, φ b v = none → φ' b v = some l →
    ((h.size ≤ b ∧ b < h'.size) ∨ ∃ v0 l0, φ b v0 = some l0 ∧ b < h.size) ∧ (w.heap.size ≤ l.c ∨ ∃ v0 l0, φ b v0 = some l0 ∧ l0.c = l.c ∧ b < h.size)
  pre : ∀ b v, h.size ≤ b → b < h'.size → φ b v = none
  hsize : h.size ≤ h'.size
  wsize : w.heap.size ≤ w'.heap.size
  vframe : ∀ b, b < h.size → (∀ v, φ b v = none) → h'.get b = h.get b
  cframe : ∀ c, c < w.heap.size → (∀ b v l, b < h.size → φ b v = some l → l.c ≠ c) → w'.heap[c]? = w.heap[c]?
  os : w'.os = w.os
  tape : w'.tape = w.tape
  output : w'.output = w.output

theorem Ext.refl (φ : VMap) (h : VHeap) (w : World) : Ext φ h w φ h w :=
  ⟨VMap.le.refl φ, fun _ _ _ a b => (by rw [a] at b; cases b), fun _ _ a b => (by omega), Nat.le_refl _, Nat.le_refl _, fun _ _ _ => rfl, fun _ _ _ => rfl, rfl, rfl, rfl⟩

theorem Ext.trans {φ φ1 φ2 : VMap} {h h1 h2 : VHeap} {w w1 w2 : World} (a : Ext φ h w φ1 h1 w1) (b : Ext φ1 h1 w1 φ2 h2 w2) : Ext φ h w φ2 h2 w2 := by
  have hs1 := a.hsize
  have hs2 := b.hsize
  have ws1 := a.wsize
  refine ⟨a.le.trans b.le, ?_, ?_, by omega, by have := b.wsize; omega, ?_, ?_, b.os.trans a.os, b.tape.trans a.tape, b.output.trans a.output⟩
  · intro k v l hn hs
    cases h1k : φ1 k v with
    | some l1 =>
      have e := b.le _ _ _ h1k
      rw [hs] at e
      cases e
      obtain ⟨p, q⟩ := a.new _ _ _ hn h1k
      exact ⟨p.imp (fun ⟨x, y⟩ => ⟨x, by omega⟩) id, q⟩
    | none =>
      obtain ⟨p, q⟩ := b.new _ _ _ h1k hs
      constructor
      · rcases p with ⟨x, y⟩ | ⟨v0, l0, h0, hlt⟩
        · exact .inl ⟨by omega, y⟩
        · cases hk0 : φ k v0 with
          | some l00 =>
            by_cases hb : k < h.size
            · exact .inr ⟨v0, l00, hk0, hb⟩
            · exact .inl ⟨by omega, by omega⟩
          | none =>
            exact (a.new _ _ _ hk0 h0).1.imp (fun ⟨x, y⟩ => ⟨x, by omega⟩) id
      · rcases q with x | ⟨v0, l0, h0, hc, hlt⟩
        · exact .inl (by omega)
        · cases hk0 : φ k v0 with
          | some l00 =>
            have e := a.le _ _ _ hk0
            rw [h0] at e
            cases e
            by_cases hb : k < h.size
            · exact .inr ⟨v0, l0, hk0, hc, hb⟩
            · have := a.pre k v0 (by omega) hlt
              rw [hk0] at this
              cases this
          | none =>
            rcases (a.new _ _ _ hk0 h0).2 with x | ⟨v00, l00, h00, hc0, hb⟩
            · exact .inl (by omega)
            · exact .inr ⟨v00, l00, h00, hc0.trans hc, hb⟩
  · intro k v h0 h1'
    by_cases hb : k < h1.size
    · exact a.pre k v h0 hb
    · have hn := b.pre k v (by omega) h1'
      cases hk : φ k v with
      | none => rfl
      | some l => have := a.le _ _ _ hk; rw [hn] at this; cases this
  · intro k hk hn
    have hn1 : ∀ v, φ1 k v = none := by
      intro v
      cases h1k : φ1 k v with
      | none => rfl
      | some l =>
        rcases (a.new _ _ _ (hn v) h1k).1 with ⟨x, _⟩ | ⟨v0, l0, h0, _⟩
        · omega
        · rw [hn v0] at h0; cases h0
    exact (b.vframe k (by omega) hn1).trans (a.vframe k hk hn)
  · intro c hc hn
    refine (b.cframe c (by omega) ?_).trans (a.cframe c hc hn)
    intro k v l hk h1k e
    cases h0k : φ k v with
    | some l0 =>
      have e' := a.le _ _ _ h0k
      rw [h1k] at e'
      cases e'
      by_cases hb : k < h.size
      · exact hn k v l hb h0k e
      · have := a.pre k v (by omega) hk
        rw [h0k] at this
        cases this
    | none =>
      rcases (a.new _ _ _ h0k h1k).2 with x | ⟨v0, l0, h0, hcc, hb⟩
      · omega
      · exact hn k v0 l0 hb h0 (hcc.trans e)

/- ---------------------------------------------------------------- lists -/

theorem cut0_eq : ∀ {xs : List VVal} {o n : Nat} {r : List VVal}, cut0 xs o n = some r → r = (xs.drop o).take n ∧ r.length = n := by
  intro xs
  induction xs with
  | nil =>
    intro o n r h
    cases n with
    | zero => simp [cut0] at h; subst h; simp
    | succ n => simp [cut0] at h
  | cons x xs ih =>
    intro o n r h
    cases n with
    | zero => simp [cut0] at h; subst h; simp
    | succ n =>
      cases o with
      | zero =>
        simp only [cut0] at h
        cases hc : cut0 xs 0 n with
        | none => simp [hc] at h
        | some r' =>
          simp [hc] at h
          subst h
          obtain ⟨e, l⟩ := ih hc
          simp [e] at l ⊢
          omega
      | succ o =>
        simp only [cut0] at h
        simpa using ih h

theorem cut_eq {xs : List VVal} {o n : Nat} {r : List VVal} (h : cut xs o n = some r) : r = (xs.drop o).take n ∧ r.length = n := by
  rw [cut_eq0] at h; exact cut0_eq h

theorem cut_get {xs : List VVal} {o n : Nat} {r : List VVal} (h : cut xs o n = some r) (i : Nat) (hi : i < n) : r[i]? = xs[o + i]? := by
  obtain ⟨e, _⟩ := cut_eq h
  subst e
  rw [List.getElem?_take, if_pos hi, List.getElem?_drop]

theorem cut_le {xs : List VVal} {o n : Nat} {r : List VVal} (h : cut xs o n = some r) : n = 0 ∨ o + n ≤ xs.length := by
  obtain ⟨e, l⟩ := cut_eq h
  subst e
  simp at l
  omega

theorem lay0_len : ∀ {xs : List VVal} {o : Nat} {ys r : List VVal}, lay0 xs o ys = some r → r.length = xs.length ∧ (ys = [] ∨ o + ys.length ≤ xs.length) := by
  intro xs
  induction xs with
  | nil =>
    intro o ys r h
    cases ys with
    | nil => simp [lay0] at h; subst h; simp
    | cons y ys => simp [lay0] at h
  | cons x xs ih =>
    intro o ys r h
    cases ys with
    | nil => simp [lay0] at h; subst h; simp
    | cons y ys =>
      cases o with
      | zero =>
        simp only [lay0] at h
        cases hc : lay0 xs 0 ys with
        | none => simp [hc] at h
        | some r' =>
          simp [hc] at h; subst h
          obtain ⟨a, b⟩ := ih hc
          refine ⟨by simp [a], .inr ?_⟩
          rcases b with rfl | b
          · simp
          · simp; omega
      | succ o =>
        simp only [lay0] at h
        cases hc : lay0 xs o (y :: ys) with
        | none => simp [hc] at h
        | some r' =>
          simp [hc] at h; subst h
          obtain ⟨a, b⟩ := ih hc
          simp at b
          simp [a]; omega

theorem lay_len {xs : List VVal} {o : Nat} {ys r : List VVal} (h : lay xs o ys = some r) : r.length = xs.length ∧ (ys = [] ∨ o + ys.length ≤ xs.length) := by
  rw [lay_eq0] at h; exact lay0_len h

theorem lay0_get : ∀ {xs : List VVal} {o : Nat} {ys r : List VVal}, lay0 xs o ys = some r → ∀ i, r[i]? = if o ≤ i ∧ i < o + ys.length then ys[i - o]? else xs[i]? := by
  intro xs
  induction xs with
  | nil =>
    intro o ys r h i
    cases ys with
    | nil => simp [lay0] at h; subst h; simp
    | cons y ys => simp [lay0] at h
  | cons x xs ih =>
    intro o ys r h i
    cases ys with
    | nil =>
      simp [lay0] at h; subst h
      rw [if_neg]
      simp
    | cons y ys =>
      cases o with
      | zero =>
        simp only [lay0] at h
        cases hc : lay0 xs 0 ys with
        | none => simp [hc] at h
        | some r' =>
          simp [hc] at h; subst h
          cases i with
          | zero => simp
          | succ i => have := ih hc i; simp at this ⊢; exact this
      | succ o =>
        simp only [lay0] at h
        cases hc : lay0 xs o (y :: ys) with
        | none => simp [hc] at h
        | some r' =>
          simp [hc] at h; subst h
          cases i with
          | zero => simp
          | succ i =>
            have := ih hc i
            simp at this ⊢
            rw [this]
            congr 1
            simp; omega

theorem lay_get {xs : List VVal} {o : Nat} {ys r : List VVal} (h : lay xs o ys = some r) : ∀ i, r[i]? = if o ≤ i ∧ i < o + ys.length then ys[i - o]? else xs[i]? := by
  rw [lay_eq0] at h; exact lay0_get h

/- ---------------------------------------------------------------- maps -/

theorem intBeq_iff' {a b : Int} : intBeq a b = true ↔ a = b := by
  cases a with
  | ofNat a => cases b with
    | ofNat b => simp [intBeq]; omega
    | negSucc b => simp [intBeq]
  | negSucc a => cases b with
    | ofNat b => simp [intBeq]
    | negSucc b => simp [intBeq]

theorem natsBeq_iff : ∀ {a b : List Nat}, natsBeq a b = true ↔ a = b := by
  intro a
  simp only [natsBeq_eq]
  induction a with
  | nil => intro b; cases b <;> simp [natsBeq0]
  | cons x a ih => intro b; cases b with
    | nil => simp [natsBeq0]
    | cons y b => simp [natsBeq0, ih]

theorem code_inj' {k l : IntKind} (h : IntKind.code k = IntKind.code l) : k = l := by cases k <;> cases l <;> first | rfl | (exact absurd h (by decide))

theorem keyBeq_true {a b : VVal} (h : keyBeq a b = some true) : a = b := by
  unfold keyBeq at h
  split at h
  · split at h
    · rename_i hk
      injection h with h
      rw [intBeq_iff'.1 h, code_inj' (Nat.eq_of_beq_eq_true hk)]
    · cases h
  · injection h with h; rw [natsBeq_iff.1 h]
  · injection h with h
    rename_i x y
    cases x <;> cases y <;> simp at h <;> rfl
  · cases h

theorem intBeq_comm (a b : Int) : intBeq a b = intBeq b a := by
  rw [Bool.eq_iff_iff, intBeq_iff', intBeq_iff']; exact eq_comm
theorem natsBeq_comm (a b : List Nat) : natsBeq a b = natsBeq b a := by
  rw [Bool.eq_iff_iff, natsBeq_iff, natsBeq_iff]; exact eq_comm

theorem beq_comm_nat (a b : Nat) : Nat.beq a b = Nat.beq b a := by rw [Bool.eq_iff_iff]; simp; omega

theorem keyBeq_comm (a b : VVal) : keyBeq a b = keyBeq b a := by
  cases a <;> cases b <;> try rfl
  · rename_i x y; cases x <;> cases y <;> rfl
  · rename_i k n l m; simp only [keyBeq]; rw [beq_comm_nat, intBeq_comm]
  · rename_i x y; simp only [keyBeq]; rw [natsBeq_comm]

theorem KeysOk.perm {es es' : List (VVal × VVal)} (h : es.Perm es') (hk : KeysOk es) : KeysOk es' :=
  (h.pairwise_iff (fun {x y} hxy => by rw [keyBeq_comm]; exact hxy)).1 hk

theorem findV_cons (k : VVal) (p : VVal × VVal) (r : List (VVal × VVal)) : findV k (p :: r) = match keyBeq k p.1 with | some true => some (some p.2) | some false => findV k r | none => none := by
  rw [findV_eq0, findV_eq0]; obtain ⟨a, b⟩ := p; rfl

theorem findV_perm {k : VVal} {es es' : List (VVal × VVal)} (hp : es.Perm es') : KeysOk es → ∀ {r : Option VVal}, findV k es = some r → findV k es' = some r := by
  induction hp with
  | nil => intro _ r h; exact h
  | cons p _ ih =>
    intro hk r h
    rw [findV_cons] at h ⊢
    cases e : keyBeq k p.1 with
    | none => rw [e] at h; cases h
    | some b => rw [e] at h; cases b
                · exact ih (List.Pairwise.of_cons hk) h
                · exact h
  | swap p q l =>
    intro hk r h
    have hpq : keyBeq q.1 p.1 = some false := (List.pairwise_cons.1 hk).1 p (by simp)
    rw [findV_cons, findV_cons] at h
    rw [findV_cons, findV_cons]
    cases e : keyBeq k q.1 with
    | none => rw [e] at h; cases h
    | some b =>
      rw [e] at h
      cases b
      · simp only at h ⊢
        cases e2 : keyBeq k p.1 with
        | none => rw [e2] at h; cases h
        | some b => rw [e2] at h; cases b <;> exact h
      · have ek := keyBeq_true e
        have hkp : keyBeq k p.1 = some false := by rw [ek]; exact hpq
        rw [hkp]; exact h
  | trans h1 _ ih1 ih2 => intro hk r h; exact ih2 (hk.perm h1) (ih1 hk h)

theorem putV_cons (k x : VVal) (p : VVal × VVal) (r : List (VVal × VVal)) : putV k x (p :: r) = match keyBeq k p.1 with | some true => some ((k, x) :: r) | some false => (match putV k x r with | some r' => some (p :: r') | none => none) | none => none := by
  obtain ⟨a, b⟩ := p; rfl

theorem putV_perm {k x : VVal} {es es' : List (VVal × VVal)} (hp : es.Perm es') : KeysOk es → ∀ {r : List (VVal × VVal)}, putV k x es = some r → ∃ r', putV k x es' = some r' ∧ r.Perm r' := by
  induction hp with
  | nil => intro _ r h; exact ⟨r, h, .refl _⟩
  | @cons p l1 l2 hp ih =>
    intro hk r h
    rw [putV_cons] at h
    rw [putV_cons]
    cases e : keyBeq k p.1 with
    | none => rw [e] at h; cases h
    | some b =>
      rw [e] at h
      cases b
      · simp only at h ⊢
        cases e1 : putV k x l1 with
        | none => rw [e1] at h; cases h
        | some r1 =>
          rw [e1] at h; injection h with h; subst h
          obtain ⟨r', e2, e3⟩ := ih (List.Pairwise.of_cons hk) e1
          exact ⟨p :: r', by rw [e2], .cons _ e3⟩
      · injection h with h; subst h; exact ⟨_, rfl, .cons _ hp⟩
  | swap p q l =>
    intro hk r h
    have hpq : keyBeq q.1 p.1 = some false := (List.pairwise_cons.1 hk).1 p (by simp)
    rw [putV_cons, putV_cons] at h
    rw [putV_cons, putV_cons]
    cases e : keyBeq k q.1 with
    | none => rw [e] at h; cases h
    | some b =>
      rw [e] at h
      cases b
      · simp only at h ⊢
        cases e2 : keyBeq k p.1 with
        | none => rw [e2] at h; cases h
        | some b =>
          rw [e2] at h
          cases b
          · simp only at h ⊢
            cases e3 : putV k x l with
            | none => rw [e3] at h; cases h
            | some r2 => rw [e3] at h; injection h with h; subst h; exact ⟨p :: q :: r2, rfl, .swap _ _ _⟩
          · simp only at h ⊢; injection h with h; subst h; exact ⟨_, rfl, .swap _ _ _⟩
      · have ek := keyBeq_true e
        have hkp : keyBeq k p.1 = some false := by rw [ek]; exact hpq
        rw [hkp]
        injection h with h; subst h
        exact ⟨p :: (k, x) :: l, rfl, .swap _ _ _⟩
  | trans h1 _ ih1 ih2 =>
    intro hk r h
    obtain ⟨r1, e1, p1⟩ := ih1 hk h
    obtain ⟨r2, e2, p2⟩ := ih2 (hk.perm h1) e1
    exact ⟨r2, e2, p1.trans p2⟩

theorem putV_keys {k x : VVal} : ∀ {es r : List (VVal × VVal)}, putV k x es = some r → ∀ q ∈ r, q.1 = k ∨ ∃ p ∈ es, p.1 = q.1 := by
  intro es
  induction es with
  | nil => intro r h q hq; simp [putV] at h; subst h; simp at hq; exact .inl (by rw [hq])
  | cons p es ih =>
    intro r h q hq
    rw [putV_cons] at h
    split at h
    · injection h with h; subst h
      rcases List.mem_cons.1 hq with rfl | hq
      · exact .inl rfl
      · exact .inr ⟨q, by simp [hq], rfl⟩
    · split at h
      · rename_i r1 e1
        injection h with h; subst h
        rcases List.mem_cons.1 hq with rfl | hq
        · exact .inr ⟨q, by simp, rfl⟩
        · rcases ih e1 q hq with h | ⟨p', h1, h2⟩
          · exact .inl h
          · exact .inr ⟨p', by simp [h1], h2⟩
      · cases h
    · cases h

theorem KeysOk.put {k x : VVal} : ∀ {es r : List (VVal × VVal)}, KeysOk es → putV k x es = some r → KeysOk r := by
  intro es
  induction es with
  | nil => intro r _ h; simp [putV] at h; subst h; exact List.pairwise_singleton _ _
  | cons p es ih =>
    intro r hk h
    obtain ⟨h1, h2⟩ := List.pairwise_cons.1 hk
    rw [putV_cons] at h
    split at h
    · rename_i e
      injection h with h; subst h
      refine List.pairwise_cons.2 ⟨fun q hq => ?_, h2⟩
      rw [keyBeq_true e]; exact h1 q hq
    · rename_i e
      split at h
      · rename_i r1 e1
        injection h with h; subst h
        refine List.pairwise_cons.2 ⟨fun q hq => ?_, ih h2 e1⟩
        rcases putV_keys e1 q hq with h3 | ⟨p', h3, h4⟩
        · rw [h3, keyBeq_comm]; exact e
        · rw [← h4]; exact h1 p' h3
      · cases h
    · cases h

theorem delV_cons (k : VVal) (p : VVal × VVal) (r : List (VVal × VVal)) : delV k (p :: r) = match keyBeq k p.1 with | some true => some r | some false => (match delV k r with | some r' => some (p :: r') | none => none) | none => none := by
  obtain ⟨a, b⟩ := p; rfl

theorem delV_perm {k : VVal} {es es' : List (VVal × VVal)} (hp : es.Perm es') : KeysOk es → ∀ {r : List (VVal × VVal)}, delV k es = some r → ∃ r', delV k es' = some r' ∧ r.Perm r' := by
  induction hp with
  | nil => intro _ r h; exact ⟨r, h, .refl _⟩
  | @cons p l1 l2 hp ih =>
    intro hk r h
    rw [delV_cons] at h
    rw [delV_cons]
    cases e : keyBeq k p.1 with
    | none => rw [e] at h; cases h
    | some b =>
      rw [e] at h
      cases b
      · simp only at h ⊢
        cases e1 : delV k l1 with
        | none => rw [e1] at h; cases h
        | some r1 =>
          rw [e1] at h; injection h with h; subst h
          obtain ⟨r', e2, e3⟩ := ih (List.Pairwise.of_cons hk) e1
          exact ⟨p :: r', by rw [e2], .cons _ e3⟩
      · injection h with h; subst h; exact ⟨_, rfl, hp⟩
  | swap p q l =>
    intro hk r h
    have hpq : keyBeq q.1 p.1 = some false := (List.pairwise_cons.1 hk).1 p (by simp)
    rw [delV_cons, delV_cons] at h
    rw [delV_cons, delV_cons]
    cases e : keyBeq k q.1 with
    | none => rw [e] at h; cases h
    | some b =>
      rw [e] at h
      cases b
      · simp only at h ⊢
        cases e2 : keyBeq k p.1 with
        | none => rw [e2] at h; cases h
        | some b =>
          rw [e2] at h
          cases b
          · simp only at h ⊢
            cases e3 : delV k l with
            | none => rw [e3] at h; cases h
            | some r2 => rw [e3] at h; injection h with h; subst h; exact ⟨p :: q :: r2, rfl, .swap _ _ _⟩
          · simp only at h ⊢; injection h with h; subst h; exact ⟨_, rfl, .refl _⟩
      · have ek := keyBeq_true e
        have hkp : keyBeq k p.1 = some false := by rw [ek]; exact hpq
        rw [hkp]
        injection h with h; subst h
        exact ⟨p :: l, rfl, .refl _⟩
  | trans h1 _ ih1 ih2 =>
    intro hk r h
    obtain ⟨r1, e1, p1⟩ := ih1 hk h
    obtain ⟨r2, e2, p2⟩ := ih2 (hk.perm h1) e1
    exact ⟨r2, e2, p1.trans p2⟩

theorem delV_mem {k : VVal} : ∀ {es r : List (VVal × VVal)}, delV k es = some r → r.Sublist es := by
  intro es
  induction es with
  | nil => intro r h; simp [delV] at h; subst h; exact .slnil
  | cons p es ih =>
    intro r h
    rw [delV_cons] at h
    split at h
    · injection h with h; subst h; exact List.sublist_cons_self _ _
    · split at h
      · rename_i r1 e1; injection h with h; subst h; exact (ih e1).cons_cons _
      · cases h
    · cases h

theorem KeysOk.del {k : VVal} {es r : List (VVal × VVal)} (hk : KeysOk es) (h : delV k es = some r) : KeysOk r := List.Pairwise.sublist (delV_mem h) hk

section
variable {P : Program} {w0 : World} {φ : VMap} {h : VHeap} {w : World}

theorem RelCells.get {g : Nat} : ∀ {xs : List VVal} {off : Nat}, RelCells w0 φ g off xs → ∀ i x, xs[i]? = some x → ∃ y, w0.cell? ⟨g, off + i, none⟩ = some y ∧ RelV w0 φ x y := by
  intro xs
  induction xs with
  | nil => intro off _ i x hx; simp at hx
  | cons a xs ih =>
    intro off hr i x hx
    cases hr with
    | cons hc hv hs =>
      cases i with
      | zero => simp at hx; subst hx; exact ⟨_, hc, hv⟩
      | succ i =>
        obtain ⟨y, h1, h2⟩ := ih hs i x (by simpa using hx)
        exact ⟨y, by rw [← h1]; congr 2; omega, h2⟩

theorem RelCells.drop {g : Nat} : ∀ {xs : List VVal} {off : Nat}, RelCells w0 φ g off xs → ∀ n, RelCells w0 φ g (off + n) (xs.drop n) := by
  intro xs
  induction xs with
  | nil => intro off _ n; simp; exact .nil _ _
  | cons a xs ih =>
    intro off hr n
    cases n with
    | zero => simpa using hr
    | succ n =>
      cases hr with
      | cons hc hv hs => have := ih hs n; rw [List.drop_succ_cons]; rwa [show off + (n + 1) = off + 1 + n by omega]

theorem RelCells.take {g : Nat} : ∀ {xs : List VVal} {off : Nat}, RelCells w0 φ g off xs → ∀ n, RelCells w0 φ g off (xs.take n) := by
  intro xs
  induction xs with
  | nil => intro off _ n; simp; exact .nil _ _
  | cons a xs ih =>
    intro off hr n
    cases n with
    | zero => simp; exact .nil _ _
    | succ n =>
      cases hr with
      | cons hc hv hs => exact .cons hc hv (ih hs n)

/-- A list of values that stand to cells one by one. -/
theorem relVs_of_get : ∀ {xs : List VVal} (f : Nat → Option Value), (∀ i x, xs[i]? = some x → ∃ y, f i = some y ∧ RelV w0 φ x y) →
    ∃ ys, RelVs w0 φ xs ys ∧ ∀ j y, ys[j]? = some y → f j = some y := by
  intro xs
  induction xs with
  | nil => intro f _; exact ⟨[], .nil, fun j y hy => by simp at hy⟩
  | cons a xs ih =>
    intro f hf
    obtain ⟨y, hy, hr⟩ := hf 0 a (by simp)
    obtain ⟨ys, h1, h2⟩ := ih (fun i => f (i + 1)) (fun i x hx => hf (i + 1) x (by simpa using hx))
    refine ⟨y :: ys, .cons hr h1, fun j z hz => ?_⟩
    cases j with
    | zero => simp at hz; subst hz; exact hy
    | succ j => exact h2 j z (by simpa using hz)

theorem RelH.cell_old (H : RelH w0 φ h w) {g o : Nat} (hg : g < w0.heap.size) : w.cell? ⟨g, o, none⟩ = w0.cell? ⟨g, o, none⟩ := H.below.cell (p := ⟨g, o, none⟩) hg

theorem RelObj.cell {v : Nat} {l : Loc} {cs : List VVal} {elem : TypeId} (ho : RelObj w0 φ w v l (.cells cs elem v)) (i : Nat) (x : VVal) (hx : cs[i]? = some x) :
    ∃ y, w.cell? ⟨l.c, i, none⟩ = some y ∧ RelV w0 φ x y := by
  obtain ⟨_, ho⟩ := ho
  obtain ⟨arr, fr, hb, hN, hf, pre, post, hpp, hr⟩ := ho rfl
  obtain ⟨y, hy, hrel⟩ := hr.get i hx
  refine ⟨y, ?_, hrel⟩
  rw [cell_of_row w l.c i arr elem fr hb, ← Array.getElem?_toList, hpp]
  rw [List.getElem?_append_left (by have := List.getElem?_eq_some_iff.1 hy; exact this.1)]
  exact hy

/-- What the virtual heap reads, the world holds. -/
theorem load_rel (H : RelH w0 φ h w) {p : VVal} {y : Value} (hp : RelV w0 φ p y) {n : Nat} {cs : List VVal} (hl : h.load p n = some cs) :
    ∃ g off, y = .pointer (some ⟨g, off, none⟩) ∧ cs.length = n ∧ ∃ ys, RelVs w0 φ cs ys ∧ ∀ j v, ys[j]? = some v → w.cell? ⟨g, off + j, none⟩ = some v := by
  cases hp with
  | rptr hg hc =>
    rename_i g off cs0
    simp only [VHeap.load] at hl
    refine ⟨_, _, rfl, (cut_eq hl).2, ?_⟩
    refine relVs_of_get (fun j => w.cell? ⟨g, off + j, none⟩) (fun i x hx => ?_)
    have hi : i < n := by obtain ⟨hlt, _⟩ := List.getElem?_eq_some_iff.1 hx; have := (cut_eq hl).2; omega
    rw [cut_get hl i hi, Nat.zero_add] at hx
    obtain ⟨y, h1, h2⟩ := hc.get i x hx
    exact ⟨y, by rw [H.cell_old hg]; exact h1, h2⟩
  | ptr hφ =>
    rename_i b v off l
    simp only [VHeap.load] at hl
    cases hb : h.get b with
    | none => simp [hb] at hl
    | some o =>
      cases o with
      | map es => simp [hb] at hl
      | cells cs0 elem ver =>
        simp only [hb] at hl
        split at hl
        · rename_i hv
          have hv : v = ver := by simpa using hv
          subst hv
          have ho := H.obj _ _ _ _ hφ hb
          refine ⟨_, _, rfl, (cut_eq hl).2, ?_⟩
          refine relVs_of_get (fun j => w.cell? ⟨l.c, off + j, none⟩) (fun i x hx => ?_)
          have hi : i < n := by obtain ⟨hlt, _⟩ := List.getElem?_eq_some_iff.1 hx; have := (cut_eq hl).2; omega
          rw [cut_get hl i hi] at hx
          exact ho.cell _ _ hx
        · cases hl
  | _ => simp [VHeap.load] at hl

theorem addr_add (g off n : Nat) : (⟨g, off, none⟩ : Addr).add n = ⟨g, off + n, none⟩ := by
  unfold Addr.add; split
  · subst_vars; rfl
  · rfl

theorem run_loadCells_rel {g off n : Nat} {cs : List VVal} {ys : List Value} (hlen : cs.length = n) (hr : RelVs w0 φ cs ys) (hc : ∀ j v, ys[j]? = some v → w.cell? ⟨g, off + j, none⟩ = some v) :
    (loadCells ⟨g, off, none⟩ n).run P w = .ok ⟨ys⟩ w := by
  have := run_loadCells_list (P := P) (w := w) ⟨g, off, none⟩ ys (fun j v hv => by rw [addr_add]; exact hc j v hv)
  rw [← hlen, hr.length]
  simpa using this

/- ---------------------------------------------------------------- writing -/

/-- A row with others written over it. -/
def writeRow (arr : List Value) : Nat → List Value → List Value
  | _, [] => arr
  | o, v :: vs => writeRow (arr.set o v) (o + 1) vs

theorem writeRow_length (vs : List Value) : ∀ (arr : List Value) (o : Nat), (writeRow arr o vs).length = arr.length := by
  induction vs with
  | nil => intro arr o; rfl
  | cons v vs ih => intro arr o; simp [writeRow, ih]

theorem writeRow_get (vs : List Value) : ∀ (arr : List Value) (o : Nat), o + vs.length ≤ arr.length → ∀ i, (writeRow arr o vs)[i]? = if o ≤ i ∧ i < o + vs.length then vs[i - o]? else arr[i]? := by
  induction vs with
  | nil =>
    intro arr o _ i
    rw [if_neg (by simp)]; rfl
  | cons v vs ih =>
    intro arr o hle i
    simp only [List.length_cons] at hle
    simp only [writeRow]
    rw [ih (arr.set o v) (o + 1) (by simp; omega) i]
    by_cases h1 : i = o
    · subst h1
      rw [if_neg (by omega), if_pos ⟨by omega, by simp⟩]
      have : i < arr.length := by omega
      simp [this]
    · by_cases h2 : o + 1 ≤ i ∧ i < o + 1 + vs.length
      · rw [if_pos h2, if_pos (by simp; omega)]
        rw [show i - o = (i - (o + 1)) + 1 by omega]
        simp
      · rw [if_neg h2, if_neg (by simp; omega)]
        rw [List.getElem?_set_ne (by omega)]

theorem setCell_heap {w : World} {c off : Nat} {arr : Array Value} {e : TypeId} {fr : Nat × Nat} (hb : w.heap[c]? = some (.cells arr e fr)) (v : Value) (c' : Nat) :
    (w.setCell ⟨c, off, none⟩ v).heap[c']? = if c' = c then some (.cells (arr.setIfInBounds off v) e fr) else w.heap[c']? := by
  simp only [World.setCell, Array.getElem?_modify]
  by_cases hcc : c' = c
  · subst hcc; simp [hb]
  · simp [hcc, Ne.symm hcc]

theorem run_storeCells_row (c o : Nat) (e : TypeId) (fr : Nat × Nat) : ∀ (vs : List Value) (i : Nat) (arr : Array Value) (w : World), w.heap[c]? = some (.cells arr e fr) →
    o + i + vs.length ≤ arr.size → (fr.2 ≤ fr.1 ∨ arr.size ≤ fr.1) → (∀ v ∈ vs, v.oneCell' = true) →
    ∃ w', (storeCells ⟨c, o, none⟩ vs i).run P w = .ok () w' ∧ w'.heap.size = w.heap.size ∧ w'.os = w.os ∧ w'.tape = w.tape ∧ w'.output = w.output ∧ w'.drawn = w.drawn ∧
      ∀ c', w'.heap[c']? = if c' = c then some (.cells ⟨writeRow arr.toList (o + i) vs⟩ e fr) else w.heap[c']? := by
  intro vs
  induction vs with
  | nil =>
    intro i arr w hb _ _ _
    refine ⟨w, rfl, rfl, rfl, rfl, rfl, rfl, fun c' => ?_⟩
    by_cases hcc : c' = c
    · subst hcc; simp [writeRow, hb]
    · simp [hcc]
  | cons v vs ih =>
    intro i arr w hb hle hfr hone
    simp only [List.length_cons] at hle
    have hcell : w.cell? ⟨c, o + i, none⟩ = some (arr[o + i]'(by omega)) := by
      rw [cell_of_row w c (o + i) arr e fr hb]; simp
    have hfro : w.frozen? ⟨c, o + i, none⟩ = false := by
      simp only [World.frozen?, hb, Bool.and_eq_false_iff, decide_eq_false_iff_not]
      omega
    have hb2 := setCell_heap (off := o + i) hb v
    obtain ⟨w', h1, h2, h3, h4, h5, h6, h7⟩ := ih (i + 1) (arr.setIfInBounds (o + i) v) (w.setCell ⟨c, o + i, none⟩ v) (by rw [hb2]; simp) (by simp; omega) (by simpa using hfr) (fun x hx => hone x (by simp [hx]))
    refine ⟨w', ?_, by rw [h2]; simp, by rw [h3]; rfl, by rw [h4]; rfl, by rw [h5]; rfl, by rw [h6]; rfl, fun c' => ?_⟩
    · simp only [storeCells, Sem.run_bind, addr_add]
      rw [run_store P w ⟨c, o + i, none⟩ v _ (hone v (by simp)), hcell]
      simp only [hfro, Bool.false_eq_true, if_false, Result.andThen_ok]
      exact h1
    · rw [h7 c', hb2 c']
      by_cases hcc : c' = c
      · subst hcc
        simp only [if_true, writeRow]
        have hlt : o + i < arr.size := by omega
        simp [Array.setIfInBounds, Nat.add_assoc, hlt]
      · simp [hcc]
end
end Go.V
