/- Drawn regions: what is known of the record of a run in the text's order; the invariant; the induction over all orders. -/
import Derived.Test.YthefbgflndpggaaV21
set_option linter.unusedSimpArgs false
set_option linter.unusedVariables false
namespace Go.V
open Go.RowKit

/-- The last value that was put into a temporary by those of the first k operations that are in s. -/
def lastW (ts0 : List VVal) (dst : Nat → Option Nat) (v : Nat → VVal) (s : Nat → Bool) : Nat → Nat → VVal
  | 0, t => tmpAt ts0 t
  | k + 1, t => if s k = true ∧ dst k = some t then v k else lastW ts0 dst v s k t

structure DrawFacts (P : Program) (call : VCaller) (n : Nat) (o : Nat → Oper) (v : Nat → VVal) (H : Nat → VHeap) (did : Nat → Bool) (mts : Nat → List VVal) (rd pre : Nat → List Nat) (g : Nat → Option (Nat × Bool)) (ts0 : List VVal) : Prop where
  step : ∀ i, i < n → did i = true → stepV call (opV P (o i).op) (mts i) (H i) = some (v i, H (i + 1))
  nopanic : ∀ i, i < n → did i = true → panOf (opV P (o i).op).kind (v i) = none
  skip : ∀ i, i < n → did i = false → v i = .undef ∧ H (i + 1) = H i
  guard : ∀ i, i < n → guardKnown (g i) (mts i) = true ∧ wantedV (g i) (mts i) = did i
  masklen : ∀ i, i < n → (mts i).length = ts0.length
  mask : ∀ i, i < n → ∀ t, t < ts0.length → (t ∈ rd i ∧ (mts i)[t]? = some (lastW ts0 (fun j => (o j).dst) v (fun _ => true) i t)) ∨ (mts i)[t]? = some .poison
  calmR : ∀ j, j < n → did j = true → (opV P (o j).op).kind = .read → ∀ i, i < j → did i = true → loudK (opV P (o i).op).kind = true → i ∉ pre j → (opV P (o j).op).read (mts j) (H i) = some (v j)
  calmL : ∀ i, i < n → did i = true → loudK (opV P (o i).op).kind = true → ∀ j, j < i → did j = true → (opV P (o j).op).kind = .read → j ∉ pre i → (opV P (o j).op).read (mts j) (H (i + 1)) = some (v j)
  loose : ∀ i j, i < j → j < n → i ∈ pre j ∨ (¬ (loudK (opV P (o i).op).kind = true ∧ loudK (opV P (o j).op).kind = true) ∧ (∀ d, (o i).dst = some d → d ∉ rd j ∧ (o j).dst ≠ some d) ∧ (∀ d, (o j).dst = some d → d ∉ rd i))
  pre_lt : ∀ i, i < n → ∀ k ∈ pre i, k < i

section
variable {P : Program} {w0 : World} {call : VCaller} {n : Nat} {o : Nat → Oper} {v : Nat → VVal} {H : Nat → VHeap} {did : Nat → Bool} {mts : Nat → List VVal} {rd pre : Nat → List Nat} {g : Nat → Option (Nat × Bool)} {ts0 : List VVal}

/-- Writes and calls that were done. -/
def LoudDid (P : Program) (o : Nat → Oper) (did : Nat → Bool) (i : Nat) : Prop := did i = true ∧ loudK (opV P (o i).op).kind = true

/-- New blocks that were made. -/
def FreshDid (P : Program) (o : Nat → Oper) (did : Nat → Bool) (mts : Nat → List VVal) (i : Nat) (x : VObj) (mk : Nat → VVal) : Prop := did i = true ∧ (opV P (o i).op).kind = .fresh ∧ (opV P (o i).op).fresh (mts i) = some (x, mk)

theorem DrawFacts.cases (F : DrawFacts P call n o v H did mts rd pre g ts0) {i : Nat} (hi : i < n) :
    (did i = false) ∨ (did i = true ∧ (opV P (o i).op).kind = .read ∧ (opV P (o i).op).read (mts i) (H i) = some (v i) ∧ H (i + 1) = H i) ∨
    (∃ x mk, FreshDid P o did mts i x mk ∧ v i = mk (H i).size ∧ H (i + 1) = (H i).new x) ∨ LoudDid P o did i := by
  cases hd : did i with
  | false => exact .inl rfl
  | true =>
    right
    have hs := F.step i hi hd
    cases hk : (opV P (o i).op).kind with
    | read =>
      left
      simp only [stepV, hk] at hs
      split at hs
      · rename_i v1 hv; injection hs with hs; injection hs with e1 e2; subst e1; exact ⟨rfl, rfl, hv, e2.symm⟩
      · cases hs
    | fresh =>
      right; left
      simp only [stepV, hk] at hs
      split at hs
      · rename_i x mk hf; injection hs with hs; injection hs with e1 e2; exact ⟨x, mk, ⟨hd, hk, hf⟩, e1.symm, e2.symm⟩
      · cases hs
    | write => right; right; exact ⟨hd, by rw [hk]; rfl⟩
    | call => right; right; exact ⟨hd, by rw [hk]; rfl⟩
    | panic =>
      exfalso
      simp only [stepV, hk] at hs
      split at hs
      · injection hs with hs; injection hs with e1 e2
        have := F.nopanic i hi hd
        rw [hk, ← e1] at this; cases this
      · cases hs

theorem DrawFacts.size_succ (F : DrawFacts P call n o v H did mts rd pre g ts0) (hm : CallerMono call) {i : Nat} (hi : i < n) : (H i).size ≤ (H (i + 1)).size := by
  cases hd : did i with
  | false => rw [(F.skip i hi hd).2]; exact Nat.le_refl _
  | true => exact stepV_size hm (F.step i hi hd)

theorem DrawFacts.size_mono (F : DrawFacts P call n o v H did mts rd pre g ts0) (hm : CallerMono call) {i j : Nat} (hij : i ≤ j) (hj : j ≤ n) : (H i).size ≤ (H j).size := by
  induction j with
  | zero =>
    obtain rfl : i = 0 := by omega
    exact Nat.le_refl _
  | succ j ih =>
    by_cases e : i = j + 1
    · subst e; exact Nat.le_refl _
    · exact Nat.le_trans (ih (by omega) (by omega)) (F.size_succ hm (by omega))

/-- Without a write or a call between, old blocks stay, and new ones are what they were made as. -/
theorem DrawFacts.quiet (F : DrawFacts P call n o v H did mts rd pre g ts0) (hm : CallerMono call) {e m : Nat} (hem : e ≤ m) (hmn : m ≤ n) (hq : ∀ i, e ≤ i → i < m → ¬ LoudDid P o did i) :
    (∀ b, b < (H e).size → (H m).get b = (H e).get b) ∧ (∀ i x mk, e ≤ i → i < m → FreshDid P o did mts i x mk → (H m).get (H i).size = some x) ∧
    (∀ b, (H e).size ≤ b → b < (H m).size → ∃ i x mk, e ≤ i ∧ i < m ∧ FreshDid P o did mts i x mk ∧ b = (H i).size) := by
  induction m with
  | zero =>
    obtain rfl : e = 0 := by omega
    exact ⟨fun _ _ => rfl, fun i x mk _ h => by omega, fun b h1 h2 => by omega⟩
  | succ m ih =>
    by_cases hee : e = m + 1
    · subst hee; exact ⟨fun _ _ => rfl, fun i x mk h1 h2 => by omega, fun b h1 h2 => by omega⟩
    · obtain ⟨q1, q2, q3⟩ := ih (by omega) (by omega) (fun i h1 h2 => hq i h1 (by omega))
      have hes := F.size_mono hm (show e ≤ m by omega) (by omega)
      rcases F.cases (show m < n by omega) with hd | ⟨_, _, _, hH⟩ | ⟨x, mk, hf, hv, hH⟩ | hl
      · have hH := (F.skip m (by omega) hd).2
        rw [hH]
        refine ⟨q1, fun i y mk' h1 h2 hf => ?_, fun b h1 h2 => ?_⟩
        · by_cases e1 : i = m
          · subst e1; rw [hf.1] at hd; cases hd
          · exact q2 i y mk' h1 (by omega) hf
        · obtain ⟨i, y, mk', a1, a2, a3, a4⟩ := q3 b h1 h2; exact ⟨i, y, mk', a1, by omega, a3, a4⟩
      · rename_i hk _
        rw [hH]
        refine ⟨q1, fun i y mk' h1 h2 hf => ?_, fun b h1 h2 => ?_⟩
        · by_cases e1 : i = m
          · subst e1; rw [hf.2.1] at hk; cases hk
          · exact q2 i y mk' h1 (by omega) hf
        · obtain ⟨i, y, mk', a1, a2, a3, a4⟩ := q3 b h1 h2; exact ⟨i, y, mk', a1, by omega, a3, a4⟩
      · rw [hH]
        refine ⟨fun b hb => ?_, fun i y mk' h1 h2 hf' => ?_, fun b h1 h2 => ?_⟩
        · rw [VHeap.get_new, if_neg (by omega)]; exact q1 b hb
        · rw [VHeap.get_new]
          by_cases e1 : i = m
          · subst e1
            rw [if_pos rfl]
            have := hf.2.2; rw [hf'.2.2] at this; injection this with this; injection this with e1 e2; rw [e1]
          · have hlt := q2 i y mk' h1 (by omega) hf'
            rw [if_neg]
            · exact hlt
            · have := VHeap.lt_of_get hlt; omega
        · simp at h2
          by_cases e1 : b = (H m).size
          · exact ⟨m, x, mk, by omega, by omega, hf, e1⟩
          · obtain ⟨i, y, mk', a1, a2, a3, a4⟩ := q3 b h1 (by omega); exact ⟨i, y, mk', a1, by omega, a3, a4⟩
      · exact (hq m (by omega) (by omega) hl).elim

/-- A fresh block's number is its own. -/
theorem DrawFacts.fresh_inj (F : DrawFacts P call n o v H did mts rd pre g ts0) (hm : CallerMono call) {i j : Nat} {x y : VObj} {mk mk' : Nat → VVal} (hi : i < n) (hj : j < n) (h1 : FreshDid P o did mts i x mk) (h2 : FreshDid P o did mts j y mk') (he : (H i).size = (H j).size) : i = j := by
  have grow : ∀ {i j : Nat} {x : VObj} {mk : Nat → VVal}, i < j → j < n → FreshDid P o did mts i x mk → (H i).size < (H j).size := by
    intro i j x mk hij hj h
    have hs := F.step i (by omega) h.1
    simp only [stepV, h.2.1, h.2.2, Option.some.injEq, Prod.mk.injEq] at hs
    have := F.size_mono hm (show i + 1 ≤ j by omega) (by omega)
    rw [← hs.2] at this
    simp at this; omega
  rcases Nat.lt_trichotomy i j with h | h | h
  · have := grow h hj h1; omega
  · exact h
  · have := grow h hi h2; omega

structure Inv (P : Program) (w0 : World) (n : Nat) (o : Nat → Oper) (v : Nat → VVal) (H : Nat → VHeap) (did : Nat → Bool) (mts : Nat → List VVal) (pre : Nat → List Nat) (ts0 : List VVal) (φ0 : VMap) (wi : World) (ds : List Deferred)
    (s : Nat → Bool) (e : Nat) (φ : VMap) (a : Act) (w : World) : Prop where
  closed : ∀ i, i < n → s i = true → ∀ k ∈ pre i, s k = true
  tsize : a.tmps.size = ts0.length
  temps : ∀ t, t < ts0.length → RelV w0 φ (lastW ts0 (fun j => (o j).dst) v s n t) (a.tmps.getD t Go.undef)
  defers : a.defers = ds
  ele : e ≤ n
  above : ∀ i, e ≤ i → i < n → s i = true → ¬ LoudDid P o did i
  belowE : ∀ i, i < e → LoudDid P o did i → s i = true
  top : e = 0 ∨ ∃ i, e = i + 1 ∧ i < n ∧ s i = true ∧ LoudDid P o did i
  rel : RelH w0 φ (H e) w
  early : ∀ i x mk, i < n → s i = true → e ≤ i → FreshDid P o did mts i x mk → ∃ l, φ (H i).size 0 = some l ∧ RelObj w0 φ w 0 l x
  dom : ∀ b k l, φ b k = some l → (H e).size ≤ b → b < (H n).size → ∃ i x mk, i < n ∧ s i = true ∧ e ≤ i ∧ FreshDid P o did mts i x mk ∧ b = (H i).size ∧ k = 0
  late : ∀ i x mk, i < e → s i = false → FreshDid P o did mts i x mk → (∀ k, φ (H i).size k = none) ∧ (H e).get (H i).size = some x
  le : φ0.le φ
  new : ∀ b k l, φ0 b k = none → φ b k = some l → (((H 0).size ≤ b ∧ b < (H n).size) ∨ ∃ k0 l0, φ0 b k0 = some l0 ∧ b < (H 0).size) ∧ (wi.heap.size ≤ l.c ∨ ∃ k0 l0, φ0 b k0 = some l0 ∧ l0.c = l.c ∧ b < (H 0).size)
  vframe : ∀ b, b < (H 0).size → (∀ k, φ0 b k = none) → (H e).get b = (H 0).get b
  cframe : ∀ c, c < wi.heap.size → (∀ b k l, b < (H 0).size → φ0 b k = some l → l.c ≠ c) → w.heap[c]? = wi.heap[c]?
  wsize : wi.heap.size ≤ w.heap.size
  os : w.os = wi.os
  tape : w.tape = wi.tape
  output : w.output = wi.output

variable {φ0 : VMap} {wi : World} {ds : List Deferred} {s : Nat → Bool} {e : Nat} {φ : VMap} {a : Act} {w : World}

theorem Inv.relAt (F : DrawFacts P call n o v H did mts rd pre g ts0) (hm : CallerMono call) (I : Inv P w0 n o v H did mts pre ts0 φ0 wi ds s e φ a w) {m : Nat} (hem : e ≤ m) (hmn : m ≤ n) (hq : ∀ i, e ≤ i → i < m → ¬ LoudDid P o did i) : RelH w0 φ (H m) w := by
  obtain ⟨q1, q2, q3⟩ := F.quiet hm hem hmn hq
  refine ⟨I.rel.below, I.rel.lt, ?_, I.rel.sep⟩
  intro b k l ob h1 hg
  by_cases hb : b < (H e).size
  · rw [q1 b hb] at hg; exact I.rel.obj _ _ _ _ h1 hg
  · have hbm0 := VHeap.lt_of_get hg
    have hmn0 := F.size_mono hm hmn (Nat.le_refl _)
    obtain ⟨i, x, mk, hi, hsi, hei, hf, rfl, rfl⟩ := I.dom b k l h1 (by omega) (by omega)
    have hbm := VHeap.lt_of_get hg
    have him : i < m := by
      rcases Nat.lt_or_ge i m with h | h
      · exact h
      · have := F.size_mono hm h (by omega); omega
    rw [q2 i x mk hei him hf] at hg
    injection hg with hg; subst hg
    obtain ⟨l', h1', h2⟩ := I.early i x mk hi hsi hei hf
    rw [h1] at h1'; injection h1' with h1'; subst h1'
    exact h2

theorem lastW_add (F : DrawFacts P call n o v H did mts rd pre g ts0) {j : Nat} (hj : j < n) (hsj : s j = false) (hcl : ∀ i, i < n → s i = true → ∀ k ∈ pre i, s k = true) (t : Nat) :
    ∀ k, k ≤ n → lastW ts0 (fun i => (o i).dst) v (fun i => s i || (i == j)) k t = if j < k ∧ (o j).dst = some t then v j else lastW ts0 (fun i => (o i).dst) v s k t := by
  intro k
  induction k with
  | zero => intro _; simp [lastW]
  | succ k ih =>
    intro hk
    simp only [lastW]
    by_cases hkj : k = j
    · subst hkj
      by_cases hd : (o k).dst = some t
      · simp [hd]
      · simp [hd, ih (by omega)]
    · have e1 : (s k || (k == j)) = s k := by simp [hkj]
      rw [ih (by omega)]
      by_cases hc : s k = true ∧ (o k).dst = some t
      · rw [if_pos ⟨by rw [e1]; exact hc.1, hc.2⟩, if_pos hc, if_neg]
        rintro ⟨h1, h2⟩
        rcases F.loose j k (by omega) (by omega) with h | ⟨_, h, _⟩
        · have := hcl k (by omega) hc.1 j h; rw [hsj] at this; cases this
        · exact (h t h2).2 hc.2
      · rw [if_neg (fun h => hc ⟨by rw [← e1]; exact h.1, h.2⟩), if_neg hc]
        by_cases h2 : j < k ∧ (o j).dst = some t
        · rw [if_pos h2, if_pos ⟨by omega, h2.2⟩]
        · rw [if_neg h2, if_neg]
          rintro ⟨h3, h4⟩; exact h2 ⟨by omega, h4⟩

theorem lastW_reads (F : DrawFacts P call n o v H did mts rd pre g ts0) {j : Nat} (hj : j < n) (hsj : s j = false) (hcl : ∀ i, i < n → s i = true → ∀ k ∈ pre i, s k = true) (hpre : ∀ k ∈ pre j, s k = true) {t : Nat} (ht : t ∈ rd j) :
    ∀ k, k ≤ n → lastW ts0 (fun i => (o i).dst) v s k t = lastW ts0 (fun i => (o i).dst) v (fun _ => true) (min k j) t := by
  intro k
  induction k with
  | zero => intro _; simp [lastW]
  | succ k ih =>
    intro hk
    simp only [lastW]
    rw [ih (by omega)]
    by_cases hkj : k < j
    · have e1 : min (k + 1) j = k + 1 := by omega
      have e2 : min k j = k := by omega
      rw [e1, e2]
      simp only [lastW, true_and]
      by_cases hd : (o k).dst = some t
      · have hsk : s k = true := by
          rcases F.loose k j hkj hj with h | ⟨_, h, _⟩
          · exact hpre k h
          · exact absurd ht (h t hd).1
        simp [hd, hsk]
      · simp [hd]
    · have e1 : min (k + 1) j = j := by omega
      have e2 : min k j = j := by omega
      rw [e1, e2, if_neg]
      rintro ⟨h1, h2⟩
      by_cases e3 : k = j
      · subst e3; rw [hsj] at h1; cases h1
      · rcases F.loose j k (by omega) (by omega) with h | ⟨_, _, h⟩
        · have := hcl k (by omega) h1 j h; rw [hsj] at this; cases this
        · exact h t h2 ht

/-- What an operation that may go next looks at. -/
theorem Inv.looks (F : DrawFacts P call n o v H did mts rd pre g ts0) (I : Inv P w0 n o v H did mts pre ts0 φ0 wi ds s e φ a w) {j : Nat} (hj : j < n) (hsj : s j = false) (hpre : ∀ k ∈ pre j, s k = true) : RelVs w0 φ (mts j) a.tmps.toList := by
  refine .of_get (by rw [F.masklen j hj]; show ts0.length = a.tmps.size; rw [I.tsize]) fun t x hx => ?_
  have ht : t < ts0.length := by obtain ⟨hlt, _⟩ := List.getElem?_eq_some_iff.1 hx; rwa [F.masklen j hj] at hlt
  have hrel := I.temps t ht
  have hget : a.tmps.toList[t]? = some (a.tmps.getD t Go.undef) := by
    rw [Array.getElem?_toList, Array.getD_eq_getD_getElem?]
    have : t < a.tmps.size := by rw [I.tsize]; exact ht
    simp [this]
  refine ⟨_, hget, ?_⟩
  rcases F.mask j hj t ht with ⟨h1, h2⟩ | h2
  · rw [hx] at h2; injection h2 with h2; rw [h2]
    rw [lastW_reads F hj hsj I.closed hpre h1 n (Nat.le_refl _), show min n j = j by omega] at hrel
    exact hrel
  · rw [hx] at h2; injection h2 with h2; rw [h2]; exact .poison _

theorem getD_put {a : Act} {d : Option Nat} {r : Value} {t : Nat} (ht : t < a.tmps.size) : (a.put d r).tmps.getD t Go.undef = if d = some t then r else a.tmps.getD t Go.undef := by
  cases d with
  | none => simp [Act.put]
  | some d =>
    simp only [Act.put, Array.getD_eq_getD_getElem?, Array.getElem?_setIfInBounds, Option.some.injEq]
    by_cases e1 : d = t
    · subst e1; simp [ht]
    · simp [e1]

theorem size_put {a : Act} {d : Option Nat} {r : Value} : (a.put d r).tmps.size = a.tmps.size := by cases d <;> simp [Act.put]
theorem defers_put {a : Act} {d : Option Nat} {r : Value} : (a.put d r).defers = a.defers := by cases d <;> rfl

/-- The temporaries behind one more operation. -/
theorem Inv.temps_add (F : DrawFacts P call n o v H did mts rd pre g ts0) (I : Inv P w0 n o v H did mts pre ts0 φ0 wi ds s e φ a w) {j : Nat} (hj : j < n) (hsj : s j = false) {φ' : VMap} (hle : φ.le φ') {r : Value} (hr : RelV w0 φ' (v j) r) :
    ∀ t, t < ts0.length → RelV w0 φ' (lastW ts0 (fun i => (o i).dst) v (fun i => s i || (i == j)) n t) ((a.put (o j).dst r).tmps.getD t Go.undef) := by
  intro t ht
  rw [lastW_add F hj hsj I.closed t n (Nat.le_refl _), getD_put (by rw [I.tsize]; exact ht)]
  by_cases hd : (o j).dst = some t
  · rw [if_pos ⟨hj, hd⟩, if_pos hd]; exact hr
  · rw [if_neg (fun h => hd h.2), if_neg hd]; exact (I.temps t ht).mono hle

theorem closed_add (hcl : ∀ i, i < n → s i = true → ∀ k ∈ pre i, s k = true) {j : Nat} (hpre : ∀ k ∈ pre j, s k = true) : ∀ i, i < n → (s i || (i == j)) = true → ∀ k ∈ pre i, (s k || (k == j)) = true := by
  intro i hi hs k hk
  rw [Bool.or_eq_true] at hs ⊢
  rcases hs with hs | hs
  · exact .inl (hcl i hi hs k hk)
  · have : i = j := by simpa using hs
    subst this; exact .inl (hpre k hk)

/-- An operation that only reads, or is passed over. -/
theorem Inv.add_quiet (F : DrawFacts P call n o v H did mts rd pre g ts0) (I : Inv P w0 n o v H did mts pre ts0 φ0 wi ds s e φ a w) {j : Nat} (hj : j < n) (hsj : s j = false) (hpre : ∀ k ∈ pre j, s k = true) (hnl : ¬ LoudDid P o did j) (hnf : ∀ x mk, ¬ FreshDid P o did mts j x mk)
    {r : Value} (hr : RelV w0 φ (v j) r) : Inv P w0 n o v H did mts pre ts0 φ0 wi ds (fun i => s i || (i == j)) e φ (a.put (o j).dst r) w := by
  refine { I with closed := closed_add I.closed hpre, tsize := size_put.trans I.tsize, temps := I.temps_add F hj hsj (VMap.le.refl φ) hr, defers := defers_put.trans I.defers, above := ?_, belowE := ?_, top := ?_, early := ?_, dom := ?_, late := ?_ }
  · intro i h1 h2 h3
    rw [Bool.or_eq_true] at h3
    rcases h3 with h3 | h3
    · exact I.above i h1 h2 h3
    · have : i = j := by simpa using h3
      subst this; exact hnl
  · intro i h1 h2; rw [Bool.or_eq_true]; exact .inl (I.belowE i h1 h2)
  · refine I.top.imp id ?_
    rintro ⟨i, h1, h2, h3, h4⟩; exact ⟨i, h1, h2, by rw [Bool.or_eq_true]; exact .inl h3, h4⟩
  · intro i x mk h1 h2 h3 h4
    rw [Bool.or_eq_true] at h2
    rcases h2 with h2 | h2
    · exact I.early i x mk h1 h2 h3 h4
    · have : i = j := by simpa using h2
      subst this; exact (hnf _ _ h4).elim
  · intro b k l h1 h2 h2b
    obtain ⟨i, x, mk, a1, a2, a3⟩ := I.dom b k l h1 h2 h2b
    exact ⟨i, x, mk, a1, by rw [Bool.or_eq_true]; exact .inl a2, a3⟩
  · intro i x mk h1 h2 h3
    rw [Bool.or_eq_false_iff] at h2
    exact I.late i x mk h1 h2.1 h3
end
end Go.V
