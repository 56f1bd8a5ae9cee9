/- Drawn regions: new blocks, writes and calls; the induction. -/
import Derived.Test.YthefbgflndpggaaV22a
set_option linter.unusedSimpArgs false
set_option linter.unusedVariables false
namespace Go.V
open Go.RowKit

section
variable {P : Program} {w0 : World} {call : VCaller} {n : Nat} {o : Nat → Oper} {v : Nat → VVal} {H : Nat → VHeap} {did : Nat → Bool} {mts : Nat → List VVal} {rd pre : Nat → List Nat} {g : Nat → Option (Nat × Bool)} {ts0 : List VVal}
variable {φ0 : VMap} {wi : World} {ds : List Deferred} {s : Nat → Bool} {e : Nat} {φ : VMap} {a : Act} {w : World}

theorem Inv.add_fresh (F : DrawFacts P call n o v H did mts rd pre g ts0) (hm : CallerMono call) (I : Inv P w0 n o v H did mts pre ts0 φ0 wi ds s e φ a w) {j : Nat} (hj : j < n) (hsj : s j = false) (hpre : ∀ k ∈ pre j, s k = true) {x : VObj} {mk : Nat → VVal} (hf : FreshDid P o did mts j x mk)
    (hv : v j = mk (H j).size) (hH : H (j + 1) = (H j).new x) {w' : World} (hw : NewW w w') {N : Nat} (hx : RelObj w0 φ w' 0 ⟨w.heap.size, N⟩ x) {r : Value} (hr : ∀ (φ' : VMap) (b : Nat), φ' b 0 = some ⟨w.heap.size, N⟩ → RelV w0 φ' (mk b) r) :
    Inv P w0 n o v H did mts pre ts0 φ0 wi ds (fun i => s i || (i == j)) e (φ.put (H j).size 0 ⟨w.heap.size, N⟩) (a.put (o j).dst r) w' := by
  have hn0 : (H j).size < (H n).size := by
    have := F.size_mono hm (show j + 1 ≤ n by omega) (Nat.le_refl _); rw [hH] at this; simp at this; omega
  have hnone : ∀ k, φ (H j).size k = none := by
    intro k
    by_cases hej : e ≤ j
    · cases hk : φ (H j).size k with
      | none => rfl
      | some l =>
        obtain ⟨i, y, mk', a1, a2, a3, a4, a5, a6⟩ := I.dom _ _ _ hk (F.size_mono hm hej (by omega)) hn0
        have := F.fresh_inj hm hj a1 hf a4 a5
        subst this; rw [hsj] at a2; cases a2
    · exact (I.late j x mk (by omega) hsj hf).1 k
  have hle : φ.le (φ.put (H j).size 0 ⟨w.heap.size, N⟩) := VMap.put_le (hnone 0) _
  have hsz := hw.size
  have hw0 := I.rel.old_lt
  have hnl : ¬ LoudDid P o did j := by rintro ⟨_, h⟩; rw [hf.2.1] at h; cases h
  have hbig : ¬ (e ≤ j) → (H j).size < (H e).size := fun h => VHeap.lt_of_get (I.late j x mk (by omega) hsj hf).2
  have hn1 : (H j).size < (H n).size := by
    have := F.size_mono hm (show j + 1 ≤ n by omega) (Nat.le_refl _); rw [hH] at this; simp at this; omega
  refine { closed := closed_add I.closed hpre, tsize := size_put.trans I.tsize, temps := I.temps_add F hj hsj hle (by rw [hv]; exact hr _ _ (VMap.put_same _ _ _ _)), defers := defers_put.trans I.defers, ele := I.ele, above := ?_, belowE := ?_, top := ?_, rel := ⟨?_, ?_, ?_, ?_⟩, early := ?_, dom := ?_, late := ?_, le := I.le.trans hle, new := ?_, vframe := I.vframe, cframe := ?_, wsize := (by have := I.wsize; omega), os := hw.os.trans I.os, tape := hw.tape.trans I.tape, output := hw.output.trans I.output }
  · intro i h1 h2 h3
    rw [Bool.or_eq_true] at h3
    rcases h3 with h3 | h3
    · exact I.above i h1 h2 h3
    · have : i = j := by simpa using h3
      subst this; exact hnl
  · intro i h1 h2; rw [Bool.or_eq_true]; exact .inl (I.belowE i h1 h2)
  · refine I.top.imp id ?_
    rintro ⟨i, h1, h2, h3, h4⟩; exact ⟨i, h1, h2, by rw [Bool.or_eq_true]; exact .inl h3, h4⟩
  · exact below_of I.rel (by omega) (fun c hc => hw.old c (by omega)) hw.os hw.tape hw.output
  · intro b k l h1
    rcases VMap.put_inv h1 with ⟨_, _, rfl⟩ | h1
    · exact ⟨hw0, by show w.heap.size < _; omega⟩
    · have := I.rel.lt _ _ _ h1; omega
  · intro b k l ob h1 hg
    rcases VMap.put_inv h1 with ⟨rfl, rfl, rfl⟩ | h1
    · by_cases hej : e ≤ j
      · have := VHeap.lt_of_get hg; have := F.size_mono hm hej (by omega); omega
      · rw [(I.late j x mk (by omega) hsj hf).2] at hg; injection hg with hg; subst hg; exact hx.mono hle
    · exact ((I.rel.obj _ _ _ _ h1 hg).at (hw.old _ (I.rel.lt _ _ _ h1).2)).mono hle
  · intro b1 v1 l1 b2 v2 l2 h1 h2 ec
    rcases VMap.put_inv h1 with ⟨rfl, rfl, e3⟩ | h1' <;> rcases VMap.put_inv h2 with ⟨rfl, rfl, e4⟩ | h2'
    · rfl
    · have := (I.rel.lt _ _ _ h2').2; rw [← ec, e3] at this; simp at this
    · have := (I.rel.lt _ _ _ h1').2; rw [ec, e4] at this; simp at this
    · exact I.rel.sep _ _ _ _ _ _ h1' h2' ec
  · intro i y mk' h1 h2 h3 h4
    rw [Bool.or_eq_true] at h2
    rcases h2 with h2 | h2
    · obtain ⟨l, a1, a2⟩ := I.early i y mk' h1 h2 h3 h4
      exact ⟨l, hle _ _ _ a1, (a2.at (hw.old _ (I.rel.lt _ _ _ a1).2)).mono hle⟩
    · have : i = j := by simpa using h2
      subst this
      have := hf.2.2; rw [h4.2.2] at this; injection this with this; injection this with e1 e2; subst e1
      exact ⟨_, VMap.put_same _ _ _ _, hx.mono hle⟩
  · intro b k l h1 h2 h2b
    rcases VMap.put_inv h1 with ⟨rfl, rfl, rfl⟩ | h1
    · have hej : e ≤ j := by
        rcases Nat.lt_or_ge j e with h | h
        · have := hbig (by omega); omega
        · exact h
      exact ⟨j, x, mk, hj, by simp, hej, hf, rfl, rfl⟩
    · obtain ⟨i, y, mk', a1, a2, a3⟩ := I.dom b k l h1 h2 h2b
      exact ⟨i, y, mk', a1, by rw [Bool.or_eq_true]; exact .inl a2, a3⟩
  · intro i y mk' h1 h2 h3
    rw [Bool.or_eq_false_iff] at h2
    obtain ⟨a1, a2⟩ := I.late i y mk' h1 h2.1 h3
    refine ⟨fun k => ?_, a2⟩
    cases hk : φ.put (H j).size 0 ⟨w.heap.size, N⟩ (H i).size k with
    | none => rfl
    | some l =>
      rcases VMap.put_inv hk with ⟨e1, _, _⟩ | hk
      · have hi : i < n := by have := I.ele; omega
        have := F.fresh_inj hm hi hj h3 hf e1
        subst this; simp at h2
      · rw [a1 k] at hk; cases hk
  · intro b k l h1 h2
    rcases VMap.put_inv h2 with ⟨rfl, rfl, rfl⟩ | h2
    · exact ⟨.inl ⟨F.size_mono hm (Nat.zero_le _) (by omega), hn1⟩, .inl I.wsize⟩
    · exact I.new b k l h1 h2
  · intro c hc hn
    exact (hw.old c (by have := I.wsize; omega)).trans (I.cframe c hc hn)

theorem Inv.add_loud (F : DrawFacts P call n o v H did mts rd pre g ts0) (hm : CallerMono call) (hfree0 : ∀ b k, (H 0).size ≤ b → b < (H n).size → φ0 b k = none) (I : Inv P w0 n o v H did mts pre ts0 φ0 wi ds s e φ a w) {j : Nat} (hj : j < n) (hsj : s j = false) (hpre : ∀ k ∈ pre j, s k = true)
    (hl : LoudDid P o did j) (hej : e ≤ j) (hq : ∀ i, e ≤ i → i < j → ¬ LoudDid P o did i) {φ' : VMap} {w' : World} {r : Value} (hrel : RelH w0 φ' (H (j + 1)) w') (hx : Ext φ (H j) w φ' (H (j + 1)) w') (hr : RelV w0 φ' (v j) r) :
    Inv P w0 n o v H did mts pre ts0 φ0 wi ds (fun i => s i || (i == j)) (j + 1) φ' (a.put (o j).dst r) w' := by
  obtain ⟨q1, q2, q3⟩ := F.quiet hm hej (by omega) hq
  have s1 := F.size_succ hm hj
  have s0 : (H 0).size ≤ (H e).size := F.size_mono hm (Nat.zero_le _) I.ele
  have se : (H e).size ≤ (H j).size := F.size_mono hm hej (by omega)
  have sn : (H (j + 1)).size ≤ (H n).size := F.size_mono hm (by omega) (Nat.le_refl _)
  have hnf : ∀ x mk, ¬ FreshDid P o did mts j x mk := by rintro x mk ⟨_, h, _⟩; have := hl.2; rw [h] at this; cases this
  have fgrow : ∀ {i : Nat} {x : VObj} {mk : Nat → VVal}, i < n → FreshDid P o did mts i x mk → (H i).size < (H (i + 1)).size := by
    intro i x mk hi h
    have hs := F.step i hi h.1
    simp only [stepV, h.2.1, h.2.2, Option.some.injEq, Prod.mk.injEq] at hs
    rw [← hs.2]; simp
  refine { closed := closed_add I.closed hpre, tsize := size_put.trans I.tsize, temps := I.temps_add F hj hsj hx.le hr, defers := defers_put.trans I.defers, ele := (by omega), above := ?_, belowE := ?_, top := .inr ⟨j, rfl, hj, by simp, hl⟩, rel := hrel, early := ?_, dom := ?_, late := ?_, le := I.le.trans hx.le, new := ?_, vframe := ?_, cframe := ?_, wsize := Nat.le_trans I.wsize hx.wsize, os := hx.os.trans I.os, tape := hx.tape.trans I.tape, output := hx.output.trans I.output }
  · intro i h1 h2 h3
    rw [Bool.or_eq_true] at h3
    rcases h3 with h3 | h3
    · exact I.above i (by omega) h2 h3
    · have : i = j := by simpa using h3
      omega
  · intro i h1 h2
    rw [Bool.or_eq_true]
    by_cases e1 : i = j
    · right; simp [e1]
    · by_cases e2 : i < e
      · exact .inl (I.belowE i e2 h2)
      · exact (hq i (by omega) (by omega) h2).elim
  · intro i x mk h1 h2 h3 h4
    rw [Bool.or_eq_true] at h2
    have h2 : s i = true := by
      rcases h2 with h2 | h2
      · exact h2
      · have : i = j := by simpa using h2
        omega
    obtain ⟨l, a1, a2⟩ := I.early i x mk h1 h2 (by omega) h4
    refine ⟨l, hx.le _ _ _ a1, (a2.at (hx.cframe _ (I.rel.lt _ _ _ a1).2 ?_)).mono hx.le⟩
    intro b k l' hb hk ec
    have := I.rel.sep _ _ _ _ _ _ hk a1 ec
    have := F.size_mono hm h3 (by omega)
    omega
  · intro b k l h1 h2 h2b
    cases hk : φ b k with
    | some l0 =>
      have := hx.le _ _ _ hk
      rw [h1] at this; injection this with this; subst this
      obtain ⟨i, x, mk, a1, a2, a3, a4, a5, a6⟩ := I.dom b k l hk (by omega) (by omega)
      have hij : j + 1 ≤ i := by
        rcases Nat.lt_trichotomy i j with h | h | h
        · have := fgrow a1 a4
          have := F.size_mono hm (show i + 1 ≤ j by omega) (by omega)
          omega
        · subst h; exact (hnf _ _ a4).elim
        · exact h
      exact ⟨i, x, mk, a1, by rw [Bool.or_eq_true]; exact .inl a2, hij, a4, a5, a6⟩
    | none =>
      rcases (hx.new _ _ _ hk h1).1 with ⟨_, h3⟩ | ⟨_, _, _, h3⟩ <;> omega
  · intro i x mk h1 h2 h3
    rw [Bool.or_eq_false_iff] at h2
    have hij : i ≠ j := by have := h2.2; simpa using this
    obtain ⟨n1, n2⟩ : (∀ k, φ (H i).size k = none) ∧ (H j).get (H i).size = some x := by
      by_cases hie : i < e
      · obtain ⟨a1, a2⟩ := I.late i x mk hie h2.1 h3
        exact ⟨a1, by rw [q1 _ (VHeap.lt_of_get a2)]; exact a2⟩
      · refine ⟨fun k => ?_, q2 i x mk (by omega) (by omega) h3⟩
        cases hk : φ (H i).size k with
        | none => rfl
        | some l =>
          obtain ⟨i', y, mk', a1, a2, a3, a4, a5, a6⟩ := I.dom _ _ _ hk (F.size_mono hm (by omega) (by omega)) (by have := fgrow (show i < n by omega) h3; have := F.size_mono hm (show i + 1 ≤ n by omega) (Nat.le_refl _); omega)
          have := F.fresh_inj hm (by omega) a1 h3 a4 a5
          subst this; rw [h2.1] at a2; cases a2
    have hlt := VHeap.lt_of_get n2
    refine ⟨fun k => ?_, by rw [hx.vframe _ hlt n1]; exact n2⟩
    cases hk : φ' (H i).size k with
    | none => rfl
    | some l =>
      rcases (hx.new _ _ _ (n1 k) hk).1 with ⟨h4, _⟩ | ⟨k0, l0, h4, _⟩
      · omega
      · rw [n1 k0] at h4; cases h4
  · intro b k l h1 h2
    cases hk : φ b k with
    | some l0 =>
      have := hx.le _ _ _ hk
      rw [h2] at this; injection this with this; subst this
      exact I.new b k l h1 hk
    | none =>
      obtain ⟨p1, p2⟩ := hx.new _ _ _ hk h2
      constructor
      · rcases p1 with ⟨h3, h4⟩ | ⟨k0, l0, h3, h4⟩
        · exact .inl ⟨by omega, by omega⟩
        · cases hk0 : φ0 b k0 with
          | some l00 =>
            by_cases hb : b < (H 0).size
            · exact .inr ⟨k0, l00, hk0, hb⟩
            · exact .inl ⟨by omega, by omega⟩
          | none => exact (I.new _ _ _ hk0 h3).1
      · rcases p2 with h3 | ⟨k0, l0, h3, h4, h5⟩
        · exact .inl (by have := I.wsize; omega)
        · cases hk0 : φ0 b k0 with
          | some l00 =>
            have := I.le _ _ _ hk0
            rw [h3] at this; injection this with this; subst this
            by_cases hb : b < (H 0).size
            · exact .inr ⟨k0, l0, hk0, h4, hb⟩
            · rw [hfree0 b k0 (by omega) (by omega)] at hk0; cases hk0
          | none =>
            rcases (I.new _ _ _ hk0 h3).2 with h6 | ⟨k1, l1, h6, h7, h8⟩
            · exact .inl (by omega)
            · exact .inr ⟨k1, l1, h6, h7.trans h4, h8⟩
  · intro b hb hn
    have hnφ : ∀ k, φ b k = none := by
      intro k
      cases hk : φ b k with
      | none => rfl
      | some l =>
        rcases (I.new _ _ _ (hn k) hk).1 with ⟨h3, _⟩ | ⟨k0, l0, h3, _⟩
        · omega
        · rw [hn k0] at h3; cases h3
    rw [hx.vframe b (by omega) hnφ, q1 b (by omega)]
    exact I.vframe b hb hn
  · intro c hc hn
    refine (hx.cframe c (by have := I.wsize; omega) ?_).trans (I.cframe c hc hn)
    intro b k l hb hk ec
    cases hk0 : φ0 b k with
    | some l0 =>
      have := I.le _ _ _ hk0
      rw [hk] at this; injection this with this; subst this
      by_cases hb0 : b < (H 0).size
      · exact hn b k l hb0 hk0 ec
      · rw [hfree0 b k (by omega) (by omega)] at hk0; cases hk0
    | none =>
      rcases (I.new _ _ _ hk0 hk).2 with h6 | ⟨k1, l1, h6, h7, h8⟩
      · omega
      · exact hn b k1 l1 h8 h6 (h7.trans ec)

theorem countP_lt {α : Type} {p q : α → Bool} : ∀ {l : List α}, (∀ x ∈ l, p x = true → q x = true) → (∃ x ∈ l, p x = false ∧ q x = true) → l.countP p < l.countP q := by
  intro l
  induction l with
  | nil => rintro _ ⟨x, hx, _⟩; cases hx
  | cons y l ih =>
    intro h1 h2
    simp only [List.countP_cons]
    have hle : l.countP p ≤ l.countP q := by
      apply List.countP_mono_left; intro x hx hp; exact h1 x (by simp [hx]) hp
    by_cases hy : p y = false ∧ q y = true
    · simp [hy.1, hy.2]; omega
    · have : ∃ x ∈ l, p x = false ∧ q x = true := by
        obtain ⟨x, hx, h3⟩ := h2
        cases hx with
        | head => exact (hy h3).elim
        | tail _ hx => exact ⟨x, hx, h3⟩
      have := ih (fun x hx => h1 x (by simp [hx])) this
      have h4 := h1 y (by simp)
      cases hpy : p y <;> cases hqy : q y <;> simp <;> first | omega | (rw [hpy, hqy] at h4; simp at h4)

/-- One operation that may go next. -/
theorem draw_step (hcall : CallerOk P w0 call) (F : DrawFacts P call n o v H did mts rd pre g ts0) (hm : CallerMono call) (hfree0 : ∀ b k, (H 0).size ≤ b → b < (H n).size → φ0 b k = none) {ops : Array Oper} (hops : ∀ i, i < n → ops[i]? = some (o i))
    (hwant : ∀ i, i < n → ∀ φ tmps, RelVs w0 φ (mts i) tmps.toList → Region.wanted (o i) (yielded ops tmps) = did i)
    (I : Inv P w0 n o v H did mts pre ts0 φ0 wi ds s e φ a w) {j : Nat} (hj : j < n) (hsj : s j = false) (hpre : ∀ k ∈ pre j, s k = true) {K : Act → World → Prop} {Q : Exit → Act → World → Prop}
    (hK : ∀ e' φ' a' w', Inv P w0 n o v H did mts pre ts0 φ0 wi ds (fun i => s i || (i == j)) e' φ' a' w' → K a' w') : wpOp P ops Q j K a w := by
  have hlook := I.looks F hj hsj hpre
  have hw := hwant j hj φ a.tmps hlook
  simp only [wpOp, hops j hj]
  cases hd : did j with
  | false =>
    rw [hd] at hw
    rw [if_neg (by rw [hw]; simp)]
    refine hK e φ _ w (I.add_quiet F hj hsj hpre (fun h => by rw [h.1] at hd; cases hd) (fun x mk h => by rw [h.1] at hd; cases hd) ?_)
    rw [(F.skip j hj hd).1]; exact .tuple .nil
  | true =>
    rw [hd] at hw
    rw [if_pos hw]
    left
    have hρ := relEnv_of hlook
    have hs := F.step j hj hd
    obtain ⟨vo, hc, hvo⟩ := opV_some hs
    rcases F.cases hj with h | ⟨_, hk, hread, hH⟩ | ⟨x, mk, hf, hv, hH⟩ | hl
    · rw [hd] at h; cases h
    · -- a read
      obtain ⟨m, h1, h2, h3, h4⟩ : ∃ m, e ≤ m ∧ m ≤ n ∧ (∀ i, e ≤ i → i < m → ¬ LoudDid P o did i) ∧ (opV P (o j).op).read (mts j) (H m) = some (v j) := by
        by_cases hej : e ≤ j
        · by_cases hex : ∃ i, e ≤ i ∧ i < j ∧ LoudDid P o did i
          · -- the least of them
            have : ∃ i, (e ≤ i ∧ i < j ∧ LoudDid P o did i) ∧ ∀ k, e ≤ k → k < i → ¬ LoudDid P o did k := by
              obtain ⟨i, hi⟩ := hex
              induction i using Nat.strongRecOn with
              | _ i ih =>
                by_cases hc : ∃ k, e ≤ k ∧ k < i ∧ LoudDid P o did k
                · obtain ⟨k, k1, k2, k3⟩ := hc
                  exact ih k k2 ⟨k1, by omega, k3⟩
                · exact ⟨i, hi, fun k k1 k2 k3 => hc ⟨k, k1, k2, k3⟩⟩
            obtain ⟨i, ⟨i1, i2, i3⟩, i4⟩ := this
            refine ⟨i, i1, by omega, i4, F.calmR j hj hd hk i i2 i3.1 i3.2 ?_⟩
            intro hip
            exact I.above i i1 (by omega) (hpre i hip) i3
          · exact ⟨j, hej, by omega, fun i i1 i2 i3 => hex ⟨i, i1, i2, i3⟩, hread⟩
        · rcases I.top with h0 | ⟨i, rfl, i2, i3, i4⟩
          · omega
          · have hij : j < i := by
              rcases Nat.lt_or_ge j i with h | h
              · exact h
              · have : j = i := by omega
                subst this; rw [hsj] at i3; cases i3
            refine ⟨i + 1, Nat.le_refl _, by omega, fun k k1 k2 => by omega, F.calmL i i2 i4.1 i4.2 j hij hd hk ?_⟩
            intro hjp
            have := I.closed i i2 i3 j hjp
            rw [hsj] at this; cases this
      have Hm := I.relAt F hm h1 h2 h3
      rw [hvo] at h4
      obtain ⟨r, r1, r2⟩ := read_sound Hm hρ hc h4
      unfold Oper.wp
      rw [r1]
      refine hK e φ _ w (I.add_quiet F hj hsj hpre (fun h => ?_) (fun x mk h => ?_) r2)
      · have := h.2; rw [hk] at this; cases this
      · have := h.2.1; rw [hk] at this; cases this
    · -- a new block
      have hf2 := hf.2.2
      rw [hvo] at hf2
      obtain ⟨r, w', N, r1, r2, r3, r4⟩ := fresh_sound (w := w) hρ hc hf2
      unfold Oper.wp
      rw [r1]
      exact hK e _ _ w' (I.add_fresh F hm hj hsj hpre hf hv hH r2 r3 r4)
    · -- a write or a call
      have hej : e ≤ j := by
        rcases I.top with h0 | ⟨i, rfl, i2, i3, i4⟩
        · omega
        · rcases Nat.lt_trichotomy i j with h | h | h
          · omega
          · subst h; rw [hsj] at i3; cases i3
          · rcases F.loose j i h i2 with h5 | ⟨h5, _⟩
            · have := I.closed i i2 i3 j h5; rw [hsj] at this; cases this
            · exact (h5 ⟨hl.2, i4.2⟩).elim
      have hq : ∀ i, e ≤ i → i < j → ¬ LoudDid P o did i := by
        intro i i1 i2 i3
        rcases F.loose i j i2 hj with h5 | ⟨h5, _⟩
        · exact I.above i i1 (by omega) (hpre i h5) i3
        · exact h5 ⟨i3.2, hl.2⟩
      have Hj := I.relAt F hm hej (by omega) hq
      have s1 := F.size_succ hm hj
      have sn : (H (j + 1)).size ≤ (H n).size := F.size_mono hm (by omega) (Nat.le_refl _)
      refine step_sound hcall Hj hlook hs ?_ ?_ (fun x r w' φ' he => by rw [F.nopanic j hj hd] at he; cases he)
      · intro b k b1 b2
        cases hk : φ b k with
        | none => rfl
        | some l =>
          have se : (H e).size ≤ (H j).size := F.size_mono hm hej (by omega)
          obtain ⟨i, x, mk, a1, a2, a3, a4, a5, a6⟩ := I.dom b k l hk (by omega) (by omega)
          rcases Nat.lt_trichotomy i j with h | h | h
          · have hs' := F.step i a1 a4.1
            simp only [stepV, a4.2.1, a4.2.2, Option.some.injEq, Prod.mk.injEq] at hs'
            have h7 := F.size_mono hm (show i + 1 ≤ j by omega) (by omega)
            rw [← hs'.2] at h7; simp at h7; omega
          · subst h; rw [hsj] at a2; cases a2
          · have := F.size_mono hm (show j + 1 ≤ i by omega) (by omega); omega
      · intro r w' φ' r1 r2 r3
        exact hK (j + 1) φ' _ w' (I.add_loud F hm hfree0 hj hsj hpre hl hej hq r1 r2 r3)

theorem draw_any (hcall : CallerOk P w0 call) (F : DrawFacts P call n o v H did mts rd pre g ts0) (hm : CallerMono call) (hfree0 : ∀ b k, (H 0).size ≤ b → b < (H n).size → φ0 b k = none) {ops : Array Oper} (hsize : ops.size = n) (hops : ∀ i, i < n → ops[i]? = some (o i))
    (hwant : ∀ i, i < n → ∀ φ tmps, RelVs w0 φ (mts i) tmps.toList → Region.wanted (o i) (yielded ops tmps) = did i)
    (hback : ∀ i, i < n → ∀ ed ∈ (o i).after.toList, Region.binds .any ed = true → ed.on < i)
    (hpres : ∀ i, i < n → ∀ k ∈ pre i, (∃ ed ∈ (o i).after.toList, Region.binds .any ed = true ∧ ed.on = k) ∨ ∃ ed ∈ (o i).after.toList, Region.binds .any ed = true ∧ k ∈ pre ed.on)
    {Q : Exit → Act → World → Prop} (hQ : ∀ s e φ a w, Inv P w0 n o v H did mts pre ts0 φ0 wi ds s e φ a w → (∀ i, i < n → s i = true) → Q .normal a w) :
    ∀ (fuel : Nat) (listed : Array Bool) (e : Nat) (φ : VMap) (a : Act) (w : World), listed.size = n → Inv P w0 n o v H did mts pre ts0 φ0 wi ds (fun i => listed.getD i false) e φ a w → (List.range n).countP (fun i => !listed.getD i false) ≤ fuel → wpAny P .any ops Q fuel listed a w := by
  have readyIff : ∀ (listed : Array Bool), listed.size = n → ∀ i, i ∈ Region.ready .any ops listed ↔ i < n ∧ listed.getD i false = false ∧ ∀ ed ∈ (o i).after.toList, Region.binds .any ed = true → listed.getD ed.on false = true := by
    intro listed hls i
    unfold Region.ready
    rw [List.mem_filter, List.mem_range, hsize]
    constructor
    · rintro ⟨h1, h2⟩
      rw [hops i h1, Bool.and_eq_true] at h2
      refine ⟨h1, ?_, ?_⟩
      · have h3 := h2.1
        have hi : i < listed.size := by omega
        simp [hi] at h3 ⊢
        exact h3
      · intro ed hed hb
        have h3 := h2.2
        simp only [Option.map_some, Option.getD_some] at h3
        rw [← Array.all_toList] at h3
        have := List.all_eq_true.1 h3 ed hed
        simpa [hb] using this
    · rintro ⟨h1, h2, h3⟩
      refine ⟨h1, ?_⟩
      rw [hops i h1, Bool.and_eq_true]
      constructor
      · have hi : i < listed.size := by omega
        simp [hi] at h2 ⊢
        exact h2
      · simp only [Option.map_some, Option.getD_some]
        rw [← Array.all_toList, List.all_eq_true]
        intro ed hed
        by_cases hb : Region.binds .any ed = true
        · simp [hb]; simpa using h3 ed hed hb
        · simp [hb]
  have allOf : ∀ (listed : Array Bool), listed.size = n → Region.ready .any ops listed = [] → ∀ i, i < n → listed.getD i false = true := by
    intro listed hls hr i
    induction i using Nat.strongRecOn with
    | _ i ih =>
      intro hi
      cases hsi : listed.getD i false with
      | true => rfl
      | false =>
        have : i ∈ Region.ready .any ops listed := (readyIff listed hls i).2 ⟨hi, hsi, fun ed hed hb => by
          have := hback i hi ed hed hb
          exact ih ed.on this (by omega)⟩
        rw [hr] at this; cases this
  intro fuel
  induction fuel with
  | zero =>
    intro listed e φ a w hls I hcnt
    have hall : ∀ i, i < n → listed.getD i false = true := by
      intro i hi
      have h0 : (List.range n).countP (fun i => !listed.getD i false) = 0 := by omega
      have := List.countP_eq_zero.1 h0 i (List.mem_range.2 hi)
      simpa using this
    refine ⟨?_, hQ _ e φ a w I hall⟩
    cases hr : Region.ready .any ops listed with
    | nil => rfl
    | cons i l =>
      have : i ∈ Region.ready .any ops listed := by rw [hr]; simp
      obtain ⟨h1, h2, _⟩ := (readyIff listed hls i).1 this
      rw [hall i h1] at h2; cases h2
  | succ fuel ih =>
    intro listed e φ a w hls I hcnt
    refine ⟨fun hr => hQ _ e φ a w I (allOf listed hls hr), ?_⟩
    intro j hjr
    obtain ⟨hj, hsj, hdir⟩ := (readyIff listed hls j).1 hjr
    have hpre : ∀ k ∈ pre j, listed.getD k false = true := by
      intro k hk
      rcases hpres j hj k hk with ⟨ed, h1, h2, rfl⟩ | ⟨ed, h1, h2, h3⟩
      · exact hdir ed h1 h2
      · have := hback j hj ed h1 h2
        exact I.closed ed.on (by omega) (hdir ed h1 h2) k h3
    refine draw_step hcall F hm hfree0 hops hwant I hj hsj hpre ?_
    intro e' φ' a' w' I'
    have hfun : (fun i => (listed.setIfInBounds j true).getD i false) = fun i => listed.getD i false || (i == j) := by
      funext i
      simp only [Array.getD_eq_getD_getElem?, Array.getElem?_setIfInBounds]
      by_cases hij : j = i
      · subst hij
        have : j < listed.size := by omega
        simp [this]
      · have : (i == j) = false := by simp; exact fun h => hij h.symm
        simp [hij, this]
    refine ih (listed.setIfInBounds j true) e' φ' a' w' (by simpa using hls) (by rw [hfun]; exact I') ?_
    have := countP_lt (l := List.range n) (p := fun i => !(listed.setIfInBounds j true).getD i false) (q := fun i => !listed.getD i false) ?_ ⟨j, List.mem_range.2 hj, ?_, by simpa using hsj⟩
    · omega
    · intro i _ hp
      have := congrFun hfun i
      try simp only at this
      rw [this] at hp
      simp only [Bool.not_or, Bool.and_eq_true] at hp
      exact hp.1
    · have := congrFun hfun j
      try simp only at this
      rw [this]; simp
end
end Go.V
