/- How the heap and the world step together: a block is written, made, or gets a new version. -/
import Derived.Test.YthefbgflndpggaaV15
set_option linter.unusedSimpArgs false
set_option linter.unusedVariables false
namespace Go.V
open Go.RowKit

def VMap.put (φ : VMap) (b v : Nat) (l : Loc) : VMap := fun b' v' => if b' = b ∧ v' = v then some l else φ b' v'

section
variable {P : Program} {w0 : World} {φ : VMap} {h : VHeap} {w : World}

theorem VMap.put_same (φ : VMap) (b v : Nat) (l : Loc) : φ.put b v l b v = some l := by simp [VMap.put]
theorem VMap.put_le {b v : Nat} (hn : φ b v = none) (l : Loc) : φ.le (φ.put b v l) := by
  intro b' v' l' hl
  unfold VMap.put
  split
  · rename_i e; rw [e.1, e.2, hn] at hl; cases hl
  · exact hl
theorem VMap.put_inv {b v b' v' : Nat} {l l' : Loc} (hp : φ.put b v l b' v' = some l') : (b' = b ∧ v' = v ∧ l' = l) ∨ φ b' v' = some l' := by
  unfold VMap.put at hp
  split at hp
  · rename_i e; injection hp with hp; exact .inl ⟨e.1, e.2, hp.symm⟩
  · exact .inr hp

theorem RelEs.mono {φ' : VMap} (hle : φ.le φ') : ∀ {a : List (VVal × VVal)} {b : List MapEntry}, RelEs w0 φ a b → RelEs w0 φ' a b := by
  intro a
  induction a with
  | nil => intro b h; cases h; exact .nil
  | cons p a ih => intro b h; cases h with | cons h1 h2 h3 => exact .cons (h1.mono hle) (h2.mono hle) (ih h3)

theorem MapRel.mono {φ' : VMap} (hle : φ.le φ') {es : List (VVal × VVal)} {st : Option (List Nat × Nat)} {ces : Array MapEntry} {clock : Nat} (h : MapRel w0 φ es st ces clock) : MapRel w0 φ' es st ces clock := by
  obtain ⟨⟨es', a, b, c⟩, d, e, f, g⟩ := h
  exact ⟨⟨es', a, RelEs.mono hle b, c⟩, d, e, f, g⟩

theorem RelObj.mono {φ' : VMap} (hle : φ.le φ') {v : Nat} {l : Loc} {o : VObj} (h : RelObj w0 φ w v l o) : RelObj w0 φ' w v l o := by
  cases o with
  | cells cs e ver =>
    obtain ⟨h1, h2⟩ := h
    refine ⟨h1, fun hv => ?_⟩
    obtain ⟨arr, fr, a, b, c, pre, post, d, r⟩ := h2 hv
    exact ⟨arr, fr, a, b, c, pre, post, d, r.mono hle⟩
  | map es st =>
    obtain ⟨h1, ces, clock, h2, h3⟩ := h
    exact ⟨h1, ces, clock, h2, h3.mono hle⟩

theorem RelObj.at {w' : World} {v : Nat} {l : Loc} {o : VObj} (h : RelObj w0 φ w v l o) (hb : w'.heap[l.c]? = w.heap[l.c]?) : RelObj w0 φ w' v l o := by
  cases o with
  | cells cs e ver =>
    obtain ⟨h1, h2⟩ := h
    refine ⟨h1, fun hv => ?_⟩
    obtain ⟨arr, fr, a, r⟩ := h2 hv
    exact ⟨arr, fr, by rw [hb]; exact a, r⟩
  | map es st =>
    obtain ⟨h1, ces, clock, h2, h3⟩ := h
    exact ⟨h1, ces, clock, by rw [hb]; exact h2, h3⟩

theorem RelH.old_lt (H : RelH w0 φ h w) : w0.heap.size ≤ w.heap.size := H.below.size

theorem below_of {w' : World} (H : RelH w0 φ h w) (hs : w.heap.size ≤ w'.heap.size) (hold : ∀ c, c < w0.heap.size → w'.heap[c]? = w.heap[c]?) (h1 : w'.os = w.os) (h2 : w'.tape = w.tape) (h3 : w'.output = w.output) : Below w0.heap.size w0 w' :=
  ⟨h1.trans H.below.os, h2.trans H.below.tape, h3.trans H.below.output, Nat.le_trans H.below.size hs, fun k hk => (hold k hk).trans (H.below.block k hk)⟩

/-- A block is written in place. -/
theorem step_write (H : RelH w0 φ h w) {b v : Nat} {l : Loc} (hφ : φ b v = some l) {o' : VObj} (hb : b < h.size) {w' : World} (hsize : w'.heap.size = w.heap.size) (hoth : ∀ c, c ≠ l.c → w'.heap[c]? = w.heap[c]?)
    (hos : w'.os = w.os) (htape : w'.tape = w.tape) (hout : w'.output = w.output) (hobj : ∀ v l', φ b v = some l' → RelObj w0 φ w' v l' o') : RelH w0 φ (h.set b o') w' ∧ Ext φ h w φ (h.set b o') w' := by
  have hlc := H.lt _ _ _ hφ
  constructor
  · refine ⟨below_of H (by omega) (fun c hc => hoth c (by omega)) hos htape hout, fun b1 v1 l1 h1 => by rw [hsize]; exact H.lt _ _ _ h1, ?_, H.sep⟩
    intro b1 v1 l1 o1 h1 hg
    rw [VHeap.get_set h b o' hb] at hg
    split at hg
    · rename_i e; subst e; injection hg with hg; subst hg; exact hobj _ _ h1
    · rename_i e
      refine (H.obj _ _ _ _ h1 hg).at (hoth _ fun ec => e (H.sep _ _ _ _ _ _ h1 hφ ec))
  · refine ⟨VMap.le.refl φ, fun b1 v1 l1 a c => ?_, fun b1 v1 a c => ?_, by simp, by omega, ?_, ?_, hos, htape, hout⟩
    · rw [a] at c; cases c
    · simp at c; omega
    · intro b1 hb1 hn
      rw [VHeap.get_set h b o' hb, if_neg]
      rintro rfl; rw [hn v] at hφ; cases hφ
    · intro c hc hn
      exact hoth c (fun e => hn b v l hb hφ e.symm)

/-- A block is made. -/
theorem step_new (H : RelH w0 φ h w) {w' : World} (hw : NewW w w') {N : Nat} {x : VObj} (hx : RelObj w0 φ w' 0 ⟨w.heap.size, N⟩ x) (hn : ∀ v, φ h.size v = none) :
    RelH w0 (φ.put h.size 0 ⟨w.heap.size, N⟩) (h.new x) w' ∧ Ext φ h w (φ.put h.size 0 ⟨w.heap.size, N⟩) (h.new x) w' := by
  have hle : φ.le (φ.put h.size 0 ⟨w.heap.size, N⟩) := VMap.put_le (hn 0) _
  have hw0 := H.old_lt
  have hsz := hw.size
  constructor
  · refine ⟨below_of H (by omega) (fun c hc => hw.old c (by omega)) hw.os hw.tape hw.output, ?_, ?_, ?_⟩
    · intro b1 v1 l1 h1
      rcases VMap.put_inv h1 with ⟨_, _, rfl⟩ | h1
      · exact ⟨hw0, by show w.heap.size < _; omega⟩
      · have := H.lt _ _ _ h1; omega
    · intro b1 v1 l1 o1 h1 hg
      rw [VHeap.get_new] at hg
      rcases VMap.put_inv h1 with ⟨rfl, rfl, rfl⟩ | h1
      · rw [if_pos rfl] at hg; injection hg with hg; subst hg; exact hx.mono hle
      · split at hg
        · rename_i e; subst e; rw [hn] at h1; cases h1
        · exact ((H.obj _ _ _ _ h1 hg).at (hw.old _ (H.lt _ _ _ h1).2)).mono hle
    · intro b1 v1 l1 b2 v2 l2 h1 h2 e
      rcases VMap.put_inv h1 with ⟨rfl, rfl, rfl⟩ | h1 <;> rcases VMap.put_inv h2 with ⟨rfl, rfl, rfl⟩ | h2
      · rfl
      · have := (H.lt _ _ _ h2).2; simp at e; omega
      · have := (H.lt _ _ _ h1).2; simp at e; omega
      · exact H.sep _ _ _ _ _ _ h1 h2 e
  · refine ⟨hle, ?_, ?_, by simp, by omega, ?_, fun c hc _ => hw.old c hc, hw.os, hw.tape, hw.output⟩
    · intro b1 v1 l1 a c
      rcases VMap.put_inv c with ⟨rfl, rfl, rfl⟩ | c
      · exact ⟨.inl ⟨Nat.le_refl _, by simp⟩, .inl (Nat.le_refl _)⟩
      · rw [a] at c; cases c
    · intro b1 v1 h1 h2
      simp at h2
      obtain rfl : b1 = h.size := by omega
      exact hn v1
    · intro b1 hb1 _
      rw [VHeap.get_new, if_neg (by omega)]

/-- A row of cells gets a new version. -/
theorem step_bump (H : RelH w0 φ h w) {b ver : Nat} {l l' : Loc} {cs cs' : List VVal} {e : TypeId} (hg : h.get b = some (.cells cs e ver)) (hφ : φ b ver = some l) {w' : World} (hsize : w.heap.size ≤ w'.heap.size) (hoth : ∀ c, c < w.heap.size → c ≠ l.c → w'.heap[c]? = w.heap[c]?)
    (hl' : l'.c < w'.heap.size ∧ (l'.c = l.c ∨ l'.c = w.heap.size)) (hos : w'.os = w.os) (htape : w'.tape = w.tape) (hout : w'.output = w.output) (hobj : RelObj w0 φ w' (ver + 1) l' (.cells cs' e (ver + 1))) :
    RelH w0 (φ.put b (ver + 1) l') (h.set b (.cells cs' e (ver + 1))) w' ∧ Ext φ h w (φ.put b (ver + 1) l') (h.set b (.cells cs' e (ver + 1))) w' := by
  have hb := VHeap.lt_of_get hg
  have hvers : ∀ v l0, φ b v = some l0 → v ≤ ver := fun v l0 h0 => (H.obj _ _ _ _ h0 hg).1
  have hn : φ b (ver + 1) = none := by
    cases h0 : φ b (ver + 1) with
    | none => rfl
    | some l0 => have := hvers _ _ h0; omega
  have hle : φ.le (φ.put b (ver + 1) l') := VMap.put_le hn _
  have hlc := H.lt _ _ _ hφ
  have hw0 := H.old_lt
  have hl0 : w0.heap.size ≤ l'.c := by rcases hl'.2 with e | e <;> omega
  constructor
  · refine ⟨below_of H hsize (fun c hc => hoth c (by omega) (by omega)) hos htape hout, ?_, ?_, ?_⟩
    · intro b1 v1 l1 h1
      rcases VMap.put_inv h1 with ⟨_, _, rfl⟩ | h1
      · exact ⟨hl0, hl'.1⟩
      · have := H.lt _ _ _ h1; omega
    · intro b1 v1 l1 o1 h1 hg1
      rw [VHeap.get_set h b _ hb] at hg1
      rcases VMap.put_inv h1 with ⟨rfl, rfl, rfl⟩ | h1'
      · rw [if_pos rfl] at hg1; injection hg1 with hg1; subst hg1; exact hobj.mono hle
      · split at hg1
        · rename_i eb; subst eb; injection hg1 with hg1; subst hg1
          have := hvers _ _ h1'
          exact ⟨by omega, fun ev => by omega⟩
        · rename_i eb
          exact ((H.obj _ _ _ _ h1' hg1).at (hoth _ (H.lt _ _ _ h1').2 fun ec => eb (H.sep _ _ _ _ _ _ h1' hφ ec))).mono hle
    · intro b1 v1 l1 b2 v2 l2 h1 h2 ec
      rcases VMap.put_inv h1 with ⟨rfl, rfl, e3⟩ | h1' <;> rcases VMap.put_inv h2 with ⟨rfl, rfl, e4⟩ | h2'
      · rfl
      · rcases hl'.2 with e1 | e1
        · exact (H.sep _ _ _ _ _ _ h2' hφ (by rw [← ec, e3]; exact e1)).symm
        · have := (H.lt _ _ _ h2').2; rw [← ec, e3] at this; omega
      · rcases hl'.2 with e1 | e1
        · exact H.sep _ _ _ _ _ _ h1' hφ (by rw [ec, e4]; exact e1)
        · have := (H.lt _ _ _ h1').2; rw [ec, e4] at this; omega
      · exact H.sep _ _ _ _ _ _ h1' h2' ec
  · refine ⟨hle, ?_, ?_, by simp, hsize, ?_, ?_, hos, htape, hout⟩
    · intro b1 v1 l1 a c
      rcases VMap.put_inv c with ⟨rfl, rfl, rfl⟩ | c
      · refine ⟨.inr ⟨ver, l, hφ, hb⟩, ?_⟩
        rcases hl'.2 with e1 | e1
        · exact .inr ⟨ver, l, hφ, e1.symm, hb⟩
        · exact .inl (by omega)
      · rw [a] at c; cases c
    · intro b1 v1 h1 h2; simp at h2; omega
    · intro b1 hb1 hn1
      rw [VHeap.get_set h b _ hb, if_neg]
      rintro rfl; rw [hn1 ver] at hφ; cases hφ
    · intro c hc hn1
      exact hoth c hc (fun ec => hn1 b ver l hb hφ ec.symm)

/-- What is stored, is stored. -/
theorem store_rel (H : RelH w0 φ h w) {p : VVal} {y : Value} (hp : RelV w0 φ p y) {xs : List VVal} {ys : List Value} (hx : RelVs w0 φ xs ys) (hone : ∀ v ∈ ys, v.oneCell' = true) {h' : VHeap} (hs : h.store p xs = some h') (hne : xs ≠ []) :
    ∃ g off w', y = .pointer (some ⟨g, off, none⟩) ∧ (storeCells ⟨g, off, none⟩ ys).run P w = .ok () w' ∧ RelH w0 φ h' w' ∧ Ext φ h w φ h' w' := by
  unfold VHeap.store at hs
  split at hs
  · rename_i b v off
    cases hp with
    | ptr hφ =>
      rename_i l
      split at hs
      · rename_i cs e ver hg
        split at hs
        · rename_i hv
          have hv : v = ver := by simpa using hv
          subst hv
          split at hs
          · rename_i cs' hlay
            injection hs with hs; subst hs
            obtain ⟨_, hobj⟩ := H.obj _ _ _ _ hφ hg
            obtain ⟨arr, fr, hb, hN, hfr, pre, post, hpp, hr⟩ := hobj rfl
            obtain ⟨hlen, hfit⟩ := lay_len hlay
            have hfit : off + xs.length ≤ cs.length := hfit.resolve_left hne
            have hprelen := hr.length
            have hys := hx.length
            have hasz : arr.size = pre.length + post.length := by rw [← Array.length_toList, hpp, List.length_append]
            obtain ⟨w', h1, h2, h3, h4, h5, h6, h7⟩ := run_storeCells_row (P := P) l.c off e fr ys 0 arr w hb (by omega) (by omega) hone
            have hb' : w'.heap[l.c]? = some (.cells ⟨writeRow arr.toList off ys⟩ e fr) := by rw [h7]; simp
            obtain ⟨r1, r2⟩ := step_write H hφ (o' := .cells cs' e v) (VHeap.lt_of_get hg) h2 (fun c hc => by rw [h7, if_neg hc]) h3 h4 h5 (by
              intro v1 l1 h1'
              refine ⟨(H.obj _ _ _ _ h1' hg).1, fun e1 => ?_⟩
              subst e1
              rw [hφ] at h1'; injection h1' with h1'; subst h1'
              refine ⟨_, fr, hb', by simp [writeRow_length]; exact hN, hfr, writeRow pre off ys, post, ?_, hr.lay hx hlay⟩
              show writeRow arr.toList off ys = _
              rw [hpp]
              apply List.ext_getElem?
              intro i
              rw [writeRow_get _ _ _ (by rw [List.length_append]; omega)]
              by_cases hi : off ≤ i ∧ i < off + ys.length
              · rw [if_pos hi, List.getElem?_append_left (by rw [writeRow_length]; omega), writeRow_get _ _ _ (by omega), if_pos hi]
              · rw [if_neg hi]
                by_cases hip : i < pre.length
                · rw [List.getElem?_append_left hip, List.getElem?_append_left (by rw [writeRow_length]; exact hip), writeRow_get _ _ _ (by omega), if_neg hi]
                · rw [List.getElem?_append_right (by omega), List.getElem?_append_right (by rw [writeRow_length]; omega), writeRow_length])
            exact ⟨_, _, w', rfl, h1, r1, r2⟩
          · cases hs
        · cases hs
      · cases hs
  · cases hs
end
end Go.V
