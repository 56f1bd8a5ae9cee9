/- Lengths, the greatest and the least; all operations that read. -/
import Derived.Test.YthefbgflndpggaaV13
set_option linter.unusedSimpArgs false
set_option linter.unusedVariables false
namespace Go.V
open Go.RowKit

section
variable {P : Program} {w0 : World} {φ : VMap} {h : VHeap} {w : World} {ts : List VVal} {ρ : Operand → Value}

theorem lenAt_rel (H : RelH w0 φ h w) {x : VVal} {y : Value} (hr : RelV w0 φ x y) {n : Nat} (hl : h.lenAt x = some n) :
    (∃ s : ByteArray, y = .string s ∧ n = s.size) ∨ (∃ a c, y = .slice a n c) ∨ (y = .map none ∧ n = 0) ∨ (∃ r es clock, y = .map (some r) ∧ w.heap[r]? = some (.map es clock) ∧ es.size = n) := by
  cases hr with
  | str s => simp [VHeap.lenAt, lenV] at hl; exact .inl ⟨s, rfl, by rw [← hl]⟩
  | nilslice => simp [VHeap.lenAt, lenV] at hl; subst hl; exact .inr (.inl ⟨_, _, rfl⟩)
  | sliceK => simp [VHeap.lenAt, lenV] at hl; subst hl; exact .inr (.inl ⟨_, _, rfl⟩)
  | sliceU => simp [VHeap.lenAt, lenV] at hl; subst hl; exact .inr (.inl ⟨_, _, rfl⟩)
  | rslice0 => simp [VHeap.lenAt, lenV] at hl; subst hl; exact .inr (.inl ⟨_, _, rfl⟩)
  | rslice => simp [VHeap.lenAt, lenV] at hl; subst hl; exact .inr (.inl ⟨_, _, rfl⟩)
  | nilmap => simp [VHeap.lenAt, lenV] at hl; subst hl; exact .inr (.inr (.inl ⟨rfl, rfl⟩))
  | map hφ =>
    simp only [VHeap.lenAt] at hl
    split at hl
    · rename_i es st hes
      injection hl with hl
      obtain ⟨_, ces, clock, hb, hmr⟩ := H.obj _ _ _ _ hφ hes
      obtain ⟨es', hperm, hrel, _⟩ := hmr.rel
      refine .inr (.inr (.inr ⟨_, ces, clock, rfl, hb, ?_⟩))
      rw [← hl, ← hperm.length_eq, hrel.length]; simp
    · cases hl
  | _ => simp [VHeap.lenAt, lenV] at hl

theorem rd_len (H : RelH w0 φ h w) (hρ : RelEnv w0 φ ts ρ) {o : Oper} {args : Array Operand} {tys : Array TypeId} (ho : o.op = .call { callee := .builtin .len, args := args, argTypes := tys }) {vo : VOp} (hc : opV? P o.op = some vo) {v : VVal}
    (hv : vo.read ts h = some v) : ReadOk P w0 φ w ρ o v := by
  rw [ho] at hc
  simp only [opV?] at hc
  split at hc
  · rename_i t x ht ha
    have hargs : args = #[x] := Array.toList_inj.1 (by simpa using ha)
    subst hargs
    have run1 : ∀ {r : Value}, (Builtin.len_ tys o.type #[ρ x]).run P w = .ok r w → (execOp ρ o).run P w = .ok (.value r) w := by
      intro r hrun
      simp only [execOp, ho, resolve, Sem.run_bind, Sem.run_pure, Result.andThen_ok, invoke, builtin]
      have : (#[x].map ρ) = #[ρ x] := by simp
      rw [this, hrun]; rfl
    split at hc
    · rename_i n e y hu hx
      injection hc with hc; subst hc
      simp only [VOp.read, Option.some.injEq] at hv; subst hv
      exact ⟨_, run1 (by simp [Builtin.len_, ht, run_underlying hu, goInt]), .int _ _⟩
    · rename_i a y hu hx
      split at hc
      · rename_i n e hu2
        injection hc with hc; subst hc
        simp only [VOp.read, Option.some.injEq] at hv; subst hv
        exact ⟨_, run1 (by simp [Builtin.len_, ht, run_underlying hu, run_underlying hu2, goInt]), .int _ _⟩
      · cases hc
    · rename_i y hu hx
      injection hc with hc; subst hc
      simp only [VOp.read, nilF_eq, pickF_eq, faddr_eq, fieldF_eq, extF_eq, convF_eq, idxS_eq, lenF_eq, unV_eq] at hv
      split at hv
      · rename_i hsh
        split at hv
        · rename_i n hn
          injection hv with hv; subst hv
          refine ⟨.int .i64 n, run1 ?_, .int _ _⟩
          have hr := hρ _ _ hx
          rcases lenAt_rel H hr hn with ⟨s, e1, e2⟩ | ⟨a, c, e1⟩ | ⟨e1, e2⟩ | ⟨r, es, clock, e1, e2, e3⟩
          · subst e2
            simp [Builtin.len_, ht, run_underlying hu, goInt, e1]
          all_goals (exfalso; rw [e1] at hr; cases hs : y.ev ts <;> rw [hs] at hr hsh <;> simp [shapeOk] at hsh <;> cases hr)
        · cases hv
      · cases hv
    · rename_i e y hu hx
      injection hc with hc; subst hc
      simp only [VOp.read, nilF_eq, pickF_eq, faddr_eq, fieldF_eq, extF_eq, convF_eq, idxS_eq, lenF_eq, unV_eq] at hv
      split at hv
      · rename_i hsh
        split at hv
        · rename_i n hn
          injection hv with hv; subst hv
          refine ⟨.int .i64 n, run1 ?_, .int _ _⟩
          have hr := hρ _ _ hx
          rcases lenAt_rel H hr hn with ⟨s, e1, e2⟩ | ⟨a, c, e1⟩ | ⟨e1, e2⟩ | ⟨r, es, clock, e1, e2, e3⟩
          rotate_left
          · simp [Builtin.len_, ht, run_underlying hu, goInt, e1]
          all_goals (exfalso; rw [e1] at hr; cases hs : y.ev ts <;> rw [hs] at hr hsh <;> simp [shapeOk] at hsh <;> cases hr)
        · cases hv
      · cases hv
    · rename_i e1 e2 y hu hx
      injection hc with hc; subst hc
      simp only [VOp.read, nilF_eq, pickF_eq, faddr_eq, fieldF_eq, extF_eq, convF_eq, idxS_eq, lenF_eq, unV_eq] at hv
      split at hv
      · rename_i hsh
        split at hv
        · rename_i n hn
          injection hv with hv; subst hv
          refine ⟨.int .i64 n, run1 ?_, .int _ _⟩
          have hr := hρ _ _ hx
          rcases lenAt_rel H hr hn with ⟨s, e1, e2⟩ | ⟨a, c, e1⟩ | ⟨e1, e2⟩ | ⟨r, es, clock, e1, e2, e3⟩
          rotate_left 2
          · subst e2; simp [Builtin.len_, ht, run_underlying hu, goInt, e1]
          · simp [Builtin.len_, ht, run_underlying hu, goInt, e1, run_getMap e2, e3]
          all_goals (exfalso; rw [e1] at hr; cases hs : y.ev ts <;> rw [hs] at hr hsh <;> simp [shapeOk] at hsh <;> cases hr)
        · cases hv
      · cases hv
    · cases hc
  · cases hc

theorem minmax_rel (mx : Bool) : ∀ {xs : List VVal} {ys : List Value} {x : VVal} {y : Value} {v : VVal}, RelV w0 φ x y → RelVs w0 φ xs ys → minmaxV mx x xs = some v →
    ∃ v', ((ys.foldlM (if mx then Builtin.max2 else Builtin.min2) y).run P w = .ok v' w) ∧ RelV w0 φ v v' := by
  intro xs
  induction xs with
  | nil => intro ys x y v hx hxs hv; cases hxs; unfold minmaxV at hv; simp at hv; subst hv; exact ⟨y, rfl, hx⟩
  | cons a xs ih =>
    intro ys x y v hx hxs hv
    cases hxs with
    | cons ha hxs =>
      unfold minmaxV at hv
      split at hv
      · rename_i e; cases e
      · rename_i k a1 l b1 r e1 e2
        injection e2 with e2 e3
        subst e2 e3
        split at hv
        · rename_i hk
          obtain rfl := code_inj hk
          cases hx; cases ha
          obtain ⟨v', h1, h2⟩ := ih (.int _ _) hxs hv
          refine ⟨v', ?_, h2⟩
          rw [List.foldlM_cons, Sem.run_bind]
          cases mx
          · simpa [Builtin.min2] using h1
          · simpa [Builtin.max2] using h1
        · cases hv
      · cases hv

theorem rd_minmax (hρ : RelEnv w0 φ ts ρ) {o : Oper} {args : Array Operand} {tys : Array TypeId} {mx : Bool} (ho : o.op = .call { callee := .builtin (if mx then .max else .min), args := args, argTypes := tys }) {l : List VOpd} (hl : opdsV args.toList = some l) {v : VVal}
    (hv : (VOp.minmax mx l).read ts h = some v) : ReadOk P w0 φ w ρ o v := by
  have hall := hρ.all hl
  simp only [VOp.read, nilF_eq, pickF_eq, faddr_eq, fieldF_eq, extF_eq, convF_eq, idxS_eq, lenF_eq, unV_eq] at hv
  cases he : evs ts l with
  | nil => simp [he] at hv
  | cons x xs =>
    simp only [he] at hv
    rw [he] at hall
    cases hm : args.toList.map ρ with
    | nil => rw [hm] at hall; cases hall
    | cons y ys =>
      rw [hm] at hall
      cases hall with
      | cons h1 h2 =>
        obtain ⟨v', e1, e2⟩ := minmax_rel (P := P) (w := w) mx h1 h2 hv
        refine ⟨v', ?_, e2⟩
        simp only [execOp, ho, resolve, Sem.run_bind, Sem.run_pure, Result.andThen_ok, invoke]
        cases mx
        · simp only [Bool.false_eq_true, if_false, builtin, Sem.run_bind, Builtin.min_, Array.toList_map, hm] at e1 ⊢
          rw [e1]; rfl
        · simp only [if_true, builtin, Sem.run_bind, Builtin.max_, Array.toList_map, hm] at e1 ⊢
          rw [e1]; rfl

/-- What the virtual machine reads, the model reads. -/
theorem read_sound (H : RelH w0 φ h w) (hρ : RelEnv w0 φ ts ρ) {o : Oper} {vo : VOp} (hc : opV? P o.op = some vo) {v : VVal} (hv : vo.read ts h = some v) : ReadOk P w0 φ w ρ o v := by
  cases ho : o.op with
  | move x => rw [ho] at hc; obtain ⟨y, h1, rfl⟩ := one_opd hc; simp [VOp.read] at hv; subst hv; exact ⟨ρ x, by simp [execOp, ho], hρ _ _ h1⟩
  | assign x => rw [ho] at hc; obtain ⟨y, h1, rfl⟩ := one_opd hc; simp [VOp.read] at hv; subst hv; exact ⟨ρ x, by simp [execOp, ho], hρ _ _ h1⟩
  | pick c a b => exact rd_pick hρ ho hc hv
  | build t parts =>
    rw [ho] at hc
    obtain ⟨v', e1, e2⟩ := read_build (w := w) hρ hc hv
    exact ⟨v', by simp only [execOp, ho, Sem.run_bind, e1, Result.andThen_ok, Sem.run_pure], e2⟩
  | load t a => exact rd_load H hρ ho hc hv
  | nilCheck x => exact rd_nilCheck hρ ho hc hv
  | binOp op t x y u => exact rd_bin hρ ho hc hv
  | unOp op t x => exact rd_un hρ ho hc hv
  | convert s d x => exact rd_convert H hρ ho hc hv
  | makeInterface t x => exact rd_mkIface hρ ho hc hv
  | makeFunc f a c => exact rd_mkFunc hρ ho hc hv
  | slice t x lo hi mx => exact rd_slice hρ ho hc hv
  | fieldAddr t x k => exact rd_fieldAddr hρ ho hc hv
  | field t x k => exact rd_field hρ ho hc hv
  | indexAddr t x i => exact rd_indexAddr hρ ho hc hv
  | index t x i => exact rd_index hρ ho hc hv
  | lookup t m k ok => exact rd_lookup H hρ ho hc hv
  | typeAssert x t u ok => exact rd_typeAssert hρ ho hc hv
  | extract x i => exact rd_extract hρ ho hc hv
  | makeMap t r =>
    rw [ho] at hc
    simp only [opV?, mapV] at hc
    split at hc
    · injection hc with hc; subst hc; simp [VOp.read] at hv
    · injection hc with hc; subst hc; simp [VOp.read] at hv
    · cases hc
  | call c =>
    obtain ⟨callee, args, tys⟩ := c
    cases callee with
    | builtin b =>
      cases b with
      | len => exact rd_len H hρ ho hc hv
      | max =>
        rw [ho] at hc
        simp only [opV?] at hc
        cases hl : opdsV args.toList with
        | none => simp [hl] at hc
        | some l => simp [hl] at hc; subst hc; exact rd_minmax (mx := true) hρ ho hl hv
      | min =>
        rw [ho] at hc
        simp only [opV?] at hc
        cases hl : opdsV args.toList with
        | none => simp [hl] at hc
        | some l => simp [hl] at hc; subst hc; exact rd_minmax (mx := false) hρ ho hl hv
      | _ => first
        | (rw [ho] at hc; simp only [opV?, reduceCtorEq] at hc; done)
        | (rw [ho] at hc; simp only [opV?] at hc; (repeat' split at hc) <;> first | (cases hc; done) | (injection hc with hc; subst hc; simp [VOp.read] at hv; done) | (simp only [Option.map_eq_some_iff] at hc; obtain ⟨_, _, rfl⟩ := hc; simp [VOp.read] at hv; done))
    | value f => first
        | (rw [ho] at hc; simp only [opV?, reduceCtorEq] at hc; done)
        | (rw [ho] at hc; simp only [opV?] at hc; (repeat' split at hc) <;> first | (cases hc; done) | (injection hc with hc; subst hc; simp [VOp.read] at hv; done) | (simp only [Option.map_eq_some_iff] at hc; obtain ⟨_, _, rfl⟩ := hc; simp [VOp.read] at hv; done))
    | invoke r m => first
        | (rw [ho] at hc; simp only [opV?, reduceCtorEq] at hc; done)
        | (rw [ho] at hc; simp only [opV?] at hc; (repeat' split at hc) <;> first | (cases hc; done) | (injection hc with hc; subst hc; simp [VOp.read] at hv; done) | (simp only [Option.map_eq_some_iff] at hc; obtain ⟨_, _, rfl⟩ := hc; simp [VOp.read] at hv; done))
  | _ => first
    | (rw [ho] at hc; simp only [opV?, reduceCtorEq] at hc; done)
    | (rw [ho] at hc; simp only [opV?] at hc; (repeat' split at hc) <;> first | (cases hc; done) | (injection hc with hc; subst hc; simp [VOp.read] at hv; done) | (simp only [Option.map_eq_some_iff] at hc; obtain ⟨_, _, rfl⟩ := hc; simp [VOp.read] at hv; done))
end
end Go.V
