/- The operations that read: each, and all of them. -/
import Derived.Test.YthefbgflndpggaaV8
set_option linter.unusedSimpArgs false
set_option linter.unusedVariables false
namespace Go.V
open Go.RowKit

section
variable {P : Program} {w0 : World} {φ : VMap} {h : VHeap} {w : World} {ts : List VVal} {ρ : Operand → Value}

def ReadOk (P : Program) (w0 : World) (φ : VMap) (w : World) (ρ : Operand → Value) (o : Oper) (v : VVal) : Prop :=
  ∃ v', (execOp ρ o).run P w = .ok (.value v') w ∧ RelV w0 φ v v'

theorem rd_pick (hρ : RelEnv w0 φ ts ρ) {o : Oper} {c a b : Operand} (ho : o.op = .pick c a b) {vo : VOp} (hc : opV? P o.op = some vo) {v : VVal} (hv : vo.read ts h = some v) : ReadOk P w0 φ w ρ o v := by
  rw [ho] at hc
  simp only [opV?] at hc
  cases h1 : opdV c with
  | none => simp [h1] at hc
  | some c' => cases h2 : opdV a with
    | none => simp [h1, h2] at hc
    | some a' => cases h3 : opdV b with
      | none => simp [h1, h2, h3] at hc
      | some b' =>
        simp [h1, h2, h3] at hc; subst hc
        simp only [VOp.read, nilF_eq, pickF_eq, faddr_eq, fieldF_eq, extF_eq, convF_eq, idxS_eq, lenF_eq, unV_eq] at hv
        have hr := hρ _ _ h1
        cases hcv : c'.ev ts with
        | bool t =>
          rw [hcv] at hr
          simp only [hcv, Option.some.injEq] at hv; subst hv
          cases hrc : ρ c <;> rw [hrc] at hr <;> cases hr
          refine ⟨if t then ρ a else ρ b, by simp [execOp, ho, hrc, asBool], ?_⟩
          cases t
          · exact hρ _ _ h3
          · exact hρ _ _ h2
        | _ => simp [hcv] at hv

theorem rd_load (H : RelH w0 φ h w) (hρ : RelEnv w0 φ ts ρ) {o : Oper} {t : TypeId} {a : Operand} (ho : o.op = .load t a) {vo : VOp} (hc : opV? P o.op = some vo) {v : VVal} (hv : vo.read ts h = some v) : ReadOk P w0 φ w ρ o v := by
  rw [ho] at hc
  simp only [opV?] at hc
  cases h1 : sizeT P t with
  | none => simp [h1] at hc
  | some z => cases h2 : opdV a with
    | none => simp [h1, h2] at hc
    | some a' =>
      obtain ⟨agg, n⟩ := z
      simp [h1, h2] at hc; subst hc
      have hn : agg = false → n = 1 := by
        rintro rfl
        unfold sizeT at h1
        split at h1
        · cases h1
        · split at h1
          · injection h1 with h1; injection h1 with _ h1; exact h1.symm
          · cases h1
        · cases h1
      have hv := load_sub hv hn
      cases hl : h.load (a'.ev ts) n with
      | none => simp [hl] at hv
      | some cs =>
        simp only [hl] at hv
        obtain ⟨ad, v', e1, e2, e3⟩ := run_loadVar_rel H h1 (hρ _ _ h2) hl hv
        exact ⟨v', by simp [execOp, ho, Instr.loadAt, e1, Instr.sureAddr, e2], e3⟩

theorem rd_nilCheck (hρ : RelEnv w0 φ ts ρ) {o : Oper} {x : Operand} (ho : o.op = .nilCheck x) {vo : VOp} (hc : opV? P o.op = some vo) {v : VVal} (hv : vo.read ts h = some v) : ReadOk P w0 φ w ρ o v := by
  rw [ho] at hc
  simp only [opV?] at hc
  cases h1 : opdV x with
  | none => simp [h1] at hc
  | some x' =>
    simp [h1] at hc; subst hc
    have hr := hρ _ _ h1
    simp only [VOp.read, nilF_eq, pickF_eq, faddr_eq, fieldF_eq, extF_eq, convF_eq, idxS_eq, lenF_eq, unV_eq] at hv
    cases hx : x'.ev ts with
    | ptr b k off =>
      simp only [hx, Option.some.injEq] at hv; subst hv
      rw [hx] at hr
      refine ⟨ρ x, ?_, hr⟩
      cases hrx : ρ x <;> rw [hrx] at hr <;> cases hr
      simp [execOp, ho, hrx]
    | rptr cs =>
      simp only [hx, Option.some.injEq] at hv; subst hv
      rw [hx] at hr
      refine ⟨ρ x, ?_, hr⟩
      cases hrx : ρ x <;> rw [hrx] at hr <;> cases hr
      simp [execOp, ho, hrx]
    | func f a b =>
      simp only [hx, Option.some.injEq] at hv; subst hv
      rw [hx] at hr
      refine ⟨ρ x, ?_, hr⟩
      cases hrx : ρ x <;> rw [hrx] at hr <;> cases hr
      simp [execOp, ho, hrx]
    | _ => simp [hx] at hv

theorem VEq.test_shape {q : VEq} {x y : VVal} {r : Bool} (ht : q.test x y = some r) : (∃ l, q = .struct l ∧ ∃ xs, x = .agg xs) ∨ (∃ g, q = .flat g ∧ ∀ xs, x ≠ .agg xs) := by
  cases q with
  | flat g => refine .inr ⟨g, rfl, fun xs e => ?_⟩; subst e; cases g <;> simp [VEq.test, eqFlat] at ht
  | struct l => refine .inl ⟨l, rfl, ?_⟩; cases x <;> simp [VEq.test] at ht; exact ⟨_, rfl⟩

theorem tagOf_ne (u : TypeDesc) : tagOf u ≠ some .iface := by cases u <;> simp [tagOf]

theorem eqT_ne {k : Nat} {t : TypeId} {g : VTag} (h : eqT P k t = some (.flat g)) : g ≠ .iface := by
  cases k with
  | zero => simp [eqT] at h
  | succ k =>
    unfold eqT at h
    split at h
    · split at h
      · cases h
      · split at h <;> cases h
    · rename_i u _ _
      split at h
      · rename_i g' hg
        injection h with h; injection h with h; subst h
        rintro rfl
        exact tagOf_ne _ hg
      · cases h
    · cases h

theorem test_int {q : VEq} {k : IntKind} {n : Int} {b : VVal} {r : Bool} (ht : q.test (.int k n) b = some r) : ∃ l m, b = .int l m := by
  rcases VEq.test_shape ht with ⟨l, rfl, xs, h1⟩ | ⟨g, rfl, h1⟩
  · cases h1
  · cases g <;> cases b <;> simp [VEq.test, eqFlat] at ht
    exact ⟨_, _, rfl⟩

theorem test_str {q : VEq} {s : List Nat} {b : VVal} {r : Bool} (ht : q.test (.str s) b = some r) : ∃ s', b = .str s' := by
  rcases VEq.test_shape ht with ⟨l, rfl, xs, h1⟩ | ⟨g, rfl, h1⟩
  · cases h1
  · cases g <;> cases b <;> simp [VEq.test, eqFlat] at ht
    exact ⟨_, rfl⟩

theorem test_poison {q : VEq} {b : VVal} {r : Bool} (ht : q.test .poison b = some r) : False := by
  rcases VEq.test_shape ht with ⟨l, rfl, xs, h1⟩ | ⟨g, rfl, h1⟩
  · cases h1
  · cases g <;> simp [VEq.test, eqFlat] at ht

theorem test_niliface {q : VEq} {b : VVal} {r : Bool} (ht : q.test .niliface b = some r) : q = .flat .iface := by
  rcases VEq.test_shape ht with ⟨l, rfl, xs, h1⟩ | ⟨g, rfl, h1⟩
  · cases h1
  · cases g <;> simp [VEq.test, eqFlat] at ht
    rfl

theorem test_rel {t : TypeId} {q : VEq} {a b : VVal} {a' b' : Value} (ha : RelV w0 φ a a') (hb : RelV w0 φ b b') {r : Bool} (ht : q.test a b = some r) {k : Nat} (hk : k ≤ 10000)
    (heq : (∃ ms, P.underlying t = some (.interface ms) ∧ q = .flat .iface) ∨ eqT P k t = some q) : (Op.equal t a' b').run P w = .ok r w := by
  unfold Op.equal Op.maxDepth
  rcases heq with ⟨ms, hu, rfl⟩ | heq
  · exact eqFlat_rel hu (.inr ⟨ms, rfl, rfl⟩) ha hb ht
  · exact eqT_spec k hk _ _ _ _ _ _ _ heq ha hb ht

/-- What the two comparisons of any values need. -/
theorem test_sym {q : VEq} {k : IntKind} {fs : List SFact} {y : VVal} {r : Bool} (h : q.test (.sym k fs) y = some r) : False := by
  cases q with
  | flat t => simp only [VEq.test] at h; cases t <;> cases y <;> simp [eqFlat] at h
  | struct l => simp [VEq.test] at h

theorem eql_rel {op : BinOp} {t : TypeId} {q : VEq} {x y : Operand} {a b : VVal} {a' b' : Value} (ha : RelV w0 φ a a') (hb : RelV w0 φ b b') {r : Bool} (ht : q.test a b = some r) {k : Nat} (hk : k ≤ 10000)
    (heq : (∃ ms, P.underlying t = some (.interface ms) ∧ q = .flat .iface ∧ ((∃ v, x = .const v) ∨ ∃ v, y = .const v)) ∨ (P.eqGuardType P.depth t = false ∧ eqT P k t = some q))
    (hi : ∀ k n, a ≠ .int k n) (hs : ∀ s, a ≠ .str s) : (eqGuard op t x y a' b').run P w = .ok () w ∧ (Op.equal t a' b').run P w = .ok r w ∧
      (∀ k n, a' ≠ .int k n) ∧ (∀ s, a' ≠ .string s) ∧ (∀ k n, a' ≠ .float k n) ∧ (∀ k n m, a' ≠ .complex k n m) := by
  have hpo : a ≠ .poison := by rintro rfl; exact test_poison ht
  refine ⟨?_, test_rel ha hb ht hk (heq.imp (fun ⟨ms, h1, h2, _⟩ => ⟨ms, h1, h2⟩) fun h => h.2), ?_, ?_, ?_, ?_⟩
  · rcases heq with ⟨ms, h1, rfl, h3⟩ | ⟨h1, h2⟩
    · refine eqGuard_ok (.inr (.inl ⟨h3, ?_⟩))
      rintro xs rfl
      cases ha with
      | agg => simp [VEq.test, eqFlat] at ht
      | poison => exact hpo rfl
    · by_cases hni : a' = .nilIface
      · subst hni
        cases ha with
        | niliface =>
          obtain rfl := test_niliface ht
          exact absurd rfl (eqT_ne h2)
        | poison => exact absurd rfl hpo
      · exact eqGuard_ok (.inr (.inr ⟨h1, hni⟩))
  · rintro k n rfl; cases ha <;> first | exact hi _ _ rfl | exact hpo rfl | exact test_sym ht
  · rintro s rfl; cases ha <;> first | exact hs _ rfl | exact hpo rfl
  · rintro k n rfl; cases ha; exact hpo rfl
  · rintro k n m rfl; cases ha; exact hpo rfl

theorem symOp_some {k l : IntKind} {op : BinOp} {b : Int} {v : VVal} : ∀ {facts : List SFact}, symOp k op l b facts = some v → ∃ f ∈ facts, op = f.op ∧ l = f.k2 ∧ b = f.c ∧ v = f.r.val k := by
  intro facts
  induction facts with
  | nil => intro h; cases h
  | cons f r ih =>
    intro h
    simp only [symOp] at h
    split at h
    · rename_i hc
      injection h with h
      simp only [Bool.and_eq_true, Nat.beq_eq] at hc
      refine ⟨f, by simp, ?_, ?_, ?_, h.symm⟩
      · have := hc.1; revert this; cases op <;> cases f.op <;> simp [BinOp.code]
      · have := hc.2.1; revert this; cases l <;> cases f.k2 <;> simp [IntKind.code]
      · have := hc.2.2; revert this; cases b <;> cases f.c <;> simp [intBeq] <;> omega
    · obtain ⟨f', h1, h2⟩ := ih h; exact ⟨f', by simp [h1], h2⟩

theorem binV_rel {op : BinOp} {t : TypeId} {q : VEq} {x y : Operand} {a b : VVal} {a' b' : Value} (ha : RelV w0 φ a a') (hb : RelV w0 φ b b') {v : VVal} (hv : binV op q a b = some v) {k : Nat} (hk : k ≤ 10000)
    (heq : (op = .eql ∨ op = .neq) → (∃ ms, P.underlying t = some (.interface ms) ∧ q = .flat .iface ∧ ((∃ v, x = .const v) ∨ ∃ v, y = .const v)) ∨ (P.eqGuardType P.depth t = false ∧ eqT P k t = some q)) :
    ∃ v', ((do eqGuard op t x y a' b'; binOp op t a' b' : Sem Value)).run P w = .ok v' w ∧ RelV w0 φ v v' := by
  have fin : ∀ {r}, (∃ v', (binOp op t a' b').run P w = .ok v' w ∧ RelV w0 φ r v') → (eqGuard op t x y a' b').run P w = .ok () w → ∃ v', ((do eqGuard op t x y a' b'; binOp op t a' b' : Sem Value)).run P w = .ok v' w ∧ RelV w0 φ r v' := by
    rintro r ⟨v', h1, h2⟩ hg
    exact ⟨v', by simp [hg, h1], h2⟩
  have onInt : ∀ {k1 n1 l1 m1}, a' = .int k1 n1 → b' = .int l1 m1 → binV0 op q (.int k1 n1) (.int l1 m1) = some v → ∃ v', ((do eqGuard op t x y a' b'; binOp op t a' b' : Sem Value)).run P w = .ok v' w ∧ RelV w0 φ v v' := by
    intro k1 n1 l1 m1 ea eb hv
    rw [ea, eb] at fin ⊢
    by_cases h1 : op = .shl
    · subst h1; exact fin (shift_rel (.inl rfl) hv) (eqGuard_plain (by simp) (by simp))
    · by_cases h2 : op = .shr
      · subst h2; exact fin (shift_rel (.inr rfl) hv) (eqGuard_plain (by simp) (by simp))
      · have e : binV0 op q (.int k1 n1) (.int l1 m1) = if Nat.beq (IntKind.code k1) (IntKind.code l1) then intOp op k1 n1 m1 else none := by
          cases op <;> first | rfl | exact absurd rfl h1 | exact absurd rfl h2
        rw [e] at hv
        split at hv
        · rename_i hk
          exact fin (int_of_code ⟨h1, h2⟩ hk hv) (eqGuard_plain (by simp) (by simp))
        · cases hv
  rw [binV_eq] at hv
  unfold binV0 at hv
  split at hv
  · rename_i hb0 _
    cases ha with
    | sym hf =>
      cases hb
      obtain ⟨f, h1, rfl, rfl, rfl, rfl⟩ := symOp_some hv
      exact onInt rfl rfl (hf f h1 q)
  · cases ha; cases hb
    exact fin (shift_rel (.inl rfl) hv) (eqGuard_plain (by simp) (by simp))
  · cases ha; cases hb
    exact fin (shift_rel (.inr rfl) hv) (eqGuard_plain (by simp) (by simp))
  · rename_i hs1 hs2
    cases ha; cases hb
    split at hv
    · rename_i hk
      exact fin (int_of_code ⟨fun e => hs1 e, fun e => hs2 e⟩ hk hv) (eqGuard_plain (by simp) (by simp))
    · cases hv
  · cases ha; cases hb
    exact fin (str_rel hv) (eqGuard_plain (by simp) (by simp))
  · rename_i hni hns
    split at hv
    · rename_i r ht
      injection hv with hv; subst hv
      obtain ⟨h1, h2, h3, h4, h5, h6⟩ := eql_rel (op := .eql) (w := w) ha hb ht hk (heq (.inl rfl)) (by rintro k n rfl; obtain ⟨l, m, rfl⟩ := test_int ht; exact hni _ _ _ _ rfl rfl)
        (by rintro s rfl; obtain ⟨l, rfl⟩ := test_str ht; exact hns _ _ rfl rfl)
      refine fin ⟨.bool r, ?_, .bool r⟩ h1
      rw [binOp_eql h3 h4 h5 h6]
      simp [h2]
    · cases hv
  · rename_i hni hns
    split at hv
    · rename_i r ht
      injection hv with hv; subst hv
      obtain ⟨h1, h2, h3, h4, h5, h6⟩ := eql_rel (op := .neq) (w := w) ha hb ht hk (heq (.inr rfl)) (by rintro k n rfl; obtain ⟨l, m, rfl⟩ := test_int ht; exact hni _ _ _ _ rfl rfl)
        (by rintro s rfl; obtain ⟨l, rfl⟩ := test_str ht; exact hns _ _ rfl rfl)
      refine fin ⟨.bool (!r), ?_, .bool _⟩ h1
      rw [binOp_neq h3 h4 h5 h6]
      simp [h2]
    · cases hv
  · cases hv

theorem rd_bin (hρ : RelEnv w0 φ ts ρ) {o : Oper} {op : BinOp} {t u : TypeId} {x y : Operand} (ho : o.op = .binOp op t x y u) {vo : VOp} (hc : opV? P o.op = some vo) {v : VVal} (hv : vo.read ts h = some v) : ReadOk P w0 φ w ρ o v := by
  rw [ho] at hc
  simp only [opV?] at hc
  cases h1 : opdV x with
  | none => simp [h1] at hc
  | some x' => cases h2 : opdV y with
    | none => simp [h1, h2] at hc
    | some y' =>
      have done : ∀ {q : VEq}, vo = .bin op q x' y' → ((op = .eql ∨ op = .neq) → (∃ ms, P.underlying t = some (.interface ms) ∧ q = .flat .iface ∧ ((∃ v, x = .const v) ∨ ∃ v, y = .const v)) ∨ (P.eqGuardType P.depth t = false ∧ eqT P 20 t = some q)) →
          ReadOk P w0 φ w ρ o v := by
        rintro q rfl heq
        simp only [VOp.read, nilF_eq, pickF_eq, faddr_eq, fieldF_eq, extF_eq, convF_eq, idxS_eq, lenF_eq, unV_eq] at hv
        obtain ⟨v', e1, e2⟩ := binV_rel (w := w) (hρ _ _ h1) (hρ _ _ h2) hv (k := 20) (by omega) heq
        refine ⟨v', ?_, e2⟩
        simp only [execOp, ho, Sem.run_bind] at e1 ⊢
        rw [e1]; rfl
      have spec : ∀ {q : VEq}, eqQ P t x y = some q → (∃ ms, P.underlying t = some (.interface ms) ∧ q = .flat .iface ∧ ((∃ v, x = .const v) ∨ ∃ v, y = .const v)) ∨ (P.eqGuardType P.depth t = false ∧ eqT P 20 t = some q) := by
        intro q hq
        have cn : ∀ {z : Operand}, constNil z = true → ∃ v, z = .const v := by
          intro z hz; unfold constNil at hz; split at hz
          · exact ⟨_, rfl⟩
          · cases hz
        unfold eqQ at hq
        split at hq
        · rename_i ms hu
          split at hq
          · rename_i hcn
            injection hq with hq
            refine .inl ⟨ms, hu, hq.symm, ?_⟩
            rw [Bool.or_eq_true] at hcn
            exact hcn.imp cn cn
          · cases hq
        · split at hq
          · cases hq
          · rename_i hgt; exact .inr ⟨by simpa using hgt, hq⟩
      simp only [h1, h2] at hc
      cases op
      case eql =>
        cases hq : eqQ P t x y with
        | none => simp [hq] at hc
        | some q => simp [hq] at hc; exact done hc.symm fun _ => spec hq
      case neq =>
        cases hq : eqQ P t x y with
        | none => simp [hq] at hc
        | some q => simp [hq] at hc; exact done hc.symm fun _ => spec hq
      all_goals exact done (Option.some.inj hc).symm fun h => (by simp at h)
end
end Go.V
