/- Comparing, and the other operations on numbers and strings. -/
import Derived.Test.YthefbgflndpggaaV6
set_option linter.unusedSimpArgs false
set_option linter.unusedVariables false
namespace Go.V
open Go.RowKit

section
variable {P : Program} {w0 : World} {φ : VMap} {h : VHeap} {w : World} {ts : List VVal} {ρ : Operand → Value}

theorem code_inj {k l : IntKind} (h : Nat.beq (IntKind.code k) (IntKind.code l) = true) : k = l := by
  cases k <;> cases l <;> first | rfl | (simp [IntKind.code] at h)

theorem natsBeq_bytes (a b : ByteArray) : natsBeq (a.data.toList.map UInt8.toNat) (b.data.toList.map UInt8.toNat) = (a.toList == b.toList) := by
  rw [ByteArray.toList_eq, ByteArray.toList_eq, Bool.eq_iff_iff, natsBeq_iff, beq_iff_eq]
  constructor
  · intro h
    exact List.map_inj_right (fun x y e => UInt8.toNat_inj.1 e) |>.1 h
  · rintro e; rw [e]

theorem natsLess_bytes : ∀ (a b : List UInt8), natsLess (a.map UInt8.toNat) (b.map UInt8.toNat) = Op.bytesLess a b := by
  intro a
  induction a with
  | nil => intro b; cases b <;> rfl
  | cons x a ih =>
    intro b
    cases b with
    | nil => rfl
    | cons y b =>
      simp only [List.map_cons, natsLess, Op.bytesLess, ih]
      congr 1
      · rw [Bool.eq_iff_iff, blt_iff]; simp [UInt8.lt_iff_toNat_lt]
      · congr 1
        rw [Bool.eq_iff_iff]
        simp only [Nat.beq_eq, beq_iff_eq]
        exact UInt8.toNat_inj

section
variable {d : Nat} {t : TypeId}
theorem eqR_ptr0 {e : TypeId} (hu : P.underlying t = some (.pointer e)) (b : Option Addr) : (Op.equalIn (d + 1) t (.pointer none) (.pointer b)).run P w = .ok b.isNone w := by simp [Op.equalIn, run_underlying hu]
theorem eqR_ptr1 {e : TypeId} (hu : P.underlying t = some (.pointer e)) (b : Addr) : (Op.equalIn (d + 1) t (.pointer (some b)) (.pointer none)).run P w = .ok false w := by simp [Op.equalIn, run_underlying hu]
theorem eqR_slice0 {e : TypeId} (hu : P.underlying t = some (.slice e)) (n m : Nat) (b : Option Addr) (k l : Nat) : (Op.equalIn (d + 1) t (.slice none n m) (.slice b k l)).run P w = .ok b.isNone w := by simp [Op.equalIn, run_underlying hu]
theorem eqR_slice1 {e : TypeId} (hu : P.underlying t = some (.slice e)) (n m : Nat) (b : Addr) (k l : Nat) : (Op.equalIn (d + 1) t (.slice (some b) k l) (.slice none n m)).run P w = .ok false w := by simp [Op.equalIn, run_underlying hu]
theorem eqR_map0 {e k : TypeId} (hu : P.underlying t = some (.map k e)) (b : Option Nat) : (Op.equalIn (d + 1) t (.map none) (.map b)).run P w = .ok b.isNone w := by simp [Op.equalIn, run_underlying hu]
theorem eqR_map1 {e k : TypeId} (hu : P.underlying t = some (.map k e)) (b : Nat) : (Op.equalIn (d + 1) t (.map (some b)) (.map none)).run P w = .ok false w := by simp [Op.equalIn, run_underlying hu]
theorem eqR_func0 {a b : Array TypeId} {v : Bool} (hu : P.underlying t = some (.func a b v)) : (Op.equalIn (d + 1) t .nilFunc .nilFunc).run P w = .ok true w := by simp [Op.equalIn, run_underlying hu]
theorem eqR_func1 {a b : Array TypeId} {v : Bool} (hu : P.underlying t = some (.func a b v)) (f : Fn) (x y : Array Value) : (Op.equalIn (d + 1) t .nilFunc (.func f x y)).run P w = .ok false w := by simp [Op.equalIn, run_underlying hu]
theorem eqR_func2 {a b : Array TypeId} {v : Bool} (hu : P.underlying t = some (.func a b v)) (f : Fn) (x y : Array Value) : (Op.equalIn (d + 1) t (.func f x y) .nilFunc).run P w = .ok false w := by simp [Op.equalIn, run_underlying hu]
theorem eqR_iface0 {ms : Array (String × TypeId)} (hu : P.underlying t = some (.interface ms)) : (Op.equalIn (d + 1) t .nilIface .nilIface).run P w = .ok true w := by simp [Op.equalIn, run_underlying hu]
theorem eqR_iface1 {ms : Array (String × TypeId)} (hu : P.underlying t = some (.interface ms)) (u : TypeId) (x : Value) : (Op.equalIn (d + 1) t .nilIface (.iface u x)).run P w = .ok false w := by simp [Op.equalIn, run_underlying hu]
theorem eqR_iface2 {ms : Array (String × TypeId)} (hu : P.underlying t = some (.interface ms)) (u : TypeId) (x : Value) : (Op.equalIn (d + 1) t (.iface u x) .nilIface).run P w = .ok false w := by simp [Op.equalIn, run_underlying hu]
end

/-- What a flat comparison of two values asks. -/
theorem eqFlat_rel {d : Nat} {t : TypeId} {u : TypeDesc} {g : VTag} (hu : P.underlying t = some u) (hg : tagOf u = some g ∨ ∃ ms, u = .interface ms ∧ g = .iface) {x y : VVal} {a b : Value} (hx : RelV w0 φ x a) (hy : RelV w0 φ y b) {r : Bool}
    (ht : eqFlat g x y = some r) : (Op.equalIn (d + 1) t a b).run P w = .ok r w := by
  unfold eqFlat at ht
  split at ht
  all_goals first
    | (cases ht; done)
    | (rcases hg with hg | ⟨_, hg', hg⟩
       · cases u <;> simp only [tagOf, Option.some.injEq, reduceCtorEq] at hg
         all_goals (cases hx <;> cases hy)
         all_goals first
           | (injection ht with ht; subst ht; first
              | exact run_equalIn_bool' w _ _ _ _ hu
              | exact eqR_ptr0 hu _ | exact eqR_ptr1 hu _ | exact eqR_slice0 hu _ _ _ _ _ | exact eqR_slice1 hu _ _ _ _ _
              | exact eqR_map0 hu _ | exact eqR_map1 hu _ | exact eqR_func0 hu | exact eqR_func1 hu _ _ _ | exact eqR_func2 hu _ _ _)
           | (split at ht
              · rename_i hk; injection ht with ht; subst ht; have := code_inj hk; subst this; exact run_equalIn_int w _ _ _ _ _ _ hu
              · cases ht)
           | (injection ht with ht; subst ht; rw [natsBeq_bytes]; exact run_equalIn_string w _ _ _ _ hu)
       · cases hg)
    | (rcases hg with hg | ⟨_, hg', _⟩
       · cases u <;> simp only [tagOf, Option.some.injEq, reduceCtorEq] at hg
       · subst hg'
         cases hx <;> cases hy <;> (injection ht with ht; subst ht; first | exact eqR_iface0 hu | exact eqR_iface1 hu _ _ | exact eqR_iface2 hu _ _))

theorem eqFs_spec {eq : TypeId → Option VEq} {d : Nat}
    (heq : ∀ t q x y a b r, eq t = some q → RelV w0 φ x a → RelV w0 φ y b → q.test x y = some r → (Op.equalIn d t a b).run P w = .ok r w) :
    ∀ (fs : List Field) (l : List (Nat × Nat × Bool × VEq)) (xs ys : List VVal) (as bs : List Value) (r : Bool), eqFs P eq fs = some l → RelVs w0 φ xs as → RelVs w0 φ ys bs → VEq.tests l xs ys = some r →
      (Op.eqFields d ⟨as⟩ ⟨bs⟩ fs).run P w = .ok r w := by
  intro fs
  induction fs with
  | nil =>
    intro l xs ys as bs r hl hx hy ht
    simp [eqFs] at hl; subst hl
    simp [VEq.tests] at ht; subst ht
    simp [Op.eqFields]
  | cons f fs ih =>
    intro l xs ys as bs r hl hx hy ht
    simp only [eqFs] at hl
    cases h1 : eqFs P eq fs with
    | none => simp [h1] at hl
    | some l' =>
      simp only [h1] at hl
      by_cases hn : f.name = "_"
      · simp [hn] at hl; subst hl
        simp only [Op.eqFields, hn, ne_eq, not_true_eq_false, if_false]
        exact ih _ _ _ _ _ _ h1 hx hy ht
      · simp only [hn, if_false] at hl
        cases h2 : eq f.type with
        | none => simp [h2] at hl
        | some q =>
          cases h3 : sizeT P f.type with
          | none => simp [h2, h3] at hl
          | some z =>
            obtain ⟨agg, n⟩ := z
            simp [h2, h3] at hl; subst hl
            simp only [VEq.tests] at ht
            cases h4 : partOf agg n xs f.offset with
            | none => simp [h4] at ht
            | some x1 =>
              cases h5 : partOf agg n ys f.offset with
              | none => simp [h4, h5] at ht
              | some y1 =>
                simp only [h4, h5] at ht
                obtain ⟨a1, ha1, hra⟩ := part_rel (w := w) h3 hx h4
                obtain ⟨b1, hb1, hrb⟩ := part_rel (w := w) h3 hy h5
                cases h6 : q.test x1 y1 with
                | none => simp [h6] at ht
                | some r1 =>
                  have := heq _ _ _ _ _ _ _ h2 hra hrb h6
                  simp only [Op.eqFields, ne_eq, hn, not_false_eq_true, if_true, Sem.run_bind, ha1, hb1, this, Result.andThen_ok]
                  cases r1 with
                  | false => simp [h6] at ht; subst ht; simp
                  | true =>
                    simp only [h6] at ht
                    simp
                    exact ih _ _ _ _ _ _ h1 hx hy ht

theorem eqT_spec : ∀ (k : Nat) {d : Nat}, k ≤ d → ∀ t q x y a b r, eqT P k t = some q → RelV w0 φ x a → RelV w0 φ y b → q.test x y = some r → (Op.equalIn d t a b).run P w = .ok r w := by
  intro k
  induction k with
  | zero => intro d _ t q x y a b r hq; simp [eqT] at hq
  | succ k ih =>
    intro d hd t q x y a b r hq hx hy ht
    obtain ⟨d, rfl⟩ : ∃ d', d = d' + 1 := ⟨d - 1, by omega⟩
    simp only [eqT] at hq
    cases hu : P.underlying t with
    | none => simp [hu] at hq
    | some u =>
      by_cases hs : ∃ fs, u = .struct fs
      · obtain ⟨fs, rfl⟩ := hs
        simp only [hu] at hq
        cases hp : P.stoodInHeld t with
        | true => simp [hp] at hq
        | false =>
          simp only [hp, Bool.false_eq_true, if_false] at hq
          cases hf : eqFs P (eqT P k) fs.toList with
          | none => simp [hf] at hq
          | some l =>
            simp [hf] at hq; subst hq
            cases hx <;> cases hy <;> simp [VEq.test] at ht
            rename_i xs as hxs ys bs hys
            have hfo : P.fieldsOf t = fs := by simp [Program.fieldsOf, hu]
            rw [run_equalIn_struct w d t ⟨as⟩ ⟨bs⟩ (by rw [hfo]; exact hu) hp, hfo]
            exact eqFs_spec (fun t q x y a b r => ih (by omega) t q x y a b r) _ _ _ _ _ _ _ hf hxs hys ht
      · have : ∃ g, tagOf u = some g ∧ q = .flat g := by
          cases u <;> simp [hu, tagOf] at hq <;> first | (exact ⟨_, rfl, hq.symm⟩) | (exact absurd ⟨_, rfl⟩ hs)
        obtain ⟨g, hg, rfl⟩ := this
        exact eqFlat_rel hu (.inl hg) hx hy ht

theorem int_of_code {k l : IntKind} {a b : Int} {op : BinOp} {t : TypeId} (hs : op ≠ .shl ∧ op ≠ .shr) {v : VVal} (hk : Nat.beq (IntKind.code k) (IntKind.code l) = true) (hv : intOp op k a b = some v) :
    ∃ v', (binOp op t (.int k a) (.int l b)).run P w = .ok v' w ∧ RelV w0 φ v v' := by
  obtain rfl := code_inj hk
  cases op <;> simp only [intOp, reduceCtorEq, Option.some.injEq] at hv
  case quo =>
    split at hv
    · cases hv
    · rename_i hb
      injection hv with hv; subst hv
      exact ⟨_, by simp [binOp, Op.intDiv, hb], .int _ _⟩
  case rem =>
    split at hv
    · cases hv
    · rename_i hb
      injection hv with hv; subst hv
      exact ⟨_, by simp [binOp, Op.intDiv, hb], .int _ _⟩
  all_goals
    subst hv
    first
      | exact ⟨_, by simp only [binOp, ne_eq, not_true_eq_false, if_false, Op.intArith]; rfl, .int _ _⟩
      | exact ⟨_, by simp only [binOp, ne_eq, not_true_eq_false, if_false, Op.intBits]; rfl, .int _ _⟩
      | exact ⟨_, by simp only [binOp, ne_eq, not_true_eq_false, if_false, Op.intCmp]; rfl, .bool _⟩

theorem shift_rel {op : BinOp} {k l : IntKind} {a b : Int} {t : TypeId} {v : VVal} (hs : op = .shl ∨ op = .shr) (hv : shiftOp op k a b = some v) :
    ∃ v', (binOp op t (.int k a) (.int l b)).run P w = .ok v' w ∧ RelV w0 φ v v' := by
  unfold shiftOp at hv
  split at hv
  · cases hv
  · rename_i hb
    rcases hs with rfl | rfl
    · injection hv with hv; subst hv
      exact ⟨_, by simp only [binOp, Op.shift, hb, if_false]; rfl, .int _ _⟩
    · injection hv with hv; subst hv
      exact ⟨_, by simp only [binOp, Op.shift, hb, if_false]; rfl, .int _ _⟩

theorem str_rel {op : BinOp} {a b : ByteArray} {t : TypeId} {v : VVal} (hv : strOp op (a.data.toList.map UInt8.toNat) (b.data.toList.map UInt8.toNat) = some v) :
    ∃ v', (binOp op t (.string a) (.string b)).run P w = .ok v' w ∧ RelV w0 φ v v' := by
  have hl : natsLess (a.data.toList.map UInt8.toNat) (b.data.toList.map UInt8.toNat) = Op.bytesLess a.toList b.toList := by
    rw [natsLess_bytes, ByteArray.toList_eq, ByteArray.toList_eq]
  cases op <;> simp only [strOp, reduceCtorEq, Option.some.injEq, natsBeq_bytes, hl] at hv
  case add =>
    split at hv
    · rename_i hle
      injection hv with hv; subst hv
      refine ⟨.string (a ++ b), ?_, ?_⟩
      · have : ¬ (((a.size + b.size : Nat) : Int) > IntKind.i64.max) := by
          have hle' := Nat.le_of_ble_eq_true hle
          rw [List.length_map, List.length_map, Array.length_toList, Array.length_toList] at hle'
          have : a.size + b.size ≤ 9223372036854775807 := hle'
          have e : IntKind.i64.max = 9223372036854775807 := by decide
          rw [e]; omega
        simp only [binOp, Op.stringOp, this, if_false]; rfl
      · have := RelV.str (w0 := w0) (φ := φ) (a ++ b)
        rw [ByteArray.data_append, Array.toList_append, List.map_append] at this
        exact this
    · cases hv
  all_goals
    subst hv
    exact ⟨_, by simp only [binOp, Op.stringOp]; rfl, .bool _⟩

theorem eqGuard_ok {op : BinOp} {t : TypeId} {x y : Operand} {a b : Value} (h : (op ≠ .eql ∧ op ≠ .neq) ∨ ((∃ v, x = .const v) ∨ ∃ v, y = .const v) ∧ (∀ xs, a ≠ .agg xs) ∨ P.eqGuardType P.depth t = false ∧ a ≠ .nilIface) :
    (eqGuard op t x y a b).run P w = .ok () w := by
  have hz : (op ≠ .eql ∧ op ≠ .neq) → (eqGuard op t x y a b).run P w = .ok () w := by
    rintro ⟨h1, h2⟩
    cases op <;> first | rfl | exact absurd rfl h1 | exact absurd rfl h2
  by_cases hop : op ≠ .eql ∧ op ≠ .neq
  · exact hz hop
  · have hop' : op = .eql ∨ op = .neq := by
      cases op <;> simp at hop <;> simp
    rcases h with h | ⟨h1, h2⟩ | ⟨h1, h2⟩
    · exact absurd h hop
    · cases a with
      | nilIface =>
        cases b with
        | nilIface => rcases h1 with ⟨v, rfl⟩ | ⟨v, rfl⟩ <;> rcases hop' with rfl | rfl <;> simp [eqGuard]
        | _ => rcases hop' with rfl | rfl <;> rfl
      | agg xs => exact absurd rfl (h2 xs)
      | _ => rcases hop' with rfl | rfl <;> cases b <;> rfl
    · cases a with
      | nilIface => exact absurd rfl h2
      | agg xs =>
        cases b with
        | agg ys => rcases hop' with rfl | rfl <;> simp [eqGuard, h1]
        | _ => rcases hop' with rfl | rfl <;> rfl
      | _ => rcases hop' with rfl | rfl <;> cases b <;> rfl

theorem eqGuard_plain {op : BinOp} {t : TypeId} {x y : Operand} {a b : Value} (h1 : ∀ xs, a ≠ .agg xs) (h2 : a ≠ .nilIface) : (eqGuard op t x y a b).run P w = .ok () w := by
  by_cases hop : op ≠ .eql ∧ op ≠ .neq
  · exact eqGuard_ok (.inl hop)
  · have hop' : op = .eql ∨ op = .neq := by
      cases op <;> simp at hop <;> simp
    cases a with
    | nilIface => exact absurd rfl h2
    | agg xs => exact absurd rfl (h1 xs)
    | _ => rcases hop' with rfl | rfl <;> cases b <;> rfl

theorem binOp_eql {t : TypeId} {a b : Value} (hi : ∀ k n, a ≠ .int k n) (hs : ∀ s, a ≠ .string s) (hf : ∀ k n, a ≠ .float k n) (hc : ∀ k n m, a ≠ .complex k n m) : binOp .eql t a b = (do pure (.bool (← Op.equal t a b))) := by
  cases a with
  | int k n => exact absurd rfl (hi k n)
  | string s => exact absurd rfl (hs s)
  | float k n => exact absurd rfl (hf k n)
  | complex k n m => exact absurd rfl (hc k n m)
  | _ => cases b <;> rfl

theorem binOp_neq {t : TypeId} {a b : Value} (hi : ∀ k n, a ≠ .int k n) (hs : ∀ s, a ≠ .string s) (hf : ∀ k n, a ≠ .float k n) (hc : ∀ k n m, a ≠ .complex k n m) : binOp .neq t a b = (do pure (.bool (!(← Op.equal t a b)))) := by
  cases a with
  | int k n => exact absurd rfl (hi k n)
  | string s => exact absurd rfl (hs s)
  | float k n => exact absurd rfl (hf k n)
  | complex k n m => exact absurd rfl (hc k n m)
  | _ => cases b <;> rfl

end
end Go.V
