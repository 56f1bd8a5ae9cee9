/- A run from nothing: what the machine answers, the call answers; old blocks stay. -/
import Derived.Test.YthefbgflndpggaaV23
import Derived.Below
import Derived.Carry
import Derived.ChangeSame
import Derived.RowKit3
set_option linter.unusedSimpArgs false
set_option linter.unusedVariables false
namespace Go.V
open Go.RowKit Go.ChangeShapes Go.WideShapes

/-- A program out of a list of functions. -/
def progOf : List (Nat × VFunc) → VProg
  | [], _ => none
  | (g, fn) :: r, f => if Nat.beq f g then some fn else progOf r f

def ProgOk (P : Program) : List (Nat × VFunc) → Prop
  | [] => True
  | (g, fn) :: r => funcV P g = some fn ∧ ProgOk P r

theorem progOf_ok {P : Program} : ∀ {l : List (Nat × VFunc)}, ProgOk P l → ∀ f fn, progOf l f = some fn → funcV P f = some fn := by
  intro l
  induction l with
  | nil => intro _ f fn h; cases h
  | cons p r ih =>
    obtain ⟨g, fg⟩ := p
    intro h f fn he
    simp only [progOf] at he
    split at he
    · rename_i e
      injection he with he
      rw [Nat.eq_of_beq_eq_true e, ← he]; exact h.1
    · exact ih h.2 f fn he

/-- What is asked of other functions: they are sound if their callees are. -/
def ExtOk (P : Program) (X : VCaller → Nat → VCaller) : Prop := ∀ w0 call n, CallerOk P w0 call → CallerMono call → CallerOk P w0 (X call n) ∧ CallerMono (X call n)

/-- No other functions. -/
noncomputable def noX : VCaller → Nat → VCaller := fun _ _ _ _ _ => none
theorem noX_ok {P : Program} : ExtOk P noX := fun _ _ _ _ _ => ⟨(by intro f args h v h' hc; cases hc), (by intro f args h v h' hc; cases hc)⟩

/-- Does a run from an empty heap answer true? -/
noncomputable def saysTrue (prog : VProg) (X : VCaller → Nat → VCaller) (n : Nat) (f : FuncId) (args : List VVal) : Bool :=
  match callN prog X n f args .empty with
  | some (.bool b, _) => b
  | _ => false

theorem saysTrue_calls {P : Program} (hmix : P.follows .mixedOrders = true) {prog : VProg} (hprog : ∀ f fn, prog f = some fn → funcV P f = some fn) {X : VCaller → Nat → VCaller} (hX : ExtOk P X) {n : Nat} {f : FuncId} {args : List VVal} (hs : saysTrue prog X n f args = true) {w : World} {args' : List Value}
    (ha : RelVs w (fun _ _ => none) args args') : Calls P f ⟨args'⟩ w fun e w' => e = .returned (.bool true) ∧ Below w.heap.size w w' := by
  unfold saysTrue at hs
  split at hs
  · rename_i b h' hc
    subst hs
    have H : RelH w (fun _ _ => none) VHeap.empty w := ⟨Below.refl _ _, fun b v l h => by (cases h), fun b v l o h => by (cases h), fun b v l b' v' l' h => by (cases h)⟩
    refine (((call_sound (w0 := w) hmix prog hprog (hX w) n).1 _ _ _ _ _ hc).2 _ w args' H ha (fun _ _ _ _ => rfl)).mono ?_
    rintro e w' ⟨φ', h1, h2, h3⟩
    cases h3 with
    | ok h3 => cases h3; exact ⟨rfl, h1.below⟩
  · cases hs

theorem frozen_of_below {w w' : World} (h : Below w.heap.size w w') (a : Addr) (ha : a.block < w.heap.size) : w'.frozen? a = w.frozen? a := by
  unfold World.frozen?
  rw [h.block _ ha]

section
variable {H : Type} {enc : TypeId × Value → H} {P : Program}
theorem post_of_below {f : Func} {s : ChangeSpec} {apart fresh handsOn again : Bool} {W W' : World} {args : Array Value} {v : Value} {ds gs : List (DataW H)} {before pa pv : List MemPlace}
    (hW : DataW.Whole enc P f.params.toList s.vars apart W args.toList ds gs before)
    (hres : ∀ (b : Nat) (sp : Nat → Bool) (hd : Bool), DataW.TrodAll enc P W' b sp hd f.resultTypes.toList (v.resultList f.resultTypes.size) (s.fn H (ds ++ gs)).results [])
    (hargs : ∀ sp : Nat → Bool, (∀ p ∈ before, sp p.block = true) → DataW.TrodAll enc P W' 0 sp true f.params.toList args.toList (s.fn H (ds ++ gs)).args pa)
    (hvars : ∀ sp : Nat → Bool, (∀ p ∈ before, sp p.block = true) → DataW.TrodVars enc P W' sp s.vars (s.fn H (ds ++ gs)).vars pv)
    (hps : before = pa ++ pv) (hb : Below W.heap.size W W')
    (hok : ∀ (j : Nat) (t : TypeId) (r : Value), f.resultTypes[j]? = some t → (v.resultList f.resultTypes.size)[j]? = some r → Value.okWide P W' .any 0 t r) :
    s.post enc P f apart fresh handsOn again W args v W' := by
  have hlt : ∀ p ∈ before, p.block < W.heap.size := fun p hp => hW.lt p hp
  have hold : ∀ p ∈ before, (fun b => decide (b < W.heap.size)) p.block = true := fun p hp => by simpa using hW.lt p hp
  refine ⟨ds, gs, before, [], pa, pv, hW, hres _ _ _, hargs _ hold, hvars _ hold, World.keptBut_mono (fun p hp => ⟨hp, ?_⟩) (hb.frame (· ∈ before)), fun _ => ?_⟩
  · rw [hps, List.mem_append] at hp
    exact Or.inr hp
  · obtain ⟨_, _, _, _, _, hz, hn⟩ := hW
    refine ⟨hok, _, _, ([] ++ pa) ++ pv, ⟨[] ++ pa, pv, trodAll_append (hargs _ (fun _ _ => rfl)) (hres _ _ _), hvars _ (fun _ _ => rfl), rfl, ?_, ?_⟩, ?_⟩
    · intro b off hp
      have hp' : MemPlace.cell b off ∈ before := by rw [hps]; simpa using hp
      rw [frozen_of_below hb _ (hlt _ hp')]
      exact hz b off hp'
    · intro ha
      have := hn ha
      rw [hps] at this
      simpa using this
    · intro p hp _
      rw [hps]
      simpa using hp
end

/-- The facts of an integer that is and-ed with a mask. -/
theorem symTrue_cons {k : IntKind} {n : Int} {f : SFact} {r : List SFact} (h : ∀ q, binV0 f.op q (.int k n) (.int f.k2 f.c) = some (f.r.val k)) (hr : SymTrue k n r) : SymTrue k n (f :: r) := by
  intro g hg
  rcases List.mem_cons.1 hg with rfl | hg
  · exact h
  · exact hr g hg

theorem symTrue_nil {k : IntKind} {n : Int} : SymTrue k n [] := fun _ h => by cases h

theorem wrap_small {k : IntKind} {m : Nat} (h : m < 2 ^ (k.bits - 1)) : k.wrap (m : Int) = m := by
  have hb : k.bits = 8 ∨ k.bits = 16 ∨ k.bits = 32 ∨ k.bits = 64 := by cases k <;> simp [IntKind.bits]
  have hm : (m : Int) < 2 ^ (k.bits - 1) := by exact_mod_cast h
  have h2 : (m : Int) % (2 ^ k.bits : Int) = m := by
    apply Int.emod_eq_of_lt (by omega)
    rcases hb with h | h | h | h <;> rw [h] at hm ⊢ <;> simp at hm ⊢ <;> omega
  unfold IntKind.wrap
  simp only [h2]
  rw [if_neg]
  simp only [Bool.and_eq_true, decide_eq_true_eq, not_and]
  intro _; omega

theorem and_toNat (n : Int) (j : Nat) (hj : j ≤ 31) : (BitVec.ofInt 64 n &&& BitVec.ofInt 64 ((2 ^ j - 1 : Nat) : Int)).toNat < 2 ^ j := by
  have hpos : 0 < 2 ^ j := Nat.pow_pos (by omega)
  have h31 : 2 ^ j ≤ 2 ^ 31 := Nat.pow_le_pow_right (by omega) hj
  rw [BitVec.toNat_and]
  have : (BitVec.ofInt 64 ((2 ^ j - 1 : Nat) : Int)).toNat = 2 ^ j - 1 := by
    rw [BitVec.ofInt_natCast, BitVec.toNat_ofNat, Nat.mod_eq_of_lt]; omega
  rw [this, Nat.and_two_pow_sub_one_eq_mod]
  exact Nat.mod_lt _ hpos

/-- n & m of a mask m = 2^j - 1 is one of 0 .. m. -/
theorem and_mask (n : Int) (j : Nat) (hj : j ≤ 31) : ∃ m : Nat, m < 2 ^ j ∧ ∀ q, binV0 .and q (.int .i64 n) (.int .i64 (2 ^ j - 1 : Nat)) = some (.int .i64 m) := by
  have h31 : 2 ^ j ≤ 2 ^ 31 := Nat.pow_le_pow_right (by omega) hj
  refine ⟨(BitVec.ofInt 64 n &&& BitVec.ofInt 64 ((2 ^ j - 1 : Nat) : Int)).toNat, and_toNat n j hj, fun q => ?_⟩
  have h : (BitVec.ofInt 64 n &&& BitVec.ofInt 64 ((2 ^ j - 1 : Nat) : Int)).toNat < 2 ^ 63 := Nat.lt_of_lt_of_le (and_toNat n j hj) (by omega)
  exact congrArg (fun z => some (VVal.int .i64 z)) (wrap_small (k := .i64) h)
end Go.V
