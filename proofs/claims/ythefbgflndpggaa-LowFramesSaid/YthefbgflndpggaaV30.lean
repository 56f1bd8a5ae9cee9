/- Functions that the machine's list lacks: put together; functions that defer. -/
import Derived.Test.YthefbgflndpggaaV29
import Derived.Test.YthefbgflndpggaaV26
set_option linter.unusedSimpArgs false
set_option linter.unusedVariables false
namespace Go.V
noncomputable section
open Go.RowKit

/-- One function more. -/
def selX (f0 : FuncId) (Z : VCaller → Nat → List VVal → VHeap → Option (VVal × VHeap)) (X : VCaller → Nat → VCaller) : VCaller → Nat → VCaller :=
  fun call n f args h => match Nat.beq f f0 with | true => Z call n args h | false => X call n f args h

/-- A single function is sound if its callees are. -/
def FnOk (P : Program) (f : FuncId) (Z : VCaller → Nat → List VVal → VHeap → Option (VVal × VHeap)) : Prop :=
  ∀ w0 call n, CallerOk P w0 call → CallerMono call → ∀ args h v h', Z call n args h = some (v, h') → Enters P f ∧ h.size ≤ h'.size ∧ ∀ φ w args', RelH w0 φ h w → RelVs w0 φ args args' → (∀ b k, h.size ≤ b → b < h'.size → φ b k = none) →
    Calls P f ⟨args'⟩ w fun e w' => ∃ φ', RelH w0 φ' h' w' ∧ Ext φ h w φ' h' w' ∧ RetRel w0 φ' v e

theorem selX_ok {P : Program} {f0 : FuncId} {Z : VCaller → Nat → List VVal → VHeap → Option (VVal × VHeap)} {X : VCaller → Nat → VCaller} (hZ : FnOk P f0 Z) (hX : ExtOk P X) : ExtOk P (selX f0 Z X) := by
  intro w0 call n hc hm
  obtain ⟨x1, x2⟩ := hX w0 call n hc hm
  constructor
  · intro f args h v h' he
    unfold selX at he
    split at he
    · rename_i hb
      obtain rfl := Nat.eq_of_beq_eq_true hb
      obtain ⟨a, _, c⟩ := hZ w0 call n hc hm args h v h' he
      exact ⟨a, c⟩
    · exact x1 f args h v h' he
  · intro f args h v h' he
    unfold selX at he
    split at he
    · exact (hZ w0 call n hc hm args h v h' he).2.1
    · exact x2 f args h v h' he

theorem deferV_ok {P : Program} (hmix : P.follows .mixedOrders = true) {f : FuncId} {D : DeferFn} (O : DeferOk P f D) (hE : Enters P f) : FnOk P f (fun call n args h => deferV call n D args h) := by
  intro w0 call n hc hm args h v h' he
  refine ⟨hE, ?_, fun φ w args' H ha hfree => defer_sound hmix hc hm O he H ha hfree⟩
  simp only at he
  unfold deferV at he
  split at he
  · cases he
  rename_i st1 hpre
  split at he
  rotate_left
  · cases he
  rename_i st2 hfront
  split at he
  rotate_left
  · cases he
  split at he
  rotate_left
  · cases he
  split at he
  · cases he
  rename_i e st3 hrest
  split at he
  · cases he
  split at he
  · cases he
  rename_i st0 hgpre
  split at he
  · cases he
  rename_i e2 st4 hgrun
  split at he
  rotate_left
  · cases he
  split at he
  rotate_left
  · cases he
  injection he with he; injection he with e1 e2'; subst e1 e2'
  have s1 := runPre_size hm hpre
  have s2 := runOps_size hm hfront
  have s3 := runSeq_size hm hrest
  have s0 := runPre_size hm hgpre
  have s4 := runSeq_size hm hgrun
  simp only at s1 s2 s3 s0 s4
  omega

/- Parts of a body, for the tables that are printed. -/
def bodyOf (fn : Func) : Code := match fn.body with | some c => c | none => .skip
/-- The way to a piece: 'false' goes into the second part (the first stands ahead), 'true' into the first (the second stands behind). -/
def ctxOf : List Bool → Code → List Ctx
  | [], _ => []
  | false :: r, .seq a b => .ahead a :: ctxOf r b
  | true :: r, .seq a b => .behind b :: ctxOf r a
  | _ :: _, _ => []
def holeOf : List Bool → Code → Code
  | [], c => c
  | false :: r, .seq _ b => holeOf r b
  | true :: r, .seq a _ => holeOf r a
  | _ :: _, c => c
def seqL : Code → Code | .seq a _ => a | c => c
def seqR : Code → Code | .seq _ b => b | c => c
def regOps : Code → Array Oper | .region _ ops _ => ops | _ => #[]
def regId : Code → Nat | .region id _ _ => id | _ => 0
def opAt : List Oper → Nat → Oper
  | [], _ => default
  | o :: _, 0 => o
  | _ :: r, n + 1 => opAt r n

/-- The table of a function that defers, out of its body: the way to the region that defers, how many operations stand there ahead of the defer, the closure's temporary; of the closure: the way to the region that recovers, and where its answer goes. -/
def mkD (P : Program) (f : Func) (way : List Bool) (m t : Nat) (g : FuncId) (fg : Func) (gway : List Bool) (r : Nat) : DeferFn where
  ntmps := f.ntmps
  pre := (pres (ctxOf way (bodyOf f))).map (codeV P)
  front := ((regOps (seqL (holeOf way (bodyOf f)))).toList.take m).zipIdx.map fun p => operV P false (regOps (seqL (holeOf way (bodyOf f)))).toList (presOf (regOps (seqL (holeOf way (bodyOf f)))).toList []) p.1 p.2
  t := t
  rest := (seqR (holeOf way (bodyOf f)) :: posts (ctxOf way (bodyOf f))).map (codeV P)
  results := match resultsOf P f.results.toList with | some l => l | none => []
  g := g
  gtmps := fg.ntmps
  gpre := (pres (ctxOf gway (bodyOf fg))).map (codeV P)
  r := r
  grest := (seqR (holeOf gway (bodyOf fg)) :: posts (ctxOf gway (bodyOf fg))).map (codeV P)
end
end Go.V
