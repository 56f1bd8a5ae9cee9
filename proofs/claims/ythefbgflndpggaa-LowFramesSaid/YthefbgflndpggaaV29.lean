/- Functions that defer one closure. -/
import Derived.Test.YthefbgflndpggaaV28
set_option linter.unusedSimpArgs false
set_option linter.unusedVariables false
namespace Go.V
noncomputable section
open Go.RowKit

/-- A function that defers a closure behind its first pieces. -/
structure DeferFn where
  ntmps : Nat
  pre : List VCode
  front : List VOper
  t : Nat                   -- the temporary that holds the closure
  rest : List VCode
  results : List VResult
  g : FuncId
  gtmps : Nat
  gpre : List VCode
  r : Nat                   -- where the closure's 'recover' goes
  grest : List VCode

def modeV : VExit → Option VVal
  | .normal | .ret => some .niliface
  | .panic x => some x
  | .exit _ => none

def isEnd : VExit → Bool
  | .normal | .ret => true
  | _ => false

def deferV (call : VCaller) (n : Nat) (D : DeferFn) (args : List VVal) (h : VHeap) : Option (VVal × VHeap) :=
  match runPre call n D.pre ⟨args ++ List.replicate (D.ntmps - args.length) .undef, h⟩ with
  | none => none
  | some st1 => match runOps call D.front st1 with
    | some (.normal, st2) => (match tmpAt st2.ts D.t with
      | .func g first cap => if Nat.beq g D.g then
          (match runSeq call n D.rest st2 with
          | none => none
          | some (e, st3) => (match modeV e with
            | none => none
            | some v => (match runPre call n D.gpre ⟨(first ++ cap) ++ List.replicate (D.gtmps - (first ++ cap).length) .undef, st3.h⟩ with
              | none => none
              | some st0 => (match runSeq call n D.grest ⟨putDst st0.ts (some D.r) v, st0.h⟩ with
                | none => none
                | some (e2, st4) => if isEnd e2 then (match resultsV st3.ts st4.h D.results with
                    | some vs => some (oneOrTuple vs, st4.h)
                    | none => none) else none))))
        else none
      | _ => none)
    | _ => none

section
variable {P : Program} {w0 : World}

/-- The model's side. -/
structure DeferOk (P : Program) (f : FuncId) (D : DeferFn) where
  pf : Func
  ps : List Ctx
  id : Nat
  ops : Array Oper
  os : List Oper
  od : Oper
  rest : Code
  fg : Func
  gps : List Ctx
  og : Oper
  c2 : Code
  func : P.funcs[f]? = some pf
  name : (pf.name == "runtime.NumGoroutine") = false
  body : pf.body = some (fill ps (.seq (.region id ops false) rest))
  hops : ops.toList = os ++ [od]
  hod : ∃ ts, od.op = .defer { callee := .value (.tmp D.t), args := #[], argTypes := ts }
  hguard : od.guard = none
  hdst : od.dst = none
  hpre : D.pre = (pres ps).map (codeV P)
  guards : guardsOk ops.toList = true
  hfront : D.front = os.zipIdx.map fun p => operV P false ops.toList (presOf ops.toList []) p.1 p.2
  hrest : D.rest = (rest :: posts ps).map (codeV P)
  hres : resultsOf P pf.results.toList = some D.results
  hntmps : D.ntmps = pf.ntmps
  gok : Recovers P D.g fg gps og D.r c2
  ggpre : D.gpre = (pres gps).map (codeV P)
  ggrest : D.grest = (c2 :: posts gps).map (codeV P)
  ggtmps : D.gtmps = fg.ntmps
  gname : (fg.name == "runtime.NumGoroutine") = false

theorem defer_sound (hmix : P.follows .mixedOrders = true) {call : VCaller} (hcall : CallerOk P w0 call) (hm : CallerMono call) {n : Nat} {f : FuncId} {D : DeferFn} (O : DeferOk P f D) {args : List VVal} {h : VHeap} {v : VVal} {h' : VHeap}
    (hd : deferV call n D args h = some (v, h')) {φ : VMap} {w : World} {args' : List Value} (H : RelH w0 φ h w) (ha : RelVs w0 φ args args') (hfree : ∀ b k, h.size ≤ b → b < h'.size → φ b k = none) :
    Calls P f ⟨args'⟩ w fun e w' => ∃ φ', RelH w0 φ' h' w' ∧ Ext φ h w φ' h' w' ∧ RetRel w0 φ' v e := by
  unfold deferV at hd
  split at hd
  · cases hd
  rename_i st1 hpre
  split at hd
  rotate_left
  · cases hd
  rename_i st2 hfront
  split at hd
  rotate_left
  · cases hd
  rename_i g first cap hclo
  split at hd
  rotate_left
  · cases hd
  rename_i hg
  obtain rfl := Nat.eq_of_beq_eq_true hg
  split at hd
  · cases hd
  rename_i e st3 hrest
  split at hd
  · cases hd
  rename_i mv hmode
  split at hd
  · cases hd
  rename_i st0 hgpre
  split at hd
  · cases hd
  rename_i e2 st4 hgrun
  split at hd
  rotate_left
  · cases hd
  rename_i hend
  split at hd
  rotate_left
  · cases hd
  rename_i vs hvs
  injection hd with hd; injection hd with e1 e2'; subst e1 e2'
  have s1 := runPre_size hm hpre
  have s2 := runOps_size hm hfront
  have s3 := runSeq_size hm hrest
  have s0 := runPre_size hm hgpre
  have s4 := runSeq_size hm hgrun
  simp only at s1 s2 s3 s0 s4
  refine calls_of_wp_defers O.func O.body ?_
  have hlen := ha.length
  have ht0 : RelVs w0 φ (args ++ List.replicate (D.ntmps - args.length) .undef) ((⟨args'⟩ : Array Value) ++ Array.replicate (O.pf.ntmps - (⟨args'⟩ : Array Value).size) Go.undef).toList := by
    rw [Array.toList_append, Array.toList_replicate, O.hntmps]
    have : (⟨args'⟩ : Array Value).size = args.length := by rw [hlen]; rfl
    rw [this]
    exact ha.append (.undef_replicate _)
  refine nest_sound hmix hcall hm O.ps _ _ h st1 (by rw [← O.hpre]; exact hpre) φ { tmps := (⟨args'⟩ : Array Value) ++ Array.replicate (O.pf.ntmps - (⟨args'⟩ : Array Value).size) Go.undef, defers := [] } w H ht0 (fun b k x y => hfree b k x (by omega)) ?_
  intro a1 w1 φ1 H1 hx1 ht1 hd1
  have hd1 : a1.defers = [] := hd1
  apply wp_seq
  apply wp_region
  have hsize : O.ops.size = O.os.length + 1 := by rw [← Array.length_toList, O.hops]; simp
  have hrange : List.range O.ops.size = O.os.zipIdx.map (·.2) ++ [O.os.length] := by
    rw [hsize, List.range_succ, List.zipIdx_map_snd]; simp [List.range_eq_range']
  rw [hrange]
  have hos : ∀ p ∈ O.os.zipIdx, O.ops[p.2]? = some p.1 := by
    intro p hp
    have h1 := List.mem_zipIdx_iff_getElem?.1 hp
    rw [← Array.getElem?_toList, O.hops, List.getElem?_append_left (by obtain ⟨h2, _⟩ := List.getElem?_eq_some_iff.1 h1; exact h2)]; exact h1
  refine front_sound hcall hm O.guards (presOf O.ops.toList []) [O.os.length] O.os.zipIdx hos st1.ts st1.h st2 (by rw [← O.hfront]; exact hfront) φ1 a1 w1 H1 ht1 (fun b k x y => hx1.free hfree b k x (by omega)) ?_
  intro a2 w2 φ2 H2 hx2 ht2 hd2
  have hod : O.ops[O.os.length]? = some O.od := by rw [← Array.getElem?_toList, O.hops]; simp
  have hx12 := hx1.trans hx2
  have hrel := relTmp ht2 D.t
  rw [hclo] at hrel
  obtain ⟨tys, hop⟩ := O.hod
  simp only [wpOps, hod]
  rw [if_pos (by simp [Region.wanted, O.hguard])]
  left
  cases hval : a2.tmps.getD D.t Go.undef <;> rw [hval] at hrel <;> cases hrel
  rename_i a' c' hra hrc
  have hexec : (execOp a2.eval O.od).run P w2 = .ok (.defer { target := .fn (.func D.g) ⟨c'⟩, args := ⟨a'⟩ ++ #[] }) w2 := by
    have : a2.eval (.tmp D.t) = .func (.func D.g) ⟨a'⟩ ⟨c'⟩ := hval
    simp [execOp, hop, resolve, this, Deferred.ofValue]
  unfold Oper.wp
  rw [hexec, Oper.upon_defer, O.hdst]
  show (O.rest.wp P (tailW P (posts O.ps) (bodyPostD P O.pf _)) _ w2)
  refine seqW_sound hmix hcall hm (posts O.ps) O.rest st2.ts st2.h e st3 (by rw [← O.hrest]; exact hrest) φ2 { a2 with defers := { target := .fn (.func D.g) ⟨c'⟩, args := ⟨a'⟩ ++ #[] } :: a2.defers } w2 H2 ht2 (fun b k x y => hx12.free hfree b k x (by omega)) ?_
  intro a3 w3 φ3 ex H3 hx3 ht3 hd3 hex
  have hd3 : a3.defers = [{ target := .fn (.func D.g) ⟨c'⟩, args := ⟨a'⟩ ++ #[] }] := by
    rw [hd3]; show _ :: a2.defers = _; rw [hd2, hd1]
  have hx123 := hx12.trans hx3
  have leave : ∀ u : FrameMode, u ≠ .run → ModeRel w0 φ3 mv u → Leaves P O.pf a3.tmps (fun e w' => ∃ φ', RelH w0 φ' st4.h w' ∧ Ext φ h w φ' st4.h w' ∧ RetRel w0 φ' (oneOrTuple vs) e) a3.defers u w3 := by
    intro u hu hmr
    rw [hd3]
    have hcargs : RelVs w0 φ3 (first ++ cap) (a' ++ c') := (hra.append hrc).mono hx3.le
    refine leaves_cons (f := D.g) (args := ⟨a' ++ c'⟩) hu ?_ ?_
    · have hcf : ∀ as, (callFunc D.g as).run P w3 = .ok (.enter D.g as) w3 := by
        intro as
        obtain ⟨gid, hgb⟩ := O.gok.body
        simp only [callFunc, Sem.run_bind, run_program, Result.andThen_ok, O.gok.func, O.gname, Bool.false_eq_true, if_false, hgb, Option.isNone_some, Sem.run_pure]
      simp only [invoke]
      rw [hcf]
      congr 2
      simp
    · refine CallsD.mono (closure_sound hmix hcall hm O.gok (dargs := first ++ cap) (by rw [← O.ggpre, ← O.ggtmps]; exact hgpre) (by rw [← O.ggrest]; exact hgrun) ?_ H3 hcargs hmr (fun b k x y => hx123.free hfree b k x (by omega))) ?_
      · cases e2 <;> simp [isEnd] at hend <;> simp
      · rintro eg u' w4 ⟨⟨x, rfl⟩, hset, φ4, H4, hx4⟩
        show Leaves _ _ _ _ [] (settle u') w4
        rw [hset]
        obtain ⟨ys, y1, y2⟩ := results_rel (P := P) H4 (ht3.mono hx4.le) O.hres hvs
        have hmap : (O.pf.results.mapM (resOne a3.tmps)).run P w4 = .ok ⟨ys⟩ w4 := by
          rw [Array.mapM_eq_mapM_toList, Sem.run_map, y1]; rfl
        refine ⟨if hh : (⟨ys⟩ : Array Value).size = 1 then (⟨ys⟩ : Array Value)[0] else .tuple ⟨ys⟩, ?_, φ4, H4, hx123.trans hx4, .ok ?_⟩
        · rw [results_eq, Sem.run_bind, hmap]; rfl
        · cases y2 with
          | nil => exact .tuple .nil
          | cons z1 z2 =>
            cases z2 with
            | nil => exact z1
            | cons z2 z3 => exact .tuple (.cons z1 (.cons z2 z3))
  cases hex with
  | normal => simp only [modeV, Option.some.injEq] at hmode; subst hmode; exact leave .returning (by simp) .returning
  | ret => simp only [modeV, Option.some.injEq] at hmode; subst hmode; exact leave .returning (by simp) .returning
  | exit k => cases hmode
  | panic hv => simp only [modeV, Option.some.injEq] at hmode; subst hmode; exact leave _ (by simp) (.panicking hv)
end
end
end Go.V
