/- Code as functions of its temporaries: the theory. -/
import Derived.Test.YthefbgflndpggaaV24
set_option linter.unusedSimpArgs false
set_option linter.unusedVariables false
namespace Go.V
noncomputable section

abbrev VAns := Option (VVal × VHeap)
abbrev VRun := List VVal → VHeap → VAns
abbrev Kont := VExit → VRun

abbrev rd (e : Option VVal) (k : VVal → VAns) : VAns := Option.rec (motive := fun _ => VAns) none (fun v => k v) e
def bd (e : VAns) (k : VVal → VHeap → VAns) : VAns := Option.rec (motive := fun _ => VAns) none (fun p => Prod.rec (motive := fun _ => VAns) (fun v h => k v h) p) e
def fr (e : Option (VObj × (Nat → VVal))) (h : VHeap) (k : VVal → VHeap → VAns) : VAns := Option.rec (motive := fun _ => VAns) none (fun p => Prod.rec (motive := fun _ => VAns) (fun x mk => k (mk h.size) (h.new x)) p) e
/-- What is done at a panic: it goes on (thr), or it is not served (thn). -/
def thr : VVal → VHeap → VAns := fun x h => some (.panicked x, h)
def thn : VVal → VHeap → VAns := fun _ _ => none
def VVal.onPan {α : Type} (d : α) (f : VVal → α) (x : VVal) : α :=
  VVal.rec (motive_1 := fun _ => α) (motive_2 := fun _ => Unit) (motive_3 := fun _ => Unit) (fun _ => d) (fun _ _ => d) (fun _ _ => d) (fun _ => d) d (fun _ _ _ => d) (fun _ _ => d) d (fun _ _ _ _ _ _ => d) (fun _ _ _ => d) d (fun _ => d) (fun _ _ _ _ _ => d) d (fun _ _ _ => d) d (fun _ _ => d) (fun _ _ => d) d (fun v _ => f v) () (fun _ _ _ _ => ()) () (fun _ _ _ _ => ()) x
def bp (q : VKind) (e : VAns) (p : VVal → VHeap → VAns) (k : VVal → VHeap → VAns) : VAns := match e with | some (v, h) => (match panOf q v with | some x => p x h | none => k v h) | none => none
/-- A call's answer. -/
def bc (e : VAns) (p : VVal → VHeap → VAns) (k : VVal → VHeap → VAns) : VAns := Option.rec (motive := fun _ => VAns) none (fun r => Prod.rec (motive := fun _ => VAns) (fun v h => VVal.onPan (k v h) (fun x => p x h) v) r) e
def cl (call : VCaller) (e : Option (FuncId × List VVal)) (h : VHeap) (p : VVal → VHeap → VAns) (k : VVal → VHeap → VAns) : VAns := match e with | some (f, args) => bc (call f args h) p k | none => none
def pn (e : Option VVal) (h : VHeap) (p : VVal → VHeap → VAns) : VAns := match e with | some x => p x h | none => none
def cnd (c : VVal) (a b : VAns) : VAns := VVal.onBool none (fun t => tf t a b) none c
def ck (b : Bool) (a : VAns) : VAns := match b with | true => a | false => none
/-- A reading operation that is done only where c is b. -/
def gd (b : Bool) (c : VVal) (e : Option VVal) (k : VVal → VAns) : VAns := VVal.onBool none (fun t => tf t (tf b (rd e k) (k .undef)) (tf b (k .undef) (rd e k))) (k .undef) c

/-- An operation with a guard. -/
def opStep (call : VCaller) (o : VOper) (ts : List VVal) (h : VHeap) : VAns :=
  if wantedV o.guard ts then stepV call o.op ts h else if guardKnown o.guard ts then some (.undef, h) else none

def stepK (call : VCaller) (o : VOper) (ts : List VVal) (h : VHeap) (p : VVal → VHeap → VAns) (k : VVal → VHeap → VAns) : VAns :=
  match o.guard with
  | some g => (match o.op.kind with
    | .read => gd g.2 (tmpAt ts g.1) (o.op.read ts h) fun v => k v h
    | q => bp q (opStep call o ts h) p k)
  | none => match o.op.kind with
    | .read => rd (o.op.read ts h) fun v => k v h
    | .fresh => fr (o.op.fresh ts) h k
    | .write => bd (o.op.write ts h) k
    | .call => cl call (o.op.callee ts) h p k
    | .panic => pn (o.op.panicV ts) h p

def runOpsK (call : VCaller) : List VOper → List VVal → VHeap → VRun → VAns
  | [], ts, h, κ => κ ts h
  | o :: r, ts, h, κ => stepK call o ts h thr fun v h' => runOpsK call r (putDst ts o.dst v) h' κ

def didV (o : VOper) (ts : List VVal) : Bool := match o.guard with | none => true | some g => wantedV (some g) ts

def recOpsK (call : VCaller) : List VOper → List VVal → VHeap → (List VRec → VRun) → VAns
  | [], ts, h, κ => κ [] ts h
  | o :: r, ts, h, κ => stepK call o (maskTs o.reads 0 ts) h thn fun v h' => recOpsK call r (putDst ts o.dst v) h' fun recs => κ (⟨maskTs o.reads 0 ts, h, v, h', didV o (maskTs o.reads 0 ts)⟩ :: recs)

def drawK (call : VCaller) (ops : List VOper) (ts : List VVal) (h : VHeap) (κ : VRun) : VAns :=
  recOpsK call ops ts h fun recs ts' h' => ck (calmAll (ops.zip recs) (ops.zip recs)) (κ ts' h')

def kn (f : VRun) (κ : Kont) : Kont := fun e => match e with | .normal => f | .exit k => κ (.exit k) | .ret => κ .ret | .panic x => κ (.panic x)
def kb (id : Nat) (κ : Kont) : Kont := fun e => match e with | .exit k => (match Nat.beq k id with | true => κ .normal | false => κ (.exit k)) | .normal => κ .normal | .ret => κ .ret | .panic x => κ (.panic x)

def loopK (step : Kont → VRun) (κ : Kont) : Nat → VRun
  | 0 => fun _ _ => none
  | m + 1 => step (kn (loopK step κ m) κ)

def runK (call : VCaller) (n : Nat) : VCode → Kont → VRun
  | .skip, κ => κ .normal
  | .region false ops, κ => fun ts h => runOpsK call ops ts h (κ .normal)
  | .region true ops, κ => fun ts h => drawK call ops ts h (κ .normal)
  | .seq a b, κ => runK call n a (kn (runK call n b κ) κ)
  | .cond c a b, κ => fun ts h => cnd (c.ev ts) (runK call n a κ ts h) (runK call n b κ ts h)
  | .block id body, κ => runK call n body (kb id κ)
  | .loop body, κ => loopK (runK call n body) κ n
  | .exit id, κ => κ (.exit id)
  | .ret, κ => κ .ret
  | .fail, _ => fun _ _ => none

def fin (rs : List VResult) : Kont := fun e => match e with
  | .exit _ => fun _ _ => none
  | .panic x => fun _ h => some (.panicked x, h)
  | _ => fun ts h => match resultsV ts h rs with | some vs => some (oneOrTuple vs, h) | none => none

/-- Panics go by all that stands behind. -/
def pan (κ : Kont) : Kont := fun e => match e with | .normal => κ .normal | .exit k => κ (.exit k) | .ret => κ .ret | .panic x => fun _ h => some (.panicked x, h)

theorem bc_eq (e : VAns) (p : VVal → VHeap → VAns) (k : VVal → VHeap → VAns) : bc e p k = bp .call e p k := by
  cases e with
  | none => rfl
  | some r => obtain ⟨v, h⟩ := r; cases v <;> rfl

theorem rd_bp {q : VKind} (hq : ∀ v, panOf q v = none) (e : Option VVal) (h : VHeap) (p k : VVal → VHeap → VAns) : rd e (fun v => k v h) = bp q (match e with | some v => some (v, h) | none => none) p k := by
  cases e with
  | none => rfl
  | some v => simp only [bp, hq]

theorem stepK_eq (call : VCaller) (o : VOper) (ts : List VVal) (h : VHeap) (p : VVal → VHeap → VAns) (k : VVal → VHeap → VAns) : stepK call o ts h p k = bp o.op.kind (opStep call o ts h) p k := by
  unfold stepK
  cases hg : o.guard with
  | some g =>
    simp only
    cases hk : o.op.kind with
    | read =>
      obtain ⟨t, b⟩ := g
      simp only [opStep, hg, wantedV, guardKnown, gd, stepV, hk]
      have hr := rd_bp (q := .read) (fun v => rfl) (o.op.read ts h) h p k
      have hu : k .undef h = bp .read (some (.undef, h)) p k := rfl
      cases tmpAt ts t with
      | bool c => cases c <;> cases b <;> simp only [VVal.onBool, tf_true, tf_false, hr, Bool.not_true, Bool.not_false, Bool.false_eq_true, if_true, if_false] <;> rfl
      | tuple l => cases l <;> rfl
      | _ => rfl
    | _ => rfl
  | none =>
    simp only [opStep, hg, wantedV, if_true, stepV]
    cases hk : o.op.kind with
    | read => exact rd_bp (fun v => rfl) _ _ _ _
    | fresh => simp only; cases o.op.fresh ts <;> rfl
    | write => simp only; cases o.op.write ts h <;> rfl
    | call => simp only; cases o.op.callee ts with
      | none => rfl
      | some r => exact bc_eq _ _ _
    | panic => simp only; cases o.op.panicV ts <;> rfl

theorem runOpsK_eq (call : VCaller) (κ : Kont) : ∀ (ops : List VOper) (ts : List VVal) (h : VHeap), runOpsK call ops ts h (κ .normal) = (runOps call ops ⟨ts, h⟩).bind fun p => pan κ p.1 p.2.ts p.2.h := by
  intro ops
  induction ops with
  | nil => intro ts h; rfl
  | cons o r ih =>
    intro ts h
    simp only [runOpsK, stepK_eq, runOps, opStep]
    split
    · cases stepV call o.op ts h with
      | none => rfl
      | some p =>
        simp only [bp]
        cases panOf o.op.kind p.1 with
        | some x => rfl
        | none => exact ih _ _
    · split
      · have : panOf o.op.kind VVal.undef = none := by cases o.op.kind <;> rfl
        simp only [bp, this]
        exact ih _ _
      · rfl

theorem recOpsK_eq (call : VCaller) : ∀ (ops : List VOper) (ts : List VVal) (h : VHeap) (κ : List VRec → VRun), recOpsK call ops ts h κ = (recOps call ops ⟨ts, h⟩).bind fun p => κ p.1 p.2.ts p.2.h := by
  intro ops
  induction ops with
  | nil => intro ts h κ; rfl
  | cons o r ih =>
    intro ts h κ
    have hd : ∀ ts, didV o ts = wantedV o.guard ts := by intro ts; unfold didV; cases o.guard <;> rfl
    simp only [recOpsK, stepK_eq, recOps, opStep, hd, ih]
    split
    · rename_i hw
      cases stepV call o.op (maskTs o.reads 0 ts) h with
      | none => rfl
      | some p =>
        simp only [bp, hw]
        cases panOf o.op.kind p.1 with
        | some x => rfl
        | none =>
          simp only
          cases recOps call r ⟨putDst ts o.dst p.1, p.2⟩ with
          | none => rfl
          | some q => rfl
    · rename_i hw
      simp only [Bool.not_eq_true] at hw
      split
      · have : panOf o.op.kind VVal.undef = none := by cases o.op.kind <;> rfl
        simp only [bp, hw, this]
        cases recOps call r ⟨putDst ts o.dst .undef, h⟩ with
        | none => rfl
        | some q => rfl
      · rfl

theorem drawK_eq (call : VCaller) (ops : List VOper) (ts : List VVal) (h : VHeap) (κ : VRun) : drawK call ops ts h κ = (drawOps call ops ⟨ts, h⟩).bind fun st => κ st.ts st.h := by
  simp only [drawK, recOpsK_eq, drawOps]
  cases recOps call ops ⟨ts, h⟩ with
  | none => rfl
  | some p =>
    simp only [Option.bind_some]
    cases calmAll (ops.zip p.1) (ops.zip p.1) <;> rfl

theorem runK_eq (call : VCaller) (n : Nat) : ∀ (c : VCode) (κ : Kont) (ts : List VVal) (h : VHeap), runK call n c κ ts h = (runCode call n c ⟨ts, h⟩).bind fun p => pan κ p.1 p.2.ts p.2.h := by
  intro c
  induction c with
  | skip => intro κ ts h; rfl
  | region d ops =>
    intro κ ts h
    cases d
    · simp only [runK, runOpsK_eq, runCode]
    · simp only [runK, drawK_eq, runCode]; cases drawOps call ops ⟨ts, h⟩ <;> rfl
  | seq a b iha ihb =>
    intro κ ts h
    simp only [runK, iha, runCode]
    cases runCode call n a ⟨ts, h⟩ with
    | none => rfl
    | some p => obtain ⟨e, st⟩ := p; cases e with
      | normal => exact ihb κ _ _
      | exit k => rfl
      | ret => rfl
      | panic x => rfl
  | cond c a b iha ihb =>
    intro κ ts h
    simp only [runK, iha, ihb, runCode]
    show cnd (c.ev ts) _ _ = _
    cases c.ev ts <;> try rfl
    case bool x => cases x <;> rfl
    case tuple x => cases x <;> rfl
  | block id body ih =>
    intro κ ts h
    simp only [runK, ih, runCode]
    cases runCode call n body ⟨ts, h⟩ with
    | none => rfl
    | some p => obtain ⟨e, st⟩ := p; cases e with
      | normal => rfl
      | exit k =>
        simp only [Option.bind_some, pan, kb]
        cases Nat.beq k id <;> rfl
      | ret => rfl
      | panic x => rfl
  | loop body ih =>
    intro κ ts h
    simp only [runK, runCode]
    suffices hs : ∀ m ts h, loopK (runK call n body) κ m ts h = (loopN (runCode call n body) m ⟨ts, h⟩).bind fun p => pan κ p.1 p.2.ts p.2.h from hs n ts h
    intro m
    induction m with
    | zero => intro ts h; rfl
    | succ m ihm =>
      intro ts h
      simp only [loopK, ih, loopN]
      cases runCode call n body ⟨ts, h⟩ with
      | none => rfl
      | some p => obtain ⟨e, st⟩ := p; cases e with
        | normal => exact ihm _ _
        | exit k => rfl
        | ret => rfl
        | panic x => rfl
  | exit id => intro κ ts h; rfl
  | ret => intro κ ts h; rfl
  | fail => intro κ ts h; rfl

theorem callN_runK (P : VProg) (X : VCaller → Nat → VCaller) (N : Nat) (f : FuncId) (args : List VVal) (h : VHeap) :
    callN P X (N + 1) f args h = match P f with | none => X (callN P X N) N f args h | some fn => runK (callN P X N) N fn.body (fin fn.results) (args ++ List.replicate (fn.ntmps - args.length) .undef) h := by
  simp only [callN]
  cases P f with
  | none => rfl
  | some fn =>
    simp only [runK_eq]
    cases runCode (callN P X N) N fn.body ⟨args ++ List.replicate (fn.ntmps - args.length) .undef, h⟩ with
    | none => rfl
    | some p => obtain ⟨e, st⟩ := p; cases e with
      | normal => rfl
      | exit k => rfl
      | ret => rfl
      | panic x => rfl

theorem stepK_congr {call : VCaller} {o : VOper} {ts : List VVal} {h : VHeap} {p : VVal → VHeap → VAns} {k k' : VVal → VHeap → VAns} (hk : ∀ v h', k v h' = k' v h') : stepK call o ts h p k = stepK call o ts h p k' := by
  have : k = k' := by funext v h'; exact hk v h'
  rw [this]

/- ---------------------------------------------------------------- temporaries as a function -/

def VOpd.sub (σ : Nat → VVal) : VOpd → VOpd
  | .tmp t => .const (σ t)
  | .const v => .const v
def subs (σ : Nat → VVal) : List VOpd → List VOpd
  | [] => []
  | x :: r => x.sub σ :: subs σ r
def subP (σ : Nat → VVal) : List (Nat × Nat × VOpd) → List (Nat × Nat × VOpd)
  | [] => []
  | (a, b, x) :: r => (a, b, x.sub σ) :: subP σ r
def subO (σ : Nat → VVal) : Option VOpd → Option VOpd
  | none => none
  | some x => some (x.sub σ)
def VOp.sub (σ : Nat → VVal) : VOp → VOp
  | .move x => .move (x.sub σ)
  | .assign x => .assign (x.sub σ)
  | .pick c a b => .pick (c.sub σ) (a.sub σ) (b.sub σ)
  | .box e x => .box e (x.sub σ)
  | .build z p => .build z (subP σ p)
  | .buildSlice e s n z p => .buildSlice e s n z (subP σ p)
  | .load a s x => .load a s (x.sub σ)
  | .store s a x => .store s (a.sub σ) (x.sub σ)
  | .nilCheck x => .nilCheck (x.sub σ)
  | .bin op q x y => .bin op q (x.sub σ) (y.sub σ)
  | .un op x => .un op (x.sub σ)
  | .convInt k x => .convInt k (x.sub σ)
  | .convSame x => .convSame (x.sub σ)
  | .toBytes e x => .toBytes e (x.sub σ)
  | .ofBytes x => .ofBytes (x.sub σ)
  | .mkIface t x => .mkIface t (x.sub σ)
  | .mkFunc f a b => .mkFunc f (subs σ a) (subs σ b)
  | .mkMap => .mkMap
  | .mkSlice e s b z l c => .mkSlice e s b z (l.sub σ) (c.sub σ)
  | .sliceStr x a b => .sliceStr (x.sub σ) (subO σ a) (subO σ b)
  | .slice s x a b c => .slice s (x.sub σ) (subO σ a) (subO σ b) (subO σ c)
  | .sliceArr n s x a b c => .sliceArr n s (x.sub σ) (subO σ a) (subO σ b) (subO σ c)
  | .fieldAddr o x => .fieldAddr o (x.sub σ)
  | .field a s o x => .field a s o (x.sub σ)
  | .indexAddr a s x i => .indexAddr a s (x.sub σ) (i.sub σ)
  | .indexStr x i => .indexStr (x.sub σ) (i.sub σ)
  | .indexArr n a s x i => .indexArr n a s (x.sub σ) (i.sub σ)
  | .lookup g z m k ok => .lookup g z (m.sub σ) (k.sub σ) ok
  | .mapUpdate g m k x => .mapUpdate g (m.sub σ) (k.sub σ) (x.sub σ)
  | .mapEntry g z m k => .mapEntry g z (m.sub σ) (k.sub σ)
  | .entryStore m s x => .entryStore (m.sub σ) (s.sub σ) (x.sub σ)
  | .typeAssert t z x ok => .typeAssert t z (x.sub σ) ok
  | .extract x i => .extract (x.sub σ) i
  | .len g x => .len g (x.sub σ)
  | .lenArr n => .lenArr n
  | .append e s b z x y => .append e s b z (x.sub σ) (y.sub σ)
  | .copy s x y => .copy s (x.sub σ) (y.sub σ)
  | .minmax m l => .minmax m (subs σ l)
  | .delete g m k => .delete g (m.sub σ) (k.sub σ)
  | .call f l => .call (f.sub σ) (subs σ l)
  | .callF f l => .callF f (subs σ l)
  | .panic x => .panic (x.sub σ)
  | .fail => .fail

section
variable (ts : List VVal)
theorem ev_sub (x : VOpd) : (x.sub (tmpAt ts)).ev [] = x.ev ts := by cases x <;> rfl
theorem evs_sub : ∀ (l : List VOpd), evs [] (subs (tmpAt ts) l) = evs ts l := by
  intro l
  induction l with
  | nil => rfl
  | cons x l ih => simp only [subs, evs, ev_sub, ih]
theorem evP_sub : ∀ (l : List (Nat × Nat × VOpd)), evParts [] (subP (tmpAt ts) l) = evParts ts l := by
  intro l
  induction l with
  | nil => rfl
  | cons x l ih => obtain ⟨a, b, x⟩ := x; simp only [subP, evParts, ev_sub, ih]
theorem bound_sub (o : Option VOpd) (a b : Nat) : bound [] (subO (tmpAt ts) o) a b = bound ts o a b := by
  cases o <;> simp only [subO, bound, ev_sub]
theorem read_sub (o : VOp) (h : VHeap) : (o.sub (tmpAt ts)).read [] h = o.read ts h := by
  cases o
  case indexAddr arr sz x i => cases arr <;> simp only [VOp.sub, VOp.read, ev_sub]
  case slice sz x lo hi mx => cases lo <;> cases hi <;> cases mx <;> simp only [VOp.sub, VOp.read, subO, bound, ev_sub]
  all_goals simp only [VOp.sub, VOp.read, ev_sub, evs_sub, evP_sub, bound_sub]
theorem fresh_sub (o : VOp) : (o.sub (tmpAt ts)).fresh [] = o.fresh ts := by
  cases o <;> simp only [VOp.sub, VOp.fresh, ev_sub, evs_sub, evP_sub, bound_sub]
theorem added_sub (h : VHeap) (sz b : Nat) (z : Option (List VVal)) (y : VOpd) : addedV [] h sz b z (y.sub (tmpAt ts)) = addedV ts h sz b z y := by
  cases z <;> simp only [addedV, ev_sub]
theorem write_sub (o : VOp) (h : VHeap) : (o.sub (tmpAt ts)).write [] h = o.write ts h := by
  cases o <;> simp only [VOp.sub, VOp.write, ev_sub, added_sub]
theorem callee_sub (o : VOp) : (o.sub (tmpAt ts)).callee [] = o.callee ts := by
  cases o <;> simp only [VOp.sub, VOp.callee, ev_sub, evs_sub]
theorem panicV_sub (o : VOp) : (o.sub (tmpAt ts)).panicV [] = o.panicV ts := by
  cases o <;> simp only [VOp.sub, VOp.panicV, ev_sub]
theorem kind_sub (σ : Nat → VVal) (o : VOp) : (o.sub σ).kind = o.kind := by cases o <;> rfl
theorem stepV_sub (call : VCaller) (o : VOp) (h : VHeap) : stepV call (o.sub (tmpAt ts)) [] h = stepV call o ts h := by
  simp only [stepV, kind_sub, read_sub, fresh_sub, write_sub, callee_sub, panicV_sub]
end

abbrev Env := Nat → VVal
abbrev FRun := Env → VHeap → VAns
def updO (σ : Env) : Option Nat → VVal → Env
  | none, _ => σ
  | some d, v => fun t => tf (Nat.beq t d) v (σ t)

abbrev stepF (call : VCaller) (o : VOper) (σ : Env) (h : VHeap) (p : VVal → VHeap → VAns) (k : VVal → VHeap → VAns) : VAns :=
  match o.guard with
  | some g => (match o.op.kind with
    | .read => gd g.2 (σ g.1) ((o.op.sub σ).read [] h) fun v => k v h
    | q => bp q (opStep call ⟨none, o.op.sub σ, some (0, g.2), [], []⟩ [σ g.1] h) p k)
  | none => match o.op.kind with
    | .read => rd ((o.op.sub σ).read [] h) fun v => k v h
    | .fresh => fr ((o.op.sub σ).fresh []) h k
    | .write => bd ((o.op.sub σ).write [] h) k
    | .call => cl call ((o.op.sub σ).callee []) h p k
    | .panic => pn ((o.op.sub σ).panicV []) h p

theorem sub_ev {x : VOpd} {σ : Env} (ts : List VVal) : (x.sub σ).ev ts = (x.sub σ).ev [] := by cases x <;> rfl
theorem sub_sub (σ τ : Env) (o : VOp) : (o.sub σ).sub τ = o.sub σ := by
  have hx : ∀ x : VOpd, (x.sub σ).sub τ = x.sub σ := fun x => by cases x <;> rfl
  have hl : ∀ l : List VOpd, subs τ (subs σ l) = subs σ l := fun l => by induction l with | nil => rfl | cons x l ih => simp only [subs, hx, ih]
  have hp : ∀ l : List (Nat × Nat × VOpd), subP τ (subP σ l) = subP σ l := fun l => by induction l with | nil => rfl | cons x l ih => obtain ⟨a, b, x⟩ := x; simp only [subP, hx, ih]
  have ho : ∀ l : Option VOpd, subO τ (subO σ l) = subO σ l := fun l => by cases l <;> simp only [subO, hx]
  cases o <;> simp only [VOp.sub, hx, hl, hp, ho]

theorem stepF_eq (call : VCaller) (o : VOper) (ts : List VVal) (h : VHeap) (p k : VVal → VHeap → VAns) : stepF call o (tmpAt ts) h p k = stepK call o ts h p k := by
  unfold stepF stepK
  cases hg : o.guard with
  | none => simp only [read_sub, fresh_sub, write_sub, callee_sub, panicV_sub]
  | some g =>
    simp only [read_sub]
    have e : opStep call ⟨none, o.op.sub (tmpAt ts), some (0, g.2), [], []⟩ [tmpAt ts g.1] h = opStep call o ts h := by
      obtain ⟨t, b⟩ := g
      have h1 : stepV call (o.op.sub (tmpAt ts)) [tmpAt ts t] h = stepV call o.op ts h := by
        rw [← stepV_sub [tmpAt ts t] call (o.op.sub (tmpAt ts)), sub_sub, stepV_sub]
      simp only [opStep, hg, h1]
      rfl
    simp only [e]

abbrev runOpsF (call : VCaller) (ops : List VOper) : Env → VHeap → FRun → VAns :=
  List.rec (motive := fun _ => Env → VHeap → FRun → VAns) (fun σ h κ => κ σ h) (fun o _ ih σ h κ => stepF call o σ h thr fun v h' => ih (updO σ o.dst v) h' κ) ops
theorem runOpsF_cons (call : VCaller) (o : VOper) (r : List VOper) (σ : Env) (h : VHeap) (κ : FRun) : runOpsF call (o :: r) σ h κ = stepF call o σ h thr fun v h' => runOpsF call r (updO σ o.dst v) h' κ := rfl

def dstsOk (k : Nat) : List VOper → Bool
  | [] => true
  | o :: r => (match o.dst with | some d => Nat.blt d k | none => true) && dstsOk k r

theorem tmpAt_put {ts : List VVal} {d : Option Nat} (hd : (match d with | some d => Nat.blt d ts.length | none => true) = true) (v : VVal) : tmpAt (putDst ts d v) = updO (tmpAt ts) d v := by
  cases d with
  | none => rfl
  | some d =>
    have hd : d < ts.length := by simpa [Nat.blt_eq] using hd
    funext t
    simp only [updO, putDst, tf_ite, tmpAt_get, tmpPut_set]
    by_cases e : t = d
    · subst e; simp [hd]
    · have e' : ¬ d = t := fun h => e h.symm
      simp [e, List.getElem?_set, e']

theorem runOpsF_eq {call : VCaller} {k : Nat} {K : VRun} {κ : FRun} (L : ∀ ts h, ts.length = k → K ts h = κ (tmpAt ts) h) :
    ∀ (ops : List VOper), dstsOk k ops = true → ∀ (ts : List VVal) (h : VHeap), ts.length = k → runOpsK call ops ts h K = runOpsF call ops (tmpAt ts) h κ := by
  intro ops
  induction ops with
  | nil => intro _ ts h hl; exact L ts h hl
  | cons o r ih =>
    intro hd ts h hl
    simp only [dstsOk, Bool.and_eq_true] at hd
    rw [runOpsK, runOpsF_cons, stepF_eq]
    refine stepK_congr fun v h' => ?_
    rw [ih hd.2 _ _ (by rw [putDst_length]; exact hl), tmpAt_put (by rw [hl]; exact hd.1)]

/-- What is remembered of an operation of a drawn region. -/
structure FRec where
  op : VOp
  h : VHeap
  v : VVal
  h' : VHeap
  did : Bool

def maskE (rs : List Nat) (σ : Env) : Env := fun t => tf (memNat t rs) (σ t) .poison
def didF (o : VOper) (σ : Env) : Bool := match o.guard with | none => true | some g => wantedV (some (0, g.2)) [σ g.1]

abbrev recOpsF (call : VCaller) (ops : List VOper) : Env → VHeap → (List FRec → FRun) → VAns :=
  List.rec (motive := fun _ => Env → VHeap → (List FRec → FRun) → VAns) (fun σ h κ => κ [] σ h)
    (fun o _ ih σ h κ => stepF call o (maskE o.reads σ) h thn fun v h' => ih (updO σ o.dst v) h' fun recs => κ (⟨o.op.sub (maskE o.reads σ), h, v, h', didF o (maskE o.reads σ)⟩ :: recs)) ops
theorem recOpsF_cons (call : VCaller) (o : VOper) (r : List VOper) (σ : Env) (h : VHeap) (κ : List FRec → FRun) : recOpsF call (o :: r) σ h κ = stepF call o (maskE o.reads σ) h thn fun v h' => recOpsF call r (updO σ o.dst v) h' fun recs => κ (⟨o.op.sub (maskE o.reads σ), h, v, h', didF o (maskE o.reads σ)⟩ :: recs) := rfl

def calmPairF (a b : VOper) (ra rb : FRec) : Bool :=
  if ra.did && rb.did then
    (match a.op.kind with
    | .read => readsSame ra.op [] rb.h ra.v
    | _ => readsSame rb.op [] ra.h' rb.v)
  else true

def calmAllF (all : List (VOper × FRec)) : List (VOper × FRec) → Bool
  | [] => true
  | (o, r) :: rest => (o.chk.all fun j => match nthV all j with | some (b, rb) => calmPairF o b r rb | none => false) && calmAllF all rest

abbrev drawF (call : VCaller) (ops : List VOper) (σ : Env) (h : VHeap) (κ : FRun) : VAns :=
  recOpsF call ops σ h fun recs σ' h' => ck (calmAllF (ops.zip recs) (ops.zip recs)) (κ σ' h')

def convR (o : VOper) (r : VRec) : FRec := ⟨o.op.sub (tmpAt r.ts), r.h, r.v, r.h', r.did⟩
def convs : List VOper → List VRec → List FRec
  | o :: ops, r :: recs => convR o r :: convs ops recs
  | _, _ => []

theorem maskE_eq (rs : List Nat) (ts : List VVal) (hl : ∀ t, memNat t rs = true → t < ts.length) : ∀ t, memNat t rs = true → tmpAt (maskTs rs 0 ts) t = maskE rs (tmpAt ts) t := by
  intro t ht
  have h1 := hl t ht
  simp only [tmpAt_get, maskTs_get, maskE, Nat.zero_add, ht, tf_true]
  simp [h1]

def opndsIn (rs : List Nat) : VOpd → Bool
  | .tmp t => memNat t rs
  | .const _ => true

/-- The operands of an operation, all of them. -/
def VOp.opnds : VOp → List VOpd
  | .move x | .assign x | .box _ x | .load _ _ x | .nilCheck x | .un _ x | .convInt _ x | .convSame x | .toBytes _ x | .ofBytes x | .mkIface _ x | .fieldAddr _ x | .field _ _ _ x | .typeAssert _ _ x _ | .extract x _ | .len _ x | .panic x => [x]
  | .pick a b c => [a, b, c]
  | .build _ l | .buildSlice _ _ _ _ l => l.map fun p => p.2.2
  | .store _ a b | .bin _ _ a b | .indexAddr _ _ a b | .indexStr a b | .indexArr _ _ _ a b | .append _ _ _ _ a b | .copy _ a b | .lookup _ _ a b _ | .delete _ a b | .mkSlice _ _ _ _ a b | .mapEntry _ _ a b => [a, b]
  | .mkFunc _ a b => a ++ b
  | .mkMap | .lenArr _ | .fail => []
  | .sliceStr x a b => x :: (a.toList ++ b.toList)
  | .slice _ x a b c | .sliceArr _ _ x a b c => x :: (a.toList ++ b.toList ++ c.toList)
  | .mapUpdate _ a b c | .entryStore a b c => [a, b, c]
  | .minmax _ l | .callF _ l => l
  | .call f l => f :: l

def readsIn (k : Nat) (o : VOper) : Bool :=
  o.op.opnds.all (opndsIn o.reads) && ((match o.guard with | some (t, _) => memNat t o.reads | none => true) && o.reads.all fun t => Nat.blt t k)

theorem sub_congr {σ τ : Env} {o : VOp} (h : ∀ x ∈ o.opnds, x.sub σ = x.sub τ) : o.sub σ = o.sub τ := by
  have hl : ∀ l : List VOpd, (∀ x ∈ l, x.sub σ = x.sub τ) → subs σ l = subs τ l := fun l => by
    induction l with
    | nil => intro _; rfl
    | cons x l ih => intro h; simp only [subs, h x (by simp), ih fun y hy => h y (by simp [hy])]
  have hp : ∀ l : List (Nat × Nat × VOpd), (∀ x ∈ l.map fun p => p.2.2, x.sub σ = x.sub τ) → subP σ l = subP τ l := fun l => by
    induction l with
    | nil => intro _; rfl
    | cons x l ih => obtain ⟨a, b, x⟩ := x; intro h; simp only [subP, h x (by simp), ih fun y hy => h y (by simp at hy ⊢; exact .inr hy)]
  have ho : ∀ l : Option VOpd, (∀ x ∈ l.toList, x.sub σ = x.sub τ) → subO σ l = subO τ l := fun l => by
    cases l with
    | none => intro _; rfl
    | some x => intro h; simp only [subO, h x (by simp)]
  cases o <;> simp only [VOp.sub] <;> simp only [VOp.opnds] at h
  all_goals first
    | rfl
    | (rw [hl _ fun x hx => h x (by simp [hx]), hl _ fun x hx => h x (by simp [hx])]; done)
    | (rw [hl _ fun x hx => h x (by simp [hx])]; done)
    | (rw [hp _ h]; done)
    | (rw [h _ (by simp), h _ (by simp), h _ (by simp)]; done)
    | (rw [h _ (by simp), h _ (by simp)]; done)
    | (rw [h _ (by simp)]; done)
    | (rw [h _ (by simp), hl _ fun x hx => h x (by simp [hx])]; done)
    | (rw [h _ (by simp), ho _ fun x hx => h x (by simp at hx; simp [hx]), ho _ fun x hx => h x (by simp at hx; simp [hx])]; done)
    | (rw [h _ (by simp), ho _ fun x hx => h x (by simp at hx; simp [hx]), ho _ fun x hx => h x (by simp at hx; simp [hx]), ho _ fun x hx => h x (by simp at hx; simp [hx])]; done)

theorem stepF_congr {call : VCaller} {o : VOper} {σ τ : Env} {h : VHeap} {p k : VVal → VHeap → VAns} (hs : o.op.sub σ = o.op.sub τ) (hg : ∀ g, o.guard = some g → σ g.1 = τ g.1) : stepF call o σ h p k = stepF call o τ h p k := by
  unfold stepF
  cases hgd : o.guard with
  | none => simp only [hs]
  | some g => simp only [hs, hg g hgd]

theorem mask_sub {k : Nat} {o : VOper} {ts : List VVal} (hl : ts.length = k) (hr : readsIn k o = true) : o.op.sub (tmpAt (maskTs o.reads 0 ts)) = o.op.sub (maskE o.reads (tmpAt ts)) ∧ ∀ g, o.guard = some g → tmpAt (maskTs o.reads 0 ts) g.1 = maskE o.reads (tmpAt ts) g.1 := by
  simp only [readsIn, Bool.and_eq_true, List.all_eq_true] at hr
  obtain ⟨h1, h2, h3⟩ := hr
  have hm : ∀ t, memNat t o.reads = true → t < ts.length := fun t ht => by
    have := h3 t (memNat_iff.1 ht); rw [hl]; simpa [Nat.blt_eq] using this
  refine ⟨sub_congr fun x hx => ?_, fun g hg => ?_⟩
  · cases x with
    | const v => rfl
    | tmp t => simp only [VOpd.sub]; rw [maskE_eq o.reads ts hm t (h1 _ hx)]
  · rw [hg] at h2; exact maskE_eq o.reads ts hm g.1 h2

def readsAll (k : Nat) : List VOper → Bool
  | [] => true
  | o :: r => readsIn k o && readsAll k r

theorem recOpsF_eq {call : VCaller} {k : Nat} : ∀ (ops : List VOper), dstsOk k ops = true → readsAll k ops = true → ∀ {K : List VRec → VRun} {κ : List FRec → FRun} (_ : ∀ recs ts h, ts.length = k → K recs ts h = κ (convs ops recs) (tmpAt ts) h) (ts : List VVal) (h : VHeap), ts.length = k →
    recOpsK call ops ts h K = recOpsF call ops (tmpAt ts) h κ := by
  intro ops
  induction ops with
  | nil => intro _ _ K κ L ts h hl; exact L [] ts h hl
  | cons o r ih =>
    intro hd hr K κ L ts h hl
    simp only [dstsOk, Bool.and_eq_true] at hd
    simp only [readsAll, Bool.and_eq_true] at hr
    obtain ⟨m1, m2⟩ := mask_sub hl hr.1
    rw [recOpsK, recOpsF_cons, ← stepF_eq, stepF_congr m1 m2]
    have e : didV o (maskTs o.reads 0 ts) = didF o (maskE o.reads (tmpAt ts)) := by
      unfold didV didF
      cases hg : o.guard with
      | none => rfl
      | some g =>
        have h1 : wantedV (some g) (maskTs o.reads 0 ts) = wantedV (some (0, g.2)) [tmpAt (maskTs o.reads 0 ts) g.1] := rfl
        show wantedV (some g) (maskTs o.reads 0 ts) = wantedV (some (0, g.2)) [maskE o.reads (tmpAt ts) g.1]
        rw [h1, m2 g hg]
    congr 1
    funext v h'
    rw [← tmpAt_put (by rw [hl]; exact hd.1)]
    refine ih hd.2 hr.2 (fun recs ts2 h2 hl2 => ?_) _ _ (by rw [putDst_length]; exact hl)
    rw [L _ _ _ hl2]
    simp only [convs, convR, m1, e]

theorem calmF_eq : ∀ (ops : List VOper) (recs : List VRec) (ops' : List VOper) (recs' : List VRec), calmAllF (ops'.zip (convs ops' recs')) (ops.zip (convs ops recs)) = calmAll (ops'.zip recs') (ops.zip recs) := by
  have hn : ∀ (ops : List VOper) (recs : List VRec) (j : Nat), nthV (ops.zip (convs ops recs)) j = (nthV (ops.zip recs) j).map fun p => (p.1, convR p.1 p.2) := by
    intro ops
    induction ops with
    | nil => intro recs j; rfl
    | cons o ops ih =>
      intro recs j
      cases recs with
      | nil => rfl
      | cons r recs =>
        cases j with
        | zero => rfl
        | succ j => exact ih recs j
  intro ops
  induction ops with
  | nil => intro recs ops' recs'; rfl
  | cons o ops ih =>
    intro recs ops' recs'
    cases recs with
    | nil => rfl
    | cons r recs =>
      simp only [convs, List.zip_cons_cons, calmAllF, calmAll, ih]
      congr 1
      congr 1
      funext j
      rw [hn]
      cases nthV (ops'.zip recs') j with
      | none => rfl
      | some p =>
        obtain ⟨b, rb⟩ := p
        simp only [Option.map_some, calmPairF, calmPair, convR, readsSame, read_sub]
        cases o.op.kind <;> rfl

theorem drawF_eq {call : VCaller} {k : Nat} {K : VRun} {κ : FRun} (L : ∀ ts h, ts.length = k → K ts h = κ (tmpAt ts) h) (ops : List VOper) (hd : dstsOk k ops = true) (hr : readsAll k ops = true) (ts : List VVal) (h : VHeap) (hl : ts.length = k) :
    drawK call ops ts h K = drawF call ops (tmpAt ts) h κ :=
  recOpsF_eq ops hd hr (fun recs ts h hl => by rw [L ts h hl, calmF_eq]) ts h hl

/- ---------------------------------------------------------------- what a piece of code comes to, on so many temporaries -/

def Sim (k : Nat) (f : VRun) (g : FRun) : Prop := ∀ ts h, ts.length = k → f ts h = g (tmpAt ts) h

def Fun : Nat → Type
  | 0 => VHeap → VAns
  | n + 1 => VVal → Fun n
/-- A function of some temporaries. -/
abbrev apL (l : List Nat) : Fun l.length → FRun := List.rec (motive := fun l => Fun l.length → FRun) (fun J _ h => J h) (fun a _ ih J σ h => ih (J (σ a)) σ h) l

section
variable {call : VCaller} {n k : Nat} {D : Kont} {a b : VCode} {g g' ga gb : FRun} {ops : List VOper}

/-- A straight region: what it comes to on any temporaries. -/
abbrev regF (call : VCaller) (ops : List VOper) (g : FRun) : FRun := fun σ h => runOpsF call ops σ h g
abbrev drwF (call : VCaller) (ops : List VOper) (g : FRun) : FRun := fun σ h => drawF call ops σ h g
def opsOk (k : Nat) (d : Bool) (ops : List VOper) : Bool := dstsOk k ops && (match d with | true => readsAll k ops | false => true)

theorem Sim.reg (L : Sim k (runK call n b D) g) (o : opsOk k false ops = true) (e : regF call ops g = g') : Sim k (runK call n (.seq (.region false ops) b) D) g' := by
  intro ts h hl
  rw [← e]
  exact runOpsF_eq L ops (by simpa [opsOk] using o) ts h hl

theorem Sim.regE (L : Sim k (D .normal) g) (o : opsOk k false ops = true) (e : regF call ops g = g') : Sim k (runK call n (.region false ops) D) g' := by
  intro ts h hl
  rw [← e]
  exact runOpsF_eq L ops (by simpa [opsOk] using o) ts h hl

theorem Sim.drw (L : Sim k (runK call n b D) g) (o : opsOk k true ops = true) (e : drwF call ops g = g') : Sim k (runK call n (.seq (.region true ops) b) D) g' := by
  intro ts h hl
  rw [← e]
  simp only [opsOk, Bool.and_eq_true] at o
  exact drawF_eq L ops o.1 o.2 ts h hl

theorem Sim.drwE (L : Sim k (D .normal) g) (o : opsOk k true ops = true) (e : drwF call ops g = g') : Sim k (runK call n (.region true ops) D) g' := by
  intro ts h hl
  rw [← e]
  simp only [opsOk, Bool.and_eq_true] at o
  exact drawF_eq L ops o.1 o.2 ts h hl

theorem Sim.seq (L : Sim k (runK call n a (kn (runK call n b D) D)) g) : Sim k (runK call n (.seq a b) D) g := L
theorem Sim.skip (L : Sim k (D .normal) g) : Sim k (runK call n .skip D) g := L
theorem Sim.exit {i : Nat} (L : Sim k (D (.exit i)) g) : Sim k (runK call n (.exit i) D) g := L
theorem Sim.ret (L : Sim k (D .ret) g) : Sim k (runK call n .ret D) g := L
theorem Sim.block {i : Nat} (L : Sim k (runK call n a (kb i D)) g) : Sim k (runK call n (.block i a) D) g := L
theorem cnd_eq (c : VVal) (x y : VAns) : (match c with | .bool true => x | .bool false => y | _ => none) = cnd c x y := by
  cases c <;> try rfl
  case bool b => cases b <;> rfl
  case tuple l => cases l <;> rfl
/-- A condition's value. -/
def evE (σ : Env) : VOpd → VVal | .tmp t => σ t | .const v => v
theorem Sim.cond {c : VOpd} (La : Sim k (runK call n a D) ga) (Lb : Sim k (runK call n b D) gb) : Sim k (runK call n (.cond c a b) D) (fun σ h => cnd (evE σ c) (ga σ h) (gb σ h)) := by
  intro ts h hl
  show cnd (c.ev ts) (runK call n a D ts h) (runK call n b D ts h) = _
  rw [La ts h hl, Lb ts h hl]
  cases c <;> rfl
theorem Sim.loop {J : Nat → FRun} (h0 : J 0 = fun _ _ => none) (hs : ∀ m, Sim k (loopK (runK call n a) D m) (J m) → Sim k (runK call n a (kn (loopK (runK call n a) D m) D)) (J (m + 1))) : Sim k (runK call n (.loop a) D) (J n) := by
  have : ∀ m, Sim k (loopK (runK call n a) D m) (J m) := by
    intro m
    induction m with
    | zero => intro ts h _; rw [h0]; rfl
    | succ m ih => exact hs m ih
  exact this n
theorem Sim.of {f : VRun} (e : f = fun ts h => g (tmpAt ts) h) : Sim k f g := fun ts h _ => by rw [e]
end

/- ---------------------------------------------------------------- the answer -/
def rT (v : VVal) : Option VVal := some v
def rC (h : VHeap) (a : VVal) (agg : Bool) (sz : Nat) : Option VVal := match h.load a sz with | some cs => asValue agg cs | none => none
def rsV : List (Option VVal) → Option (List VVal)
  | [] => some []
  | x :: r => match x, rsV r with
    | some v, some vs => some (v :: vs)
    | _, _ => none
def finV (l : List (Option VVal)) (h : VHeap) : VAns := match rsV l with | some vs => some (oneOrTuple vs, h) | none => none

/- ---------------------------------------------------------------- programs of such functions -/
structure FastFn where
  f : Nat
  fn : VFunc
  run : VCaller → Nat → VRun

def FastFn.ok (x : FastFn) : Prop := ∀ call n args h, runK call n x.fn.body (fin x.fn.results) (args ++ List.replicate (x.fn.ntmps - args.length) .undef) h = x.run call n args h

/-- Functions, by their numbers. -/
inductive FTree where
  | leaf
  | node (x : FastFn) (l r : FTree)

def FTree.find (t : FTree) (f : Nat) : Option FastFn :=
  FTree.rec (motive := fun _ => Option FastFn) none (fun x _ _ l r => tf (Nat.beq f x.f) (some x) (tf (Nat.blt f x.f) l r)) t

def FTree.All (p : FastFn → Prop) : FTree → Prop
  | .leaf => True
  | .node x l r => p x ∧ (l.All p ∧ r.All p)

theorem FTree.find_all {p : FastFn → Prop} {f : Nat} {x : FastFn} : ∀ {t : FTree}, t.All p → t.find f = some x → p x ∧ f = x.f := by
  intro t
  induction t with
  | leaf => intro _ h; cases h
  | node y l r ihl ihr =>
    intro ha h
    have h : tf (Nat.beq f y.f) (some y) (tf (Nat.blt f y.f) (l.find f) (r.find f)) = some x := h
    cases hb : Nat.beq f y.f with
    | true => rw [hb] at h; injection h with h; subst h; exact ⟨ha.1, Nat.eq_of_beq_eq_true hb⟩
    | false =>
      rw [hb] at h
      cases hc : Nat.blt f y.f with
      | true => rw [hc] at h; exact ihl ha.2.1 h
      | false => rw [hc] at h; exact ihr ha.2.2 h

def fastN (t : FTree) (X : VCaller → Nat → VCaller) : Nat → VCaller :=
  fun n => Nat.rec (motive := fun _ => VCaller) (fun _ _ _ => none) (fun n call f args h => Option.rec (motive := fun _ => VAns) (X call n f args h) (fun x => FastFn.run x call n args h) (t.find f)) n

def progOfT (t : FTree) : VProg := fun f => match t.find f with | some x => some x.fn | none => none

theorem fastN_eq {t : FTree} (ho : t.All FastFn.ok) (X : VCaller → Nat → VCaller) : ∀ n, callN (progOfT t) X n = fastN t X n := by
  intro n
  induction n with
  | zero => rfl
  | succ n ih =>
    funext f args h
    rw [callN_runK, ih]
    show _ = Option.rec (motive := fun _ => VAns) (X (fastN t X n) n f args h) (fun x => FastFn.run x (fastN t X n) n args h) (t.find f)
    unfold progOfT
    cases hf : t.find f with
    | none => rfl
    | some x => exact (FTree.find_all ho hf).1 _ _ _ _

/-- The program has them. -/
def FastFn.inP (P : Program) (x : FastFn) : Prop := funcV P x.f = some x.fn
theorem progOfT_ok {P : Program} {t : FTree} (hp : t.All (FastFn.inP P)) : ∀ f fn, progOfT t f = some fn → funcV P f = some fn := by
  intro f fn h
  unfold progOfT at h
  cases hf : t.find f with
  | none => rw [hf] at h; cases h
  | some x =>
    rw [hf] at h; injection h with h
    obtain ⟨h1, h2⟩ := FTree.find_all hp hf
    rw [h2, ← h]; exact h1

/- parts of a body -/
def vAt : List Nat → VCode → VCode
  | [], c => c
  | 0 :: r, .seq a _ => vAt r a
  | _ :: r, .seq _ b => vAt r b
  | 0 :: r, .cond _ a _ => vAt r a
  | _ :: r, .cond _ _ b => vAt r b
  | _ :: r, .block _ b => vAt r b
  | _ :: r, .loop b => vAt r b
  | _, c => c
@[irreducible] def opsAt (P : Program) (f : FuncId) (w : List Nat) : List VOper := match funcV P f with
  | some fn => (match vAt w fn.body with | .region _ ops => ops | _ => [])
  | none => []
end
end Go.V
