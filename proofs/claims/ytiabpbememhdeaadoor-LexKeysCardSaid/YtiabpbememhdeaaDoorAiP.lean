/-
  THE SHORT RUN, 16: an operation, calls too; operations one behind the other.
-/
import Derived.Test.YtiabpbememhdeaaDoorAiO
set_option linter.unusedSimpArgs false
set_option linter.unusedVariables false
set_option linter.unusedSectionVars false
namespace Go.Ai
open Go

def opndOk (P : Program) : Operand → Bool
  | .const v => flat v
  | .global g => decide (g < P.globals.size)
  | _ => true

def operOk (P : Program) (o : Oper) : Bool := o.op.operands.all (opndOk P) && shapeOk o.op

/-- What an operation names. -/
def namesOf (ops : Array Oper) (o : Oper) : List Tmp := o.dst.toList ++ o.looksAt ops

/-- Every order keeps what one operation hands another one. -/
def drawOk (ops : Array Oper) : Bool :=
  let b := Region.before ops
  (ops.zipIdx.toList.all fun x => x.1.after.all fun e => !Region.binds .any e || decide (e.on < x.2)) &&
  (ops.zipIdx.toList.all fun x => ops.zipIdx.toList.all fun y => x.2 == y.2 || match y.1.dst with
    | some d => !(namesOf ops x.1).contains d || (if x.2 < y.2 then (b.getD y.2 0).testBit x.2 else (b.getD x.2 0).testBit y.2)
    | none => true)

def codeOk (P : Program) : Code → Bool
  | .region _ ops d => ops.all (operOk P) && (!d || drawOk ops)
  | .seq x y => codeOk P x && codeOk P y
  | .cond c x y => opndOk P c && codeOk P x && codeOk P y
  | .block _ x | .loop x | .scope x => codeOk P x
  | _ => true

/-- More memory, and nothing else. -/
def Grew (w w' : World) : Prop := (∀ b, b < w.heap.size → w'.heap[b]? = w.heap[b]?) ∧ w.heap.size ≤ w'.heap.size ∧ w'.os = w.os ∧ w'.tape = w.tape ∧ w'.output = w.output

theorem Grew.refl (w : World) : Grew w w := ⟨fun _ _ => rfl, Nat.le_refl _, rfl, rfl, rfl⟩

theorem Grew.step {n : Nat} {φ : Phi} {w w' : World} (h : Grew w w') : Step n φ w φ w' :=
  ⟨fun _ _ _ h => h, fun _ _ _ h => .inl h, fun b hb _ => h.1 b hb, h.2.1, h.2.2.1, h.2.2.2.1, h.2.2.2.2, fun _ _ _ h => .inl ⟨_, _, h⟩⟩

theorem R.grew {B : Nat} {w₀ : World} {φ : Phi} {g : Nat → Option AObj} {w w' : World} (h : R B w₀ φ g w) (hw : Grew w w') : R B w₀ φ g w' where
  dom := h.dom
  lo f e k hk := ⟨(h.lo _ _ _ hk).1, Nat.lt_of_lt_of_le (h.lo _ _ _ hk).2 hw.2.1⟩
  inj := h.inj
  row f e k cells esz ep lw hist hg hk := by
    obtain ⟨a1, a2, a3⟩ := h.row _ _ _ _ _ _ _ _ hg hk
    exact ⟨a1, a2, fun hl => (a3 hl).congr (fun _ _ _ h => h) (hw.1 _ (h.lo _ _ _ hk).2)⟩
  map f e k es hg hk := (h.map _ _ _ _ hg hk).congr (fun _ _ _ h => h) (hw.1 _ (h.lo _ _ _ hk).2)
  iter f e k s p hg hk := (hw.1 _ (h.lo _ _ _ hk).2).trans (h.iter _ _ _ _ _ hg hk)
  old b hb := (hw.1 b (Nat.lt_of_lt_of_le hb h.size)).trans (h.old b hb)
  size := Nat.le_trans h.size hw.2.1
  one := h.one

/-- A function whose answer is known. -/
def KnownOk (P : Program) (g : FuncId) (args : List Value) (v : Value) (w : World) : Prop :=
  (callFunc g args.toArray).run P w = .ok (.value v) w ∨
  ((callFunc g args.toArray).run P w = .ok (.enter g args.toArray) w ∧ Calls P g args.toArray w fun e w' => e = .returned v ∧ Grew w w')

structure Env.Fine (E : Env) (B : Nat) (w₀ : World) : Prop extends Env.Ok E B w₀ where
  func : ∀ g fn, E.func g = some fn → E.P.funcs[g]? = some fn ∧ (fn.name == "runtime.NumGoroutine") = false ∧ ∀ c, fn.body = some c → codeOk E.P c = true
  known : ∀ g F args v, E.known g = some F → F args = some (true, v) → flatL args = true ∧ flat v = true ∧ ∀ w, (∀ b, b < B → w.heap[b]? = w₀.heap[b]?) → B ≤ w.heap.size → KnownOk E.P g args v w
  globals : E.P.globals.size ≤ B
  mixed : E.P.follows .mixedOrders = true

def VD (B : Nat) (φ : Phi) (d d' : Deferred) : Prop :=
  ∃ g cap cap', d.target = .fn (.func g) cap ∧ d'.target = .fn (.func g) cap' ∧ VA B φ cap cap' ∧ VA B φ d.args d'.args

inductive VDs (B : Nat) (φ : Phi) : List Deferred → List Deferred → Prop
  | nil : VDs B φ [] []
  | cons {d d' l l'} : VD B φ d d' → VDs B φ l l' → VDs B φ (d :: l) (d' :: l')

theorem VDs.nil_left {B : Nat} {φ : Phi} {l : List Deferred} (h : VDs B φ [] l) : l = [] := by cases h; rfl

theorem VDs.mono {B : Nat} {φ φ' : Phi} (h : ∀ f e k, φ f e = some k → φ' f e = some k) {l l' : List Deferred} (hv : VDs B φ l l') : VDs B φ' l l' := by
  induction hv with
  | nil => exact .nil
  | cons hd _ ih =>
    obtain ⟨g, c, c', h1, h2, h3, h4⟩ := hd
    exact .cons ⟨g, c, c', h1, h2, h3.mono h, h4.mono h⟩ ih

structure VAct (B : Nat) (φ : Phi) (a : AAct) (ca : Act) : Prop where
  size : a.tmps.length = ca.tmps.size
  tmp : ∀ (i : Nat) (x y : Value), a.tmps[i]? = some x → ca.tmps[i]? = some y → V B φ x y ∨ (isJunk x = true ∧ ∀ b, y ≠ .bool b)
  defers : VDs B φ a.defers ca.defers

theorem VAct.mono {B : Nat} {φ φ' : Phi} (h : ∀ f e k, φ f e = some k → φ' f e = some k) {a : AAct} {ca : Act} (hv : VAct B φ a ca) : VAct B φ' a ca :=
  ⟨hv.size, fun i x y hx hy => (hv.tmp i x y hx hy).imp (fun g => g.mono h) id, hv.defers.mono h⟩

theorem VAct.eval {B : Nat} {φ : Phi} {a : AAct} {ca : Act} (hv : VAct B φ a ca) {P : Program} (hP : P.globals.size ≤ B) {x : Operand} (hx : opndOk P x = true) (hj : isJunk (a.eval x) = false) : V B φ (a.eval x) (ca.eval x) := by
  cases x with
  | tmp t =>
    simp only [AAct.eval, Act.eval, List.getD_eq_getElem?_getD, Array.getD_eq_getD_getElem?] at hj ⊢
    by_cases ht : t < a.tmps.length
    · have ht' : t < ca.tmps.size := by rw [← hv.size]; exact ht
      rw [List.getElem?_eq_getElem ht] at hj
      rw [List.getElem?_eq_getElem ht, Array.getElem?_eq_getElem ht']
      rcases hv.tmp t _ _ (List.getElem?_eq_getElem ht) (Array.getElem?_eq_getElem ht') with h | ⟨h, _⟩
      · exact h
      · simp only [Option.getD_some] at hj
        rw [h] at hj
        simp at hj
    · have ht2 : a.tmps.length ≤ t := Nat.le_of_not_lt ht
      rw [List.getElem?_eq_none ht2, Array.getElem?_eq_none (by rw [← hv.size]; exact ht2)]
      exact V.refl_of_flat B φ undef (by rfl)
  | const v => exact V.refl_of_flat B φ v hx
  | global g =>
    simp only [opndOk, decide_eq_true_eq] at hx
    exact .pold _ (by show g < B; omega) rfl
  | func f => exact .func _ rfl (by simp) rfl (by simp)

theorem VAct.put {B : Nat} {φ : Phi} {a : AAct} {ca : Act} (hv : VAct B φ a ca) (dst : Option Tmp) {v v' : Value} (h : V B φ v v') : VAct B φ (a.put dst v) (ca.put dst v') := by
  cases dst with
  | none => exact hv
  | some d =>
    refine ⟨by simp [AAct.put, Act.put, hv.size], fun i x y hx hy => ?_, hv.defers⟩
    simp only [AAct.put, Act.put, List.getElem?_set, Array.getElem?_setIfInBounds] at hx hy
    by_cases hi : d = i
    · rw [if_pos hi] at hx hy
      split at hx
      · split at hy
        · cases hx; cases hy; exact .inl h
        · simp at hy
      · simp at hx
    · rw [if_neg hi] at hx hy
      exact hv.tmp i x y hx hy

theorem VAct.wanted {B : Nat} {φ : Phi} {a : AAct} {ca : Act} (hv : VAct B φ a ca) (ops : Array Oper) (o : Oper) : Region.wanted o (yielded ops ca.tmps) = aWanted ops a.tmps o := by
  unfold Region.wanted aWanted
  cases hgd : o.guard with
  | none => rfl
  | some jw =>
    obtain ⟨j, want⟩ := jw
    simp only
    unfold yielded
    cases hd : (ops[j]?).bind (·.dst) with
    | none => simp
    | some d =>
      simp only [Option.bind_some]
      by_cases ht : d < a.tmps.length
      · have ht' : d < ca.tmps.size := by rw [← hv.size]; exact ht
        have h := hv.tmp d _ _ (List.getElem?_eq_getElem ht) (Array.getElem?_eq_getElem ht')
        rw [List.getElem?_eq_getElem ht, Array.getElem?_eq_getElem ht']
        generalize a.tmps[d] = x at h
        generalize ca.tmps[d] = y at h
        rcases h with h | ⟨h, h'⟩
        · cases h <;> simp
        · cases x <;> simp only [isJunk, Bool.false_eq_true] at h
          cases y <;> simp
          exact absurd rfl (h' _)
      · have ht2 : a.tmps.length ≤ d := Nat.le_of_not_lt ht
        rw [List.getElem?_eq_none ht2, Array.getElem?_eq_none (by rw [← hv.size]; exact ht2)]
        simp

def RetRel (B : Nat) (φ : Phi) : Ret → Ending → Prop
  | .ok v, .returned v' => V B φ v v'
  | .pan v, .panicked chain => ∃ v', chain = [{ v := v', recovered := false }] ∧ V B φ v v'
  | _, _ => False

/-- What calls of the short run come to. -/
def CallOk (E : Env) (B : Nat) (w₀ : World) (call : Caller) : Prop :=
  ∀ g args s r s', call g args s = some (r, s') → (∃ fn, E.P.funcs[g]? = some fn ∧ fn.body.isSome = true ∧ (fn.name == "runtime.NumGoroutine") = false) ∧
    ∀ φ w cargs, R B w₀ φ s.get w → s.Fresh → VL B φ args cargs → Calls E.P g cargs.toArray w fun e w' =>
      ∃ φ', Step s.next φ w φ' w' ∧ R B w₀ φ' s'.get w' ∧ s'.Fresh ∧ s.next ≤ s'.next ∧ RetRel B φ' r e

section
variable {E : Env} {B : Nat} {w₀ : World} (hE : E.Fine B w₀) {call : Caller} (hcall : CallOk E B w₀ call)
include hE

theorem run_callFunc {g : FuncId} {fn : Func} (h : E.P.funcs[g]? = some fn) (hb : fn.body.isSome = true) (hn : (fn.name == "runtime.NumGoroutine") = false) (args : Array Value) (w : World) :
    (callFunc g args).run E.P w = .ok (.enter g args) w := by
  unfold callFunc
  have hbn : fn.body.isNone = false := by cases hfb : fn.body <;> simp_all
  simp only [Sem.run_bind, run_program, Result.andThen_ok, h, hn, hbn, Bool.false_eq_true, if_false, Sem.run_pure]

/-- What an operation comes to, said of the machine. -/
def OpGoes (E : Env) (B : Nat) (w₀ : World) (φ : Phi) (s : St) (w : World) (o : Oper) (ca : Act) (K : Act → World → Prop) (Q : Exit → Act → World → Prop) : Rs → Prop
  | .val v s' => ∀ φ' w' v', Step s.next φ w φ' w' → R B w₀ φ' s'.get w' → V B φ' v v' → s'.Fresh → s.next ≤ s'.next → K (ca.put o.dst v') w'
  | .pan v s' => ∀ φ' w' v', Step s.next φ w φ' w' → R B w₀ φ' s'.get w' → V B φ' v v' → s'.Fresh → s.next ≤ s'.next → Q (.panic [{ v := v', recovered := false }]) ca w'
  | .dfr d s' => ∀ d', VD B φ d d' → s' = s → K ({ ca with defers := d' :: ca.defers }.put o.dst undef) w

include hcall in
theorem aCall_sim {φ : Phi} {s : St} {w : World} {g : FuncId} {args : List Value} {cargs : Array Value} {r : Rs} {o : Oper} {ca : Act} {K : Act → World → Prop} {Q : Exit → Act → World → Prop}
    (hR : R B w₀ φ s.get w) (hF : s.Fresh) (ha : VL B φ args cargs.toList) (h : aCall E call g args s = some r) (hg : OpGoes E B w₀ φ s w o ca K Q r) :
    o.upon E.P ca K Q ((callFunc g cargs).run E.P w) := by
  unfold aCall at h
  split at h
  next F hk =>
    split at h
    case h_2 => simp at h
    rename_i v hv
    cases h
    obtain ⟨h1, h2, h3⟩ := hE.known _ _ _ _ hk hv
    have hargs : cargs = args.toArray := by rw [← ha.flat h1]
    have hvv := V.refl_of_flat B φ v h2
    rw [hargs]
    rcases h3 w hR.old hR.size with h4 | ⟨h4, h5⟩
    · rw [h4]
      exact hg φ w v (Step.refl _ _) hR hvv hF (Nat.le_refl _)
    · rw [h4]
      refine h5.mono ?_
      rintro e w' ⟨rfl, hw⟩
      exact hg φ _ v hw.step (hR.grew hw) hvv hF (Nat.le_refl _)
  next =>
    split at h
    next v s' hc =>
      cases h
      obtain ⟨⟨fn, f1, f2, f3⟩, hcl⟩ := hcall _ _ _ _ _ hc
      rw [run_callFunc hE f1 f2 f3]
      have := hcl φ w cargs.toList hR hF ha
      simp only [Array.toArray_toList] at this
      refine this.mono ?_
      rintro e w' ⟨φ', g1, g2, g3, g4, g5⟩
      cases e with
      | returned v' => exact hg φ' w' v' g1 g2 g5 g3 g4
      | panicked c => exact g5.elim
      | outgrown => exact g5.elim
    next v s' hc =>
      cases h
      obtain ⟨⟨fn, f1, f2, f3⟩, hcl⟩ := hcall _ _ _ _ _ hc
      rw [run_callFunc hE f1 f2 f3]
      have := hcl φ w cargs.toList hR hF ha
      simp only [Array.toArray_toList] at this
      refine this.mono ?_
      rintro e w' ⟨φ', g1, g2, g3, g4, g5⟩
      cases e with
      | returned v' => exact g5.elim
      | panicked c =>
        obtain ⟨v', rfl, g6⟩ := g5
        exact hg φ' w' v' g1 g2 g6 g3 g4
      | outgrown => exact g5.elim
    next => simp at h

include hcall in
theorem aOp_sim {φ : Phi} {s : St} {w : World} {o : Oper} {ρ : Operand → Value} {ca : Act} {r : Rs} {K : Act → World → Prop} {Q : Exit → Act → World → Prop}
    (hR : R B w₀ φ s.get w) (hF : s.Fresh) (hρ : ∀ x ∈ o.op.operands, isJunk (ρ x) = false → V B φ (ρ x) (ca.eval x)) (hs : shapeOk o.op = true) (h : aOp E call ρ o s = some r) (hg : OpGoes E B w₀ φ s w o ca K Q r) :
    o.wp E.P ca w K Q := by
  have hcl := aOp_clean h
  replace h := hcl.2
  replace hρ : ∀ x ∈ o.op.operands, V B φ (ρ x) (ca.eval x) := fun x hx => hρ x hx (clean_iff.1 hcl.1 x hx)
  clear hcl
  unfold Oper.wp
  have val : (match aVal E ρ o s with | some (v, s') => some (Rs.val v s') | none => none) = some r → o.upon E.P ca K Q ((execOp ca.eval o).run E.P w) := by
    intro h
    cases hv : aVal E ρ o s with
    | none => simp [hv] at h
    | some x =>
      obtain ⟨v, s'⟩ := x
      simp only [hv, Option.some.injEq] at h
      subst h
      obtain ⟨φ', v', w', h1, h2, h3, h4, h5, h6⟩ := aVal_sim hE.toOk hR hF hρ hs hv
      rcases h1 with h1 | ⟨h1, rfl⟩
      · rw [h1]; exact hg φ' w' v' h2 h3 h4 h5 h6
      · rw [h1]; exact hg φ' w' undef h2 h3 h4 h5 h6
  obtain ⟨dst, op, ty, pos, after, guard⟩ := o
  unfold aOpC at h
  split at h
  next f args ats hop =>
    simp only at hop
    subst hop
    simp only [Op.operands, Call.operands] at hρ
    have hf := hρ f (by simp)
    have hargs : VA B φ (args.map ρ) (args.map ca.eval) := VA.map args fun x hx => hρ x (by simp [hx])
    split at h
    next g first captured hfv =>
      rw [hfv] at hf
      generalize hcf : ca.eval f = cf at hf
      cases hf with
      | func _ h1 h2 h3 h4 =>
        rename_i first' captured'
        have hrun : (execOp ca.eval ⟨dst, .call { callee := .value f, args := args, argTypes := ats }, ty, pos, after, guard⟩).run E.P w = (callFunc g ((first' ++ args.map ca.eval) ++ captured')).run E.P w := by
          simp only [execOp, resolve, Sem.run_bind, hcf, Deferred.ofValue, Sem.run_pure, Result.andThen_ok, invoke]
        rw [hrun]
        refine aCall_sim hE hcall hR hF ?_ h hg
        simp only [Array.toList_append]
        have e1 : VL B φ first.toList first'.toList := VA.toList ⟨h1, h2⟩
        have e2 : VL B φ captured.toList captured'.toList := VA.toList ⟨h3, h4⟩
        have e3 := hargs.toList
        simp only [Array.toList_map] at e3 ⊢
        exact VL.append hE.toOk (VL.append hE.toOk e1 e3) e2
    next => simp at h
  next => simp at h
  next args ats hop =>
    simp only at hop
    subst hop
    simp only [Op.operands, Call.operands] at hρ
    split at h
    next t v hl =>
      cases h
      obtain ⟨x, rfl⟩ : ∃ x, args = #[x] := by
        obtain ⟨l⟩ := args
        have hlen : l.length = 1 := by simpa using congrArg List.length hl
        match l, hlen with
        | [a], _ => exact ⟨a, rfl⟩
      simp only [List.map_cons, List.map_nil, List.cons.injEq, and_true] at hl
      have hx := hρ x (by simp)
      rw [hl] at hx
      generalize hcx : ca.eval x = cx at hx
      cases hx with
      | iface _ hv =>
        rename_i v'
        have hrun : (execOp ca.eval ⟨dst, .call { callee := .builtin .panic, args := #[x], argTypes := ats }, ty, pos, after, guard⟩).run E.P w = .halt (.panic (.iface t v')) w := by
          simp [execOp, resolve, invoke, builtin, Instr.panic, hcx]
        rw [hrun]
        exact hg φ w _ (Step.refl _ _) hR (.iface t hv) hF (Nat.le_refl _)
    next => simp at h
  next x hop =>
    simp only at hop
    subst hop
    simp only [Op.operands] at hρ
    split at h
    next t v hl =>
      cases h
      have hx := hρ x (by simp)
      rw [hl] at hx
      generalize hcx : ca.eval x = cx at hx
      cases hx with
      | iface _ hv =>
        rename_i v'
        have hrun : (execOp ca.eval ⟨dst, .panic x, ty, pos, after, guard⟩).run E.P w = .halt (.panic (.iface t v')) w := by
          simp [execOp, Instr.panic, hcx]
        rw [hrun]
        exact hg φ w _ (Step.refl _ _) hR (.iface t hv) hF (Nat.le_refl _)
    next => simp at h
  next f args ats hop =>
    simp only at hop
    subst hop
    simp only [Op.operands, Call.operands] at hρ
    have hf := hρ f (by simp)
    have hargs : VA B φ (args.map ρ) (args.map ca.eval) := VA.map args fun x hx => hρ x (by simp [hx])
    split at h
    next g first captured hfv =>
      cases h
      rw [hfv] at hf
      generalize hcf : ca.eval f = cf at hf
      cases hf with
      | func _ h1 h2 h3 h4 =>
        rename_i first' captured'
        have hrun : (execOp ca.eval ⟨dst, .defer { callee := .value f, args := args, argTypes := ats }, ty, pos, after, guard⟩).run E.P w =
            .ok (.defer { target := .fn (.func g) captured', args := first' ++ args.map ca.eval }) w := by
          simp [execOp, resolve, hcf, Deferred.ofValue]
        rw [hrun]
        refine hg _ ⟨g, captured, captured', rfl, rfl, ⟨h3, h4⟩, ?_⟩ rfl
        have e1 : VL B φ first.toList first'.toList := VA.toList ⟨h1, h2⟩
        have := (VL.append hE.toOk e1 hargs.toList).toArray
        simp only [← Array.toList_append, Array.toArray_toList] at this
        exact this
    next => simp at h
  next => exact val h


omit hE in
def XRel (B : Nat) (φ : Phi) : X → Exit → Prop
  | .normal, .normal => True
  | .exit i, .exit j => i = j
  | .ret, .ret => True
  | .panic v, .panic chain => ∃ v', chain = [{ v := v', recovered := false }] ∧ V B φ v v'
  | _, _ => False

/-- What is known of the temporaries behind a piece of code: behind a panic in a frame that puts nothing off, nothing. -/
def Left (B : Nat) (φ : Phi) (x : X) (a : AAct) (ca : Act) : Prop :=
  VAct B φ a ca ∨ ((∃ v, x = .panic v) ∧ a.defers = [] ∧ ca.defers = [])

/-- What is to hold behind a piece of code that comes to x, a', s'. -/
def Goes (B : Nat) (w₀ : World) (φ : Phi) (s : St) (w : World) (Q : Exit → Act → World → Prop) (x : X) (a' : AAct) (s' : St) : Prop :=
  ∀ φ' w' ca' e, Step s.next φ w φ' w' → R B w₀ φ' s'.get w' → s'.Fresh → s.next ≤ s'.next → XRel B φ' x e → Left B φ' x a' ca' → Q e ca' w'

theorem Goes.step {φ φ₁ : Phi} {s s₁ : St} {w w₁ : World} {Q : Exit → Act → World → Prop} {x : X} {a' : AAct} {s' : St} (h : Goes B w₀ φ s w Q x a' s') (hs : Step s.next φ w φ₁ w₁) (hn : s.next ≤ s₁.next) :
    Goes B w₀ φ₁ s₁ w₁ Q x a' s' :=
  fun φ' w' ca' e g1 g2 g3 g4 g5 g6 => h φ' w' ca' e (hs.trans g1) g2 g3 (Nat.le_trans hn g4) g5 g6

include hcall in
theorem evalOps_sim {ops : Array Oper} (hok : ∀ o ∈ ops.toList, operOk E.P o = true) {x : X} {a' : AAct} {s' : St} {Q : Exit → Act → World → Prop} :
    ∀ (l : List Oper) (k : Nat) (φ : Phi) (a : AAct) (s : St) (ca : Act) (w : World), l = ops.toList.drop k → evalOps E call ops l a s = some (x, a', s') → R B w₀ φ s.get w → s.Fresh → VAct B φ a ca →
      Goes B w₀ φ s w Q x a' s' → wpOps E.P ops Q ((List.range ops.size).drop k) ca w := by
  intro l
  induction l with
  | nil =>
    intro k φ a s ca w hl h hR hF hA hG
    simp only [evalOps, Option.some.injEq, Prod.mk.injEq] at h
    obtain ⟨rfl, rfl, rfl⟩ := h
    have hk : ops.size ≤ k := by
      have := congrArg List.length hl
      simp at this
      omega
    rw [List.drop_of_length_le (by simpa using hk)]
    exact hG φ w ca .normal (Step.refl _ _) hR hF (Nat.le_refl _) trivial (.inl hA)
  | cons o rest ih =>
    intro k φ a s ca w hl h hR hF hA hG
    have hk : k < ops.size := by
      have := congrArg List.length hl
      simp at this
      omega
    have hko : ops[k]? = some o := by
      have := congrArg (fun l => l[0]?) hl
      simp [List.getElem?_drop] at this
      simp [this]
    have hrest : rest = ops.toList.drop (k + 1) := by
      have := congrArg List.tail hl
      simpa using this
    have hro : (List.range ops.size).drop k = k :: (List.range ops.size).drop (k + 1) := by
      rw [← List.getElem_cons_drop (by simpa using hk)]
      simp
    rw [hro]
    simp only [wpOps, hko]
    have hoo : operOk E.P o = true := hok o (by
      have : o ∈ ops.toList.drop k := by rw [← hl]; simp
      exact List.mem_of_mem_drop this)
    unfold operOk at hoo
    simp only [Bool.and_eq_true, Array.all_eq_true_iff_forall_mem] at hoo
    have hρ : ∀ y ∈ o.op.operands, isJunk (a.eval y) = false → V B φ (a.eval y) (ca.eval y) := fun y hy => hA.eval hE.globals (hoo.1 y hy)
    simp only [evalOps] at h
    rw [hA.wanted]
    split at h
    next hw =>
      rw [if_pos hw]
      refine .inl ?_
      split at h
      next v s₁ ho =>
        refine aOp_sim hE hcall hR hF hρ hoo.2 ho ?_
        intro φ' w' v' g1 g2 g3 g4 g5
        exact ih (k + 1) φ' _ s₁ _ w' hrest h g2 g4 ((hA.mono g1.ext).put _ g3) (hG.step hE g1 g5)
      next v s₁ ho =>
        simp only [Option.some.injEq, Prod.mk.injEq] at h
        obtain ⟨rfl, rfl, rfl⟩ := h
        refine aOp_sim hE hcall hR hF hρ hoo.2 ho ?_
        intro φ' w' v' g1 g2 g3 g4 g5
        exact hG φ' w' ca _ g1 g2 g4 g5 ⟨v', rfl, g3⟩ (.inl (hA.mono g1.ext))
      next d s₁ ho =>
        refine aOp_sim hE hcall hR hF hρ hoo.2 ho ?_
        intro d' hd' hss
        subst hss
        refine ih (k + 1) φ _ s₁ _ w hrest h hR hF ?_ hG
        have : VAct B φ { a with defers := d :: a.defers } { ca with defers := d' :: ca.defers } := ⟨hA.size, hA.tmp, .cons hd' hA.defers⟩
        exact this.put _ (V.undef_refl hE.toOk φ)
      next => simp at h
    next hw =>
      rw [if_neg hw]
      exact ih (k + 1) φ _ s _ w hrest h hR hF (hA.put _ (V.undef_refl hE.toOk φ)) hG

end

end Go.Ai
