/-
  THE SHORT RUN, 16: an operation, calls too; operations one behind the other.
-/
import Derived.Test.YtiabpbememhdeaaDoorPa
import Derived.Laws.Strings
import Derived.Laws.StructEq

set_option linter.unusedSimpArgs false
set_option linter.unusedVariables false
set_option linter.unusedSectionVars false
namespace Go.Ai
open Go

def opndOk (P : Program) : Operand → Bool
  | .const v => flat v
  | .global g => decide (g < P.globals.size)
  | _ => true

def operOk (P : Program) (o : Oper) : Bool := o.op.operands.all (opndOk P) && shapeOk o.op

/-- What an operation names. -/
def namesOf (ops : Array Oper) (o : Oper) : List Tmp := o.dst.toList ++ o.looksAt ops

/-- Every order keeps what one operation hands another one. -/
def drawOk (ops : Array Oper) : Bool :=
  let b := Region.before ops
  (ops.zipIdx.toList.all fun x => x.1.after.all fun e => !Region.binds .any e || decide (e.on < x.2)) &&
  (ops.zipIdx.toList.all fun x => ops.zipIdx.toList.all fun y => x.2 == y.2 || match y.1.dst with
    | some d => !(namesOf ops x.1).contains d || (if x.2 < y.2 then (b.getD y.2 0).testBit x.2 else (b.getD x.2 0).testBit y.2)
    | none => true)

def codeOk (P : Program) : Code → Bool
  | .region _ ops d => ops.all (operOk P) && (!d || drawOk ops)
  | .seq x y => codeOk P x && codeOk P y
  | .cond c x y => opndOk P c && codeOk P x && codeOk P y
  | .block _ x | .loop x | .scope x => codeOk P x
  | _ => true

/-- More memory, and nothing else. -/
def Grew (w w' : World) : Prop := (∀ b, b < w.heap.size → w'.heap[b]? = w.heap[b]?) ∧ w.heap.size ≤ w'.heap.size ∧ w'.os = w.os ∧ w'.tape = w.tape ∧ w'.output = w.output

theorem Grew.refl (w : World) : Grew w w := ⟨fun _ _ => rfl, Nat.le_refl _, rfl, rfl, rfl⟩

theorem Grew.step {n : Nat} {φ : Phi} {w w' : World} (h : Grew w w') : Step n φ w φ w' :=
  ⟨fun _ _ _ h => h, fun _ _ _ h => .inl h, fun b hb _ => h.1 b hb, h.2.1, h.2.2.1, h.2.2.2.1, h.2.2.2.2, fun _ _ _ h => .inl ⟨_, _, h⟩⟩

theorem R.grew {B : Nat} {w₀ : World} {φ : Phi} {g : Nat → Option AObj} {w w' : World} (h : R B w₀ φ g w) (hw : Grew w w') : R B w₀ φ g w' where
  dom := h.dom
  lo f e k hk := ⟨(h.lo _ _ _ hk).1, Nat.lt_of_lt_of_le (h.lo _ _ _ hk).2 hw.2.1⟩
  inj := h.inj
  row f e k cells esz ep lw hist hg hk := by
    obtain ⟨a1, a2, a3⟩ := h.row _ _ _ _ _ _ _ _ hg hk
    exact ⟨a1, a2, fun hl => (a3 hl).congr (fun _ _ _ h => h) (hw.1 _ (h.lo _ _ _ hk).2)⟩
  map f e k es hg hk := (h.map _ _ _ _ hg hk).congr (fun _ _ _ h => h) (hw.1 _ (h.lo _ _ _ hk).2)
  iter f e k s p hg hk := (hw.1 _ (h.lo _ _ _ hk).2).trans (h.iter _ _ _ _ _ hg hk)
  old b hb := (hw.1 b (Nat.lt_of_lt_of_le hb h.size)).trans (h.old b hb)
  size := Nat.le_trans h.size hw.2.1
  one := h.one

/-- A function whose answer is known. -/
def KnownOk (P : Program) (g : FuncId) (args : List Value) (v : Value) (w : World) : Prop :=
  (callFunc g args.toArray).run P w = .ok (.value v) w ∨
  ((callFunc g args.toArray).run P w = .ok (.enter g args.toArray) w ∧ Calls P g args.toArray w fun e w' => e = .returned v ∧ Grew w w')

structure Env.Fine (E : Env) (B : Nat) (w₀ : World) : Prop extends Env.Ok E B w₀ where
  func : ∀ g fn, E.func g = some fn → E.P.funcs[g]? = some fn ∧ (fn.name == "runtime.NumGoroutine") = false ∧ ∀ c, fn.body = some c → codeOk E.P c = true
  known : ∀ g F args v, E.known g = some F → F args = some (true, v) → flatL args = true ∧ flat v = true ∧ ∀ w, (∀ b, b < B → w.heap[b]? = w₀.heap[b]?) → B ≤ w.heap.size → KnownOk E.P g args v w
  globals : E.P.globals.size ≤ B
  mixed : E.P.follows .mixedOrders = true

def VD (B : Nat) (φ : Phi) (d d' : Deferred) : Prop :=
  ∃ g cap cap', d.target = .fn (.func g) cap ∧ d'.target = .fn (.func g) cap' ∧ VA B φ cap cap' ∧ VA B φ d.args d'.args

inductive VDs (B : Nat) (φ : Phi) : List Deferred → List Deferred → Prop
  | nil : VDs B φ [] []
  | cons {d d' l l'} : VD B φ d d' → VDs B φ l l' → VDs B φ (d :: l) (d' :: l')

theorem VDs.nil_left {B : Nat} {φ : Phi} {l : List Deferred} (h : VDs B φ [] l) : l = [] := by cases h; rfl

theorem VDs.mono {B : Nat} {φ φ' : Phi} (h : ∀ f e k, φ f e = some k → φ' f e = some k) {l l' : List Deferred} (hv : VDs B φ l l') : VDs B φ' l l' := by
  induction hv with
  | nil => exact .nil
  | cons hd _ ih =>
    obtain ⟨g, c, c', h1, h2, h3, h4⟩ := hd
    exact .cons ⟨g, c, c', h1, h2, h3.mono h, h4.mono h⟩ ih

structure VAct (B : Nat) (φ : Phi) (a : AAct) (ca : Act) : Prop where
  size : a.tmps.length = ca.tmps.size
  tmp : ∀ (i : Nat) (x y : Value), a.tmps[i]? = some x → ca.tmps[i]? = some y → V B φ x y ∨ (isJunk x = true ∧ ∀ b, y ≠ .bool b)
  defers : VDs B φ a.defers ca.defers

theorem VAct.mono {B : Nat} {φ φ' : Phi} (h : ∀ f e k, φ f e = some k → φ' f e = some k) {a : AAct} {ca : Act} (hv : VAct B φ a ca) : VAct B φ' a ca :=
  ⟨hv.size, fun i x y hx hy => (hv.tmp i x y hx hy).imp (fun g => g.mono h) id, hv.defers.mono h⟩

theorem VAct.eval {B : Nat} {φ : Phi} {a : AAct} {ca : Act} (hv : VAct B φ a ca) {P : Program} (hP : P.globals.size ≤ B) {x : Operand} (hx : opndOk P x = true) (hj : isJunk (a.eval x) = false) : V B φ (a.eval x) (ca.eval x) := by
  cases x with
  | tmp t =>
    simp only [AAct.eval, Act.eval, List.getD_eq_getElem?_getD, Array.getD_eq_getD_getElem?] at hj ⊢
    by_cases ht : t < a.tmps.length
    · have ht' : t < ca.tmps.size := by rw [← hv.size]; exact ht
      rw [List.getElem?_eq_getElem ht] at hj
      rw [List.getElem?_eq_getElem ht, Array.getElem?_eq_getElem ht']
      rcases hv.tmp t _ _ (List.getElem?_eq_getElem ht) (Array.getElem?_eq_getElem ht') with h | ⟨h, _⟩
      · exact h
      · simp only [Option.getD_some] at hj
        rw [h] at hj
        simp at hj
    · have ht2 : a.tmps.length ≤ t := Nat.le_of_not_lt ht
      rw [List.getElem?_eq_none ht2, Array.getElem?_eq_none (by rw [← hv.size]; exact ht2)]
      exact V.refl_of_flat B φ undef (by rfl)
  | const v => exact V.refl_of_flat B φ v hx
  | global g =>
    simp only [opndOk, decide_eq_true_eq] at hx
    exact .pold _ (by show g < B; omega) rfl
  | func f => exact .func _ rfl (by simp) rfl (by simp)

theorem VAct.put {B : Nat} {φ : Phi} {a : AAct} {ca : Act} (hv : VAct B φ a ca) (dst : Option Tmp) {v v' : Value} (h : V B φ v v') : VAct B φ (a.put dst v) (ca.put dst v') := by
  cases dst with
  | none => exact hv
  | some d =>
    refine ⟨by simp [AAct.put, Act.put, hv.size], fun i x y hx hy => ?_, hv.defers⟩
    simp only [AAct.put, Act.put, List.getElem?_set, Array.getElem?_setIfInBounds] at hx hy
    by_cases hi : d = i
    · rw [if_pos hi] at hx hy
      split at hx
      · split at hy
        · cases hx; cases hy; exact .inl h
        · simp at hy
      · simp at hx
    · rw [if_neg hi] at hx hy
      exact hv.tmp i x y hx hy

theorem VAct.wanted {B : Nat} {φ : Phi} {a : AAct} {ca : Act} (hv : VAct B φ a ca) (ops : Array Oper) (o : Oper) : Region.wanted o (yielded ops ca.tmps) = aWanted ops a.tmps o := by
  unfold Region.wanted aWanted
  cases hgd : o.guard with
  | none => rfl
  | some jw =>
    obtain ⟨j, want⟩ := jw
    simp only
    unfold yielded
    cases hd : (ops[j]?).bind (·.dst) with
    | none => simp
    | some d =>
      simp only [Option.bind_some]
      by_cases ht : d < a.tmps.length
      · have ht' : d < ca.tmps.size := by rw [← hv.size]; exact ht
        have h := hv.tmp d _ _ (List.getElem?_eq_getElem ht) (Array.getElem?_eq_getElem ht')
        rw [List.getElem?_eq_getElem ht, Array.getElem?_eq_getElem ht']
        generalize a.tmps[d] = x at h
        generalize ca.tmps[d] = y at h
        rcases h with h | ⟨h, h'⟩
        · cases h <;> simp
        · cases x <;> simp only [isJunk, Bool.false_eq_true] at h
          cases y <;> simp
          exact absurd rfl (h' _)
      · have ht2 : a.tmps.length ≤ d := Nat.le_of_not_lt ht
        rw [List.getElem?_eq_none ht2, Array.getElem?_eq_none (by rw [← hv.size]; exact ht2)]
        simp

def RetRel (B : Nat) (φ : Phi) : Ret → Ending → Prop
  | .ok v, .returned v' => V B φ v v'
  | .pan v, .panicked chain => ∃ v', chain = [{ v := v', recovered := false }] ∧ V B φ v v'
  | _, _ => False

/-- What calls of the short run come to. -/
def CallOk (E : Env) (B : Nat) (w₀ : World) (call : Caller) : Prop :=
  ∀ g args s r s', call g args s = some (r, s') → (∃ fn, E.P.funcs[g]? = some fn ∧ fn.body.isSome = true ∧ (fn.name == "runtime.NumGoroutine") = false) ∧
    ∀ φ w cargs, R B w₀ φ s.get w → s.Fresh → VL B φ args cargs → Calls E.P g cargs.toArray w fun e w' =>
      ∃ φ', Step s.next φ w φ' w' ∧ R B w₀ φ' s'.get w' ∧ s'.Fresh ∧ s.next ≤ s'.next ∧ RetRel B φ' r e

section
variable {E : Env} {B : Nat} {w₀ : World} (hE : E.Fine B w₀) {call : Caller} (hcall : CallOk E B w₀ call)
include hE

theorem run_callFunc {g : FuncId} {fn : Func} (h : E.P.funcs[g]? = some fn) (hb : fn.body.isSome = true) (hn : (fn.name == "runtime.NumGoroutine") = false) (args : Array Value) (w : World) :
    (callFunc g args).run E.P w = .ok (.enter g args) w := by
  unfold callFunc
  have hbn : fn.body.isNone = false := by cases hfb : fn.body <;> simp_all
  simp only [Sem.run_bind, run_program, Result.andThen_ok, h, hn, hbn, Bool.false_eq_true, if_false, Sem.run_pure]

/-- What an operation comes to, said of the machine. -/
def OpGoes (E : Env) (B : Nat) (w₀ : World) (φ : Phi) (s : St) (w : World) (o : Oper) (ca : Act) (K : Act → World → Prop) (Q : Exit → Act → World → Prop) : Rs → Prop
  | .val v s' => ∀ φ' w' v', Step s.next φ w φ' w' → R B w₀ φ' s'.get w' → V B φ' v v' → s'.Fresh → s.next ≤ s'.next → K (ca.put o.dst v') w'
  | .pan v s' => ∀ φ' w' v', Step s.next φ w φ' w' → R B w₀ φ' s'.get w' → V B φ' v v' → s'.Fresh → s.next ≤ s'.next → Q (.panic [{ v := v', recovered := false }]) ca w'
  | .dfr d s' => ∀ d', VD B φ d d' → s' = s → K ({ ca with defers := d' :: ca.defers }.put o.dst undef) w

include hcall in
theorem aCall_sim {φ : Phi} {s : St} {w : World} {g : FuncId} {args : List Value} {cargs : Array Value} {r : Rs} {o : Oper} {ca : Act} {K : Act → World → Prop} {Q : Exit → Act → World → Prop}
    (hR : R B w₀ φ s.get w) (hF : s.Fresh) (ha : VL B φ args cargs.toList) (h : aCall E call g args s = some r) (hg : OpGoes E B w₀ φ s w o ca K Q r) :
    o.upon E.P ca K Q ((callFunc g cargs).run E.P w) := by
  unfold aCall at h
  split at h
  next F hk =>
    split at h
    case h_2 => simp at h
    rename_i v hv
    cases h
    obtain ⟨h1, h2, h3⟩ := hE.known _ _ _ _ hk hv
    have hargs : cargs = args.toArray := by rw [← ha.flat h1]
    have hvv := V.refl_of_flat B φ v h2
    rw [hargs]
    rcases h3 w hR.old hR.size with h4 | ⟨h4, h5⟩
    · rw [h4]
      exact hg φ w v (Step.refl _ _) hR hvv hF (Nat.le_refl _)
    · rw [h4]
      refine h5.mono ?_
      rintro e w' ⟨rfl, hw⟩
      exact hg φ _ v hw.step (hR.grew hw) hvv hF (Nat.le_refl _)
  next =>
    split at h
    next v s' hc =>
      cases h
      obtain ⟨⟨fn, f1, f2, f3⟩, hcl⟩ := hcall _ _ _ _ _ hc
      rw [run_callFunc hE f1 f2 f3]
      have := hcl φ w cargs.toList hR hF ha
      simp only [Array.toArray_toList] at this
      refine this.mono ?_
      rintro e w' ⟨φ', g1, g2, g3, g4, g5⟩
      cases e with
      | returned v' => exact hg φ' w' v' g1 g2 g5 g3 g4
      | panicked c => exact g5.elim
      | outgrown => exact g5.elim
    next v s' hc =>
      cases h
      obtain ⟨⟨fn, f1, f2, f3⟩, hcl⟩ := hcall _ _ _ _ _ hc
      rw [run_callFunc hE f1 f2 f3]
      have := hcl φ w cargs.toList hR hF ha
      simp only [Array.toArray_toList] at this
      refine this.mono ?_
      rintro e w' ⟨φ', g1, g2, g3, g4, g5⟩
      cases e with
      | returned v' => exact g5.elim
      | panicked c =>
        obtain ⟨v', rfl, g6⟩ := g5
        exact hg φ' w' v' g1 g2 g6 g3 g4
      | outgrown => exact g5.elim
    next => simp at h

include hcall in
theorem aOp_sim {φ : Phi} {s : St} {w : World} {o : Oper} {ρ : Operand → Value} {ca : Act} {r : Rs} {K : Act → World → Prop} {Q : Exit → Act → World → Prop}
    (hR : R B w₀ φ s.get w) (hF : s.Fresh) (hρ : ∀ x ∈ o.op.operands, isJunk (ρ x) = false → V B φ (ρ x) (ca.eval x)) (hs : shapeOk o.op = true) (h : aOp E call ρ o s = some r) (hg : OpGoes E B w₀ φ s w o ca K Q r) :
    o.wp E.P ca w K Q := by
  have hcl := aOp_clean h
  replace h := hcl.2
  replace hρ : ∀ x ∈ o.op.operands, V B φ (ρ x) (ca.eval x) := fun x hx => hρ x hx (clean_iff.1 hcl.1 x hx)
  clear hcl
  unfold Oper.wp
  have val : (match aVal E ρ o s with | some (v, s') => some (Rs.val v s') | none => none) = some r → o.upon E.P ca K Q ((execOp ca.eval o).run E.P w) := by
    intro h
    cases hv : aVal E ρ o s with
    | none => simp [hv] at h
    | some x =>
      obtain ⟨v, s'⟩ := x
      simp only [hv, Option.some.injEq] at h
      subst h
      obtain ⟨φ', v', w', h1, h2, h3, h4, h5, h6⟩ := aVal_sim hE.toOk hR hF hρ hs hv
      rcases h1 with h1 | ⟨h1, rfl⟩
      · rw [h1]; exact hg φ' w' v' h2 h3 h4 h5 h6
      · rw [h1]; exact hg φ' w' undef h2 h3 h4 h5 h6
  obtain ⟨dst, op, ty, pos, after, guard⟩ := o
  unfold aOpC at h
  split at h
  next f args ats hop =>
    simp only at hop
    subst hop
    simp only [Op.operands, Call.operands] at hρ
    have hf := hρ f (by simp)
    have hargs : VA B φ (args.map ρ) (args.map ca.eval) := VA.map args fun x hx => hρ x (by simp [hx])
    split at h
    next g first captured hfv =>
      rw [hfv] at hf
      generalize hcf : ca.eval f = cf at hf
      cases hf with
      | func _ h1 h2 h3 h4 =>
        rename_i first' captured'
        have hrun : (execOp ca.eval ⟨dst, .call { callee := .value f, args := args, argTypes := ats }, ty, pos, after, guard⟩).run E.P w = (callFunc g ((first' ++ args.map ca.eval) ++ captured')).run E.P w := by
          simp only [execOp, resolve, Sem.run_bind, hcf, Deferred.ofValue, Sem.run_pure, Result.andThen_ok, invoke]
        rw [hrun]
        refine aCall_sim hE hcall hR hF ?_ h hg
        simp only [Array.toList_append]
        have e1 : VL B φ first.toList first'.toList := VA.toList ⟨h1, h2⟩
        have e2 : VL B φ captured.toList captured'.toList := VA.toList ⟨h3, h4⟩
        have e3 := hargs.toList
        simp only [Array.toList_map] at e3 ⊢
        exact VL.append hE.toOk (VL.append hE.toOk e1 e3) e2
    next => simp at h
  next => simp at h
  next args ats hop =>
    simp only at hop
    subst hop
    simp only [Op.operands, Call.operands] at hρ
    split at h
    next t v hl =>
      cases h
      obtain ⟨x, rfl⟩ : ∃ x, args = #[x] := by
        obtain ⟨l⟩ := args
        have hlen : l.length = 1 := by simpa using congrArg List.length hl
        match l, hlen with
        | [a], _ => exact ⟨a, rfl⟩
      simp only [List.map_cons, List.map_nil, List.cons.injEq, and_true] at hl
      have hx := hρ x (by simp)
      rw [hl] at hx
      generalize hcx : ca.eval x = cx at hx
      cases hx with
      | iface _ hv =>
        rename_i v'
        have hrun : (execOp ca.eval ⟨dst, .call { callee := .builtin .panic, args := #[x], argTypes := ats }, ty, pos, after, guard⟩).run E.P w = .halt (.panic (.iface t v')) w := by
          simp [execOp, resolve, invoke, builtin, Instr.panic, hcx]
        rw [hrun]
        exact hg φ w _ (Step.refl _ _) hR (.iface t hv) hF (Nat.le_refl _)
    next => simp at h
  next x hop =>
    simp only at hop
    subst hop
    simp only [Op.operands] at hρ
    split at h
    next t v hl =>
      cases h
      have hx := hρ x (by simp)
      rw [hl] at hx
      generalize hcx : ca.eval x = cx at hx
      cases hx with
      | iface _ hv =>
        rename_i v'
        have hrun : (execOp ca.eval ⟨dst, .panic x, ty, pos, after, guard⟩).run E.P w = .halt (.panic (.iface t v')) w := by
          simp [execOp, Instr.panic, hcx]
        rw [hrun]
        exact hg φ w _ (Step.refl _ _) hR (.iface t hv) hF (Nat.le_refl _)
    next => simp at h
  next f args ats hop =>
    simp only at hop
    subst hop
    simp only [Op.operands, Call.operands] at hρ
    have hf := hρ f (by simp)
    have hargs : VA B φ (args.map ρ) (args.map ca.eval) := VA.map args fun x hx => hρ x (by simp [hx])
    split at h
    next g first captured hfv =>
      cases h
      rw [hfv] at hf
      generalize hcf : ca.eval f = cf at hf
      cases hf with
      | func _ h1 h2 h3 h4 =>
        rename_i first' captured'
        have hrun : (execOp ca.eval ⟨dst, .defer { callee := .value f, args := args, argTypes := ats }, ty, pos, after, guard⟩).run E.P w =
            .ok (.defer { target := .fn (.func g) captured', args := first' ++ args.map ca.eval }) w := by
          simp [execOp, resolve, hcf, Deferred.ofValue]
        rw [hrun]
        refine hg _ ⟨g, captured, captured', rfl, rfl, ⟨h3, h4⟩, ?_⟩ rfl
        have e1 : VL B φ first.toList first'.toList := VA.toList ⟨h1, h2⟩
        have := (VL.append hE.toOk e1 hargs.toList).toArray
        simp only [← Array.toList_append, Array.toArray_toList] at this
        exact this
    next => simp at h
  next => exact val h


omit hE in
def XRel (B : Nat) (φ : Phi) : X → Exit → Prop
  | .normal, .normal => True
  | .exit i, .exit j => i = j
  | .ret, .ret => True
  | .panic v, .panic chain => ∃ v', chain = [{ v := v', recovered := false }] ∧ V B φ v v'
  | _, _ => False

/-- What is known of the temporaries behind a piece of code: behind a panic in a frame that puts nothing off, nothing. -/
def Left (B : Nat) (φ : Phi) (x : X) (a : AAct) (ca : Act) : Prop :=
  VAct B φ a ca ∨ ((∃ v, x = .panic v) ∧ a.defers = [] ∧ ca.defers = [])

/-- What is to hold behind a piece of code that comes to x, a', s'. -/
def Goes (B : Nat) (w₀ : World) (φ : Phi) (s : St) (w : World) (Q : Exit → Act → World → Prop) (x : X) (a' : AAct) (s' : St) : Prop :=
  ∀ φ' w' ca' e, Step s.next φ w φ' w' → R B w₀ φ' s'.get w' → s'.Fresh → s.next ≤ s'.next → XRel B φ' x e → Left B φ' x a' ca' → Q e ca' w'

theorem Goes.step {φ φ₁ : Phi} {s s₁ : St} {w w₁ : World} {Q : Exit → Act → World → Prop} {x : X} {a' : AAct} {s' : St} (h : Goes B w₀ φ s w Q x a' s') (hs : Step s.next φ w φ₁ w₁) (hn : s.next ≤ s₁.next) :
    Goes B w₀ φ₁ s₁ w₁ Q x a' s' :=
  fun φ' w' ca' e g1 g2 g3 g4 g5 g6 => h φ' w' ca' e (hs.trans g1) g2 g3 (Nat.le_trans hn g4) g5 g6

include hcall in
theorem evalOps_sim {ops : Array Oper} (hok : ∀ o ∈ ops.toList, operOk E.P o = true) {x : X} {a' : AAct} {s' : St} {Q : Exit → Act → World → Prop} :
    ∀ (l : List Oper) (k : Nat) (φ : Phi) (a : AAct) (s : St) (ca : Act) (w : World), l = ops.toList.drop k → evalOps E call ops l a s = some (x, a', s') → R B w₀ φ s.get w → s.Fresh → VAct B φ a ca →
      Goes B w₀ φ s w Q x a' s' → wpOps E.P ops Q ((List.range ops.size).drop k) ca w := by
  intro l
  induction l with
  | nil =>
    intro k φ a s ca w hl h hR hF hA hG
    simp only [evalOps, Option.some.injEq, Prod.mk.injEq] at h
    obtain ⟨rfl, rfl, rfl⟩ := h
    have hk : ops.size ≤ k := by
      have := congrArg List.length hl
      simp at this
      omega
    rw [List.drop_of_length_le (by simpa using hk)]
    exact hG φ w ca .normal (Step.refl _ _) hR hF (Nat.le_refl _) trivial (.inl hA)
  | cons o rest ih =>
    intro k φ a s ca w hl h hR hF hA hG
    have hk : k < ops.size := by
      have := congrArg List.length hl
      simp at this
      omega
    have hko : ops[k]? = some o := by
      have := congrArg (fun l => l[0]?) hl
      simp [List.getElem?_drop] at this
      simp [this]
    have hrest : rest = ops.toList.drop (k + 1) := by
      have := congrArg List.tail hl
      simpa using this
    have hro : (List.range ops.size).drop k = k :: (List.range ops.size).drop (k + 1) := by
      rw [← List.getElem_cons_drop (by simpa using hk)]
      simp
    rw [hro]
    simp only [wpOps, hko]
    have hoo : operOk E.P o = true := hok o (by
      have : o ∈ ops.toList.drop k := by rw [← hl]; simp
      exact List.mem_of_mem_drop this)
    unfold operOk at hoo
    simp only [Bool.and_eq_true, Array.all_eq_true_iff_forall_mem] at hoo
    have hρ : ∀ y ∈ o.op.operands, isJunk (a.eval y) = false → V B φ (a.eval y) (ca.eval y) := fun y hy => hA.eval hE.globals (hoo.1 y hy)
    simp only [evalOps] at h
    rw [hA.wanted]
    split at h
    next hw =>
      rw [if_pos hw]
      refine .inl ?_
      split at h
      next v s₁ ho =>
        refine aOp_sim hE hcall hR hF hρ hoo.2 ho ?_
        intro φ' w' v' g1 g2 g3 g4 g5
        exact ih (k + 1) φ' _ s₁ _ w' hrest h g2 g4 ((hA.mono g1.ext).put _ g3) (hG.step hE g1 g5)
      next v s₁ ho =>
        simp only [Option.some.injEq, Prod.mk.injEq] at h
        obtain ⟨rfl, rfl, rfl⟩ := h
        refine aOp_sim hE hcall hR hF hρ hoo.2 ho ?_
        intro φ' w' v' g1 g2 g3 g4 g5
        exact hG φ' w' ca _ g1 g2 g4 g5 ⟨v', rfl, g3⟩ (.inl (hA.mono g1.ext))
      next d s₁ ho =>
        refine aOp_sim hE hcall hR hF hρ hoo.2 ho ?_
        intro d' hd' hss
        subst hss
        refine ih (k + 1) φ _ s₁ _ w hrest h hR hF ?_ hG
        have : VAct B φ { a with defers := d :: a.defers } { ca with defers := d' :: ca.defers } := ⟨hA.size, hA.tmp, .cons hd' hA.defers⟩
        exact this.put _ (V.undef_refl hE.toOk φ)
      next => simp at h
    next hw =>
      rw [if_neg hw]
      exact ih (k + 1) φ _ s _ w hrest h hR hF (hA.put _ (V.undef_refl hE.toOk φ)) hG

end

end Go.Ai

/-
  THE SHORT RUN, 17: code, functions, calls: what the short run comes to, the machine comes to (given the same of statements whose order is open).
-/
set_option linter.unusedSimpArgs false
set_option linter.unusedVariables false
set_option linter.unusedSectionVars false
namespace Go.Ai
open Go

/-- Statements whose order is open come to what the short run says. -/
def DrawSim (E : Env) (B : Nat) (w₀ : World) (call : Caller) : Prop :=
  ∀ (id : Nat) (ops : Array Oper) (a : AAct) (s : St) (x : X) (a' : AAct) (s' : St) (φ : Phi) (ca : Act) (w : World) (Q : Exit → Act → World → Prop), evalDraw E call ops a s = some (x, a', s') →
    (∀ o ∈ ops.toList, operOk E.P o = true) → drawOk ops = true → R B w₀ φ s.get w → s.Fresh → VAct B φ a ca → Goes B w₀ φ s w Q x a' s' → (Code.region id ops true).wp E.P Q ca w

theorem exists_least {p : Nat → Prop} (h : ∃ n, p n) : ∃ n, p n ∧ ∀ m, p m → n ≤ m := by
  obtain ⟨n, hn⟩ := h
  induction n using Nat.strongRecOn with
  | _ n ih =>
    by_cases hm : ∃ m, m < n ∧ p m
    · obtain ⟨m, h1, h2⟩ := hm
      exact ih m h1 h2
    · exact ⟨n, hn, fun m h => by
        rcases Nat.lt_or_ge m n with h1 | h1
        · exact absurd ⟨m, h1, h⟩ hm
        · exact h1⟩

open Classical in
noncomputable def leastOf (p : Nat → Prop) : Nat := if h : ∃ n, p n then (exists_least h).choose else 0

theorem leastOf_spec {p : Nat → Prop} (h : ∃ n, p n) : p (leastOf p) ∧ ∀ m, p m → leastOf p ≤ m := by
  unfold leastOf
  rw [dif_pos h]
  exact (exists_least h).choose_spec

section
variable {E : Env} {B : Nat} {w₀ : World} (hE : E.Fine B w₀) {call : Caller} (hcall : CallOk E B w₀ call) (hdraw : DrawSim E B w₀ call)
include hE

theorem Goes.refl_left {φ : Phi} {s : St} {w : World} {Q : Exit → Act → World → Prop} {x : X} {a' : AAct} {ca : Act} {e : Exit} (hG : Goes B w₀ φ s w Q x a' s) (hR : R B w₀ φ s.get w) (hF : s.Fresh) (hA : VAct B φ a' ca) (hx : XRel B φ x e) : Q e ca w :=
  hG φ w ca e (Step.refl _ _) hR hF (Nat.le_refl _) hx (.inl hA)

omit hE in
theorem Left.of_normal {φ : Phi} {a : AAct} {ca : Act} (h : Left B φ .normal a ca) : VAct B φ a ca := by
  rcases h with h | ⟨⟨v, h⟩, _⟩
  · exact h
  · simp at h

include hcall hdraw in
theorem evalCode_sim (N : Nat) : ∀ (c : Code), codeOk E.P c = true → ∀ (a : AAct) (s : St) (x : X) (a' : AAct) (s' : St) (φ : Phi) (ca : Act) (w : World) (Q : Exit → Act → World → Prop),
    evalCode E call N c a s = some (x, a', s') → R B w₀ φ s.get w → s.Fresh → VAct B φ a ca → Goes B w₀ φ s w Q x a' s' → c.wp E.P Q ca w := by
  intro c
  induction c with
  | skip =>
    intro _ a s x a' s' φ ca w Q h hR hF hA hG
    simp only [evalCode, Option.some.injEq, Prod.mk.injEq] at h
    obtain ⟨rfl, rfl, rfl⟩ := h
    exact wp_skip (hG.refl_left hE hR hF hA trivial)
  | label l =>
    intro _ a s x a' s' φ ca w Q h hR hF hA hG
    simp only [evalCode, Option.some.injEq, Prod.mk.injEq] at h
    obtain ⟨rfl, rfl, rfl⟩ := h
    exact wp_label (hG.refl_left hE hR hF hA trivial)
  | exit id =>
    intro _ a s x a' s' φ ca w Q h hR hF hA hG
    simp only [evalCode, Option.some.injEq, Prod.mk.injEq] at h
    obtain ⟨rfl, rfl, rfl⟩ := h
    exact wp_exit (hG.refl_left hE hR hF hA rfl)
  | ret =>
    intro _ a s x a' s' φ ca w Q h hR hF hA hG
    simp only [evalCode, Option.some.injEq, Prod.mk.injEq] at h
    obtain ⟨rfl, rfl, rfl⟩ := h
    exact wp_ret (hG.refl_left hE hR hF hA trivial)
  | region id ops d =>
    intro hok a s x a' s' φ ca w Q h hR hF hA hG
    simp only [codeOk, Bool.and_eq_true, Array.all_eq_true_iff_forall_mem] at hok
    have hok' : ∀ o ∈ ops.toList, operOk E.P o = true := fun o ho => hok.1 o (by simpa using ho)
    cases d with
    | false =>
      simp only [evalCode] at h
      have := evalOps_sim hE hcall hok' ops.toList 0 φ a s ca w rfl h hR hF hA hG
      exact wp_region (by simpa using this)
    | true =>
      simp only [evalCode] at h
      exact hdraw id ops a s x a' s' φ ca w Q h hok' (by simpa using hok.2) hR hF hA hG
  | seq c₁ c₂ ih₁ ih₂ =>
    intro hok a s x a' s' φ ca w Q h hR hF hA hG
    simp only [codeOk, Bool.and_eq_true] at hok
    simp only [evalCode] at h
    refine wp_seq ?_
    split at h
    next a₁ s₁ h₁ =>
      refine ih₁ hok.1 a s .normal a₁ s₁ φ ca w _ h₁ hR hF hA ?_
      intro φ' w' ca' e g1 g2 g3 g4 g5 g6
      cases e <;> simp only [XRel] at g5
      exact ih₂ hok.2 a₁ s₁ x a' s' φ' ca' w' Q h g2 g3 g6.of_normal (hG.step hE g1 g4)
    next r hnn =>
      refine ih₁ hok.1 a s x a' s' φ ca w _ h hR hF hA ?_
      intro φ' w' ca' e g1 g2 g3 g4 g5 g6
      have := hG φ' w' ca' e g1 g2 g3 g4 g5 g6
      cases e with
      | normal =>
        cases x <;> simp only [XRel] at g5
        exact absurd h (hnn _ _)
      | _ => exact this
  | cond c x₁ x₂ ih₁ ih₂ =>
    intro hok a s x a' s' φ ca w Q h hR hF hA hG
    simp only [codeOk, Bool.and_eq_true] at hok
    have hc := hA.eval hE.globals hok.1.1
    simp only [evalCode] at h
    split at h
    next hb =>
      rw [hb] at hc
      exact wp_cond (t := true) (hc rfl).bool_left (ih₁ hok.1.2 a s x a' s' φ ca w Q h hR hF hA hG)
    next hb =>
      rw [hb] at hc
      exact wp_cond (t := false) (hc rfl).bool_left (ih₂ hok.2 a s x a' s' φ ca w Q h hR hF hA hG)
    next => simp at h
  | block id c ih =>
    intro hok a s x a' s' φ ca w Q h hR hF hA hG
    simp only [codeOk] at hok
    simp only [evalCode] at h
    refine wp_block ?_
    split at h
    next id' a₁ s₁ h₁ =>
      refine ih hok a s (.exit id') a₁ s₁ φ ca w _ h₁ hR hF hA ?_
      intro φ' w' ca' e g1 g2 g3 g4 g5 g6
      cases e <;> simp only [XRel] at g5
      subst g5
      have g7 : VAct B φ' a₁ ca' := by
        rcases g6 with h | ⟨⟨v, h⟩, _⟩
        · exact h
        · simp at h
      simp only [Exit.inBlock]
      split at h
      next he =>
        cases h
        rw [if_pos he]
        exact hG φ' w' ca' .normal g1 g2 g3 g4 trivial (.inl g7)
      next he =>
        cases h
        rw [if_neg he]
        exact hG φ' w' ca' _ g1 g2 g3 g4 rfl (.inl g7)
    next r hne =>
      refine ih hok a s x a' s' φ ca w _ h hR hF hA ?_
      intro φ' w' ca' e g1 g2 g3 g4 g5 g6
      have := hG φ' w' ca' e g1 g2 g3 g4 g5 g6
      cases e with
      | exit i =>
        cases x <;> simp only [XRel] at g5
        exact absurd h (hne _ _ _)
      | _ => exact this
  | loop c ih =>
    intro hok a s x a' s' φ ca w Q h hR hF hA hG
    simp only [codeOk] at hok
    simp only [evalCode] at h
    let J : Nat → Act → World → Prop := fun n ca w => ∃ φ₁ a₁ s₁, iter (evalCode E call N c) n a₁ s₁ = some (x, a', s') ∧ R B w₀ φ₁ s₁.get w ∧ s₁.Fresh ∧ VAct B φ₁ a₁ ca ∧ Goes B w₀ φ₁ s₁ w Q x a' s'
    have key : ∀ n ca w, J n ca w → (Code.loop c).wp E.P Q ca w := by
      intro n ca w hJ
      refine wp_loop (fun ca w => ∃ n, J n ca w) (fun ca w => leastOf fun n => J n ca w) ⟨n, hJ⟩ ?_
      intro ca w hI
      have hspec := (leastOf_spec hI).1
      generalize leastOf (fun n => J n ca w) = k at hspec
      obtain ⟨φ₁, a₁, s₁, h1, h2, h3, h4, h5⟩ := hspec
      cases k with
      | zero => simp [iter] at h1
      | succ k =>
        simp only [iter] at h1
        split at h1
        next a₂ s₂ h6 =>
          refine ih hok a₁ s₁ .normal a₂ s₂ φ₁ ca w _ h6 h2 h3 h4 ?_
          intro φ' w' ca' e g1 g2 g3 g4 g5 g6
          cases e <;> simp only [XRel] at g5
          have hJ' : J k ca' w' := ⟨φ', a₂, s₂, h1, g2, g3, g6.of_normal, h5.step hE g1 g4⟩
          exact ⟨⟨k, hJ'⟩, Nat.lt_succ_of_le ((leastOf_spec ⟨k, hJ'⟩).2 k hJ')⟩
        next r hnn =>
          refine ih hok a₁ s₁ x a' s' φ₁ ca w _ h1 h2 h3 h4 ?_
          intro φ' w' ca' e g1 g2 g3 g4 g5 g6
          have := h5 φ' w' ca' e g1 g2 g3 g4 g5 g6
          cases e with
          | normal =>
            cases x <;> simp only [XRel] at g5
            exact absurd h1 (hnn _ _)
          | _ => exact this
    exact key N ca w ⟨φ, a, s, h, hR, hF, hA, hG⟩
  | scope c ih =>
    intro hok a s x a' s' φ ca w Q h hR hF hA hG
    simp only [codeOk] at hok
    simp only [evalCode] at h
    refine wp_scope_straight (ih hok a s x a' s' φ ca w _ h hR hF hA ?_)
    intro φ' w' ca' e g1 g2 g3 g4 g5 g6
    have := hG φ' w' ca' e g1 g2 g3 g4 g5 g6
    cases e with
    | goto l => cases x <;> simp [XRel] at g5
    | _ => exact this
  | _ => intro _ a s x a' s' φ ca w Q h; simp [evalCode] at h

end

end Go.Ai

/-
  THE SHORT RUN, 18: functions and calls.
-/
set_option linter.unusedSimpArgs false
set_option linter.unusedVariables false
set_option linter.unusedSectionVars false
namespace Go.Ai
open Go

section
variable {E : Env} {B : Nat} {w₀ : World} (hE : E.Fine B w₀) {call : Caller} (hcall : CallOk E B w₀ call) (hdraw : DrawSim E B w₀ call)
include hE

/-- Temporaries alike. -/
theorem VAct.getD {φ : Phi} {a : AAct} {ca : Act} (hA : VAct B φ a ca) (t : Nat) (hj : isJunk (a.tmps.getD t undef) = false) : V B φ (a.tmps.getD t undef) (ca.tmps.getD t undef) :=
  hA.eval (P := E.P) hE.globals (x := .tmp t) rfl hj

theorem results_sim {φ : Phi} {s : St} {w : World} {a : AAct} (F : ResultVar → Sem Value) (hF : ∀ r v, aResult E a.tmps s r = some v → ∃ v', (F r).run E.P w = .ok v' w ∧ V B φ v v') : ∀ (rs : List ResultVar) (l : List Value), aResults E a.tmps s rs = some l →
    ∃ l', (rs.mapM F).run E.P w = .ok l' w ∧ VL B φ l l' := by
  intro rs
  induction rs with
  | nil =>
    intro l h
    simp only [aResults, Option.some.injEq] at h
    subst h
    exact ⟨[], rfl, rfl, by simp⟩
  | cons r rs ih =>
    intro l h
    simp only [aResults] at h
    split at h
    next v l₀ hv hl =>
      cases h
      obtain ⟨l', h1, h2⟩ := ih _ hl
      obtain ⟨v', g1, g2⟩ := hF _ _ hv
      refine ⟨v' :: l', ?_, by simp [h2.1], ?_⟩
      · simp only [List.mapM_cons, Sem.run_bind, g1, Result.andThen_ok, h1, Sem.run_pure]
      · intro i x y hx hy
        cases i with
        | zero => simp at hx hy; subst hx; subst hy; exact g2
        | succ i => exact h2.2 i x y (by simpa using hx) (by simpa using hy)
    next => simp at h

theorem ret_sim {φ : Phi} {s : St} {w : World} (hR : R B w₀ φ s.get w) {a : AAct} {ca : Act} (hA : VAct B φ a ca) {fn : Func} {v : Value} (h : aRet E fn a.tmps s = some v) :
    ∃ v', (results fn ca.tmps).run E.P w = .ok v' w ∧ V B φ v v' := by
  have main : ∀ (F : ResultVar → Sem Value), (∀ r v, aResult E a.tmps s r = some v → ∃ v', (F r).run E.P w = .ok v' w ∧ V B φ v v') →
      ∃ v', (do let vs ← fn.results.mapM F; pure (if h : vs.size = 1 then vs[0] else .tuple vs) : Sem Value).run E.P w = .ok v' w ∧ V B φ v v' := by
    intro F hF
    have hm : ∀ l', (fn.results.toList.mapM F).run E.P w = .ok l' w → (fn.results.mapM F).run E.P w = .ok l'.toArray w := by
      intro l' h
      rw [Array.mapM_eq_mapM_toList]
      simp only [Sem.run_map, h, Result.andThen_ok]
    unfold aRet at h
    split at h
    next v₀ hv =>
      cases h
      obtain ⟨l', h1, h2⟩ := results_sim hE F hF _ _ hv
      obtain ⟨v', rfl⟩ : ∃ v', l' = [v'] := by
        match l', h2.1 with
        | [v'], _ => exact ⟨v', rfl⟩
      refine ⟨v', ?_, h2.2 0 _ _ rfl rfl⟩
      simp only [Sem.run_bind, hm _ h1, Result.andThen_ok]
      rfl
    next l hne hl =>
      cases h
      obtain ⟨l', h1, h2⟩ := results_sim hE F hF _ _ hl
      have hsz : ¬ l'.toArray.size = 1 := by
        intro h3
        have : l.length = 1 := by rw [h2.1]; simpa using h3
        match l, this with
        | [x], _ => exact hne x rfl
      refine ⟨.tuple l'.toArray, ?_, ?_⟩
      · simp only [Sem.run_bind, hm _ h1, Result.andThen_ok]
        rw [dif_neg hsz]
        rfl
      · have := h2.toArray
        exact .tuple this.1 this.2
    next => simp at h
  unfold results
  refine main _ ?_
  intro r v hv
  cases r with
  | tmp t =>
    simp only [aResult] at hv
    split at hv
    next => simp at hv
    next hj =>
      simp only [Option.some.injEq] at hv
      subst hv
      exact ⟨_, rfl, hA.getD hE t (by simpa using hj)⟩
  | cell x t =>
    simp only [aResult] at hv
    have hx := hA.getD hE x (by
      unfold aLoad at hv
      split at hv
      next hp => rw [hp]; rfl
      next => simp at hv)
    obtain ⟨v', g1, g2⟩ := run_load hE.toOk hR hx hv
    refine ⟨v', ?_, g2⟩
    generalize hc : ca.tmps.getD x undef = cx at hx g1
    generalize hac : a.tmps.getD x undef = ax at hx hv
    unfold aLoad at hv
    split at hv
    · obtain ⟨c', rfl⟩ := hx.pointer_some
      simpa [Instr.loadAt, Instr.sureAddr, asAddr, hc] using g1
    · simp at hv

/-- What a frame unwinds with. -/
def UnwRel (B : Nat) (φ : Phi) : Unw → FrameMode → Prop
  | none, .returning => True
  | some (v, b), .panicking chain => ∃ v', chain = [{ v := v', recovered := b }] ∧ V B φ v v'
  | _, _ => False

theorem UnwRel.mono {φ φ' : Phi} (h : ∀ f e k, φ f e = some k → φ' f e = some k) {u : Unw} {m : FrameMode} (hu : UnwRel B φ u m) : UnwRel B φ' u m := by
  cases u with
  | none => cases m <;> exact hu
  | some x =>
    obtain ⟨v, b⟩ := x
    cases m with
    | panicking c => obtain ⟨v', h1, h2⟩ := hu; exact ⟨v', h1, h2.mono h⟩
    | _ => exact hu.elim

theorem UnwRel.settle {φ : Phi} {u : Unw} {m : FrameMode} (hu : UnwRel B φ u m) : UnwRel B φ (aSettle u) (settle m) := by
  cases u with
  | none => cases m <;> simp_all [UnwRel, aSettle, Go.settle]
  | some x =>
    obtain ⟨v, b⟩ := x
    cases m with
    | panicking c =>
      obtain ⟨v', h1, h2⟩ := hu
      subst h1
      cases b with
      | true => simp [aSettle, Go.settle, UnwRel]
      | false => exact ⟨v', by simp [Go.settle], h2⟩
    | _ => exact hu.elim

/-- What is to hold behind a piece of a call that was put off. -/
def GoesD (B : Nat) (w₀ : World) (φ : Phi) (s : St) (w : World) (c₀ : Frame) (cs : List Frame) (Q : Exit → Act → List Frame → World → Prop) (x : X) (a' : AAct) (u' : Unw) (s' : St) : Prop :=
  ∀ φ' w' ca' e m', Step s.next φ w φ' w' → R B w₀ φ' s'.get w' → s'.Fresh → s.next ≤ s'.next → XRel B φ' x e → Left B φ' x a' ca' → UnwRel B φ' u' m' → Q e ca' ({ c₀ with mode := m' } :: cs) w'

include hcall in
theorem evalOpsD_sim {ops : Array Oper} (hok : ∀ o ∈ ops.toList, operOk E.P o = true) {x : X} {a' : AAct} {u' : Unw} {s' : St} {c₀ : Frame} {cs : List Frame} {Q : Exit → Act → List Frame → World → Prop} :
    ∀ (l : List Oper) (k : Nat) (φ : Phi) (a : AAct) (u : Unw) (m : FrameMode) (s : St) (ca : Act) (w : World), l = ops.toList.drop k → evalOpsD E call ops l a u s = some (x, a', u', s') → R B w₀ φ s.get w → s.Fresh → VAct B φ a ca → UnwRel B φ u m →
      GoesD B w₀ φ s w c₀ cs Q x a' u' s' → wpOpsS E.P ops Q ((List.range ops.size).drop k) ca ({ c₀ with mode := m } :: cs) w := by
  intro l
  induction l with
  | nil =>
    intro k φ a u m s ca w hl h hR hF hA hU hG
    simp only [evalOpsD, Option.some.injEq, Prod.mk.injEq] at h
    obtain ⟨rfl, rfl, rfl, rfl⟩ := h
    have hk : ops.size ≤ k := by
      have := congrArg List.length hl
      simp at this
      omega
    rw [List.drop_of_length_le (by simpa using hk)]
    exact hG φ w ca .normal m (Step.refl _ _) hR hF (Nat.le_refl _) trivial (.inl hA) hU
  | cons o rest ih =>
    intro k φ a u m s ca w hl h hR hF hA hU hG
    have hk : k < ops.size := by
      have := congrArg List.length hl
      simp at this
      omega
    have hko : ops[k]? = some o := by
      have := congrArg (fun l => l[0]?) hl
      simp [List.getElem?_drop] at this
      simp [this]
    have hrest : rest = ops.toList.drop (k + 1) := by
      have := congrArg List.tail hl
      simpa using this
    have hro : (List.range ops.size).drop k = k :: (List.range ops.size).drop (k + 1) := by
      rw [← List.getElem_cons_drop (by simpa using hk)]
      simp
    rw [hro]
    simp only [wpOpsS, hko]
    have hoo : operOk E.P o = true := hok o (by
      have : o ∈ ops.toList.drop k := by rw [← hl]; simp
      exact List.mem_of_mem_drop this)
    unfold operOk at hoo
    simp only [Bool.and_eq_true, Array.all_eq_true_iff_forall_mem] at hoo
    have hρ : ∀ y ∈ o.op.operands, isJunk (a.eval y) = false → V B φ (a.eval y) (ca.eval y) := fun y hy => hA.eval hE.globals (hoo.1 y hy)
    simp only [evalOpsD] at h
    rw [hA.wanted]
    split at h
    next hw =>
      rw [if_pos hw]
      split at h
      next hrec =>
        -- recover
        have hrun : (execOp ca.eval o).run E.P w = .ok .recover w := by
          obtain ⟨dst, op, ty, pos, after, guard⟩ := o
          simp only at hrec
          unfold hasRecover at hrec
          split at hrec
          · simp [execOp, resolve, invoke, builtin]
          · simp at hrec
        simp only [hrun]
        split at h
        next v =>
          cases m with
          | panicking chain =>
            obtain ⟨v', rfl, hv⟩ := hU
            simp only [recoverD]
            exact ih (k + 1) φ _ (some (v, true)) (.panicking [{ v := v', recovered := true }]) s _ w hrest h hR hF (hA.put _ hv) ⟨v', rfl, hv⟩ hG
          | _ => exact hU.elim
        next =>
          cases m with
          | returning =>
            simp only [recoverD]
            exact ih (k + 1) φ _ none .returning s _ w hrest h hR hF (hA.put _ .nilIface) trivial hG
          | _ => exact hU.elim
        next => simp at h
      next hrec =>
        have fin : ∀ {r : Rs}, aOp E call a.eval o s = some r → OpGoes E B w₀ φ s w o ca (fun a' w' => wpOpsS E.P ops Q ((List.range ops.size).drop (k + 1)) a' ({ c₀ with mode := m } :: cs) w') (fun e a' w' => Q e a' ({ c₀ with mode := m } :: cs) w') r →
            (match (execOp ca.eval o).run E.P w with
              | .ok .recover w' =>
                match recoverD ({ c₀ with mode := m } :: cs) with
                | some (v, cs') => wpOpsS E.P ops Q ((List.range ops.size).drop (k + 1)) (ca.put o.dst v) cs' w'
                | none => wpOpsS E.P ops Q ((List.range ops.size).drop (k + 1)) (ca.put o.dst .nilIface) ({ c₀ with mode := m } :: cs) w'
              | r => o.upon E.P ca (fun a' w' => wpOpsS E.P ops Q ((List.range ops.size).drop (k + 1)) a' ({ c₀ with mode := m } :: cs) w') (fun e a' w' => Q e a' ({ c₀ with mode := m } :: cs) w') r) := by
          intro r hr hg
          have hup := aOp_sim hE hcall hR hF hρ hoo.2 hr hg
          unfold Oper.wp at hup
          generalize (execOp ca.eval o).run E.P w = r' at hup
          split
          · exact hup.elim
          · exact hup
        split at h
        next v s₁ ho =>
          refine fin ho ?_
          intro φ' w' v' g1 g2 g3 g4 g5
          refine ih (k + 1) φ' _ u m s₁ _ w' hrest h g2 g4 ((hA.mono g1.ext).put _ g3) (hU.mono hE g1.ext) ?_
          intro φ'' w'' ca'' e m'' k1 k2 k3 k4 k5 k6 k7
          exact hG φ'' w'' ca'' e m'' (g1.trans k1) k2 k3 (Nat.le_trans g5 k4) k5 k6 k7
        next v s₁ ho =>
          simp only [Option.some.injEq, Prod.mk.injEq] at h
          obtain ⟨rfl, rfl, rfl, rfl⟩ := h
          refine fin ho ?_
          intro φ' w' v' g1 g2 g3 g4 g5
          exact hG φ' w' ca _ m g1 g2 g4 g5 ⟨v', rfl, g3⟩ (.inl (hA.mono g1.ext)) (hU.mono hE g1.ext)
        next => simp at h
    next hw =>
      rw [if_neg hw]
      exact ih (k + 1) φ _ u m s _ w hrest h hR hF (hA.put _ (V.undef_refl hE.toOk φ)) hU hG


include hcall hdraw in
theorem evalCodeD_sim (N : Nat) {c₀ : Frame} {cs : List Frame} : ∀ (c : Code), codeOk E.P c = true → ∀ (a : AAct) (u : Unw) (m : FrameMode) (s : St) (x : X) (a' : AAct) (u' : Unw) (s' : St) (φ : Phi) (ca : Act) (w : World) (Q : Exit → Act → List Frame → World → Prop),
    evalCodeD E call N c a u s = some (x, a', u', s') → R B w₀ φ s.get w → s.Fresh → VAct B φ a ca → UnwRel B φ u m → GoesD B w₀ φ s w c₀ cs Q x a' u' s' → c.wpS E.P Q ca ({ c₀ with mode := m } :: cs) w := by
  have plain : ∀ (c : Code), codeOk E.P c = true → ∀ (a : AAct) (u : Unw) (m : FrameMode) (s : St) (x : X) (a' : AAct) (u' : Unw) (s' : St) (φ : Phi) (ca : Act) (w : World) (Q : Exit → Act → List Frame → World → Prop),
      (match evalCode E call N c a s with | some (x, a', s') => some (x, a', u, s') | none => none) = some (x, a', u', s') → R B w₀ φ s.get w → s.Fresh → VAct B φ a ca → UnwRel B φ u m →
      GoesD B w₀ φ s w c₀ cs Q x a' u' s' → c.wpS E.P Q ca ({ c₀ with mode := m } :: cs) w := by
    intro c hok a u m s x a' u' s' φ ca w Q h hR hF hA hU hG
    split at h
    next x₁ a₁ s₁ h₁ =>
      simp only [Option.some.injEq, Prod.mk.injEq] at h
      obtain ⟨rfl, rfl, rfl, rfl⟩ := h
      refine wpS_of_wp (evalCode_sim hE hcall hdraw N c hok a s _ _ _ φ ca w _ h₁ hR hF hA ?_)
      intro φ' w' ca' e g1 g2 g3 g4 g5 g6
      exact hG φ' w' ca' e m g1 g2 g3 g4 g5 g6 (hU.mono hE g1.ext)
    next => simp at h
  intro c
  induction c with
  | seq c₁ c₂ ih₁ ih₂ =>
    intro hok a u m s x a' u' s' φ ca w Q h hR hF hA hU hG
    simp only [codeOk, Bool.and_eq_true] at hok
    simp only [evalCodeD] at h
    refine wpS_seq ?_
    split at h
    next a₁ u₁ s₁ h₁ =>
      refine ih₁ hok.1 a u m s .normal a₁ u₁ s₁ φ ca w _ h₁ hR hF hA hU ?_
      intro φ' w' ca' e m' g1 g2 g3 g4 g5 g6 g7
      cases e <;> simp only [XRel] at g5
      refine ih₂ hok.2 a₁ u₁ m' s₁ x a' u' s' φ' ca' w' Q h g2 g3 g6.of_normal g7 ?_
      intro φ'' w'' ca'' e m'' k1 k2 k3 k4 k5 k6 k7
      exact hG φ'' w'' ca'' e m'' (g1.trans k1) k2 k3 (Nat.le_trans g4 k4) k5 k6 k7
    next r hnn =>
      refine ih₁ hok.1 a u m s x a' u' s' φ ca w _ h hR hF hA hU ?_
      intro φ' w' ca' e m' g1 g2 g3 g4 g5 g6 g7
      have := hG φ' w' ca' e m' g1 g2 g3 g4 g5 g6 g7
      cases e with
      | normal =>
        cases x <;> simp only [XRel] at g5
        exact absurd h (hnn _ _ _)
      | _ => exact this
  | cond c x₁ x₂ ih₁ ih₂ =>
    intro hok a u m s x a' u' s' φ ca w Q h hR hF hA hU hG
    simp only [codeOk, Bool.and_eq_true] at hok
    have hc := hA.eval hE.globals hok.1.1
    simp only [evalCodeD] at h
    split at h
    next hb =>
      rw [hb] at hc
      exact wpS_cond (t := true) (hc rfl).bool_left (ih₁ hok.1.2 a u m s x a' u' s' φ ca w Q h hR hF hA hU hG)
    next hb =>
      rw [hb] at hc
      exact wpS_cond (t := false) (hc rfl).bool_left (ih₂ hok.2 a u m s x a' u' s' φ ca w Q h hR hF hA hU hG)
    next => simp at h
  | region id ops d =>
    intro hok a u m s x a' u' s' φ ca w Q h hR hF hA hU hG
    simp only [evalCodeD] at h
    split at h
    next hrec =>
      split at h
      next => simp at h
      next hd =>
        simp only [Bool.not_eq_true] at hd
        subst hd
        simp only [codeOk, Bool.and_eq_true, Array.all_eq_true_iff_forall_mem] at hok
        have hok' : ∀ o ∈ ops.toList, operOk E.P o = true := fun o ho => hok.1 o (by simpa using ho)
        have := evalOpsD_sim hE hcall (c₀ := c₀) (cs := cs) hok' ops.toList 0 φ a u m s ca w rfl h hR hF hA hU hG
        exact wpS_region (by simpa using this)
    next hrec =>
      exact plain _ hok a u m s x a' u' s' φ ca w Q h hR hF hA hU hG
  | _ =>
    intro hok a u m s x a' u' s' φ ca w Q h hR hF hA hU hG
    simp only [evalCodeD] at h
    split at h
    · simp at h
    · exact plain _ hok a u m s x a' u' s' φ ca w Q h hR hF hA hU hG

omit hE in
theorem enter_tmps {φ : Phi} {fn : Func} {args : List Value} {cargs : Array Value} (h : VL B φ args cargs.toList) :
    VAct B φ { tmps := enterTmps fn args, defers := [] } { tmps := cargs ++ Array.replicate (fn.ntmps - cargs.size) undef, defers := [] } := by
  have hlen : args.length = cargs.size := by simpa using h.1
  refine ⟨by simp [enterTmps, hlen], fun i x y hx hy => ?_, .nil⟩
  simp only [enterTmps] at hx
  by_cases hi : i < args.length
  · rw [List.getElem?_append_left hi] at hx
    rw [Array.getElem?_append_left (by omega)] at hy
    exact .inl (h.2 i x y hx (by simpa using hy))
  · rw [List.getElem?_append_right (by omega)] at hx
    rw [Array.getElem?_append_right (by omega)] at hy
    rw [List.getElem?_replicate] at hx
    rw [Array.getElem?_replicate] at hy
    split at hx
    · split at hy
      · cases hx; cases hy; exact .inl (V.refl_of_flat B φ undef (by rfl))
      · simp at hy
    · simp at hx

include hcall hdraw in
theorem deferred_sim (N : Nat) {φ : Phi} {s : St} {w : World} {d d' : Deferred} {u u' : Unw} {m : FrameMode} {s' : St} (hd : VD B φ d d') (hR : R B w₀ φ s.get w) (hF : s.Fresh) (hU : UnwRel B φ u m)
    (h : evalDeferred E call N d u s = some (u', s')) :
    ∃ fv cap g args, d'.target = .fn fv cap ∧ (invoke d'.target d'.args).run E.P w = .ok (.enter g args) w ∧ CallsD E.P g args m w fun e m' w' => (∃ v, e = .returned v) ∧
      ∃ φ', Step s.next φ w φ' w' ∧ R B w₀ φ' s'.get w' ∧ s'.Fresh ∧ s.next ≤ s'.next ∧ UnwRel B φ' u' m' := by
  obtain ⟨g, cap, cap', ht, ht', hcap, hargs⟩ := hd
  unfold evalDeferred at h
  rw [ht] at h
  simp only at h
  split at h
  next fn hfn =>
    split at h
    next c hc =>
      obtain ⟨f1, f2, f3⟩ := hE.func _ _ hfn
      refine ⟨.func g, cap', g, d'.args ++ cap', ht', ?_, ?_⟩
      · rw [ht']
        simp only [invoke]
        exact run_callFunc hE f1 (by simp [hc]) f2 _ _
      · have hvl : VL B φ (d.args.toList ++ cap.toList) (d'.args ++ cap').toList := by
          rw [Array.toList_append]
          exact VL.append hE.toOk hargs.toList hcap.toList
        refine callsD_of_wpS f1 hc fun c₀ cs hc₀ => ?_
        have hcc : c₀ = { c₀ with mode := m } := by rw [← hc₀]
        have hmain : ∀ x a u₁ s₁, evalCodeD E call N c { tmps := enterTmps fn (d.args.toList ++ cap.toList), defers := [] } u s = some (x, a, u₁, s₁) → (x = .normal ∨ x = .ret) →
            (if a.defers.isEmpty then (match aRet E fn a.tmps s₁ with | some _ => some (u₁, s₁) | none => none) else none) = some (u', s') →
            c.wpS E.P (bodyPostS E.P fn c₀ cs fun e m' w' => (∃ v, e = .returned v) ∧ ∃ φ', Step s.next φ w φ' w' ∧ R B w₀ φ' s'.get w' ∧ s'.Fresh ∧ s.next ≤ s'.next ∧ UnwRel B φ' u' m')
              { tmps := (d'.args ++ cap') ++ Array.replicate (fn.ntmps - (d'.args ++ cap').size) undef, defers := [] } (c₀ :: cs) w := by
          intro x a u₁ s₁ hev hx hfin
          split at hfin
          next hde =>
            split at hfin
            next v hv =>
              simp only [Option.some.injEq, Prod.mk.injEq] at hfin
              obtain ⟨rfl, rfl⟩ := hfin
              rw [hcc]
              refine evalCodeD_sim hE hcall hdraw N c (f3 c hc) _ u m s x a u₁ s₁ φ _ w _ hev hR hF (enter_tmps hvl) hU ?_
              intro φ' w' ca' e m' g1 g2 g3 g4 g5 g6 g7
              have g8 : VAct B φ' a ca' := by
                rcases g6 with h | ⟨⟨v, h⟩, _⟩
                · exact h
                · rcases hx with rfl | rfl <;> simp at h
              obtain ⟨v', r1, r2⟩ := ret_sim hE g2 g8 hv
              have hde' : ca'.defers = [] := by
                have := g8.defers
                have hnil : a.defers = [] := by simpa using hde
                rw [hnil] at this
                exact this.nil_left
              rcases hx with rfl | rfl
              · cases e <;> simp only [XRel] at g5
                exact ⟨hde', m', rfl, v', r1, ⟨v', rfl⟩, φ', g1, g2, g3, g4, g7⟩
              · cases e <;> simp only [XRel] at g5
                exact ⟨hde', m', rfl, v', r1, ⟨v', rfl⟩, φ', g1, g2, g3, g4, g7⟩
            next => simp at hfin
          next => simp at hfin
        split at h
        next a u₁ s₁ hev => exact hmain .normal a u₁ s₁ hev (.inl rfl) h
        next a u₁ s₁ hev => exact hmain .ret a u₁ s₁ hev (.inr rfl) h
        next => simp at h
    next => simp at h
  next => simp at h

include hcall hdraw in
theorem unwinds_sim (N : Nat) {fn : Func} {a : AAct} {ca : Act} {Q : Ending → World → Prop} {u' : Unw} {s' : St} : ∀ (ds ds' : List Deferred) (φ : Phi) (s : St) (w : World) (u : Unw) (m : FrameMode), VDs B φ ds ds' → VAct B φ a ca → R B w₀ φ s.get w → s.Fresh → UnwRel B φ u m → m ≠ .run →
    unwinds E call N ds u s = some (u', s') →
    (∀ φ' w' m', Step s.next φ w φ' w' → R B w₀ φ' s'.get w' → s'.Fresh → s.next ≤ s'.next → VAct B φ' a ca → UnwRel B φ' u' m' → Leaves E.P fn ca.tmps Q [] m' w') → Leaves E.P fn ca.tmps Q ds' m w := by
  intro ds
  induction ds with
  | nil =>
    intro ds' φ s w u m hds hA hR hF hU hm h hfin
    cases hds
    simp only [unwinds, Option.some.injEq, Prod.mk.injEq] at h
    obtain ⟨rfl, rfl⟩ := h
    exact hfin φ w m (Step.refl _ _) hR hF (Nat.le_refl _) hA hU
  | cons d ds ih =>
    intro ds' φ s w u m hds hA hR hF hU hm h hfin
    cases hds with
    | cons hd hds' =>
      rename_i d' l'
      simp only [unwinds] at h
      split at h
      next u₁ s₁ hev =>
        obtain ⟨fv, cap, g, args, h1, h2, h3⟩ := deferred_sim hE hcall hdraw N hd hR hF hU hev
        refine ⟨hm, fv, cap, g, args, h1, h2, h3.mono ?_⟩
        rintro e m' w' ⟨⟨v, rfl⟩, φ', g1, g2, g3, g4, g5⟩
        have hne : settle m' ≠ .run := by
          have := g5.settle hE
          intro hh
          rw [hh] at this
          cases hs : aSettle u₁ with
          | none => rw [hs] at this; exact this.elim
          | some x => rw [hs] at this; exact this.elim
        refine ih l' φ' s₁ w' (aSettle u₁) (settle m') (hds'.mono g1.ext) (hA.mono g1.ext) g2 g3 (g5.settle hE) hne h ?_
        intro φ'' w'' m'' k1 k2 k3 k4 k5 k6
        exact hfin φ'' w'' m'' (g1.trans k1) k2 k3 (Nat.le_trans g4 k4) k5 k6
      next => simp at h

include hcall hdraw in
theorem evalFn_sim (N : Nat) : CallOk E B w₀ (evalFn E call N) := by
  intro g args s r s' h
  unfold evalFn at h
  split at h
  next => simp at h
  next fn hfn =>
    split at h
    next => simp at h
    next c hc =>
      obtain ⟨f1, f2, f3⟩ := hE.func _ _ hfn
      refine ⟨⟨fn, f1, by simp [hc], f2⟩, fun φ w cargs hR hF hvl => ?_⟩
      refine calls_of_wp_defers f1 hc ?_
      have hvl' : VL B φ args cargs.toArray.toList := by simpa using hvl
      have hnorm : ∀ x a s₁, evalCode E call N c { tmps := enterTmps fn args, defers := [] } s = some (x, a, s₁) → (x = .normal ∨ x = .ret) →
          (match unwinds E call N a.defers none s₁ with | some (none, s'') => (aRet E fn a.tmps s'').map fun v => (Ret.ok v, s'') | _ => none) = some (r, s') →
          c.wp E.P (bodyPostD E.P fn fun e w' => ∃ φ', Step s.next φ w φ' w' ∧ R B w₀ φ' s'.get w' ∧ s'.Fresh ∧ s.next ≤ s'.next ∧ RetRel B φ' r e)
            { tmps := cargs.toArray ++ Array.replicate (fn.ntmps - cargs.toArray.size) undef, defers := [] } w := by
        intro x a s₁ hev hx hfin
        refine evalCode_sim hE hcall hdraw N c (f3 c hc) _ s x a s₁ φ _ w _ hev hR hF (enter_tmps hvl') ?_
        intro φ' w' ca' e g1 g2 g3 g4 g5 g6
        have g8 : VAct B φ' a ca' := by
          rcases g6 with h | ⟨⟨v, h⟩, _⟩
          · exact h
          · rcases hx with rfl | rfl <;> simp at h
        split at hfin
        next s₂ hun =>
          simp only [Option.map_eq_some_iff, Prod.mk.injEq] at hfin
          obtain ⟨v, hv, rfl, rfl⟩ := hfin
          have hl : Leaves E.P fn ca'.tmps (fun e w' => ∃ φ', Step s.next φ w φ' w' ∧ R B w₀ φ' s₂.get w' ∧ s₂.Fresh ∧ s.next ≤ s₂.next ∧ RetRel B φ' (.ok v) e) ca'.defers .returning w' := by
            refine unwinds_sim hE hcall hdraw N a.defers ca'.defers φ' s₁ w' none .returning g8.defers g8 g2 g3 trivial (by simp) hun ?_
            intro φ'' w'' m'' k1 k2 k3 k4 k5 k6
            cases m'' with
            | returning =>
              obtain ⟨v', r1, r2⟩ := ret_sim hE k2 k5 hv
              exact ⟨v', r1, φ'', g1.trans k1, k2, k3, Nat.le_trans g4 k4, r2⟩
            | _ => exact k6.elim
          rcases hx with rfl | rfl
          · cases e <;> simp only [XRel] at g5
            exact hl
          · cases e <;> simp only [XRel] at g5
            exact hl
        next => simp at hfin
      split at h
      next a s₁ hev => exact hnorm .normal a s₁ hev (.inl rfl) h
      next a s₁ hev => exact hnorm .ret a s₁ hev (.inr rfl) h
      next v a s₁ hev =>
        refine evalCode_sim hE hcall hdraw N c (f3 c hc) _ s (.panic v) a s₁ φ _ w _ hev hR hF (enter_tmps hvl') ?_
        intro φ' w' ca' e g1 g2 g3 g4 g5 g6
        cases e <;> simp only [XRel] at g5
        obtain ⟨v', rfl, hv'⟩ := g5
        simp only [bodyPostD]
        rcases g6 with g6 | ⟨_, hd1, hd2⟩
        · split at h
          next s₂ hun =>
            simp only [Option.map_eq_some_iff, Prod.mk.injEq] at h
            obtain ⟨v₂, hv₂, rfl, rfl⟩ := h
            refine unwinds_sim hE hcall hdraw N a.defers ca'.defers φ' s₁ w' (some (v, false)) _ g6.defers g6 g2 g3 ⟨v', rfl, hv'⟩ (by simp) hun ?_
            intro φ'' w'' m'' k1 k2 k3 k4 k5 k6
            cases m'' with
            | returning =>
              obtain ⟨v₃, r1, r2⟩ := ret_sim hE k2 k5 hv₂
              exact ⟨v₃, r1, φ'', g1.trans k1, k2, k3, Nat.le_trans g4 k4, r2⟩
            | _ => exact k6.elim
          next v₂ s₂ hun =>
            simp only [Option.some.injEq, Prod.mk.injEq] at h
            obtain ⟨rfl, rfl⟩ := h
            refine unwinds_sim hE hcall hdraw N a.defers ca'.defers φ' s₁ w' (some (v, false)) _ g6.defers g6 g2 g3 ⟨v', rfl, hv'⟩ (by simp) hun ?_
            intro φ'' w'' m'' k1 k2 k3 k4 k5 k6
            cases m'' with
            | panicking chain =>
              obtain ⟨v₃, rfl, hv₃⟩ := k6
              exact ⟨φ'', g1.trans k1, k2, k3, Nat.le_trans g4 k4, v₃, rfl, hv₃⟩
            | _ => exact k6.elim
          next => simp at h
        · rw [hd1] at h
          simp only [unwinds, Option.some.injEq, Prod.mk.injEq] at h
          obtain ⟨rfl, rfl⟩ := h
          rw [hd2]
          exact ⟨φ', g1, g2, g3, g4, v', rfl, hv'⟩
      next => simp at h

end

end Go.Ai

/-
  THE SHORT RUN, 19: tools for statements whose order is open.
-/
set_option linter.unusedSimpArgs false
set_option linter.unusedVariables false
set_option linter.unusedSectionVars false
namespace Go.Ai
open Go

theorem map_prod' {α β : Type} {s : β} {x : Option α} {v : α} {s' : β} (h : x.map (·, s) = some (v, s')) : s' = s ∧ ∀ σ : β, x.map (·, σ) = some (v, σ) := by
  cases x with
  | none => simp at h
  | some a => simp only [Option.map_some, Option.some.injEq, Prod.mk.injEq] at h; exact ⟨h.2.symm, fun σ => by simp [h.1]⟩

/-- Operations that look at nothing answer the same everywhere. -/
theorem pure_any {E : Env} {ρ : Operand → Value} {o : Oper} {s s' : St} {v : Value} (hp : pureOp o.op = true) (h : aVal E ρ o s = some (v, s')) : s' = s ∧ ∀ σ, aVal E ρ o σ = some (v, σ) := by
  obtain ⟨dst, op, ty, pos, after, guard⟩ := o
  unfold aVal at h ⊢
  cases op <;> simp only [pureOp, Bool.false_eq_true] at hp <;> simp only at h ⊢
  case move x => cases h; exact ⟨rfl, fun _ => rfl⟩
  case assign x => cases h; exact ⟨rfl, fun _ => rfl⟩
  case pick c a b =>
    split at h
    next t ht => cases h; exact ⟨rfl, fun _ => rfl⟩
    next => simp at h
  case build t ps => exact map_prod' h
  case nilCheck x =>
    split at h
    next a ha => cases h; exact ⟨rfl, fun _ => rfl⟩
    next f a b ha => cases h; exact ⟨rfl, fun _ => rfl⟩
    next => simp at h
  case binOp op t x y yt => exact map_prod' h
  case unOp op t x =>
    split at h
    next hf =>
      obtain ⟨h1, h2⟩ := map_prod' h
      exact ⟨h1, fun σ => by simp only [hf, if_true]; exact h2 σ⟩
    next => simp at h
  case makeInterface t x =>
    split at h
    next => simp at h
    next d hni hd =>
      cases h
      exact ⟨rfl, fun _ => rfl⟩
    next => simp at h
  case makeFunc fn a b => cases h; exact ⟨rfl, fun _ => rfl⟩
  case fieldAddr t x f => exact map_prod' h
  case field t x f => exact map_prod' h
  case indexAddr t x i => exact map_prod' h
  case index t x i => exact map_prod' h
  case typeAssert x xt t ok => exact map_prod' h
  case extract t i =>
    split at h
    next vs ht => exact map_prod' h
    next => simp at h

/-- One memory has all that the other one has. -/
def Sub (s σ : St) : Prop := ∀ f o, s.get f = some o → σ.get f = some o

theorem readN_sub {old : Addr → Option Value} {s σ : St} (h : Sub s σ) {a : Addr} {n : Nat} {l : List Value} (hr : readN old s a n = some l) : readN old σ a n = some l := by
  unfold readN at hr ⊢
  split at hr
  next he => exact hr
  next e he =>
    split at hr
    next cells esz ep lw hist hg => rw [h _ _ hg]; exact hr
    next => simp at hr

theorem aEntries_sub {s σ : St} (h : Sub s σ) {x : Value} {es : List (Value × Value)} (hr : aEntries s x = some es) : aEntries σ x = some es := by
  unfold aEntries at hr ⊢
  split at hr
  · exact hr
  · split at hr
    next es' hg => rw [h _ _ hg]; exact hr
    next => simp at hr
  · simp at hr

theorem eszIs_sub {s σ : St} (h : Sub s σ) {a : Addr} {n : Nat} (hr : eszIs s a n = true) : eszIs σ a n = true ∧ roomAt σ a n = roomAt s a n := by
  unfold eszIs at hr ⊢
  split at hr
  next cells esz ep lw hist hg =>
    have := h _ _ hg
    refine ⟨by rw [this]; exact hr, ?_⟩
    unfold roomAt
    rw [this, hg]
  next => simp at hr

theorem aSlice_sub {E : Env} {s σ : St} (h : Sub s σ) {t : TypeId} {x v : Value} {lo hi mx : Option Value} (hr : aSlice E s t x lo hi mx = some v) : aSlice E σ t x lo hi mx = some v := by
  unfold aSlice at hr ⊢
  split at hr
  next hf => rw [if_pos hf]; exact hr
  next hf =>
    rw [if_neg hf]
    split at hr
    next elem a len cap hd =>
      try simp only [hd]
      split at hr
      next n l hh hn hl hhi =>
        try simp only [hn, hl, hhi]
        split at hr
        next hn0 =>
          rw [if_pos hn0]
          split at hr
          next hc =>
            rw [if_pos hc]
            split at hr
            next hc2 =>
              simp only [Bool.and_eq_true] at hc2
              obtain ⟨h1, h2⟩ := eszIs_sub h hc2.1.1
              rw [h1, h2]
              rw [if_pos (by simp_all)]
              exact hr
            next => simp at hr
          next hc => rw [if_neg hc]; exact hr
        next => simp at hr
      next => simp at hr
    next k elem a hd => exact hr
    next => simp at hr

theorem aConvert_sub {E : Env} {s σ s' : St} (h : Sub s σ) {src dst : TypeId} {x v : Value} (hq : toSlice E dst = false) (hr : aConvert E s src dst x = some (v, s')) : s' = s ∧ aConvert E σ src dst x = some (v, σ) := by
  unfold aConvert at hr ⊢
  split at hr
  next a n c =>
    split at hr
    next e hs hd =>
      try simp only [hs, hd]
      split at hr
      next he =>
        try simp only [he]
        split at hr
        next l hl =>
          rw [readN_sub h hl]
          simp only [Option.map_eq_some_iff, Prod.mk.injEq] at hr ⊢
          obtain ⟨bs, h1, rfl, rfl⟩ := hr
          exact ⟨rfl, bs, h1, by simp⟩
        next => simp at hr
      next => simp at hr
    next => simp at hr
  next b =>
    split at hr
    next hs hd => cases hr; simp [hs, hd]
    next e hs hd => simp [toSlice, hd] at hq
    next => simp at hr
  next l c =>
    simp only [hq, Bool.false_eq_true, if_false] at hr ⊢
    obtain ⟨h1, h2⟩ := map_prod' hr
    exact ⟨h1, h2 σ⟩
  next k n =>
    simp only [hq, Bool.false_eq_true, if_false] at hr ⊢
    obtain ⟨h1, h2⟩ := map_prod' hr
    exact ⟨h1, h2 σ⟩
  next => simp at hr
  next => simp at hr

/-- Operations that turn nothing answer the same where there is more. -/
theorem quiet_sub {E : Env} {ρ : Operand → Value} {o : Oper} {s s' σ : St} {v : Value} (hs : Sub s σ) (hq : quietOp E o.op = true) (h : aVal E ρ o s = some (v, s')) : s' = s ∧ aVal E ρ o σ = some (v, σ) := by
  by_cases hp : pureOp o.op = true
  · obtain ⟨h1, h2⟩ := pure_any hp h
    exact ⟨h1, h2 σ⟩
  obtain ⟨dst, op, ty, pos, after, guard⟩ := o
  unfold aVal at h ⊢
  cases op <;> simp only [quietOp, Bool.false_eq_true, pureOp, not_true] at hq hp <;> simp only at h ⊢
  case load t a =>
    obtain ⟨h1, h2⟩ := map_prod h
    refine ⟨h2, ?_⟩
    have : aLoad E σ t (ρ a) = some v := by
      unfold aLoad at h1 ⊢
      split at h1
      next a' ha =>
        try simp only [ha]
        split at h1
        next => simp at h1
        next d hd =>
          split at h1
          next hagg =>
            rw [if_pos hagg]
            split at h1
            next => simp at h1
            next n hn =>
              simp only [Option.map_eq_some_iff] at h1 ⊢
              obtain ⟨l, hl, rfl⟩ := h1
              exact ⟨l, readN_sub hs hl, rfl⟩
          next hagg =>
            rw [if_neg hagg]
            split at h1
            next v' hv => rw [readN_sub hs hv]; exact h1
            next => simp at h1
      next => simp at h1
    rw [this]; rfl
  case convert src dst x => exact aConvert_sub hs (by simpa using hq) h
  case slice t x lo hi mx =>
    obtain ⟨h1, h2⟩ := map_prod h
    exact ⟨h2, by rw [aSlice_sub hs h1]; rfl⟩
  case lookup t x k ok =>
    obtain ⟨h1, h2⟩ := map_prod h
    refine ⟨h2, ?_⟩
    have : aLookup E σ t (ρ x) (ρ k) ok = some v := by
      unfold aLookup at h1 ⊢
      split at h1
      next kt et hd =>
        split at h1
        next d es z hkd hes hz =>
          rw [aEntries_sub hs hes]
          try simp only [hkd, hz]
          exact h1
        next => simp at h1
      next => simp at h1
    rw [this]; rfl
  case call c =>
    obtain ⟨callee, args, argTypes⟩ := c
    cases callee with
    | value f => simp at hq
    | invoke r m => simp at hq
    | builtin b =>
      simp only at h ⊢
      cases b <;> simp only [Bool.false_eq_true] at hq <;> unfold aBuiltin at h ⊢ <;> simp only at h ⊢
      case len =>
        split at h
        next x hx =>
          try simp only [hx]
          split at h
          next a n c =>
            split at h
            next t ht =>
              split at h
              next e hd => cases h; exact ⟨rfl, rfl⟩
              next => simp at h
            next => simp at h
          next f =>
            split at h
            next t es ht hg =>
              split at h
              next kt et hd => cases h; rw [hs _ _ hg]; simp [ht, hd]
              next => simp at h
            next => simp at h
          next =>
            split at h
            next hf => exact ⟨(map_prod' h).1, by rw [if_pos hf]; exact (map_prod' h).2 σ⟩
            next => simp at h
        all_goals simp_all
      case cap =>
        split at h
        next x hx => simp_all
        next x hx =>
          try simp only [hx]
          split at h
          next a n c =>
            split at h
            next t ht =>
              split at h
              next e hd =>
                split at h
                next => simp at h
                next hc => cases h; rw [if_neg hc]; exact ⟨rfl, rfl⟩
              next => simp at h
            next => simp at h
          next =>
            split at h
            next hf => exact ⟨(map_prod' h).1, by rw [if_pos hf]; exact (map_prod' h).2 σ⟩
            next => simp at h
        all_goals simp_all
      case min =>
        split at h
        next hf => exact ⟨(map_prod' h).1, by rw [if_pos hf]; exact (map_prod' h).2 σ⟩
        next => simp at h
      case max =>
        split at h
        next hf => exact ⟨(map_prod' h).1, by rw [if_pos hf]; exact (map_prod' h).2 σ⟩
        next => simp at h

end Go.Ai

/-
  THE SHORT RUN, 20: more tools for statements whose order is open.
-/
set_option linter.unusedSimpArgs false
set_option linter.unusedVariables false
set_option linter.unusedSectionVars false
namespace Go.Ai
open Go

/-! The bits of what stands ahead. -/
def bit (ops : Array Oper) (j i : Nat) : Bool := ((Region.before ops).getD j 0).testBit i

theorem fold_bits (acc : Array Nat) (i : Nat) : ∀ (l : List Edge) (s : Nat), (l.foldl (fun s e => if Region.binds .any e then s ||| 2 ^ e.on ||| acc.getD e.on 0 else s) s).testBit i = true →
    s.testBit i = true ∨ ∃ e ∈ l, Region.binds .any e = true ∧ (i = e.on ∨ (acc.getD e.on 0).testBit i = true) := by
  intro l
  induction l with
  | nil => intro s h; exact .inl h
  | cons e l ih =>
    intro s h
    simp only [List.foldl_cons] at h
    rcases ih _ h with h1 | ⟨e', h1, h2⟩
    · split at h1
      next hb =>
        simp only [Nat.testBit_or, Nat.testBit_two_pow, Bool.or_eq_true, decide_eq_true_eq] at h1
        rcases h1 with (h1 | h1) | h1
        · exact .inl h1
        · exact .inr ⟨e, by simp, hb, .inl h1.symm⟩
        · exact .inr ⟨e, by simp, hb, .inr h1⟩
      next => exact .inl h1
    · exact .inr ⟨e', by simp [h1], h2⟩

theorem before_bits (ops : Array Oper) (j i : Nat) (h : bit ops j i = true) : ∃ o, ops[j]? = some o ∧ ∃ e ∈ o.after, Region.binds .any e = true ∧ (i = e.on ∨ (e.on < j ∧ bit ops e.on i = true)) := by
  have key : ∀ (l : List Oper) (done : List Oper) (acc : Array Nat), ops.toList = done ++ l → acc.size = done.length →
      (∀ j, j < acc.size → ∀ i, (acc.getD j 0).testBit i = true → ∃ o, ops[j]? = some o ∧ ∃ e ∈ o.after, Region.binds .any e = true ∧ (i = e.on ∨ (e.on < j ∧ (acc.getD e.on 0).testBit i = true))) →
      ∀ j, ((l.foldl (fun acc o => acc.push (o.after.foldl (fun s e => if Region.binds .any e then s ||| 2 ^ e.on ||| acc.getD e.on 0 else s) 0)) acc).getD j 0).testBit i = true →
        ∃ o, ops[j]? = some o ∧ ∃ e ∈ o.after, Region.binds .any e = true ∧ (i = e.on ∨ (e.on < j ∧ ((l.foldl (fun acc o => acc.push (o.after.foldl (fun s e => if Region.binds .any e then s ||| 2 ^ e.on ||| acc.getD e.on 0 else s) 0)) acc).getD e.on 0).testBit i = true)) := by
    intro l
    induction l with
    | nil =>
      intro done acc hd hs hp j hj
      simp only [List.foldl_nil] at hj ⊢
      by_cases hlt : j < acc.size
      · exact hp j hlt i hj
      · simp [Array.getD, hlt] at hj
    | cons o l ih =>
      intro done acc hd hs hp j hj
      simp only [List.foldl_cons] at hj ⊢
      refine ih (done ++ [o]) _ (by simp [hd]) (by simp [hs]) ?_ j hj
      intro j' hj' i' hb
      have hget : ∀ k, k < acc.size → ∀ x, (acc.push x).getD k 0 = acc.getD k 0 := by
        intro k hk x
        simp [Array.getD, hk, Array.getElem_push, Nat.lt_succ_of_lt hk]
      simp only [Array.size_push] at hj'
      by_cases hlt : j' < acc.size
      · rw [hget j' hlt] at hb
        obtain ⟨o', h1, e, h2, h3, h4⟩ := hp j' hlt i' hb
        refine ⟨o', h1, e, h2, h3, ?_⟩
        rcases h4 with h4 | ⟨h4, h5⟩
        · exact .inl h4
        · exact .inr ⟨h4, by rw [hget _ (by omega)]; exact h5⟩
      · have hje : j' = acc.size := by omega
        subst hje
        have hlast : ∀ x, (acc.push x).getD acc.size 0 = x := by intro x; simp [Array.getD]
        rw [hlast] at hb
        have hoj : ops[acc.size]? = some o := by
          rw [← Array.getElem?_toList, hd, hs]
          simp
        refine ⟨o, hoj, ?_⟩
        rw [← Array.foldl_toList] at hb
        rcases fold_bits acc i' _ 0 hb with h1 | ⟨e, h1, h2, h3⟩
        · simp at h1
        · refine ⟨e, by simpa using h1, h2, ?_⟩
          rcases h3 with h3 | h3
          · exact .inl h3
          · by_cases he : e.on < acc.size
            · exact .inr ⟨he, by rw [hget _ he]; exact h3⟩
            · simp [Array.getD, he] at h3
  have := key ops.toList [] #[] rfl rfl (by simp) j (by
    unfold bit Region.before at h
    rw [← Array.foldl_toList] at h
    exact h)
  unfold bit Region.before
  rw [← Array.foldl_toList]
  exact this

/-! Memory of part of the numbers. -/
def only (p : Nat → Bool) (φ : Phi) : Phi := fun f e => if p f then φ f e else none

theorem only_some {p : Nat → Bool} {φ : Phi} {f e : Nat} {k : Blk} (h : only p φ f e = some k) : φ f e = some k ∧ p f = true := by
  unfold only at h
  split at h
  · exact ⟨h, by assumption⟩
  · simp at h

theorem only_of {p : Nat → Bool} {φ : Phi} {f e : Nat} {k : Blk} (h : φ f e = some k) (hp : p f = true) : only p φ f e = some k := by simp [only, hp, h]

/-- Values that name numbers of the part alone. -/
theorem V.only {B : Nat} {φ ψ : Phi} {p : Nat → Bool} (hp : ∀ f e k, ψ f e = some k → p f = true) {x y : Value} (h : V B ψ x y) : ∀ {z : Value}, V B φ x z → V B (only p φ) x z := by
  induction h with
  | bool b => intro z h; cases h; exact .bool b
  | int k n => intro z h; cases h; exact .int k n
  | float k b => intro z h; cases h; exact .float k b
  | complex k a b => intro z h; cases h; exact .complex k a b
  | string s => intro z h; cases h; exact .string s
  | nilFunc => intro z h; cases h; exact .nilFunc
  | nilIface => intro z h; cases h; exact .nilIface
  | pnil => intro z h; cases h; exact .pnil
  | pold a hb hs =>
    intro z h
    cases h with
    | pold _ h1 h2 => exact .pold a h1 h2
    | pnew f off e k hk hb' => simp at hs
  | pnew f off e k hk hb =>
    intro z h
    cases h with
    | pold _ h1 h2 => simp at h2
    | pnew _ _ _ k' hk' hb' => exact .pnew f off e k' (only_of hk' (hp _ _ _ hk)) hb'
  | snil l c => intro z h; cases h; exact .snil l c
  | sold a l c hb hs =>
    intro z h
    cases h with
    | sold _ _ _ h1 h2 => exact .sold a l c h1 h2
    | _ => simp at hs
  | snew f off e l k hk hb hz hl hd =>
    intro z h
    cases h with
    | sold _ _ _ h1 h2 => simp at h2
    | snew _ _ _ _ k' hk' h2 h3 h4 h5 => exact .snew f off e l k' (only_of hk' (hp _ _ _ hk)) h2 h3 h4 h5
    | sfix _ _ _ _ _ k' hk' h2 h3 => exact .sfix f off e l _ k' (only_of hk' (hp _ _ _ hk)) h2 h3
    | snone _ _ _ o k' hk' h2 h3 h4 h5 => exact .snone f off e o k' (only_of hk' (hp _ _ _ hk)) h2 h3 h4 h5
  | sfix f off e l c k hk hb hc =>
    intro z h
    cases h with
    | sold _ _ _ h1 h2 => simp at h2
    | snew _ _ _ _ k' hk' h2 h3 h4 h5 => exact .snew f off e l k' (only_of hk' (hp _ _ _ hk)) h2 h3 h4 h5
    | sfix _ _ _ _ _ k' hk' h2 h3 => exact .sfix f off e l _ k' (only_of hk' (hp _ _ _ hk)) h2 h3
    | snone _ _ _ o k' hk' h2 h3 h4 h5 => exact .snone f off e o k' (only_of hk' (hp _ _ _ hk)) h2 h3 h4 h5
  | snone f off e o k hk hb hz hl hd =>
    intro z h
    cases h with
    | sold _ _ _ h1 h2 => simp at h2
    | snew _ _ _ _ k' hk' h2 h3 h4 h5 => exact .snew f off e _ k' (only_of hk' (hp _ _ _ hk)) h2 h3 h4 h5
    | sfix _ _ _ _ _ k' hk' h2 h3 => exact .sfix f off e _ _ k' (only_of hk' (hp _ _ _ hk)) h2 h3
    | snone _ _ _ o k' hk' h2 h3 h4 h5 => exact .snone f off e o k' (only_of hk' (hp _ _ _ hk)) h2 h3 h4 h5
  | mnil => intro z h; cases h; exact .mnil
  | mnew f k hk => intro z h; cases h with | mnew _ k' hk' => exact .mnew f k' (only_of hk' (hp _ _ _ hk))
  | cnil => intro z h; cases h; exact .cnil
  | iface t _ ih => intro z h; cases h with | iface _ h' => exact .iface t (ih h')
  | func fn hs hi hs' hi' ih ih' =>
    intro z h
    cases h with
    | func _ h1 h2 h3 h4 =>
      refine .func fn h1 (fun i x y hx hy => ?_) h3 (fun i x y hx hy => ?_)
      · have hlt := (Array.getElem?_eq_some_iff.1 hx).1
        exact ih i x _ hx (Array.getElem?_eq_getElem (by rw [← hs]; exact hlt)) (h2 i x y hx hy)
      · have hlt := (Array.getElem?_eq_some_iff.1 hx).1
        exact ih' i x _ hx (Array.getElem?_eq_getElem (by rw [← hs']; exact hlt)) (h4 i x y hx hy)
  | agg hs hi ih =>
    intro z h
    cases h with
    | agg h1 h2 =>
      refine .agg h1 (fun i x y hx hy => ?_)
      have hlt := (Array.getElem?_eq_some_iff.1 hx).1
      exact ih i x _ hx (Array.getElem?_eq_getElem (by rw [← hs]; exact hlt)) (h2 i x y hx hy)
  | tuple hs hi ih =>
    intro z h
    cases h with
    | tuple h1 h2 =>
      refine .tuple h1 (fun i x y hx hy => ?_)
      have hlt := (Array.getElem?_eq_some_iff.1 hx).1
      exact ih i x _ hx (Array.getElem?_eq_getElem (by rw [← hs]; exact hlt)) (h2 i x y hx hy)

theorem R.congr {B : Nat} {w₀ : World} {φ : Phi} {g g' : Nat → Option AObj} {w : World} (h : R B w₀ φ g w) (hg : ∀ f e k, φ f e = some k → g' f = g f) : R B w₀ φ g' w :=
  h.sub (fun f e k hk => ⟨hk, hg f e k hk⟩) (fun _ _ _ _ _ _ _ _ _ _ _ _ _ h => h) (fun _ _ _ _ _ _ _ _ _ h => h)

end Go.Ai

/-
  THE SHORT RUN, 21: statements whose order is open: memory that later operations have added to; the run in the text's order.
-/
set_option linter.unusedSimpArgs false
set_option linter.unusedVariables false
set_option linter.unusedSectionVars false
namespace Go.Ai
open Go

theorem Tr.all_get {α : Type} {p : α → Bool} : ∀ {t : Tr α} {n : Nat} {o : α}, t.all p = true → t.get n = some o → p o = true := by
  intro t
  induction t with
  | nil => intro n o _ h; simp [Tr.get] at h
  | node l v r ihl ihr =>
    intro n o h hg
    simp only [Tr.all, Bool.and_eq_true] at h
    cases n with
    | zero =>
      simp only [Tr.get] at hg
      subst hg
      exact h.1.2
    | succ n =>
      simp only [Tr.get] at hg
      split at hg
      · exact ihl h.1.1 hg
      · exact ihr h.2 hg

theorem underL_iff {n : Nat} (l : List Value) : underL n l = true ↔ ∀ x ∈ l, under n x = true := by
  induction l with
  | nil => simp [underL]
  | cons v l ih => simp [underL, ih]

def low (n : Nat) (φ : Phi) : Phi := only (fun f => decide (f < n)) φ

theorem low_some {n : Nat} {φ : Phi} {f e : Nat} {k : Blk} (h : low n φ f e = some k) : φ f e = some k ∧ f < n := by
  have := only_some h
  exact ⟨this.1, by simpa using this.2⟩

theorem low_of {n : Nat} {φ : Phi} {f e : Nat} {k : Blk} (h : φ f e = some k) (hn : f < n) : low n φ f e = some k := only_of h (by simpa using hn)

theorem V.cut_low {B : Nat} {φ : Phi} {n : Nat} {x y : Value} (h : V B φ x y) : under n x = true → V B (low n φ) x y := by
  have arr : ∀ {xs : Array Value}, underL n xs.toList = true → ∀ (i : Nat) (x : Value), xs[i]? = some x → under n x = true := by
    intro xs h i x hx
    exact (underL_iff _).1 h x (by simpa using Array.mem_of_getElem? hx)
  induction h with
  | bool b => intro _; exact .bool b
  | int k m => intro _; exact .int k m
  | float k b => intro _; exact .float k b
  | complex k a b => intro _; exact .complex k a b
  | string s => intro _; exact .string s
  | nilFunc => intro _; exact .nilFunc
  | nilIface => intro _; exact .nilIface
  | pnil => intro _; exact .pnil
  | pold a hb hs => intro _; exact .pold a hb hs
  | pnew f off e k hk hb => intro h; exact .pnew f off e k (low_of hk (by simpa [under] using h)) hb
  | snil l c => intro _; exact .snil l c
  | sold a l c hb hs => intro _; exact .sold a l c hb hs
  | snew f off e l k hk hb hz hl hd => intro h; exact .snew f off e l k (low_of hk (by simpa [under] using h)) hb hz hl hd
  | sfix f off e l c k hk hb hc => intro h; exact .sfix f off e l c k (low_of hk (by simpa [under] using h)) hb hc
  | snone f off e o k hk hb hz hl hd => intro h; exact .snone f off e o k (low_of hk (by simpa [under] using h)) hb hz hl hd
  | mnil => intro _; exact .mnil
  | mnew f k hk => intro h; exact .mnew f k (low_of hk (by simpa [under] using h))
  | cnil => intro _; exact .cnil
  | iface t _ ih => intro h; exact .iface t (ih (by simpa [under] using h))
  | func fn hs hi hs' hi' ih ih' =>
    rename_i xs ys zs us
    intro h
    obtain ⟨xs⟩ := xs
    obtain ⟨zs⟩ := zs
    simp only [under, Bool.and_eq_true] at h
    exact .func fn hs (fun i x y hx hy => ih i x y hx hy (arr (xs := ⟨xs⟩) h.1 i x hx)) hs' (fun i x y hx hy => ih' i x y hx hy (arr (xs := ⟨zs⟩) h.2 i x hx))
  | agg hs hi ih =>
    rename_i xs ys
    intro h
    obtain ⟨xs⟩ := xs
    simp only [under] at h
    exact .agg hs (fun i x y hx hy => ih i x y hx hy (arr (xs := ⟨xs⟩) h i x hx))
  | tuple hs hi ih =>
    rename_i xs ys
    intro h
    obtain ⟨xs⟩ := xs
    simp only [under] at h
    exact .tuple hs (fun i x y hx hy => ih i x y hx hy (arr (xs := ⟨xs⟩) h i x hx))

/-- Memory as it is known to what stands ahead. -/
theorem R.cut_low {B : Nat} {w₀ : World} {φ : Phi} {g : Nat → Option AObj} {s : St} {w : World} (h : R B w₀ φ g w) (hg : ∀ f, f < s.next → g f = s.get f)
    (hk : (∀ f e b, φ f e = some b → f < s.next) ∨ underSt s = true) : R B w₀ (low s.next φ) s.get w := by
  refine h.sub (fun f e k hk' => ⟨(low_some hk').1, (hg f (low_some hk').2).symm⟩) ?_ ?_
  · intro f e k cells esz ep lw hist hk' hgf x hx v hv
    rcases hk with hk | hk
    · exact hv.mono fun f e k h => low_of h (hk _ _ _ h)
    · rw [hg f (low_some hk').2] at hgf
      have := Tr.all_get hk hgf
      simp only [underO] at this
      exact hv.cut_low ((underL_iff _).1 this x hx)
  · intro f e k es hk' hgf x hx v hv
    rcases hk with hk | hk
    · exact hv.mono fun f e k h => low_of h (hk _ _ _ h)
    · rw [hg f (low_some hk').2] at hgf
      have := Tr.all_get hk hgf
      simp only [underO, List.all_eq_true] at this
      exact hv.cut_low (this x hx)

def joined (n : Nat) (φ' φ : Phi) : Phi := fun f e => if f < n then φ' f e else φ f e

/-- What a step from part of memory comes to, with the other part beside it. -/
theorem R.join_low {B : Nat} {w₀ : World} {φ φ' : Phi} {g : Nat → Option AObj} {s s' : St} {w w' : World} (h : R B w₀ φ g w) (hs : Step s.next (low s.next φ) w φ' w') (h' : R B w₀ φ' s'.get w')
    (hF : s'.Fresh) (hn : s.next ≤ s'.next) (hgap : ∀ f e b, φ f e = some b → f < s.next ∨ s'.next ≤ f) :
    Step s.next φ w (joined s'.next φ' φ) w' ∧ R B w₀ (joined s'.next φ' φ) (fun f => if f < s'.next then s'.get f else g f) w' ∧ (∀ f e b, φ' f e = some b → joined s'.next φ' φ f e = some b) := by
  have hlt : ∀ f e b, φ' f e = some b → f < s'.next := fun f e b hb => hF.lt (h'.dom _ _ _ hb)
  have h1 : ∀ f e b, φ' f e = some b → joined s'.next φ' φ f e = some b := fun f e b hb => by
    unfold joined; rw [if_pos (hlt _ _ _ hb)]; exact hb
  have h2 : ∀ f e b, φ f e = some b → joined s'.next φ' φ f e = some b := fun f e b hb => by
    unfold joined
    split
    next hl =>
      rcases hgap _ _ _ hb with h3 | h3
      · exact hs.ext _ _ _ (low_of hb h3)
      · omega
    next => exact hb
  have h3 : ∀ f e b, joined s'.next φ' φ f e = some b → (φ' f e = some b ∧ f < s'.next) ∨ (φ f e = some b ∧ s'.next ≤ f) := fun f e b hb => by
    unfold joined at hb
    split at hb
    next hl => exact .inl ⟨hb, hl⟩
    next hl => exact .inr ⟨hb, by omega⟩
  have hkeep : ∀ f e b, φ f e = some b → s'.next ≤ f → w'.heap[b.b]? = w.heap[b.b]? := by
    intro f e b hb hl
    refine hs.frame _ (h.lo _ _ _ hb).2 fun f₀ e₀ k₀ hk he => ?_
    have := h.inj _ _ _ _ _ _ (low_some hk).1 hb he
    have := (low_some hk).2
    omega
  have hmix : ∀ f e b f' e' b', φ' f e = some b → f < s'.next → φ f' e' = some b' → s'.next ≤ f' → b.b ≠ b'.b := by
    intro f e b f' e' b' hb hl hb' hl' he
    rcases hs.new _ _ _ hb with h4 | h4 | ⟨e₀, k₀, h4, h5⟩
    · have := h.inj _ _ _ _ _ _ (low_some h4).1 hb' he
      omega
    · have := (h.lo _ _ _ hb').2
      omega
    · have := h.inj _ _ _ _ _ _ (low_some h4).1 hb' (h5.trans he)
      omega
  refine ⟨⟨h2, ?_, ?_, hs.size, hs.os, hs.tape, hs.output, ?_⟩, ⟨?_, ?_, ?_, ?_, ?_, ?_, h'.old, h'.size, ?_⟩, h1⟩
  · intro f e b hb
    rcases h3 _ _ _ hb with ⟨h4, h5⟩ | ⟨h4, h5⟩
    · rcases hs.new _ _ _ h4 with h6 | h6 | ⟨e₀, k₀, h6, h7⟩
      · exact .inl (low_some h6).1
      · exact .inr (.inl h6)
      · exact .inr (.inr ⟨e₀, k₀, (low_some h6).1, h7⟩)
    · exact .inl h4
  · intro b hb hn'
    exact hs.frame b hb fun f e k hk => hn' f e k (low_some hk).1
  · intro f e b hb
    rcases h3 _ _ _ hb with ⟨h4, h5⟩ | ⟨h4, h5⟩
    · rcases hs.fam _ _ _ h4 with ⟨e₀, k₀, h6⟩ | h6
      · exact .inl ⟨_, _, (low_some h6).1⟩
      · exact .inr h6
    · exact .inl ⟨_, _, h4⟩
  · intro f e b hb
    show (if f < s'.next then s'.get f else g f).isSome = true
    rcases h3 _ _ _ hb with ⟨h4, h5⟩ | ⟨h4, h5⟩
    · rw [if_pos h5]; exact h'.dom _ _ _ h4
    · rw [if_neg (by omega)]; exact h.dom _ _ _ h4
  · intro f e b hb
    rcases h3 _ _ _ hb with ⟨h4, h5⟩ | ⟨h4, h5⟩
    · exact h'.lo _ _ _ h4
    · have := h.lo _ _ _ h4
      have := hs.size
      omega
  · intro f e b f' e' b' hb hb' he
    rcases h3 _ _ _ hb with ⟨h4, h5⟩ | ⟨h4, h5⟩ <;> rcases h3 _ _ _ hb' with ⟨h6, h7⟩ | ⟨h6, h7⟩
    · exact h'.inj _ _ _ _ _ _ h4 h6 he
    · exact absurd he (hmix _ _ _ _ _ _ h4 h5 h6 h7)
    · exact absurd he.symm (hmix _ _ _ _ _ _ h6 h7 h4 h5)
    · exact h.inj _ _ _ _ _ _ h4 h6 he
  · intro f e b cells esz ep lw hist hg hb
    rcases h3 _ _ _ hb with ⟨h4, h5⟩ | ⟨h4, h5⟩
    · rw [if_pos h5] at hg
      obtain ⟨a1, a2, a3⟩ := h'.row _ _ _ _ _ _ _ _ hg h4
      exact ⟨a1, a2, fun hl => (a3 hl).congr h1 rfl⟩
    · rw [if_neg (by omega)] at hg
      obtain ⟨a1, a2, a3⟩ := h.row _ _ _ _ _ _ _ _ hg h4
      exact ⟨a1, a2, fun hl => (a3 hl).congr h2 (hkeep _ _ _ h4 h5)⟩
  · intro f e b es hg hb
    rcases h3 _ _ _ hb with ⟨h4, h5⟩ | ⟨h4, h5⟩
    · rw [if_pos h5] at hg
      exact (h'.map _ _ _ _ hg h4).congr h1 rfl
    · rw [if_neg (by omega)] at hg
      exact (h.map _ _ _ _ hg h4).congr h2 (hkeep _ _ _ h4 h5)
  · intro f e b s₁ p hg hb
    rcases h3 _ _ _ hb with ⟨h4, h5⟩ | ⟨h4, h5⟩
    · rw [if_pos h5] at hg
      exact h'.iter _ _ _ _ _ hg h4
    · rw [if_neg (by omega)] at hg
      rw [hkeep _ _ _ h4 h5]
      exact h.iter _ _ _ _ _ hg h4
  · intro f e b hb hg
    rcases h3 _ _ _ hb with ⟨h4, h5⟩ | ⟨h4, h5⟩
    · rw [if_pos h5] at hg
      exact h'.one _ _ _ h4 hg
    · rw [if_neg (by omega)] at hg
      exact h.one _ _ _ h4 hg

/-! The run in the text's order. -/
def stAt (ents : List Ent) (sN : St) (i : Nat) : St := match ents[i]? with | some x => x.s | none => sN
def acAt (ents : List Ent) (aN : AAct) (i : Nat) : AAct := match ents[i]? with | some x => x.a | none => aN

theorem stAt_cons {x : Ent} {l : List Ent} {sN : St} {i : Nat} : stAt (x :: l) sN (i + 1) = stAt l sN i := by simp [stAt]
theorem acAt_cons {x : Ent} {l : List Ent} {aN : AAct} {i : Nat} : acAt (x :: l) aN (i + 1) = acAt l aN i := by simp [acAt]

/-- An operation that looks at no memory, as it ran. -/
def Plainly (E : Env) (x : Ent) : Prop :=
  (quietOp E x.o.op = true ∧ ∀ σ, aVal E x.a.eval x.o σ = some (x.v, σ)) ∨
  ∃ f args ats g first captured F, x.o.op = .call { callee := .value f, args := args, argTypes := ats } ∧ x.a.eval f = .func (.func g) first captured ∧ E.known g = some F ∧
    F (first.toList ++ args.toList.map x.a.eval ++ captured.toList) = some (true, x.v)

/-- What is known of an operation as it ran. 'n': its place. -/
structure EntOk (E : Env) (call : Caller) (ops : Array Oper) (x : Ent) (n : Nat) (s1 : St) (a1 : AAct) (pn : Option (Nat × Value × St)) : Prop where
  act : a1 = x.a.put x.o.dst x.v
  cls : x.cls ≤ 5
  clean : x.ran = true → Go.Ai.clean x.a.eval x.o.op = true
  went : x.cls ≠ 5 → x.ran = aWanted ops x.a.tmps x.o
  none : x.ran = false → x.v = undef ∧ s1 = x.s ∧ (x.cls = 0 ∨ x.cls = 5)
  pure : x.cls = 0 → x.ran = true → s1 = x.s ∧ Plainly E x
  look : x.cls = 1 → x.ran = true ∧ s1 = x.s ∧ quietOp E x.o.op = true ∧ aVal E x.a.eval x.o x.s = some (x.v, x.s)
  make : x.cls = 2 → x.ran = true ∧ x.s' = s1 ∧ allocOp E x.o.op = true ∧ aVal E x.a.eval x.o x.s = some (x.v, s1)
  does : x.cls = 3 → x.ran = true ∧ x.s' = s1 ∧ aOp E call x.a.eval x.o x.s = some (.val x.v s1)
  pan : x.cls = 4 → x.ran = true ∧ s1 = x.s ∧ x.v = undef ∧ ∃ v s', aOp E call x.a.eval x.o x.s = some (.pan v s') ∧ pn = some (n, v, s')
  dead : x.cls = 5 → x.ran = false ∧ ∃ p v s', pn = some (p, v, s') ∧ bit ops n p = true
  early : (x.cls = 2 ∨ x.cls = 3) → ∀ p v s', pn = some (p, v, s') → n < p

theorem aOp_plain {E : Env} {call : Caller} {ρ : Operand → Value} {o : Oper} {s : St} (hcl : clean ρ o.op = true) (h : quietOp E o.op = true ∨ allocOp E o.op = true) :
    aOp E call ρ o s = match aVal E ρ o s with | some (v, s') => some (.val v s') | none => none := by
  unfold aOp
  rw [if_pos hcl]
  clear hcl
  obtain ⟨dst, op, ty, pos, after, guard⟩ := o
  cases op <;> simp only [quietOp, allocOp, Bool.false_eq_true, or_self, or_false, false_or] at h <;> simp only [aOpC]
  all_goals try rfl
  case call c =>
    obtain ⟨callee, args, ats⟩ := c
    cases callee with
    | value f => simp at h
    | invoke r m => simp at h
    | builtin b => cases b <;> simp at h <;> simp only [aOpC] <;> rfl

theorem Plainly.any {E : Env} {call : Caller} {x : Ent} (hcl : clean x.a.eval x.o.op = true) (h : Plainly E x) (σ : St) : aOp E call x.a.eval x.o σ = some (.val x.v σ) := by
  rcases h with ⟨h1, h2⟩ | ⟨f, args, ats, g, first, captured, F, h1, h2, h3, h4⟩
  · rw [aOp_plain hcl (.inl h1), h2 σ]
  · unfold aOp
    rw [if_pos hcl]
    unfold aOpC
    simp only [h1, h2, aCall, h3, h4]

theorem pureOp_quiet {E : Env} {o : Op} (h : pureOp o = true) : quietOp E o = true := by
  cases o <;> simp only [pureOp, Bool.false_eq_true] at h <;> simp only [quietOp]

theorem clsOf_spec (E : Env) (ρ : Operand → Value) (o : Op) : (clsOf E ρ o = 0 → pureOp o = true ∨ ∃ f args ats g first captured F, o = .call { callee := .value f, args := args, argTypes := ats } ∧ ρ f = .func (.func g) first captured ∧ E.known g = some F) ∧
    (clsOf E ρ o = 1 → quietOp E o = true) ∧ (clsOf E ρ o = 2 → allocOp E o = true) ∧ clsOf E ρ o ≤ 3 ∧ (quietOp E o = true → clsOf E ρ o ≤ 1) := by
  unfold clsOf
  by_cases h1 : pureOp o = true
  · simp [h1]
  rw [if_neg h1]
  by_cases h2 : quietOp E o = true
  · simp [h2]
  rw [if_neg h2]
  by_cases h3 : allocOp E o = true
  · simp [h2, h3]
  rw [if_neg h3]
  cases o <;> simp [h2]
  case call c =>
    obtain ⟨callee, args, ats⟩ := c
    cases callee with
    | value f =>
      simp only
      cases hf : ρ f with
      | func fn first captured =>
        cases fn with
        | func g =>
          simp only
          cases hk : E.known g with
          | some F => simp [h2, hk, hf]
          | none => simp [h2]
        | _ => simp [h2]
      | _ => simp [h2]
    | _ => simp [h2]


theorem trace_spec {E : Env} {call : Caller} {ops : Array Oper} : ∀ (l : List Oper) (i : Nat) (pn : Option (Nat × Value × St)) (a : AAct) (s : St) (ents : List Ent) (pn' : Option (Nat × Value × St)) (aN : AAct) (sN : St),
    trace E call ops (Region.before ops) l i pn a s = some (ents, pn', aN, sN) →
      ents.length = l.length ∧ stAt ents sN 0 = s ∧ acAt ents aN 0 = a ∧ (∀ q, pn = some q → pn' = some q) ∧ (pn' = pn ∨ (pn = none ∧ ∃ (j : Nat) (x : Ent), ents[j]? = some x ∧ x.cls = 4)) ∧
      ∀ (j : Nat) (x : Ent), ents[j]? = some x → l[j]? = some x.o ∧ x.s = stAt ents sN j ∧ x.a = acAt ents aN j ∧ EntOk E call ops x (i + j) (stAt ents sN (j + 1)) (acAt ents aN (j + 1)) pn' ∧ ((∃ q, pn = some q) → x.cls ≠ 2 ∧ x.cls ≠ 3 ∧ x.cls ≠ 4) := by
  intro l
  induction l with
  | nil =>
    intro i pn a s ents pn' aN sN h
    simp only [trace, Option.some.injEq, Prod.mk.injEq] at h
    obtain ⟨rfl, rfl, rfl, rfl⟩ := h
    exact ⟨rfl, rfl, rfl, fun q hq => hq, .inl rfl, fun j x hx => by simp at hx⟩
  | cons o rest ih =>
    intro i pn a s ents pn' aN sN h
    -- one entry ahead of the others
    have step : ∀ (x : Ent) (es : List Ent) (pn₁ : Option (Nat × Value × St)) (s₁ : St) (a₁ : AAct), ents = x :: es → x.o = o → x.a = a → x.s = s → trace E call ops (Region.before ops) rest (i + 1) pn₁ a₁ s₁ = some (es, pn', aN, sN) →
        (∀ q, pn = some q → pn₁ = some q) → (pn₁ = pn ∨ (pn = none ∧ x.cls = 4)) → ((∀ q, pn₁ = some q → pn' = some q) → (x.cls ≠ 4 → pn₁ = none → ∀ p v s', pn' = some (p, v, s') → i < p) → EntOk E call ops x i s₁ a₁ pn') → ((∃ q, pn = some q) → x.cls ≠ 2 ∧ x.cls ≠ 3 ∧ x.cls ≠ 4) →
        ents.length = (o :: rest).length ∧ stAt ents sN 0 = s ∧ acAt ents aN 0 = a ∧ (∀ q, pn = some q → pn' = some q) ∧ (pn' = pn ∨ (pn = none ∧ ∃ (j : Nat) (x : Ent), ents[j]? = some x ∧ x.cls = 4)) ∧
        ∀ (j : Nat) (x : Ent), ents[j]? = some x → (o :: rest)[j]? = some x.o ∧ x.s = stAt ents sN j ∧ x.a = acAt ents aN j ∧ EntOk E call ops x (i + j) (stAt ents sN (j + 1)) (acAt ents aN (j + 1)) pn' ∧ ((∃ q, pn = some q) → x.cls ≠ 2 ∧ x.cls ≠ 3 ∧ x.cls ≠ 4) := by
      intro x es pn₁ s₁ a₁ he ho ha hs ht hp hp' hk hlate
      subst he
      obtain ⟨h1, h2, h3, h4, h5, h6⟩ := ih _ _ _ _ _ _ _ _ ht
      have hearly : pn₁ = none → ∀ p v s', pn' = some (p, v, s') → i < p := by
        intro hn p v s' hpp
        rcases h5 with h5 | ⟨_, j, y, hy, hyc⟩
        · rw [h5, hn] at hpp; simp at hpp
        · obtain ⟨_, _, _, hyk, _⟩ := h6 j y hy
          obtain ⟨_, _, _, v', s'', _, hpn⟩ := hyk.pan hyc
          rw [hpn] at hpp
          simp only [Option.some.injEq, Prod.mk.injEq] at hpp
          omega
      have hx := hk h4 (fun _ => hearly)
      refine ⟨by simp [h1], by simp [stAt, hs], by simp [acAt, ha], fun q hq => h4 _ (hp q hq), ?_, fun j y hy => ?_⟩
      · rcases h5 with h5 | ⟨h5, j, y, hy, hyc⟩
        · rcases hp' with hp' | ⟨hp', hc⟩
          · exact .inl (h5.trans hp')
          · exact .inr ⟨hp', 0, x, rfl, hc⟩
        · rcases hp' with hp' | ⟨hp', hc⟩
          · exact .inr ⟨hp' ▸ h5, j + 1, y, by simpa using hy, hyc⟩
          · exact .inr ⟨hp', 0, x, rfl, hc⟩
      · cases j with
        | zero =>
          simp only [List.getElem?_cons_zero, Option.some.injEq] at hy
          subst hy
          refine ⟨by simp [ho], by simp [stAt], by simp [acAt], ?_, hlate⟩
          rw [stAt_cons, acAt_cons, h2, h3]
          exact hx
        | succ j =>
          simp only [List.getElem?_cons_succ] at hy ⊢
          obtain ⟨g1, g2, g3, g4, g5⟩ := h6 j y hy
          rw [stAt_cons, acAt_cons, stAt_cons, acAt_cons, show i + (j + 1) = i + 1 + j by omega]
          exact ⟨g1, g2, g3, g4, fun ⟨q, hq⟩ => g5 ⟨q, hp q hq⟩⟩
    cases pn with
    | none =>
      simp only [trace] at h
      split at h
      next hw =>
        split at h
        next v s₁ hop =>
          split at h
          next es r ht =>
            obtain ⟨r1, r2, r3⟩ := r
            simp only [Option.some.injEq, Prod.mk.injEq] at h
            obtain ⟨rfl, rfl, rfl, rfl⟩ := h
            refine step _ es _ s₁ _ rfl rfl rfl rfl ht (fun q hq => hq) (.inl rfl) (fun hq he => ?_) (by rintro ⟨q, hq⟩; simp at hq)
            obtain ⟨c0, c1, c2, c3, c4⟩ := clsOf_spec E a.eval o.op
            have hne : clsOf E a.eval o.op ≠ 4 := by omega
            refine ⟨rfl, by simp only; omega, fun _ => (aOp_clean hop).1, fun _ => by simp only [hw], by simp, ?_, ?_, ?_, ?_, fun h => by simp only at h; omega, fun h => by simp only at h; omega, fun _ => he hne rfl⟩
            · intro h0 _
              simp only at h0
              rcases c0 h0 with hp | ⟨f, args, ats, g, first, captured, F, ho, hf, hk⟩
              · rw [aOp_plain (aOp_clean hop).1 (.inl (pureOp_quiet hp))] at hop
                cases hv : aVal E a.eval o s with
                | none => simp [hv] at hop
                | some z =>
                  obtain ⟨v', s'⟩ := z
                  simp only [hv, Option.some.injEq, Rs.val.injEq] at hop
                  obtain ⟨rfl, rfl⟩ := hop
                  obtain ⟨g1, g2⟩ := pure_any hp hv
                  exact ⟨g1, .inl ⟨pureOp_quiet hp, g2⟩⟩
              · have hop' := (aOp_clean hop).2
                unfold aOpC at hop'
                simp only [ho, hf, aCall, hk] at hop'
                split at hop'
                case h_2 => simp at hop'
                rename_i v' hv'
                simp only [Option.some.injEq, Rs.val.injEq] at hop'
                obtain ⟨rfl, rfl⟩ := hop'
                exact ⟨rfl, .inr ⟨f, args, ats, g, first, captured, F, ho, hf, hk, hv'⟩⟩
            · intro h1
              simp only at h1
              have hqt := c1 h1
              rw [aOp_plain (aOp_clean hop).1 (.inl hqt)] at hop
              cases hv : aVal E a.eval o s with
              | none => simp [hv] at hop
              | some z =>
                obtain ⟨v', s'⟩ := z
                simp only [hv, Option.some.injEq, Rs.val.injEq] at hop
                obtain ⟨rfl, rfl⟩ := hop
                obtain ⟨g1, g2⟩ := quiet_sub (σ := s) (fun _ _ h => h) hqt hv
                subst g1
                exact ⟨rfl, rfl, hqt, rfl⟩
            · intro h1
              simp only at h1
              have hal := c2 h1
              rw [aOp_plain (aOp_clean hop).1 (.inr hal)] at hop
              cases hv : aVal E a.eval o s with
              | none => simp [hv] at hop
              | some z =>
                obtain ⟨v', s'⟩ := z
                simp only [hv, Option.some.injEq, Rs.val.injEq] at hop
                obtain ⟨rfl, rfl⟩ := hop
                exact ⟨rfl, rfl, hal, rfl⟩
            · intro h1
              exact ⟨rfl, rfl, hop⟩
          next => simp at h
        next v s₁ hop =>
          split at h
          next es r ht =>
            obtain ⟨r1, r2, r3⟩ := r
            simp only [Option.some.injEq, Prod.mk.injEq] at h
            obtain ⟨rfl, rfl, rfl, rfl⟩ := h
            refine step _ es _ s _ rfl rfl rfl rfl ht (by simp) (.inr ⟨rfl, rfl⟩) (fun hq he => ?_) (by rintro ⟨q, hq⟩; simp at hq)
            exact ⟨rfl, by simp, fun _ => (aOp_clean hop).1, fun _ => by simp only [hw], by simp, by simp, by simp, by simp, by simp, fun _ => ⟨rfl, rfl, rfl, v, s₁, hop, hq _ rfl⟩, by simp, by simp⟩
          next => simp at h
        next => simp at h
      next hw =>
        split at h
        next es r ht =>
          obtain ⟨r1, r2, r3⟩ := r
          simp only [Option.some.injEq, Prod.mk.injEq] at h
          obtain ⟨rfl, rfl, rfl, rfl⟩ := h
          refine step _ es _ s _ rfl rfl rfl rfl ht (fun q hq => hq) (.inl rfl) (fun hq he => ?_) (by rintro ⟨q, hq⟩; simp at hq)
          exact ⟨rfl, by simp, by simp, fun _ => by simp only; simpa using hw, fun _ => ⟨rfl, rfl, .inl rfl⟩, by simp, by simp, by simp, by simp, by simp, by simp, by simp⟩
        next => simp at h
    | some q =>
      obtain ⟨p, pv, ps⟩ := q
      simp only [trace] at h
      split at h
      next hb =>
        split at h
        next es r ht =>
          obtain ⟨r1, r2, r3⟩ := r
          simp only [Option.some.injEq, Prod.mk.injEq] at h
          obtain ⟨rfl, rfl, rfl, rfl⟩ := h
          refine step _ es _ s _ rfl rfl rfl rfl ht (fun q hq => hq) (.inl rfl) (fun hq he => ?_) (fun _ => by simp)
          exact ⟨rfl, by simp, by simp, by simp, fun _ => ⟨rfl, rfl, .inr rfl⟩, by simp, by simp, by simp, by simp, by simp, fun _ => ⟨rfl, p, pv, ps, hq _ rfl, hb⟩, by simp⟩
        next => simp at h
      next hb =>
        split at h
        next hw =>
          split at h
          next hqt =>
            split at h
            next v s₁ hop =>
              have hv : aVal E a.eval o s = some (v, s₁) := by
                rw [aOp_plain (aOp_clean hop).1 (.inl hqt)] at hop
                cases hv : aVal E a.eval o s with
                | none => simp [hv] at hop
                | some z =>
                  obtain ⟨v', s'⟩ := z
                  simp only [hv, Option.some.injEq, Rs.val.injEq] at hop
                  obtain ⟨rfl, rfl⟩ := hop
                  rfl
              split at h
              next es r ht =>
                obtain ⟨r1, r2, r3⟩ := r
                simp only [Option.some.injEq, Prod.mk.injEq] at h
                obtain ⟨rfl, rfl, rfl, rfl⟩ := h
                obtain ⟨c0, c1, c2, c3, c4⟩ := clsOf_spec E a.eval o.op
                have hle := c4 hqt
                refine step _ es _ s _ rfl rfl rfl rfl ht (fun q hq => hq) (.inl rfl) (fun hq he => ?_) (fun _ => by simp only; omega)
                obtain ⟨g1, g2⟩ := quiet_sub (σ := s) (fun _ _ h => h) hqt hv
                subst g1
                refine ⟨rfl, by simp only; omega, fun _ => (aOp_clean hop).1, fun _ => by simp only [hw], by simp, ?_, ?_, fun h => by simp only at h; omega, fun h => by simp only at h; omega, fun h => by simp only at h; omega, fun h => by simp only at h; omega, fun h => by simp only at h; omega⟩
                · intro h0 _
                  simp only at h0
                  rcases c0 h0 with hp | ⟨f, args, ats, g, first, captured, F, ho, hf, hk⟩
                  · obtain ⟨g1, g3⟩ := pure_any hp hv
                    exact ⟨rfl, .inl ⟨hqt, g3⟩⟩
                  · simp [ho, quietOp] at hqt
                · intro h1
                  exact ⟨rfl, rfl, hqt, hv⟩
              next => simp at h
            next => simp at h
          next => simp at h
        next hw =>
          split at h
          next es r ht =>
            obtain ⟨r1, r2, r3⟩ := r
            simp only [Option.some.injEq, Prod.mk.injEq] at h
            obtain ⟨rfl, rfl, rfl, rfl⟩ := h
            refine step _ es _ s _ rfl rfl rfl rfl ht (fun q hq => hq) (.inl rfl) (fun hq he => ?_) (fun _ => by simp)
            exact ⟨rfl, by simp, by simp, fun _ => by simp only; simpa using hw, fun _ => ⟨rfl, rfl, .inl rfl⟩, by simp, by simp, by simp, by simp, by simp, by simp, by simp⟩
          next => simp at h

end Go.Ai

/-
  THE SHORT RUN, 22: statements whose order is open: what holds of the run in the text's order, and what every order keeps of it.
-/
set_option linter.unusedSimpArgs false
set_option linter.unusedVariables false
set_option linter.unusedSectionVars false
namespace Go.Ai
open Go

theorem upon_exists {P : Program} {o : Oper} {a : Act} {K : Act → World → Prop} {r : Result Next} (h : o.upon P a K (fun _ _ _ => False) r) : ∃ a' w', K a' w' := by
  cases r with
  | ok n w' =>
    cases n <;> simp only [Oper.upon] at h
    case value v => exact ⟨_, _, h⟩
    case skip => exact ⟨_, _, h⟩
    case defer d => exact ⟨_, _, h⟩
    case enter f args =>
      obtain ⟨e, w₁, fr, hr, _⟩ := h []
      cases e with
      | returned v => exact ⟨_, _, hr⟩
      | panicked c => exact hr.elim
      | outgrown => obtain ⟨_, _, hr⟩ := hr; exact hr.elim
    case row row args =>
      obtain ⟨v, w₁, hr, _⟩ := h default []
      exact ⟨_, _, hr⟩
  | halt x w' => cases x <;> simp only [Oper.upon] at h

/-- The run in the text's order of a statement whose order is open. -/
structure Opened (E : Env) (call : Caller) (ops : Array Oper) (ents : List Ent) (sN : St) (aN : AAct) (pn : Option (Nat × Value × St)) : Prop where
  len : ents.length = ops.size
  ent : ∀ (j : Nat) (x : Ent), ents[j]? = some x → ops[j]? = some x.o ∧ x.s = stAt ents sN j ∧ x.a = acAt ents aN j ∧ EntOk E call ops x j (stAt ents sN (j + 1)) (acAt ents aN (j + 1)) pn
  ok : ∀ o ∈ ops.toList, operOk E.P o = true
  draw : drawOk ops = true

theorem EntOk.ran_val {E : Env} {call : Caller} {ops : Array Oper} {x : Ent} {n : Nat} {s1 : St} {a1 : AAct} {pn : Option (Nat × Value × St)} (h : EntOk E call ops x n s1 a1 pn) :
    aOp E call x.a.eval x.o x.s = some (.val x.v s1) ∨ (x.v = undef ∧ s1 = x.s) := by
  by_cases hr : x.ran = true
  · have := h.cls
    have hc : x.cls = 0 ∨ x.cls = 1 ∨ x.cls = 2 ∨ x.cls = 3 ∨ x.cls = 4 ∨ x.cls = 5 := by omega
    rcases hc with hc | hc | hc | hc | hc | hc
    · obtain ⟨h1, h2⟩ := h.pure hc hr
      rw [h1]
      exact .inl (h2.any (h.clean hr) _)
    · obtain ⟨_, h1, h2, h3⟩ := h.look hc
      left
      rw [aOp_plain (h.clean hr) (.inl h2), h3, h1]
    · obtain ⟨_, h1, h2, h3⟩ := h.make hc
      left
      rw [aOp_plain (h.clean hr) (.inr h2), h3]
    · exact .inl (h.does hc).2.2
    · obtain ⟨_, h1, h2, _⟩ := h.pan hc
      exact .inr ⟨h2, h1⟩
    · exact absurd hr (by simp [(h.dead hc).1])
  · obtain ⟨h1, h2, _⟩ := h.none (by simpa using hr)
    exact .inr ⟨h1, h2⟩

section
variable {E : Env} {B : Nat} {w₀ : World} {call : Caller} {ops : Array Oper} {ents : List Ent} {sN : St} {aN : AAct} {pn : Option (Nat × Value × St)}

theorem stAt_end {i : Nat} (h : ents.length ≤ i) : stAt ents sN i = sN := by simp [stAt, List.getElem?_eq_none h]
theorem acAt_end {i : Nat} (h : ents.length ≤ i) : acAt ents aN i = aN := by simp [acAt, List.getElem?_eq_none h]

theorem Opened.text (hE : E.Fine B w₀) (hcall : CallOk E B w₀ call) (O : Opened E call ops ents sN aN pn) {φ : Phi} {w : World} {ca : Act} (hR : R B w₀ φ (stAt ents sN 0).get w) (hF : (stAt ents sN 0).Fresh)
    (hA : VAct B φ (acAt ents aN 0) ca) : ∀ j, ((stAt ents sN j).Fresh ∧ ∃ φ w ca, R B w₀ φ (stAt ents sN j).get w ∧ VAct B φ (acAt ents aN j) ca) ∧ (stAt ents sN j).next ≤ (stAt ents sN (j + 1)).next := by
  have step : ∀ j, ((stAt ents sN j).Fresh ∧ ∃ φ w ca, R B w₀ φ (stAt ents sN j).get w ∧ VAct B φ (acAt ents aN j) ca) →
      ((stAt ents sN (j + 1)).Fresh ∧ ∃ φ w ca, R B w₀ φ (stAt ents sN (j + 1)).get w ∧ VAct B φ (acAt ents aN (j + 1)) ca) ∧ (stAt ents sN j).next ≤ (stAt ents sN (j + 1)).next := by
    intro j ⟨hF, φ, w, ca, hR, hA⟩
    rcases Nat.lt_or_ge j ents.length with hj | hj
    · obtain ⟨x, hx⟩ : ∃ x, ents[j]? = some x := ⟨_, List.getElem?_eq_getElem hj⟩
      obtain ⟨h1, h2, h3, h4⟩ := O.ent j x hx
      rw [← h2] at hF hR
      rw [← h3] at hA
      rw [← h2, h4.act]
      have hoo : operOk E.P x.o = true := O.ok x.o (by
        have := Array.mem_of_getElem? h1
        simpa using this)
      unfold operOk at hoo
      simp only [Bool.and_eq_true, Array.all_eq_true_iff_forall_mem] at hoo
      rcases h4.ran_val with h5 | ⟨h5, h6⟩
      · have := aOp_sim hE hcall (K := fun ca' w' => ((stAt ents sN (j + 1)).Fresh ∧ ∃ φ w ca, R B w₀ φ (stAt ents sN (j + 1)).get w ∧ VAct B φ (x.a.put x.o.dst x.v) ca) ∧ x.s.next ≤ (stAt ents sN (j + 1)).next)
          (Q := fun _ _ _ => False) hR hF (fun y hy => hA.eval hE.globals (hoo.1 y hy)) hoo.2 h5
          (fun φ' w' v' g1 g2 g3 g4 g5 => ⟨⟨g4, φ', w', _, g2, (hA.mono g1.ext).put _ g3⟩, g5⟩)
        obtain ⟨_, _, h⟩ := upon_exists this
        exact h
      · rw [h6, h5]
        exact ⟨⟨hF, φ, w, _, hR, hA.put x.o.dst (V.undef_refl hE.toOk φ)⟩, Nat.le_refl _⟩
    · rw [stAt_end hj] at hF hR
      rw [acAt_end hj] at hA
      rw [stAt_end hj, stAt_end (by omega), acAt_end (by omega)]
      exact ⟨⟨hF, φ, w, ca, hR, hA⟩, Nat.le_refl _⟩
  have all : ∀ j, ((stAt ents sN j).Fresh ∧ ∃ φ w ca, R B w₀ φ (stAt ents sN j).get w ∧ VAct B φ (acAt ents aN j) ca) := by
    intro j
    induction j with
    | zero => exact ⟨hF, φ, w, ca, hR, hA⟩
    | succ j ih => exact (step j ih).1
  exact fun j => ⟨all j, (step j (all j)).2⟩

/-! What stands ahead of what. -/
theorem Opened.back (O : Opened E call ops ents sN aN pn) {i : Nat} {o : Oper} (ho : ops[i]? = some o) {e : Edge} (he : e ∈ o.after) (hb : Region.binds .any e = true) : e.on < i := by
  have h := O.draw
  unfold drawOk at h
  simp only [Bool.and_eq_true, List.all_eq_true] at h
  have := h.1 (o, i) (by
    simp only [Array.mem_toList_iff, Array.mem_zipIdx_iff_getElem?]
    exact ho)
  simp only [Array.all_eq_true_iff_forall_mem] at this
  have := this e he
  simpa [hb] using this

theorem Opened.bit_lt (O : Opened E call ops ents sN aN pn) : ∀ {j i : Nat}, bit ops j i = true → i < j := by
  intro j
  induction j using Nat.strongRecOn with
  | _ j ih =>
    intro i h
    obtain ⟨o, ho, e, he, hb, h1 | ⟨h1, h2⟩⟩ := before_bits ops j i h
    · rw [h1]; exact O.back ho he hb
    · have := ih e.on h1 h2
      omega

/-- What is behind an operation that is listed is no hurdle. -/
def Closed (ops : Array Oper) (D : Nat → Prop) : Prop := ∀ j, D j → ∀ i, bit ops j i = true → D i

theorem ready_bits {listed : Array Bool} {i : Nat} (hi : i ∈ Region.ready .any ops listed) (hc : Closed ops fun j => listed.getD j false = true) {j : Nat} (hb : bit ops i j = true) : listed.getD j false = true := by
  obtain ⟨_, o, ho, h⟩ := mem_ready.1 hi
  obtain ⟨o', ho', e, he, heb, h1 | ⟨h1, h2⟩⟩ := before_bits ops i j hb
  · rw [ho] at ho'
    cases ho'
    rw [h1]
    exact h e he heb
  · rw [ho] at ho'
    cases ho'
    exact hc _ (h e he heb) _ h2

theorem Opened.names (O : Opened E call ops ents sN aN pn) {i j : Nat} {x y : Oper} (hx : ops[i]? = some x) (hy : ops[j]? = some y) (hij : i ≠ j) {d : Tmp} (hd : y.dst = some d) (hn : d ∈ namesOf ops x) :
    (i < j → bit ops j i = true) ∧ (j < i → bit ops i j = true) := by
  have h := O.draw
  unfold drawOk at h
  simp only [Bool.and_eq_true, List.all_eq_true] at h
  have := h.2 (x, i) (by simp only [Array.mem_toList_iff, Array.mem_zipIdx_iff_getElem?]; exact hx) (y, j) (by simp only [Array.mem_toList_iff, Array.mem_zipIdx_iff_getElem?]; exact hy)
  simp only [hd, Bool.or_eq_true, beq_iff_eq, hij, false_or, Bool.not_eq_true'] at this
  have hc : (namesOf ops x).contains d = true := by simpa using hn
  rw [hc] at this
  simp only [Bool.true_eq_false, false_or] at this
  constructor
  · intro hlt
    rw [if_pos hlt] at this
    exact this
  · intro hlt
    rw [if_neg (by omega)] at this
    exact this

/-! What a temporary holds when the operations D have run. -/
def TV (ents : List Ent) (a0 : AAct) (D : Nat → Prop) (t : Tmp) (x : Value) : Prop :=
  (∃ (i : Nat) (y : Ent), ents[i]? = some y ∧ D i ∧ y.o.dst = some t ∧ x = y.v ∧ t < a0.tmps.length ∧ ∀ (j : Nat) (z : Ent), ents[j]? = some z → D j → z.o.dst = some t → j ≤ i) ∨
  ((∀ (i : Nat) (y : Ent), ents[i]? = some y → D i → y.o.dst ≠ some t) ∧ a0.tmps[t]? = some x)

theorem Opened.act (O : Opened E call ops ents sN aN pn) : ∀ i, i ≤ ents.length → (acAt ents aN i).tmps.length = (acAt ents aN 0).tmps.length ∧ (acAt ents aN i).defers = (acAt ents aN 0).defers ∧
    ∀ t x, (acAt ents aN i).tmps[t]? = some x → TV ents (acAt ents aN 0) (· < i) t x := by
  intro i
  induction i with
  | zero => exact fun _ => ⟨rfl, rfl, fun t x hx => .inr ⟨fun i y _ h => by omega, hx⟩⟩
  | succ i ih =>
    intro hi
    obtain ⟨h1, h0, h2⟩ := ih (by omega)
    obtain ⟨y, hy⟩ : ∃ y, ents[i]? = some y := ⟨_, List.getElem?_eq_getElem (by omega)⟩
    obtain ⟨g1, g2, g3, g4⟩ := O.ent i y hy
    rw [g4.act, g3]
    cases hd : y.o.dst with
    | none =>
      refine ⟨h1, h0, fun t x hx => ?_⟩
      rcases h2 t x hx with ⟨k, z, k1, k2, k3, k4, k5, k6⟩ | ⟨k1, k2⟩
      · refine .inl ⟨k, z, k1, by omega, k3, k4, k5, fun j u hu hj hud => ?_⟩
        rcases Nat.lt_or_ge j i with h | h
        · exact k6 j u hu h hud
        · obtain rfl : j = i := by omega
          rw [hy] at hu
          cases hu
          rw [hd] at hud; simp at hud
      · refine .inr ⟨fun j u hu hj => ?_, k2⟩
        rcases Nat.lt_or_ge j i with h | h
        · exact k1 j u hu h
        · obtain rfl : j = i := by omega
          rw [hy] at hu
          cases hu
          rw [hd]; simp
    | some d =>
      refine ⟨by simp [AAct.put, h1], h0, fun t x hx => ?_⟩
      simp only [AAct.put, List.getElem?_set] at hx
      by_cases hdt : d = t
      · subst hdt
        rw [if_pos rfl] at hx
        split at hx
        next hl =>
          cases hx
          exact .inl ⟨i, y, hy, by omega, hd, rfl, h1 ▸ hl, fun j u hu hj _ => by omega⟩
        next => simp at hx
      · rw [if_neg hdt] at hx
        rcases h2 t x hx with ⟨k, z, k1, k2, k3, k4, k5, k6⟩ | ⟨k1, k2⟩
        · refine .inl ⟨k, z, k1, by omega, k3, k4, k5, fun j u hu hj hud => ?_⟩
          rcases Nat.lt_or_ge j i with h | h
          · exact k6 j u hu h hud
          · obtain rfl : j = i := by omega
            rw [hy] at hu
            cases hu
            rw [hd] at hud
            exact absurd (Option.some.inj hud) hdt
        · refine .inr ⟨fun j u hu hj => ?_, k2⟩
          rcases Nat.lt_or_ge j i with h | h
          · exact k1 j u hu h
          · obtain rfl : j = i := by omega
            rw [hy] at hu
            cases hu
            rw [hd]
            simp [hdt]

/-- What an operation that is ready names is what it named in the text's order. -/
theorem Opened.ready_tmp (O : Opened E call ops ents sN aN pn) {D : Nat → Prop} (hc : Closed ops D) {i : Nat} {x : Ent} (hx : ents[i]? = some x) (hi : ¬ D i) (hb : ∀ j, bit ops i j = true → D j) {t : Tmp} (ht : t ∈ namesOf ops x.o) {v : Value}
    (hv : x.a.tmps[t]? = some v) : TV ents (acAt ents aN 0) D t v := by
  have hil : i < ents.length := (List.getElem?_eq_some_iff.1 hx).1
  obtain ⟨g1, g2, g3, g4⟩ := O.ent i x hx
  rw [g3] at hv
  have h := (O.act i (by omega)).2.2 t v hv
  have key : ∀ (j : Nat) (z : Ent), ents[j]? = some z → z.o.dst = some t → (j < i → D j) ∧ (D j → j < i) := by
    intro j z hz hd
    by_cases hij : i = j
    · subst hij
      exact ⟨fun h => by omega, fun h => absurd h hi⟩
    · obtain ⟨k1, k2⟩ := O.names g1 (O.ent j z hz).1 hij hd ht
      refine ⟨fun h => hb _ (k2 h), fun h => ?_⟩
      rcases Nat.lt_or_ge j i with hlt | hge
      · exact hlt
      · exact absurd (hc _ h _ (k1 (by omega))) hi
  rcases h with ⟨k, z, k1, k2, k3, k4, k5, k6⟩ | ⟨k1, k2⟩
  · exact .inl ⟨k, z, k1, (key k z k1 k3).1 k2, k3, k4, k5, fun j u hu hj hud => k6 j u hu ((key j u hu hud).2 hj) hud⟩
  · exact .inr ⟨fun j u hu hj hud => k1 j u hu ((key j u hu hud).2 hj) hud, k2⟩

/-- One more operation has run. -/
theorem Opened.list_tmp (O : Opened E call ops ents sN aN pn) {D : Nat → Prop} (hc : Closed ops D) {i : Nat} {x : Ent} (hx : ents[i]? = some x) (hi : ¬ D i) {aD : AAct} (hl : aD.tmps.length = (acAt ents aN 0).tmps.length)
    (hD : ∀ t v, TV ents (acAt ents aN 0) D t v → aD.tmps[t]? = some v) : ∀ t v, TV ents (acAt ents aN 0) (fun j => j = i ∨ D j) t v → (aD.put x.o.dst x.v).tmps[t]? = some v := by
  intro t v h
  have hlast : ∀ (j : Nat) (z : Ent), ents[j]? = some z → D j → z.o.dst = some t → x.o.dst = some t → j < i := by
    intro j z hz hj hzd hxd
    rcases Nat.lt_trichotomy j i with h | h | h
    · exact h
    · subst h; exact absurd hj hi
    · have := (O.names (O.ent i x hx).1 (O.ent j z hz).1 (by omega) hzd (by simp [namesOf, hxd])).1 h
      exact absurd (hc _ hj _ this) hi
  rcases h with ⟨k, z, k1, k2, k3, k4, k5, k6⟩ | ⟨k1, k2⟩
  · by_cases hki : k = i
    · subst hki
      rw [hx] at k1
      cases k1
      rw [k3, k4]
      simp only [AAct.put]
      rw [List.getElem?_set_self (by rw [hl]; exact k5)]
    · have hDk : D k := k2.resolve_left hki
      have hne : x.o.dst ≠ some t := by
        intro hxd
        have h1 := k6 i x hx (.inl rfl) hxd
        have h2 := hlast k z k1 hDk k3 hxd
        omega
      have hold := hD t v (.inl ⟨k, z, k1, hDk, k3, k4, k5, fun j u hu hj hud => k6 j u hu (.inr hj) hud⟩)
      cases hd : x.o.dst with
      | none => exact hold
      | some d =>
        simp only [AAct.put]
        rw [List.getElem?_set_ne (by rintro rfl; exact hne hd)]
        exact hold
  · have hne := k1 i x hx (.inl rfl)
    have hold := hD t v (.inr ⟨fun j u hu hj => k1 j u hu (.inr hj), k2⟩)
    cases hd : x.o.dst with
    | none => exact hold
    | some d =>
      simp only [AAct.put]
      rw [List.getElem?_set_ne (by rintro rfl; exact hne hd)]
      exact hold

end

end Go.Ai

/-
  THE SHORT RUN, 23: statements whose order is open: memory in every order.
-/
set_option linter.unusedSimpArgs false
set_option linter.unusedVariables false
set_option linter.unusedSectionVars false
namespace Go.Ai
open Go

theorem zipIdx_sorted {α : Type} : ∀ (l : List α) (k : Nat), (l.zipIdx k).Pairwise fun a b => a.2 < b.2 := by
  intro l
  induction l with
  | nil => intro k; simp
  | cons x l ih =>
    intro k
    rw [List.zipIdx_cons, List.pairwise_cons]
    refine ⟨fun y hy => ?_, ih _⟩
    have := List.le_snd_of_mem_zipIdx hy
    simp only at this ⊢
    omega

theorem mem_zip {ents : List Ent} {x : Ent} {j : Nat} : (x, j) ∈ ents.zipIdx ↔ ents[j]? = some x := by
  rw [List.mem_zipIdx_iff_getElem?]

theorem mem_effsOf {bits : Array Nat} {ents : List Ent} {x : Ent} {j : Nat} : (x, j) ∈ effsOf bits ents ↔ Eff bits ents x j := by
  unfold effsOf Eff
  simp only [List.mem_filter, mem_zip, Bool.not_eq_true', and_assoc]

theorem mem_tailsOf {bits : Array Nat} {ents : List Ent} {x : Ent} {j : Nat} : (x, j) ∈ tailsOf bits ents ↔ Tail bits ents x j := by
  unfold tailsOf Tail
  simp only [List.mem_filter, mem_zip, and_assoc]

theorem effsOf_sorted (bits : Array Nat) (ents : List Ent) : (effsOf bits ents).Pairwise fun a b => a.2 < b.2 :=
  ((zipIdx_sorted _ _).filter _).filter _
theorem tailsOf_sorted (bits : Array Nat) (ents : List Ent) : (tailsOf bits ents).Pairwise fun a b => a.2 < b.2 :=
  ((zipIdx_sorted _ _).filter _).filter _

theorem isTail_spec {bits : Array Nat} {ents : List Ent} {x : Ent} {j : Nat} (h : isTail bits ents.zipIdx (x, j) = true) : x.cls = 3 ∧ isStore x.o.op = true ∧
    ∀ y i, ents[i]? = some y → y.ran = true → (y.cls = 1 ∨ y.cls = 2 ∨ y.cls = 4 ∨ (y.cls = 3 ∧ isStore y.o.op = false)) → (bits.getD j 0).testBit i = true := by
  unfold isTail at h
  simp only [Bool.and_eq_true, List.all_eq_true, decide_eq_true_eq] at h
  refine ⟨h.1.1, h.1.2, fun y i hy hr hc => ?_⟩
  have := h.2 _ (mem_zip.2 hy)
  simp only [Bool.or_eq_true, Bool.not_eq_true', Bool.and_eq_false_iff, Bool.or_eq_false_iff, decide_eq_false_iff_not] at this
  rcases this with (h1 | h1) | h1
  · rw [hr] at h1; simp at h1
  · obtain ⟨⟨⟨k1, k2⟩, k3⟩, k4⟩ := h1
    rcases hc with hc | hc | hc | ⟨hc, hs⟩
    · exact absurd hc k1
    · exact absurd hc k2
    · exact absurd hc k3
    · rcases k4 with k4 | k4
      · exact absurd hc k4
      · simp [hs] at k4
  · exact h1

theorem sees_spec {E : Env} {ops : Array Oper} {all : List (Ent × Nat)} {sM : St} {x : Ent} {i : Nat} {D : Nat → Prop} (hc : Closed ops D) (hi : ¬ D i) (hb : ∀ j, bit ops i j = true → D j) :
    ∀ (l : List (Ent × Nat)), l.Pairwise (fun a b => a.2 < b.2) → (∀ y ∈ l, D y.2 → y.1.cls ≠ 4) → SeesP E (Region.before ops) all sM x i l →
      ((∀ y ∈ l, D y.2) → seenAt E x (withMade all.length all sM)) ∧ (∀ y ∈ l, ¬ D y.2 → (∀ z ∈ l, z.2 < y.2 → D z.2) → seenAt E x (withMade y.2 all y.1.s)) := by
  intro l
  induction l with
  | nil => intro _ _ h; exact ⟨fun _ => h, fun y hy => by simp at hy⟩
  | cons e l ih =>
    intro hs h4 h
    obtain ⟨e, k⟩ := e
    rw [List.pairwise_cons] at hs
    simp only [SeesP] at h
    have next : D k → SeesP E (Region.before ops) all sM x i l := by
      intro hk
      split at h
      · exact h
      · rcases h.2 with h1 | h1 | h1
        · exact absurd (hc k hk i h1) hi
        · exact absurd h1 (h4 (e, k) (by simp) hk)
        · exact h1
    constructor
    · intro hall
      exact (ih hs.2 (fun y hy => h4 y (by simp [hy])) (next (hall (e, k) (by simp)))).1 fun y hy => hall y (by simp [hy])
    · intro y hy hyD hz
      rcases List.mem_cons.1 hy with rfl | hy'
      · simp only at hyD ⊢
        split at h
        next hbk => exact absurd (hb k hbk) hyD
        next => exact h.1
      · have hk : D k := hz (e, k) (by simp) (hs.1 y hy')
        exact (ih hs.2 (fun y hy => h4 y (by simp [hy])) (next hk)).2 y hy' hyD fun z hz' => hz z (by simp [hz'])

/-! Memory with what later operations make. -/
theorem withMade_keep {e f : Nat} : ∀ (l : List (Ent × Nat)) (s : St), (∀ x ∈ l, x.1.cls = 2 → e < x.2 → x.1.s.next ≠ f) → (withMade e l s).get f = s.get f := by
  intro l
  induction l with
  | nil => intro s _; rfl
  | cons x l ih =>
    intro s h
    unfold withMade
    simp only [List.foldl_cons]
    have h1 := ih (if x.1.cls = 2 && decide (e < x.2) then (match x.1.s'.get x.1.s.next with | some o => s.put x.1.s.next o | none => s) else s) fun y hy => h y (by simp [hy])
    refine Eq.trans h1 ?_
    split
    next hc =>
      simp only [Bool.and_eq_true, decide_eq_true_eq] at hc
      split
      next o ho => rw [St.get_put, if_neg (Ne.symm (h x (by simp) hc.1 hc.2))]
      next => rfl
    next => rfl

theorem withMade_made {e f : Nat} {o : AObj} : ∀ (l : List (Ent × Nat)) (s : St), (∀ x ∈ l, x.1.cls = 2 → e < x.2 → x.1.s.next = f → x.1.s'.get f = some o) →
    (s.get f = some o ∨ ∃ x ∈ l, x.1.cls = 2 ∧ e < x.2 ∧ x.1.s.next = f) → (withMade e l s).get f = some o := by
  intro l
  induction l with
  | nil => intro s _ h; rcases h with h | ⟨x, hx, _⟩; exact h; simp at hx
  | cons x l ih =>
    intro s h hs
    unfold withMade
    simp only [List.foldl_cons]
    refine ih _ (fun y hy => h y (by simp [hy])) ?_
    split
    next hc =>
      simp only [Bool.and_eq_true, decide_eq_true_eq] at hc
      by_cases hf : x.1.s.next = f
      · have hx := h x (by simp) hc.1 hc.2 hf
        rw [hf, hx]
        exact .inl (by simp [St.get_put])
      · rcases hs with hs | ⟨y, hy, hy'⟩
        · left
          split
          next o' _ => rw [St.get_put, if_neg (Ne.symm hf)]; exact hs
          next => exact hs
        · rcases List.mem_cons.1 hy with rfl | hy
          · exact absurd hy'.2.2 hf
          · exact .inr ⟨y, hy, hy'⟩
    next hc =>
      rcases hs with hs | ⟨y, hy, hy'⟩
      · exact .inl hs
      · rcases List.mem_cons.1 hy with rfl | hy
        · exact absurd (by simp [hy'.1, hy'.2.1]) hc
        · exact .inr ⟨y, hy, hy'⟩

section
variable {E : Env} {B : Nat} {w₀ : World} {call : Caller} {ops : Array Oper} {ents : List Ent} {sN : St} {aN : AAct} {pn : Option (Nat × Value × St)}

/-- What is known of the run in the text's order. -/
structure Known (E : Env) (call : Caller) (ops : Array Oper) (ents : List Ent) (sN : St) (aN : AAct) (pn : Option (Nat × Value × St)) : Prop extends Opened E call ops ents sN aN pn where
  fresh : ∀ j, (stAt ents sN j).Fresh
  up : ∀ j, (stAt ents sN j).next ≤ (stAt ents sN (j + 1)).next
  good : Good E (Region.before ops) ents sN

theorem Known.mono (O : Known E call ops ents sN aN pn) {i j : Nat} (h : i ≤ j) : (stAt ents sN i).next ≤ (stAt ents sN j).next := by
  induction h with
  | refl => exact Nat.le_refl _
  | step h ih => exact Nat.le_trans ih (O.up _)

theorem Known.made (hE : E.Fine B w₀) (O : Known E call ops ents sN aN pn) {j : Nat} {x : Ent} (hx : ents[j]? = some x) (hc : x.cls = 2) : ∃ obj, stAt ents sN (j + 1) = (stAt ents sN j).push obj ∧ x.s' = stAt ents sN (j + 1) := by
  obtain ⟨g1, g2, g3, g4⟩ := O.ent j x hx
  obtain ⟨_, h1, h2, h3⟩ := g4.make hc
  obtain ⟨obj, h4, _⟩ := aVal_alloc (B := B) (w₀ := w₀) hE.toOk h2 h3
  exact ⟨obj, by rw [h4, g2], h1⟩

/-- What does nothing turns nothing. -/
theorem Known.keep1 (hE : E.Fine B w₀) (O : Known E call ops ents sN aN pn) {j : Nat} (h : ∀ x, ents[j]? = some x → x.cls ≠ 3) {f : Nat} (hf : f < (stAt ents sN j).next ∨ ∀ x, ents[j]? = some x → x.cls ≠ 2) :
    (stAt ents sN (j + 1)).get f = (stAt ents sN j).get f := by
  rcases Nat.lt_or_ge j ents.length with hj | hj
  · obtain ⟨x, hx⟩ : ∃ x, ents[j]? = some x := ⟨_, List.getElem?_eq_getElem hj⟩
    obtain ⟨g1, g2, g3, g4⟩ := O.ent j x hx
    have h3 := h x hx
    have h5 := g4.cls
    by_cases hr : x.ran = true
    · have hcs : x.cls = 0 ∨ x.cls = 1 ∨ x.cls = 2 ∨ x.cls = 4 ∨ x.cls = 5 := by omega
      rcases hcs with hc | hc | hc | hc | hc
      · rw [(g4.pure hc hr).1, g2]
      · rw [(g4.look hc).2.1, g2]
      · obtain ⟨obj, h1, h2⟩ := O.made hE hx hc
        rw [h1, St.get_push, if_neg]
        rcases hf with hf | hf
        · omega
        · exact absurd hc (hf x hx)
      · rw [(g4.pan hc).2.1, g2]
      · exact absurd hr (by simp [(g4.dead hc).1])
    · rw [(g4.none (by simpa using hr)).2.1, g2]
  · rw [stAt_end hj, stAt_end (by omega)]

theorem Known.keep (hE : E.Fine B w₀) (O : Known E call ops ents sN aN pn) {f i : Nat} : ∀ (k : Nat), i ≤ k → (∀ j x, i ≤ j → j < k → ents[j]? = some x → x.cls = 3 → (stAt ents sN (j + 1)).get f = (stAt ents sN j).get f) →
    (f < (stAt ents sN i).next ∨ ∀ j x, i ≤ j → j < k → ents[j]? = some x → x.cls ≠ 2) → (stAt ents sN k).get f = (stAt ents sN i).get f := by
  intro k hik
  induction hik with
  | refl => intro _ _; rfl
  | step hik ih =>
    rename_i k
    have hik : i ≤ k := hik
    intro h3 hf
    rw [← ih (fun j x h1 h2 => h3 j x h1 (by omega)) (hf.imp id fun h j x h1 h2 => h j x h1 (by omega))]
    by_cases hc : ∃ x, ents[k]? = some x ∧ x.cls = 3
    · obtain ⟨x, hx, hc⟩ := hc
      exact h3 k x hik (by omega) hx hc
    · refine O.keep1 hE (fun x hx h => hc ⟨x, hx, h⟩) ?_
      rcases hf with hf | hf
      · exact .inl (Nat.lt_of_lt_of_le hf (O.mono hik))
      · exact .inr fun x hx => hf k x hik (by omega) hx

/-- Memory ahead of the operation at c, with what later ones make. -/
structure Cut (ents : List Ent) (sN : St) (c : Nat) (W : St) : Prop where
  lo : ∀ f, f < (stAt ents sN c).next → W.get f = (stAt ents sN c).get f
  hi : ∀ j x, ents[j]? = some x → x.cls = 2 → c < j → W.get (stAt ents sN j).next = (stAt ents sN (j + 1)).get (stAt ents sN j).next

theorem Known.made_lt (hE : E.Fine B w₀) (O : Known E call ops ents sN aN pn) {j : Nat} {x : Ent} (hx : ents[j]? = some x) (hc : x.cls = 2) : (stAt ents sN (j + 1)).next = (stAt ents sN j).next + 1 ∧
    ((stAt ents sN (j + 1)).get (stAt ents sN j).next).isSome = true := by
  obtain ⟨obj, h1, h2⟩ := O.made hE hx hc
  rw [h1]
  exact ⟨St.next_push _ _, by simp [St.get_push]⟩

theorem Known.cut (hE : E.Fine B w₀) (O : Known E call ops ents sN aN pn) (c : Nat) : Cut ents sN c (withMade c ents.zipIdx (stAt ents sN c)) := by
  constructor
  · intro f hf
    refine withMade_keep _ _ ?_
    rintro ⟨x, j⟩ hx hc hj
    simp only at hc hj ⊢
    rw [(O.ent j x (mem_zip.1 hx)).2.1]
    have := O.mono (Nat.le_of_lt hj)
    omega
  · intro j x hx hc hj
    obtain ⟨obj, h1, h2⟩ := O.made hE hx hc
    have hobj : (stAt ents sN (j + 1)).get (stAt ents sN j).next = some obj := by rw [h1, St.get_push, if_pos rfl]
    rw [hobj]
    refine withMade_made _ _ ?_ (.inr ⟨(x, j), mem_zip.2 hx, hc, hj, ?_⟩)
    · rintro ⟨y, k⟩ hy hyc hk hn
      simp only at hyc hk hn ⊢
      rw [(O.ent k y (mem_zip.1 hy)).2.1] at hn
      have hkj : k = j := by
        rcases Nat.lt_trichotomy k j with h | h | h
        · have := O.made_lt hE (mem_zip.1 hy) hyc
          have := O.mono (show k + 1 ≤ j from h)
          omega
        · exact h
        · have := O.made_lt hE hx hc
          have := O.mono (show j + 1 ≤ k from h)
          omega
      subst hkj
      rw [mem_zip.1 hy] at hx
      cases hx
      rw [h2, hobj]
    · exact (congrArg St.next (O.ent j x hx).2.1)

/-- The place of the first of the stores at the end. -/
def endOf (ents : List Ent) : List (Ent × Nat) → Nat
  | [] => ents.length
  | x :: _ => x.2

theorem Known.mid (hE : E.Fine B w₀) (O : Known E call ops ents sN aN pn) : ∃ m, midSt sN (tailsOf (Region.before ops) ents) = stAt ents sN m ∧ m ≤ ents.length ∧ (∀ x j, Tail (Region.before ops) ents x j → m ≤ j) ∧
    (∀ x j, Eff (Region.before ops) ents x j → j < m) ∧ (∀ x j, ents[j]? = some x → x.cls = 1 → j < m) ∧ (∀ x j, ents[j]? = some x → x.cls = 2 → j < m) ∧ Cut ents sN m (midSt sN (tailsOf (Region.before ops) ents)) := by
  have hsorted := tailsOf_sorted (Region.before ops) ents
  have hmem : ∀ x j, (x, j) ∈ tailsOf (Region.before ops) ents ↔ Tail (Region.before ops) ents x j := fun x j => mem_tailsOf
  generalize tailsOf (Region.before ops) ents = l at hsorted hmem
  cases l with
  | nil =>
    refine ⟨ents.length, by simp [midSt, stAt], Nat.le_refl _, fun x j h => by simpa using (hmem x j).2 h, fun x j h => (List.getElem?_eq_some_iff.1 h.1).1, fun x j h _ => (List.getElem?_eq_some_iff.1 h).1,
      fun x j h _ => (List.getElem?_eq_some_iff.1 h).1, ?_⟩
    constructor
    · intro f _; simp [midSt, stAt]
    · intro j x hx _ hj
      have := (List.getElem?_eq_some_iff.1 hx).1
      omega
  | cons t l =>
    obtain ⟨t, m⟩ := t
    have ht : Tail (Region.before ops) ents t m := (hmem t m).1 (by simp)
    have hs : t.s = stAt ents sN m := (O.ent m t ht.1).2.1
    obtain ⟨t1, t2, t3⟩ := isTail_spec ht.2.2
    rw [List.pairwise_cons] at hsorted
    have hmk : ∀ x j, ents[j]? = some x → x.cls = 2 → j < m := by
      intro x j hx hc
      exact O.bit_lt (t3 x j hx ((O.ent j x hx).2.2.2.make hc).1 (.inr (.inl hc)))
    refine ⟨m, hs, Nat.le_of_lt (List.getElem?_eq_some_iff.1 ht.1).1, fun x j h => ?_, fun x j h => O.bit_lt (O.good.last _ _ _ _ h ht), fun x j hx hc => ?_, hmk, ?_⟩
    · have := (hmem x j).2 h
      rcases List.mem_cons.1 this with h1 | h1
      · cases h1; exact Nat.le_refl _
      · exact Nat.le_of_lt (hsorted.1 _ h1)
    · exact O.bit_lt (t3 x j hx ((O.ent j x hx).2.2.2.look hc).1 (.inl hc))
    · constructor
      · intro f _; simp only [midSt, hs]
      · intro j x hx hc hj
        have := hmk x j hx hc
        omega

end

end Go.Ai

/-
  THE SHORT RUN, 24: statements whose order is open: which memory goes with which operations that have run.
-/
set_option linter.unusedSimpArgs false
set_option linter.unusedVariables false
set_option linter.unusedSectionVars false
namespace Go.Ai
open Go

/-- Where the numbers of memory come from when the operations D have run. -/
def Dom (ents : List Ent) (sN : St) (D : Nat → Prop) (φ : Phi) : Prop :=
  ∀ f e b, φ f e = some b → f < (stAt ents sN 0).next ∨ ∃ j x, D j ∧ ents[j]? = some x ∧ (stAt ents sN j).next ≤ f ∧ f < (stAt ents sN (j + 1)).next

theorem Dom.more {ents : List Ent} {sN : St} {D D' : Nat → Prop} {φ : Phi} (h : Dom ents sN D φ) (hD : ∀ j, D j → D' j) : Dom ents sN D' φ := by
  intro f e b hb
  rcases h f e b hb with h1 | ⟨j, x, h1, h2⟩
  · exact .inl h1
  · exact .inr ⟨j, x, hD _ h1, h2⟩

/-- What a number stands for when some of the stores at the end have run. -/
def TailLast (ops : Array Oper) (ents : List Ent) (sN : St) (D : Nat → Prop) (f : Nat) (o : Option AObj) : Prop :=
  (∃ t k, Tail (Region.before ops) ents t k ∧ D k ∧ storeTo t = some f ∧ (∀ t' k', Tail (Region.before ops) ents t' k' → D k' → storeTo t' = some f → k' ≤ k) ∧ o = (stAt ents sN (k + 1)).get f) ∨
  ((∀ t k, Tail (Region.before ops) ents t k → D k → storeTo t ≠ some f) ∧ o = (midSt sN (tailsOf (Region.before ops) ents)).get f)

/-- Memory when the operations D have run: ahead of the first operation that does something and has not run, or behind them all. -/
def Mem (B : Nat) (w₀ : World) (ops : Array Oper) (ents : List Ent) (sN : St) (φ : Phi) (D : Nat → Prop) (w : World) : Prop :=
  (∃ y c, Eff (Region.before ops) ents y c ∧ ¬ D c ∧ (∀ z k, Eff (Region.before ops) ents z k → k < c → D k) ∧ R B w₀ φ (withMade c ents.zipIdx (stAt ents sN c)).get w) ∨
  ((∀ z k, Eff (Region.before ops) ents z k → D k) ∧ ∃ σ : St, R B w₀ φ σ.get w ∧ ∀ f, TailLast ops ents sN D f (σ.get f))

section
variable {E : Env} {B : Nat} {w₀ : World} {call : Caller} {ops : Array Oper} {ents : List Ent} {sN : St} {aN : AAct} {pn : Option (Nat × Value × St)}

theorem eff_or_tail {bits : Array Nat} {x : Ent} {j : Nat} (hx : ents[j]? = some x) (h : isEff x = true) : Eff bits ents x j ∨ Tail bits ents x j := by
  cases ht : isTail bits ents.zipIdx (x, j)
  · exact .inl ⟨hx, h, ht⟩
  · exact .inr ⟨hx, h, ht⟩

theorem isEff_cls {x : Ent} : isEff x = true ↔ x.cls = 3 ∨ x.cls = 4 := by simp [isEff]

theorem Tail.cls {bits : Array Nat} {x : Ent} {j : Nat} (h : Tail bits ents x j) : x.cls = 3 := (isTail_spec h.2.2).1

/-- What is neither making nor doing leaves memory as it was. -/
theorem Known.same (O : Known E call ops ents sN aN pn) {j : Nat} {x : Ent} (hx : ents[j]? = some x) (h2 : x.cls ≠ 2) (h3 : x.cls ≠ 3) : stAt ents sN (j + 1) = stAt ents sN j := by
  obtain ⟨g1, g2, g3, g4⟩ := O.ent j x hx
  have h5 := g4.cls
  by_cases hr : x.ran = true
  · have hcs : x.cls = 0 ∨ x.cls = 1 ∨ x.cls = 4 ∨ x.cls = 5 := by omega
    rcases hcs with hc | hc | hc | hc
    · rw [(g4.pure hc hr).1, g2]
    · rw [(g4.look hc).2.1, g2]
    · rw [(g4.pan hc).2.1, g2]
    · exact absurd hr (by simp [(g4.dead hc).1])
  · rw [(g4.none (by simpa using hr)).2.1, g2]

theorem Known.gap (hE : E.Fine B w₀) (O : Known E call ops ents sN aN pn) {j f : Nat} {x : Ent} (hx : ents[j]? = some x) (h3 : x.cls ≠ 3) (h1 : (stAt ents sN j).next ≤ f) (h2 : f < (stAt ents sN (j + 1)).next) :
    x.cls = 2 ∧ f = (stAt ents sN j).next := by
  by_cases hc : x.cls = 2
  · have := (O.made_lt hE hx hc).1
    exact ⟨hc, by omega⟩
  · rw [O.same hx hc h3] at h2
    omega

theorem Known.behind (O : Known E call ops ents sN aN pn) {D : Nat → Prop} (hc : Closed ops D) {y : Ent} {c : Nat} (hy : Eff (Region.before ops) ents y c) (hD : ¬ D c) :
    (∀ z k, Tail (Region.before ops) ents z k → ¬ D k) ∧ (∀ z k, Eff (Region.before ops) ents z k → c ≤ k → ¬ D k) := by
  refine ⟨fun z k hz hk => hD (hc k hk c (O.good.last _ _ _ _ hy hz)), fun z k hz hck hk => ?_⟩
  rcases Nat.lt_or_eq_of_le hck with h | h
  · exact hD (hc k hk c (O.good.inRow _ _ _ _ hy hz h))
  · exact hD (h ▸ hk)

/-- On to the next operation that does something. -/
theorem Known.advance (hE : E.Fine B w₀) (O : Known E call ops ents sN aN pn) {D : Nat → Prop} (hc : Closed ops D) {φ : Phi} {g : Nat → Option AObj} {w : World} (hR : R B w₀ φ g w) (hdom : Dom ents sN D φ) {k0 : Nat}
    (hk0 : k0 = 0 ∨ ∃ y c, Eff (Region.before ops) ents y c ∧ k0 = c + 1)
    (h1 : ∀ z k, Eff (Region.before ops) ents z k → k < k0 → D k) (h2 : ∀ z k, Eff (Region.before ops) ents z k → k0 ≤ k → ¬ D k) (h3 : ∀ z k, Tail (Region.before ops) ents z k → ¬ D k)
    (hlo : ∀ f, f < (stAt ents sN k0).next → g f = (stAt ents sN k0).get f)
    (hhi : ∀ j x, ents[j]? = some x → x.cls = 2 → k0 ≤ j → D j → g (stAt ents sN j).next = (stAt ents sN (j + 1)).get (stAt ents sN j).next) :
    Mem B w₀ ops ents sN φ D w := by
  have hno : ∀ j x, D j → k0 ≤ j → ents[j]? = some x → x.cls ≠ 3 := by
    intro j x hj hk hx hcls
    rcases eff_or_tail (bits := Region.before ops) hx (isEff_cls.2 (.inl hcls)) with h | h
    · exact h2 _ _ h hk hj
    · exact h3 _ _ h hj
  -- where a number comes from
  have hcase : ∀ f e b, φ f e = some b → f < (stAt ents sN k0).next ∨ ∃ j x, ents[j]? = some x ∧ x.cls = 2 ∧ k0 ≤ j ∧ D j ∧ f = (stAt ents sN j).next := by
    intro f e b hb
    rcases hdom f e b hb with h | ⟨j, x, h4, h5, h6, h7⟩
    · exact .inl (Nat.lt_of_lt_of_le h (O.mono (Nat.zero_le _)))
    · rcases Nat.lt_or_ge j k0 with hj | hj
      · exact .inl (Nat.lt_of_lt_of_le h7 (O.mono hj))
      · obtain ⟨h8, h9⟩ := O.gap hE h5 (hno j x h4 hj h5) h6 h7
        exact .inr ⟨j, x, h5, h8, hj, h4, h9⟩
  by_cases hex : ∃ c', ∃ y, Eff (Region.before ops) ents y c' ∧ k0 ≤ c'
  · obtain ⟨c', ⟨y, hy, hkc⟩, hleast⟩ := exists_least hex
    have hquiet : ∀ j x, k0 ≤ j → j < c' → ents[j]? = some x → x.cls ≠ 3 := by
      intro j x hj hjc hx hcls
      rcases eff_or_tail (bits := Region.before ops) hx (isEff_cls.2 (.inl hcls)) with h | h
      · have := hleast j ⟨x, h, hj⟩; omega
      · have := O.bit_lt (O.good.last _ _ _ _ hy h); omega
    refine .inl ⟨y, c', hy, h2 _ _ hy hkc, fun z k hz hk => ?_, ?_⟩
    · rcases Nat.lt_or_ge k k0 with h | h
      · exact h1 _ _ hz h
      · have := hleast k ⟨z, hz, h⟩; omega
    · refine hR.congr fun f e b hb => ?_
      have hcut := O.cut hE c'
      rcases hcase f e b hb with hf | ⟨j, x, hx, hcls, hkj, hDj, rfl⟩
      · rw [hlo f hf, hcut.lo f (Nat.lt_of_lt_of_le hf (O.mono hkc))]
        exact O.keep hE c' hkc (fun j x h4 h5 hx hcls => absurd hcls (hquiet j x h4 h5 hx)) (.inl hf)
      · rw [hhi j x hx hcls hkj hDj]
        rcases Nat.lt_trichotomy j c' with h | h | h
        · have hlt := (O.made_lt hE hx hcls).1
          rw [hcut.lo _ (Nat.lt_of_lt_of_le (by omega) (O.mono (show j + 1 ≤ c' from h)))]
          exact O.keep hE c' h (fun i z h4 h5 hz hzc => absurd hzc (hquiet i z (by omega) h5 hz)) (.inl (by omega))
        · subst h
          rw [hy.1] at hx
          cases hx
          have := isEff_cls.1 hy.2.1
          omega
        · exact hcut.hi j x hx hcls h
  · have hnone : ∀ z k, Eff (Region.before ops) ents z k → k < k0 := by
      intro z k hz
      rcases Nat.lt_or_ge k k0 with h | h
      · exact h
      · exact absurd ⟨k, z, hz, h⟩ hex
    obtain ⟨m, hm, hml, hmt, hme, hmo, hmm, hcut⟩ := O.mid hE
    have hkm : k0 ≤ m := by
      rcases hk0 with rfl | ⟨y, c, hy, rfl⟩
      · exact Nat.zero_le _
      · exact hme _ _ hy
    have hquiet : ∀ j x, k0 ≤ j → j < m → ents[j]? = some x → x.cls ≠ 3 := by
      intro j x hj hjc hx hcls
      rcases eff_or_tail (bits := Region.before ops) hx (isEff_cls.2 (.inl hcls)) with h | h
      · have := hnone _ _ h; omega
      · have := hmt _ _ h; omega
    refine .inr ⟨fun z k hz => h1 _ _ hz (hnone _ _ hz), midSt sN (tailsOf (Region.before ops) ents), ?_, fun f => .inr ⟨fun t k ht hk => absurd hk (h3 _ _ ht), rfl⟩⟩
    refine hR.congr fun f e b hb => ?_
    rw [hm]
    rcases hcase f e b hb with hf | ⟨j, x, hx, hcls, hkj, hDj, rfl⟩
    · rw [hlo f hf]
      exact O.keep hE m hkm (fun j x h4 h5 hx hcls => absurd hcls (hquiet j x h4 h5 hx)) (.inl hf)
    · rw [hhi j x hx hcls hkj hDj]
      have hlt := (O.made_lt hE hx hcls).1
      exact O.keep hE m (hmm _ _ hx hcls) (fun i z h4 h5 hz hzc => absurd hzc (hquiet i z (by omega) h5 hz)) (.inl (by omega))

/-- Ahead of all. -/
theorem Known.start (hE : E.Fine B w₀) (O : Known E call ops ents sN aN pn) {φ : Phi} {w : World} (hR : R B w₀ φ (stAt ents sN 0).get w) : Dom ents sN (fun _ => False) φ ∧ Mem B w₀ ops ents sN φ (fun _ => False) w := by
  have hdom : Dom ents sN (fun _ => False) φ := fun f e b hb => .inl ((O.fresh 0).lt (hR.dom _ _ _ hb))
  exact ⟨hdom, O.advance hE (fun _ h => h.elim) hR hdom (k0 := 0) (.inl rfl) (fun _ _ _ h => by omega) (fun _ _ _ _ h => h) (fun _ _ _ h => h) (fun _ _ => rfl) (fun _ _ _ _ _ h => h.elim)⟩

/-- What does nothing leaves memory as it was. -/
theorem Mem.skip {φ : Phi} {D : Nat → Prop} {w : World} (h : Mem B w₀ ops ents sN φ D w) {i : Nat} {x : Ent} (hx : ents[i]? = some x) (hn : isEff x = false) : Mem B w₀ ops ents sN φ (fun j => j = i ∨ D j) w := by
  have hne : ∀ {z : Ent} {k : Nat}, ents[k]? = some z → isEff z = true → k ≠ i := by
    rintro z k hz hez rfl
    rw [hx] at hz
    cases hz
    rw [hn] at hez
    simp at hez
  rcases h with ⟨y, c, h1, h2, h3, h4⟩ | ⟨h1, σ, h2, h3⟩
  · exact .inl ⟨y, c, h1, fun h => h.elim (hne h1.1 h1.2.1) h2, fun z k hz hk => .inr (h3 z k hz hk), h4⟩
  · refine .inr ⟨fun z k hz => .inr (h1 z k hz), σ, h2, fun f => ?_⟩
    rcases h3 f with ⟨t, k, g1, g2, g3, g4, g5⟩ | ⟨g1, g2⟩
    · exact .inl ⟨t, k, g1, .inr g2, g3, fun t' k' ht hk => g4 t' k' ht (hk.resolve_left (hne ht.1 ht.2.1)), g5⟩
    · exact .inr ⟨fun t k ht hk => g1 t k ht (hk.resolve_left (hne ht.1 ht.2.1)), g2⟩

/-- A number that no operation has made has no place. -/
theorem Known.unmade (hE : E.Fine B w₀) (O : Known E call ops ents sN aN pn) {D : Nat → Prop} {φ : Phi} (hdom : Dom ents sN D φ) {i : Nat} {x : Ent} (hx : ents[i]? = some x) (hcls : x.cls = 2) (hi : ¬ D i) : ∀ e, φ (stAt ents sN i).next e = none := by
  intro e
  cases hb : φ (stAt ents sN i).next e with
  | none => rfl
  | some b =>
    exfalso
    rcases hdom _ _ _ hb with h | ⟨j, y, h1, h2, h3, h4⟩
    · have := O.mono (Nat.zero_le i); omega
    · rcases Nat.lt_trichotomy j i with h | h | h
      · have := O.mono (show j + 1 ≤ i from h); omega
      · exact hi (h ▸ h1)
      · have := O.mono (show i + 1 ≤ j from h)
        have := (O.made_lt hE hx hcls).1
        omega

/-- What is made is what it was in the text's order. -/
theorem Known.made_keep (hE : E.Fine B w₀) (O : Known E call ops ents sN aN pn) {D : Nat → Prop} (hc : Closed ops D) {i : Nat} {x : Ent} (hx : ents[i]? = some x) (hcls : x.cls = 2) (hi : ¬ D i) {c : Nat} (hic : i < c)
    (hall : ∀ z k, ents[k]? = some z → z.cls = 3 → i < k → k < c → Eff (Region.before ops) ents z k ∧ D k) : (stAt ents sN c).get (stAt ents sN i).next = (stAt ents sN (i + 1)).get (stAt ents sN i).next := by
  have hlt := (O.made_lt hE hx hcls).1
  refine O.keep hE c hic (fun j z h5 h6 hz hzc => ?_) (.inl (by omega))
  obtain ⟨hy, hDj⟩ := hall z j hz hzc (by omega) h6
  rcases O.good.makes x i z j hx hcls hy (by omega) with h | h | h
  · omega
  · exact absurd (hc j hDj i h) hi
  · have h4 := (O.ent j z hy.1)
    rw [(O.ent i x hx).2.1, h4.2.1, (h4.2.2.2.does hzc).2.1] at h
    exact h.symm

theorem Known.made_dom (hE : E.Fine B w₀) (O : Known E call ops ents sN aN pn) {D : Nat → Prop} {φ : Phi} (hdom : Dom ents sN D φ) {i : Nat} {x : Ent} (hx : ents[i]? = some x) (hcls : x.cls = 2) (k : Blk) :
    Dom ents sN (fun j => j = i ∨ D j) (withNew φ (stAt ents sN i).next 0 k) := by
  have hlt := (O.made_lt hE hx hcls).1
  intro f e b hb
  rcases withNew_case hb with ⟨rfl, _, _⟩ | hb
  · exact .inr ⟨i, x, .inl rfl, hx, Nat.le_refl _, by omega⟩
  · rcases hdom f e b hb with h | ⟨j, z, h1, h2⟩
    · exact .inl h
    · exact .inr ⟨j, z, .inr h1, h2⟩

theorem not_eff_of_made {x : Ent} (hcls : x.cls = 2) : isEff x = false := by simp [isEff, hcls]

theorem Known.make1 (hE : E.Fine B w₀) (O : Known E call ops ents sN aN pn) {D : Nat → Prop} (hc : Closed ops D) {φ φ' : Phi} {w' : World} (hdom : Dom ents sN D φ) {i : Nat} {x : Ent} (hx : ents[i]? = some x) (hcls : x.cls = 2) (hi : ¬ D i) {obj : AObj}
    (hobj : stAt ents sN (i + 1) = (stAt ents sN i).push obj) (y : Ent) (c : Nat) (h1 : Eff (Region.before ops) ents y c) (h2 : ¬ D c) (h3 : ∀ z k, Eff (Region.before ops) ents z k → k < c → D k)
    (hR : ∃ k, φ' = withNew φ (stAt ents sN i).next 0 k ∧ R B w₀ φ' (fun f => if f = (stAt ents sN i).next then some obj else (withMade c ents.zipIdx (stAt ents sN c)).get f) w') :
    Dom ents sN (fun j => j = i ∨ D j) φ' ∧ Mem B w₀ ops ents sN φ' (fun j => j = i ∨ D j) w' := by
  have hget : (stAt ents sN (i + 1)).get (stAt ents sN i).next = some obj := by rw [hobj, St.get_push, if_pos rfl]
  have hlt := (O.made_lt hE hx hcls).1
  obtain ⟨k, hk, hR⟩ := hR
  refine ⟨hk ▸ O.made_dom hE hdom hx hcls k, Mem.skip (D := D) (.inl ⟨y, c, h1, h2, h3, hR.congr fun f e b hb => ?_⟩) hx (not_eff_of_made hcls)⟩
  by_cases hf : f = (stAt ents sN i).next
  · rw [if_pos hf, hf, ← hget]
    have hcut := O.cut hE c
    rcases Nat.lt_trichotomy i c with h | h | h
    · rw [hcut.lo _ (Nat.lt_of_lt_of_le (by omega) (O.mono (show i + 1 ≤ c from h)))]
      refine O.made_keep hE hc hx hcls hi h fun z j hz hzc h5 h6 => ?_
      rcases eff_or_tail (bits := Region.before ops) hz (isEff_cls.2 (.inl hzc)) with h7 | h7
      · exact ⟨h7, h3 z j h7 h6⟩
      · have := O.bit_lt (O.good.last _ _ _ _ h1 h7); omega
    · subst h
      rw [h1.1] at hx
      cases hx
      have := isEff_cls.1 h1.2.1
      omega
    · exact hcut.hi i x hx hcls h
  · rw [if_neg hf]

theorem Known.make2 (hE : E.Fine B w₀) (O : Known E call ops ents sN aN pn) {D : Nat → Prop} (hc : Closed ops D) {φ φ' : Phi} {w' : World} (hdom : Dom ents sN D φ) {i : Nat} {x : Ent} (hx : ents[i]? = some x) (hcls : x.cls = 2) (hi : ¬ D i) {obj : AObj}
    (hobj : stAt ents sN (i + 1) = (stAt ents sN i).push obj) (σ : St) (h1 : ∀ z k, Eff (Region.before ops) ents z k → D k) (h3 : ∀ f, TailLast ops ents sN D f (σ.get f))
    (hR : ∃ k, φ' = withNew φ (stAt ents sN i).next 0 k ∧ R B w₀ φ' (fun f => if f = (stAt ents sN i).next then some obj else σ.get f) w') :
    Dom ents sN (fun j => j = i ∨ D j) φ' ∧ Mem B w₀ ops ents sN φ' (fun j => j = i ∨ D j) w' := by
  have hget : (stAt ents sN (i + 1)).get (stAt ents sN i).next = some obj := by rw [hobj, St.get_push, if_pos rfl]
  have hran := ((O.ent i x hx).2.2.2.make hcls).1
  obtain ⟨k, hk, hR⟩ := hR
  refine ⟨hk ▸ O.made_dom hE hdom hx hcls k, Mem.skip (D := D) (.inr ⟨h1, σ, hR.congr fun f e b hb => ?_, h3⟩) hx (not_eff_of_made hcls)⟩
  by_cases hf : f = (stAt ents sN i).next
  · rw [if_pos hf, hf, ← hget]
    obtain ⟨m, hm, hml, hmt, hme, hmo, hmm, hcut⟩ := O.mid hE
    rcases h3 (stAt ents sN i).next with ⟨t, j, g1, g2, _⟩ | ⟨_, g2⟩
    · exact absurd (hc j g2 i ((isTail_spec g1.2.2).2.2 x i hx hran (.inr (.inl hcls)))) hi
    · rw [g2, hm]
      refine O.made_keep hE hc hx hcls hi (hmm _ _ hx hcls) fun z j hz hzc h5 h6 => ?_
      rcases eff_or_tail (bits := Region.before ops) hz (isEff_cls.2 (.inl hzc)) with h7 | h7
      · exact ⟨h7, h1 z j h7⟩
      · have := hmt _ _ h7; omega
  · rw [if_neg hf]

/-- What looks at memory sees what it saw in the text's order. -/
theorem Known.looksAt (hE : E.Fine B w₀) (O : Known E call ops ents sN aN pn) {D : Nat → Prop} (hc : Closed ops D) {φ : Phi} {w : World} (hM : Mem B w₀ ops ents sN φ D w) {i : Nat} {x : Ent} (hx : ents[i]? = some x) (hcls : x.cls = 1) (hi : ¬ D i)
    (hb : ∀ j, bit ops i j = true → D j) (h4 : ∀ z k, ents[k]? = some z → D k → z.cls ≠ 4) : ∃ σ : St, R B w₀ φ σ.get w ∧ seenAt E x σ := by
  have hran := ((O.ent i x hx).2.2.2.look hcls).1
  have hsp : ∀ y c, Eff (Region.before ops) ents y c → _ := fun y c hy => sees_spec (E := E) (x := x) hc hi hb (effsOf (Region.before ops) ents) (effsOf_sorted _ _) (fun z hz hD => h4 z.1 z.2 (mem_effsOf.1 hz).1 hD) (O.good.looks y c hy x i hx hcls hran)
  rcases hM with ⟨y, c, h1, h2, h3, h5⟩ | ⟨h1, σ, h2, h3⟩
  · have := (hsp y c h1).2 (y, c) (mem_effsOf.2 h1) h2 (fun z hz hlt => h3 z.1 z.2 (mem_effsOf.1 hz) hlt)
    rw [(O.ent c y h1.1).2.1] at this
    exact ⟨_, h5, this⟩
  · have hσ : ∀ f, σ.get f = (midSt sN (tailsOf (Region.before ops) ents)).get f := by
      intro f
      rcases h3 f with ⟨t, j, g1, g2, _⟩ | ⟨_, g2⟩
      · exact absurd (hc j g2 i ((isTail_spec g1.2.2).2.2 x i hx hran (.inl hcls))) hi
      · exact g2
    have hRm : R B w₀ φ (midSt sN (tailsOf (Region.before ops) ents)).get w := h2.congr fun f _ _ _ => (hσ f).symm
    by_cases hex : ∃ y c, Eff (Region.before ops) ents y c
    · obtain ⟨y, c, hy⟩ := hex
      have := (hsp y c hy).1 (fun z hz => h1 z.1 z.2 (mem_effsOf.1 hz))
      refine ⟨_, hRm.congr fun f _ _ _ => withMade_keep _ _ ?_, this⟩
      rintro ⟨z, k⟩ hz _ hk
      have := (List.getElem?_eq_some_iff.1 (mem_zip.1 hz)).1
      simp at hk
      omega
    · obtain ⟨m, hm, hml, hmt, hme, hmo, hmm, hcut⟩ := O.mid hE
      obtain ⟨_, g2, g3, g4⟩ := O.ent i x hx
      obtain ⟨_, g5, g6, g7⟩ := g4.look hcls
      refine ⟨_, hRm, ?_⟩
      have hsub : Sub x.s (midSt sN (tailsOf (Region.before ops) ents)) := by
        intro f o hf
        rw [hm]
        rw [g2] at hf
        rw [O.keep hE m (Nat.le_of_lt (hmo _ _ hx hcls)) (fun j z h5 h6 hz hzc => ?_) (.inl ((O.fresh i).lt (by simp [hf])))]
        · exact hf
        · exfalso
          rcases eff_or_tail (bits := Region.before ops) hz (isEff_cls.2 (.inl hzc)) with h7 | h7
          · exact hex ⟨_, _, h7⟩
          · have := hmt _ _ h7; omega
      exact ⟨_, (quiet_sub hsub g6 g7).2⟩

end

end Go.Ai

/-
  THE SHORT RUN, 25: statements whose order is open: one operation more.
-/
set_option linter.unusedSimpArgs false
set_option linter.unusedVariables false
set_option linter.unusedSectionVars false
namespace Go.Ai
open Go

theorem Closed.add {ops : Array Oper} {D : Nat → Prop} (hc : Closed ops D) {i : Nat} (hb : ∀ j, bit ops i j = true → D j) : Closed ops (fun j => j = i ∨ D j) := by
  intro j hj k hk
  rcases hj with rfl | hj
  · exact .inr (hb _ hk)
  · exact .inr (hc _ hj _ hk)

/-- Fewer numbers at the end of a step. -/
theorem Step.to_low {n m : Nat} {φ φ' : Phi} {w w' : World} (h : Step n φ w φ' w') (hn : ∀ f e b, φ f e = some b → f < m) : Step n φ w (low m φ') w' :=
  ⟨fun f e b hb => low_of (h.ext _ _ _ hb) (hn _ _ _ hb), fun f e b hb => h.new _ _ _ (low_some hb).1, h.frame, h.size, h.os, h.tape, h.output, fun f e b hb => h.fam _ _ _ (low_some hb).1⟩

theorem aStore_at {E : Env} {s s' : St} {t : TypeId} {x v : Value} (h : aStore E s t x v = some s') :
    ∃ a obj, x = .pointer (some a) ∧ a.spot.isSome = true ∧ s' = s.put a.block obj ∧ ∀ σ : St, σ.get a.block = s.get a.block → aStore E σ t x v = some (σ.put a.block obj) := by
  unfold aStore at h
  split at h
  next a =>
    split at h
    next => simp at h
    next n hn =>
      split at h
      next hc =>
        unfold writeN at h
        split at h
        next => simp at h
        next e he =>
          split at h
          next cells esz ep lw hist hg =>
            split at h
            next hcc =>
              cases h
              refine ⟨a, _, rfl, by simp [he], rfl, fun σ hσ => ?_⟩
              simp only [aStore, hn, hc, if_true, writeN, he, hσ, hg, hcc]
              rfl
            next => simp at h
          next => simp at h
      next => simp at h
  next => simp at h

section
variable {E : Env} {B : Nat} {w₀ : World} {call : Caller} {ops : Array Oper} {ents : List Ent} {sN : St} {aN : AAct} {pn : Option (Nat × Value × St)}

theorem Opened.operOk (O : Opened E call ops ents sN aN pn) {i : Nat} {x : Ent} (hx : ents[i]? = some x) : (∀ q ∈ x.o.op.operands, opndOk E.P q = true) ∧ shapeOk x.o.op = true := by
  have hoo : Go.Ai.operOk E.P x.o = true := O.ok x.o (by
    have := Array.mem_of_getElem? (O.ent i x hx).1
    simpa using this)
  unfold Go.Ai.operOk at hoo
  simp only [Bool.and_eq_true, Array.all_eq_true_iff_forall_mem] at hoo
  exact hoo

/-- What is ready names what it named in the text's order. -/
theorem Opened.same_eval (O : Opened E call ops ents sN aN pn) {D : Nat → Prop} (hc : Closed ops D) {i : Nat} {x : Ent} (hx : ents[i]? = some x) (hi : ¬ D i) (hb : ∀ j, bit ops i j = true → D j) {aD : AAct}
    (hl : aD.tmps.length = (acAt ents aN 0).tmps.length) (hD : ∀ t v, TV ents (acAt ents aN 0) D t v → aD.tmps[t]? = some v) :
    (∀ q ∈ x.o.op.operands, aD.eval q = x.a.eval q) ∧ aWanted ops aD.tmps x.o = aWanted ops x.a.tmps x.o := by
  have hlen : x.a.tmps.length = (acAt ents aN 0).tmps.length := by
    rw [(O.ent i x hx).2.2.1]
    exact (O.act i (Nat.le_of_lt (List.getElem?_eq_some_iff.1 hx).1)).1
  have key : ∀ t, t ∈ namesOf ops x.o → aD.tmps[t]? = x.a.tmps[t]? := by
    intro t ht
    cases hv : x.a.tmps[t]? with
    | some v => exact hD t v (O.ready_tmp hc hx hi hb ht hv)
    | none =>
      rw [List.getElem?_eq_none_iff] at hv ⊢
      rw [hl, ← hlen]
      exact hv
  constructor
  · intro q hq
    cases q with
    | tmp t =>
      have := key t (by
        unfold namesOf Oper.looksAt
        simp only [List.mem_append, List.mem_filterMap]
        exact .inr (.inl ⟨.tmp t, by simpa using hq, rfl⟩))
      simp only [AAct.eval, List.getD_eq_getElem?_getD, this]
    | _ => rfl
  · unfold aWanted
    cases hg : x.o.guard with
    | none => rfl
    | some jw =>
      obtain ⟨j, want⟩ := jw
      simp only
      cases hd : (ops[j]?).bind (·.dst) with
      | none => simp
      | some d =>
        have := key d (by
          unfold namesOf Oper.looksAt
          simp only [List.mem_append]
          exact .inr (.inr (by simp [hg, hd])))
        simp only [Option.bind_some, this]

/-- What holds when the operations D have run. -/
def Inv (B : Nat) (w₀ : World) (ops : Array Oper) (ents : List Ent) (sN : St) (aN : AAct) (φ0 : Phi) (wI : World) (D : Nat → Prop) (ca : Act) (w : World) : Prop :=
  ∃ φ aD, Step (stAt ents sN 0).next φ0 wI φ w ∧ Dom ents sN D φ ∧ VAct B φ aD ca ∧ aD.tmps.length = (acAt ents aN 0).tmps.length ∧ aD.defers = (acAt ents aN 0).defers ∧
    (∀ t v, TV ents (acAt ents aN 0) D t v → aD.tmps[t]? = some v) ∧ Mem B w₀ ops ents sN φ D w

theorem Mem.some {φ : Phi} {D : Nat → Prop} {w : World} (h : Mem B w₀ ops ents sN φ D w) : ∃ σ : St, R B w₀ φ σ.get w := by
  rcases h with ⟨y, c, _, _, _, h⟩ | ⟨_, σ, h, _⟩
  · exact ⟨_, h⟩
  · exact ⟨_, h⟩

/-- An operation that looks at no memory. -/
theorem plain_wp (hE : E.Fine B w₀) {φ : Phi} {σ : St} {w : World} {ca : Act} {x : Ent} (hP : Plainly E x) (hR : R B w₀ φ σ.get w) (hρ : ∀ q ∈ x.o.op.operands, V B φ (x.a.eval q) (ca.eval q)) (hs : shapeOk x.o.op = true)
    {K : Act → World → Prop} {Q : Exit → Act → World → Prop} (hK : ∀ w' v', Grew w w' → V B φ x.v v' → K (ca.put x.o.dst v') w') : x.o.wp E.P ca w K Q := by
  unfold Oper.wp
  rcases hP with ⟨h1, h2⟩ | ⟨f, args, ats, g, first, captured, F, h1, h2, h3, h4⟩
  · obtain ⟨_, v', g1, g2⟩ := aVal_quiet hE.toOk hR hρ hs h1 (h2 σ)
    rw [g1]
    exact hK w v' (Grew.refl w) g2
  · simp only [h1, Op.operands, Call.operands] at hρ
    have hf := hρ f (by simp)
    have hargs : VA B φ (args.map x.a.eval) (args.map ca.eval) := VA.map args fun y hy => hρ y (by simp [hy])
    rw [h2] at hf
    generalize hcf : ca.eval f = cf at hf
    cases hf with
    | func _ k1 k2 k3 k4 =>
      rename_i first' captured'
      have hrun : (execOp ca.eval x.o).run E.P w = (callFunc g ((first' ++ args.map ca.eval) ++ captured')).run E.P w := by
        simp only [execOp, h1, resolve, Sem.run_bind, hcf, Deferred.ofValue, Sem.run_pure, Result.andThen_ok, invoke]
      rw [hrun]
      obtain ⟨p1, p2, p3⟩ := hE.known _ _ _ _ h3 h4
      have e1 : VL B φ first.toList first'.toList := VA.toList ⟨k1, k2⟩
      have e2 : VL B φ captured.toList captured'.toList := VA.toList ⟨k3, k4⟩
      have e3 := hargs.toList
      simp only [Array.toList_map] at e3
      have e4 := VL.append hE.toOk (VL.append hE.toOk e1 e3) e2
      have hflat := e4.flat p1
      have hca : (first' ++ args.map ca.eval) ++ captured' = (first.toList ++ args.toList.map x.a.eval ++ captured.toList).toArray := by
        apply Array.toList_inj.1
        simp only [Array.toList_append, Array.toList_map]
        exact hflat
      rw [hca]
      have hvv := V.refl_of_flat B φ x.v p2
      rcases p3 w hR.old hR.size with p4 | ⟨p4, p5⟩
      · rw [p4]
        exact hK w x.v (Grew.refl w) hvv
      · rw [p4]
        refine p5.mono ?_
        rintro e w' ⟨rfl, hw⟩
        exact hK w' x.v hw hvv

/-- What memory an operation that does something can know. -/
theorem Known.known_low (hE : E.Fine B w₀) (O : Known E call ops ents sN aN pn) {D : Nat → Prop} (hc : Closed ops D) {φ : Phi} (hdom : Dom ents sN D φ) {y : Ent} {c : Nat} (hy : Eff (Region.before ops) ents y c) (hD : ¬ D c) :
    ((∀ f e b, φ f e = some b → f < (stAt ents sN c).next) ∨ (underSt (stAt ents sN c) = true ∧ ∀ q ∈ y.o.op.operands, under (stAt ents sN c).next (y.a.eval q) = true)) ∧
    ∀ f e b, φ f e = some b → f < (stAt ents sN c).next ∨ (stAt ents sN (c + 1)).next ≤ f := by
  obtain ⟨hb1, hb2⟩ := O.behind hc hy hD
  have hcase : ∀ f e b, φ f e = some b → f < (stAt ents sN c).next ∨ ∃ j x, c < j ∧ D j ∧ ents[j]? = some x ∧ x.cls = 2 ∧ (stAt ents sN (c + 1)).next ≤ f := by
    intro f e b hb
    rcases hdom f e b hb with h | ⟨j, x, h1, h2, h3, h4⟩
    · exact .inl (Nat.lt_of_lt_of_le h (O.mono (Nat.zero_le _)))
    · rcases Nat.lt_trichotomy j c with h | h | h
      · exact .inl (Nat.lt_of_lt_of_le h4 (O.mono (show j + 1 ≤ c from h)))
      · exact absurd (h ▸ h1) hD
      · have h3' : x.cls ≠ 3 := by
          intro hcls
          rcases eff_or_tail (bits := Region.before ops) h2 (isEff_cls.2 (.inl hcls)) with h7 | h7
          · exact hb2 _ _ h7 (Nat.le_of_lt h) h1
          · exact hb1 _ _ h7 h1
        exact .inr ⟨j, x, h, h1, h2, (O.gap hE h2 h3' h3 h4).1, Nat.le_trans (O.mono (show c + 1 ≤ j from h)) h3⟩
  refine ⟨?_, fun f e b hb => ?_⟩
  · have hk := O.good.knows y c hy
    unfold knowsOk at hk
    rw [Bool.or_eq_true] at hk
    rcases hk with hk | hk
    · left
      intro f e b hb
      rcases hcase f e b hb with h | ⟨j, x, h1, h2, h3, h4, _⟩
      · exact h
      · exfalso
        rw [List.all_eq_true] at hk
        have := hk _ (mem_zip.2 h3)
        simp only [h4, ne_eq, not_true, decide_false, Bool.false_or, Bool.or_eq_true, decide_eq_true_eq] at this
        rcases this with h | h
        · omega
        · exact hD (hc j h2 c h)
    · right
      simp only [Bool.and_eq_true, Array.all_eq_true_iff_forall_mem] at hk
      rw [(O.ent c y hy.1).2.1] at hk
      exact hk
  · rcases hcase f e b hb with h | ⟨j, x, _, _, _, _, h⟩
    · exact .inl h
    · exact .inr h

theorem Mem.at {φ : Phi} {D : Nat → Prop} {w : World} (O : Known E call ops ents sN aN pn) (hc : Closed ops D) (h : Mem B w₀ ops ents sN φ D w) {x : Ent} {i : Nat} (hx : Eff (Region.before ops) ents x i) (hi : ¬ D i) (hb : ∀ j, bit ops i j = true → D j) :
    (∀ z k, Eff (Region.before ops) ents z k → k < i → D k) ∧ R B w₀ φ (withMade i ents.zipIdx (stAt ents sN i)).get w := by
  rcases h with ⟨y, c, h1, h2, h3, h4⟩ | ⟨h1, _⟩
  · have : i = c := by
      rcases Nat.lt_trichotomy i c with h | h | h
      · exact absurd (h3 _ _ hx h) hi
      · exact h
      · exact absurd (hb c (O.good.inRow _ _ _ _ h1 hx h)) h2
    subst this
    exact ⟨h3, h4⟩
  · exact absurd (h1 _ _ hx) hi

/-- An operation that does something. -/
theorem Known.effect (hE : E.Fine B w₀) (hcall : CallOk E B w₀ call) (O : Known E call ops ents sN aN pn) {D : Nat → Prop} (hc : Closed ops D) {φ : Phi} {w : World} {ca : Act} (hdom : Dom ents sN D φ) (hM : Mem B w₀ ops ents sN φ D w)
    {i : Nat} {x : Ent} (hx : Eff (Region.before ops) ents x i) (hi : ¬ D i) (hb : ∀ j, bit ops i j = true → D j) (hρ : ∀ q ∈ x.o.op.operands, V B φ (x.a.eval q) (ca.eval q))
    {K : Act → World → Prop} {Q : Exit → Act → World → Prop}
    (hK : x.cls = 3 → ∀ φ' w' v', Step (stAt ents sN i).next φ w φ' w' → Dom ents sN (fun j => j = i ∨ D j) φ' → Mem B w₀ ops ents sN φ' (fun j => j = i ∨ D j) w' → V B φ' x.v v' → K (ca.put x.o.dst v') w')
    (hQ : ∀ v s', pn = some (i, v, s') → ∀ φ' w' v', Step (stAt ents sN i).next (low (stAt ents sN i).next φ) w φ' w' → R B w₀ φ' s'.get w' → s'.Fresh → (stAt ents sN i).next ≤ s'.next → V B φ' v v' → Q (.panic [{ v := v', recovered := false }]) ca w') :
    x.o.wp E.P ca w K Q := by
  obtain ⟨g1, g2, g3, g4⟩ := O.ent i x hx.1
  obtain ⟨hbefore, hR⟩ := hM.at O hc hx hi hb
  obtain ⟨hknow, hgap⟩ := O.known_low hE hc hdom hx hi
  have hcut := O.cut hE i
  have hF := O.fresh i
  have hRl : R B w₀ (low (stAt ents sN i).next φ) (stAt ents sN i).get w := hR.cut_low hcut.lo (hknow.imp id fun h => h.1)
  have hρl : ∀ q ∈ x.o.op.operands, V B (low (stAt ents sN i).next φ) (x.a.eval q) (ca.eval q) := by
    intro q hq
    rcases hknow with h | ⟨_, h⟩
    · exact (hρ q hq).mono fun f e k hk => low_of hk (h _ _ _ hk)
    · exact (hρ q hq).cut_low (h q hq)
  have hsh := (O.operOk hx.1).2
  have hcls := isEff_cls.1 hx.2.1
  rcases hcls with hcls | hcls
  · obtain ⟨_, h1, h2⟩ := g4.does hcls
    rw [g2] at h2
    refine aOp_sim hE hcall hRl hF (fun q hq _ => hρl q hq) hsh h2 ?_
    intro φ' w' v' k1 k2 k3 k4 k5
    obtain ⟨j1, j2, j3⟩ := hR.join_low k1 k2 k4 k5 hgap
    have hc' := hc.add hb
    obtain ⟨hb1, hb2⟩ := O.behind hc hx hi
    have hdom' : Dom ents sN (fun j => j = i ∨ D j) (joined (stAt ents sN (i + 1)).next φ' φ) := by
      intro f e b hfb
      have old : ∀ e₀ k₀, φ f e₀ = some k₀ → f < (stAt ents sN 0).next ∨ ∃ j x, (j = i ∨ D j) ∧ ents[j]? = some x ∧ (stAt ents sN j).next ≤ f ∧ f < (stAt ents sN (j + 1)).next := by
        intro e₀ k₀ h₀
        rcases hdom f e₀ k₀ h₀ with h | ⟨j, z, h1, h2⟩
        · exact .inl h
        · exact .inr ⟨j, z, .inr h1, h2⟩
      unfold joined at hfb
      split at hfb
      next hl =>
        rcases k1.fam _ _ _ hfb with ⟨e₀, k₀, h₀⟩ | h₀
        · exact old _ _ (low_some h₀).1
        · exact .inr ⟨i, x, .inl rfl, hx.1, h₀, hl⟩
      next => exact old _ _ hfb
    refine hK hcls _ w' v' j1 hdom' ?_ (k3.mono j3)
    refine O.advance hE hc' j2 hdom' (k0 := i + 1) (.inr ⟨x, i, hx, rfl⟩) (fun z k hz hk => ?_) (fun z k hz hk => ?_) (fun z k hz hk => ?_) (fun f hf => if_pos hf) (fun j z hz hzc hij hDj => ?_)
    · rcases Nat.lt_or_ge k i with h | h
      · exact .inr (hbefore _ _ hz h)
      · exact .inl (by omega)
    · rintro (h | h)
      · omega
      · exact hb2 _ _ hz (by omega) h
    · rcases hk with h | h
      · subst h
        have h5 := hx.2.2
        have h6 := hz.2.2
        have h7 := hz.1
        rw [hx.1] at h7
        cases h7
        rw [h5] at h6
        simp at h6
      · exact hb1 _ _ hz h
    · have := O.mono hij
      rw [if_neg (by omega)]
      exact hcut.hi j z hz hzc hij
  · obtain ⟨_, _, _, v, s', h2, h3⟩ := g4.pan hcls
    rw [g2] at h2
    refine aOp_sim hE hcall hRl hF (fun q hq _ => hρl q hq) hsh h2 ?_
    intro φ' w' v' k1 k2 k3 k4 k5
    exact hQ v s' h3 φ' w' v' k1 k2 k4 k5 k3

/-- A store at the end. -/
theorem Known.tail (hE : E.Fine B w₀) (hcall : CallOk E B w₀ call) (O : Known E call ops ents sN aN pn) {D : Nat → Prop} (hc : Closed ops D) {φ : Phi} {w : World} {ca : Act} (hdom : Dom ents sN D φ) (hM : Mem B w₀ ops ents sN φ D w)
    {i : Nat} {x : Ent} (hx : Tail (Region.before ops) ents x i) (hi : ¬ D i) (hb : ∀ j, bit ops i j = true → D j) (hρ : ∀ q ∈ x.o.op.operands, V B φ (x.a.eval q) (ca.eval q))
    {K : Act → World → Prop} {Q : Exit → Act → World → Prop}
    (hK : ∀ w' v' n, (stAt ents sN 0).next ≤ n → Step n φ w φ w' → Mem B w₀ ops ents sN φ (fun j => j = i ∨ D j) w' → V B φ x.v v' → K (ca.put x.o.dst v') w') :
    x.o.wp E.P ca w K Q := by
  obtain ⟨g1, g2, g3, g4⟩ := O.ent i x hx.1
  obtain ⟨t1, t2, t3⟩ := isTail_spec hx.2.2
  obtain ⟨_, h1, h2⟩ := g4.does t1
  have hstore : ∀ (y : Ent) (j : Nat), Tail (Region.before ops) ents y j → ∃ t p q a obj, y.o.op = .store t p q ∧ y.a.eval p = .pointer (some a) ∧ storeTo y = some a.block ∧ stAt ents sN (j + 1) = (stAt ents sN j).put a.block obj ∧ y.v = undef ∧
      ∀ σ : St, σ.get a.block = (stAt ents sN j).get a.block → aStore E σ t (y.a.eval p) (y.a.eval q) = some (σ.put a.block obj) := by
    intro y j hy
    obtain ⟨u1, u2, u3⟩ := isTail_spec hy.2.2
    obtain ⟨k1, k2, k3, k4⟩ := O.ent j y hy.1
    obtain ⟨_, k5, k6⟩ := k4.does u1
    cases hop : y.o.op <;> simp only [hop, isStore, Bool.false_eq_true] at u2
    rename_i t p q
    have hst : (aStore E y.s t (y.a.eval p) (y.a.eval q)).map (undef, ·) = some (y.v, stAt ents sN (j + 1)) := by
      have k6 := (aOp_clean k6).2
      unfold aOpC at k6
      simp only [hop, aVal] at k6
      cases hh : aStore E y.s t (y.a.eval p) (y.a.eval q) with
      | none => simp [hh] at k6
      | some s₁ =>
        simp only [hh, Option.map_some, Option.some.injEq, Rs.val.injEq] at k6
        simp [k6.1, k6.2]
    cases hh : aStore E y.s t (y.a.eval p) (y.a.eval q) with
    | none => simp [hh] at hst
    | some s₁ =>
      simp only [hh, Option.map_some, Option.some.injEq, Prod.mk.injEq] at hst
      obtain ⟨a, obj, p1, p2, p3, p4⟩ := aStore_at hh
      refine ⟨t, p, q, a, obj, rfl, p1, ?_, ?_, hst.1.symm, ?_⟩
      · unfold storeTo
        simp only [hop, p1, p2, if_true]
      · rw [← hst.2, p3, k2]
      · rw [← k2]; exact p4
  have other : ∀ (y : Ent) (j : Nat), Tail (Region.before ops) ents y j → ∀ f, storeTo y ≠ some f → (stAt ents sN (j + 1)).get f = (stAt ents sN j).get f := by
    intro y j hy f hf
    obtain ⟨t, p, q, a, obj, p1, p2, p3, p4, _⟩ := hstore y j hy
    rw [p4, St.get_put, if_neg]
    rintro rfl
    exact hf p3
  obtain ⟨t, p, q, a, obj, p1, p2, p3, p4, p5, p6⟩ := hstore x i hx
  obtain ⟨m, hm, hml, hmt, hme, hmo, hmm, hcut⟩ := O.mid hE
  -- the stores to the same number that have run are those that stand ahead of this one
  have hsame : ∀ y j, Tail (Region.before ops) ents y j → storeTo y = some a.block → (D j ↔ j < i) := by
    intro y j hy hys
    rcases Nat.lt_trichotomy j i with h | h | h
    · refine ⟨fun _ => h, fun _ => ?_⟩
      rcases O.good.apart _ _ _ _ hy hx h with h5 | h5
      · exact hb _ h5
      · simp [apartStores, hys, p3] at h5
    · subst h
      exact ⟨fun h => absurd h hi, fun h => by omega⟩
    · refine ⟨fun hj => ?_, fun h => by omega⟩
      rcases O.good.apart _ _ _ _ hx hy h with h5 | h5
      · exact absurd (hc j hj i h5) hi
      · simp [apartStores, hys, p3] at h5
  rcases hM with ⟨y, c, h1, h2, _⟩ | ⟨hall, σ, hR, hlast⟩
  · exact absurd (hb c (O.good.last _ _ _ _ h1 hx)) h2
  have hσ : σ.get a.block = (stAt ents sN i).get a.block := by
    have walk : ∀ k, m ≤ k → k ≤ i → (∀ y j, Tail (Region.before ops) ents y j → k ≤ j → j < i → storeTo y ≠ some a.block) → (stAt ents sN i).get a.block = (stAt ents sN k).get a.block := by
      intro k hmk hki hno
      refine O.keep hE i hki (fun j z h5 h6 hz hzc => ?_) (.inr fun j z h5 h6 hz hzc => ?_)
      · rcases eff_or_tail (bits := Region.before ops) hz (isEff_cls.2 (.inl hzc)) with h7 | h7
        · have := hme _ _ h7; omega
        · exact other z j h7 _ (hno z j h7 h5 h6)
      · have := hmm _ _ hz hzc; omega
    rcases hlast a.block with ⟨t', k, q1, q2, q3, q4, q5⟩ | ⟨q1, q2⟩
    · rw [q5]
      have hki := (hsame _ _ q1 q3).1 q2
      refine (walk (k + 1) (by have := hmt _ _ q1; omega) hki fun y j hy hj hji hys => ?_).symm
      have := q4 y j hy ((hsame _ _ hy hys).2 hji) hys
      omega
    · rw [q2, hm]
      exact (walk m (Nat.le_refl _) (hmt _ _ hx) fun y j hy hj hji hys => q1 _ _ hy ((hsame _ _ hy hys).2 hji) hys).symm
  have hst := p6 σ hσ
  simp only [p1, Op.operands] at hρ
  obtain ⟨w', e1, e2, e3, e4, e5⟩ := e_store hE.toOk hR (hρ p (by simp)) (hρ q (by simp)) hst
  have hrun : (execOp ca.eval x.o).run E.P w = .ok .skip w' := by
    simp only [execOp, p1, Sem.run_bind, e1, Result.andThen_ok, Sem.run_pure]
  unfold Oper.wp
  rw [hrun]
  refine hK w' undef (stAt ents sN 0).next (Nat.le_refl _) ⟨e2.ext, e2.new, e2.frame, e2.size, e2.os, e2.tape, e2.output, fun f e k hk => .inl ⟨_, _, hk⟩⟩ ?_ (by rw [p5]; exact V.undef_refl hE.toOk φ)
  refine .inr ⟨fun z k hz => .inr (hall _ _ hz), _, e3, fun f => ?_⟩
  rw [St.get_put]
  by_cases hf : f = a.block
  · rw [if_pos hf, hf]
    refine .inl ⟨x, i, hx, .inl rfl, p3, fun t' k' ht hk hs => ?_, by rw [p4, St.get_put, if_pos rfl]⟩
    rcases hk with hk | hk
    · omega
    · have := (hsame _ _ ht hs).1 hk; omega
  · rw [if_neg hf]
    have hxf : storeTo x ≠ some f := by rw [p3]; simpa using fun h => hf h.symm
    have hne : ∀ t' k', Tail (Region.before ops) ents t' k' → storeTo t' = some f → k' ≠ i := by
      rintro t' k' ht hs rfl
      have := ht.1
      rw [hx.1] at this
      cases this
      exact hxf hs
    rcases hlast f with ⟨t', k, q1, q2, q3, q4, q5⟩ | ⟨q1, q2⟩
    · exact .inl ⟨t', k, q1, .inr q2, q3, fun t' k' ht hk hs => q4 t' k' ht (hk.resolve_left (hne t' k' ht hs)) hs, q5⟩
    · exact .inr ⟨fun t' k' ht hk hs => q1 t' k' ht (hk.resolve_left (hne t' k' ht hs)) hs, q2⟩

end

end Go.Ai

/-
  THE SHORT RUN, 26: statements whose order is open come to what the short run says; calls do.
-/
set_option linter.unusedSimpArgs false
set_option linter.unusedVariables false
set_option linter.unusedSectionVars false
namespace Go.Ai
open Go

section
variable {E : Env} {B : Nat} {w₀ : World} {call : Caller} {ops : Array Oper} {ents : List Ent} {sN : St} {aN : AAct} {pn : Option (Nat × Value × St)}

theorem Mem.grew {φ : Phi} {D : Nat → Prop} {w w' : World} (h : Mem B w₀ ops ents sN φ D w) (hw : Grew w w') : Mem B w₀ ops ents sN φ D w' := by
  rcases h with ⟨y, c, h1, h2, h3, h4⟩ | ⟨h1, σ, h2, h3⟩
  · exact .inl ⟨y, c, h1, h2, h3, h4.grew hw⟩
  · exact .inr ⟨h1, σ, h2.grew hw, h3⟩

theorem Known.step (hE : E.Fine B w₀) (hcall : CallOk E B w₀ call) (O : Known E call ops ents sN aN pn) (hp : ∀ p v s', pn = some (p, v, s') → ∃ z, ents[p]? = some z ∧ z.cls = 4)
    {φ0 : Phi} {wI : World} {D : Nat → Prop} (hc : Closed ops D) (h45 : ∀ z k, ents[k]? = some z → D k → z.cls ≠ 4 ∧ z.cls ≠ 5) {ca : Act} {w : World} (hI : Inv B w₀ ops ents sN aN φ0 wI D ca w)
    (hφ0 : ∀ f e b, φ0 f e = some b → f < (stAt ents sN 0).next)
    {i : Nat} {x : Ent} (hx : ents[i]? = some x) (hi : ¬ D i) (hb : ∀ j, bit ops i j = true → D j) {K : Act → World → Prop} {Q : Exit → Act → World → Prop}
    (hK : x.cls ≠ 4 → x.cls ≠ 5 → ∀ ca' w', Inv B w₀ ops ents sN aN φ0 wI (fun j => j = i ∨ D j) ca' w' → K ca' w')
    (hQ : ∀ p v s', pn = some (p, v, s') → ∀ φ' w' v' ca', Step (stAt ents sN 0).next φ0 wI φ' w' → R B w₀ φ' s'.get w' → s'.Fresh → (stAt ents sN 0).next ≤ s'.next → V B φ' v v' → (∃ φ, VDs B φ (acAt ents aN 0).defers ca'.defers) →
      Q (.panic [{ v := v', recovered := false }]) ca' w') :
    wpOp E.P ops Q i K ca w := by
  obtain ⟨φ, aD, hst, hdom, hA, hlen, hdef, htv, hM⟩ := hI
  obtain ⟨g1, g2, g3, g4⟩ := O.ent i x hx
  obtain ⟨hev, hwa⟩ := O.same_eval hc hx hi hb hlen htv
  obtain ⟨hok, hsh⟩ := O.operOk hx
  have h5 : x.cls ≠ 5 := by
    intro h
    obtain ⟨_, p, v, s', h1, h2⟩ := g4.dead h
    obtain ⟨z, h3, h4⟩ := hp p v s' h1
    exact (h45 z p h3 (hb p h2)).1 h4
  have hρ : x.ran = true → ∀ q ∈ x.o.op.operands, V B φ (x.a.eval q) (ca.eval q) := fun hran q hq => by
    have := hA.eval hE.globals (hok q hq)
    rw [hev q hq] at this
    exact this (clean_iff.1 (g4.clean hran) q hq)
  have next : ∀ {φ' : Phi} {w' : World} {v' : Value} {n : Nat}, x.cls ≠ 4 → (stAt ents sN 0).next ≤ n → Step n φ w φ' w' → Dom ents sN (fun j => j = i ∨ D j) φ' → Mem B w₀ ops ents sN φ' (fun j => j = i ∨ D j) w' → V B φ' x.v v' →
      K (ca.put x.o.dst v') w' := by
    intro φ' w' v' n h4 hn k1 k2 k3 k4
    refine hK h4 h5 _ _ ⟨φ', aD.put x.o.dst x.v, hst.trans k1 hn, k2, (hA.mono k1.ext).put _ k4, ?_, ?_, O.list_tmp hc hx hi hlen htv, k3⟩
    · cases x.o.dst <;> simp [AAct.put, hlen]
    · cases x.o.dst <;> simp [AAct.put, hdef]
  have hmono := O.mono (Nat.zero_le i)
  unfold wpOp
  simp only [g1]
  rw [hA.wanted, hwa, ← g4.went h5]
  split
  next hran =>
    left
    have hρ := hρ hran
    have h6 := g4.cls
    have hcs : x.cls = 0 ∨ x.cls = 1 ∨ x.cls = 2 ∨ x.cls = 3 ∨ x.cls = 4 := by omega
    have skip : isEff x = false → x.cls ≠ 4 → ∀ w' v', Grew w w' → V B φ x.v v' → K (ca.put x.o.dst v') w' := fun hne h4 w' v' hw hv =>
      next h4 (Nat.le_refl _) hw.step (hdom.more fun _ h => .inr h) ((hM.skip hx hne).grew hw) hv
    rcases hcs with hcls | hcls | hcls | hcls | hcls
    · obtain ⟨_, hP⟩ := g4.pure hcls hran
      obtain ⟨σ, hσ⟩ := hM.some
      exact plain_wp hE hP hσ hρ hsh (skip (by simp [isEff, hcls]) (by omega))
    · obtain ⟨_, _, hq, _⟩ := g4.look hcls
      obtain ⟨σ, hσ, s', hs'⟩ := O.looksAt hE hc hM hx hcls hi hb (fun z k hz hk => (h45 z k hz hk).1)
      obtain ⟨_, v', k1, k2⟩ := aVal_quiet hE.toOk hσ hρ hsh hq hs'
      unfold Oper.wp
      rw [k1]
      exact skip (by simp [isEff, hcls]) (by omega) w v' (Grew.refl w) k2
    · obtain ⟨_, _, hal, hv⟩ := g4.make hcls
      obtain ⟨obj, h1, hmk⟩ := aVal_alloc (B := B) (w₀ := w₀) hE.toOk hal hv
      rw [g2] at h1 hmk
      have hun := O.unmade hE hdom hx hcls hi
      obtain ⟨σ, hσ⟩ := hM.some
      -- the same new place whatever memory stands beside it
      have huse : ∀ g, R B w₀ φ g w → ∃ k v' w', (execOp ca.eval x.o).run E.P w = .ok (.value v') w' ∧ Step (stAt ents sN i).next φ w (withNew φ (stAt ents sN i).next 0 k) w' ∧
          R B w₀ (withNew φ (stAt ents sN i).next 0 k) (fun f => if f = (stAt ents sN i).next then some obj else g f) w' ∧ V B (withNew φ (stAt ents sN i).next 0 k) x.v v' := fun g hg => hmk g φ w ca.eval hg hun hρ
      have hg : ∃ g, R B w₀ φ g w ∧ ∀ φ' w', (∃ k, φ' = withNew φ (stAt ents sN i).next 0 k ∧ R B w₀ φ' (fun f => if f = (stAt ents sN i).next then some obj else g f) w') →
          Dom ents sN (fun j => j = i ∨ D j) φ' ∧ Mem B w₀ ops ents sN φ' (fun j => j = i ∨ D j) w' := by
        have hM' := hM
        rcases hM with ⟨y, c, m1, m2, m3, m4⟩ | ⟨m1, σ, m2, m3⟩
        · refine ⟨_, m4, fun φ' w' hk => ?_⟩
          exact O.make1 hE hc hdom hx hcls hi h1 y c m1 m2 m3 hk
        · refine ⟨_, m2, fun φ' w' hk => ?_⟩
          exact O.make2 hE hc hdom hx hcls hi h1 σ m1 m3 hk
      obtain ⟨g, hg1, hg2⟩ := hg
      obtain ⟨k, v', w', k1, k2, k3, k4⟩ := huse g hg1
      unfold Oper.wp
      rw [k1]
      obtain ⟨k5, k6⟩ := hg2 _ _ ⟨k, rfl, k3⟩
      exact next (by omega) hmono k2 k5 k6 k4
    · rcases eff_or_tail (bits := Region.before ops) hx (isEff_cls.2 (.inl hcls)) with hx' | hx'
      · exact O.effect hE hcall hc hdom hM hx' hi hb hρ (fun _ φ' w' v' k1 k2 k3 k4 => next (by omega) hmono k1 k2 k3 k4) (fun v s' hpn => by
          obtain ⟨z, k1, k2⟩ := hp _ _ _ hpn
          rw [hx] at k1
          cases k1
          omega)
      · exact O.tail hE hcall hc hdom hM hx' hi hb hρ (fun w' v' n hn k1 k2 k3 => next (by omega) hn k1 (hdom.more fun _ h => .inr h) k2 k3)
    · have hx' : Eff (Region.before ops) ents x i := by
        rcases eff_or_tail (bits := Region.before ops) hx (isEff_cls.2 (.inr hcls)) with hx' | hx'
        · exact hx'
        · have := hx'.cls; omega
      refine O.effect hE hcall hc hdom hM hx' hi hb hρ (fun h => by omega) ?_
      intro v s' hpn φ' w' v' k1 k2 k3 k4 k5
      have hlow : Step (stAt ents sN 0).next φ0 wI (low (stAt ents sN i).next φ) w := hst.to_low fun f e b hfb => Nat.lt_of_lt_of_le (hφ0 f e b hfb) hmono
      exact hQ i v s' hpn φ' w' v' ca (hlow.trans k1 hmono) k2 k3 (Nat.le_trans hmono k4) k5 ⟨φ, hdef ▸ hA.defers⟩
  next hran =>
    obtain ⟨h1, h2, h3⟩ := g4.none (by simpa using hran)
    have hcls : x.cls = 0 := h3.resolve_right h5
    have := next (v' := undef) (by omega) (Nat.le_refl _) (Step.refl φ w) (hdom.more fun _ h => .inr h) (hM.skip hx (by simp [isEff, hcls])) (by rw [h1]; exact V.undef_refl hE.toOk φ)
    exact this

/-- All has run. -/
theorem Known.ended (O : Known E call ops ents sN aN pn) (hE : E.Fine B w₀) {φ : Phi} {D : Nat → Prop} {w : World} (hall : ∀ z k, ents[k]? = some z → D k) (h : Mem B w₀ ops ents sN φ D w) : R B w₀ φ sN.get w := by
  rcases h with ⟨y, c, h1, h2, _⟩ | ⟨_, σ, h2, h3⟩
  · exact absurd (hall _ _ h1.1) h2
  · refine h2.congr fun f e b hb => ?_
    obtain ⟨m, hm, hml, hmt, hme, hmo, hmm, hcut⟩ := O.mid hE
    have hend : stAt ents sN ents.length = sN := stAt_end (Nat.le_refl _)
    have other : ∀ (y : Ent) (j : Nat), Tail (Region.before ops) ents y j → storeTo y ≠ some f → (stAt ents sN (j + 1)).get f = (stAt ents sN j).get f := by
      intro y j hy hf
      obtain ⟨u1, u2, u3⟩ := isTail_spec hy.2.2
      obtain ⟨k1, k2, k3, k4⟩ := O.ent j y hy.1
      obtain ⟨_, k5, k6⟩ := k4.does u1
      cases hop : y.o.op <;> simp only [hop, isStore, Bool.false_eq_true] at u2
      rename_i t p q
      have k6 := (aOp_clean k6).2
      unfold aOpC at k6
      simp only [hop, aVal] at k6
      cases hh : aStore E y.s t (y.a.eval p) (y.a.eval q) with
      | none => simp [hh] at k6
      | some s₁ =>
        simp only [hh, Option.map_some, Option.some.injEq, Rs.val.injEq] at k6
        obtain ⟨a, obj, p1, p2, p3, _⟩ := aStore_at hh
        rw [← k6.2, p3, k2, St.get_put, if_neg]
        rintro rfl
        apply hf
        unfold storeTo
        simp only [hop, p1, p2, if_true]
    have walk : ∀ k, m ≤ k → k ≤ ents.length → (∀ y j, Tail (Region.before ops) ents y j → k ≤ j → storeTo y ≠ some f) → sN.get f = (stAt ents sN k).get f := by
      intro k hmk hk hno
      refine (congrArg (fun s : St => s.get f) hend).symm.trans ?_
      refine O.keep hE ents.length hk (fun j z h5 h6 hz hzc => ?_) (.inr fun j z h5 h6 hz hzc => ?_)
      · rcases eff_or_tail (bits := Region.before ops) hz (isEff_cls.2 (.inl hzc)) with h7 | h7
        · have := hme _ _ h7; omega
        · exact other z j h7 (hno z j h7 h5)
      · have := hmm _ _ hz hzc; omega
    rcases h3 f with ⟨t, k, g1, g2, g3, g4, g5⟩ | ⟨g1, g2⟩
    · rw [g5]
      refine walk (k + 1) (by have := hmt _ _ g1; omega) (List.getElem?_eq_some_iff.1 g1.1).1 fun y j hy hj hs => ?_
      have := g4 y j hy (hall _ _ hy.1) hs
      omega
    · rw [g2, hm]
      exact walk m (Nat.le_refl _) hml fun y j hy _ => g1 y j hy (hall _ _ hy.1)

theorem unlisted_count {l : List Bool} {i : Nat} (hi : i < l.length) (h : l[i] = false) : (l.set i true).count false + 1 = l.count false := by
  rw [List.count_set hi]
  have : 0 < l.count false := List.count_pos_iff.2 (h ▸ List.getElem_mem hi)
  simp [h]
  omega

theorem Known.any (hE : E.Fine B w₀) (hcall : CallOk E B w₀ call) (O : Known E call ops ents sN aN pn) (hp : ∀ p v s', pn = some (p, v, s') → ∃ z, ents[p]? = some z ∧ z.cls = 4) (hp' : pn = none ∨ ∃ p v s', pn = some (p, v, s'))
    {φ0 : Phi} {wI : World} (hφ0 : ∀ f e b, φ0 f e = some b → f < (stAt ents sN 0).next) {Q : Exit → Act → World → Prop}
    (hQ : ∀ p v s', pn = some (p, v, s') → ∀ φ' w' v' ca', Step (stAt ents sN 0).next φ0 wI φ' w' → R B w₀ φ' s'.get w' → s'.Fresh → (stAt ents sN 0).next ≤ s'.next → V B φ' v v' → (∃ φ, VDs B φ (acAt ents aN 0).defers ca'.defers) →
      Q (.panic [{ v := v', recovered := false }]) ca' w')
    (hN : pn = none → ∀ φ' w' ca', Step (stAt ents sN 0).next φ0 wI φ' w' → R B w₀ φ' sN.get w' → VAct B φ' aN ca' → Q .normal ca' w') :
    ∀ (fuel : Nat) (listed : Array Bool) (ca : Act) (w : World), listed.size = ops.size → listed.toList.count false ≤ fuel → Closed ops (fun j => listed.getD j false = true) →
      (∀ z k, ents[k]? = some z → listed.getD k false = true → z.cls ≠ 4 ∧ z.cls ≠ 5) → Inv B w₀ ops ents sN aN φ0 wI (fun j => listed.getD j false = true) ca w →
      wpAny E.P .any ops Q fuel listed ca w := by
  -- all have run
  have fin : ∀ (listed : Array Bool) (ca : Act) (w : World), listed.size = ops.size → Region.ready .any ops listed = [] →
      (∀ z k, ents[k]? = some z → listed.getD k false = true → z.cls ≠ 4 ∧ z.cls ≠ 5) → Inv B w₀ ops ents sN aN φ0 wI (fun j => listed.getD j false = true) ca w → Q .normal ca w := by
    intro listed ca w hsz hr h45 hI
    have hall : ∀ k, k < ops.size → listed.getD k false = true := by
      intro k
      induction k using Nat.strongRecOn with
      | _ k ih =>
        intro hk
        cases hl : listed.getD k false with
        | true => rfl
        | false =>
          exfalso
          have hmem : k ∈ Region.ready .any ops listed := by
            rw [mem_ready]
            have hks : k < listed.size := by rw [hsz]; exact hk
            refine ⟨?_, ops[k], Array.getElem?_eq_getElem hk, fun e he hbd => ?_⟩
            · simpa [Array.getD, hks] using hl
            · have := O.back (Array.getElem?_eq_getElem hk) he hbd
              exact ih e.on this (by omega)
          rw [hr] at hmem
          simp at hmem
    have hall' : ∀ z k, ents[k]? = some z → listed.getD k false = true := fun z k hz => hall k (by rw [← O.len]; exact (List.getElem?_eq_some_iff.1 hz).1)
    obtain ⟨φ, aD, hst, hdom, hA, hlen, hdef, htv, hM⟩ := hI
    rcases hp' with hpn | ⟨p, v, s', hpn⟩
    · refine hN hpn φ w ca hst (O.ended hE hall' hM) ?_
      have hact := O.act ents.length (Nat.le_refl _)
      have hend : acAt ents aN ents.length = aN := acAt_end (Nat.le_refl _)
      rw [hend] at hact
      refine ⟨by rw [hact.1, ← hlen]; exact hA.size, fun t u v hu hv => ?_, by rw [hact.2.1, ← hdef]; exact hA.defers⟩
      refine hA.tmp t u v (htv t u ?_) hv
      rcases hact.2.2 t u hu with ⟨i, y, k1, k2, k3, k4, k5, k6⟩ | ⟨k1, k2⟩
      · exact .inl ⟨i, y, k1, hall' _ _ k1, k3, k4, k5, fun j z hz _ hzd => k6 j z hz (List.getElem?_eq_some_iff.1 hz).1 hzd⟩
      · exact .inr ⟨fun i y hy _ => k1 i y hy (List.getElem?_eq_some_iff.1 hy).1, k2⟩
    · obtain ⟨z, h1, h2⟩ := hp _ _ _ hpn
      exact absurd h2 (h45 z p h1 (hall' _ _ h1)).1
  intro fuel
  induction fuel with
  | zero =>
    intro listed ca w hsz hcnt hc h45 hI
    have hr : Region.ready .any ops listed = [] := by
      rw [List.eq_nil_iff_forall_not_mem]
      intro k hk
      obtain ⟨h1, _⟩ := mem_ready.1 hk
      have hks : k < listed.size := by
        rcases Nat.lt_or_ge k listed.size with h | h
        · exact h
        · simp [Array.getD, Nat.not_lt.2 h] at h1
      have : false ∈ listed.toList := by
        have h2 : listed[k] = false := by simpa [Array.getD, hks] using h1
        rw [← h2]
        simp
      have := List.count_pos_iff.2 this
      omega
    exact ⟨hr, fin listed ca w hsz hr h45 hI⟩
  | succ fuel ih =>
    intro listed ca w hsz hcnt hc h45 hI
    refine ⟨fun hr => fin listed ca w hsz hr h45 hI, fun i hi => ?_⟩
    obtain ⟨h1, o, ho, _⟩ := mem_ready.1 hi
    have hio : i < ops.size := (Array.getElem?_eq_some_iff.1 ho).1
    have his : i < listed.size := by rw [hsz]; exact hio
    have hlf : listed[i] = false := by simpa [Array.getD, his] using h1
    have hni : ¬ (listed.getD i false = true) := by simp [Array.getD, his, hlf]
    obtain ⟨x, hx⟩ : ∃ x, ents[i]? = some x := ⟨_, List.getElem?_eq_getElem (by rw [O.len]; exact hio)⟩
    have hb : ∀ j, bit ops i j = true → listed.getD j false = true := fun j hj => ready_bits hi hc hj
    have hset : (fun j => (listed.setIfInBounds i true).getD j false = true) = fun j => j = i ∨ listed.getD j false = true := by
      funext j
      apply propext
      by_cases hj : j = i
      · subst hj
        simp [Array.getD, his]
      · have : (listed.setIfInBounds i true).getD j false = listed.getD j false := by
          simp only [Array.getD_eq_getD_getElem?, Array.getElem?_setIfInBounds]
          rw [if_neg (fun h => hj h.symm)]
        rw [this]
        simp [hj]
    refine O.step hE hcall hp hc h45 hI hφ0 hx hni hb (fun h4 h5 ca' w' hI' => ?_) hQ
    refine ih _ ca' w' (by simp [hsz]) ?_ ?_ ?_ ?_
    · have := unlisted_count (l := listed.toList) (i := i) (by simpa using his) (by simpa using hlf)
      rw [Array.toList_setIfInBounds]
      omega
    · rw [hset]; exact hc.add hb
    · intro z k hz hk
      rcases (congrFun hset k).mp hk with rfl | hk
      · rw [hx] at hz
        cases hz
        exact ⟨h4, h5⟩
      · exact h45 z k hz hk
    · rw [hset]; exact hI'

end

/-- Statements whose order is open come to what the short run says. -/
theorem draw_sim {E : Env} {B : Nat} {w₀ : World} (hE : E.Fine B w₀) {call : Caller} (hcall : CallOk E B w₀ call) : DrawSim E B w₀ call := by
  intro id ops a s x a' s' φ ca w Q h hok hd hR hF hA hG
  -- the run in the text's order
  have main : ∀ (ents : List Ent) (pn : Option (Nat × Value × St)) (aN : AAct) (sN : St), trace E call ops (Region.before ops) ops.toList 0 none a s = some (ents, pn, aN, sN) → Good E (Region.before ops) ents sN →
      (∀ p v ps, pn = some (p, v, ps) → ∀ φ' w' v' ca', Step s.next φ w φ' w' → R B w₀ φ' ps.get w' → ps.Fresh → s.next ≤ ps.next → V B φ' v v' → (∃ φ, VDs B φ a.defers ca'.defers) → Q (.panic [{ v := v', recovered := false }]) ca' w') →
      (pn = none → ∀ φ' w' ca', Step s.next φ w φ' w' → R B w₀ φ' sN.get w' → sN.Fresh → s.next ≤ sN.next → VAct B φ' aN ca' → Q .normal ca' w') → (Code.region id ops true).wp E.P Q ca w := by
    intro ents pn aN sN ht htok hQ hN
    obtain ⟨h1, h2, h3, _, h5, h6⟩ := trace_spec _ _ _ _ _ _ _ _ _ ht
    have O : Opened E call ops ents sN aN pn := ⟨by simpa using h1, fun j x hx => by
      obtain ⟨g1, g2, g3, g4, _⟩ := h6 j x hx
      rw [Nat.zero_add] at g4
      exact ⟨by simpa using g1, g2, g3, g4⟩, hok, hd⟩
    have htext := O.text hE hcall (h2 ▸ hR) (h2 ▸ hF) (h3 ▸ hA)
    have K : Known E call ops ents sN aN pn := { O with fresh := fun j => (htext j).1.1, up := fun j => (htext j).2, good := htok }
    have hNF : sN.Fresh := by
      have := K.fresh ents.length
      rwa [stAt_end (Nat.le_refl _)] at this
    have hNn : s.next ≤ sN.next := by
      have := K.mono (Nat.zero_le ents.length)
      rwa [stAt_end (Nat.le_refl _), h2] at this
    have hp : ∀ p v s', pn = some (p, v, s') → ∃ z, ents[p]? = some z ∧ z.cls = 4 := by
      intro p v s' hpn
      rcases h5 with h5 | ⟨_, j, z, hz, hzc⟩
      · rw [h5] at hpn; simp at hpn
      · obtain ⟨_, _, _, g4⟩ := O.ent j z hz
        obtain ⟨_, _, _, _, _, _, g5⟩ := g4.pan hzc
        rw [hpn] at g5
        simp only [Option.some.injEq, Prod.mk.injEq] at g5
        exact ⟨z, g5.1 ▸ hz, hzc⟩
    have hp' : pn = none ∨ ∃ p v s', pn = some (p, v, s') := by
      cases pn with
      | none => exact .inl rfl
      | some q => obtain ⟨p, v, s'⟩ := q; exact .inr ⟨_, _, _, rfl⟩
    have hR' := hR.drew (w.drawn + 1)
    obtain ⟨hdom, hM⟩ := K.start hE (φ := φ) (w := { w with drawn := w.drawn + 1 }) (h2 ▸ hR')
    have hfalse : (fun j => (Array.replicate ops.size false).getD j false = true) = fun _ => False := by
      funext j
      apply propext
      simp [Array.getD]
    refine wp_region_any hE.mixed (K.any hE hcall hp hp' (φ0 := φ) (wI := w) (fun f e b hb => by rw [h2]; exact hF.lt (hR.dom _ _ _ hb)) ?_ ?_ ops.size _ ca _ (by simp) ?_ ?_ ?_ ?_)
    · rw [h2, h3]
      exact hQ
    · intro hpn φ' w' ca' k1 k2 k3
      rw [h2] at k1
      exact hN hpn φ' w' ca' k1 k2 hNF hNn k3
    · exact Nat.le_trans List.count_le_length (by simp)
    · rw [hfalse]; exact fun _ h => h.elim
    · intro z k _ hk
      exact ((congrFun hfalse k).mp hk).elim
    · rw [hfalse]
      refine ⟨φ, a, ?_, hdom, hA, by rw [h3], by rw [h3], fun t v htv => ?_, hM⟩
      · rw [h2]; exact Step.drewN _ _ _
      · rcases htv with ⟨_, _, _, h, _⟩ | ⟨_, h⟩
        · exact h.elim
        · rwa [h3] at h
  unfold evalDraw at h
  split at h
  next ents aN sN ht =>
    split at h
    next hok' =>
      simp only [Option.some.injEq, Prod.mk.injEq] at h
      obtain ⟨rfl, rfl, rfl⟩ := h
      refine main ents none aN sN ht hok' (by simp) ?_
      intro _ φ' w' ca' k1 k2 k3 k4 k5
      exact hG φ' w' ca' .normal k1 k2 k3 k4 trivial (.inl k5)
    next => simp at h
  next ents p v ps aN sN ht =>
    split at h
    next hok' =>
      simp only [Option.some.injEq, Prod.mk.injEq] at h
      obtain ⟨rfl, rfl, rfl⟩ := h
      refine main ents (some (p, v, ps)) aN sN ht hok'.1 ?_ (by simp)
      intro p' v₁ ps' hpn φ' w' v' ca' k1 k2 k3 k4 k5 ⟨φd, k6⟩
      simp only [Option.some.injEq, Prod.mk.injEq] at hpn
      obtain ⟨rfl, rfl, rfl⟩ := hpn
      have hnil : a.defers = [] := hok'.2
      rw [hnil] at k6
      exact hG φ' w' ca' _ k1 k2 k3 k4 ⟨v', rfl, k5⟩ (.inr ⟨⟨_, rfl⟩, hnil, k6.nil_left⟩)
    next => simp at h
  next => simp at h

/-- What the short run of a call comes to, the call comes to. -/
theorem callN_sim {E : Env} {B : Nat} {w₀ : World} (hE : E.Fine B w₀) (N : Nat) : ∀ n, CallOk E B w₀ (callN E N n) := by
  intro n
  induction n with
  | zero => intro g args s r s' h; simp [callN] at h
  | succ n ih => exact evalFn_sim hE ih (draw_sim hE ih) N

end Go.Ai

/-
  THE FORKED RUN, 1: the short run with its forks laid open: what it comes to along one path, and what must hold for that.
-/
set_option linter.unusedSimpArgs false
set_option linter.unusedVariables false
set_option linter.unusedSectionVars false
namespace Go.Ai
open Go

inductive T (α : Type) where
  | ret (a : α)
  | fail
  | ask (b : Bool) (k : Bool → T α)
  | askL (o : Option (List Value)) (k : List Value → T α)
  | same (x y : Value) (k : T α)
  | sameO (x y : Option AObj) (k : T α)
  | get (s : St) (f : Nat) (k : AObj → T α)
  | put (s : St) (f : Nat) (o : AObj) (k : St → T α)
  | push (s : St) (o : AObj) (k : St → T α)
  | now (s : St) (k : T α)
  | int (n : Int) (k : Int → T α)
  | fresh (s : St) (n : Nat) (o : AObj) (k : St → T α)
  | call (F : St → Option (Ret × St)) (s : St) (k : Ret → St → T α) (u : T α)
  | code (F : AAct → St → Option (X × AAct × St)) (a : AAct) (s : St) (k : X → AAct → St → T α) (u : T α)

/-- What it may come to: a call or a loop is taken as it is, or gone through. -/
def T.Runs {α : Type} : T α → α → Prop
  | .ret a, r => a = r
  | .fail, _ => False
  | .ask b k, r => (k b).Runs r
  | .askL o k, r => ∃ l, o = some l ∧ (k l).Runs r
  | .same x y k, r => x = y ∧ k.Runs r
  | .sameO x y k, r => x = y ∧ k.Runs r
  | .get s f k, r => ∃ x, s.get f = some x ∧ (k x).Runs r
  | .put s f o k, r => (k (s.put f o)).Runs r
  | .push s o k, r => (k (s.push o)).Runs r
  | .now _ k, r => k.Runs r
  | .int n k, r => (k n).Runs r
  | .fresh s n o k, r => (k (s.put n o)).Runs r
  | .call F s k u, r => (∃ x s', F s = some (x, s') ∧ (k x s').Runs r) ∨ u.Runs r
  | .code F a s k u, r => (∃ x a' s', F a s = some (x, a', s') ∧ (k x a' s').Runs r) ∨ u.Runs r

/-- Memory behind something: 'old': the numbers that it may have changed; 'now': what is known of it behind. -/
structure After (s s' : St) (old : List Nat) (now : List (Nat × AObj)) : Prop where
  next : s.next ≤ s'.next
  keep : ∀ m, m < s.next → m ∉ old → s'.get m = s.get m
  has : ∀ q ∈ now, s'.get q.1 = some q.2 ∧ q.1 < s'.next
  whence : ∀ q ∈ now, q.1 ∈ old ∨ s.next ≤ q.1
  apart : (now.map (·.1)).Nodup

abbrev Cache := List (Nat × AObj)
abbrev keysOf (ov : Cache) : List Nat := ov.map (·.1)

/-- What is known of memory. -/
abbrev Holds (s : St) (ov : Cache) : Prop := After s s (keysOf ov) ov

theorem holds_mk {s : St} {ov : Cache} (h : ∀ q ∈ ov, s.get q.1 = some q.2 ∧ q.1 < s.next) (hn : (keysOf ov).Nodup) : Holds s ov :=
  ⟨Nat.le_refl _, fun _ _ _ => rfl, h, fun q hq => .inl (List.mem_map.2 ⟨q, hq, rfl⟩), hn⟩

theorem holds_nil (s : St) : Holds s [] := holds_mk (by simp) (by simp)

theorem nodup_get {l : List Nat} (h : l.Nodup) {i j : Nat} {x : Nat} (hi : l[i]? = some x) (hj : l[j]? = some x) : i = j := by
  obtain ⟨l1, l2⟩ := List.getElem?_eq_some_iff.1 hi
  obtain ⟨l3, l4⟩ := List.getElem?_eq_some_iff.1 hj
  exact (List.getElem_inj h).1 (l2.trans l4.symm)

theorem After.put {s₀ s : St} {K : List Nat} {ov : Cache} (h : After s₀ s K ov) {i f : Nat} {o : AObj} (hi : ov[i]? = some (f, o)) (o' : AObj) : After s₀ (s.put f o') K (ov.set i (f, o')) := by
  have hmem : (f, o) ∈ ov := List.mem_of_getElem? hi
  obtain ⟨hf1, hf2⟩ := h.has _ hmem
  have hkeys : keysOf (ov.set i (f, o')) = keysOf ov := by
    apply List.ext_getElem?
    intro j
    simp only [keysOf, List.getElem?_map, List.getElem?_set]
    by_cases hij : i = j
    · subst hij
      obtain ⟨hlt, _⟩ := List.getElem?_eq_some_iff.1 hi
      rw [if_pos rfl, if_pos hlt, hi]
      rfl
    · rw [if_neg hij]
  refine ⟨h.next, fun m hm hK => ?_, fun q hq => ?_, fun q hq => ?_, ?_⟩
  · rw [St.get_put, if_neg, h.keep m hm hK]
    rintro rfl
    rcases h.whence _ hmem with h1 | h1
    · exact hK h1
    · simp only at h1; omega
  · obtain ⟨j, hj⟩ := List.mem_iff_getElem?.1 hq
    rw [St.get_put, St.next_put]
    by_cases hij : i = j
    · subst hij
      obtain ⟨hlt, _⟩ := List.getElem?_eq_some_iff.1 hi
      rw [List.getElem?_set_self hlt] at hj
      cases hj
      exact ⟨if_pos rfl, hf2⟩
    · rw [List.getElem?_set_ne hij] at hj
      have hq' := List.mem_of_getElem? hj
      have hne : q.1 ≠ f := by
        intro he
        exact hij (nodup_get h.apart (by rw [List.getElem?_map, hi]; rfl) (by rw [List.getElem?_map, hj]; exact congrArg some he))
      rw [if_neg hne]
      exact h.has q hq'
  · have : q.1 ∈ keysOf (ov.set i (f, o')) := List.mem_map.2 ⟨q, hq, rfl⟩
    rw [hkeys] at this
    obtain ⟨q', hq', he⟩ := List.mem_map.1 this
    rw [← he]
    exact h.whence q' hq'
  · show (keysOf _).Nodup
    rw [hkeys]
    exact h.apart

theorem After.push {s₀ s : St} {K : List Nat} {ov : Cache} (h : After s₀ s K ov) (o : AObj) : After s₀ (s.push o) K (ov ++ [(s.next, o)]) := by
  refine ⟨Nat.le_trans h.next (by rw [St.next_push]; omega), fun m hm hK => ?_, fun q hq => ?_, fun q hq => ?_, ?_⟩
  · rw [St.get_push, if_neg (by have := h.next; omega), h.keep m hm hK]
  · rw [St.get_push, St.next_push]
    rcases List.mem_append.1 hq with hq | hq
    · obtain ⟨h1, h2⟩ := h.has q hq
      rw [if_neg (by omega)]
      exact ⟨h1, by omega⟩
    · rw [List.mem_singleton.1 hq]
      exact ⟨if_pos rfl, by simp⟩
  · rcases List.mem_append.1 hq with hq | hq
    · exact h.whence q hq
    · rw [List.mem_singleton.1 hq]
      exact .inr h.next
  · rw [List.map_append, List.nodup_append]
    refine ⟨h.apart, by simp, fun a ha b hb => ?_⟩
    obtain ⟨q, hq, rfl⟩ := List.mem_map.1 ha
    simp only [List.map_cons, List.map_nil, List.mem_singleton] at hb
    have := (h.has q hq).2
    omega

/-- A list without some places. -/
def without (is : List Nat) (ov : Cache) : Cache := (ov.zipIdx.filter fun x => !is.contains x.2).map (·.1)

theorem mem_without {is : List Nat} {ov : Cache} {q : Nat × AObj} (h : q ∈ without is ov) : ∃ j, ov[j]? = some q ∧ j ∉ is := by
  obtain ⟨⟨q', j⟩, h1, rfl⟩ := List.mem_map.1 h
  obtain ⟨h2, h3⟩ := List.mem_filter.1 h1
  refine ⟨j, ?_, ?_⟩
  · have := List.mem_zipIdx_iff_getElem?.1 h2
    simpa using this
  · simpa using h3

theorem without_sublist (is : List Nat) (ov : Cache) : (without is ov).Sublist ov := by
  have h := (List.filter_sublist (p := fun x : (Nat × AObj) × Nat => !is.contains x.2) (l := ov.zipIdx)).map (·.1)
  rwa [List.zipIdx_map_fst] at h

theorem After.step {s₀ s s' : St} {K old : List Nat} {ov now : Cache} (h : After s₀ s K ov) (h' : After s s' old now) {is : List Nat} (his : is.map (fun i => (ov[i]?).map (·.1)) = old.map some) : After s₀ s' K (without is ov ++ now) := by
  have hold : ∀ f ∈ old, ∃ i ∈ is, ∃ o, ov[i]? = some (f, o) := by
    intro f hf
    have : some f ∈ old.map some := List.mem_map.2 ⟨f, hf, rfl⟩
    rw [← his] at this
    obtain ⟨i, hi, he⟩ := List.mem_map.1 this
    cases hov : ov[i]? with
    | none => simp [hov] at he
    | some q =>
      obtain ⟨f', o⟩ := q
      simp only [hov, Option.map_some, Option.some.injEq] at he
      subst he
      exact ⟨i, hi, o, hov⟩
  have hfar : ∀ f ∈ old, f ∈ K ∨ s₀.next ≤ f := by
    intro f hf
    obtain ⟨i, _, o, hov⟩ := hold f hf
    exact h.whence (f, o) (List.mem_of_getElem? hov)
  have hnot : ∀ q ∈ without is ov, q.1 ∉ old := by
    intro q hq hold'
    obtain ⟨j, hj, hn⟩ := mem_without hq
    obtain ⟨i, hi, o, hov⟩ := hold _ hold'
    have : i = j := nodup_get h.apart (x := q.1) (by rw [List.getElem?_map, hov]; rfl) (by rw [List.getElem?_map, hj]; rfl)
    exact hn (this ▸ hi)
  have hsub : ∀ q ∈ without is ov, q ∈ ov := fun q hq => (without_sublist is ov).subset hq
  refine ⟨Nat.le_trans h.next h'.next, fun m hm hK => ?_, fun q hq => ?_, fun q hq => ?_, ?_⟩
  · rw [h'.keep m (Nat.lt_of_lt_of_le hm h.next), h.keep m hm hK]
    intro hmo
    rcases hfar m hmo with h1 | h1
    · exact hK h1
    · omega
  · rcases List.mem_append.1 hq with hq | hq
    · obtain ⟨h1, h2⟩ := h.has q (hsub q hq)
      exact ⟨(h'.keep _ h2 (hnot q hq)).trans h1, Nat.lt_of_lt_of_le h2 h'.next⟩
    · exact h'.has q hq
  · rcases List.mem_append.1 hq with hq | hq
    · exact h.whence q (hsub q hq)
    · rcases h'.whence q hq with h1 | h1
      · exact hfar _ h1
      · exact .inr (Nat.le_trans h.next h1)
  · rw [List.map_append, List.nodup_append]
    refine ⟨((without_sublist is ov).map _).nodup h.apart, h'.apart, fun a ha b hb => ?_⟩
    obtain ⟨q, hq, rfl⟩ := List.mem_map.1 ha
    obtain ⟨q', hq', rfl⟩ := List.mem_map.1 hb
    intro he
    rcases h'.whence q' hq' with h1 | h1
    · exact hnot q hq (by rw [he]; exact h1)
    · have := (h.has q (hsub q hq)).2
      omega

theorem After.sub {s s' : St} {old : List Nat} {now now' : Cache} (h : After s s' old now) (hs : now'.Sublist now) : After s s' old now' :=
  ⟨h.next, h.keep, fun q hq => h.has q (hs.subset hq), fun q hq => h.whence q (hs.subset hq), (hs.map _).nodup h.apart⟩

theorem After.wide {s s' : St} {old old' : List Nat} {now : Cache} (h : After s s' old now) (hs : ∀ f ∈ old, f ∈ old') : After s s' old' now :=
  ⟨h.next, fun m hm hK => h.keep m hm fun hm' => hK (hs m hm'), h.has, fun q hq => (h.whence q hq).imp_left (hs _), h.apart⟩

theorem After.holds {s s' : St} {old : List Nat} {now : Cache} (h : After s s' old now) : Holds s' now := holds_mk h.has h.apart

theorem After.trans {s s' s'' : St} {old old' : List Nat} {now now' : Cache} (h : After s s' old now) (h' : After s' s'' old' now') (hs : ∀ f ∈ old', f ∈ keysOf now) : After s s'' old now' := by
  have hfar : ∀ f ∈ old', f ∈ old ∨ s.next ≤ f := by
    intro f hf
    obtain ⟨q, hq, rfl⟩ := List.mem_map.1 (hs f hf)
    exact h.whence q hq
  refine ⟨Nat.le_trans h.next h'.next, fun m hm hK => ?_, h'.has, fun q hq => ?_, h'.apart⟩
  · rw [h'.keep m (Nat.lt_of_lt_of_le hm h.next), h.keep m hm hK]
    intro hmo
    rcases hfar m hmo with h1 | h1
    · exact hK h1
    · omega
  · rcases h'.whence q hq with h1 | h1
    · exact hfar _ h1
    · exact .inr (Nat.le_trans h.next h1)

/-- The temporaries: 'live' where it says something, 'rest' elsewhere. -/
def tmpsOf (n : Nat) (live : List (Nat × Value)) (rest : Nat → Value) : List Value :=
  (List.range n).map fun i => match live.lookup i with
    | some v => v
    | none => rest i

/-- The numbers at some places. -/
def keysAt (is : List Nat) (ov : Cache) : List Nat := is.map fun i => match ov[i]? with
  | some q => q.1
  | none => 0

def objsAt (is : List Nat) (ov : Cache) : List (Option AObj) := is.map fun i => (ov[i]?).map (·.2)

def isNodup (l : List Nat) : Bool := match l with
  | [] => true
  | x :: l => !l.contains x && isNodup l

theorem isNodup_ok : ∀ {l : List Nat}, isNodup l = true → l.Nodup
  | [], _ => List.nodup_nil
  | x :: l, h => by
      simp only [isNodup, Bool.and_eq_true, Bool.not_eq_true', List.contains_eq_mem, decide_eq_false_iff_not] at h
      exact List.nodup_cons.2 ⟨h.1, isNodup_ok h.2⟩

theorem keysAt_length (is : List Nat) (ov : Cache) : (keysAt is ov).length = is.length := by simp [keysAt]

theorem at_zip : ∀ {is : List Nat} {ov : Cache} {objs : List AObj}, objsAt is ov = objs.map some → is.length = objs.length ∧ is.map (fun i => (ov[i]?).map (·.1)) = (keysAt is ov).map some ∧ is.map (fun i => ov[i]?) = ((keysAt is ov).zip objs).map some
  | [], ov, [], _ => ⟨rfl, rfl, rfl⟩
  | i :: is, ov, [], h => by simp [objsAt] at h
  | [], ov, o :: objs, h => by simp [objsAt] at h
  | i :: is, ov, o :: objs, h => by
      simp only [objsAt, List.map_cons, List.cons.injEq] at h
      obtain ⟨h1, h2⟩ := h
      obtain ⟨g1, g2, g3⟩ := at_zip (is := is) (ov := ov) (objs := objs) h2
      cases hq : ov[i]? with
      | none => simp [hq] at h1
      | some q =>
        simp only [hq, Option.map_some, Option.some.injEq] at h1
        refine ⟨by simp [g1], ?_, ?_⟩
        · simp only [List.map_cons, hq, g2, keysAt, Option.map_some]
        · simp only [List.map_cons, hq, g3, keysAt, List.zip_cons_cons, List.map_cons, List.cons.injEq, Option.some.injEq, and_true]
          rw [← h1]

theorem After.holdsAt {s₀ s : St} {K : List Nat} {ov : Cache} (h : After s₀ s K ov) {is : List Nat} {objs : List AObj} (hn : is.Nodup) (ho : objsAt is ov = objs.map some) : Holds s ((keysAt is ov).zip objs) := by
  obtain ⟨h1, h2, h3⟩ := at_zip ho
  have hmem : ∀ (i : Nat) q, ((keysAt is ov).zip objs)[i]? = some q → ∃ j, is[i]? = some j ∧ ov[j]? = some q := by
    intro i q hq
    have := congrArg (·[i]?) h3
    simp only [List.getElem?_map, hq, Option.map_some] at this
    cases hi : is[i]? with
    | none => simp [hi] at this
    | some j => exact ⟨j, rfl, by simpa [hi] using this⟩
  refine holds_mk (fun q hq => ?_) ?_
  · obtain ⟨i, hi⟩ := List.mem_iff_getElem?.1 hq
    obtain ⟨j, _, hj⟩ := hmem i q hi
    exact h.has q (List.mem_of_getElem? hj)
  · refine List.pairwise_iff_getElem.2 fun i j hi hj hij heq => ?_
    have hi' : i < ((keysAt is ov).zip objs).length := by simpa [keysOf] using hi
    have hj' : j < ((keysAt is ov).zip objs).length := by simpa [keysOf] using hj
    have hqi := List.getElem?_eq_getElem hi'
    have hqj := List.getElem?_eq_getElem hj'
    simp only [keysOf, List.getElem_map] at heq
    obtain ⟨a, ha, ha'⟩ := hmem i _ hqi
    obtain ⟨b, hb, hb'⟩ := hmem j _ hqj
    have hab : a = b := nodup_get h.apart (x := (((keysAt is ov).zip objs)[i]).1) (by rw [List.getElem?_map, ha']; rfl) (by rw [List.getElem?_map, hb']; exact congrArg some heq.symm)
    subst hab
    have := nodup_get hn ha hb
    omega

/-- What is said of the way ahead of time: of a fork (behind so many others that are computed), of a call or a loop; and which known object memory is looked at, changed, or known of. -/
inductive Ev where
  | b (n : Nat) (x y : Bool) (h : x = y)
  | l (n : Nat) (x : Option (List Value)) (y : List Value) (h : x = some y)
  | v (n : Nat) (x y : Value) (h : x = y)
  | o (n : Nat) (x y : Option AObj) (h : x = y)
  | r (n j : Nat) (is : List Nat) (G : List Nat → St → Option (Ret × St)) (objs : List AObj) (R : List Nat → St → List Nat × St) (x : List Nat → List Nat → Ret) (now : List Nat → List Nat → Cache)
    (h : ∀ ks s, ks.length = objs.length → Holds s (ks.zip objs) → G ks s = some (x ks (R ks s).1, (R ks s).2) ∧ After s (R ks s).2 ks (now ks (R ks s).1))
  | c (n j : Nat) (is : List Nat) (F : AAct → St → Option (X × AAct × St)) (m : Nat) (live : List Nat → List (Nat × Value)) (d : List Deferred) (objs : List AObj) (R : (Nat → Value) → List Nat → St → List Nat × (Nat → Value) × St) (x : X)
    (live' : List Nat → List Nat → List (Nat × Value)) (now : List Nat → List Nat → Cache)
    (h : ∀ rest ks s, ks.length = objs.length → Holds s (ks.zip objs) → F { tmps := tmpsOf m (live ks) rest, defers := d } s = some (x, { tmps := tmpsOf m (live' ks (R rest ks s).1) (R rest ks s).2.1, defers := d }, (R rest ks s).2.2) ∧ After s (R rest ks s).2.2 ks (now ks (R rest ks s).1))
  | m (j i : Nat)
  | i (n : Nat) (x y : Int) (h : x = y)
  | f (j a i : Nat)

/-- What the kernel is to find to be one. -/
inductive Ob where
  | b (x y : Bool)
  | l (x y : Option (List Value))
  | v (x y : Value)
  | o (x y : Option AObj)
  | r (x y : St → Option (Ret × St))
  | c (x y : AAct → St → Option (X × AAct × St))
  | a (x y : AAct)
  | s (x y : St)
  | n (x y : Nat)
  | os (x y : List (Option AObj))
  | i (x y : Int)

def Ob.ok : Ob → Prop
  | .b x y => x = y
  | .l x y => x = y
  | .v x y => x = y
  | .o x y => x = y
  | .r x y => x = y
  | .c x y => x = y
  | .a x y => x = y
  | .s x y => x = y
  | .n x y => x = y
  | .os x y => x = y
  | .i x y => x = y

def Ob.flip : Ob → Ob
  | .b x y => .b y x
  | .l x y => .l y x
  | .v x y => .v y x
  | .o x y => .o y x
  | .r x y => .r y x
  | .c x y => .c y x
  | .a x y => .a y x
  | .s x y => .s y x
  | .n x y => .n y x
  | .os x y => .os y x
  | .i x y => .i y x

theorem Ob.ok_of_flip {x : Ob} (h : x.flip = x) : x.ok := by
  cases x <;> simp only [Ob.flip, Ob.b.injEq, Ob.l.injEq, Ob.v.injEq, Ob.o.injEq, Ob.r.injEq, Ob.c.injEq, Ob.a.injEq, Ob.s.injEq, Ob.n.injEq, Ob.os.injEq, Ob.i.injEq] at h <;> exact h.2

/-- What is known of memory at some times, the last one first. -/
abbrev Snaps := List (St × Cache × Bool)

/-- Is it the newest of the times that follow one another? -/
def isTop (sn : Snaps) (j : Nat) : Bool := (sn.take j).all (fun t => !t.2.2) && match sn[j]? with
  | some t => t.2.2
  | none => false

/-- Numbers are given away in order. -/
def Chain (sn : Snaps) : Prop := ∀ (i j : Nat) (x y : St × Cache × Bool), i ≤ j → sn[i]? = some x → sn[j]? = some y → x.2.2 = true → y.2.2 = true → y.1.next ≤ x.1.next

theorem Chain.top {sn : Snaps} (h : Chain sn) {j : Nat} {t : St × Cache × Bool} (ht : sn[j]? = some t) {s : St} (hs : t.1.next ≤ s.next) (ov : Cache) : Chain ((s, ov, isTop sn j) :: sn) := by
  intro a b x y hab hx hy hx' hy'
  cases a with
  | succ a =>
    obtain ⟨b, rfl⟩ : ∃ b', b = b' + 1 := ⟨b - 1, by omega⟩
    exact h a b x y (by omega) (by simpa using hx) (by simpa using hy) hx' hy'
  | zero =>
    simp only [List.getElem?_cons_zero, Option.some.injEq] at hx
    subst hx
    cases b with
    | zero =>
      simp only [List.getElem?_cons_zero, Option.some.injEq] at hy
      subst hy
      exact Nat.le_refl _
    | succ b =>
      simp only [List.getElem?_cons_succ] at hy
      simp only at hx'
      unfold isTop at hx'
      simp only [ht, Bool.and_eq_true, List.all_eq_true] at hx'
      obtain ⟨h1, h2⟩ := hx'
      have hjb : j ≤ b := by
        rcases Nat.lt_or_ge b j with hlt | hge
        · have := h1 y (List.mem_of_getElem? (show (sn.take j)[b]? = some y by rw [List.getElem?_take_of_lt hlt]; exact hy))
          simp [hy'] at this
        · exact hge
      exact Nat.le_trans (h j b t y hjb ht hy h2 hy') hs

theorem Chain.side {sn : Snaps} (h : Chain sn) (s : St) (ov : Cache) : Chain ((s, ov, false) :: sn) := by
  intro a b x y hab hx hy hx' hy'
  cases a with
  | succ a =>
    obtain ⟨b, rfl⟩ : ∃ b', b = b' + 1 := ⟨b - 1, by omega⟩
    exact h a b x y (by omega) (by simpa using hx) (by simpa using hy) hx' hy'
  | zero =>
    simp only [List.getElem?_cons_zero, Option.some.injEq] at hx
    subst hx
    simp at hx'

theorem After.fresh {s₀ s : St} {K : List Nat} {ov : Cache} (h : After s₀ s K ov) {n : Nat} (hn : s.next ≤ n) (o : AObj) : After s₀ (s.put n o) K ov := by
  refine ⟨h.next, fun m hm hK => ?_, fun q hq => ?_, h.whence, h.apart⟩
  · rw [St.get_put, if_neg (by have := h.next; omega)]
    exact h.keep m hm hK
  · obtain ⟨h1, h2⟩ := h.has q hq
    rw [St.get_put, if_neg (by omega)]
    exact ⟨h1, h2⟩

/-- Along a way. (A fork of which nothing is said is computed; a call or a loop of which nothing is said is gone through; where no time is known, memory is computed.) -/
def T.follow {α : Type} : T α → List Ev → Snaps → List Ob → Option (α × Snaps × List Ob)
  | .ret a, _, sn, acc => some (a, sn, acc)
  | .fail, _, _, _ => none
  | .ask b k, p, sn, acc => match p with
    | .b 0 x y h :: p => (k y).follow p sn (.b b x :: acc)
    | .b (n + 1) x y h :: p => match b with
      | true => (k true).follow (.b n x y h :: p) sn acc
      | false => (k false).follow (.b n x y h :: p) sn acc
    | .l (n + 1) x y h :: p => match b with
      | true => (k true).follow (.l n x y h :: p) sn acc
      | false => (k false).follow (.l n x y h :: p) sn acc
    | p => match b with
      | true => (k true).follow p sn acc
      | false => (k false).follow p sn acc
  | .askL o k, p, sn, acc => match p with
    | .l 0 x y h :: p => (k y).follow p sn (.l o x :: acc)
    | .b (n + 1) x y h :: p => match o with
      | some l => (k l).follow (.b n x y h :: p) sn acc
      | none => none
    | .l (n + 1) x y h :: p => match o with
      | some l => (k l).follow (.l n x y h :: p) sn acc
      | none => none
    | p => match o with
      | some l => (k l).follow p sn acc
      | none => none
  | .same x y k, p, sn, acc => match p with
    | .v 0 x' y' h :: p => k.follow p sn (.v x x' :: .v y y' :: acc)
    | .v (n + 1) x' y' h :: p => k.follow (.v n x' y' h :: p) sn (.v x y :: acc)
    | p => k.follow p sn (.v x y :: acc)
  | .sameO x y k, p, sn, acc => match p with
    | .o 0 x' y' h :: p => k.follow p sn (.o x x' :: .o y y' :: acc)
    | .o (n + 1) x' y' h :: p => k.follow (.o n x' y' h :: p) sn (.o x y :: acc)
    | p => k.follow p sn (.o x y :: acc)
  | .get s f k, p, sn, acc => match sn with
    | [] => match s.get f with
      | some o => (k o).follow p sn acc
      | none => none
    | z :: sn => match p with
      | .m j i :: p => match (z :: sn)[j]? with
        | some t => match t.2.1[i]? with
          | some q => (k q.2).follow p (z :: sn) (.s t.1 s :: .n q.1 f :: acc)
          | none => none
        | none => none
      | _ => none
  | .put s f o k, p, sn, acc => match sn with
    | [] => (k (s.put f o)).follow p [] acc
    | z :: sn => match p with
      | .m j i :: p => match (z :: sn)[j]? with
        | some t => match t.2.1[i]? with
          | some q => (k (s.put f o)).follow p ((s.put f o, t.2.1.set i (f, o), isTop (z :: sn) j) :: z :: sn) (.s t.1 s :: .n q.1 f :: acc)
          | none => none
        | none => none
      | _ => none
  | .push s o k, p, sn, acc => match sn with
    | [] => (k (s.push o)).follow p [] acc
    | z :: sn => match p with
      | .m j i :: p => match (z :: sn)[j]? with
        | some t => (k (s.push o)).follow p ((s.push o, t.2.1 ++ [(s.next, o)], isTop (z :: sn) j) :: z :: sn) (.s t.1 s :: acc)
        | none => none
      | _ => none
  | .now s k, p, sn, acc => match sn with
    | [] => k.follow p [] acc
    | z :: sn => match p with
      | .m j i :: p => match (z :: sn)[j]? with
        | some t => k.follow p ((t.1, t.2.1, isTop (z :: sn) j) :: z :: sn) (.s t.1 s :: acc)
        | none => none
      | _ => none
  | .fresh s n o k, p, sn, acc => match sn with
    | [] => (k (s.put n o)).follow p [] acc
    | z :: sn => match p with
      | .f j a i :: p => match (z :: sn)[j]?, (z :: sn)[a]?, (z :: sn)[i]? with
        | some t, some u, some v => match u.2.2 && v.2.2 && decide (i ≤ a) with
          | true => (k (s.put n o)).follow p ((s.put n o, t.2.1, false) :: z :: sn) (.s t.1 s :: .n t.1.next u.1.next :: .n v.1.next n :: acc)
          | false => none
        | _, _, _ => none
      | _ => none
  | .int n k, p, sn, acc => match p with
    | .i 0 x y h :: p => (k y).follow p sn (.i n x :: acc)
    | .i (m + 1) x y h :: p => (k n).follow (.i m x y h :: p) sn acc
    | p => (k n).follow p sn acc
  | .call F s k u, p, sn, acc => match p with
    | .r 0 j is G objs R x nw h :: p => match isNodup is with
      | false => none
      | true => match sn[j]? with
        | some t => (k (x (keysAt is t.2.1) (R (keysAt is t.2.1) s).1) (R (keysAt is t.2.1) s).2).follow p (((R (keysAt is t.2.1) s).2, without is t.2.1 ++ nw (keysAt is t.2.1) (R (keysAt is t.2.1) s).1, isTop sn j) :: sn)
            (.r F (G (keysAt is t.2.1)) :: .s t.1 s :: .os (objsAt is t.2.1) (objs.map some) :: acc)
        | none => none
    | .r (n + 1) j is G objs R x nw h :: p => u.follow (.r n j is G objs R x nw h :: p) sn acc
    | p => u.follow p sn acc
  | .code F a s k u, p, sn, acc => match p with
    | .c 0 j is F' m live d objs R x live' nw h :: p => match isNodup is with
      | false => none
      | true => match sn[j]? with
        | some t => (k x { tmps := tmpsOf m (live' (keysAt is t.2.1) (R (fun i => a.tmps.getD i undef) (keysAt is t.2.1) s).1) (R (fun i => a.tmps.getD i undef) (keysAt is t.2.1) s).2.1, defers := d } (R (fun i => a.tmps.getD i undef) (keysAt is t.2.1) s).2.2).follow p
            (((R (fun i => a.tmps.getD i undef) (keysAt is t.2.1) s).2.2, without is t.2.1 ++ nw (keysAt is t.2.1) (R (fun i => a.tmps.getD i undef) (keysAt is t.2.1) s).1, isTop sn j) :: sn)
            (.c F F' :: .a a { tmps := tmpsOf m (live (keysAt is t.2.1)) (fun i => a.tmps.getD i undef), defers := d } :: .s t.1 s :: .os (objsAt is t.2.1) (objs.map some) :: acc)
        | none => none
    | .c (n + 1) j is F' m live d objs R x live' nw h :: p => u.follow (.c n j is F' m live d objs R x live' nw h :: p) sn acc
    | p => u.follow p sn acc

/-- What stands in the list stays. -/
theorem T.follow_acc {α : Type} : ∀ (t : T α) (p : List Ev) (sn : Snaps) (acc : List Ob) (a : α) (sn' : Snaps) (acc' : List Ob), t.follow p sn acc = some (a, sn', acc') → ∀ x ∈ acc, x ∈ acc' := by
  intro t
  induction t with
  | ret a =>
    intro p sn acc a' sn' acc' h x hx
    simp only [T.follow, Option.some.injEq, Prod.mk.injEq] at h
    obtain ⟨rfl, rfl, rfl⟩ := h
    exact hx
  | fail => intro p sn acc a' sn' acc' h; simp [T.follow] at h
  | ask b k ih =>
    intro p sn acc a sn' acc' h x hx
    rw [T.follow.eq_def] at h
    simp only at h
    split at h
    · exact ih _ _ _ _ _ _ _ h x (by simp [hx])
    all_goals cases b <;> exact ih _ _ _ _ _ _ _ h x hx
  | askL o k ih =>
    intro p sn acc a sn' acc' h x hx
    rw [T.follow.eq_def] at h
    simp only at h
    split at h
    · exact ih _ _ _ _ _ _ _ h x (by simp [hx])
    all_goals
      cases o with
      | none => simp at h
      | some l => exact ih _ _ _ _ _ _ _ h x hx
  | same x y k ih =>
    intro p sn acc a sn' acc' h x hx
    rw [T.follow.eq_def] at h
    simp only at h
    split at h <;> exact ih _ _ _ _ _ _ h x (by simp [hx])
  | sameO x y k ih =>
    intro p sn acc a sn' acc' h x hx
    rw [T.follow.eq_def] at h
    simp only at h
    split at h <;> exact ih _ _ _ _ _ _ h x (by simp [hx])
  | get s f k ih =>
    intro p sn acc a sn' acc' h x hx
    rw [T.follow.eq_def] at h
    simp only at h
    split at h
    · split at h
      · exact ih _ _ _ _ _ _ _ h x hx
      · simp at h
    · split at h
      · split at h
        · split at h
          · exact ih _ _ _ _ _ _ _ h x (by simp [hx])
          · simp at h
        · simp at h
      · simp at h
  | put s f o k ih =>
    intro p sn acc a sn' acc' h x hx
    rw [T.follow.eq_def] at h
    simp only at h
    split at h
    · exact ih _ _ _ _ _ _ _ h x hx
    · split at h
      · split at h
        · split at h
          · exact ih _ _ _ _ _ _ _ h x (by simp [hx])
          · simp at h
        · simp at h
      · simp at h
  | push s o k ih =>
    intro p sn acc a sn' acc' h x hx
    rw [T.follow.eq_def] at h
    simp only at h
    split at h
    · exact ih _ _ _ _ _ _ _ h x hx
    · split at h
      · split at h
        · exact ih _ _ _ _ _ _ _ h x (by simp [hx])
        · simp at h
      · simp at h
  | now s k ih =>
    intro p sn acc a sn' acc' h x hx
    rw [T.follow.eq_def] at h
    simp only at h
    split at h
    · exact ih _ _ _ _ _ _ h x hx
    · split at h
      · split at h
        · exact ih _ _ _ _ _ _ h x (by simp [hx])
        · simp at h
      · simp at h
  | fresh s n o k ih =>
    intro p sn acc a sn' acc' h x hx
    rw [T.follow.eq_def] at h
    simp only at h
    split at h
    · exact ih _ _ _ _ _ _ _ h x hx
    · split at h
      · split at h
        · split at h
          · exact ih _ _ _ _ _ _ _ h x (by simp [hx])
          · simp at h
        · simp at h
      · simp at h
  | int n k ih =>
    intro p sn acc a sn' acc' h x hx
    rw [T.follow.eq_def] at h
    simp only at h
    split at h
    · exact ih _ _ _ _ _ _ _ h x (by simp [hx])
    all_goals exact ih _ _ _ _ _ _ _ h x hx
  | call F s k u ih ihu =>
    intro p sn acc a sn' acc' h x hx
    rw [T.follow.eq_def] at h
    simp only at h
    split at h
    · split at h
      · simp at h
      · split at h
        · exact ih _ _ _ _ _ _ _ _ h x (by simp [hx])
        · simp at h
    all_goals exact ihu _ _ _ _ _ _ h x hx
  | code F a s k u ih ihu =>
    intro p sn acc a' sn' acc' h x hx
    rw [T.follow.eq_def] at h
    simp only at h
    split at h
    · split at h
      · simp at h
      · split at h
        · exact ih _ _ _ _ _ _ _ _ _ h x (by simp [hx])
        · simp at h
    all_goals exact ihu _ _ _ _ _ _ h x hx

theorem T.follow_run {α : Type} (s₀ : St) (K : List Nat) : ∀ (t : T α) (p : List Ev) (sn : Snaps) (acc : List Ob) (a : α) (sn' : Snaps) (acc' : List Ob), t.follow p sn acc = some (a, sn', acc') → (∀ x ∈ acc', x.ok) → (∀ z ∈ sn, After s₀ z.1 K z.2.1) → Chain sn →
    t.Runs a ∧ (∀ x ∈ acc, x.ok) ∧ (∀ z ∈ sn', After s₀ z.1 K z.2.1) := by
  intro t
  induction t with
  | ret a =>
    intro p sn acc a' sn' acc' h h1 h2 hch
    simp only [T.follow, Option.some.injEq, Prod.mk.injEq] at h
    obtain ⟨rfl, rfl, rfl⟩ := h
    exact ⟨rfl, h1, h2⟩
  | fail => intro p sn acc a' sn' acc' h; simp [T.follow] at h
  | ask b k ih =>
    intro p sn acc a sn' acc' h h1 h2 hch
    rw [T.follow.eq_def] at h
    simp only at h
    split at h
    · rename_i x y hxy p
      obtain ⟨g1, g2, g3⟩ := ih y _ _ _ _ _ _ h h1 h2 hch
      have hb : b = x := g2 (.b b x) (by simp)
      subst hb
      subst hxy
      exact ⟨g1, fun y hy => g2 y (by simp [hy]), g3⟩
    all_goals
      cases b
      · exact ih false _ _ _ _ _ _ h h1 h2 hch
      · exact ih true _ _ _ _ _ _ h h1 h2 hch
  | askL o k ih =>
    intro p sn acc a sn' acc' h h1 h2 hch
    rw [T.follow.eq_def] at h
    simp only at h
    split at h
    · rename_i x y hxy p
      obtain ⟨g1, g2, g3⟩ := ih y _ _ _ _ _ _ h h1 h2 hch
      have hb : o = x := g2 (.l o x) (by simp)
      exact ⟨⟨y, hb.trans hxy, g1⟩, fun y hy => g2 y (by simp [hy]), g3⟩
    all_goals
      cases o with
      | none => simp at h
      | some l => obtain ⟨g1, g2, g3⟩ := ih l _ _ _ _ _ _ h h1 h2 hch; exact ⟨⟨l, rfl, g1⟩, g2, g3⟩
  | same x y k ih =>
    intro p sn acc a sn' acc' h h1 h2 hch
    rw [T.follow.eq_def] at h
    simp only at h
    split at h
    · rename_i x' y' hxy p
      obtain ⟨g1, g2, g3⟩ := ih _ _ _ _ _ _ h h1 h2 hch
      have hb : x = x' := g2 (.v x x') (by simp)
      have hb' : y = y' := g2 (.v y y') (by simp)
      exact ⟨⟨hb.trans (hxy.trans hb'.symm), g1⟩, fun z hz => g2 z (by simp [hz]), g3⟩
    all_goals
      obtain ⟨g1, g2, g3⟩ := ih _ _ _ _ _ _ h h1 h2 hch
      have hb : x = y := g2 (.v x y) (by simp)
      exact ⟨⟨hb, g1⟩, fun z hz => g2 z (by simp [hz]), g3⟩
  | sameO x y k ih =>
    intro p sn acc a sn' acc' h h1 h2 hch
    rw [T.follow.eq_def] at h
    simp only at h
    split at h
    · rename_i x' y' hxy p
      obtain ⟨g1, g2, g3⟩ := ih _ _ _ _ _ _ h h1 h2 hch
      have hb : x = x' := g2 (.o x x') (by simp)
      have hb' : y = y' := g2 (.o y y') (by simp)
      exact ⟨⟨hb.trans (hxy.trans hb'.symm), g1⟩, fun z hz => g2 z (by simp [hz]), g3⟩
    all_goals
      obtain ⟨g1, g2, g3⟩ := ih _ _ _ _ _ _ h h1 h2 hch
      have hb : x = y := g2 (.o x y) (by simp)
      exact ⟨⟨hb, g1⟩, fun z hz => g2 z (by simp [hz]), g3⟩
  | get s f k ih =>
    intro p sn acc a sn' acc' h h1 h2 hch
    rw [T.follow.eq_def] at h
    simp only at h
    split at h
    · split at h
      next o ho =>
        obtain ⟨g1, g2, g3⟩ := ih o _ _ _ _ _ _ h h1 h2 hch
        exact ⟨⟨o, ho, g1⟩, g2, g3⟩
      next => simp at h
    · rename_i z sn
      split at h
      next j i p =>
        split at h
        next t ht =>
          split at h
          next q hq =>
            obtain ⟨g1, g2, g3⟩ := ih q.2 _ _ _ _ _ _ h h1 h2 hch
            have e1 : t.1 = s := g2 (.s t.1 s) (by simp)
            have e2 : q.1 = f := g2 (.n q.1 f) (by simp)
            have hA := h2 t (List.mem_of_getElem? ht)
            obtain ⟨e3, _⟩ := hA.has q (List.mem_of_getElem? hq)
            rw [e1, e2] at e3
            exact ⟨⟨q.2, e3, g1⟩, fun z hz => g2 z (by simp [hz]), g3⟩
          next => simp at h
        next => simp at h
      next => simp at h
  | put s f o k ih =>
    intro p sn acc a sn' acc' h h1 h2 hch
    rw [T.follow.eq_def] at h
    simp only at h
    split at h
    · exact ih _ _ _ _ _ _ _ h h1 h2 hch
    · rename_i z sn
      split at h
      next j i p =>
        split at h
        next t ht =>
          split at h
          next q hq =>
            have key : (∀ x ∈ acc', x.ok) → t.1 = s ∧ q.1 = f := by
              intro h1
              -- the later part keeps what stands in the list
              have hmem : (Ob.s t.1 s) ∈ acc' ∧ (Ob.n q.1 f) ∈ acc' := by
                have := T.follow_acc _ _ _ _ _ _ _ h
                exact ⟨this _ (by simp), this _ (by simp)⟩
              exact ⟨h1 _ hmem.1, h1 _ hmem.2⟩
            obtain ⟨e1, e2⟩ := key h1
            have hA := h2 t (List.mem_of_getElem? ht)
            have hA' : After s₀ (s.put f o) K (t.2.1.set i (f, o)) := by
              rw [← e1, ← e2]
              exact hA.put (o := q.2) hq o
            obtain ⟨g1, g2, g3⟩ := ih _ _ _ _ _ _ _ h h1 (fun z hz => by
              rcases List.mem_cons.1 hz with rfl | hz
              · exact hA'
              · exact h2 z hz) (hch.top ht (by rw [e1]; exact Nat.le_refl _) _)
            exact ⟨g1, fun z hz => g2 z (by simp [hz]), g3⟩
          next => simp at h
        next => simp at h
      next => simp at h
  | push s o k ih =>
    intro p sn acc a sn' acc' h h1 h2 hch
    rw [T.follow.eq_def] at h
    simp only at h
    split at h
    · exact ih _ _ _ _ _ _ _ h h1 h2 hch
    · rename_i z sn
      split at h
      next j i p =>
        split at h
        next t ht =>
          have e1 : t.1 = s := h1 (.s t.1 s) (T.follow_acc _ _ _ _ _ _ _ h _ (by simp))
          have hA := h2 t (List.mem_of_getElem? ht)
          rw [e1] at hA
          obtain ⟨g1, g2, g3⟩ := ih _ _ _ _ _ _ _ h h1 (fun z hz => by
            rcases List.mem_cons.1 hz with rfl | hz
            · exact hA.push o
            · exact h2 z hz) (hch.top ht (by rw [e1, St.next_push]; omega) _)
          exact ⟨g1, fun z hz => g2 z (by simp [hz]), g3⟩
        next => simp at h
      next => simp at h
  | now s k ih =>
    intro p sn acc a sn' acc' h h1 h2 hch
    rw [T.follow.eq_def] at h
    simp only at h
    split at h
    · exact ih _ _ _ _ _ _ h h1 h2 hch
    · rename_i z sn
      split at h
      next j i p =>
        split at h
        next t ht =>
          obtain ⟨g1, g2, g3⟩ := ih _ _ _ _ _ _ h h1 (fun z hz => by
            rcases List.mem_cons.1 hz with rfl | hz
            · exact h2 t (List.mem_of_getElem? ht)
            · exact h2 z hz) (hch.top ht (Nat.le_refl _) _)
          exact ⟨g1, fun z hz => g2 z (by simp [hz]), g3⟩
        next => simp at h
      next => simp at h
  | fresh s n o k ih =>
    intro p sn acc a sn' acc' h h1 h2 hch
    rw [T.follow.eq_def] at h
    simp only at h
    split at h
    · exact ih _ _ _ _ _ _ _ h h1 h2 hch
    · rename_i z sn
      split at h
      next j b i p =>
        split at h
        next t u v ht hu hv =>
          split at h
          next hc =>
            simp only [Bool.and_eq_true, decide_eq_true_eq] at hc
            have hm := T.follow_acc _ _ _ _ _ _ _ h
            have e1 : t.1 = s := h1 (.s t.1 s) (hm _ (by simp))
            have e2 : t.1.next = u.1.next := h1 (.n _ _) (hm _ (by simp))
            have e3 : v.1.next = n := h1 (.n _ _) (hm _ (by simp))
            have hle : s.next ≤ n := by
              rw [← e1, e2, ← e3]
              exact hch i b v u hc.2 hv hu hc.1.2 hc.1.1
            have hA := h2 t (List.mem_of_getElem? ht)
            rw [e1] at hA
            obtain ⟨g1, g2, g3⟩ := ih _ _ _ _ _ _ _ h h1 (fun z hz => by
              rcases List.mem_cons.1 hz with rfl | hz
              · exact hA.fresh hle o
              · exact h2 z hz) (hch.side _ _)
            exact ⟨g1, fun z hz => g2 z (by simp [hz]), g3⟩
          next => simp at h
        next => simp at h
      next => simp at h
  | int n k ih =>
    intro p sn acc a sn' acc' h h1 h2 hch
    rw [T.follow.eq_def] at h
    simp only at h
    split at h
    · rename_i x y hxy p
      obtain ⟨g1, g2, g3⟩ := ih y _ _ _ _ _ _ h h1 h2 hch
      have hb : n = x := g2 (.i n x) (by simp)
      subst hb
      subst hxy
      exact ⟨g1, fun y hy => g2 y (by simp [hy]), g3⟩
    all_goals exact ih _ _ _ _ _ _ _ h h1 h2 hch
  | call F s k u ih ihu =>
    intro p sn acc a sn' acc' h h1 h2 hch
    rw [T.follow.eq_def] at h
    simp only at h
    split at h
    · rename_i j is G objs R x nw hc p
      split at h
      · simp at h
      · rename_i hnd
        split at h
        next t ht =>
          have hm := T.follow_acc _ _ _ _ _ _ _ h
          have e0 : F = G (keysAt is t.2.1) := h1 (.r F _) (hm _ (by simp))
          have e1 : t.1 = s := h1 (.s t.1 s) (hm _ (by simp))
          have e2 : objsAt is t.2.1 = objs.map some := h1 (.os _ _) (hm _ (by simp))
          have hA := h2 t (List.mem_of_getElem? ht)
          rw [e1] at hA
          obtain ⟨l1, l2, _⟩ := at_zip e2
          obtain ⟨c1, c2⟩ := hc (keysAt is t.2.1) s (by rw [keysAt_length, l1]) (hA.holdsAt (isNodup_ok hnd) e2)
          obtain ⟨g1, g2, g3⟩ := ih _ _ _ _ _ _ _ _ h h1 (fun z hz => by
            rcases List.mem_cons.1 hz with rfl | hz
            · exact hA.step c2 l2
            · exact h2 z hz) (hch.top ht (by rw [e1]; exact c2.next) _)
          exact ⟨.inl ⟨_, _, by rw [e0]; exact c1, g1⟩, fun y hy => g2 y (by simp [hy]), g3⟩
        next => simp at h
    all_goals
      obtain ⟨g1, g2, g3⟩ := ihu _ _ _ _ _ _ h h1 h2 hch
      exact ⟨.inr g1, g2, g3⟩
  | code F a s k u ih ihu =>
    intro p sn acc a' sn' acc' h h1 h2 hch
    rw [T.follow.eq_def] at h
    simp only at h
    split at h
    · rename_i j is F' m live d objs R x live' nw hc p
      split at h
      · simp at h
      · rename_i hnd
        split at h
        next t ht =>
          have hm := T.follow_acc _ _ _ _ _ _ _ h
          have e0 : F = F' := h1 (.c F F') (hm _ (by simp))
          have e2 : a = { tmps := tmpsOf m (live (keysAt is t.2.1)) (fun i => a.tmps.getD i undef), defers := d } := h1 (.a a _) (hm _ (by simp))
          have e1 : t.1 = s := h1 (.s t.1 s) (hm _ (by simp))
          have e4 : objsAt is t.2.1 = objs.map some := h1 (.os _ _) (hm _ (by simp))
          have hA := h2 t (List.mem_of_getElem? ht)
          rw [e1] at hA
          obtain ⟨l1, l2, _⟩ := at_zip e4
          obtain ⟨c1, c2⟩ := hc (fun i => a.tmps.getD i undef) (keysAt is t.2.1) s (by rw [keysAt_length, l1]) (hA.holdsAt (isNodup_ok hnd) e4)
          obtain ⟨g1, g2, g3⟩ := ih _ _ _ _ _ _ _ _ _ h h1 (fun z hz => by
            rcases List.mem_cons.1 hz with rfl | hz
            · exact hA.step c2 l2
            · exact h2 z hz) (hch.top ht (by rw [e1]; exact c2.next) _)
          exact ⟨.inl ⟨_, _, _, by rw [e0]; exact (congrArg (fun q => F' q s) e2).trans c1, g1⟩, fun y hy => g2 y (by simp [hy]), g3⟩
        next => simp at h
    all_goals
      obtain ⟨g1, g2, g3⟩ := ihu _ _ _ _ _ _ h h1 h2 hch
      exact ⟨.inr g1, g2, g3⟩

/-- The way to use it: one equation that the kernel computes. 'f': what is wanted of the answer, 'r': what that is. -/
theorem T.use {α β : Type} {t : T α} {s₀ : St} {K : List Nat} (sn : Snaps) (hsn : ∀ z ∈ sn, After s₀ z.1 K z.2.1) (hch : Chain sn) (p : List Ev) (f : α × Snaps → β) {r : β}
    (h : (t.follow p sn []).map (fun z => (f (z.1, z.2.1), z.2.2.map Ob.flip)) = some (r, ((t.follow p sn []).map fun z => z.2.2).getD [])) : ∃ a sn', t.Runs a ∧ f (a, sn') = r ∧ ∀ z ∈ sn', After s₀ z.1 K z.2.1 := by
  cases hf : t.follow p sn [] with
  | none => simp [hf] at h
  | some z =>
    obtain ⟨a, sn', acc⟩ := z
    simp only [hf, Option.map_some, Option.getD_some, Option.some.injEq, Prod.mk.injEq] at h
    obtain ⟨h1, h3⟩ := h
    have hok : ∀ x ∈ acc, x.ok := by
      intro x hx
      obtain ⟨i, hi⟩ := List.mem_iff_getElem?.1 hx
      have := congrArg (·[i]?) h3
      simp only [List.getElem?_map, hi, Option.map_some, Option.some.injEq] at this
      exact Ob.ok_of_flip this
    obtain ⟨g1, _, g3⟩ := T.follow_run s₀ K t p sn [] a sn' acc hf hok hsn hch
    exact ⟨a, sn', g1, h1, g3⟩

theorem chain_nil : Chain [] := by
  intro i j x y _ h; simp at h

theorem chain_one (t : St × Cache × Bool) : Chain [t] := by
  intro i j x y hij hx hy _ _
  cases i with
  | succ i => simp at hx
  | zero =>
    cases j with
    | succ j => simp at hy
    | zero =>
      simp only [List.getElem?_cons_zero, Option.some.injEq] at hx hy
      subst hx
      subst hy
      exact Nat.le_refl _

/-! Operations. -/
section
variable {α : Type}

def liftT {β : Type} (o : Option β) (k : β → T α) : T α :=
  match o with
  | some b => k b
  | none => .fail

def readT (old : Addr → Option Value) (s : St) (a : Addr) (n : Nat) (k : List Value → T α) : T α :=
  match a.spot with
  | none => .askL (readOld old a n) k
  | some e => .get s a.block fun o => match o with
    | .row cells _ ep lw hist => .askL (if lw ≤ e ∧ a.off + n ≤ ext cells ep hist e ∧ a.off + n ≤ cells.length then some ((cells.drop a.off).take n) else none) k
    | _ => .fail

def writeT (s : St) (a : Addr) (vs : List Value) (k : St → T α) : T α :=
  match a.spot with
  | none => .fail
  | some e => .get s a.block fun o => match o with
    | .row cells esz ep lw hist =>
      .ask (decide (e = ep ∧ lw ≤ ep ∧ a.off + vs.length ≤ cells.length ∧ vs.all isCell = true)) fun c => if c then .put s a.block (.row (splice cells a.off vs) esz ep ep hist) k else .fail
    | _ => .fail

def loadT (E : Env) (s : St) (t : TypeId) (x : Value) (k : Value → T α) : T α :=
  match x with
  | .pointer (some a) => match E.desc t with
    | none => .fail
    | some d =>
      if isAggD d then
        match E.size t with
        | none => .fail
        | some n => readT E.old s a n fun l => k (.agg l.toArray)
      else readT E.old s a 1 fun l => match l with
        | [v] => k v
        | _ => .fail
  | _ => .fail

def storeT (E : Env) (s : St) (t : TypeId) (x v : Value) (k : St → T α) : T α :=
  match x with
  | .pointer (some a) => match E.size t with
    | none => .fail
    | some n => if v.cells.size = n then writeT s a v.cells.toList k else .fail
  | _ => .fail

def natT (i : Int) (k : Nat → T α) : T α := .ask (decide (0 ≤ i)) fun c => if c then k i.toNat else .fail

def boundT (v : Option Value) (dflt : Nat) (k : Nat → T α) : T α :=
  match v with
  | none => k dflt
  | some (.int _ n) => natT n k
  | some _ => .fail

def indexAddrT (E : Env) (t : TypeId) (x i : Value) (k : Value → T α) : T α :=
  match aInt i with
  | none => .fail
  | some i =>
    match E.desc t, x with
    | some (.array len elem), .pointer (some a) => match E.size elem with
      | some n => .ask (decide (0 ≤ i ∧ i < len)) fun c => if c then k (.pointer (some (aadd a (i.toNat * n)))) else .fail
      | none => .fail
    | some (.slice elem), .slice (some a) len _ => match E.size elem with
      | some n => .ask (decide (0 ≤ i ∧ i < len)) fun c => if c then k (.pointer (some (aadd a (i.toNat * n)))) else .fail
      | none => .fail
    | _, _ => .fail

def eitherT (x y : Bool) (k : T α) : T α := .ask x fun c => if c then k else .ask y fun c => if c then k else .fail

def roomAtO (o : Option AObj) (a : Addr) (n : Nat) : Nat :=
  match a.spot, o with
  | some e, some (.row cells esz ep lw _) => if e = ep ∧ lw ≤ ep ∧ esz = n then (cells.length - a.off) / n else 0
  | _, _ => 0

def eszIsO (o : Option AObj) (a : Addr) (n : Nat) : Bool :=
  match o with
  | some (.row _ esz ep lw _) => esz = n && some ep == a.spot && decide (lw ≤ ep)
  | _ => false

theorem roomAt_eq (s : St) (a : Addr) (n : Nat) : roomAt s a n = roomAtO (s.get a.block) a n := rfl
theorem eszIs_eq (s : St) (a : Addr) (n : Nat) : eszIs s a n = eszIsO (s.get a.block) a n := rfl

/-- A row of such elements, at its newest time. -/
def eszT (o : AObj) (a : Addr) (n : Nat) (k : T α) : T α :=
  match o with
  | .row _ esz ep lw _ => match decide (esz = n) && Nat.ble lw ep with
    | true => .same (.pointer (some ⟨0, 0, some ep⟩)) (.pointer (some ⟨0, 0, a.spot⟩)) k
    | false => .fail
  | _ => .fail

def sliceT (E : Env) (s : St) (t : TypeId) (x : Value) (lo hi mx : Option Value) (k : Value → T α) : T α :=
  if flat x then liftT (aSlice E s t x lo hi mx) k
  else match E.desc t, x with
    | some (.slice elem), .slice (some a) len cap =>
      match E.size elem with
      | some n => boundT lo 0 fun l => boundT hi len fun h =>
        if 0 < n then
          if a.spot.isSome ∧ cap = unc then .get s a.block fun o =>
            eszT o a n (.ask (decide (l ≤ h)) fun c => if c then eitherT (decide (h ≤ len)) (decide (h ≤ roomAtO (some o) a n)) (
              match mx with
              | none => k (.slice (some (aadd a (l * n))) (h - l) unc)
              | some m => boundT (some m) 0 fun m =>
                .ask (decide (h ≤ m)) fun c => if c then eitherT (decide (m ≤ len)) (decide (m ≤ roomAtO (some o) a n)) (
                .ask (decide (m - l < unc)) fun c => if c then .ask (decide (0 < len)) fun c => if c then .ask (decide (m = l)) fun c => k (.slice (some (if c then a else aadd a (l * n))) (h - l) (m - l)) else .fail else .fail) else .fail)
              else .fail)
          else
            boundT mx cap fun m => .ask (decide (l ≤ h ∧ h ≤ m ∧ m ≤ cap)) fun c => if c then .ask (decide (m = l)) fun c => k (.slice (some (if c then a else aadd a (l * n))) (h - l) (m - l)) else .fail
        else .fail
      | none => .fail
    | _, _ => liftT (aSlice E s t x lo hi mx) k

def sourceT (E : Env) (s : St) (n : Nat) (size : Nat) (x : Value) (k : List Value → T α) : T α :=
  match x with
  | .slice none _ _ => k []
  | .slice (some a) _ _ => readT E.old s a (n * size) k
  | .string b => if size = 1 then .askL (some ((b.extract 0 n).data.toList.map fun b => .int .u8 b.toNat)) k else .fail
  | _ => .fail

def newT (E : Env) (s : St) (argTypes : Array TypeId) (n b : Nat) (z : Value) (x : Value) (k : Nat → List Value → T α) : T α :=
  match argTypes[1]? with
  | some xt => match E.desc xt with
    | some (.int _) => match x with
      | .int _ i => natT i fun q => .ask (decide (q < 2 ^ 62 ∧ q * b ≤ 2 ^ 46)) fun c => if c then k q (aZeros z.cells.toList q) else .fail
      | _ => .fail
    | some _ => match aLen x with
      | some m => sourceT E s m n x fun l => k m l
      | none => .fail
    | none => .fail
  | none => match aLen x with
    | some m => sourceT E s m n x fun l => k m l
    | none => .fail

def appendT (E : Env) (s : St) (argTypes : Array TypeId) (sl x : Value) (k : Value → St → T α) : T α :=
  match argTypes[0]? with
  | none => .fail
  | some st => match E.desc st with
    | some (.slice elem) => match E.size elem, E.bytes elem, E.zero elem with
      | some n, some b, some z =>
        if ¬ (0 < n ∧ z.cells.size = n) then .fail else
        newT E s argTypes n b z x fun m new =>
          .ask (decide (new.length = m * n ∧ new.all isCell = true)) fun c => if c then
            match sl with
            | .slice none l c =>
              if l ≠ 0 ∨ c ≠ 0 then .fail else
              .ask (decide (m = 0)) fun c => if c then k sl s else
              .ask (decide (m * b ≤ 2 ^ 46 ∧ m < 2 ^ 62)) fun c => if c then .push s (.row new n 0 0 []) fun s' => k (.slice (some ⟨s.next, 0, some 0⟩) m unc) s' else .fail
            | .slice (some a) len cap =>
              .ask (decide ((len + m) * b ≤ 2 ^ 46 ∧ len + m < 2 ^ 62)) fun c => if c then
                match a.spot with
                | some e => .get s a.block fun o => match o with
                  | .row cells esz ep lw hist =>
                    .ask (decide (e = ep ∧ lw ≤ ep ∧ esz = n ∧ a.off ≤ cells.length)) fun c => if c then
                      if cap = unc then
                        .ask (decide (m = 0)) fun c => if c then k sl s else
                        .ask (decide (a.off + (len + m) * n ≤ cells.length)) fun c => if c then
                          .put s a.block (.row (splice cells (a.off + len * n) new) esz ep ep hist) fun s' => k (.slice (some a) (len + m) unc) s'
                        else .ask (decide (a.off + len * n = cells.length)) fun c => if c then
                          .put s a.block (.row (cells ++ new) esz (ep + 1) lw (cells.length :: hist)) fun s' => k (.slice (some ⟨a.block, a.off, some (ep + 1)⟩) (len + m) unc) s'
                        else .fail
                      else .ask (decide (len + m ≤ cap)) fun c => if c then
                        .ask (decide (a.off + (len + m) * n ≤ cells.length)) fun c => if c then
                          .put s a.block (.row (splice cells (a.off + len * n) new) esz ep ep hist) fun s' => k (.slice (some a) (len + m) cap) s'
                        else .fail
                      else readT E.old s a (len * n) fun was => .push s (.row (was ++ new) n 0 0 []) fun s' => k (.slice (some ⟨s.next, 0, some 0⟩) (len + m) unc) s'
                    else .fail
                  | _ => .fail
                | none => .fail
              else .fail
            | _ => .fail
          else .fail
      | _, _, _ => .fail
    | _ => .fail

def clearT (E : Env) (s : St) (argTypes : Array TypeId) (x : Value) (k : Value → St → T α) : T α :=
  match argTypes[0]?, x with
  | some t, .slice (some a) n _ => match E.desc t with
    | some (.slice e) => match E.size e, E.zero e with
      | some m, some z => .ask (decide (n = 0)) fun c => if c then k (.tuple #[]) s else if z.cells.size = m ∧ 0 < m then writeT s a (aZeros z.cells.toList n) fun s' => k (.tuple #[]) s' else .fail
      | _, _ => .fail
    | _ => .fail
  | _, _ => .fail

theorem liftT_run {β : Type} {o : Option β} {k : β → T α} {r : α} (h : (liftT o k).Runs r) : ∃ b, o = some b ∧ (k b).Runs r := by
  unfold liftT at h
  split at h
  · exact ⟨_, rfl, h⟩
  · simp [T.Runs] at h

theorem ask_run {b : Bool} {x y : T α} {r : α} (h : (T.ask b fun c => if c then x else y).Runs r) : (b = true ∧ x.Runs r) ∨ (b = false ∧ y.Runs r) := by
  simp only [T.Runs] at h
  cases b
  · exact .inr ⟨rfl, by simpa using h⟩
  · exact .inl ⟨rfl, by simpa using h⟩

theorem ask_run' {b : Bool} {x : T α} {r : α} (h : (T.ask b fun c => if c then x else .fail).Runs r) : b = true ∧ x.Runs r := by
  rcases ask_run h with h | ⟨_, h⟩
  · exact h
  · simp [T.Runs] at h

theorem askL_run {o : Option (List Value)} {k : List Value → T α} {r : α} (h : (T.askL o k).Runs r) : ∃ l, o = some l ∧ (k l).Runs r := h

theorem askO_run {s : St} {f : Nat} {k : AObj → T α} {r : α} (h : (T.get s f k).Runs r) : ∃ x, s.get f = some x ∧ (k x).Runs r := h

theorem fail_run {r : α} (h : (T.fail : T α).Runs r) : False := by simp [T.Runs] at h

theorem readT_run {old : Addr → Option Value} {s : St} {a : Addr} {n : Nat} {k : List Value → T α} {r : α} (h : (readT old s a n k).Runs r) : ∃ l, readN old s a n = some l ∧ (k l).Runs r := by
  unfold readT at h
  unfold readN
  split at h
  · rename_i hs
    obtain ⟨l, h1, h2⟩ := askL_run h
    exact ⟨l, by simp only [hs]; exact h1, h2⟩
  · rename_i e hs
    obtain ⟨x, hg, h⟩ := askO_run h
    split at h
    · rename_i cells esz ep lw hist
      obtain ⟨l, h1, h2⟩ := askL_run h
      exact ⟨l, by simp only [hs, hg]; exact h1, h2⟩
    · exact (fail_run h).elim

theorem writeT_run {s : St} {a : Addr} {vs : List Value} {k : St → T α} {r : α} (h : (writeT s a vs k).Runs r) : ∃ s', writeN s a vs = some s' ∧ (k s').Runs r := by
  unfold writeT at h
  unfold writeN
  split at h
  · exact (fail_run h).elim
  · rename_i e hs
    obtain ⟨x, hg, h⟩ := askO_run h
    split at h
    · rename_i cells esz ep lw hist
      obtain ⟨h1, h2⟩ := ask_run' h
      exact ⟨_, by simp only [hs, hg]; rw [if_pos (of_decide_eq_true h1)], h2⟩
    · exact (fail_run h).elim

theorem loadT_run {E : Env} {s : St} {t : TypeId} {x : Value} {k : Value → T α} {r : α} (h : (loadT E s t x k).Runs r) : ∃ v, aLoad E s t x = some v ∧ (k v).Runs r := by
  unfold loadT at h
  unfold aLoad
  split at h
  · split at h
    · exact (fail_run h).elim
    · rename_i d hd
      simp only [hd]
      split at h
      · rename_i ha
        split at h
        · exact (fail_run h).elim
        · rename_i n hn
          obtain ⟨l, h1, h2⟩ := readT_run h
          exact ⟨_, by rw [if_pos ha]; simp only [hn, h1]; rfl, h2⟩
      · rename_i ha
        obtain ⟨l, h1, h2⟩ := readT_run h
        rw [if_neg ha, h1]
        split at h2
        · exact ⟨_, rfl, h2⟩
        · exact (fail_run h2).elim
  · exact (fail_run h).elim

theorem storeT_run {E : Env} {s : St} {t : TypeId} {x v : Value} {k : St → T α} {r : α} (h : (storeT E s t x v k).Runs r) : ∃ s', aStore E s t x v = some s' ∧ (k s').Runs r := by
  unfold storeT at h
  unfold aStore
  split at h
  · split at h
    · exact (fail_run h).elim
    · rename_i n hn
      simp only [hn]
      split at h
      · rename_i hc
        rw [if_pos hc]
        exact writeT_run h
      · exact (fail_run h).elim
  · exact (fail_run h).elim

theorem natT_run {i : Int} {k : Nat → T α} {r : α} (h : (natT i k).Runs r) : ∃ n, asNat i = some n ∧ (k n).Runs r := by
  obtain ⟨h1, h2⟩ := ask_run' h
  exact ⟨_, by unfold asNat; rw [if_pos (of_decide_eq_true h1)], h2⟩

theorem boundT_run {v : Option Value} {d : Nat} {k : Nat → T α} {r : α} (h : (boundT v d k).Runs r) : ∃ n, aBound v d = some n ∧ (k n).Runs r := by
  unfold boundT at h
  unfold aBound
  split at h
  · exact ⟨_, rfl, h⟩
  · exact natT_run h
  · exact (fail_run h).elim

theorem indexAddrT_run {E : Env} {t : TypeId} {x i : Value} {k : Value → T α} {r : α} (h : (indexAddrT E t x i k).Runs r) : ∃ v, aIndexAddr E t x i = some v ∧ (k v).Runs r := by
  unfold indexAddrT at h
  unfold aIndexAddr
  split at h
  · exact (fail_run h).elim
  · rename_i i' hi
    split at h
    · rename_i hd
      simp only [hd]
      split at h
      · rename_i n hn
        obtain ⟨h1, h2⟩ := ask_run' h
        exact ⟨_, by simp only [hi, hn]; exact if_pos (of_decide_eq_true h1), h2⟩
      · exact (fail_run h).elim
    · rename_i hd
      simp only [hd]
      split at h
      · rename_i n hn
        obtain ⟨h1, h2⟩ := ask_run' h
        exact ⟨_, by simp only [hi, hn]; exact if_pos (of_decide_eq_true h1), h2⟩
      · exact (fail_run h).elim
    · exact (fail_run h).elim

theorem eitherT_run {x y : Bool} {k : T α} {r : α} (h : (eitherT x y k).Runs r) : (x || y) = true ∧ k.Runs r := by
  rcases ask_run h with ⟨rfl, h⟩ | ⟨rfl, h⟩
  · exact ⟨rfl, h⟩
  · obtain ⟨rfl, h⟩ := ask_run' h
    exact ⟨rfl, h⟩

theorem eszT_run {o : AObj} {a : Addr} {n : Nat} {k : T α} {r : α} (h : (eszT o a n k).Runs r) : eszIsO (some o) a n = true ∧ k.Runs r := by
  unfold eszT at h
  split at h
  next cells esz ep lw hist =>
    split at h
    next hc =>
      rw [Bool.and_eq_true, decide_eq_true_eq] at hc
      obtain ⟨h1, h2⟩ := h
      refine ⟨?_, h2⟩
      simp only [Value.pointer.injEq, Option.some.injEq, Addr.mk.injEq, true_and] at h1
      unfold eszIsO
      simp only [← h1, hc.1, decide_true, beq_self_eq_true, Bool.true_and, decide_eq_true_eq]
      exact Nat.le_of_ble_eq_true hc.2
    next => exact (fail_run h).elim
  next => exact (fail_run h).elim

theorem sliceT_run {E : Env} {s : St} {t : TypeId} {x : Value} {lo hi mx : Option Value} {k : Value → T α} {r : α} (h : (sliceT E s t x lo hi mx k).Runs r) : ∃ v, aSlice E s t x lo hi mx = some v ∧ (k v).Runs r := by
  unfold sliceT at h
  split at h
  · exact liftT_run h
  · rename_i hf
    split at h
    · rename_i elem a len cap hd
      unfold aSlice
      rw [if_neg hf]
      simp only [hd]
      split at h
      · rename_i n hn
        obtain ⟨l, hl, h⟩ := boundT_run h
        obtain ⟨hh, hhi, h⟩ := boundT_run h
        simp only [hn, hl, hhi]
        split at h
        · rename_i hn0
          rw [if_pos hn0]
          split at h
          · rename_i hc
            rw [if_pos hc]
            obtain ⟨x, hg, h⟩ := askO_run h
            rw [eszIs_eq, roomAt_eq, hg]
            obtain ⟨hes, h⟩ := eszT_run h
            obtain ⟨h1, h⟩ := ask_run' h
            obtain ⟨h1', h⟩ := eitherT_run h
            rw [if_pos (by simp only [hes, h1, h1', Bool.and_self])]
            split at h
            · exact ⟨_, rfl, h⟩
            · obtain ⟨m, hm, h⟩ := boundT_run h
              simp only [hm]
              obtain ⟨h2, h⟩ := ask_run' h
              obtain ⟨h3, h⟩ := eitherT_run h
              obtain ⟨h4, h⟩ := ask_run' h
              obtain ⟨h5, h⟩ := ask_run' h
              simp only [Bool.or_eq_true, decide_eq_true_eq] at h2 h3 h4 h5
              rw [if_pos ⟨h2, h3, h4, h5⟩]
              simp only [T.Runs] at h
              exact ⟨_, rfl, by simpa using h⟩
          · rename_i hc
            rw [if_neg hc]
            obtain ⟨m, hm, h⟩ := boundT_run h
            simp only [hm]
            obtain ⟨h2, h⟩ := ask_run' h
            rw [if_pos (of_decide_eq_true h2)]
            simp only [T.Runs] at h
            exact ⟨_, rfl, by simpa using h⟩
        · exact (fail_run h).elim
      · exact (fail_run h).elim
    · exact liftT_run h

theorem sourceT_run {E : Env} {s : St} {n m : Nat} {x : Value} {k : List Value → T α} {r : α} (h : (sourceT E s n m x k).Runs r) : ∃ l, aSource E s n m x = some l ∧ (k l).Runs r := by
  unfold sourceT at h
  unfold aSource
  split at h
  · exact ⟨_, rfl, h⟩
  · exact readT_run h
  · split at h
    · rename_i hm
      simp only [if_pos hm]
      exact askL_run h
    · exact (fail_run h).elim
  · exact (fail_run h).elim

theorem newT_run {E : Env} {s : St} {argTypes : Array TypeId} {n b : Nat} {z x : Value} {k : Nat → List Value → T α} {r : α} (h : (newT E s argTypes n b z x k).Runs r) :
    ∃ m l, aNew E s argTypes n b z x = some (m, l) ∧ (k m l).Runs r := by
  unfold newT at h
  split at h
  · rename_i xt hx
    split at h
    · rename_i d hd
      split at h
      · rename_i ik i
        obtain ⟨q, h1, h⟩ := natT_run h
        obtain ⟨h2, h⟩ := ask_run' h
        have h2 := of_decide_eq_true h2
        unfold asNat at h1
        split at h1
        · rename_i h0
          cases h1
          refine ⟨_, _, ?_, h⟩
          unfold aNew
          rw [hx]
          simp only
          rw [hd]
          simp only
          rw [if_pos ⟨h0, by omega, h2.2⟩]
        · simp at h1
      · exact (fail_run h).elim
    · rename_i d hni hd
      split at h
      · rename_i m hm
        obtain ⟨l, h1, h2⟩ := sourceT_run h
        refine ⟨m, l, ?_, h2⟩
        unfold aNew
        rw [hx]
        simp only
        rw [hd]
        cases d <;> first | exact absurd rfl (hni _) | (simp only [hm, h1]; rfl)
      · exact (fail_run h).elim
    · exact (fail_run h).elim
  · rename_i hx
    unfold aNew
    simp only [hx]
    split at h
    · rename_i m hm
      obtain ⟨l, h1, h2⟩ := sourceT_run h
      exact ⟨m, l, by simp [hm, h1], h2⟩
    · exact (fail_run h).elim

theorem clearT_run {E : Env} {s : St} {argTypes : Array TypeId} {x : Value} {k : Value → St → T α} {r : α} (h : (clearT E s argTypes x k).Runs r) : ∃ v s', aClear E s argTypes x = some (v, s') ∧ (k v s').Runs r := by
  unfold clearT at h
  unfold aClear
  split at h
  · rename_i t a n c ht
    simp only [ht]
    split at h
    · rename_i e hd
      simp only [hd]
      split at h
      · rename_i m z hm hz
        simp only [hm, hz]
        rcases ask_run h with ⟨h1, h⟩ | ⟨h1, h⟩
        · rw [if_pos (of_decide_eq_true h1)]
          exact ⟨_, _, rfl, h⟩
        · rw [if_neg (of_decide_eq_false h1)]
          split at h
          · rename_i hc
            rw [if_pos hc]
            obtain ⟨s', h2, h3⟩ := writeT_run h
            exact ⟨_, _, by rw [h2]; rfl, h3⟩
          · exact (fail_run h).elim
      · exact (fail_run h).elim
    · exact (fail_run h).elim
  · exact (fail_run h).elim

theorem appendT_run {E : Env} {s : St} {argTypes : Array TypeId} {sl x : Value} {k : Value → St → T α} {r : α} (h : (appendT E s argTypes sl x k).Runs r) :
    ∃ v s', aAppend E s argTypes sl x = some (v, s') ∧ (k v s').Runs r := by
  unfold appendT at h
  unfold aAppend
  split at h
  · exact (fail_run h).elim
  · rename_i st hst
    split at h
    · rename_i elem hd
      simp only [hst, hd]
      split at h
      · rename_i n b z hn hb hz
        simp only [hn, hb, hz]
        split at h
        · exact (fail_run h).elim
        · rename_i hnz
          rw [if_neg hnz]
          obtain ⟨m, new, hnew, h⟩ := newT_run h
          simp only [hnew]
          obtain ⟨h1, h⟩ := ask_run' h
          rw [if_neg (Classical.not_not.2 (of_decide_eq_true h1))]
          split at h
          · split at h
            · exact (fail_run h).elim
            · rename_i hlc
              simp only
              rw [if_neg hlc]
              rcases ask_run h with ⟨h2, h⟩ | ⟨h2, h⟩
              · rw [if_pos (of_decide_eq_true h2)]
                exact ⟨_, _, rfl, h⟩
              · rw [if_neg (of_decide_eq_false h2)]
                obtain ⟨h3, h⟩ := ask_run' h
                rw [if_pos (of_decide_eq_true h3)]
                exact ⟨_, _, rfl, h⟩
          · rename_i a len cap
            simp only
            obtain ⟨h2, h⟩ := ask_run' h
            rw [if_pos (of_decide_eq_true h2)]
            split at h
            · rename_i e he
              simp only [he]
              obtain ⟨x, hg, h⟩ := askO_run h
              split at h
              · rename_i cells esz ep lw hist
                simp only [hg]
                obtain ⟨h3, h⟩ := ask_run' h
                rw [if_pos (of_decide_eq_true h3)]
                split at h
                · rename_i hcap
                  rw [if_pos hcap]
                  rcases ask_run h with ⟨h4, h⟩ | ⟨h4, h⟩
                  · rw [if_pos (of_decide_eq_true h4)]
                    exact ⟨_, _, rfl, h⟩
                  · rw [if_neg (of_decide_eq_false h4)]
                    rcases ask_run h with ⟨h5, h⟩ | ⟨h5, h⟩
                    · rw [if_pos (of_decide_eq_true h5)]
                      exact ⟨_, _, rfl, h⟩
                    · rw [if_neg (of_decide_eq_false h5)]
                      obtain ⟨h6, h⟩ := ask_run' h
                      rw [if_pos (of_decide_eq_true h6)]
                      exact ⟨_, _, rfl, h⟩
                · rename_i hcap
                  rw [if_neg hcap]
                  rcases ask_run h with ⟨h4, h⟩ | ⟨h4, h⟩
                  · rw [if_pos (of_decide_eq_true h4)]
                    obtain ⟨h5, h⟩ := ask_run' h
                    rw [if_pos (of_decide_eq_true h5)]
                    exact ⟨_, _, rfl, h⟩
                  · rw [if_neg (of_decide_eq_false h4)]
                    obtain ⟨was, h5, h⟩ := readT_run h
                    simp only [h5]
                    exact ⟨_, _, rfl, h⟩
              · exact (fail_run h).elim
            · exact (fail_run h).elim
          · exact (fail_run h).elim
      · exact (fail_run h).elim
    · exact (fail_run h).elim

end

/-! Strings whose length is open. -/
variable {α : Type}

theorem pureFlat_of {P : Program} {x : Sem Value} {v : Value} (h : pureRun P x = some v) (hf : flat v = true) : pureFlat P x = some v := by
  unfold pureFlat
  rw [h]
  simp [hf]

theorem bin_add {E : Env} {t : TypeId} {xo yo : Operand} {a b : ByteArray} (h : a.size + b.size ≤ 2 ^ 62) : aBin E .add t xo yo (.string a) (.string b) = some (.string (a ++ b)) := by
  have : ¬ (((a.size + b.size : Nat) : Int) > IntKind.i64.max) := by
    have : (IntKind.i64.max : Int) = 9223372036854775807 := by decide
    rw [this]; omega
  show pureFlat E.P _ = _
  refine pureFlat_of ?_ rfl
  show pureRun E.P (Op.stringOp .add a b) = _
  unfold Op.stringOp
  simp only
  rw [if_neg this]
  rfl

theorem bytes_toList (b : ByteArray) : b.toList = b.data.toList := by
  obtain ⟨⟨l⟩⟩ := b
  exact ByteArray.toList_mk l

theorem bin_eql {E : Env} {t : TypeId} {xo yo : Operand} {a b : ByteArray} : aBin E .eql t xo yo (.string a) (.string b) = some (.bool (a.data.toList == b.data.toList)) := by
  unfold aBin
  rw [if_pos (show (flat (.string a) && flat (.string b)) = true from rfl)]
  refine pureFlat_of ?_ rfl
  show pureRun E.P (Op.stringOp .eql a b) = _
  unfold Op.stringOp
  simp only [bytes_toList]
  rfl

theorem bin_neq {E : Env} {t : TypeId} {xo yo : Operand} {a b : ByteArray} : aBin E .neq t xo yo (.string a) (.string b) = some (.bool (!(a.data.toList == b.data.toList))) := by
  unfold aBin
  rw [if_pos (show (flat (.string a) && flat (.string b)) = true from rfl)]
  refine pureFlat_of ?_ rfl
  show pureRun E.P (Op.stringOp .neq a b) = _
  unfold Op.stringOp
  simp only [bytes_toList]
  rfl

theorem underlying_pure {P : Program} {t : TypeId} {d : TypeDesc} (h : P.underlying t = some d) {β : Type} (k : TypeDesc → Sem β) : pureRun P (underlying t >>= k) = pureRun P (k d) := by
  unfold underlying
  show pureRun P (((match P.underlying t with | some d => pure d | none => _) : Sem TypeDesc) >>= k) = _
  rw [h]
  rfl

/-! Structs compared. -/
theorem pureRun_bind {P : Program} {α β : Type} (x : Sem α) (f : α → Sem β) : pureRun P (x >>= f) = (pureRun P x).bind fun a => pureRun P (f a) := by
  show pureRun P (Sem.bind x f) = _
  induction x with
  | pure a => rfl
  | program k ih => exact ih P
  | mark m k ih => exact ih
  | _ => rfl

theorem pureRun_pure {P : Program} {α : Type} (a : α) : pureRun P (pure a) = some a := rfl

def eqFs (P : Program) (eq : TypeId → Value → Value → Option Bool) (xs ys : Array Value) : List Field → Option Bool
  | [] => some true
  | f :: fs =>
    if f.name ≠ "_" then
      match pureRun P (part f.type xs f.offset), pureRun P (part f.type ys f.offset) with
      | some a, some b => match eq f.type a b, eqFs P eq xs ys fs with
        | some r, some r' => some (r && r')
        | _, _ => none
      | _, _ => none
    else eqFs P eq xs ys fs

/-- '==' of flat values, all of it reckoned. -/
def eqF (P : Program) : Nat → TypeId → Value → Value → Option Bool
  | 0, _, _, _ => none
  | d + 1, t, x, y => match P.underlying t, x, y with
    | some .bool, .bool a, .bool b => some (a == b)
    | some (.int _), .int k a, .int k' b => if k = k' then some (a == b) else none
    | some .string, .string a, .string b => some (a.data.toList == b.data.toList)
    | some (.struct fs), .agg xs, .agg ys => if P.stoodInHeld t then none else eqFs P (eqF P d) xs ys fs.toList
    | _, _, _ => none

theorem beq_bytes (a b : ByteArray) : (a == b) = (a.data.toList == b.data.toList) := by
  rw [beq_toListBytes, bytes_toList, bytes_toList]

theorem eqF_ok {P : Program} : ∀ (d : Nat) (t : TypeId) (x y : Value) (b : Bool), eqF P d t x y = some b → pureRun P (Op.equalIn d t x y) = some b := by
  intro d
  induction d with
  | zero => intro t x y b h; simp [eqF] at h
  | succ d ih =>
    intro t x y b h
    unfold eqF at h
    split at h
    next a c hu =>
      cases h
      unfold Op.equalIn
      rw [underlying_pure hu]
      rfl
    next k a k' c hu =>
      split at h
      next hk =>
        cases h
        unfold Op.equalIn
        rw [underlying_pure hu]
        simp only [hk, if_true]
        rfl
      next => cases h
    next a c hu =>
      cases h
      unfold Op.equalIn
      rw [underlying_pure hu, ← beq_bytes]
      rfl
    next fs xs ys hu =>
      split at h
      · cases h
      next hs =>
        unfold Op.equalIn
        rw [underlying_pure hu]
        simp only
        show pureRun P (do
          if P.stoodInHeld t then unsupported (.noEntry "binop/eql.a struct with addresses of a package that the model stands in for")
          for f in fs do
            if f.name ≠ "_" then
              if !(← Op.equalIn d f.type (← part f.type xs f.offset) (← part f.type ys f.offset)) then return false
          pure true) = some b
        simp only [hs, Bool.false_eq_true, if_false]
        rw [← Array.forIn_toList]
        generalize fs.toList = l at h
        clear hu
        induction l generalizing b with
        | nil =>
          simp only [eqFs, Option.some.injEq] at h
          subst h
          rfl
        | cons f l ihl =>
          simp only [eqFs] at h
          simp only [List.forIn_cons]
          split at h
          next hn =>
            rw [if_pos hn]
            split at h
            next a c ha hc =>
              split at h
              next r r' hr hr' =>
                simp only [Option.some.injEq] at h
                have hr := ih _ _ _ _ hr
                simp only [pureRun_bind, ha, hc, hr, Option.bind_some]
                cases r with
                | false =>
                  subst h
                  simp [pureRun_bind, pureRun_pure]
                | true =>
                  simp only [Bool.true_and] at h
                  subst h
                  have := ihl r' hr'
                  simp only [pureRun_bind] at this
                  simpa [pureRun_bind, pureRun_pure] using this
              next => cases h
            next => cases h
          next hn =>
            rw [if_neg hn]
            have := ihl b h
            simp only [pureRun_bind] at this
            simpa [pureRun_bind, pureRun_pure] using this
    next => cases h

theorem bin_agg {E : Env} {neg : Bool} {t : TypeId} {xo yo : Operand} {xs ys : Array Value} {b : Bool} (hf : (flat (.agg xs) && flat (.agg ys)) = true) (hg : E.P.eqGuardType E.P.depth t = false) (h : eqF E.P Op.maxDepth t (.agg xs) (.agg ys) = some b) :
    aBin E (if neg then .neq else .eql) t xo yo (.agg xs) (.agg ys) = some (.bool (if neg then !b else b)) := by
  have h1 := eqF_ok _ _ _ _ _ h
  unfold aBin
  rw [if_pos hf]
  cases neg
  · refine pureFlat_of ?_ rfl
    rw [pureRun_bind]
    have : pureRun E.P (eqGuard .eql t xo yo (.agg xs) (.agg ys)) = some () := by
      show pureRun E.P (do if !(E.P.eqGuardType E.P.depth t) then return
                           if ← Op.eqGuardIn Op.maxDepth t (.agg xs) (.agg ys) then unsupported (.noEntry "binop/eql: two nil values of an interface type with methods, in a part of a struct or an array")) = some ()
      rw [hg]
      rfl
    simp only [Bool.false_eq_true, if_false]
    rw [this]
    show pureRun E.P (Op.equal t (.agg xs) (.agg ys) >>= fun r => pure (Value.bool r)) = _
    rw [pureRun_bind]
    unfold Op.equal
    rw [h1]
    rfl
  · refine pureFlat_of ?_ rfl
    rw [pureRun_bind]
    have : pureRun E.P (eqGuard .neq t xo yo (.agg xs) (.agg ys)) = some () := by
      show pureRun E.P (do if !(E.P.eqGuardType E.P.depth t) then return
                           if ← Op.eqGuardIn Op.maxDepth t (.agg xs) (.agg ys) then unsupported (.noEntry "binop/eql: two nil values of an interface type with methods, in a part of a struct or an array")) = some ()
      rw [hg]
      rfl
    simp only [if_true]
    rw [this]
    show pureRun E.P (Op.equal t (.agg xs) (.agg ys) >>= fun r => pure (Value.bool (!r))) = _
    rw [pureRun_bind]
    unfold Op.equal
    rw [h1]
    rfl

theorem get_bytes {b : ByteArray} {i : Nat} (h : i < b.size) : b[i]? = some (b.get! i) := by
  obtain ⟨d⟩ := b
  have h' : i < d.size := h
  show (if h : i < d.size then some _ else none) = _
  rw [dif_pos h']
  congr 1
  show d[i] = d.getD i default
  simp [Array.getD, h']

theorem index_str {E : Env} {t : TypeId} {b : ByteArray} {k : IntKind} {i : Int} (hd : E.P.underlying t = some .string) (h0 : 0 ≤ i) (hi : i.toNat < b.size) : aIndex E t (.string b) (.int k i) = some (.int .u8 ((b.get! i.toNat).toNat : Nat)) := by
  show pureFlat E.P _ = _
  refine pureFlat_of ?_ rfl
  unfold Instr.index
  simp only [asIntOf, pure_bind]
  rw [underlying_pure hd]
  simp only [if_pos h0]
  rw [get_bytes hi]
  rfl

theorem bound_pure {v : Value} {y n : Nat} {c : BoundsCode} {d : Nat} (h : aBound (some v) d = some n) (hn : n ≤ y) : Instr.sliceBound v y c = pure n := by
  cases v <;> simp only [aBound, reduceCtorEq] at h
  rename_i ik i
  unfold asNat at h
  split at h
  · rename_i h0
    cases h
    unfold Instr.sliceBound
    simp only [asIntOf, pure_bind]
    rw [if_pos ⟨h0, by omega⟩]
  · simp at h

theorem slice_str {E : Env} {s : St} {t : TypeId} {b : ByteArray} {lo hi : Option Value} {l h : Nat} (hd : E.P.underlying t = some .string) (hl : aBound lo 0 = some l) (hh : aBound hi b.size = some h) (h1 : l ≤ h) (h2 : h ≤ b.size) : aSlice E s t (.string b) lo hi none = some (.string (b.extract l h)) := by
  have hfl : ∀ {v : Option Value} {d n : Nat}, aBound v d = some n → (v.map flat).getD true = true := by
    intro v d n h
    cases v with
    | none => rfl
    | some v => cases v <;> simp only [aBound, reduceCtorEq] at h; rfl
  unfold aSlice
  rw [if_pos (show flat (.string b) = true from rfl), hfl hl, hfl hh]
  simp only [Option.map_none, Option.getD_none, Bool.and_self, if_true]
  refine pureFlat_of ?_ rfl
  unfold Instr.sliceAt
  rw [underlying_pure hd]
  show pureRun E.P (Instr.slice t (.string b) lo hi none) = _
  unfold Instr.slice
  rw [underlying_pure hd]
  unfold Instr.sliceBounds
  simp only [Option.isSome_none, Bool.false_eq_true, if_false, pure_bind, bind_assoc]
  cases hi with
  | none =>
    cases hh
    cases lo with
    | none => cases hl; rfl
    | some v => simp only [bound_pure hl h1, pure_bind]; rfl
  | some u =>
    simp only [bound_pure (y := b.size) hh h2, pure_bind]
    cases lo with
    | none => cases hl; rfl
    | some v => simp only [bound_pure hl h1, pure_bind]; rfl

/-- A whole number may be told in other words. -/
def intT (v : Value) (k : Value → T α) : T α :=
  match v with
  | .int kd n => .int n fun n' => k (.int kd n')
  | v => k v

theorem intT_run {v : Value} {k : Value → T α} {r : α} (h : (intT v k).Runs r) : (k v).Runs r := by
  unfold intT at h
  split at h
  · exact h
  · exact h

def addStrT (E : Env) (t : TypeId) (xo yo : Operand) (x y : Value) (k : Value → T α) : T α :=
  match x, y with
  | .string a, .string b => .ask (decide (a.size + b.size ≤ 2 ^ 62)) fun c => if c then k (.string (a ++ b)) else .fail
  | _, _ => liftT (aBin E .add t xo yo x y) fun v => intT v k

theorem addStrT_run {E : Env} {t : TypeId} {xo yo : Operand} {x y : Value} {k : Value → T α} {r : α} (h : (addStrT E t xo yo x y k).Runs r) : ∃ v, aBin E .add t xo yo x y = some v ∧ (k v).Runs r := by
  unfold addStrT at h
  split at h
  · obtain ⟨h1, h⟩ := ask_run' h
    exact ⟨_, bin_add (of_decide_eq_true h1), h⟩
  · obtain ⟨v, h1, h2⟩ := liftT_run h
    exact ⟨v, h1, intT_run h2⟩

theorem bin_shl {E : Env} {t : TypeId} {xo yo : Operand} {k yk : IntKind} {a b : Int} (h : 0 ≤ b) : aBin E .shl t xo yo (.int k a) (.int yk b) = some (.int k (k.wrap (a * 2 ^ min b.toNat k.bits))) := by
  unfold aBin
  rw [if_pos (show (flat (.int k a) && flat (.int yk b)) = true from rfl)]
  refine pureFlat_of ?_ rfl
  show pureRun E.P (Op.shift .shl k a yk b) = _
  unfold Op.shift
  rw [if_neg (by omega)]
  rfl

theorem bin_shr {E : Env} {t : TypeId} {xo yo : Operand} {k yk : IntKind} {a b : Int} (h : 0 ≤ b) : aBin E .shr t xo yo (.int k a) (.int yk b) = some (.int k (a.fdiv (2 ^ min b.toNat k.bits))) := by
  unfold aBin
  rw [if_pos (show (flat (.int k a) && flat (.int yk b)) = true from rfl)]
  refine pureFlat_of ?_ rfl
  show pureRun E.P (Op.shift .shr k a yk b) = _
  unfold Op.shift
  rw [if_neg (by omega)]
  rfl

def shiftT (E : Env) (left : Bool) (t : TypeId) (xo yo : Operand) (x y : Value) (k : Value → T α) : T α :=
  match x, y with
  | .int kd a, .int _ b => .ask (decide (0 ≤ b)) fun c => if c then (match left with
    | true => k (.int kd (kd.wrap (a * 2 ^ min b.toNat kd.bits)))
    | false => k (.int kd (a.fdiv (2 ^ min b.toNat kd.bits)))) else .fail
  | _, _ => liftT (aBin E (if left then .shl else .shr) t xo yo x y) k

theorem shiftT_run {E : Env} {left : Bool} {t : TypeId} {xo yo : Operand} {x y : Value} {k : Value → T α} {r : α} (h : (shiftT E left t xo yo x y k).Runs r) : ∃ v, aBin E (if left then .shl else .shr) t xo yo x y = some v ∧ (k v).Runs r := by
  unfold shiftT at h
  split at h
  · obtain ⟨h1, h⟩ := ask_run' h
    have h1 := of_decide_eq_true h1
    cases left
    · exact ⟨_, bin_shr h1, h⟩
    · exact ⟨_, bin_shl h1, h⟩
  · exact liftT_run h

def eqStrT (E : Env) (neg : Bool) (t : TypeId) (xo yo : Operand) (x y : Value) (k : Value → T α) : T α :=
  match x, y with
  | .string a, .string b => match neg with
    | false => k (.bool (a.data.toList == b.data.toList))
    | true => k (.bool (!(a.data.toList == b.data.toList)))
  | .agg xs, .agg ys => match (flat (.agg xs) && flat (.agg ys)) && !(E.P.eqGuardType E.P.depth t) with
    | true => liftT (eqF E.P Op.maxDepth t (.agg xs) (.agg ys)) fun b => match neg with
      | false => k (.bool b)
      | true => k (.bool (!b))
    | false => liftT (aBin E (if neg then .neq else .eql) t xo yo (.agg xs) (.agg ys)) k
  | _, _ => liftT (aBin E (if neg then .neq else .eql) t xo yo x y) k

theorem eqStrT_run {E : Env} {neg : Bool} {t : TypeId} {xo yo : Operand} {x y : Value} {k : Value → T α} {r : α} (h : (eqStrT E neg t xo yo x y k).Runs r) : ∃ v, aBin E (if neg then .neq else .eql) t xo yo x y = some v ∧ (k v).Runs r := by
  unfold eqStrT at h
  split at h
  next a b =>
    cases neg
    · exact ⟨_, by simpa using bin_eql, h⟩
    · exact ⟨_, by simpa using bin_neq, h⟩
  next xs ys =>
    split at h
    next hc =>
      rw [Bool.and_eq_true, Bool.not_eq_true'] at hc
      obtain ⟨b, h1, h2⟩ := liftT_run h
      have := bin_agg (neg := neg) (xo := xo) (yo := yo) hc.1 hc.2 h1
      cases neg
      · exact ⟨_, this, h2⟩
      · exact ⟨_, this, h2⟩
    next => exact liftT_run h
  next => exact liftT_run h

def indexStrT (E : Env) (t : TypeId) (x i : Value) (k : Value → T α) : T α :=
  match E.P.underlying t, x, i with
  | some .string, .string b, .int _ i => .ask (decide (0 ≤ i)) fun c => if c then .ask (decide (i.toNat < b.size)) fun c => if c then intT (.int .u8 ((b.get! i.toNat).toNat : Nat)) k else .fail else .fail
  | _, _, _ => liftT (aIndex E t x i) k

theorem indexStrT_run {E : Env} {t : TypeId} {x i : Value} {k : Value → T α} {r : α} (h : (indexStrT E t x i k).Runs r) : ∃ v, aIndex E t x i = some v ∧ (k v).Runs r := by
  unfold indexStrT at h
  split at h
  next hd =>
    obtain ⟨h1, h⟩ := ask_run' h
    obtain ⟨h2, h⟩ := ask_run' h
    exact ⟨_, index_str hd (of_decide_eq_true h1) (of_decide_eq_true h2), intT_run h⟩
  · exact liftT_run h

def sliceStrT (E : Env) (s : St) (t : TypeId) (x : Value) (lo hi mx : Option Value) (k : Value → T α) : T α :=
  match E.P.underlying t, x, mx with
  | some .string, .string b, none => boundT lo 0 fun l => boundT hi b.size fun h => .ask (decide (l ≤ h)) fun c => if c then .ask (decide (h ≤ b.size)) fun c => if c then k (.string (b.extract l h)) else .fail else .fail
  | _, _, _ => sliceT E s t x lo hi mx k

theorem sliceStrT_run {E : Env} {s : St} {t : TypeId} {x : Value} {lo hi mx : Option Value} {k : Value → T α} {r : α} (h : (sliceStrT E s t x lo hi mx k).Runs r) : ∃ v, aSlice E s t x lo hi mx = some v ∧ (k v).Runs r := by
  unfold sliceStrT at h
  split at h
  next hd =>
    obtain ⟨l, hl, h⟩ := boundT_run h
    obtain ⟨hh, hhi, h⟩ := boundT_run h
    obtain ⟨h1, h⟩ := ask_run' h
    obtain ⟨h2, h⟩ := ask_run' h
    exact ⟨_, slice_str hd hl hhi (of_decide_eq_true h1) (of_decide_eq_true h2), h⟩
  · exact sliceT_run h

end Go.Ai
