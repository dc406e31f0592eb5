/-
  THE SHORT RUN, 15: code and calls.
-/
import Derived.Test.YtiabpbememhdeaaDoorAiN
import Derived.Orders
set_option linter.unusedSimpArgs false
set_option linter.unusedVariables false
namespace Go.Ai
open Go

/-- How a piece of code ends. -/
inductive X where
  | normal
  | exit (id : Nat)
  | ret
  | panic (v : Value)

/-- What a call comes to. -/
inductive Ret where
  | ok (v : Value)
  | pan (v : Value)

abbrev Caller := FuncId → List Value → St → Option (Ret × St)

inductive Rs where
  | val (v : Value) (s : St)
  | pan (v : Value) (s : St)
  | dfr (d : Deferred) (s : St)

def aCall (E : Env) (call : Caller) (g : FuncId) (args : List Value) (s : St) : Option Rs :=
  match E.known g with
  | some F => match F args with
    | some (true, v) => some (.val v s)
    | _ => none
  | none => match call g args s with
    | some (.ok v, s') => some (.val v s')
    | some (.pan v, s') => some (.pan v s')
    | none => none

/-- What stands in a temporary that is not looked at any more. -/
def junk : Value := .chan (some 0)

def isJunk : Value → Bool
  | .chan (some _) => true
  | _ => false

/-- No operand is junk. -/
def clean (ρ : Operand → Value) (o : Op) : Bool := o.operands.toList.all fun x => !isJunk (ρ x)

/-- An operation whose operands are no junk. -/
def aOpC (E : Env) (call : Caller) (ρ : Operand → Value) (o : Oper) (s : St) : Option Rs :=
  match o.op with
  | .call { callee := .value f, args, .. } => match ρ f with
    | .func (.func g) first captured => aCall E call g (first.toList ++ args.toList.map ρ ++ captured.toList) s
    | _ => none
  | .call { callee := .invoke .., .. } => none
  | .call { callee := .builtin .panic, args, .. } => match args.toList.map ρ with
    | [.iface t v] => some (.pan (.iface t v) s)
    | _ => none
  | .panic x => match ρ x with
    | .iface t v => some (.pan (.iface t v) s)
    | _ => none
  | .defer { callee := .value f, args, .. } => match ρ f with
    | .func (.func g) first captured => some (.dfr { target := .fn (.func g) captured, args := first ++ args.map ρ } s)
    | _ => none
  | _ => match aVal E ρ o s with
    | some (v, s') => some (.val v s')
    | none => none

/-- An operation. -/
def aOp (E : Env) (call : Caller) (ρ : Operand → Value) (o : Oper) (s : St) : Option Rs :=
  if clean ρ o.op then aOpC E call ρ o s else none

theorem aOp_clean {E : Env} {call : Caller} {ρ : Operand → Value} {o : Oper} {s : St} {r : Rs} (h : aOp E call ρ o s = some r) : clean ρ o.op = true ∧ aOpC E call ρ o s = some r := by
  unfold aOp at h
  split at h
  · rename_i hc; exact ⟨hc, h⟩
  · simp at h

theorem clean_iff {ρ : Operand → Value} {o : Op} : clean ρ o = true ↔ ∀ x ∈ o.operands, isJunk (ρ x) = false := by
  unfold clean
  rw [List.all_eq_true]
  simp only [Array.mem_toList_iff, Bool.not_eq_true']

/-- May an operation's guard let it run? -/
def aWanted (ops : Array Oper) (tmps : List Value) (o : Oper) : Bool :=
  match o.guard with
  | none => true
  | some (j, want) => match ((ops[j]?).bind (·.dst)).bind (tmps[·]?) with
    | some (.bool b) => b == want
    | _ => false

def evalOps (E : Env) (call : Caller) (ops : Array Oper) : List Oper → AAct → St → Option (X × AAct × St)
  | [], a, s => some (.normal, a, s)
  | o :: rest, a, s =>
    if aWanted ops a.tmps o then
      match aOp E call a.eval o s with
      | some (.val v s') => evalOps E call ops rest (a.put o.dst v) s'
      | some (.pan v s') => some (.panic v, a, s')
      | some (.dfr d s') => evalOps E call ops rest ({ a with defers := d :: a.defers }.put o.dst undef) s'
      | none => none
    else evalOps E call ops rest (a.put o.dst undef) s

/-! A statement whose order is open: what its operations come to in the text's order, and a look whether that is the same in every order. -/

/-- An operation as it ran: 'cls': 0 looks at nothing, 1 looks at memory, 2 makes something, 3 does something, 4 panicked, 5 stands behind that. -/
structure Ent where
  o : Oper
  a : AAct
  s : St
  cls : Nat
  ran : Bool
  v : Value
  s' : St

def pureOp : Op → Bool
  | .move _ | .assign _ | .pick .. | .build .. | .nilCheck _ | .binOp .. | .unOp .. | .makeInterface .. | .makeFunc .. | .fieldAddr .. | .field .. | .indexAddr .. | .index .. | .typeAssert .. | .extract .. => true
  | _ => false

def isPlainLen (E : Env) (c : Call) : Bool :=
  match c.callee, c.argTypes[0]? with
  | .builtin .len, some t => match E.desc t with
    | some (.slice _) | some .string => true
    | _ => false
  | .builtin .min, _ | .builtin .max, _ => true
  | _, _ => false

def clsOf (E : Env) (ρ : Operand → Value) (o : Op) : Nat :=
  if pureOp o then 0
  else if quietOp E o then 1
  else if allocOp E o then 2
  else match o with
    | .call { callee := .value f, .. } => match ρ f with
      | .func (.func g) _ _ => if (E.known g).isSome then 0 else 3
      | _ => 3
    | _ => 3

/-- The operations in the text's order. 'pn': the place of the one that panicked. -/
def trace (E : Env) (call : Caller) (ops : Array Oper) (bits : Array Nat) : List Oper → Nat → Option (Nat × Value × St) → AAct → St → Option (List Ent × Option (Nat × Value × St) × AAct × St)
  | [], _, pn, a, s => some ([], pn, a, s)
  | o :: rest, i, none, a, s =>
    if aWanted ops a.tmps o then
      match aOp E call a.eval o s with
      | some (.val v s') => match trace E call ops bits rest (i + 1) none (a.put o.dst v) s' with
        | some (l, r) => some (⟨o, a, s, clsOf E a.eval o.op, true, v, s'⟩ :: l, r)
        | none => none
      | some (.pan v s') => match trace E call ops bits rest (i + 1) (some (i, v, s')) (a.put o.dst undef) s with
        | some (l, r) => some (⟨o, a, s, 4, true, undef, s⟩ :: l, r)
        | none => none
      | _ => none
    else match trace E call ops bits rest (i + 1) none (a.put o.dst undef) s with
      | some (l, r) => some (⟨o, a, s, 0, false, undef, s⟩ :: l, r)
      | none => none
  | o :: rest, i, some (p, pv, ps), a, s =>
    if (bits.getD i 0).testBit p then
      match trace E call ops bits rest (i + 1) (some (p, pv, ps)) (a.put o.dst undef) s with
      | some (l, r) => some (⟨o, a, s, 5, false, undef, s⟩ :: l, r)
      | none => none
    else if aWanted ops a.tmps o then
      if quietOp E o.op then
        match aOp E call a.eval o s with
        | some (.val v _) => match trace E call ops bits rest (i + 1) (some (p, pv, ps)) (a.put o.dst v) s with
          | some (l, r) => some (⟨o, a, s, clsOf E a.eval o.op, true, v, s⟩ :: l, r)
          | none => none
        | _ => none
      else none
    else match trace E call ops bits rest (i + 1) (some (p, pv, ps)) (a.put o.dst undef) s with
      | some (l, r) => some (⟨o, a, s, 0, false, undef, s⟩ :: l, r)
      | none => none

/-- Memory as it is ahead of the e-th operation, with all that later operations make. -/
def withMade (e : Nat) (ents : List (Ent × Nat)) (s : St) : St :=
  ents.foldl (fun s (x : Ent × Nat) => if x.1.cls = 2 && decide (e < x.2) then (match x.1.s'.get x.1.s.next with | some o => s.put x.1.s.next o | none => s) else s) s

def isEff (x : Ent) : Bool := x.cls = 3 || x.cls = 4

def isStore : Op → Bool
  | .store .. => true
  | _ => false

/-- A store behind all that looks, makes or does something else: it may come ahead of or behind its like. -/
def isTail (bits : Array Nat) (all : List (Ent × Nat)) (x : Ent × Nat) : Bool :=
  x.1.cls = 3 && isStore x.1.o.op && all.all fun y => !(y.1.ran && (y.1.cls = 1 || y.1.cls = 2 || y.1.cls = 4 || (y.1.cls = 3 && !isStore y.1.o.op))) || (bits.getD x.2 0).testBit y.2

/-- Where a store stores. -/
def storeTo (x : Ent) : Option Nat :=
  match x.o.op with
  | .store _ a _ => match x.a.eval a with
    | .pointer (some a) => if a.spot.isSome then some a.block else none
    | _ => none
  | _ => none

def apartStores (x y : Ent) : Bool :=
  match storeTo x, storeTo y with
  | some f, some g => f != g
  | _, _ => false

/-- Memory ahead of the first of the stores at the end. -/
def midSt (sN : St) : List (Ent × Nat) → St
  | [] => sN
  | x :: _ => x.1.s

/-! Values and memory that name numbers under n alone. -/
mutual
def under (n : Nat) : Value → Bool
  | .pointer (some a) | .slice (some a) _ _ => a.spot.isNone || decide (a.block < n)
  | .map (some f) => decide (f < n)
  | .iface _ v => under n v
  | .func _ ⟨first⟩ ⟨captured⟩ => underL n first && underL n captured
  | .agg ⟨cs⟩ => underL n cs
  | .tuple ⟨vs⟩ => underL n vs
  | _ => true
def underL (n : Nat) : List Value → Bool
  | [] => true
  | v :: l => under n v && underL n l
end

def underO (n : Nat) : AObj → Bool
  | .row cells _ _ _ _ => underL n cells
  | .map es => es.all fun x => under n x.2
  | .iter .. => true

def Tr.all {α : Type} (p : α → Bool) : Tr α → Bool
  | .nil => true
  | .node l v r => l.all p && (match v with | some a => p a | none => true) && r.all p

def underSt (s : St) : Bool := s.objs.all (underO s.next)

/-- What does something and what stands behind it in the text but may come ahead of it: that must not make what it could know. -/
def knowsOk (bits : Array Nat) (all : List (Ent × Nat)) (y : Ent × Nat) : Bool :=
  (all.all fun x => x.1.cls ≠ 2 || decide (x.2 < y.2) || (bits.getD x.2 0).testBit y.2) ||
    (underSt y.1.s && y.1.o.op.operands.all fun q => under y.1.s.next (y.1.a.eval q))

/-- What does something and is no store at the end. -/
def Eff (bits : Array Nat) (ents : List Ent) (x : Ent) (j : Nat) : Prop := ents[j]? = some x ∧ isEff x = true ∧ isTail bits ents.zipIdx (x, j) = false
def Tail (bits : Array Nat) (ents : List Ent) (x : Ent) (j : Nat) : Prop := ents[j]? = some x ∧ isEff x = true ∧ isTail bits ents.zipIdx (x, j) = true

def effsOf (bits : Array Nat) (ents : List Ent) : List (Ent × Nat) := (ents.zipIdx.filter fun x => isEff x.1).filter fun x => !isTail bits ents.zipIdx x
def tailsOf (bits : Array Nat) (ents : List Ent) : List (Ent × Nat) := (ents.zipIdx.filter fun x => isEff x.1).filter (isTail bits ents.zipIdx)

/-- Sight of what looks at memory. -/
def seenAt (E : Env) (x : Ent) (s : St) : Prop := ∃ s', aVal E x.a.eval x.o s = some (x.v, s')

/-- Does the i-th operation, which looks at memory, see the same wherever it may come? The list: the operations that do something, with their places. -/
def SeesP (E : Env) (bits : Array Nat) (all : List (Ent × Nat)) (sM : St) (x : Ent) (i : Nat) : List (Ent × Nat) → Prop
  | [] => seenAt E x (withMade all.length all sM)
  | (e, k) :: rest =>
    if (bits.getD i 0).testBit k then SeesP E bits all sM x i rest
    else seenAt E x (withMade k all e.s) ∧ ((bits.getD k 0).testBit i = true ∨ e.cls = 4 ∨ SeesP E bits all sM x i rest)

/-- Every order comes to what the text's order comes to. -/
structure Good (E : Env) (bits : Array Nat) (ents : List Ent) (sN : St) : Prop where
  inRow : ∀ x i y j, Eff bits ents x i → Eff bits ents y j → i < j → (bits.getD j 0).testBit i = true
  last : ∀ x i y j, Eff bits ents x i → Tail bits ents y j → (bits.getD j 0).testBit i = true
  apart : ∀ x i y j, Tail bits ents x i → Tail bits ents y j → i < j → (bits.getD j 0).testBit i = true ∨ apartStores x y = true
  knows : ∀ y j, Eff bits ents y j → knowsOk bits ents.zipIdx (y, j) = true
  looks : ∀ e k, Eff bits ents e k → ∀ x i, ents[i]? = some x → x.cls = 1 → x.ran = true → SeesP E bits ents.zipIdx (midSt sN (tailsOf bits ents)) x i (effsOf bits ents)
  makes : ∀ x i y j, ents[i]? = some x → x.cls = 2 → Eff bits ents y j → i < j → y.cls = 4 ∨ (bits.getD j 0).testBit i = true ∨ y.s.get x.s.next = y.s'.get x.s.next

open Classical in
noncomputable def evalDraw (E : Env) (call : Caller) (ops : Array Oper) (a : AAct) (s : St) : Option (X × AAct × St) :=
  match trace E call ops (Region.before ops) ops.toList 0 none a s with
  | some (ents, none, a', s') => if Good E (Region.before ops) ents s' then some (.normal, a', s') else none
  | some (ents, some (_, v, ps), _, s') => if Good E (Region.before ops) ents s' ∧ a.defers = [] then some (.panic v, a, ps) else none
  | none => none

def iter (f : AAct → St → Option (X × AAct × St)) : Nat → AAct → St → Option (X × AAct × St)
  | 0, _, _ => none
  | n + 1, a, s => match f a s with
    | some (.normal, a', s') => iter f n a' s'
    | r => r

noncomputable def evalCode (E : Env) (call : Caller) (N : Nat) : Code → AAct → St → Option (X × AAct × St)
  | .skip, a, s => some (.normal, a, s)
  | .label _, a, s => some (.normal, a, s)
  | .region _ ops false, a, s => evalOps E call ops ops.toList a s
  | .region _ ops true, a, s => evalDraw E call ops a s
  | .seq x y, a, s => match evalCode E call N x a s with
    | some (.normal, a', s') => evalCode E call N y a' s'
    | r => r
  | .cond c x y, a, s => match a.eval c with
    | .bool true => evalCode E call N x a s
    | .bool false => evalCode E call N y a s
    | _ => none
  | .block id c, a, s => match evalCode E call N c a s with
    | some (.exit id', a', s') => if id' = id then some (.normal, a', s') else some (.exit id', a', s')
    | r => r
  | .loop c, a, s => iter (evalCode E call N c) N a s
  | .scope c, a, s => evalCode E call N c a s
  | .exit id, a, s => some (.exit id, a, s)
  | .ret, a, s => some (.ret, a, s)
  | _, _, _ => none

/-- A function's results. -/
def aResult (E : Env) (tmps : List Value) (s : St) : ResultVar → Option Value
  | .tmp t => if isJunk (tmps.getD t undef) then none else some (tmps.getD t undef)
  | .cell a t => aLoad E s t (tmps.getD a undef)

def aResults (E : Env) (tmps : List Value) (s : St) : List ResultVar → Option (List Value)
  | [] => some []
  | r :: rest => match aResult E tmps s r, aResults E tmps s rest with
    | some v, some l => some (v :: l)
    | _, _ => none

def aRet (E : Env) (fn : Func) (tmps : List Value) (s : St) : Option Value :=
  match aResults E tmps s fn.results.toList with
  | some [v] => some v
  | some l => some (.tuple l.toArray)
  | none => none

/-! A call that was put off, made while its maker unwinds. 'u': what it panics with (and whether that has been caught); none: it returns. -/
abbrev Unw := Option (Value × Bool)

def hasRecover : Op → Bool
  | .call { callee := .builtin .recover, .. } => true
  | _ => false

def evalOpsD (E : Env) (call : Caller) (ops : Array Oper) : List Oper → AAct → Unw → St → Option (X × AAct × Unw × St)
  | [], a, u, s => some (.normal, a, u, s)
  | o :: rest, a, u, s =>
    if aWanted ops a.tmps o then
      if hasRecover o.op then
        match u with
        | some (v, false) => evalOpsD E call ops rest (a.put o.dst v) (some (v, true)) s
        | none => evalOpsD E call ops rest (a.put o.dst .nilIface) none s
        | _ => none
      else
      match aOp E call a.eval o s with
      | some (.val v s') => evalOpsD E call ops rest (a.put o.dst v) u s'
      | some (.pan v s') => some (.panic v, a, u, s')
      | _ => none
    else evalOpsD E call ops rest (a.put o.dst undef) u s

def recovers : Code → Bool
  | .region _ ops _ => ops.any fun o => hasRecover o.op
  | .seq x y => recovers x || recovers y
  | .cond _ x y => recovers x || recovers y
  | .block _ x | .loop x | .scope x => recovers x
  | .rangeFunc _ _ x y => recovers x || recovers y
  | _ => false

noncomputable def evalCodeD (E : Env) (call : Caller) (N : Nat) : Code → AAct → Unw → St → Option (X × AAct × Unw × St)
  | .seq x y, a, u, s => match evalCodeD E call N x a u s with
    | some (.normal, a', u', s') => evalCodeD E call N y a' u' s'
    | r => r
  | .cond c x y, a, u, s => match a.eval c with
    | .bool true => evalCodeD E call N x a u s
    | .bool false => evalCodeD E call N y a u s
    | _ => none
  | .region i ops d, a, u, s =>
    if (ops.any fun o => hasRecover o.op) then (if d then none else evalOpsD E call ops ops.toList a u s)
    else match evalCode E call N (.region i ops d) a s with
      | some (x, a', s') => some (x, a', u, s')
      | none => none
  | c, a, u, s => if recovers c then none else match evalCode E call N c a s with
    | some (x, a', s') => some (x, a', u, s')
    | none => none

def enterTmps (fn : Func) (args : List Value) : List Value := args ++ List.replicate (fn.ntmps - args.length) undef

/-- A call that was put off. It must return. -/
noncomputable def evalDeferred (E : Env) (call : Caller) (N : Nat) (d : Deferred) (u : Unw) (s : St) : Option (Unw × St) :=
  match d.target with
  | .fn (.func g) captured => match E.func g with
    | some fn => match fn.body with
      | some c => match evalCodeD E call N c { tmps := enterTmps fn (d.args.toList ++ captured.toList), defers := [] } u s with
        | some (.normal, a, u', s') | some (.ret, a, u', s') => if a.defers.isEmpty then (match aRet E fn a.tmps s' with | some _ => some (u', s') | none => none) else none
        | _ => none
      | none => none
    | none => none
  | _ => none

/-- What is left when a call that was put off has returned. -/
def aSettle : Unw → Unw
  | some (_, true) => none
  | u => u

noncomputable def unwinds (E : Env) (call : Caller) (N : Nat) : List Deferred → Unw → St → Option (Unw × St)
  | [], u, s => some (u, s)
  | d :: ds, u, s => match evalDeferred E call N d u s with
    | some (u', s') => unwinds E call N ds (aSettle u') s'
    | none => none

noncomputable def evalFn (E : Env) (call : Caller) (N : Nat) (g : FuncId) (args : List Value) (s : St) : Option (Ret × St) :=
  match E.func g with
  | none => none
  | some fn => match fn.body with
    | none => none
    | some c => match evalCode E call N c { tmps := enterTmps fn args, defers := [] } s with
      | some (.normal, a, s') | some (.ret, a, s') => match unwinds E call N a.defers none s' with
        | some (none, s'') => (aRet E fn a.tmps s'').map fun v => (.ok v, s'')
        | _ => none
      | some (.panic v, a, s') => match unwinds E call N a.defers (some (v, false)) s' with
        | some (none, s'') => (aRet E fn a.tmps s'').map fun v => (.ok v, s'')
        | some (some (v, false), s'') => some (.pan v, s'')
        | _ => none
      | _ => none

/-- The short run of a call. -/
noncomputable def callN (E : Env) (N : Nat) : Nat → Caller
  | 0 => fun _ _ _ => none
  | n + 1 => evalFn E (callN E N n) N

end Go.Ai
