/-
  THE FORKED RUN, 2: operations, code, calls.
-/
import Derived.Test.YtiabpbememhdeaaDoorPb
import Derived.Shelf.Small.Bits
import Derived.Shelf.Strconv.Itoa0
import Derived.Shelf.Strings.Search1
import Derived.Shelf.Strings.Search2
import Derived.Shelf.Strings.Search3
import Derived.Shelf.LaysM
import Derived.Shelf.Strings.Shaped
import Derived.Shelf.Strings.Prefix
import Derived.Test.YtiabpbememhdeaaDoorProg
import Derived.Test.YtiabpbememhdeaaDoorRows
import Derived.Lib.IndexMore
import Derived.Lib.LaidTab
import Derived.WalkKit
import Derived.ProofKit
import Derived.OpenShut
import Derived.Deep.DeepHandedRow
import Derived.Lib.BitFns

set_option linter.unusedSimpArgs false
set_option linter.unusedVariables false
set_option linter.unusedSectionVars false
namespace Go.Ai
open Go

section
variable {α : Type}

def valT (E : Env) (ρ : Operand → Value) (o : Oper) (s : St) (k : Value → St → T α) : T α :=
  match o.op with
  | .pick c a b => match ρ c with
    | .bool t => .ask t fun c => k (if c then ρ a else ρ b) s
    | _ => .fail
  | .load t a => loadT E s t (ρ a) fun v => k v s
  | .store t a x => storeT E s t (ρ a) (ρ x) fun s' => k undef s'
  | .indexAddr t x i => indexAddrT E t (ρ x) (ρ i) fun v => k v s
  | .slice t x lo hi mx => sliceStrT E s t (ρ x) (lo.map ρ) (hi.map ρ) (mx.map ρ) fun v => k v s
  | .binOp .add t x y _ => addStrT E t x y (ρ x) (ρ y) fun v => k v s
  | .binOp .shl t x y _ => shiftT E true t x y (ρ x) (ρ y) fun v => intT v fun v => k v s
  | .binOp .shr t x y _ => shiftT E false t x y (ρ x) (ρ y) fun v => intT v fun v => k v s
  | .binOp .eql t x y _ => eqStrT E false t x y (ρ x) (ρ y) fun v => k v s
  | .binOp .neq t x y _ => eqStrT E true t x y (ρ x) (ρ y) fun v => k v s
  | .binOp op t x y _ => liftT (aBin E op t x y (ρ x) (ρ y)) fun v => intT v fun v => k v s
  | .index t x i => indexStrT E t (ρ x) (ρ i) fun v => k v s
  | .call { callee := .builtin .append, args, argTypes } => match args.toList.map ρ with
    | [x, y] => appendT E s argTypes x y k
    | _ => .fail
  | .call { callee := .builtin .clear, args, argTypes } => match args.toList.map ρ with
    | [x] => clearT E s argTypes x k
    | _ => .fail
  | .alloc t => match E.zero t, E.size t with
    | some z, some n => if z.cells.size = n ∧ 0 < n then .push s (.row z.cells.toList n 0 0 []) fun s' => k (.pointer (some ⟨s.next, 0, some 0⟩)) s' else .fail
    | _, _ => .fail
  | .box _ x => if 0 < (ρ x).cells.size then .push s (.row (ρ x).cells.toList (ρ x).cells.size 0 0 []) fun s' => k (.pointer (some ⟨s.next, 0, some 0⟩)) s' else .fail
  | .buildSlice t len parts => match E.desc t with
    | some (.slice elem) => match E.size elem, E.zero elem with
      | some n, some z =>
        if 0 < n ∧ len * n ≤ 2 ^ 24 ∧ z.cells.size = n then
          match Instr.fill (fun i => some (i * n, n)) (aZeros z.cells.toList len).toArray (parts.map fun (i, x) => (i, ρ x)).toList with
          | some cells => .push s (.row cells.toList n 0 0 []) fun s' => k (.slice (some ⟨s.next, 0, some 0⟩) len unc) s'
          | none => .fail
        else .fail
      | _, _ => .fail
    | _ => .fail
  | .makeMap _ none => .push s (.map []) fun s' => k (.map (some s.next)) s'
  | .makeSlice t l c => match E.desc t, aInt (ρ l), aInt (ρ c) with
    | some (.slice elem), some l, some c => match E.size elem, E.bytes elem, E.zero elem with
      | some n, some b, some z => if 0 < n ∧ z.cells.size = n then natT l fun l' => natT c fun c' => .ask (decide (l' ≤ c' ∧ c' < 2 ^ 62 ∧ b * c' ≤ 2 ^ 48)) fun q => if q then
          .push s (.row (aZeros z.cells.toList c') n 0 0 []) fun s' => k (.slice (some ⟨s.next, 0, some 0⟩) l' unc) s'
        else .fail
        else .fail
      | _, _, _ => .fail
    | _, _, _ => .fail
  | .convert src dst x => match ρ x with
    | .slice (some a) n _ => match E.desc src, E.desc dst with
      | some (.slice e), some .string => match E.desc e with
        | some (.int .u8) => readT E.old s a n fun l => .ask (bytesOf l).isSome fun c => if c then k (.string ⟨((bytesOf l).getD []).toArray⟩) s else .fail
        | _ => .fail
      | _, _ => .fail
    | .string b => match E.desc src, E.desc dst with
      | some .string, some .string => k (.string b) s
      | some .string, some (.slice e) => match E.desc e with
        | some (.int .u8) => .push s (.row (b.data.toList.map fun b => .int .u8 b.toNat) 1 0 0 []) fun s' => k (.slice (some ⟨s.next, 0, some 0⟩) b.size unc) s'
        | _ => .fail
      | _, _ => .fail
    | _ => liftT (aVal E ρ o s) fun r => intT r.1 fun v => k v r.2
  | _ => liftT (aVal E ρ o s) fun r => intT r.1 fun v => k v r.2

theorem valT_run {E : Env} {ρ : Operand → Value} {o : Oper} {s : St} {k : Value → St → T α} {r : α} (h : (valT E ρ o s k).Runs r) : ∃ v s', aVal E ρ o s = some (v, s') ∧ (k v s').Runs r := by
  obtain ⟨dst, op, ty, pos, after, guard⟩ := o
  have other : (liftT (aVal E ρ ⟨dst, op, ty, pos, after, guard⟩ s) fun r => intT r.1 fun v => k v r.2).Runs r → ∃ v s', aVal E ρ ⟨dst, op, ty, pos, after, guard⟩ s = some (v, s') ∧ (k v s').Runs r := by
    intro h
    obtain ⟨⟨v, s'⟩, h1, h2⟩ := liftT_run h
    exact ⟨v, s', h1, intT_run h2⟩
  unfold valT at h
  split at h
  next c a b hop =>
    simp only at hop
    subst hop
    unfold aVal
    simp only
    split at h
    next t ht =>
      simp only [T.Runs] at h
      simp only [ht]
      exact ⟨_, _, rfl, h⟩
    next => exact (fail_run h).elim
  next t a hop =>
    simp only at hop
    subst hop
    unfold aVal
    obtain ⟨v, h1, h2⟩ := loadT_run h
    exact ⟨v, s, by simp [h1], h2⟩
  next t a x hop =>
    simp only at hop
    subst hop
    unfold aVal
    obtain ⟨v, h1, h2⟩ := storeT_run h
    exact ⟨_, _, by simp [h1], h2⟩
  next t x i hop =>
    simp only at hop
    subst hop
    unfold aVal
    obtain ⟨v, h1, h2⟩ := indexAddrT_run h
    exact ⟨v, s, by simp [h1], h2⟩
  next t x lo hi mx hop =>
    simp only at hop
    subst hop
    unfold aVal
    obtain ⟨v, h1, h2⟩ := sliceStrT_run h
    exact ⟨v, s, by simp [h1], h2⟩
  next t x y ty hop =>
    simp only at hop
    subst hop
    unfold aVal
    obtain ⟨v, h1, h2⟩ := addStrT_run h
    exact ⟨v, s, by simp [h1], h2⟩
  next t x y ty hop =>
    simp only at hop
    subst hop
    unfold aVal
    obtain ⟨v, h1, h2⟩ := shiftT_run h
    exact ⟨v, s, by simp only [if_true] at h1; simp [h1], intT_run h2⟩
  next t x y ty hop =>
    simp only at hop
    subst hop
    unfold aVal
    obtain ⟨v, h1, h2⟩ := shiftT_run h
    exact ⟨v, s, by simp only [Bool.false_eq_true, if_false] at h1; simp [h1], intT_run h2⟩
  next t x y ty hop =>
    simp only at hop
    subst hop
    unfold aVal
    obtain ⟨v, h1, h2⟩ := eqStrT_run h
    exact ⟨v, s, by simp only [Bool.false_eq_true, if_false] at h1; simp [h1], h2⟩
  next t x y ty hop =>
    simp only at hop
    subst hop
    unfold aVal
    obtain ⟨v, h1, h2⟩ := eqStrT_run h
    exact ⟨v, s, by simp only [if_true] at h1; simp [h1], h2⟩
  next op t x y ty hno hno1 hno2 hno3 hno4 hop =>
    simp only at hop
    subst hop
    unfold aVal
    obtain ⟨v, h1, h2⟩ := liftT_run h
    exact ⟨v, s, by simp [h1], intT_run h2⟩
  next t x i hop =>
    simp only at hop
    subst hop
    unfold aVal
    obtain ⟨v, h1, h2⟩ := indexStrT_run h
    exact ⟨v, s, by simp [h1], h2⟩
  next args ats hop =>
    simp only at hop
    subst hop
    unfold aVal
    simp only
    split at h
    next x y hl =>
      obtain ⟨v, s', h1, h2⟩ := appendT_run h
      exact ⟨v, s', by rw [hl]; simpa [aBuiltin] using h1, h2⟩
    next => exact (fail_run h).elim
  next args ats hop =>
    simp only at hop
    subst hop
    unfold aVal
    simp only
    split at h
    next x hl =>
      obtain ⟨v, s', h1, h2⟩ := clearT_run h
      exact ⟨v, s', by rw [hl]; simpa [aBuiltin] using h1, h2⟩
    next => exact (fail_run h).elim
  next t hop =>
    simp only at hop
    subst hop
    unfold aVal
    simp only
    split at h
    next z n hz hn =>
      simp only [hz, hn]
      split at h
      next hc => rw [if_pos hc]; exact ⟨_, _, rfl, h⟩
      next => exact (fail_run h).elim
    next => exact (fail_run h).elim
  next t x hop =>
    simp only at hop
    subst hop
    unfold aVal
    simp only
    split at h
    next hc => rw [if_pos hc]; exact ⟨_, _, rfl, h⟩
    next => exact (fail_run h).elim
  next t len parts hop =>
    simp only at hop
    subst hop
    unfold aVal aBuildSlice
    simp only
    split at h
    next elem hd =>
      simp only [hd]
      split at h
      next n z hn hz =>
        simp only [hn, hz]
        split at h
        next hc =>
          rw [if_pos hc]
          split at h
          next cells hf => simp only [hf]; exact ⟨_, _, rfl, h⟩
          next => exact (fail_run h).elim
        next => exact (fail_run h).elim
      next => exact (fail_run h).elim
    next => exact (fail_run h).elim
  next t hop =>
    simp only at hop
    subst hop
    unfold aVal
    exact ⟨_, _, rfl, h⟩
  next t l c hop =>
    simp only at hop
    subst hop
    unfold aVal aMakeSlice
    simp only
    split at h
    next elem l' c' hd hl hc =>
      simp only [hd, hl, hc]
      split at h
      next n b z hn hb hz =>
        simp only [hn, hb, hz]
        split at h
        next hc0 =>
          obtain ⟨l1, e1, h⟩ := natT_run h
          obtain ⟨c1, e2, h⟩ := natT_run h
          obtain ⟨h1, h2⟩ := ask_run' h
          have h1 := of_decide_eq_true h1
          unfold asNat at e1 e2
          split at e1
          next g1 =>
            split at e2
            next g2 =>
              cases e1
              cases e2
              rw [if_pos ⟨hc0.1, hc0.2, g1, by omega, by omega, h1.2.2⟩]
              exact ⟨_, _, rfl, h2⟩
            next => simp at e2
          next => simp at e1
        next => exact (fail_run h).elim
      next => exact (fail_run h).elim
    next => exact (fail_run h).elim
  next src dst x hop =>
    simp only at hop
    subst hop
    split at h
    next a n c hx =>
      unfold aVal aConvert
      simp only [hx]
      split at h
      next e hs hd =>
        simp only [hs, hd]
        split at h
        next he =>
          simp only [he]
          obtain ⟨l, h1, h2⟩ := readT_run h
          obtain ⟨h3, h4⟩ := ask_run' h2
          obtain ⟨bs, h5⟩ := Option.isSome_iff_exists.1 h3
          simp only [h5, Option.getD_some] at h4
          simp only [h1, h5]
          exact ⟨_, _, rfl, h4⟩
        next => exact (fail_run h).elim
      next => exact (fail_run h).elim
    next b hx =>
      unfold aVal aConvert
      simp only [hx]
      split at h
      next hs hd => simp only [hs, hd]; exact ⟨_, _, rfl, h⟩
      next e hs hd =>
        simp only [hs, hd]
        split at h
        next he => simp only [he]; exact ⟨_, _, rfl, h⟩
        next => exact (fail_run h).elim
      next => exact (fail_run h).elim
    next =>
      obtain ⟨⟨v, s'⟩, h1, h2⟩ := liftT_run h
      exact ⟨v, s', h1, intT_run h2⟩
  next => exact other h

abbrev CallerT (α : Type) := FuncId → List Value → St → (Ret → St → T α) → T α

/-- One caller's forks are another one's answers. -/
def CallT (call : Caller) (ct : CallerT α) : Prop := ∀ g args s k r, (ct g args s k).Runs r → ∃ x s', call g args s = some (x, s') ∧ (k x s').Runs r

def callT (E : Env) (ct : CallerT α) (g : FuncId) (args : List Value) (s : St) (k : Rs → T α) : T α :=
  match E.known g with
  | some F => liftT (F args) fun x => .ask x.1 fun c => if c then k (.val x.2 s) else .fail
  | none => ct g args s fun x s' => match x with
    | .ok v => k (.val v s')
    | .pan v => k (.pan v s')

def opCT (E : Env) (ct : CallerT α) (ρ : Operand → Value) (o : Oper) (s : St) (k : Rs → T α) : T α :=
  match o.op with
  | .call { callee := .value f, args, .. } => match ρ f with
    | .func (.func g) first captured => callT E ct g (first.toList ++ args.toList.map ρ ++ captured.toList) s k
    | _ => .fail
  | .call { callee := .invoke .., .. } => .fail
  | .call { callee := .builtin .panic, args, .. } => match args.toList.map ρ with
    | [.iface t v] => k (.pan (.iface t v) s)
    | _ => .fail
  | .panic x => match ρ x with
    | .iface t v => k (.pan (.iface t v) s)
    | _ => .fail
  | .defer { callee := .value f, args, .. } => match ρ f with
    | .func (.func g) first captured => k (.dfr { target := .fn (.func g) captured, args := first ++ args.map ρ } s)
    | _ => .fail
  | _ => valT E ρ o s fun v s' => k (.val v s')

def opT (E : Env) (ct : CallerT α) (ρ : Operand → Value) (o : Oper) (s : St) (k : Rs → T α) : T α :=
  if clean ρ o.op then opCT E ct ρ o s k else .fail

variable {call : Caller} {ct : CallerT α}

theorem callT_run (hc : CallT call ct) {E : Env} {g : FuncId} {args : List Value} {s : St} {k : Rs → T α} {r : α} (h : (callT E ct g args s k).Runs r) : ∃ x, aCall E call g args s = some x ∧ (k x).Runs r := by
  unfold callT at h
  unfold aCall
  split at h
  next F hF =>
    obtain ⟨⟨c, v⟩, h1, h2⟩ := liftT_run h
    obtain ⟨h3, h4⟩ := ask_run' h2
    simp only at h3
    subst h3
    exact ⟨_, by simp [hF, h1], h4⟩
  next hF =>
    obtain ⟨x, s', h1, h2⟩ := hc _ _ _ _ _ h
    cases x with
    | ok v => exact ⟨_, by simp [hF, h1], h2⟩
    | pan v => exact ⟨_, by simp [hF, h1], h2⟩

theorem opT_run (hc : CallT call ct) {E : Env} {ρ : Operand → Value} {o : Oper} {s : St} {k : Rs → T α} {r : α} (h : (opT E ct ρ o s k).Runs r) : ∃ x, aOp E call ρ o s = some x ∧ (k x).Runs r := by
  unfold opT at h
  split at h
  case isFalse => exact (fail_run h).elim
  rename_i hcl
  unfold aOp
  rw [if_pos hcl]
  clear hcl
  obtain ⟨dst, op, ty, pos, after, guard⟩ := o
  unfold opCT at h
  unfold aOpC
  split at h
  next f args ats hop =>
    simp only at hop
    subst hop
    simp only
    split at h
    next g first captured hf => simp only [hf]; exact callT_run hc h
    next => exact (fail_run h).elim
  next => exact (fail_run h).elim
  next args ats hop =>
    simp only at hop
    subst hop
    simp only
    split at h
    next t v hl => simp only [hl]; exact ⟨_, rfl, h⟩
    next => exact (fail_run h).elim
  next x hop =>
    simp only at hop
    subst hop
    simp only
    split at h
    next t v hl => simp only [hl]; exact ⟨_, rfl, h⟩
    next => exact (fail_run h).elim
  next f args ats hop =>
    simp only at hop
    subst hop
    simp only
    split at h
    next g first captured hf => simp only [hf]; exact ⟨_, rfl, h⟩
    next => exact (fail_run h).elim
  next h1 h2 h3 h4 h5 =>
    obtain ⟨v, s', g1, g2⟩ := valT_run h
    refine ⟨_, ?_, g2⟩
    split
    next hop => exact absurd hop (h1 _ _ _)
    next hop => exact absurd hop (h2 _ _ _ _)
    next hop => exact absurd hop (h3 _ _)
    next hop => exact absurd hop (h4 _)
    next hop => exact absurd hop (h5 _ _ _)
    next => rw [g1]

def wantedT (ops : Array Oper) (tmps : List Value) (o : Oper) (k : Bool → T α) : T α :=
  match o.guard with
  | none => k true
  | some (j, want) => match ((ops[j]?).bind (·.dst)).bind (tmps[·]?) with
    | some (.bool b) => .ask b fun x => k (x == want)
    | _ => k false

theorem wantedT_run {ops : Array Oper} {tmps : List Value} {o : Oper} {k : Bool → T α} : (wantedT ops tmps o k).Runs = (k (aWanted ops tmps o)).Runs := by
  unfold wantedT aWanted
  cases hg : o.guard with
  | none => rfl
  | some jw =>
    obtain ⟨j, want⟩ := jw
    simp only
    generalize ((ops[j]?).bind (·.dst)).bind (tmps[·]?) = ov
    cases ov with
    | none => rfl
    | some v => cases v <;> rfl

def opsT (E : Env) (ct : CallerT α) (ops : Array Oper) : List Oper → AAct → St → (X → AAct → St → T α) → T α
  | [], a, s, k => k .normal a s
  | o :: rest, a, s, k => wantedT ops a.tmps o fun c => if c then opT E ct a.eval o s fun x => match x with
      | .val v s' => opsT E ct ops rest (a.put o.dst v) s' k
      | .pan v s' => k (.panic v) a s'
      | .dfr d s' => opsT E ct ops rest ({ a with defers := d :: a.defers }.put o.dst undef) s' k
    else opsT E ct ops rest (a.put o.dst undef) s k

theorem opsT_run (hc : CallT call ct) {E : Env} {ops : Array Oper} {k : X → AAct → St → T α} {r : α} : ∀ (l : List Oper) (a : AAct) (s : St), (opsT E ct ops l a s k).Runs r → ∃ x a' s', evalOps E call ops l a s = some (x, a', s') ∧ (k x a' s').Runs r := by
  intro l
  induction l with
  | nil => intro a s h; exact ⟨_, _, _, rfl, h⟩
  | cons o rest ih =>
    intro a s h
    simp only [opsT] at h
    rw [wantedT_run] at h
    simp only [evalOps]
    split at h
    next hw =>
      rw [if_pos hw]
      obtain ⟨x, h1, h2⟩ := opT_run hc h
      rw [h1]
      cases x with
      | val v s' => exact ih _ _ h2
      | pan v s' => exact ⟨_, _, _, rfl, h2⟩
      | dfr d s' => exact ih _ _ h2
    next hw =>
      rw [if_neg hw]
      exact ih _ _ h

/-! Statements whose order is open. -/
def traceT (E : Env) (ct : CallerT α) (ops : Array Oper) (bits : Array Nat) : List Oper → Nat → Option (Nat × Value × St) → AAct → St → (List Ent → Option (Nat × Value × St) → AAct → St → T α) → T α
  | [], _, pn, a, s, k => k [] pn a s
  | o :: rest, i, none, a, s, k => wantedT ops a.tmps o fun c => if c then opT E ct a.eval o s fun x => match x with
      | .val v s' => traceT E ct ops bits rest (i + 1) none (a.put o.dst v) s' fun l => k (⟨o, a, s, clsOf E a.eval o.op, true, v, s'⟩ :: l)
      | .pan v s' => traceT E ct ops bits rest (i + 1) (some (i, v, s')) (a.put o.dst undef) s fun l => k (⟨o, a, s, 4, true, undef, s⟩ :: l)
      | .dfr _ _ => .fail
    else traceT E ct ops bits rest (i + 1) none (a.put o.dst undef) s fun l => k (⟨o, a, s, 0, false, undef, s⟩ :: l)
  | o :: rest, i, some (p, pv, ps), a, s, k =>
    if (bits.getD i 0).testBit p then traceT E ct ops bits rest (i + 1) (some (p, pv, ps)) (a.put o.dst undef) s fun l => k (⟨o, a, s, 5, false, undef, s⟩ :: l)
    else wantedT ops a.tmps o fun c => if c then
        if quietOp E o.op then opT E ct a.eval o s fun x => match x with
            | .val v _ => traceT E ct ops bits rest (i + 1) (some (p, pv, ps)) (a.put o.dst v) s fun l => k (⟨o, a, s, clsOf E a.eval o.op, true, v, s⟩ :: l)
            | _ => .fail
        else .fail
      else traceT E ct ops bits rest (i + 1) (some (p, pv, ps)) (a.put o.dst undef) s fun l => k (⟨o, a, s, 0, false, undef, s⟩ :: l)

theorem traceT_run (hc : CallT call ct) {E : Env} {ops : Array Oper} {bits : Array Nat} {r : α} : ∀ (l : List Oper) (i : Nat) (pn : Option (Nat × Value × St)) (a : AAct) (s : St) (k : List Ent → Option (Nat × Value × St) → AAct → St → T α),
    (traceT E ct ops bits l i pn a s k).Runs r → ∃ ents pn' a' s', trace E call ops bits l i pn a s = some (ents, pn', a', s') ∧ (k ents pn' a' s').Runs r := by
  intro l
  induction l with
  | nil =>
    intro i pn a s k h
    have h' : (k [] pn a s).Runs r := by
      cases pn with
      | none => exact h
      | some q => exact h
    exact ⟨_, _, _, _, by cases pn <;> rfl, h'⟩
  | cons o rest ih =>
    intro i pn a s k h
    cases pn with
    | none =>
      simp only [traceT] at h
      rw [wantedT_run] at h
      simp only [trace]
      split at h
      next hw =>
        rw [if_pos hw]
        obtain ⟨x, h1, h2⟩ := opT_run hc h
        rw [h1]
        cases x with
        | val v s' =>
          obtain ⟨ents, pn', a', s'', g1, g2⟩ := ih _ _ _ _ _ h2
          exact ⟨_, _, _, _, by simp only [g1], g2⟩
        | pan v s' =>
          obtain ⟨ents, pn', a', s'', g1, g2⟩ := ih _ _ _ _ _ h2
          exact ⟨_, _, _, _, by simp only [g1], g2⟩
        | dfr d s' => exact (fail_run h2).elim
      next hw =>
        rw [if_neg hw]
        obtain ⟨ents, pn', a', s'', g1, g2⟩ := ih _ _ _ _ _ h
        exact ⟨_, _, _, _, by simp only [g1], g2⟩
    | some q =>
      obtain ⟨p, pv, ps⟩ := q
      simp only [traceT] at h
      simp only [trace]
      split at h
      next hb =>
        rw [if_pos hb]
        obtain ⟨ents, pn', a', s'', g1, g2⟩ := ih _ _ _ _ _ h
        exact ⟨_, _, _, _, by simp only [g1], g2⟩
      next hb =>
        rw [if_neg hb]
        rw [wantedT_run] at h
        split at h
        next hw =>
          rw [if_pos hw]
          split at h
          next hq =>
            rw [if_pos hq]
            obtain ⟨x, h1, h2⟩ := opT_run hc h
            rw [h1]
            cases x with
            | val v s' =>
              obtain ⟨ents, pn', a', s'', g1, g2⟩ := ih _ _ _ _ _ h2
              exact ⟨_, _, _, _, by simp only [g1], g2⟩
            | pan v s' => exact (fail_run h2).elim
            | dfr d s' => exact (fail_run h2).elim
          next => exact (fail_run h).elim
        next hw =>
          rw [if_neg hw]
          obtain ⟨ents, pn', a', s'', g1, g2⟩ := ih _ _ _ _ _ h
          exact ⟨_, _, _, _, by simp only [g1], g2⟩

def seenT (E : Env) (x : Ent) (s : St) (k : T α) : T α := valT E x.a.eval x.o s fun v _ => .same v x.v k

theorem same_run {x y : Value} {k : T α} {r : α} (h : (T.same x y k).Runs r) : x = y ∧ k.Runs r := h

theorem sameO_run {x y : Option AObj} {k : T α} {r : α} (h : (T.sameO x y k).Runs r) : x = y ∧ k.Runs r := h

theorem seenT_run {E : Env} {x : Ent} {s : St} {k : T α} {r : α} (h : (seenT E x s k).Runs r) : seenAt E x s ∧ k.Runs r := by
  obtain ⟨v, s', h1, h2⟩ := valT_run h
  obtain ⟨rfl, h3⟩ := same_run h2
  exact ⟨⟨s', h1⟩, h3⟩

/-- Memory with all that is made later, step by step. -/
def madeStT (e : Nat) : List (Ent × Nat) → St → (St → T α) → T α
  | [], s, k => k s
  | x :: rest, s, k => if x.1.cls = 2 && decide (e < x.2) then .get x.1.s' x.1.s.next fun o => .fresh s x.1.s.next o fun s' => madeStT e rest s' k else madeStT e rest s k

theorem madeStT_run {e : Nat} {k : St → T α} {r : α} : ∀ (l : List (Ent × Nat)) (s : St), (madeStT e l s k).Runs r → (k (withMade e l s)).Runs r := by
  intro l
  induction l with
  | nil => intro s h; exact h
  | cons x rest ih =>
    intro s h
    simp only [madeStT] at h
    unfold withMade
    rw [List.foldl_cons]
    split at h
    next hc =>
      obtain ⟨o, h1, h2⟩ := askO_run h
      have h2 := ih _ h2
      rw [if_pos hc, h1]
      exact h2
    next hc =>
      rw [if_neg hc]
      exact ih _ h

def seesT (E : Env) (bits : Array Nat) (all : List (Ent × Nat)) (sM : St) (x : Ent) (i : Nat) (k : T α) : List (Ent × Nat) → T α
  | [] => seenT E x (withMade all.length all sM) k
  | (e, j) :: rest =>
    if (bits.getD i 0).testBit j then seesT E bits all sM x i k rest
    else madeStT j all e.s fun s => seenT E x s (if (bits.getD j 0).testBit i || e.cls = 4 then k else seesT E bits all sM x i k rest)

theorem seesT_run {E : Env} {bits : Array Nat} {all : List (Ent × Nat)} {sM : St} {x : Ent} {i : Nat} {k : T α} {r : α} : ∀ l, (seesT E bits all sM x i k l).Runs r → SeesP E bits all sM x i l ∧ k.Runs r := by
  intro l
  induction l with
  | nil => intro h; exact seenT_run h
  | cons e rest ih =>
    intro h
    obtain ⟨e, j⟩ := e
    simp only [seesT] at h
    simp only [SeesP]
    split at h
    next hb =>
      rw [if_pos hb]
      exact ih h
    next hb =>
      rw [if_neg hb]
      obtain ⟨h1, h2⟩ := seenT_run (madeStT_run _ _ h)
      split at h2
      next hc =>
        simp only [Bool.or_eq_true, decide_eq_true_eq] at hc
        exact ⟨⟨h1, hc.elim .inl fun h => .inr (.inl h)⟩, h2⟩
      next =>
        obtain ⟨h3, h4⟩ := ih h2
        exact ⟨⟨h1, .inr (.inr h3)⟩, h4⟩

def looksT (E : Env) (bits : Array Nat) (all effs : List (Ent × Nat)) (sM : St) (k : T α) : List (Ent × Nat) → T α
  | [] => k
  | (x, i) :: rest => if x.cls = 1 && x.ran then seesT E bits all sM x i (looksT E bits all effs sM k rest) effs else looksT E bits all effs sM k rest

theorem looksT_run {E : Env} {bits : Array Nat} {all effs : List (Ent × Nat)} {sM : St} {k : T α} {r : α} : ∀ l, (looksT E bits all effs sM k l).Runs r → (∀ x ∈ l, x.1.cls = 1 → x.1.ran = true → SeesP E bits all sM x.1 x.2 effs) ∧ k.Runs r := by
  intro l
  induction l with
  | nil => intro h; exact ⟨by simp, h⟩
  | cons x rest ih =>
    intro h
    obtain ⟨x, i⟩ := x
    simp only [looksT] at h
    split at h
    next hc =>
      obtain ⟨h1, h2⟩ := seesT_run _ h
      obtain ⟨h3, h4⟩ := ih h2
      refine ⟨fun y hy h5 h6 => ?_, h4⟩
      rcases List.mem_cons.1 hy with rfl | hy
      · exact h1
      · exact h3 y hy h5 h6
    next hc =>
      obtain ⟨h3, h4⟩ := ih h
      refine ⟨fun y hy h5 h6 => ?_, h4⟩
      rcases List.mem_cons.1 hy with rfl | hy
      · simp only at h5 h6; exact absurd (by simp [h5, h6]) hc
      · exact h3 y hy h5 h6

/-- What x makes is as it was when the effects that may stand ahead of it are done. -/
def madeT (bits : Array Nat) (x : Ent) (i : Nat) (k : T α) : List (Ent × Nat) → T α
  | [] => k
  | (y, j) :: rest => if !decide (i < j) || y.cls = 4 || (bits.getD j 0).testBit i then madeT bits x i k rest else .get y.s x.s.next fun o => .get y.s' x.s.next fun o' => .sameO (some o) (some o') (madeT bits x i k rest)

theorem madeT_run {bits : Array Nat} {x : Ent} {i : Nat} {k : T α} {r : α} : ∀ l, (madeT bits x i k l).Runs r → (∀ y ∈ l, i < y.2 → y.1.cls = 4 ∨ (bits.getD y.2 0).testBit i = true ∨ y.1.s.get x.s.next = y.1.s'.get x.s.next) ∧ k.Runs r := by
  intro l
  induction l with
  | nil => intro h; exact ⟨by simp, h⟩
  | cons y rest ih =>
    intro h
    obtain ⟨y, j⟩ := y
    simp only [madeT] at h
    split at h
    next hc =>
      simp only [Bool.or_eq_true, Bool.not_eq_true', decide_eq_false_iff_not, decide_eq_true_eq] at hc
      obtain ⟨h3, h4⟩ := ih h
      refine ⟨fun z hz hlt => ?_, h4⟩
      rcases List.mem_cons.1 hz with rfl | hz
      · rcases hc with (hc | hc) | hc
        · exact absurd hlt hc
        · exact .inl hc
        · exact .inr (.inl hc)
      · exact h3 z hz hlt
    next hc =>
      obtain ⟨o, e1, h⟩ := askO_run h
      obtain ⟨o', e2, h⟩ := askO_run h
      obtain ⟨h1, h2⟩ := sameO_run h
      obtain ⟨h3, h4⟩ := ih h2
      refine ⟨fun z hz hlt => ?_, h4⟩
      rcases List.mem_cons.1 hz with rfl | hz
      · exact .inr (.inr (e1.trans (h1.trans e2.symm)))
      · exact h3 z hz hlt

def makesT (bits : Array Nat) (effs : List (Ent × Nat)) (k : T α) : List (Ent × Nat) → T α
  | [] => k
  | (x, i) :: rest => if x.cls = 2 then madeT bits x i (makesT bits effs k rest) effs else makesT bits effs k rest

theorem makesT_run {bits : Array Nat} {effs : List (Ent × Nat)} {k : T α} {r : α} : ∀ l, (makesT bits effs k l).Runs r →
    (∀ x ∈ l, x.1.cls = 2 → ∀ y ∈ effs, x.2 < y.2 → y.1.cls = 4 ∨ (bits.getD y.2 0).testBit x.2 = true ∨ y.1.s.get x.1.s.next = y.1.s'.get x.1.s.next) ∧ k.Runs r := by
  intro l
  induction l with
  | nil => intro h; exact ⟨by simp, h⟩
  | cons x rest ih =>
    intro h
    obtain ⟨x, i⟩ := x
    simp only [makesT] at h
    split at h
    next hc =>
      obtain ⟨h1, h2⟩ := madeT_run _ h
      obtain ⟨h3, h4⟩ := ih h2
      refine ⟨fun y hy h5 => ?_, h4⟩
      rcases List.mem_cons.1 hy with rfl | hy
      · exact h1
      · exact h3 y hy h5
    next hc =>
      obtain ⟨h3, h4⟩ := ih h
      refine ⟨fun y hy h5 => ?_, h4⟩
      rcases List.mem_cons.1 hy with rfl | hy
      · exact absurd h5 hc
      · exact h3 y hy h5

def goodT (E : Env) (bits : Array Nat) (ents : List Ent) (sN : St) (k : T α) : T α :=
  let all := ents.zipIdx
  let effs := all.filter fun x => isEff x.1
  if effs.isEmpty then k else
  let tails := effs.filter (isTail bits all)
  let effs := effs.filter fun x => !isTail bits all x
  if (effs.all fun x => (effs.all fun y => !decide (x.2 < y.2) || (bits.getD y.2 0).testBit x.2) && tails.all fun y => (bits.getD y.2 0).testBit x.2) &&
    (tails.all fun x => tails.all fun y => !decide (x.2 < y.2) || (bits.getD y.2 0).testBit x.2 || apartStores x.1 y.1) && effs.all (knowsOk bits all) then
    if effs.isEmpty then k else looksT E bits all effs (midSt sN tails) (makesT bits effs k all) all
  else .fail

theorem goodT_run {E : Env} {bits : Array Nat} {ents : List Ent} {sN : St} {k : T α} {r : α} (h : (goodT E bits ents sN k).Runs r) : Good E bits ents sN ∧ k.Runs r := by
  unfold goodT at h
  simp only at h
  split at h
  next he =>
    have hno : ∀ (x : Ent) (j : Nat), ents[j]? = some x → isEff x = true → False := by
      intro x j hx hi
      have : (x, j) ∈ ents.zipIdx.filter fun x => isEff x.1 := by simp only [List.mem_filter, mem_zip]; exact ⟨hx, hi⟩
      rw [List.isEmpty_iff.1 he] at this
      simp at this
    exact ⟨⟨fun x i y j hx => (hno x i hx.1 hx.2.1).elim, fun x i y j hx => (hno x i hx.1 hx.2.1).elim, fun x i y j hx => (hno x i hx.1 hx.2.1).elim, fun x i hx => (hno x i hx.1 hx.2.1).elim,
      fun x i hx => (hno x i hx.1 hx.2.1).elim, fun x i y j _ _ hx => (hno y j hx.1 hx.2.1).elim⟩, h⟩
  next he =>
    split at h
    next hc =>
      simp only [Bool.and_eq_true] at hc
      obtain ⟨⟨h1, h2⟩, h3⟩ := hc
      rw [List.all_eq_true] at h1 h2 h3
      have e1 : ∀ x j, Eff bits ents x j → (x, j) ∈ (ents.zipIdx.filter fun x => isEff x.1).filter fun x => !isTail bits ents.zipIdx x := fun x j h => mem_effsOf.2 h
      have e2 : ∀ x j, Tail bits ents x j → (x, j) ∈ (ents.zipIdx.filter fun x => isEff x.1).filter (isTail bits ents.zipIdx) := fun x j h => mem_tailsOf.2 h
      have hrest : ((∀ e k, ¬ Eff bits ents e k) ∨ ((∀ x ∈ ents.zipIdx, x.1.cls = 1 → x.1.ran = true → SeesP E bits ents.zipIdx (midSt sN (tailsOf bits ents)) x.1 x.2 (effsOf bits ents)) ∧
          (∀ x ∈ ents.zipIdx, x.1.cls = 2 → ∀ y ∈ effsOf bits ents, x.2 < y.2 → y.1.cls = 4 ∨ (bits.getD y.2 0).testBit x.2 = true ∨ y.1.s.get x.1.s.next = y.1.s'.get x.1.s.next))) ∧ k.Runs r := by
        split at h
        next hem =>
          refine ⟨.inl fun e k he => ?_, h⟩
          have := e1 e k he
          rw [List.isEmpty_iff.1 hem] at this
          simp at this
        next =>
          obtain ⟨g1, g2⟩ := looksT_run _ h
          obtain ⟨g3, g4⟩ := makesT_run _ g2
          exact ⟨.inr ⟨g1, g3⟩, g4⟩
      obtain ⟨hr, hk⟩ := hrest
      refine ⟨⟨fun x i y j hx hy hij => ?_, fun x i y j hx hy => ?_, fun x i y j hx hy hij => ?_, fun y j hy => h3 _ (e1 _ _ hy), fun e k hek x i hx hc hran => ?_, fun x i y j hx hc hy hij => ?_⟩, hk⟩
      · have := h1 _ (e1 _ _ hx)
        simp only [Bool.and_eq_true, List.all_eq_true] at this
        have := this.1 _ (e1 _ _ hy)
        simpa [hij] using this
      · have := h1 _ (e1 _ _ hx)
        simp only [Bool.and_eq_true, List.all_eq_true] at this
        exact this.2 _ (e2 _ _ hy)
      · have := h2 _ (e2 _ _ hx)
        simp only [List.all_eq_true] at this
        have := this _ (e2 _ _ hy)
        simpa [hij] using this
      · rcases hr with hr | hr
        · exact absurd hek (hr _ _)
        · exact hr.1 _ (mem_zip.2 hx) hc hran
      · rcases hr with hr | hr
        · exact absurd hy (hr _ _)
        · exact hr.2 _ (mem_zip.2 hx) hc _ (mem_effsOf.2 hy) hij
    next => exact (fail_run h).elim

def drawT (E : Env) (ct : CallerT α) (ops : Array Oper) (a : AAct) (s : St) (k : X → AAct → St → T α) : T α :=
  let bits := Region.before ops
  traceT E ct ops bits ops.toList 0 none a s fun ents pn a' s' => match pn with
    | none => goodT E bits ents s' (k .normal a' s')
    | some (_, v, ps) => if a.defers.isEmpty then goodT E bits ents s' (k (.panic v) a ps) else .fail

theorem drawT_run (hc : CallT call ct) {E : Env} {ops : Array Oper} {a : AAct} {s : St} {k : X → AAct → St → T α} {r : α} (h : (drawT E ct ops a s k).Runs r) : ∃ x a' s', evalDraw E call ops a s = some (x, a', s') ∧ (k x a' s').Runs r := by
  unfold drawT at h
  obtain ⟨ents, pn, a', s', h1, h2⟩ := traceT_run hc _ _ _ _ _ _ h
  unfold evalDraw
  rw [h1]
  cases pn with
  | none =>
    obtain ⟨h3, h4⟩ := goodT_run h2
    exact ⟨_, _, _, by simp only; rw [if_pos h3], h4⟩
  | some q =>
    obtain ⟨p, v, ps⟩ := q
    simp only at h2
    split at h2
    next hd =>
      obtain ⟨h3, h4⟩ := goodT_run h2
      exact ⟨_, _, _, by simp only; rw [if_pos ⟨h3, by simpa using hd⟩], h4⟩
    next => exact (fail_run h2).elim

def iterT (f : AAct → St → (X → AAct → St → T α) → T α) : Nat → AAct → St → (X → AAct → St → T α) → T α
  | 0, _, _, _ => .fail
  | n + 1, a, s, k => f a s fun x a' s' => match x with
    | .normal => iterT f n a' s' k
    | x => k x a' s'

noncomputable def codeT (E : Env) (call : Caller) (ct : CallerT α) (N : Nat) : Code → AAct → St → (X → AAct → St → T α) → T α
  | .skip, a, s, k => k .normal a s
  | .label _, a, s, k => k .normal a s
  | .region _ ops false, a, s, k => opsT E ct ops ops.toList a s k
  | .region _ ops true, a, s, k => drawT E ct ops a s k
  | .seq x y, a, s, k => codeT E call ct N x a s fun r a' s' => match r with
    | .normal => codeT E call ct N y a' s' k
    | r => k r a' s'
  | .cond c x y, a, s, k => match a.eval c with
    | .bool b => .ask b fun c => if c then codeT E call ct N x a s k else codeT E call ct N y a s k
    | _ => .fail
  | .block id c, a, s, k => codeT E call ct N c a s fun r a' s' => match r with
    | .exit id' => if id' = id then k .normal a' s' else k (.exit id') a' s'
    | r => k r a' s'
  | .loop c, a, s, k => .code (evalCode E call N (.loop c)) a s k (iterT (codeT E call ct N c) N a s k)
  | .scope c, a, s, k => codeT E call ct N c a s k
  | .exit id, a, s, k => k (.exit id) a s
  | .ret, a, s, k => k .ret a s
  | _, _, _, _ => .fail

theorem codeT_run (hc : CallT call ct) {E : Env} {N : Nat} {r : α} : ∀ (c : Code) (a : AAct) (s : St) (k : X → AAct → St → T α), (codeT E call ct N c a s k).Runs r → ∃ x a' s', evalCode E call N c a s = some (x, a', s') ∧ (k x a' s').Runs r := by
  intro c
  induction c with
  | skip => intro a s k h; exact ⟨_, _, _, rfl, h⟩
  | label l => intro a s k h; exact ⟨_, _, _, rfl, h⟩
  | exit id => intro a s k h; exact ⟨_, _, _, rfl, h⟩
  | ret => intro a s k h; exact ⟨_, _, _, rfl, h⟩
  | region id ops d =>
    intro a s k h
    cases d with
    | false => exact opsT_run hc _ _ _ h
    | true => exact drawT_run hc h
  | seq x y ihx ihy =>
    intro a s k h
    simp only [codeT] at h
    obtain ⟨x', a', s', h1, h2⟩ := ihx _ _ _ h
    simp only [evalCode, h1]
    cases x' with
    | normal => exact ihy _ _ _ h2
    | _ => exact ⟨_, _, _, rfl, h2⟩
  | cond c x y ihx ihy =>
    intro a s k h
    simp only [codeT] at h
    simp only [evalCode]
    split at h
    next b hb =>
      rcases ask_run h with ⟨rfl, h⟩ | ⟨rfl, h⟩
      · rw [hb]; exact ihx _ _ _ h
      · rw [hb]; exact ihy _ _ _ h
    next => exact (fail_run h).elim
  | block id c ih =>
    intro a s k h
    simp only [codeT] at h
    obtain ⟨x', a', s', h1, h2⟩ := ih _ _ _ h
    simp only [evalCode, h1]
    cases x' with
    | exit id' =>
      simp only at h2 ⊢
      split at h2
      next he => rw [if_pos he]; exact ⟨_, _, _, rfl, h2⟩
      next he => rw [if_neg he]; exact ⟨_, _, _, rfl, h2⟩
    | _ => exact ⟨_, _, _, rfl, h2⟩
  | loop c ih =>
    intro a s k h
    simp only [codeT] at h
    simp only [evalCode]
    have key : ∀ n a s, (iterT (codeT E call ct N c) n a s k).Runs r → ∃ x a' s', iter (evalCode E call N c) n a s = some (x, a', s') ∧ (k x a' s').Runs r := by
      intro n
      induction n with
      | zero => intro a s h; exact (fail_run h).elim
      | succ n ihn =>
        intro a s h
        simp only [iterT] at h
        obtain ⟨x', a', s', h1, h2⟩ := ih _ _ _ h
        simp only [iter, h1]
        cases x' with
        | normal => exact ihn _ _ h2
        | _ => exact ⟨_, _, _, rfl, h2⟩
    rcases h with ⟨x, a', s', h1, h2⟩ | h
    · exact ⟨x, a', s', by simpa only [evalCode] using h1, h2⟩
    · exact key N a s h
  | scope c ih =>
    intro a s k h
    simp only [codeT] at h
    simp only [evalCode]
    exact ih _ _ _ h
  | _ => intro a s k h; exact (fail_run h).elim

def resultsT (E : Env) (tmps : List Value) (s : St) : List ResultVar → (List Value → T α) → T α
  | [], k => k []
  | .tmp t :: rest, k => if isJunk (tmps.getD t undef) then .fail else resultsT E tmps s rest fun l => k (tmps.getD t undef :: l)
  | .cell a t :: rest, k => loadT E s t (tmps.getD a undef) fun v => resultsT E tmps s rest fun l => k (v :: l)

theorem resultsT_run {E : Env} {tmps : List Value} {s : St} {r : α} : ∀ (l : List ResultVar) (k : List Value → T α), (resultsT E tmps s l k).Runs r → ∃ vs, aResults E tmps s l = some vs ∧ (k vs).Runs r := by
  intro l
  induction l with
  | nil => intro k h; exact ⟨_, rfl, h⟩
  | cons x rest ih =>
    intro k h
    cases x with
    | tmp t =>
      simp only [resultsT] at h
      split at h
      next => exact (fail_run h).elim
      next hj =>
        obtain ⟨vs, h1, h2⟩ := ih _ h
        exact ⟨_, by simp only [aResults, aResult, h1]; rw [if_neg hj], h2⟩
    | cell a t =>
      simp only [resultsT] at h
      obtain ⟨v, h3, h4⟩ := loadT_run h
      obtain ⟨vs, h1, h2⟩ := ih _ h4
      exact ⟨_, by simp only [aResults, aResult, h1, h3], h2⟩

def retT (E : Env) (fn : Func) (tmps : List Value) (s : St) (k : Value → T α) : T α :=
  resultsT E tmps s fn.results.toList fun l => match l with
    | [v] => k v
    | l => k (.tuple l.toArray)

theorem retT_run {E : Env} {fn : Func} {tmps : List Value} {s : St} {k : Value → T α} {r : α} (h : (retT E fn tmps s k).Runs r) : ∃ v, aRet E fn tmps s = some v ∧ (k v).Runs r := by
  unfold retT at h
  obtain ⟨vs, h1, h2⟩ := resultsT_run _ _ h
  unfold aRet
  rw [h1]
  match vs, h2 with
  | [], h2 => exact ⟨_, rfl, h2⟩
  | [v], h2 => exact ⟨_, rfl, h2⟩
  | v :: w :: l, h2 => exact ⟨_, rfl, h2⟩

/-! Calls that were put off. -/
def opsDT (E : Env) (ct : CallerT α) (ops : Array Oper) : List Oper → AAct → Unw → St → (X → AAct → Unw → St → T α) → T α
  | [], a, u, s, k => k .normal a u s
  | o :: rest, a, u, s, k => wantedT ops a.tmps o fun c => if c then
      if hasRecover o.op then
        match u with
        | some (v, false) => opsDT E ct ops rest (a.put o.dst v) (some (v, true)) s k
        | none => opsDT E ct ops rest (a.put o.dst .nilIface) none s k
        | _ => .fail
      else opT E ct a.eval o s fun x => match x with
        | .val v s' => opsDT E ct ops rest (a.put o.dst v) u s' k
        | .pan v s' => k (.panic v) a u s'
        | _ => .fail
    else opsDT E ct ops rest (a.put o.dst undef) u s k

theorem opsDT_run (hc : CallT call ct) {E : Env} {ops : Array Oper} {k : X → AAct → Unw → St → T α} {r : α} : ∀ (l : List Oper) (a : AAct) (u : Unw) (s : St), (opsDT E ct ops l a u s k).Runs r →
    ∃ x a' u' s', evalOpsD E call ops l a u s = some (x, a', u', s') ∧ (k x a' u' s').Runs r := by
  intro l
  induction l with
  | nil => intro a u s h; exact ⟨_, _, _, _, rfl, h⟩
  | cons o rest ih =>
    intro a u s h
    simp only [opsDT] at h
    rw [wantedT_run] at h
    simp only [evalOpsD]
    split at h
    next hw =>
      rw [if_pos hw]
      split at h
      next hr =>
        rw [if_pos hr]
        split at h
        · exact ih _ _ _ h
        · exact ih _ _ _ h
        · exact (fail_run h).elim
      next hr =>
        rw [if_neg hr]
        obtain ⟨x, h1, h2⟩ := opT_run hc h
        rw [h1]
        cases x with
        | val v s' => exact ih _ _ _ h2
        | pan v s' => exact ⟨_, _, _, _, rfl, h2⟩
        | dfr d s' => exact (fail_run h2).elim
    next hw =>
      rw [if_neg hw]
      exact ih _ _ _ h

noncomputable def codeDT (E : Env) (call : Caller) (ct : CallerT α) (N : Nat) : Code → AAct → Unw → St → (X → AAct → Unw → St → T α) → T α
  | .seq x y, a, u, s, k => codeDT E call ct N x a u s fun r a' u' s' => match r with
    | .normal => codeDT E call ct N y a' u' s' k
    | r => k r a' u' s'
  | .cond c x y, a, u, s, k => match a.eval c with
    | .bool b => .ask b fun c => if c then codeDT E call ct N x a u s k else codeDT E call ct N y a u s k
    | _ => .fail
  | .region i ops d, a, u, s, k =>
    if (ops.any fun o => hasRecover o.op) then (if d then .fail else opsDT E ct ops ops.toList a u s k)
    else codeT E call ct N (.region i ops d) a s fun x a' s' => k x a' u s'
  | c, a, u, s, k => if recovers c then .fail else codeT E call ct N c a s fun x a' s' => k x a' u s'

theorem codeDT_run (hc : CallT call ct) {E : Env} {N : Nat} {r : α} : ∀ (c : Code) (a : AAct) (u : Unw) (s : St) (k : X → AAct → Unw → St → T α), (codeDT E call ct N c a u s k).Runs r →
    ∃ x a' u' s', evalCodeD E call N c a u s = some (x, a', u', s') ∧ (k x a' u' s').Runs r := by
  intro c
  induction c with
  | seq x y ihx ihy =>
    intro a u s k h
    simp only [codeDT] at h
    obtain ⟨x', a', u', s', h1, h2⟩ := ihx _ _ _ _ h
    simp only [evalCodeD, h1]
    cases x' with
    | normal => exact ihy _ _ _ _ h2
    | _ => exact ⟨_, _, _, _, rfl, h2⟩
  | cond c x y ihx ihy =>
    intro a u s k h
    simp only [codeDT] at h
    simp only [evalCodeD]
    split at h
    next b hb =>
      rcases ask_run h with ⟨rfl, h⟩ | ⟨rfl, h⟩
      · rw [hb]; exact ihx _ _ _ _ h
      · rw [hb]; exact ihy _ _ _ _ h
    next => exact (fail_run h).elim
  | region i ops d =>
    intro a u s k h
    simp only [codeDT] at h
    simp only [evalCodeD]
    split at h
    next hr =>
      rw [if_pos hr]
      split at h
      next => exact (fail_run h).elim
      next hd => rw [if_neg hd]; exact opsDT_run hc _ _ _ _ h
    next hr =>
      rw [if_neg hr]
      obtain ⟨x, a', s', h1, h2⟩ := codeT_run hc _ _ _ _ h
      exact ⟨_, _, _, _, by rw [h1], h2⟩
  | _ =>
    intro a u s k h
    simp only [codeDT] at h
    simp only [evalCodeD]
    split at h
    next => exact (fail_run h).elim
    next hr =>
      rw [if_neg hr]
      obtain ⟨x, a', s', h1, h2⟩ := codeT_run hc _ _ _ _ h
      exact ⟨_, _, _, _, by rw [h1], h2⟩

noncomputable def deferredT (E : Env) (call : Caller) (ct : CallerT α) (N : Nat) (d : Deferred) (u : Unw) (s : St) (k : Unw → St → T α) : T α :=
  match d.target with
  | .fn (.func g) captured => match E.func g with
    | some fn => match fn.body with
      | some c => codeDT E call ct N c { tmps := enterTmps fn (d.args.toList ++ captured.toList), defers := [] } u s fun x a u' s' => match x with
        | .normal | .ret => if a.defers.isEmpty then retT E fn a.tmps s' fun _ => k u' s' else .fail
        | _ => .fail
      | none => .fail
    | none => .fail
  | _ => .fail

theorem deferredT_run (hc : CallT call ct) {E : Env} {N : Nat} {d : Deferred} {u : Unw} {s : St} {k : Unw → St → T α} {r : α} (h : (deferredT E call ct N d u s k).Runs r) : ∃ u' s', evalDeferred E call N d u s = some (u', s') ∧ (k u' s').Runs r := by
  unfold deferredT at h
  unfold evalDeferred
  split at h
  next g captured ht =>
    try simp only [ht]
    split at h
    next fn hf =>
      try simp only [hf]
      split at h
      next c hb =>
        try simp only [hb]
        obtain ⟨x, a, u', s', h1, h2⟩ := codeDT_run hc _ _ _ _ _ h
        simp only [h1]
        cases x <;> simp only at h2 ⊢
        case normal =>
          split at h2
          next he =>
            rw [if_pos he]
            obtain ⟨v, h3, h4⟩ := retT_run h2
            exact ⟨_, _, by simp only [h3], h4⟩
          next => exact (fail_run h2).elim
        case ret =>
          split at h2
          next he =>
            rw [if_pos he]
            obtain ⟨v, h3, h4⟩ := retT_run h2
            exact ⟨_, _, by simp only [h3], h4⟩
          next => exact (fail_run h2).elim
        all_goals exact (fail_run h2).elim
      next => exact (fail_run h).elim
    next => exact (fail_run h).elim
  next => exact (fail_run h).elim

noncomputable def unwindsT (E : Env) (call : Caller) (ct : CallerT α) (N : Nat) : List Deferred → Unw → St → (Unw → St → T α) → T α
  | [], u, s, k => k u s
  | d :: ds, u, s, k => deferredT E call ct N d u s fun u' s' => unwindsT E call ct N ds (aSettle u') s' k

theorem unwindsT_run (hc : CallT call ct) {E : Env} {N : Nat} {k : Unw → St → T α} {r : α} : ∀ (ds : List Deferred) (u : Unw) (s : St), (unwindsT E call ct N ds u s k).Runs r → ∃ u' s', unwinds E call N ds u s = some (u', s') ∧ (k u' s').Runs r := by
  intro ds
  induction ds with
  | nil => intro u s h; exact ⟨_, _, rfl, h⟩
  | cons d ds ih =>
    intro u s h
    simp only [unwindsT] at h
    obtain ⟨u', s', h1, h2⟩ := deferredT_run hc h
    simp only [unwinds, h1]
    exact ih _ _ h2

noncomputable def fnT (E : Env) (call : Caller) (ct : CallerT α) (N : Nat) : CallerT α := fun g args s k =>
  match E.func g with
  | none => .fail
  | some fn => match fn.body with
    | none => .fail
    | some c => codeT E call ct N c { tmps := enterTmps fn args, defers := [] } s fun x a s' => match x with
      | .normal | .ret => unwindsT E call ct N a.defers none s' fun u s'' => match u with
        | none => retT E fn a.tmps s'' fun v => k (.ok v) s''
        | _ => .fail
      | .panic v => unwindsT E call ct N a.defers (some (v, false)) s' fun u s'' => match u with
        | none => retT E fn a.tmps s'' fun v => k (.ok v) s''
        | some (v, false) => k (.pan v) s''
        | _ => .fail
      | _ => .fail

theorem fnT_run (hc : CallT call ct) (E : Env) (N : Nat) : CallT (evalFn E call N) (fnT E call ct N) := by
  intro g args s k r h
  unfold fnT at h
  unfold evalFn
  split at h
  next => exact (fail_run h).elim
  next fn hf =>
    try simp only [hf]
    split at h
    next => exact (fail_run h).elim
    next c hb =>
      try simp only [hb]
      obtain ⟨x, a, s', h1, h2⟩ := codeT_run hc _ _ _ _ h
      simp only [h1]
      cases x <;> simp only at h2 ⊢
      case exit => exact (fail_run h2).elim
      case panic v =>
        obtain ⟨u, s'', h3, h4⟩ := unwindsT_run hc _ _ _ h2
        simp only [h3]
        split at h4
        · obtain ⟨v', h5, h6⟩ := retT_run h4
          exact ⟨_, _, by simp only [h5, Option.map_some], h6⟩
        · exact ⟨_, _, rfl, h4⟩
        · exact (fail_run h4).elim
      all_goals
        obtain ⟨u, s'', h3, h4⟩ := unwindsT_run hc _ _ _ h2
        simp only [h3]
        split at h4
        · obtain ⟨v', h5, h6⟩ := retT_run h4
          exact ⟨_, _, by simp only [h5, Option.map_some], h6⟩
        · exact (fail_run h4).elim

noncomputable def callNT (E : Env) (N : Nat) : Nat → CallerT α
  | 0 => fun _ _ _ _ => .fail
  | n + 1 => fun g args s k => .call (callN E N (n + 1) g args) s k (fnT E (callN E N n) (callNT E N n) N g args s k)

theorem callNT_run (E : Env) (N : Nat) : ∀ n, CallT (callN E N n) (callNT (α := α) E N n) := by
  intro n
  induction n with
  | zero => intro g args s k r h; exact (fail_run h).elim
  | succ n ih =>
    intro g args s k r h
    rcases h with ⟨x, s', h1, h2⟩ | h
    · exact ⟨x, s', h1, h2⟩
    · exact fnT_run ih E N g args s k r h

end

/-- What is known of memory at the end, as far as is told. -/
def picks (is : List Nat) (ov : Cache) : Cache := is.filterMap (ov[·]?)

theorem picks_nodup {is : List Nat} {ov : Cache} (h : (keysOf ov).Nodup) (his : is.Nodup) : (keysOf (picks is ov)).Nodup := by
  induction is with
  | nil => exact List.nodup_nil
  | cons i is ih =>
    rw [List.nodup_cons] at his
    have hrec := ih his.2
    unfold picks
    rw [List.filterMap_cons]
    split
    next => exact hrec
    next q hq =>
      rw [keysOf, List.map_cons, List.nodup_cons]
      refine ⟨fun hmem => ?_, hrec⟩
      obtain ⟨q', hq', he⟩ := List.mem_map.1 hmem
      obtain ⟨j, hj, hjq⟩ := List.mem_filterMap.1 hq'
      have : i = j := nodup_get h (x := q.1) (by rw [List.getElem?_map, hq]; rfl) (by rw [List.getElem?_map, hjq]; exact congrArg some he)
      exact his.1 (this ▸ hj)

theorem After.picks {s s' : St} {old : List Nat} {now : Cache} (h : After s s' old now) {is : List Nat} (his : is.Nodup) : After s s' old (picks is now) := by
  have hmem : ∀ q ∈ Ai.picks is now, q ∈ now := fun q hq => by
    obtain ⟨i, _, hi⟩ := List.mem_filterMap.1 hq
    exact List.mem_of_getElem? hi
  exact ⟨h.next, h.keep, fun q hq => h.has q (hmem q hq), fun q hq => h.whence q (hmem q hq), picks_nodup h.apart his⟩

/-- A function's body, along a way, from what is known of memory to what is known of it behind. -/
theorem fn_by {E : Env} {N n : Nat} {g : FuncId} {args : List Value} {s : St} {ov : Cache} (hov : Holds s ov) (p : List Ev) (is : List Nat) {x : Ret} {now : Cache}
    (h : ((fnT E (callN E N n) (callNT E N n) N g args s fun x s' => .now s' (.ret (x, s'))).follow p [(s, ov, true)] []).map (fun z => ((isNodup is, z.1.1, z.2.1.head?.map fun t => picks is t.2.1), (z.2.1.head?.map (·.1) :: z.2.2.map (fun _ => none), z.2.2.map Ob.flip))) =
      some ((true, x, some now), (((fnT E (callN E N n) (callNT E N n) N g args s fun x s' => .now s' (.ret (x, s'))).follow p [(s, ov, true)] []).map fun z => ((some z.1.2 : Option St) :: z.2.2.map (fun _ => none), z.2.2)).getD ([], []))) :
    ∃ s', callN E N (n + 1) g args s = some (x, s') ∧ After s s' (keysOf ov) now := by
  obtain ⟨z, sn', h1, h2, h3⟩ := T.use (t := fnT E (callN E N n) (callNT E N n) N g args s fun x s' => .now s' (.ret (x, s'))) (s₀ := s) (K := keysOf ov) [(s, ov, true)] (by simpa using hov) (chain_one _) p
    (fun z => ((isNodup is, z.1.1, z.2.head?.map fun t => picks is t.2.1), z.2.head?.map (·.1), some z.1.2)) (r := ((true, x, some now), (((fnT E (callN E N n) (callNT E N n) N g args s fun x s' => .now s' (.ret (x, s'))).follow p [(s, ov, true)] []).map fun z => (z.2.1.head?.map (·.1), some z.1.2)).getD (none, none))) (by
      cases hf : (fnT E (callN E N n) (callNT E N n) N g args s fun x s' => .now s' (.ret (x, s'))).follow p [(s, ov, true)] [] with
      | none => simp [hf] at h
      | some z =>
        simp only [hf, Option.map_some, Option.getD_some, Option.some.injEq, Prod.mk.injEq, List.cons.injEq] at h ⊢
        exact ⟨⟨h.1, trivial⟩, h.2.2⟩)
  obtain ⟨x', s', h4, h5⟩ := fnT_run (callNT_run E N n) E N _ _ _ _ _ h1
  have h5 : (x', s') = z := h5
  subst h5
  cases hf : (fnT E (callN E N n) (callNT E N n) N g args s fun x s' => .now s' (.ret (x, s'))).follow p [(s, ov, true)] [] with
  | none => simp [hf] at h
  | some w =>
    simp only [hf, Option.map_some, Option.getD_some, Option.some.injEq, Prod.mk.injEq, List.cons.injEq] at h h2
    obtain ⟨⟨h6, h7, h8⟩, h9, h10⟩ := h2
    obtain ⟨_, ⟨h11, _⟩, _⟩ := h
    subst h7
    cases hs : sn' with
    | nil => simp [hs] at h8
    | cons t sn =>
      simp only [hs, List.head?_cons, Option.map_some, Option.some.injEq] at h8 h9
      have h12 := h3 t (by simp [hs])
      have h13 : some t.1 = some s' := by rw [h9, h11, ← h10]
      cases h13
      refine ⟨_, h4, ?_⟩
      rw [← h8]
      exact h12.picks (isNodup_ok h6)

/-- A piece of code, likewise. -/
theorem code_by {E : Env} {N n : Nat} {c : Code} {a : AAct} {s : St} {ov : Cache} (hov : Holds s ov) (p : List Ev) (is : List Nat) {β : Type} (f : X × AAct → β) {r : β} {now : Cache}
    (h : ((codeT E (callN E N n) (callNT E N n) N c a s fun x a' s' => .now s' (.ret (x, a', s'))).follow p [(s, ov, true)] []).map (fun z => ((isNodup is, f (z.1.1, z.1.2.1), z.2.1.head?.map fun t => picks is t.2.1), (z.2.1.head?.map (·.1) :: z.2.2.map (fun _ => none), z.2.2.map Ob.flip))) =
      some ((true, r, some now), (((codeT E (callN E N n) (callNT E N n) N c a s fun x a' s' => .now s' (.ret (x, a', s'))).follow p [(s, ov, true)] []).map fun z => ((some z.1.2.2 : Option St) :: z.2.2.map (fun _ => none), z.2.2)).getD ([], []))) :
    ∃ x a' s', evalCode E (callN E N n) N c a s = some (x, a', s') ∧ f (x, a') = r ∧ After s s' (keysOf ov) now := by
  obtain ⟨z, sn', h1, h2, h3⟩ := T.use (t := codeT E (callN E N n) (callNT E N n) N c a s fun x a' s' => .now s' (.ret (x, a', s'))) (s₀ := s) (K := keysOf ov) [(s, ov, true)] (by simpa using hov) (chain_one _) p
    (fun z => ((isNodup is, f (z.1.1, z.1.2.1), z.2.head?.map fun t => picks is t.2.1), z.2.head?.map (·.1), some z.1.2.2)) (r := ((true, r, some now), (((codeT E (callN E N n) (callNT E N n) N c a s fun x a' s' => .now s' (.ret (x, a', s'))).follow p [(s, ov, true)] []).map fun z => (z.2.1.head?.map (·.1), some z.1.2.2)).getD (none, none))) (by
      cases hf : (codeT E (callN E N n) (callNT E N n) N c a s fun x a' s' => .now s' (.ret (x, a', s'))).follow p [(s, ov, true)] [] with
      | none => simp [hf] at h
      | some z =>
        simp only [hf, Option.map_some, Option.getD_some, Option.some.injEq, Prod.mk.injEq, List.cons.injEq] at h ⊢
        exact ⟨⟨h.1, trivial⟩, h.2.2⟩)
  obtain ⟨x', a', s', h4, h5⟩ := codeT_run (callNT_run E N n) _ _ _ _ h1
  have h5 : (x', a', s') = z := h5
  subst h5
  cases hf : (codeT E (callN E N n) (callNT E N n) N c a s fun x a' s' => .now s' (.ret (x, a', s'))).follow p [(s, ov, true)] [] with
  | none => simp [hf] at h
  | some w =>
    simp only [hf, Option.map_some, Option.getD_some, Option.some.injEq, Prod.mk.injEq, List.cons.injEq] at h h2
    obtain ⟨⟨h6, h7, h8⟩, h9, h10⟩ := h2
    obtain ⟨_, ⟨h11, _⟩, _⟩ := h
    subst h7
    cases hs : sn' with
    | nil => simp [hs] at h8
    | cons t sn =>
      simp only [hs, List.head?_cons, Option.map_some, Option.some.injEq] at h8 h9
      have h12 := h3 t (by simp [hs])
      have h13 : some t.1 = some s' := by rw [h9, h11, ← h10]
      cases h13
      refine ⟨_, _, _, h4, rfl, ?_⟩
      rw [← h8]
      exact h12.picks (isNodup_ok h6)

/-- A piece of code in memory that is computed. -/
theorem code_along {E : Env} {N n : Nat} {c : Code} {a : AAct} {s : St} (p : List Ev) {β : Type} (f : X × AAct × St → β) {r : β}
    (h : ((codeT E (callN E N n) (callNT E N n) N c a s fun x a' s' => .ret (x, a', s')).follow p [] []).map (fun z => (f z.1, z.2.2.map Ob.flip)) =
      some (r, (((codeT E (callN E N n) (callNT E N n) N c a s fun x a' s' => .ret (x, a', s')).follow p [] []).map fun z => z.2.2).getD [])) :
    ∃ x a' s', evalCode E (callN E N n) N c a s = some (x, a', s') ∧ f (x, a', s') = r := by
  obtain ⟨z, _, h1, h2, _⟩ := T.use (s₀ := s) (K := []) [] (by simp) chain_nil p (fun z => f z.1) h
  obtain ⟨x, a', s', h3, h4⟩ := codeT_run (callNT_run E N n) _ _ _ _ h1
  have h4 : (x, a', s') = z := h4
  subst h4
  exact ⟨x, a', s', h3, h2⟩

/-- A call in memory that is computed. -/
theorem call_along {E : Env} {N n : Nat} {g : FuncId} {args : List Value} {s : St} (p : List Ev) {β : Type} (f : Ret × St → β) {r : β}
    (h : ((callNT E N n g args s fun x s' => .ret (x, s')).follow p [] []).map (fun z => (f z.1, z.2.2.map Ob.flip)) =
      some (r, (((callNT E N n g args s fun x s' => .ret (x, s')).follow p [] []).map fun z => z.2.2).getD [])) :
    ∃ x s', callN E N n g args s = some (x, s') ∧ f (x, s') = r := by
  obtain ⟨z, _, h1, h2, _⟩ := T.use (s₀ := s) (K := []) [] (by simp) chain_nil p (fun z => f z.1) h
  obtain ⟨x, s', h3, h4⟩ := callNT_run E N n _ _ _ _ _ h1
  have h4 : (x, s') = z := h4
  subst h4
  exact ⟨x, s', h3, h2⟩

/-! Ways. -/
abbrev Ev.yes (n : Nat) {p : Prop} [Decidable p] (h : p) : Ev := .b n (decide p) true (decide_eq_true h)
abbrev Ev.no (n : Nat) {p : Prop} [Decidable p] (h : ¬ p) : Ev := .b n (decide p) false (decide_eq_false h)
abbrev Ev.is (n : Nat) {x y : Bool} (h : x = y) : Ev := .b n x y h
abbrev Ev.int (n : Nat) {x y : Int} (h : x = y) : Ev := .i n x y h
abbrev Ev.list (n : Nat) {x : Option (List Value)} {y : List Value} (h : x = some y) : Ev := .l n x y h
/-- A call's contract, as one function of the numbers and memory. -/
def CallEv (G : List Nat → St → Option (Ret × St)) (objs : List AObj) (x : List Nat → List Nat → Ret) (now : List Nat → List Nat → Cache) : Prop :=
  ∃ R : List Nat → St → List Nat × St, ∀ ks s, ks.length = objs.length → Holds s (ks.zip objs) → G ks s = some (x ks (R ks s).1, (R ks s).2) ∧ After s (R ks s).2 ks (now ks (R ks s).1)

/-- A loop's, likewise. -/
def LoopEv (F : AAct → St → Option (X × AAct × St)) (m : Nat) (live : List Nat → List (Nat × Value)) (d : List Deferred) (objs : List AObj) (x : X) (live' : List Nat → List Nat → List (Nat × Value)) (now : List Nat → List Nat → Cache) : Prop :=
  ∃ R : (Nat → Value) → List Nat → St → List Nat × (Nat → Value) × St, ∀ rest ks s, ks.length = objs.length → Holds s (ks.zip objs) →
    F { tmps := tmpsOf m (live ks) rest, defers := d } s = some (x, { tmps := tmpsOf m (live' ks (R rest ks s).1) (R rest ks s).2.1, defers := d }, (R rest ks s).2.2) ∧ After s (R rest ks s).2.2 ks (now ks (R rest ks s).1)

noncomputable abbrev Ev.call (n j : Nat) (is : List Nat) {G : List Nat → St → Option (Ret × St)} {objs : List AObj} {x : List Nat → List Nat → Ret} {now : List Nat → List Nat → Cache} (h : CallEv G objs x now) : Ev :=
  .r n j is G objs (Classical.choose h) x now (Classical.choose_spec h)
noncomputable abbrev Ev.loop (n j : Nat) (is : List Nat) {F : AAct → St → Option (X × AAct × St)} {m : Nat} {live : List Nat → List (Nat × Value)} {d : List Deferred} {objs : List AObj} {x : X}
    {live' : List Nat → List Nat → List (Nat × Value)} {now : List Nat → List Nat → Cache} (h : LoopEv F m live d objs x live' now) : Ev :=
  .c n j is F m live d objs (Classical.choose h) x live' now (Classical.choose_spec h)

/-! Contracts of calls: for whatever memory that holds the objects. 'nk': the numbers of what is new. -/
abbrev Calls0 (F : St → Option (Ret × St)) (x : List Nat → Ret) (now : List Nat → Cache) : Prop := ∀ s, ∃ nk s', F s = some (x nk, s') ∧ After s s' [] (now nk)
abbrev Calls1 (o : AObj) (F : Nat → St → Option (Ret × St)) (x : Nat → List Nat → Ret) (now : Nat → List Nat → Cache) : Prop := ∀ f s, Holds s [(f, o)] → ∃ nk s', F f s = some (x f nk, s') ∧ After s s' [f] (now f nk)
abbrev Calls2 (o p : AObj) (F : Nat → Nat → St → Option (Ret × St)) (x : Nat → Nat → List Nat → Ret) (now : Nat → Nat → List Nat → Cache) : Prop := ∀ f g s, Holds s [(f, o), (g, p)] → ∃ nk s', F f g s = some (x f g nk, s') ∧ After s s' [f, g] (now f g nk)
abbrev Calls3 (o p q : AObj) (F : Nat → Nat → Nat → St → Option (Ret × St)) (x : Nat → Nat → Nat → List Nat → Ret) (now : Nat → Nat → Nat → List Nat → Cache) : Prop :=
  ∀ f g h s, Holds s [(f, o), (g, p), (h, q)] → ∃ nk s', F f g h s = some (x f g h nk, s') ∧ After s s' [f, g, h] (now f g h nk)

theorem pair_choose {ρ : Type} {P : St → Prop} {Q : St → ρ → Prop} [Inhabited ρ] (h : ∀ s, P s → ∃ r, Q s r) : ∃ R : St → ρ, ∀ s, P s → Q s (R s) := by
  classical
  refine ⟨fun s => if hp : P s then Classical.choose (h s hp) else default, fun s hp => ?_⟩
  simp only [dif_pos hp]
  exact Classical.choose_spec (h s hp)

instance : Inhabited St := ⟨.empty⟩

theorem Calls0.ev {F : St → Option (Ret × St)} {x : List Nat → Ret} {now : List Nat → Cache} (h : Calls0 F x now) :
    CallEv (fun _ => F) [] (fun _ nk => x nk) (fun _ nk => now nk) := by
  obtain ⟨R, hR⟩ := pair_choose (ρ := List Nat × St) (P := fun _ => True) (Q := fun s r => F s = some (x r.1, r.2) ∧ After s r.2 [] (now r.1)) (fun s _ => by
    obtain ⟨nk, s', h1⟩ := h s
    exact ⟨(nk, s'), h1⟩)
  refine ⟨fun _ => R, fun ks s hk _ => ?_⟩
  match ks, hk with
  | [], _ => exact hR s trivial

theorem Calls1.ev {o : AObj} {F : Nat → St → Option (Ret × St)} {x : Nat → List Nat → Ret} {now : Nat → List Nat → Cache} (h : Calls1 o F x now) :
    CallEv (fun ks => F (ks.getD 0 0)) [o] (fun ks nk => x (ks.getD 0 0) nk) (fun ks nk => now (ks.getD 0 0) nk) := by
  have h' : ∀ f, ∃ R : St → List Nat × St, ∀ s, Holds s [(f, o)] → F f s = some (x f (R s).1, (R s).2) ∧ After s (R s).2 [f] (now f (R s).1) := fun f =>
    pair_choose (ρ := List Nat × St) (P := fun s => Holds s [(f, o)]) (Q := fun s r => F f s = some (x f r.1, r.2) ∧ After s r.2 [f] (now f r.1)) (fun s hs => by
      obtain ⟨nk, s', h1⟩ := h f s hs
      exact ⟨(nk, s'), h1⟩)
  refine ⟨fun ks => Classical.choose (h' (ks.getD 0 0)), fun ks s hk hs => ?_⟩
  match ks, hk, hs with
  | [f], _, hs => exact Classical.choose_spec (h' f) s hs

theorem Calls2.ev {o p : AObj} {F : Nat → Nat → St → Option (Ret × St)} {x : Nat → Nat → List Nat → Ret} {now : Nat → Nat → List Nat → Cache} (h : Calls2 o p F x now) :
    CallEv (fun ks => F (ks.getD 0 0) (ks.getD 1 0)) [o, p] (fun ks nk => x (ks.getD 0 0) (ks.getD 1 0) nk) (fun ks nk => now (ks.getD 0 0) (ks.getD 1 0) nk) := by
  have h' : ∀ f g, ∃ R : St → List Nat × St, ∀ s, Holds s [(f, o), (g, p)] → F f g s = some (x f g (R s).1, (R s).2) ∧ After s (R s).2 [f, g] (now f g (R s).1) := fun f g =>
    pair_choose (ρ := List Nat × St) (P := fun s => Holds s [(f, o), (g, p)]) (Q := fun s r => F f g s = some (x f g r.1, r.2) ∧ After s r.2 [f, g] (now f g r.1)) (fun s hs => by
      obtain ⟨nk, s', h1⟩ := h f g s hs
      exact ⟨(nk, s'), h1⟩)
  refine ⟨fun ks => Classical.choose (h' (ks.getD 0 0) (ks.getD 1 0)), fun ks s hk hs => ?_⟩
  match ks, hk, hs with
  | [f, g], _, hs => exact Classical.choose_spec (h' f g) s hs

theorem Calls3.ev {o p q : AObj} {F : Nat → Nat → Nat → St → Option (Ret × St)} {x : Nat → Nat → Nat → List Nat → Ret} {now : Nat → Nat → Nat → List Nat → Cache} (h : Calls3 o p q F x now) :
    CallEv (fun ks => F (ks.getD 0 0) (ks.getD 1 0) (ks.getD 2 0)) [o, p, q] (fun ks nk => x (ks.getD 0 0) (ks.getD 1 0) (ks.getD 2 0) nk) (fun ks nk => now (ks.getD 0 0) (ks.getD 1 0) (ks.getD 2 0) nk) := by
  have h' : ∀ f g e, ∃ R : St → List Nat × St, ∀ s, Holds s [(f, o), (g, p), (e, q)] → F f g e s = some (x f g e (R s).1, (R s).2) ∧ After s (R s).2 [f, g, e] (now f g e (R s).1) := fun f g e =>
    pair_choose (ρ := List Nat × St) (P := fun s => Holds s [(f, o), (g, p), (e, q)]) (Q := fun s r => F f g e s = some (x f g e r.1, r.2) ∧ After s r.2 [f, g, e] (now f g e r.1)) (fun s hs => by
      obtain ⟨nk, s', h1⟩ := h f g e s hs
      exact ⟨(nk, s'), h1⟩)
  refine ⟨fun ks => Classical.choose (h' (ks.getD 0 0) (ks.getD 1 0) (ks.getD 2 0)), fun ks s hk hs => ?_⟩
  match ks, hk, hs with
  | [f, g, e], _, hs => exact Classical.choose_spec (h' f g e) s hs

/-! Contracts of loops. -/
abbrev Loops0 (F : AAct → St → Option (X × AAct × St)) (m : Nat) (d : List Deferred) (live : List (Nat × Value)) (x : X) (live' : List Nat → List (Nat × Value)) (now : List Nat → Cache) : Prop :=
  ∀ rest s, ∃ nk rest' s', F { tmps := tmpsOf m live rest, defers := d } s = some (x, { tmps := tmpsOf m (live' nk) rest', defers := d }, s') ∧ After s s' [] (now nk)
abbrev Loops1 (o : AObj) (F : AAct → St → Option (X × AAct × St)) (m : Nat) (d : List Deferred) (live : Nat → List (Nat × Value)) (x : X) (live' : Nat → List Nat → List (Nat × Value)) (now : Nat → List Nat → Cache) : Prop :=
  ∀ f rest s, Holds s [(f, o)] → ∃ nk rest' s', F { tmps := tmpsOf m (live f) rest, defers := d } s = some (x, { tmps := tmpsOf m (live' f nk) rest', defers := d }, s') ∧ After s s' [f] (now f nk)
abbrev Loops2 (o p : AObj) (F : AAct → St → Option (X × AAct × St)) (m : Nat) (d : List Deferred) (live : Nat → Nat → List (Nat × Value)) (x : X) (live' : Nat → Nat → List Nat → List (Nat × Value)) (now : Nat → Nat → List Nat → Cache) : Prop :=
  ∀ f g rest s, Holds s [(f, o), (g, p)] → ∃ nk rest' s', F { tmps := tmpsOf m (live f g) rest, defers := d } s = some (x, { tmps := tmpsOf m (live' f g nk) rest', defers := d }, s') ∧ After s s' [f, g] (now f g nk)
abbrev Loops3 (o p q : AObj) (F : AAct → St → Option (X × AAct × St)) (m : Nat) (d : List Deferred) (live : Nat → Nat → Nat → List (Nat × Value)) (x : X) (live' : Nat → Nat → Nat → List Nat → List (Nat × Value)) (now : Nat → Nat → Nat → List Nat → Cache) : Prop :=
  ∀ f g e rest s, Holds s [(f, o), (g, p), (e, q)] → ∃ nk rest' s', F { tmps := tmpsOf m (live f g e) rest, defers := d } s = some (x, { tmps := tmpsOf m (live' f g e nk) rest', defers := d }, s') ∧ After s s' [f, g, e] (now f g e nk)

theorem loops_choose {F : AAct → St → Option (X × AAct × St)} {m : Nat} {d : List Deferred} {objs : List AObj} {live : List Nat → List (Nat × Value)} {x : X} {live' : List Nat → List Nat → List (Nat × Value)} {now : List Nat → List Nat → Cache}
    (h : ∀ rest ks s, ks.length = objs.length → Holds s (ks.zip objs) → ∃ nk rest' s', F { tmps := tmpsOf m (live ks) rest, defers := d } s = some (x, { tmps := tmpsOf m (live' ks nk) rest', defers := d }, s') ∧ After s s' ks (now ks nk)) :
    LoopEv F m live d objs x live' now := by
  have h' : ∀ rest ks, ∃ R : St → List Nat × (Nat → Value) × St, ∀ s, (ks.length = objs.length ∧ Holds s (ks.zip objs)) → F { tmps := tmpsOf m (live ks) rest, defers := d } s = some (x, { tmps := tmpsOf m (live' ks (R s).1) (R s).2.1, defers := d }, (R s).2.2) ∧ After s (R s).2.2 ks (now ks (R s).1) := fun rest ks =>
    pair_choose (ρ := List Nat × (Nat → Value) × St) (P := fun s => ks.length = objs.length ∧ Holds s (ks.zip objs)) (Q := fun s r => F { tmps := tmpsOf m (live ks) rest, defers := d } s = some (x, { tmps := tmpsOf m (live' ks r.1) r.2.1, defers := d }, r.2.2) ∧ After s r.2.2 ks (now ks r.1)) (fun s hs => by
      obtain ⟨nk, rest', s', h1⟩ := h rest ks s hs.1 hs.2
      exact ⟨(nk, rest', s'), h1⟩)
  exact ⟨fun rest ks => Classical.choose (h' rest ks), fun rest ks s h1 h2 => Classical.choose_spec (h' rest ks) s ⟨h1, h2⟩⟩

theorem Loops0.ev {F : AAct → St → Option (X × AAct × St)} {m : Nat} {d : List Deferred} {live : List (Nat × Value)} {x : X} {live' : List Nat → List (Nat × Value)} {now : List Nat → Cache} (h : Loops0 F m d live x live' now) :
    LoopEv F m (fun _ => live) d [] x (fun _ nk => live' nk) (fun _ nk => now nk) :=
  loops_choose (live := fun _ => live) (live' := fun _ nk => live' nk) (now := fun _ nk => now nk) (fun rest ks s hk hs => by
    match ks, hk, hs with
    | [], _, hs => exact h rest s)

theorem Loops1.ev {o : AObj} {F : AAct → St → Option (X × AAct × St)} {m : Nat} {d : List Deferred} {live : Nat → List (Nat × Value)} {x : X} {live' : Nat → List Nat → List (Nat × Value)} {now : Nat → List Nat → Cache} (h : Loops1 o F m d live x live' now) :
    LoopEv F m (fun ks => live (ks.getD 0 0)) d [o] x (fun ks nk => live' (ks.getD 0 0) nk) (fun ks nk => now (ks.getD 0 0) nk) :=
  loops_choose (live := fun ks => live (ks.getD 0 0)) (live' := fun ks nk => live' (ks.getD 0 0) nk) (now := fun ks nk => now (ks.getD 0 0) nk) (fun rest ks s hk hs => by
    match ks, hk, hs with
    | [f], _, hs => exact h f rest s hs)

theorem Loops2.ev {o p : AObj} {F : AAct → St → Option (X × AAct × St)} {m : Nat} {d : List Deferred} {live : Nat → Nat → List (Nat × Value)} {x : X} {live' : Nat → Nat → List Nat → List (Nat × Value)} {now : Nat → Nat → List Nat → Cache} (h : Loops2 o p F m d live x live' now) :
    LoopEv F m (fun ks => live (ks.getD 0 0) (ks.getD 1 0)) d [o, p] x (fun ks nk => live' (ks.getD 0 0) (ks.getD 1 0) nk) (fun ks nk => now (ks.getD 0 0) (ks.getD 1 0) nk) :=
  loops_choose (live := fun ks => live (ks.getD 0 0) (ks.getD 1 0)) (live' := fun ks nk => live' (ks.getD 0 0) (ks.getD 1 0) nk) (now := fun ks nk => now (ks.getD 0 0) (ks.getD 1 0) nk) (fun rest ks s hk hs => by
    match ks, hk, hs with
    | [f, g], _, hs => exact h f g rest s hs)

theorem Loops3.ev {o p q : AObj} {F : AAct → St → Option (X × AAct × St)} {m : Nat} {d : List Deferred} {live : Nat → Nat → Nat → List (Nat × Value)} {x : X} {live' : Nat → Nat → Nat → List Nat → List (Nat × Value)} {now : Nat → Nat → Nat → List Nat → Cache} (h : Loops3 o p q F m d live x live' now) :
    LoopEv F m (fun ks => live (ks.getD 0 0) (ks.getD 1 0) (ks.getD 2 0)) d [o, p, q] x (fun ks nk => live' (ks.getD 0 0) (ks.getD 1 0) (ks.getD 2 0) nk) (fun ks nk => now (ks.getD 0 0) (ks.getD 1 0) (ks.getD 2 0) nk) :=
  loops_choose (live := fun ks => live (ks.getD 0 0) (ks.getD 1 0) (ks.getD 2 0)) (live' := fun ks nk => live' (ks.getD 0 0) (ks.getD 1 0) (ks.getD 2 0) nk) (now := fun ks nk => now (ks.getD 0 0) (ks.getD 1 0) (ks.getD 2 0) nk) (fun rest ks s hk hs => by
    match ks, hk, hs with
    | [f, g, e], _, hs => exact h f g e rest s hs)

end Go.Ai

/-
  THE FORKED RUN, 3: memory that is told anew: under new numbers, without what is not looked at any more.
-/
set_option linter.unusedSimpArgs false
set_option linter.unusedVariables false
set_option linter.unusedSectionVars false
namespace Go.Ai
open Go

/-! What a new number was called: an older one, and in which growth's time. -/
abbrev Names := List (Nat × Nat)

mutual
def oldV (τ : Names) : Value → Value
  | .pointer (some ⟨n, off, some _⟩) => match τ[n]? with
    | some (f, e) => .pointer (some ⟨f, off, some e⟩)
    | none => .pointer none
  | .slice (some ⟨n, off, some _⟩) l c => match τ[n]? with
    | some (f, e) => .slice (some ⟨f, off, some e⟩) l c
    | none => .pointer none
  | .map (some n) => match τ[n]? with
    | some (f, _) => .map (some f)
    | none => .pointer none
  | .iface t v => .iface t (oldV τ v)
  | .func fn ⟨a⟩ ⟨b⟩ => .func fn ⟨oldL τ a⟩ ⟨oldL τ b⟩
  | .agg ⟨l⟩ => .agg ⟨oldL τ l⟩
  | .tuple ⟨l⟩ => .tuple ⟨oldL τ l⟩
  | v => v
def oldL (τ : Names) : List Value → List Value
  | [] => []
  | v :: l => oldV τ v :: oldL τ l
end

mutual
def fitsV (τ : Names) : Value → Bool
  | .pointer (some ⟨n, _, some e⟩) => e == 0 && decide (n < τ.length)
  | .slice (some ⟨n, _, some e⟩) _ _ => e == 0 && decide (n < τ.length)
  | .map (some n) => match τ[n]? with
    | some (_, e) => e == 0
    | none => false
  | .iface _ v => fitsV τ v
  | .func _ ⟨a⟩ ⟨b⟩ => fitsL τ a && fitsL τ b
  | .agg ⟨l⟩ => fitsL τ l
  | .tuple ⟨l⟩ => fitsL τ l
  | _ => true
def fitsL (τ : Names) : List Value → Bool
  | [] => true
  | v :: l => fitsV τ v && fitsL τ l
end

theorem oldL_length (τ : Names) : ∀ l, (oldL τ l).length = l.length
  | [] => rfl
  | v :: l => by simp [oldL, oldL_length τ l]

theorem oldL_get (τ : Names) : ∀ (l : List Value) (i : Nat), (oldL τ l)[i]? = (l[i]?).map (oldV τ)
  | [], i => by simp [oldL]
  | v :: l, 0 => by simp [oldL]
  | v :: l, i + 1 => by simpa [oldL] using oldL_get τ l i

theorem fitsL_mem {τ : Names} : ∀ {l : List Value}, fitsL τ l = true → ∀ (i : Nat) (x : Value), l[i]? = some x → fitsV τ x = true
  | [], _, i, x, hx => by simp at hx
  | v :: l, h, 0, x, hx => by simp [fitsL] at h hx; rw [← hx]; exact h.1
  | v :: l, h, i + 1, x, hx => by simp [fitsL] at h hx; exact fitsL_mem h.2 i x hx

mutual
theorem oldV_flat (τ : Names) : ∀ v, flat v = true → oldV τ v = v ∧ fitsV τ v = true
  | .bool _, _ => ⟨rfl, rfl⟩
  | .int _ _, _ => ⟨rfl, rfl⟩
  | .float _ _, _ => ⟨rfl, rfl⟩
  | .complex _ _ _, _ => ⟨rfl, rfl⟩
  | .string _, _ => ⟨rfl, rfl⟩
  | .pointer none, _ => ⟨rfl, rfl⟩
  | .slice none _ _, _ => ⟨rfl, rfl⟩
  | .map none, _ => ⟨rfl, rfl⟩
  | .chan none, _ => ⟨rfl, rfl⟩
  | .nilFunc, _ => ⟨rfl, rfl⟩
  | .nilIface, _ => ⟨rfl, rfl⟩
  | .pointer (some _), h => by simp [flat] at h
  | .slice (some _) _ _, h => by simp [flat] at h
  | .map (some _), h => by simp [flat] at h
  | .chan (some _), h => by simp [flat] at h
  | .iface t v, h => by
      simp only [flat] at h
      obtain ⟨h1, h2⟩ := oldV_flat τ v h
      exact ⟨by simp only [oldV, h1], by simp only [fitsV, h2]⟩
  | .func fn ⟨a⟩ ⟨b⟩, h => by
      simp only [flat, flatA, Bool.and_eq_true] at h
      obtain ⟨h1, h2⟩ := oldL_flat τ a h.1
      obtain ⟨h3, h4⟩ := oldL_flat τ b h.2
      exact ⟨by simp only [oldV, h1, h3], by simp only [fitsV, h2, h4]; rfl⟩
  | .agg ⟨l⟩, h => by
      simp only [flat, flatA] at h
      obtain ⟨h1, h2⟩ := oldL_flat τ l h
      exact ⟨by simp only [oldV, h1], by simp only [fitsV, h2]⟩
  | .tuple ⟨l⟩, h => by
      simp only [flat, flatA] at h
      obtain ⟨h1, h2⟩ := oldL_flat τ l h
      exact ⟨by simp only [oldV, h1], by simp only [fitsV, h2]⟩
theorem oldL_flat (τ : Names) : ∀ l, flatL l = true → oldL τ l = l ∧ fitsL τ l = true
  | [], _ => ⟨rfl, rfl⟩
  | v :: l, h => by
      simp only [flatL, Bool.and_eq_true] at h
      obtain ⟨h1, h2⟩ := oldV_flat τ v h.1
      obtain ⟨h3, h4⟩ := oldL_flat τ l h.2
      exact ⟨by simp only [oldL, h1, h3], by simp only [fitsL, h2, h4]; rfl⟩
end

def renφ (τ : Names) (φ : Phi) : Phi := fun n e => if e = 0 then (match τ[n]? with | some (f, e₀) => φ f e₀ | none => none) else none

theorem renφ_some {τ : Names} {φ : Phi} {n e : Nat} {k : Blk} (h : renφ τ φ n e = some k) : e = 0 ∧ ∃ f e₀, τ[n]? = some (f, e₀) ∧ φ f e₀ = some k := by
  unfold renφ at h
  split at h
  · rename_i he
    split at h
    · rename_i f e₀ hf; exact ⟨he, f, e₀, hf, h⟩
    · simp at h
  · simp at h

theorem renφ_of {τ : Names} {φ : Phi} {n f e₀ : Nat} {k : Blk} (h : τ[n]? = some (f, e₀)) (hk : φ f e₀ = some k) : renφ τ φ n 0 = some k := by
  unfold renφ
  rw [if_pos rfl, h]
  exact hk

section
variable {B : Nat} {φ : Phi} {τ : Names}

theorem arr_split {xs ys : Array Value} {τ : Names} {l : List Value} (hl : xs = ⟨oldL τ l⟩) (hs : xs.size = ys.size) : l.length = ys.size := by
  rw [← hs, hl]; simp [oldL_length]

mutual
theorem V.ren : ∀ (v : Value) (y : Value), fitsV τ v = true → V B φ (oldV τ v) y → V B (renφ τ φ) v y
  | .bool _, y, _, h => by cases h; exact .bool _
  | .int _ _, y, _, h => by cases h; exact .int _ _
  | .float _ _, y, _, h => by cases h; exact .float _ _
  | .complex _ _ _, y, _, h => by cases h; exact .complex _ _ _
  | .string _, y, _, h => by cases h; exact .string _
  | .nilFunc, y, _, h => by cases h; exact .nilFunc
  | .nilIface, y, _, h => by cases h; exact .nilIface
  | .pointer none, y, _, h => by cases h; exact .pnil
  | .slice none _ _, y, _, h => by cases h; exact .snil _ _
  | .map none, y, _, h => by cases h; exact .mnil
  | .chan none, y, _, h => by cases h; exact .cnil
  | .chan (some _), y, _, h => by cases h
  | .pointer (some ⟨n, off, none⟩), y, _, h => by
      cases h with
      | pold _ h1 h2 => exact .pold _ h1 h2
  | .pointer (some ⟨n, off, some e⟩), y, hf, h => by
      simp only [fitsV, Bool.and_eq_true, beq_iff_eq, decide_eq_true_eq] at hf
      obtain ⟨rfl, hn⟩ := hf
      have hτ : τ[n]? = some (τ[n].1, τ[n].2) := List.getElem?_eq_getElem hn
      simp only [oldV, hτ] at h
      cases h with
      | pold _ h1 h2 => simp at h2
      | pnew _ _ _ k hk hb => exact .pnew _ _ _ k (renφ_of hτ hk) hb
  | .slice (some ⟨n, off, none⟩) l c, y, _, h => by
      cases h with
      | sold _ _ _ h1 h2 => exact .sold _ _ _ h1 h2
  | .slice (some ⟨n, off, some e⟩) l c, y, hf, h => by
      simp only [fitsV, Bool.and_eq_true, beq_iff_eq, decide_eq_true_eq] at hf
      obtain ⟨rfl, hn⟩ := hf
      have hτ : τ[n]? = some (τ[n].1, τ[n].2) := List.getElem?_eq_getElem hn
      simp only [oldV, hτ] at h
      cases h with
      | sold _ _ _ h1 h2 => simp at h2
      | snew _ _ _ _ k hk h2 h3 h4 h5 => exact .snew _ _ _ _ k (renφ_of hτ hk) h2 h3 h4 h5
      | sfix _ _ _ _ _ k hk h2 h3 => exact .sfix _ _ _ _ _ k (renφ_of hτ hk) h2 h3
      | snone _ _ _ o k hk h2 h3 h4 h5 => exact .snone _ _ _ o k (renφ_of hτ hk) h2 h3 h4 h5
  | .map (some n), y, hf, h => by
      simp only [fitsV] at hf
      split at hf
      next f e hτ =>
        simp only [beq_iff_eq] at hf
        subst hf
        simp only [oldV, hτ] at h
        cases h with
        | mnew _ k hk => exact .mnew _ k (renφ_of hτ hk)
      next => simp at hf
  | .iface t v, y, hf, h => by
      simp only [oldV] at h
      simp only [fitsV] at hf
      cases h with
      | iface _ h' => exact .iface t (V.ren v _ hf h')
  | .func fn ⟨a⟩ ⟨b⟩, y, hf, h => by
      simp only [oldV] at h
      simp only [fitsV, Bool.and_eq_true] at hf
      cases h with
      | func _ h1 h2 h3 h4 =>
        refine .func fn (by simpa [oldL_length] using h1) (fun i x y hx hy => ?_) (by simpa [oldL_length] using h3) (fun i x y hx hy => ?_)
        · exact V.renL a hf.1 i x y (by simpa using hx) fun x' hx' => h2 i x' y (by simpa using hx') hy
        · exact V.renL b hf.2 i x y (by simpa using hx) fun x' hx' => h4 i x' y (by simpa using hx') hy
  | .agg ⟨l⟩, y, hf, h => by
      simp only [oldV] at h
      simp only [fitsV] at hf
      cases h with
      | agg h1 h2 =>
        refine .agg (by simpa [oldL_length] using h1) (fun i x y hx hy => ?_)
        exact V.renL l hf i x y (by simpa using hx) fun x' hx' => h2 i x' y (by simpa using hx') hy
  | .tuple ⟨l⟩, y, hf, h => by
      simp only [oldV] at h
      simp only [fitsV] at hf
      cases h with
      | tuple h1 h2 =>
        refine .tuple (by simpa [oldL_length] using h1) (fun i x y hx hy => ?_)
        exact V.renL l hf i x y (by simpa using hx) fun x' hx' => h2 i x' y (by simpa using hx') hy
theorem V.renL : ∀ (l : List Value), fitsL τ l = true → ∀ (i : Nat) (x y : Value), l[i]? = some x → (∀ x', (oldL τ l)[i]? = some x' → V B φ x' y) → V B (renφ τ φ) x y
  | [], _, i, x, y, hx, _ => by simp at hx
  | v :: l, hf, 0, x, y, hx, h => by
      simp only [List.getElem?_cons_zero, Option.some.injEq] at hx
      subst hx
      simp only [fitsL, Bool.and_eq_true] at hf
      exact V.ren v y hf.1 (h _ (by simp [oldL]))
  | v :: l, hf, i + 1, x, y, hx, h => by
      simp only [List.getElem?_cons_succ] at hx
      simp only [fitsL, Bool.and_eq_true] at hf
      exact V.renL l hf.2 i x y hx fun x' hx' => h x' (by simpa [oldL] using hx')
end
end

/-- One object, told anew. -/
def ObjRen (τ : Names) (e : Nat) (src : Option AObj) (o : AObj) : Prop :=
  match o with
  | .row cells esz ep lw hist => ep = 0 ∧ lw = 0 ∧ hist = [] ∧ fitsL τ cells = true ∧ ∃ lw₀ hist₀, src = some (.row (oldL τ cells) esz e lw₀ hist₀) ∧ lw₀ ≤ e
  | .map es => e = 0 ∧ (es.all fun x => fitsV τ x.2) = true ∧ src = some (.map (es.map fun x => (x.1, oldV τ x.2)))
  | .iter s p => e = 0 ∧ src = some (.iter s p)

theorem R.ren {B : Nat} {w₀ : World} {φ : Phi} {g g' : Nat → Option AObj} {w : World} {τ : Names} (h : R B w₀ φ g w) (hobj : ∀ (n f e : Nat), τ[n]? = some (f, e) → ∃ o, g' n = some o ∧ ObjRen τ e (g f) o)
    (hinj : ∀ (n n' f e e' : Nat), τ[n]? = some (f, e) → τ[n']? = some (f, e') → n = n') : R B w₀ (renφ τ φ) g' w where
  dom n e k hk := by
    obtain ⟨rfl, f, e₀, h1, h2⟩ := renφ_some hk
    obtain ⟨o, h3, _⟩ := hobj _ _ _ h1
    simp [h3]
  lo n e k hk := by
    obtain ⟨rfl, f, e₀, h1, h2⟩ := renφ_some hk
    exact h.lo _ _ _ h2
  inj n e k n' e' k' hk hk' hb := by
    obtain ⟨rfl, f, e₀, h1, h2⟩ := renφ_some hk
    obtain ⟨rfl, f', e₀', h1', h2'⟩ := renφ_some hk'
    obtain ⟨rfl, h3⟩ := h.inj _ _ _ _ _ _ h2 h2' hb
    exact ⟨hinj _ _ _ _ _ h1 h1', h3⟩
  row n e k cells esz ep lw hist hg hk := by
    obtain ⟨rfl, f, e₀, h1, h2⟩ := renφ_some hk
    obtain ⟨o, h3, h4⟩ := hobj _ _ _ h1
    rw [hg] at h3
    cases h3
    simp only [ObjRen] at h4
    obtain ⟨rfl, rfl, rfl, h5, lw₀, hist₀, h6, h7⟩ := h4
    refine ⟨Nat.le_refl _, by simp [ext], fun _ => ?_⟩
    obtain ⟨_, _, h8⟩ := h.row _ _ _ _ _ _ _ _ h6 h2
    obtain ⟨a1, a2, c, t, fr, a3, a4, a5, a6, a7⟩ := h8 h7
    have e1 : ext (oldL τ cells) e₀ hist₀ e₀ = cells.length := by simp [ext, oldL_length]
    have e2 : ext cells 0 [] 0 = cells.length := by simp [ext]
    rw [e1] at a5 a7
    rw [e2]
    refine ⟨a1, a2, c, t, fr, a3, a4, a5, a6, fun o x ho ho' hx => ?_⟩
    obtain ⟨v, hv1, hv2⟩ := a7 o (oldV τ x) ho ho' (by rw [oldL_get, hx]; rfl)
    exact ⟨v, hv1, V.ren x v (fitsL_mem h5 _ _ hx) hv2⟩
  map n e k es hg hk := by
    obtain ⟨rfl, f, e₀, h1, h2⟩ := renφ_some hk
    obtain ⟨o, h3, h4⟩ := hobj _ _ _ h1
    rw [hg] at h3
    cases h3
    simp only [ObjRen] at h4
    obtain ⟨rfl, h5, h6⟩ := h4
    obtain ⟨ces, clock, a1, a2, a3⟩ := h.map _ _ _ _ h6 h2
    refine ⟨ces, clock, a1, by simpa using a2, fun i x hx => ?_⟩
    obtain ⟨en, b1, b2, b3, b4⟩ := a3 i (x.1, oldV τ x.2) (by rw [List.getElem?_map, hx]; rfl)
    rw [List.all_eq_true] at h5
    exact ⟨en, b1, b2, b3, V.ren x.2 _ (h5 x (List.mem_of_getElem? hx)) b4⟩
  iter n e k s p hg hk := by
    obtain ⟨rfl, f, e₀, h1, h2⟩ := renφ_some hk
    obtain ⟨o, h3, h4⟩ := hobj _ _ _ h1
    rw [hg] at h3
    cases h3
    simp only [ObjRen] at h4
    obtain ⟨rfl, h6⟩ := h4
    exact h.iter _ _ _ _ _ h6 h2
  old := h.old
  size := h.size
  one n e k hk _ := (renφ_some hk).1

/-! Memory of a list of objects. -/
def memOf (l : List AObj) : St := l.foldl St.push .empty

theorem memOf_fold : ∀ (l : List AObj) (s : St), (l.foldl St.push s).next = s.next + l.length ∧ ∀ n, (l.foldl St.push s).get n = if n < s.next then s.get n else if n < s.next + l.length then l[n - s.next]? else s.get n := by
  intro l
  induction l with
  | nil =>
    intro s
    refine ⟨rfl, fun n => ?_⟩
    simp only [List.foldl_nil, List.length_nil, Nat.add_zero]
    split
    · rfl
    · rfl
  | cons o l ih =>
    intro s
    obtain ⟨h1, h2⟩ := ih (s.push o)
    simp only [List.foldl_cons]
    refine ⟨by rw [h1, St.next_push]; simp; omega, fun n => ?_⟩
    rw [h2, St.next_push, St.get_push]
    by_cases hn : n < s.next
    · rw [if_pos (by omega), if_pos hn, if_neg (by omega)]
    · rw [if_neg hn]
      by_cases hn2 : n = s.next
      · subst hn2
        rw [if_pos (by omega), if_pos rfl, if_pos (by simp)]
        simp
      · rw [if_neg (by omega), if_neg hn2]
        simp only [List.length_cons]
        by_cases hn3 : n < s.next + (l.length + 1)
        · rw [if_pos (by omega), if_pos hn3, show n - s.next = (n - (s.next + 1)) + 1 by omega]
          simp
        · rw [if_neg (by omega), if_neg hn3]

theorem empty_get (n : Nat) : St.empty.get n = none := by
  show Tr.get .nil n = none
  rfl

theorem memOf_get (l : List AObj) (n : Nat) : (memOf l).get n = l[n]? := by
  unfold memOf
  rw [(memOf_fold l .empty).2]
  have h0 : St.empty.next = 0 := rfl
  rw [h0, if_neg (by omega)]
  simp only [Nat.zero_add, Nat.sub_zero]
  split
  · rfl
  · rw [empty_get, List.getElem?_eq_none (by omega)]

theorem memOf_next (l : List AObj) : (memOf l).next = l.length := by
  unfold memOf
  rw [(memOf_fold l .empty).1]
  simp [St.empty]

theorem memOf_fresh (l : List AObj) : (memOf l).Fresh := by
  intro f hf
  rw [memOf_get]
  rw [memOf_next] at hf
  exact List.getElem?_eq_none hf

/-- A list of objects tells memory anew. -/
def AllRen (τ : Names) (s : St) : Names → List AObj → Prop
  | [], [] => True
  | (f, e) :: t, o :: l => ObjRen τ e (s.get f) o ∧ AllRen τ s t l
  | _, _ => False

theorem AllRen.get {τ : Names} {s : St} : ∀ {t : Names} {l : List AObj}, AllRen τ s t l → t.length = l.length ∧ ∀ (n f e : Nat), t[n]? = some (f, e) → ∃ o, l[n]? = some o ∧ ObjRen τ e (s.get f) o
  | [], [], _ => ⟨rfl, fun n f e h => by simp at h⟩
  | (f, e) :: t, o :: l, h => by
      obtain ⟨h1, h2⟩ := h
      obtain ⟨h3, h4⟩ := AllRen.get h2
      refine ⟨by simp [h3], fun n f' e' hn => ?_⟩
      cases n with
      | zero =>
        simp only [List.getElem?_cons_zero, Option.some.injEq, Prod.mk.injEq] at hn
        obtain ⟨rfl, rfl⟩ := hn
        exact ⟨o, by simp, h1⟩
      | succ n =>
        simp only [List.getElem?_cons_succ] at hn ⊢
        exact h4 n f' e' hn
  | [], _ :: _, h => h.elim
  | _ :: _, [], h => h.elim

/-! What is known of a frame's temporaries: those that are looked at, and that the others are bools or junk. -/
def dull : Value → Bool
  | .bool _ => true
  | v => isJunk v

def fade : Value → Value
  | .bool b => .bool b
  | _ => junk

theorem dull_fade (v : Value) : dull (fade v) = true := by cases v <;> rfl

theorem tmpsOf_length (n : Nat) (live : List (Nat × Value)) (rest : Nat → Value) : (tmpsOf n live rest).length = n := by simp [tmpsOf]

theorem tmpsOf_get (n : Nat) (live : List (Nat × Value)) (rest : Nat → Value) (i : Nat) (x : Value) (h : (tmpsOf n live rest)[i]? = some x) : i < n ∧ ((live.lookup i = some x) ∨ (live.lookup i = none ∧ x = rest i)) := by
  unfold tmpsOf at h
  rw [List.getElem?_map] at h
  cases hr : (List.range n)[i]? with
  | none => simp [hr] at h
  | some j =>
    have hj := List.getElem?_eq_some_iff.1 hr
    obtain ⟨hj1, hj2⟩ := hj
    simp at hj1 hj2
    subst hj2
    simp only [hr, Option.map_some, Option.some.injEq] at h
    refine ⟨hj1, ?_⟩
    cases hl : live.lookup i with
    | none => rw [hl] at h; exact .inr ⟨rfl, h.symm⟩
    | some v => rw [hl] at h; simp only at h; exact .inl (by rw [h])

/-- Where a frame and memory stand, as far as is told: 'live': temporaries; 'l': memory. -/
def Near (B : Nat) (w₀ : World) (n : Nat) (live : List (Nat × Value)) (l : List AObj) (ca : Act) (w : World) : Prop :=
  w.os = w₀.os ∧ w.tape = w₀.tape ∧ w.output = w₀.output ∧
    ∃ rest, (∀ i, dull (rest i) = true) ∧ ∃ φ, R B w₀ φ (memOf l).get w ∧ VAct B φ { tmps := tmpsOf n live rest, defers := [] } ca

theorem oldV_junk (τ : Names) (x : Value) (h : isJunk (oldV τ x) = true) : isJunk x = true := by
  cases x with
  | pointer p =>
    rcases p with _ | ⟨b, o, _ | e⟩
    · exact h
    · exact h
    · simp only [oldV] at h
      cases hτ : τ[b]? with
      | none => rw [hτ] at h; simp [isJunk] at h
      | some q => obtain ⟨f, e'⟩ := q; rw [hτ] at h; simp [isJunk] at h
  | slice p l c =>
    rcases p with _ | ⟨b, o, _ | e⟩
    · exact h
    · exact h
    · simp only [oldV] at h
      cases hτ : τ[b]? with
      | none => rw [hτ] at h; simp [isJunk] at h
      | some q => obtain ⟨f, e'⟩ := q; rw [hτ] at h; simp [isJunk] at h
  | map p =>
    rcases p with _ | b
    · exact h
    · simp only [oldV] at h
      cases hτ : τ[b]? with
      | none => rw [hτ] at h; simp [isJunk] at h
      | some q => obtain ⟨f, e'⟩ := q; rw [hτ] at h; simp [isJunk] at h
  | iface t v => simp [oldV, isJunk] at h
  | func fn a b => obtain ⟨a⟩ := a; obtain ⟨b⟩ := b; simp [oldV, isJunk] at h
  | agg l => obtain ⟨l⟩ := l; simp [oldV, isJunk] at h
  | tuple l => obtain ⟨l⟩ := l; simp [oldV, isJunk] at h
  | chan r => cases r <;> exact h
  | _ => simp [oldV, isJunk] at h

/-- Told anew. -/
theorem VAct.ren {B : Nat} {φ : Phi} {τ : Names} {a : AAct} {ca : Act} (h : VAct B φ a ca) (hd : a.defers = []) {n : Nat} (hn : a.tmps.length = n) {live : List (Nat × Value)}
    (hlive : ∀ x ∈ live, x.1 < n → a.tmps[x.1]? = some (oldV τ x.2) ∧ fitsV τ x.2 = true) : ∃ rest, (∀ i, dull (rest i) = true) ∧ VAct B (renφ τ φ) { tmps := tmpsOf n live rest, defers := [] } ca := by
  refine ⟨fun i => fade (a.tmps.getD i undef), fun i => dull_fade _, ⟨by rw [tmpsOf_length, ← hn]; exact h.size, fun i x y hx hy => ?_, ?_⟩⟩
  · obtain ⟨hi, h1 | ⟨_, h1⟩⟩ := tmpsOf_get _ _ _ _ _ hx
    · have hmem : (i, x) ∈ live := by
        clear hx hlive
        induction live with
        | nil => simp at h1
        | cons z live ih =>
          obtain ⟨j, v⟩ := z
          simp only [List.lookup_cons] at h1
          split at h1
          next hij =>
            simp only [beq_iff_eq] at hij
            cases h1
            rw [hij]
            simp
          next => exact List.mem_cons_of_mem _ (ih h1)
      obtain ⟨h2, h3⟩ := hlive _ hmem hi
      rcases h.tmp i _ y h2 hy with h4 | ⟨h4, h5⟩
      · exact .inl (V.ren x y h3 h4)
      · exact .inr ⟨oldV_junk τ x h4, h5⟩
    · subst h1
      have hlt : i < a.tmps.length := by omega
      have hget : a.tmps[i]? = some (a.tmps.getD i undef) := by rw [List.getElem?_eq_getElem hlt, List.getD_eq_getElem?_getD, List.getElem?_eq_getElem hlt]; rfl
      have h2 := h.tmp i _ y hget hy
      generalize a.tmps.getD i undef = z at h2
      rcases h2 with h2 | ⟨h2, h3⟩
      · cases h2 <;> first | exact .inl (.bool _) | exact .inr ⟨rfl, by simp⟩
      · cases z <;> simp only [isJunk, Bool.false_eq_true] at h2
        exact .inr ⟨rfl, h3⟩
  · have := h.defers
    rw [hd] at this
    rw [this.nil_left]
    exact .nil

theorem Near.ren {B : Nat} {w₀ : World} {n : Nat} {ca : Act} {w : World} {a : AAct} {s : St} {φ : Phi} (hos : w.os = w₀.os) (ht : w.tape = w₀.tape) (ho : w.output = w₀.output) (hR : R B w₀ φ s.get w) (hA : VAct B φ a ca) (hd : a.defers = [])
    (hn : a.tmps.length = n) (τ : Names) (live : List (Nat × Value)) (l : List AObj) (hl : AllRen τ s τ l) (hinj : (τ.map (·.1)).Nodup) (hlive : ∀ x ∈ live, x.1 < n → a.tmps[x.1]? = some (oldV τ x.2) ∧ fitsV τ x.2 = true) :
    Near B w₀ n live l ca w := by
  obtain ⟨rest, h1, h2⟩ := hA.ren hd hn hlive
  refine ⟨hos, ht, ho, rest, h1, _, hR.ren (τ := τ) (fun m f e hm => ?_) (fun m m' f e e' hm hm' => ?_), h2⟩
  · obtain ⟨o, h3, h4⟩ := hl.get.2 m f e hm
    exact ⟨o, by rw [memOf_get]; exact h3, h4⟩
  · obtain ⟨l1, l2⟩ := List.getElem?_eq_some_iff.1 hm
    obtain ⟨l3, l4⟩ := List.getElem?_eq_some_iff.1 hm'
    have g1 : (τ.map (·.1))[m]'(by simpa using l1) = (τ.map (·.1))[m']'(by simpa using l3) := by simp [l2, l4]
    exact (List.getElem_inj hinj).1 g1

section
variable {E : Env} {B : Nat} {w₀ : World} (hE : E.Fine B w₀)
include hE

/-- A piece of code, from what is told of a frame and memory to what is told behind it. -/
theorem Near.code {N m n : Nat} {c : Code} (hc : codeOk E.P c = true) {live : List (Nat × Value)} {l : List AObj} {ca : Act} {w : World} {Q : Exit → Act → World → Prop} (h : Near B w₀ n live l ca w)
    (hgo : ∀ rest, (∀ i, dull (rest i) = true) → ∃ x a' s', evalCode E (callN E N m) N c { tmps := tmpsOf n live rest, defers := [] } (memOf l) = some (x, a', s') ∧ (∀ v, x ≠ .panic v) ∧
      ∀ ca' w' e φ, w'.os = w₀.os → w'.tape = w₀.tape → w'.output = w₀.output → R B w₀ φ s'.get w' → VAct B φ a' ca' → XRel B φ x e → Q e ca' w') :
    c.wp E.P Q ca w := by
  obtain ⟨h1, h2, h3, rest, h4, φ, h5, h6⟩ := h
  obtain ⟨x, a', s', g1, g2, g3⟩ := hgo rest h4
  refine evalCode_sim hE (callN_sim hE N m) (draw_sim hE (callN_sim hE N m)) N c hc _ _ x a' s' φ ca w Q g1 h5 (memOf_fresh l) h6 ?_
  intro φ' w' ca' e k1 k2 k3 k4 k5 k6
  refine g3 ca' w' e φ' (k1.os.trans h1) (k1.tape.trans h2) (k1.output.trans h3) k2 ?_ k5
  rcases k6 with k6 | ⟨⟨v, k6⟩, _⟩
  · exact k6
  · exact absurd k6 (g2 v)
end

end Go.Ai

/-
  THE FORKED RUN, 4: a program's own environment; a function from its first to its last step, its loops told by what stays.
-/
set_option linter.unusedSimpArgs false
set_option linter.unusedVariables false
set_option linter.unusedSectionVars false
namespace Go.Ai
open Go RowKit

/-- What a program says of itself. -/
def envOf (P : Program) (old : Addr → Option Value) (known : FuncId → Option (List Value → Option (Bool × Value))) : Env where
  P := P
  desc := P.underlying
  size t := (P.info? t).map (·.size)
  bytes t := (P.info? t).map (·.bytes)
  zero t := match (P.info? t).bind (·.zero) with
    | some z => if flat z then some z else none
    | none => none
  func f := P.funcs[f]?
  old := old
  known := known
  methods _ _ := none

/-- Every function is of a form that the short run knows. -/
def funcsOk (P : Program) : Bool := P.funcs.toList.all fun fn => !(fn.name == "runtime.NumGoroutine") && (match fn.body with | some c => codeOk P c | none => true)

theorem envOf_fine {P : Program} {old : Addr → Option Value} {known : FuncId → Option (List Value → Option (Bool × Value))} {B : Nat} {w₀ : World} (hf : funcsOk P = true) (hm : P.follows .mixedOrders = true) (hg : P.globals.size ≤ B)
    (ho : OldOk B w₀ old)
    (hk : ∀ g F args v, known g = some F → F args = some (true, v) → flatL args = true ∧ flat v = true ∧ ∀ w, (∀ b, b < B → w.heap[b]? = w₀.heap[b]?) → B ≤ w.heap.size → KnownOk P g args v w) : (envOf P old known).Fine B w₀ where
  desc t d h := h
  size t n h := by simpa [envOf] using h
  bytes t n h := by simpa [envOf] using h
  zero t z h := by
    simp only [envOf] at h
    split at h
    next z' hz =>
      split at h
      next hfl =>
        cases h
        cases hi : P.info? t with
        | none => simp [hi] at hz
        | some i => exact ⟨hfl, i, hi, by simpa [hi] using hz⟩
      next => simp at h
    next => simp at h
  old := ho
  func g fn h := by
    have hmem : fn ∈ P.funcs.toList := by
      have := Array.mem_of_getElem? (show P.funcs[g]? = some fn from h)
      simpa using this
    unfold funcsOk at hf
    rw [List.all_eq_true] at hf
    have := hf fn hmem
    simp only [Bool.and_eq_true, Bool.not_eq_true'] at this
    refine ⟨h, this.1, fun c hc => ?_⟩
    have h2 := this.2
    rw [hc] at h2
    exact h2
  known := hk
  globals := hg
  mixed := hm

/-! A sequence's first pieces, and the others. -/
def preSeq : Nat → Code → Code
  | 0, _ => .skip
  | k + 1, .seq a b => .seq a (preSeq k b)
  | _, _ => .ret

def postSeq : Nat → Code → Code
  | 0, c => c
  | k + 1, .seq a b => postSeq k b
  | _, _ => .skip

theorem codeOk_pre {P : Program} : ∀ (k : Nat) (c : Code), codeOk P c = true → codeOk P (preSeq k c) = true ∧ codeOk P (postSeq k c) = true := by
  intro k
  induction k with
  | zero => intro c h; exact ⟨rfl, h⟩
  | succ k ih =>
    intro c h
    cases c with
    | seq a b =>
      simp only [codeOk, Bool.and_eq_true] at h
      obtain ⟨h1, h2⟩ := ih b h.2
      exact ⟨by simp only [preSeq, codeOk, h.1, h1]; rfl, h2⟩
    | _ => exact ⟨rfl, rfl⟩

/-- What the short run came to, told anew. -/
def Tells (x : X) (a' : AAct) (s' : St) (n' : Nat) (live' : List (Nat × Value)) (l' : List AObj) : Prop :=
  x = .normal ∧ a'.defers = [] ∧ a'.tmps.length = n' ∧ ∃ τ : Names, AllRen τ s' τ l' ∧ (τ.map (·.1)).Nodup ∧ ∀ y ∈ live', y.1 < n' → a'.tmps[y.1]? = some (oldV τ y.2) ∧ fitsV τ y.2 = true

/-- A loop, with what is left of it. -/
theorem wp_loop_down {P : Program} {Q : Exit → Act → World → Prop} {c : Code} (J : Nat → Act → World → Prop)
    (h : ∀ r ca w, J r ca w → c.wp P (Exit.then (fun ca' w' => ∃ r', r' < r ∧ J r' ca' w') Q) ca w) {r : Nat} {ca : Act} {w : World} (hJ : J r ca w) : (Code.loop c).wp P Q ca w := by
  refine wp_loop (fun ca w => ∃ r, J r ca w) (fun ca w => leastOf fun r => J r ca w) ⟨r, hJ⟩ ?_
  intro ca w hI
  have hspec := (leastOf_spec hI).1
  refine wp_mono (h _ ca w hspec) ?_
  intro e ca' w' he
  cases e with
  | normal =>
    obtain ⟨r', h1, h2⟩ := he
    exact ⟨⟨r', h2⟩, Nat.lt_of_le_of_lt ((leastOf_spec ⟨r', h2⟩).2 r' h2) h1⟩
  | _ => exact he

/-- At a function's entry. -/
theorem Near.enter {B : Nat} {w : World} (hB : B ≤ w.heap.size) {n : Nat} {args : List Value} {cargs : Array Value} (hv : VL B (fun _ _ => none) args cargs.toList) (hn : args.length ≤ n) :
    Near B w n ((List.range args.length).zip args) [] { tmps := cargs ++ Array.replicate (n - cargs.size) undef, defers := [] } w := by
  have hlen : args.length = cargs.size := by simpa using hv.1
  refine ⟨rfl, rfl, rfl, fun _ => junk, fun _ => rfl, fun _ _ => none, ⟨?_, ?_, ?_, ?_, ?_, ?_, fun _ _ => rfl, hB, ?_⟩, ⟨?_, fun i x y hx hy => ?_, .nil⟩⟩
  · intro _ _ _ h; simp at h
  · intro _ _ _ h; simp at h
  · intro _ _ _ _ _ _ h; simp at h
  · intro _ _ _ _ _ _ _ _ _ h; simp at h
  · intro _ _ _ _ _ h; simp at h
  · intro _ _ _ _ _ _ h; simp at h
  · intro _ _ _ h; simp at h
  · simp only [tmpsOf_length, Array.size_append, Array.size_replicate]; omega
  · obtain ⟨hi, h1 | ⟨h0, h1⟩⟩ := tmpsOf_get _ _ _ _ _ hx
    · left
      have hmem : args[i]? = some x := by
        have key : ∀ (l : List Value) (k : Nat), ((List.range' k l.length).zip l).lookup i = some x → k ≤ i ∧ l[i - k]? = some x := by
          intro l
          induction l with
          | nil => intro k h; simp at h
          | cons v l ih =>
            intro k h
            simp only [List.length_cons, List.range'_succ, List.zip_cons_cons, List.lookup_cons] at h
            split at h
            next hik =>
              simp only [beq_iff_eq] at hik
              subst hik
              exact ⟨Nat.le_refl _, by simpa using h⟩
            next hik =>
              obtain ⟨h2, h3⟩ := ih _ h
              refine ⟨by omega, ?_⟩
              rw [show i - k = (i - (k + 1)) + 1 by omega]
              simpa using h3
        have := key args 0 (by rw [← List.range_eq_range']; exact h1)
        simpa using this.2
      have hlt := (List.getElem?_eq_some_iff.1 hmem).1
      simp only at hy
      rw [Array.getElem?_append_left (by omega)] at hy
      exact hv.2 i x y hmem (by simpa using hy)
    · right
      subst h1
      refine ⟨rfl, fun b hb => ?_⟩
      have hge : args.length ≤ i := by
        rcases Nat.lt_or_ge i args.length with hlt | hge
        · exfalso
          have key : ∀ (l : List Value) (k : Nat), k ≤ i → i - k < l.length → ((List.range' k l.length).zip l).lookup i ≠ none := by
            intro l
            induction l with
            | nil => intro k _ h; simp at h
            | cons v l ih =>
              intro k hk h
              simp only [List.length_cons, List.range'_succ, List.zip_cons_cons, List.lookup_cons]
              split
              next => simp
              next hik =>
                have : i ≠ k := by simpa using hik
                exact ih (k + 1) (by omega) (by simp at h; omega)
          exact key args 0 (Nat.zero_le _) (by simpa using hlt) (by rw [← List.range_eq_range']; exact h0)
        · exact hge
      simp only at hy
      rw [Array.getElem?_append_right (by omega), Array.getElem?_replicate] at hy
      split at hy
      · cases hy; simp [undef] at hb
      · simp at hy

section
variable {E : Env} {B : Nat} {w₀ : World} (hE : E.Fine B w₀) {call : Caller} (hcall : CallOk E B w₀ call)
include hE

include hcall in
/-- The first pieces by the short run, the others otherwise. -/
theorem prefix_wp (N : Nat) : ∀ (k : Nat) (c : Code), codeOk E.P c = true → ∀ (a : AAct) (s : St) (a' : AAct) (s' : St) (φ : Phi) (ca : Act) (w : World) (Q : Exit → Act → World → Prop),
    evalCode E call N (preSeq k c) a s = some (.normal, a', s') → R B w₀ φ s.get w → s.Fresh → VAct B φ a ca →
    (∀ φ' w' ca', Step s.next φ w φ' w' → R B w₀ φ' s'.get w' → s'.Fresh → s.next ≤ s'.next → VAct B φ' a' ca' → (postSeq k c).wp E.P Q ca' w') → c.wp E.P Q ca w := by
  intro k
  induction k with
  | zero =>
    intro c hc a s a' s' φ ca w Q h hR hF hA hgo
    simp only [preSeq, evalCode, Option.some.injEq, Prod.mk.injEq] at h
    obtain ⟨_, rfl, rfl⟩ := h
    exact hgo φ w ca (Step.refl _ _) hR hF (Nat.le_refl _) hA
  | succ k ih =>
    intro c hc a s a' s' φ ca w Q h hR hF hA hgo
    cases c with
    | seq x y =>
      simp only [codeOk, Bool.and_eq_true] at hc
      simp only [preSeq, evalCode] at h
      split at h
      next a₁ s₁ h₁ =>
        refine wp_seq (evalCode_sim hE hcall (draw_sim hE hcall) N x hc.1 a s .normal a₁ s₁ φ ca w _ h₁ hR hF hA ?_)
        intro φ' w' ca' e g1 g2 g3 g4 g5 g6
        cases e <;> simp only [XRel] at g5
        refine ih y hc.2 a₁ s₁ a' s' φ' ca' w' Q h g2 g3 g6.of_normal ?_
        intro φ'' w'' ca'' k1 k2 k3 k4 k5
        exact hgo φ'' w'' ca'' (g1.trans k1) k2 k3 (Nat.le_trans g4 k4) k5
      next r hr => exact absurd h (hr _ _)
    | _ => simp [preSeq, evalCode] at h

/-- From what is told of a frame and memory, over the first pieces of a sequence, to the others. -/
theorem Near.lead {N m n : Nat} (k : Nat) {c : Code} (hc : codeOk E.P c = true) {live : List (Nat × Value)} {l : List AObj} {ca : Act} {w : World} {Q : Exit → Act → World → Prop} (h : Near B w₀ n live l ca w)
    {n' : Nat} {live' : List (Nat × Value)} {l' : List AObj}
    (hgo : ∀ rest, (∀ i, dull (rest i) = true) → ∃ x a' s', evalCode E (callN E N m) N (preSeq k c) { tmps := tmpsOf n live rest, defers := [] } (memOf l) = some (x, a', s') ∧ Tells x a' s' n' live' l')
    (hn : ∀ ca' w', Near B w₀ n' live' l' ca' w' → (postSeq k c).wp E.P Q ca' w') : c.wp E.P Q ca w := by
  obtain ⟨h1, h2, h3, rest, h4, φ, h5, h6⟩ := h
  obtain ⟨x, a', s', g1, rfl, g3, g4, τ, g5, g6, g7⟩ := hgo rest h4
  refine prefix_wp hE (callN_sim hE N m) N k c hc _ _ a' s' φ ca w Q g1 h5 (memOf_fresh l) h6 ?_
  intro φ' w' ca' k1 k2 k3 k4 k5
  exact hn ca' w' (Near.ren (k1.os.trans h1) (k1.tape.trans h2) (k1.output.trans h3) k2 k5 g3 g4 τ live' l' g5 g6 g7)

/-- To a function's end. -/
theorem Near.leave {N m n : Nat} {fn : Func} {c : Code} (hc : codeOk E.P c = true) {live : List (Nat × Value)} {l : List AObj} {ca : Act} {w : World} {v : Value} (hfl : flat v = true) (h : Near B w₀ n live l ca w) {R' : Ending → World → Prop}
    (hgo : ∀ rest, (∀ i, dull (rest i) = true) → ∃ x a' s', evalCode E (callN E N m) N c { tmps := tmpsOf n live rest, defers := [] } (memOf l) = some (x, a', s') ∧ (x = .normal ∨ x = .ret) ∧ a'.defers = [] ∧ aRet E fn a'.tmps s' = some v)
    (hR : ∀ w', w'.os = w₀.os → w'.tape = w₀.tape → w'.output = w₀.output → B ≤ w'.heap.size → (∀ b, b < B → w'.heap[b]? = w₀.heap[b]?) → R' (.returned v) w') : c.wp E.P (bodyPostD E.P fn R') ca w := by
  obtain ⟨h1, h2, h3, rest, h4, φ, h5, h6⟩ := h
  obtain ⟨x, a', s', g1, g2, g3, g4⟩ := hgo rest h4
  refine evalCode_sim hE (callN_sim hE N m) (draw_sim hE (callN_sim hE N m)) N c hc _ _ x a' s' φ ca w _ g1 h5 (memOf_fresh l) h6 ?_
  intro φ' w' ca' e k1 k2 k3 k4 k5 k6
  have hA : VAct B φ' a' ca' := by
    rcases k6 with k6 | ⟨⟨v, k6⟩, _⟩
    · exact k6
    · rcases g2 with rfl | rfl <;> simp at k6
  have hd : ca'.defers = [] := by
    have := hA.defers
    rw [g3] at this
    exact this.nil_left
  have hl : Leaves E.P fn ca'.tmps R' ca'.defers .returning w' := by
    rw [hd]
    obtain ⟨v', r1, r2⟩ := ret_sim hE k2 hA g4
    obtain rfl := r2.flat_right hfl
    exact ⟨_, r1, hR w' (k1.os.trans h1) (k1.tape.trans h2) (k1.output.trans h3) k2.size k2.old⟩
  rcases g2 with rfl | rfl
  · cases e <;> simp only [XRel] at k5
    exact hl
  · cases e <;> simp only [XRel] at k5
    exact hl

end

end Go.Ai

/-
  THE FORKED RUN, 5: what the kernel computes of a piece of code, told; calls that are run to their end.
-/
set_option linter.unusedSimpArgs false
set_option linter.unusedVariables false
set_option linter.unusedSectionVars false
namespace Go.Ai
open Go RowKit

def isNormal : X → Bool
  | .normal => true
  | _ => false

def isExit (id : Nat) : X → Bool
  | .exit i => i == id
  | _ => false

def isRet : X → Bool
  | .ret => true
  | _ => false

/-- A gaze at what a piece of code came to: how it ended, some temporaries, some of memory. -/
def gaze (p : X → Bool) (is fs : List Nat) (r : X × AAct × St) : Bool × Bool × Nat × List (Option Value) × List (Option AObj) :=
  (p r.1, r.2.1.defers.isEmpty, r.2.1.tmps.length, is.map (r.2.1.tmps[·]?), fs.map r.2.2.get)

/-- Objects, told anew. -/
def RenL (τ : Names) : Names → List (Option AObj) → List AObj → Prop
  | [], [], [] => True
  | (f, e) :: t, x :: xs, o :: l => ObjRen τ e x o ∧ RenL τ t xs l
  | _, _, _ => False

theorem RenL.all {τ : Names} {s : St} : ∀ {t : Names} {xs : List (Option AObj)} {l : List AObj}, RenL τ t xs l → (t.map (·.1)).map s.get = xs → AllRen τ s t l
  | [], [], [], _, _ => trivial
  | (f, e) :: t, x :: xs, o :: l, h, hx => by
      simp only [List.map_cons, List.cons.injEq] at hx
      obtain ⟨rfl, hx⟩ := hx
      exact ⟨h.1, RenL.all h.2 hx⟩
  | [], _ :: _, _, h, _ => by simp [RenL] at h
  | [], [], _ :: _, h, _ => by simp [RenL] at h
  | _ :: _, [], _, h, _ => by simp [RenL] at h
  | _ :: _, _ :: _, [], h, _ => by simp [RenL] at h

/-- Temporaries, told anew. -/
def LiveL (τ : Names) : List (Nat × Value) → List (Option Value) → Prop
  | [], [] => True
  | y :: live, v :: vs => v = some (oldV τ y.2) ∧ fitsV τ y.2 = true ∧ LiveL τ live vs
  | _, _ => False

theorem LiveL.all {τ : Names} {tmps : List Value} : ∀ {live : List (Nat × Value)} {vs : List (Option Value)}, LiveL τ live vs → (live.map (·.1)).map (tmps[·]?) = vs → ∀ y ∈ live, tmps[y.1]? = some (oldV τ y.2) ∧ fitsV τ y.2 = true
  | [], [], _, _ => by simp
  | y :: live, v :: vs, h, hx => by
      simp only [List.map_cons, List.cons.injEq] at hx
      obtain ⟨hx1, hx⟩ := hx
      obtain ⟨h1, h2, h3⟩ := h
      intro z hz
      rcases List.mem_cons.1 hz with rfl | hz
      · exact ⟨hx1.trans h1, h2⟩
      · exact LiveL.all h3 hx z hz
  | [], _ :: _, h, _ => by simp [LiveL] at h
  | _ :: _, [], h, _ => by simp [LiveL] at h

theorem Tells.of_gaze {x : X} {a' : AAct} {s' : St} {n' : Nat} {vs : List (Option Value)} {os : List (Option AObj)} (τ : Names) (live' : List (Nat × Value)) (l' : List AObj)
    (h : gaze isNormal (live'.map (·.1)) (τ.map (·.1)) (x, a', s') = (true, true, n', vs, os)) (hv : LiveL τ live' vs) (ho : RenL τ τ os l') (hn : (τ.map (·.1)).Nodup) : Tells x a' s' n' live' l' := by
  simp only [gaze, Prod.mk.injEq] at h
  obtain ⟨h1, h2, h3, h4, h5⟩ := h
  refine ⟨?_, by simpa using h2, h3, τ, ho.all h5, hn, fun y hy _ => hv.all h4 y hy⟩
  cases x <;> simp only [isNormal, Bool.false_eq_true] at h1
  rfl

theorem Tells.of_gaze_exit {id : Nat} {x : X} {a' : AAct} {s' : St} {n' : Nat} {vs : List (Option Value)} {os : List (Option AObj)} (τ : Names) (live' : List (Nat × Value)) (l' : List AObj)
    (h : gaze (isExit id) (live'.map (·.1)) (τ.map (·.1)) (x, a', s') = (true, true, n', vs, os)) (hv : LiveL τ live' vs) (ho : RenL τ τ os l') (hn : (τ.map (·.1)).Nodup) : x = .exit id ∧ Tells .normal a' s' n' live' l' := by
  simp only [gaze, Prod.mk.injEq] at h
  obtain ⟨h1, h2, h3, h4, h5⟩ := h
  refine ⟨?_, rfl, by simpa using h2, h3, τ, ho.all h5, hn, fun y hy _ => hv.all h4 y hy⟩
  cases x <;> simp only [isExit, Bool.false_eq_true, beq_iff_eq] at h1
  rw [h1]

theorem oks_nil : ∀ x ∈ ([] : List Ob), x.ok := by simp
theorem oks_cons {x : Ob} {l : List Ob} (h : x.ok) (hl : ∀ y ∈ l, y.ok) : ∀ y ∈ x :: l, y.ok := by
  intro y hy
  rcases List.mem_cons.1 hy with rfl | hy
  · exact h
  · exact hl y hy
theorem oks_append {l m : List Ob} (hl : ∀ y ∈ l, y.ok) (hm : ∀ y ∈ m, y.ok) : ∀ y ∈ l ++ m, y.ok := by
  intro y hy
  rcases List.mem_append.1 hy with hy | hy
  · exact hl y hy
  · exact hm y hy
theorem oks_replicate {n : Nat} {x : Ob} (h : x.ok) : ∀ y ∈ List.replicate n x, y.ok := by
  intro y hy
  rw [(List.mem_replicate.1 hy).2]
  exact h

/-- Whole numbers in their bounds. -/
theorem wrap_i64 {n : Int} (h1 : -(2 ^ 63) ≤ n) (h2 : n < 2 ^ 63) : IntKind.i64.wrap n = n := by
  unfold IntKind.wrap
  simp only [IntKind.signed, IntKind.bits, Bool.true_and]
  split
  next h => have := of_decide_eq_true h; omega
  next h => simp only [decide_eq_true_eq, ge_iff_le, Int.not_le] at h; omega

theorem wrap_u64 {n : Int} (h1 : 0 ≤ n) (h2 : n < 2 ^ 64) : IntKind.u64.wrap n = n := by
  unfold IntKind.wrap
  simp only [IntKind.signed, IntKind.bits, Bool.false_and]
  split
  next h => simp at h
  next h => omega

section
variable {E : Env} {B : Nat} {w₀ : World} (hE : E.Fine B w₀)
include hE

/-- A loop's round, or its end: from what is told to what is told. -/
theorem Near.round {N m n : Nat} {c : Code} (hc : codeOk E.P c = true) {live : List (Nat × Value)} {l : List AObj} {ca : Act} {w : World} {Q : Exit → Act → World → Prop} (h : Near B w₀ n live l ca w)
    (hgo : ∀ rest, (∀ i, dull (rest i) = true) → ∃ x a' s', evalCode E (callN E N m) N c { tmps := tmpsOf n live rest, defers := [] } (memOf l) = some (x, a', s') ∧
      ((∃ n' live' l', Tells x a' s' n' live' l' ∧ ∀ ca' w', Near B w₀ n' live' l' ca' w' → Q .normal ca' w') ∨
       (∃ id n' live' l', x = .exit id ∧ Tells .normal a' s' n' live' l' ∧ ∀ ca' w', Near B w₀ n' live' l' ca' w' → Q (.exit id) ca' w'))) :
    c.wp E.P Q ca w := by
  refine Near.code (N := N) (m := m) hE hc h fun rest hrest => ?_
  obtain ⟨x, a', s', h1, h2⟩ := hgo rest hrest
  rcases h2 with ⟨n', live', l', ⟨rfl, g3, g4, τ, g5, g6, g7⟩, h3⟩ | ⟨id, n', live', l', rfl, ⟨_, g3, g4, τ, g5, g6, g7⟩, h3⟩
  · refine ⟨_, a', s', h1, by simp, fun ca' w' e φ k1 k2 k3 k4 k5 k6 => ?_⟩
    cases e <;> simp only [XRel] at k6
    exact h3 ca' w' (Near.ren k1 k2 k3 k4 k5 g3 g4 τ live' l' g5 g6 g7)
  · refine ⟨_, a', s', h1, by simp, fun ca' w' e φ k1 k2 k3 k4 k5 k6 => ?_⟩
    cases e <;> simp only [XRel] at k6
    subst k6
    exact h3 ca' w' (Near.ren k1 k2 k3 k4 k5 g3 g4 τ live' l' g5 g6 g7)
end

theorem V.widen {B B' : Nat} {x y : Value} (h : V B (fun _ _ => none) x y) (hB : B ≤ B') (φ : Phi) : V B' φ x y := by
  induction h with
  | bool b => exact .bool b
  | int k n => exact .int k n
  | float k b => exact .float k b
  | complex k a b => exact .complex k a b
  | string s => exact .string s
  | nilFunc => exact .nilFunc
  | nilIface => exact .nilIface
  | pnil => exact .pnil
  | pold a h hs => exact .pold a (Nat.lt_of_lt_of_le h hB) hs
  | pnew f off e k h => simp at h
  | snil l c => exact .snil l c
  | sold a l c h hs => exact .sold a l c (Nat.lt_of_lt_of_le h hB) hs
  | snew f off e l k h => simp at h
  | sfix f off e l c k h => simp at h
  | snone f off e o k h => simp at h
  | mnil => exact .mnil
  | mnew f k h => simp at h
  | cnil => exact .cnil
  | iface t _ ih => exact .iface t ih
  | func fn hs hi hs' hi' ih ih' => exact .func fn hs ih hs' ih'
  | agg hs hi ih => exact .agg hs ih
  | tuple hs hi ih => exact .tuple hs ih

/-- A call without an address in its arguments and its answer, run to its end in an empty memory, is known wherever it stands. -/
theorem calls_of_run {P : Program} {old : Addr → Option Value} {known : FuncId → Option (List Value → Option (Bool × Value))} {B : Nat} {w₀ : World} (hf : funcsOk P = true) (hm : P.follows .mixedOrders = true) (hg : P.globals.size ≤ B) (ho : OldOk B w₀ old)
    (hk : ∀ g F args v, known g = some F → F args = some (true, v) → flatL args = true ∧ flat v = true ∧ ∀ w, (∀ b, b < B → w.heap[b]? = w₀.heap[b]?) → B ≤ w.heap.size → KnownOk P g args v w) {N m : Nat} {g : FuncId} {args : List Value} {v : Value} {s' : St}
    (hfa : flatL args = true) (hfv : flat v = true) (h : callN (envOf P old known) N m g args .empty = some (.ok v, s')) (w : World) (hw : ∀ b, b < B → w.heap[b]? = w₀.heap[b]?) (hs : B ≤ w.heap.size) : (callFunc g args.toArray).run P w = .ok (.enter g args.toArray) w ∧ Calls P g args.toArray w fun e w' => e = .returned v ∧ Grew w w' := by
  have ho' : OldOk w.heap.size w old := fun a x hx => by
    obtain ⟨h1, h2, h3⟩ := ho a x hx
    refine ⟨by omega, ?_, fun φ => ?_⟩
    · rw [← h2]
      exact cell_of_block (hw _ h1)
    · have h4 := h3 (fun _ _ => none)
      exact V.widen h4 hs φ
  have hE : (envOf P old known).Fine w.heap.size w := envOf_fine hf hm (by omega) ho' (fun g F args v h1 h2 => by
    obtain ⟨k1, k2, k3⟩ := hk g F args v h1 h2
    refine ⟨k1, k2, fun w' hw' hs' => k3 w' (fun b hb => ?_) (by omega)⟩
    rw [hw' b (by omega), hw b hb])
  have hc := callN_sim hE N m
  obtain ⟨⟨fn, f1, f2, f3⟩, hcall⟩ := hc g args .empty _ s' h
  refine ⟨run_callFunc hE f1 f2 f3 _ w, ?_⟩
  have hR : R w.heap.size w (fun _ _ => none) St.empty.get w :=
    ⟨fun _ _ _ h => by simp at h, fun _ _ _ h => by simp at h, fun _ _ _ _ _ _ h => by simp at h, fun _ _ _ _ _ _ _ _ _ h => by simp at h, fun _ _ _ _ _ h => by simp at h, fun _ _ _ _ _ _ h => by simp at h,
      fun _ _ => rfl, Nat.le_refl _, fun _ _ _ h => by simp at h⟩
  refine (hcall _ w args hR (memOf_fresh []) (VL.refl_of_flat' hfa)).mono ?_
  rintro e w' ⟨φ', g1, g2, g3, g4, g5⟩
  cases e with
  | returned v' =>
    have := V.flat_right g5 hfv
    subst this
    refine ⟨rfl, fun b hb => g2.old b hb, g2.size, g1.os, g1.tape, g1.output⟩
  | panicked c => exact g5.elim
  | outgrown => exact g5.elim

theorem known_of_run {P : Program} {old : Addr → Option Value} {B : Nat} {w₀ : World} (hf : funcsOk P = true) (hm : P.follows .mixedOrders = true) (hg : P.globals.size ≤ B) (ho : OldOk B w₀ old) {N m : Nat} {g : FuncId} {args : List Value} {v : Value} {s' : St}
    (hfa : flatL args = true) (hfv : flat v = true) (h : callN (envOf P old (fun _ => none)) N m g args .empty = some (.ok v, s')) (w : World) (hw : ∀ b, b < B → w.heap[b]? = w₀.heap[b]?) (hs : B ≤ w.heap.size) : KnownOk P g args v w :=
  .inr (calls_of_run hf hm hg ho (by simp) hfa hfv h w hw hs)

end Go.Ai

/-
  THE FORKED RUN, 6: loops, told by what each round does.
-/
set_option linter.unusedSimpArgs false
set_option linter.unusedVariables false
set_option linter.unusedSectionVars false
namespace Go.Ai
open Go RowKit

theorem lookup_mem {l : List (Nat × Value)} {i : Nat} {v : Value} (h : l.lookup i = some v) : (i, v) ∈ l := by
  induction l with
  | nil => simp at h
  | cons y l ih =>
    obtain ⟨j, w⟩ := y
    simp only [List.lookup_cons] at h
    split at h
    next hij =>
      simp only [beq_iff_eq] at hij
      cases h
      rw [hij]
      simp
    next => exact List.mem_cons_of_mem _ (ih h)

/-- Temporaries of which some are told. -/
theorem tmps_told {tmps : List Value} {n : Nat} {live : List (Nat × Value)} (hl : tmps.length = n) (h : ∀ y ∈ live, tmps[y.1]? = some y.2) : tmps = tmpsOf n live (fun i => tmps.getD i undef) := by
  apply List.ext_getElem?
  intro i
  unfold tmpsOf
  rw [List.getElem?_map]
  by_cases hi : i < n
  · rw [List.getElem?_range hi]
    simp only [Option.map_some]
    split
    next v hv => exact h _ (lookup_mem hv)
    next => rw [List.getElem?_eq_getElem (by omega), List.getD_eq_getElem?_getD, List.getElem?_eq_getElem (by omega)]; rfl
  · rw [List.getElem?_eq_none (by omega), List.getElem?_eq_none (by simp; omega)]; rfl

/-- How a piece of code ended. -/
inductive XK where
  | normal
  | exit (id : Nat)
  | ret
  | panic (v : Value)

def XK.x : XK → X
  | .normal => .normal
  | .exit id => .exit id
  | .ret => .ret
  | .panic v => .panic v

/-- A look at how a piece of code ended and at some temporaries. -/
def look (is : List Nat) (r : X × AAct) : X × List Deferred × Nat × List (Option Value) := (r.1, r.2.defers, r.2.tmps.length, is.map (r.2.tmps[·]?))

theorem of_look {is : List Nat} {x x' : X} {a : AAct} {d : List Deferred} {n : Nat} {vs : List Value} (h : look is (x, a) = (x', d, n, vs.map some)) (hl : is.length = vs.length) :
    x = x' ∧ a = { tmps := tmpsOf n (is.zip vs) (fun i => a.tmps.getD i undef), defers := d } := by
  simp only [look, Prod.mk.injEq] at h
  obtain ⟨h1, h2, h3, h4⟩ := h
  refine ⟨h1, ?_⟩
  obtain ⟨tmps, defers⟩ := a
  simp only at h2 h3 h4
  subst h2
  rw [← tmps_told h3]
  intro y hy
  obtain ⟨i, hi⟩ := List.mem_iff_getElem?.1 hy
  rw [List.getElem?_zip_eq_some] at hi
  have := congrArg (·[i]?) h4
  simp only [List.getElem?_map, hi.1, hi.2, Option.map_some, Option.some.injEq] at this
  exact this

theorem iter_rule {f : AAct → St → Option (X × AAct × St)} (J : Nat → AAct → St → Prop) (Q : X → AAct → St → Prop)
    (round : ∀ r a s, J r a s → ∃ x a' s', f a s = some (x, a', s') ∧ ((x = .normal ∧ ∃ r', r' < r ∧ J r' a' s') ∨ (x ≠ .normal ∧ Q x a' s'))) : ∀ n r a s, J r a s → r < n → ∃ x a' s', iter f n a s = some (x, a', s') ∧ Q x a' s' := by
  intro n
  induction n with
  | zero => intro r a s _ h; omega
  | succ n ih =>
    intro r a s hJ hn
    obtain ⟨x, a', s', h1, h2⟩ := round r a s hJ
    simp only [iter, h1]
    rcases h2 with ⟨rfl, r', hr, hJ'⟩ | ⟨hx, hQ⟩
    · exact ih r' a' s' hJ' (by omega)
    · cases x with
      | normal => exact absurd rfl hx
      | _ => exact ⟨_, _, _, rfl, hQ⟩

/-- A loop of so many rounds. -/
theorem loop_ok {E : Env} {call : Caller} {N : Nat} {c : Code} {m : Nat} {d : List Deferred} {s₀ : St} {old : List Nat} (K : Nat) (hK : K < N) (live : Nat → List (Nat × Value)) (now : Nat → Cache) {x : X} (hx : x ≠ .normal) {live' : List (Nat × Value)} {now' : Cache}
    (h0 : After s₀ s₀ old (now 0))
    (round : ∀ k, k < K → ∀ rest s, After s₀ s old (now k) → ∃ rest' s', evalCode E call N c { tmps := tmpsOf m (live k) rest, defers := d } s = some (.normal, { tmps := tmpsOf m (live (k + 1)) rest', defers := d }, s') ∧ After s s' (keysOf (now k)) (now (k + 1)))
    (last : ∀ rest s, After s₀ s old (now K) → ∃ rest' s', evalCode E call N c { tmps := tmpsOf m (live K) rest, defers := d } s = some (x, { tmps := tmpsOf m live' rest', defers := d }, s') ∧ After s s' (keysOf (now K)) now') :
    ∀ rest, ∃ rest' s', evalCode E call N (.loop c) { tmps := tmpsOf m (live 0) rest, defers := d } s₀ = some (x, { tmps := tmpsOf m live' rest', defers := d }, s') ∧ After s₀ s' old now' := by
  intro rest
  have := iter_rule (f := evalCode E call N c) (fun r a s => ∃ k rest, k ≤ K ∧ r = K - k ∧ a = { tmps := tmpsOf m (live k) rest, defers := d } ∧ After s₀ s old (now k))
    (fun x' a' s' => x' = x ∧ ∃ rest', a' = { tmps := tmpsOf m live' rest', defers := d } ∧ After s₀ s' old now') (by
      rintro r a s ⟨k, rest, hk, rfl, rfl, hA⟩
      by_cases hlt : k < K
      · obtain ⟨rest', s', h1, h2⟩ := round k hlt rest s hA
        exact ⟨_, _, _, h1, .inl ⟨rfl, K - (k + 1), by omega, k + 1, rest', by omega, rfl, rfl, hA.trans h2 fun f hf => hf⟩⟩
      · obtain rfl : k = K := by omega
        obtain ⟨rest', s', h1, h2⟩ := last rest s hA
        exact ⟨_, _, _, h1, .inr ⟨hx, rfl, rest', rfl, hA.trans h2 fun f hf => hf⟩⟩) N K _ s₀ ⟨0, rest, Nat.zero_le _, rfl, rfl, h0⟩ hK
  obtain ⟨x', a', s', h1, rfl, rest', rfl, h2⟩ := this
  exact ⟨rest', s', h1, h2⟩

/-- A loop, told by what is known at each round and what grows less. -/
theorem loop_pi {π : Type} {E : Env} {call : Caller} {N : Nat} {c : Code} {m : Nat} {d : List Deferred} {s₀ : St} {old : List Nat} (live : π → List (Nat × Value)) (now : π → Cache) (μ : π → Nat) (I : π → Prop) {x : X} (hx : x ≠ .normal) {live' : List Nat → List (Nat × Value)} {now' : List Nat → Cache}
    (round : ∀ p, I p → ∀ rest s, After s₀ s old (now p) →
      (∃ p' rest' s', I p' ∧ μ p' < μ p ∧ evalCode E call N c { tmps := tmpsOf m (live p) rest, defers := d } s = some (.normal, { tmps := tmpsOf m (live p') rest', defers := d }, s') ∧ After s s' (keysOf (now p)) (now p')) ∨
      (∃ nk rest' s', evalCode E call N c { tmps := tmpsOf m (live p) rest, defers := d } s = some (x, { tmps := tmpsOf m (live' nk) rest', defers := d }, s') ∧ After s s' (keysOf (now p)) (now' nk)))
    (p₀ : π) (h0 : I p₀) (hμ : μ p₀ < N) (hA : After s₀ s₀ old (now p₀)) :
    ∀ rest, ∃ nk rest' s', evalCode E call N (.loop c) { tmps := tmpsOf m (live p₀) rest, defers := d } s₀ = some (x, { tmps := tmpsOf m (live' nk) rest', defers := d }, s') ∧ After s₀ s' old (now' nk) := by
  intro rest
  have := iter_rule (f := evalCode E call N c) (fun r a s => ∃ p rest, I p ∧ r = μ p ∧ a = { tmps := tmpsOf m (live p) rest, defers := d } ∧ After s₀ s old (now p))
    (fun x' a' s' => x' = x ∧ ∃ nk rest', a' = { tmps := tmpsOf m (live' nk) rest', defers := d } ∧ After s₀ s' old (now' nk)) (by
      rintro r a s ⟨p, rest, hp, rfl, rfl, hA⟩
      rcases round p hp rest s hA with ⟨p', rest', s', h1, h2, h3, h4⟩ | ⟨nk, rest', s', h3, h4⟩
      · exact ⟨_, _, _, h3, .inl ⟨rfl, μ p', h2, p', rest', h1, rfl, rfl, hA.trans h4 fun f hf => hf⟩⟩
      · exact ⟨_, _, _, h3, .inr ⟨hx, rfl, nk, rest', rfl, hA.trans h4 fun f hf => hf⟩⟩) N (μ p₀) _ s₀ ⟨p₀, rest, h0, rfl, rfl, hA⟩ hμ
  obtain ⟨x', a', s', h1, rfl, nk, rest', rfl, h2⟩ := this
  exact ⟨nk, rest', s', h1, h2⟩

/-- A piece of code, from what is told to what is told. -/
theorem round_by {E : Env} {N n : Nat} {c : Code} {a : AAct} {s : St} {ov : Cache} (hov : Holds s ov) (p : List Ev) (is : List Nat) {x : X} {d : List Deferred} {m : Nat} {live' : List (Nat × Value)} {now : Cache}
    (h : ((codeT E (callN E N n) (callNT E N n) N c a s fun x a' s' => .now s' (.ret (x, a', s'))).follow p [(s, ov, true)] []).map (fun z => ((isNodup is, look (live'.map (·.1)) (z.1.1, z.1.2.1), z.2.1.head?.map fun t => picks is t.2.1), (z.2.1.head?.map (·.1) :: z.2.2.map (fun _ => none), z.2.2.map Ob.flip))) =
      some ((true, (x, d, m, live'.map fun y => some y.2), some now), (((codeT E (callN E N n) (callNT E N n) N c a s fun x a' s' => .now s' (.ret (x, a', s'))).follow p [(s, ov, true)] []).map fun z => ((some z.1.2.2 : Option St) :: z.2.2.map (fun _ => none), z.2.2)).getD ([], []))) :
    ∃ rest' s', evalCode E (callN E N n) N c a s = some (x, { tmps := tmpsOf m live' rest', defers := d }, s') ∧ After s s' (keysOf ov) now := by
  obtain ⟨x', a', s', h1, h2, h3⟩ := code_by hov p is (look (live'.map (·.1))) h
  have h2 : look (live'.map (·.1)) (x', a') = (x, d, m, (live'.map (·.2)).map some) := by rw [h2, List.map_map]; rfl
  obtain ⟨rfl, h4⟩ := of_look h2 (by simp)
  have hz : (live'.map (·.1)).zip (live'.map (·.2)) = live' := by
    rw [List.zip_map']
    exact List.map_id _
  rw [hz] at h4
  exact ⟨_, s', by rw [← h4]; exact h1, h3⟩

theorem fnv_by {E : Env} {N n : Nat} {g : FuncId} {args : List Value} {s : St} {ov : Cache} (hov : Holds s ov) (p : List Ev) (is : List Nat) {β : Type} (f : Ret → β) {r : β} {now : Cache}
    (h : ((fnT E (callN E N n) (callNT E N n) N g args s fun x s' => .now s' (.ret (x, s'))).follow p [(s, ov, true)] []).map (fun z => ((isNodup is, f z.1.1, z.2.1.head?.map fun t => picks is t.2.1), (z.2.1.head?.map (·.1) :: z.2.2.map (fun _ => none), z.2.2.map Ob.flip))) =
      (((fnT E (callN E N n) (callNT E N n) N g args s fun x s' => .now s' (.ret (x, s'))).follow p [(s, ov, true)] []).map fun z => ((true, r, some now), ((some z.1.2 : Option St) :: z.2.2.map (fun _ => none), z.2.2))))
    (hs : ((fnT E (callN E N n) (callNT E N n) N g args s fun x s' => .now s' (.ret (x, s'))).follow p [(s, ov, true)] []).isSome = true) :
    ∃ x s', callN E N (n + 1) g args s = some (x, s') ∧ f x = r ∧ After s s' (keysOf ov) now := by
  obtain ⟨w, hf⟩ := Option.isSome_iff_exists.1 hs
  have hw : f w.1.1 = r := by
    simp only [hf, Option.map_some, Option.some.injEq, Prod.mk.injEq] at h
    exact h.1.2.1
  obtain ⟨s', h1, h2⟩ := fn_by (E := E) (N := N) (n := n) (g := g) (args := args) hov p is (x := w.1.1) (now := now) (by
    simp only [hf, Option.map_some, Option.getD_some] at h ⊢
    obtain ⟨g1, g2⟩ := Prod.mk.inj (Option.some.inj h)
    obtain ⟨g3, g4⟩ := Prod.mk.inj g1
    obtain ⟨g5, g6⟩ := Prod.mk.inj g4
    rw [g3, g6, g2])
  exact ⟨_, s', h1, hw, h2⟩

/-- A whole number of a kind is answered. -/
def isInt (k : IntKind) : Ret → Bool
  | .ok (.int k' _) => decide (k = k')
  | _ => false

theorem isInt_ok {k : IntKind} {x : Ret} (h : isInt k x = true) : ∃ v, x = .ok (.int k v) := by
  unfold isInt at h
  split at h
  · rename_i k' v
    obtain rfl : k = k' := of_decide_eq_true h
    exact ⟨v, rfl⟩
  · simp at h

theorem fnk_by {E : Env} {N n : Nat} {g : FuncId} {args : List Value} {s : St} {ov : Cache} (hov : Holds s ov) (p : List Ev) (js is : List Nat) {x : List Nat → Ret} {now : List Nat → Cache}
    (h : ((fnT E (callN E N n) (callNT E N n) N g args s fun x s' => .now s' (.ret (x, s'))).follow p [(s, ov, true)] []).map (fun z => ((isNodup is, z.1.1, z.2.1.head?.map fun t => picks is t.2.1), (z.2.1.head?.map (·.1) :: z.2.2.map (fun _ => none), z.2.2.map Ob.flip))) =
      (((fnT E (callN E N n) (callNT E N n) N g args s fun x s' => .now s' (.ret (x, s'))).follow p [(s, ov, true)] []).map fun z => ((true, x (keysAt js ((z.2.1.head?.map (·.2.1)).getD [])), some (now (keysAt js ((z.2.1.head?.map (·.2.1)).getD [])))), ((some z.1.2 : Option St) :: z.2.2.map (fun _ => none), z.2.2))))
    (hs : ((fnT E (callN E N n) (callNT E N n) N g args s fun x s' => .now s' (.ret (x, s'))).follow p [(s, ov, true)] []).isSome = true) :
    ∃ nk s', callN E N (n + 1) g args s = some (x nk, s') ∧ After s s' (keysOf ov) (now nk) := by
  obtain ⟨w, hf⟩ := Option.isSome_iff_exists.1 hs
  refine ⟨keysAt js ((w.2.1.head?.map (·.2.1)).getD []), fn_by hov p is ?_⟩
  simp only [hf, Option.map_some, Option.getD_some] at h ⊢
  exact h

theorem roundk_by {E : Env} {N n : Nat} {c : Code} {a : AAct} {s : St} {ov : Cache} (hov : Holds s ov) (p : List Ev) (js is : List Nat) {x : X} {d : List Deferred} {m : Nat} {live' : List Nat → List (Nat × Value)} {now : List Nat → Cache}
    (h : ((codeT E (callN E N n) (callNT E N n) N c a s fun x a' s' => .now s' (.ret (x, a', s'))).follow p [(s, ov, true)] []).map (fun z => ((isNodup is, look ((live' (keysAt js ((z.2.1.head?.map (·.2.1)).getD []))).map (·.1)) (z.1.1, z.1.2.1), z.2.1.head?.map fun t => picks is t.2.1), (z.2.1.head?.map (·.1) :: z.2.2.map (fun _ => none), z.2.2.map Ob.flip))) =
      (((codeT E (callN E N n) (callNT E N n) N c a s fun x a' s' => .now s' (.ret (x, a', s'))).follow p [(s, ov, true)] []).map fun z => ((true, (x, d, m, (live' (keysAt js ((z.2.1.head?.map (·.2.1)).getD []))).map fun y => some y.2), some (now (keysAt js ((z.2.1.head?.map (·.2.1)).getD [])))), ((some z.1.2.2 : Option St) :: z.2.2.map (fun _ => none), z.2.2))))
    (hs : ((codeT E (callN E N n) (callNT E N n) N c a s fun x a' s' => .now s' (.ret (x, a', s'))).follow p [(s, ov, true)] []).isSome = true) :
    ∃ nk rest' s', evalCode E (callN E N n) N c a s = some (x, { tmps := tmpsOf m (live' nk) rest', defers := d }, s') ∧ After s s' (keysOf ov) (now nk) := by
  obtain ⟨w, hf⟩ := Option.isSome_iff_exists.1 hs
  refine ⟨keysAt js ((w.2.1.head?.map (·.2.1)).getD []), round_by hov p is ?_⟩
  simp only [hf, Option.map_some, Option.getD_some] at h ⊢
  exact h

theorem wrap_u8 {n : Int} (h1 : 0 ≤ n) (h2 : n < 2 ^ 8) : IntKind.u8.wrap n = n := by
  unfold IntKind.wrap
  simp only [IntKind.signed, IntKind.bits, Bool.false_and]
  split
  next h => simp at h
  next h => omega

theorem wrap_u32 {n : Int} (h1 : 0 ≤ n) (h2 : n < 2 ^ 32) : IntKind.u32.wrap n = n := by
  unfold IntKind.wrap
  simp only [IntKind.signed, IntKind.bits, Bool.false_and]
  split
  next h => simp at h
  next h => omega

end Go.Ai

/-
  THE FORKED RUN, 7: rows of whole numbers of 32 bits; other small helps.
-/
set_option linter.unusedSimpArgs false
set_option linter.unusedVariables false
set_option linter.unusedSectionVars false
namespace Go.Ai
open Go RowKit

/-- The first loop of a piece of code, and the next one behind it. -/
def loopIn : Code → Option Code
  | .loop c => some c
  | .seq a b => (loopIn a).or (loopIn b)
  | .cond _ a b => (loopIn a).or (loopIn b)
  | .block _ a => loopIn a
  | .scope a => loopIn a
  | _ => none

/-- All loops of a piece of code that are not in others. -/
def loopsIn : Code → List Code
  | .loop c => [c]
  | .seq a b => loopsIn a ++ loopsIn b
  | .cond _ a b => loopsIn a ++ loopsIn b
  | .block _ a => loopsIn a
  | .scope a => loopsIn a
  | _ => []

noncomputable def bodyIn (P : Program) (g : FuncId) : Code := match P.funcs[g]? with
  | some f => f.body.getD .skip
  | none => .skip

noncomputable def loopAt (P : Program) (g : FuncId) (i : Nat) : Code := (loopsIn (bodyIn P g)).getD i .skip

def isU : Value → Prop
  | .int .u32 z => 0 ≤ z ∧ z < 2 ^ 32
  | _ => False

/-- Cells of whole numbers of 32 bits. -/
def AllU (l : List Value) : Prop := ∀ x ∈ l, isU x

theorem AllU.get {l : List Value} (h : AllU l) {i : Nat} (hi : i < l.length) : ∃ z, l[i]? = some (.int .u32 z) ∧ 0 ≤ z ∧ z < 2 ^ 32 := by
  have h1 := h l[i] (List.getElem_mem hi)
  rw [List.getElem?_eq_getElem hi]
  generalize l[i] = v at h1
  unfold isU at h1
  split at h1
  · exact ⟨_, rfl, h1⟩
  · exact h1.elim

theorem AllU.splice {l : List Value} (h : AllU l) {off : Nat} {z : Int} (hz : 0 ≤ z ∧ z < 2 ^ 32) : AllU (splice l off [.int .u32 z]) := by
  intro x hx
  unfold Ai.splice at hx
  rcases List.mem_append.1 hx with hx | hx
  · exact h x (List.mem_of_mem_take hx)
  · rcases List.mem_append.1 hx with hx | hx
    · rw [List.mem_singleton.1 hx]; exact hz
    · exact h x (List.mem_of_mem_drop hx)

theorem splice_len {l vs : List Value} {off : Nat} (h : off + vs.length ≤ l.length) : (splice l off vs).length = l.length := by
  unfold splice
  simp only [List.length_append, List.length_take, List.length_drop]
  omega

/-- One cell is read. -/
theorem load1 {cells : List Value} {off : Nat} {v : Value} (h : cells[off]? = some v) : (if 0 ≤ 0 ∧ off + 1 ≤ ext cells 0 [] 0 ∧ off + 1 ≤ cells.length then some ((cells.drop off).take 1) else none) = some [v] := by
  obtain ⟨h1, h2⟩ := List.getElem?_eq_some_iff.1 h
  rw [if_pos ⟨Nat.le_refl _, by simp [ext]; omega, by omega⟩]
  congr 1
  rw [List.drop_eq_getElem_cons h1, h2]
  rfl

theorem wrap_u32_range (x : Int) : 0 ≤ IntKind.u32.wrap x ∧ IntKind.u32.wrap x < 2 ^ 32 := by
  unfold IntKind.wrap
  simp only [IntKind.signed, IntKind.bits, Bool.false_and]
  split
  next h => simp at h
  next h => omega

theorem wrap_u64_range (x : Int) : 0 ≤ IntKind.u64.wrap x ∧ IntKind.u64.wrap x < 2 ^ 64 := by
  unfold IntKind.wrap
  simp only [IntKind.signed, IntKind.bits, Bool.false_and]
  split
  next h => simp at h
  next h => omega

/-- A row of whole numbers of 32 bits, a slice of it. -/
abbrev rowU (cells : List Value) : AObj := .row cells 1 0 0 []
abbrev sl (f off k : Nat) : Value := .slice (some ⟨f, off, some 0⟩) k unc

end Go.Ai

/-
  THE FORKED RUN, 8: the same, where each if and each block may be told as a whole.
-/
set_option linter.unusedSimpArgs false
set_option linter.unusedVariables false
set_option linter.unusedSectionVars false
namespace Go.Ai
open Go RowKit

section
variable {α : Type} {call : Caller} {ct : CallerT α}

noncomputable def codeJ (E : Env) (call : Caller) (ct : CallerT α) (N : Nat) : Code → AAct → St → (X → AAct → St → T α) → T α
  | .skip, a, s, k => k .normal a s
  | .label _, a, s, k => k .normal a s
  | .region _ ops false, a, s, k => opsT E ct ops ops.toList a s k
  | .region _ ops true, a, s, k => drawT E ct ops a s k
  | .seq x y, a, s, k => .code (evalCode E call N (.seq x y)) a s k (codeJ E call ct N x a s fun r a' s' => match r with
    | .normal => codeJ E call ct N y a' s' k
    | r => k r a' s')
  | .cond c x y, a, s, k => .code (evalCode E call N (.cond c x y)) a s k (match a.eval c with
    | .bool b => .ask b fun c => if c then codeJ E call ct N x a s k else codeJ E call ct N y a s k
    | _ => .fail)
  | .block id c, a, s, k => .code (evalCode E call N (.block id c)) a s k (codeJ E call ct N c a s fun r a' s' => match r with
    | .exit id' => if id' = id then k .normal a' s' else k (.exit id') a' s'
    | r => k r a' s')
  | .loop c, a, s, k => .code (evalCode E call N (.loop c)) a s k (iterT (codeJ E call ct N c) N a s k)
  | .scope c, a, s, k => codeJ E call ct N c a s k
  | .exit id, a, s, k => k (.exit id) a s
  | .ret, a, s, k => k .ret a s
  | _, _, _, _ => .fail

theorem codeJ_run (hc : CallT call ct) {E : Env} {N : Nat} {r : α} : ∀ (c : Code) (a : AAct) (s : St) (k : X → AAct → St → T α), (codeJ E call ct N c a s k).Runs r → ∃ x a' s', evalCode E call N c a s = some (x, a', s') ∧ (k x a' s').Runs r := by
  intro c
  induction c with
  | skip => intro a s k h; exact ⟨_, _, _, rfl, h⟩
  | label l => intro a s k h; exact ⟨_, _, _, rfl, h⟩
  | exit id => intro a s k h; exact ⟨_, _, _, rfl, h⟩
  | ret => intro a s k h; exact ⟨_, _, _, rfl, h⟩
  | region id ops d =>
    intro a s k h
    cases d with
    | false => exact opsT_run hc _ _ _ h
    | true => exact drawT_run hc h
  | seq x y ihx ihy =>
    intro a s k h
    simp only [codeJ] at h
    rcases h with h | h
    · exact h
    obtain ⟨x', a', s', h1, h2⟩ := ihx _ _ _ h
    simp only [evalCode, h1]
    cases x' with
    | normal => exact ihy _ _ _ h2
    | _ => exact ⟨_, _, _, rfl, h2⟩
  | cond c x y ihx ihy =>
    intro a s k h
    simp only [codeJ] at h
    rcases h with h | h
    · exact h
    simp only [evalCode]
    split at h
    next b hb =>
      rcases ask_run h with ⟨rfl, h⟩ | ⟨rfl, h⟩
      · rw [hb]; exact ihx _ _ _ h
      · rw [hb]; exact ihy _ _ _ h
    next => exact (fail_run h).elim
  | block id c ih =>
    intro a s k h
    simp only [codeJ] at h
    rcases h with h | h
    · exact h
    obtain ⟨x', a', s', h1, h2⟩ := ih _ _ _ h
    simp only [evalCode, h1]
    cases x' with
    | exit id' =>
      simp only at h2 ⊢
      split at h2
      next he => rw [if_pos he]; exact ⟨_, _, _, rfl, h2⟩
      next he => rw [if_neg he]; exact ⟨_, _, _, rfl, h2⟩
    | _ => exact ⟨_, _, _, rfl, h2⟩
  | loop c ih =>
    intro a s k h
    simp only [codeJ] at h
    simp only [evalCode]
    have key : ∀ n a s, (iterT (codeJ E call ct N c) n a s k).Runs r → ∃ x a' s', iter (evalCode E call N c) n a s = some (x, a', s') ∧ (k x a' s').Runs r := by
      intro n
      induction n with
      | zero => intro a s h; exact (fail_run h).elim
      | succ n ihn =>
        intro a s h
        simp only [iterT] at h
        obtain ⟨x', a', s', h1, h2⟩ := ih _ _ _ h
        simp only [iter, h1]
        cases x' with
        | normal => exact ihn _ _ h2
        | _ => exact ⟨_, _, _, rfl, h2⟩
    rcases h with ⟨x, a', s', h1, h2⟩ | h
    · exact ⟨x, a', s', by simpa only [evalCode] using h1, h2⟩
    · exact key N a s h
  | scope c ih =>
    intro a s k h
    simp only [codeJ] at h
    simp only [evalCode]
    exact ih _ _ _ h
  | _ => intro a s k h; exact (fail_run h).elim

noncomputable def codeDJ (E : Env) (call : Caller) (ct : CallerT α) (N : Nat) : Code → AAct → Unw → St → (X → AAct → Unw → St → T α) → T α
  | .seq x y, a, u, s, k => codeDJ E call ct N x a u s fun r a' u' s' => match r with
    | .normal => codeDJ E call ct N y a' u' s' k
    | r => k r a' u' s'
  | .cond c x y, a, u, s, k => match a.eval c with
    | .bool b => .ask b fun c => if c then codeDJ E call ct N x a u s k else codeDJ E call ct N y a u s k
    | _ => .fail
  | .region i ops d, a, u, s, k =>
    if (ops.any fun o => hasRecover o.op) then (if d then .fail else opsDT E ct ops ops.toList a u s k)
    else codeJ E call ct N (.region i ops d) a s fun x a' s' => k x a' u s'
  | c, a, u, s, k => if recovers c then .fail else codeJ E call ct N c a s fun x a' s' => k x a' u s'

theorem codeDJ_run (hc : CallT call ct) {E : Env} {N : Nat} {r : α} : ∀ (c : Code) (a : AAct) (u : Unw) (s : St) (k : X → AAct → Unw → St → T α), (codeDJ E call ct N c a u s k).Runs r →
    ∃ x a' u' s', evalCodeD E call N c a u s = some (x, a', u', s') ∧ (k x a' u' s').Runs r := by
  intro c
  induction c with
  | seq x y ihx ihy =>
    intro a u s k h
    simp only [codeDJ] at h
    obtain ⟨x', a', u', s', h1, h2⟩ := ihx _ _ _ _ h
    simp only [evalCodeD, h1]
    cases x' with
    | normal => exact ihy _ _ _ _ h2
    | _ => exact ⟨_, _, _, _, rfl, h2⟩
  | cond c x y ihx ihy =>
    intro a u s k h
    simp only [codeDJ] at h
    simp only [evalCodeD]
    split at h
    next b hb =>
      rcases ask_run h with ⟨rfl, h⟩ | ⟨rfl, h⟩
      · rw [hb]; exact ihx _ _ _ _ h
      · rw [hb]; exact ihy _ _ _ _ h
    next => exact (fail_run h).elim
  | region i ops d =>
    intro a u s k h
    simp only [codeDJ] at h
    simp only [evalCodeD]
    split at h
    next hr =>
      rw [if_pos hr]
      split at h
      next => exact (fail_run h).elim
      next hd => rw [if_neg hd]; exact opsDT_run hc _ _ _ _ h
    next hr =>
      rw [if_neg hr]
      obtain ⟨x, a', s', h1, h2⟩ := codeJ_run hc _ _ _ _ h
      exact ⟨_, _, _, _, by rw [h1], h2⟩
  | _ =>
    intro a u s k h
    simp only [codeDJ] at h
    simp only [evalCodeD]
    split at h
    next => exact (fail_run h).elim
    next hr =>
      rw [if_neg hr]
      obtain ⟨x, a', s', h1, h2⟩ := codeJ_run hc _ _ _ _ h
      exact ⟨_, _, _, _, by rw [h1], h2⟩

noncomputable def deferredJ (E : Env) (call : Caller) (ct : CallerT α) (N : Nat) (d : Deferred) (u : Unw) (s : St) (k : Unw → St → T α) : T α :=
  match d.target with
  | .fn (.func g) captured => match E.func g with
    | some fn => match fn.body with
      | some c => codeDJ E call ct N c { tmps := enterTmps fn (d.args.toList ++ captured.toList), defers := [] } u s fun x a u' s' => match x with
        | .normal | .ret => if a.defers.isEmpty then retT E fn a.tmps s' fun _ => k u' s' else .fail
        | _ => .fail
      | none => .fail
    | none => .fail
  | _ => .fail

theorem deferredJ_run (hc : CallT call ct) {E : Env} {N : Nat} {d : Deferred} {u : Unw} {s : St} {k : Unw → St → T α} {r : α} (h : (deferredJ E call ct N d u s k).Runs r) : ∃ u' s', evalDeferred E call N d u s = some (u', s') ∧ (k u' s').Runs r := by
  unfold deferredJ at h
  unfold evalDeferred
  split at h
  next g captured ht =>
    try simp only [ht]
    split at h
    next fn hf =>
      try simp only [hf]
      split at h
      next c hb =>
        try simp only [hb]
        obtain ⟨x, a, u', s', h1, h2⟩ := codeDJ_run hc _ _ _ _ _ h
        simp only [h1]
        cases x <;> simp only at h2 ⊢
        case normal =>
          split at h2
          next he =>
            rw [if_pos he]
            obtain ⟨v, h3, h4⟩ := retT_run h2
            exact ⟨_, _, by simp only [h3], h4⟩
          next => exact (fail_run h2).elim
        case ret =>
          split at h2
          next he =>
            rw [if_pos he]
            obtain ⟨v, h3, h4⟩ := retT_run h2
            exact ⟨_, _, by simp only [h3], h4⟩
          next => exact (fail_run h2).elim
        all_goals exact (fail_run h2).elim
      next => exact (fail_run h).elim
    next => exact (fail_run h).elim
  next => exact (fail_run h).elim

noncomputable def unwindsJ (E : Env) (call : Caller) (ct : CallerT α) (N : Nat) : List Deferred → Unw → St → (Unw → St → T α) → T α
  | [], u, s, k => k u s
  | d :: ds, u, s, k => deferredJ E call ct N d u s fun u' s' => unwindsJ E call ct N ds (aSettle u') s' k

theorem unwindsJ_run (hc : CallT call ct) {E : Env} {N : Nat} {k : Unw → St → T α} {r : α} : ∀ (ds : List Deferred) (u : Unw) (s : St), (unwindsJ E call ct N ds u s k).Runs r → ∃ u' s', unwinds E call N ds u s = some (u', s') ∧ (k u' s').Runs r := by
  intro ds
  induction ds with
  | nil => intro u s h; exact ⟨_, _, rfl, h⟩
  | cons d ds ih =>
    intro u s h
    simp only [unwindsJ] at h
    obtain ⟨u', s', h1, h2⟩ := deferredJ_run hc h
    simp only [unwinds, h1]
    exact ih _ _ h2

noncomputable def fnJ (E : Env) (call : Caller) (ct : CallerT α) (N : Nat) : CallerT α := fun g args s k =>
  match E.func g with
  | none => .fail
  | some fn => match fn.body with
    | none => .fail
    | some c => codeJ E call ct N c { tmps := enterTmps fn args, defers := [] } s fun x a s' => match x with
      | .normal | .ret => unwindsJ E call ct N a.defers none s' fun u s'' => match u with
        | none => retT E fn a.tmps s'' fun v => k (.ok v) s''
        | _ => .fail
      | .panic v => unwindsJ E call ct N a.defers (some (v, false)) s' fun u s'' => match u with
        | none => retT E fn a.tmps s'' fun v => k (.ok v) s''
        | some (v, false) => k (.pan v) s''
        | _ => .fail
      | _ => .fail

theorem fnJ_run (hc : CallT call ct) (E : Env) (N : Nat) : CallT (evalFn E call N) (fnJ E call ct N) := by
  intro g args s k r h
  unfold fnJ at h
  unfold evalFn
  split at h
  next => exact (fail_run h).elim
  next fn hf =>
    try simp only [hf]
    split at h
    next => exact (fail_run h).elim
    next c hb =>
      try simp only [hb]
      obtain ⟨x, a, s', h1, h2⟩ := codeJ_run hc _ _ _ _ h
      simp only [h1]
      cases x <;> simp only at h2 ⊢
      case exit => exact (fail_run h2).elim
      case panic v =>
        obtain ⟨u, s'', h3, h4⟩ := unwindsJ_run hc _ _ _ h2
        simp only [h3]
        split at h4
        · obtain ⟨v', h5, h6⟩ := retT_run h4
          exact ⟨_, _, by simp only [h5, Option.map_some], h6⟩
        · exact ⟨_, _, rfl, h4⟩
        · exact (fail_run h4).elim
      all_goals
        obtain ⟨u, s'', h3, h4⟩ := unwindsJ_run hc _ _ _ h2
        simp only [h3]
        split at h4
        · obtain ⟨v', h5, h6⟩ := retT_run h4
          exact ⟨_, _, by simp only [h5, Option.map_some], h6⟩
        · exact (fail_run h4).elim

noncomputable def callNJ (E : Env) (N : Nat) : Nat → CallerT α
  | 0 => fun _ _ _ _ => .fail
  | n + 1 => fun g args s k => .call (callN E N (n + 1) g args) s k (fnJ E (callN E N n) (callNJ E N n) N g args s k)

theorem callNJ_run (E : Env) (N : Nat) : ∀ n, CallT (callN E N n) (callNJ (α := α) E N n) := by
  intro n
  induction n with
  | zero => intro g args s k r h; exact (fail_run h).elim
  | succ n ih =>
    intro g args s k r h
    rcases h with ⟨x, s', h1, h2⟩ | h
    · exact ⟨x, s', h1, h2⟩
    · exact fnJ_run ih E N g args s k r h

end

/-- What is known of memory at the end, as far as is told. -/
theorem fnj_by {E : Env} {N n : Nat} {g : FuncId} {args : List Value} {s : St} {ov : Cache} (hov : Holds s ov) (p : List Ev) (is : List Nat) {x : Ret} {now : Cache}
    (h : ((fnJ E (callN E N n) (callNJ E N n) N g args s fun x s' => .now s' (.ret (x, s'))).follow p [(s, ov, true)] []).map (fun z => ((isNodup is, z.1.1, z.2.1.head?.map fun t => picks is t.2.1), (z.2.1.head?.map (·.1) :: z.2.2.map (fun _ => none), z.2.2.map Ob.flip))) =
      some ((true, x, some now), (((fnJ E (callN E N n) (callNJ E N n) N g args s fun x s' => .now s' (.ret (x, s'))).follow p [(s, ov, true)] []).map fun z => ((some z.1.2 : Option St) :: z.2.2.map (fun _ => none), z.2.2)).getD ([], []))) :
    ∃ s', callN E N (n + 1) g args s = some (x, s') ∧ After s s' (keysOf ov) now := by
  obtain ⟨z, sn', h1, h2, h3⟩ := T.use (t := fnJ E (callN E N n) (callNJ E N n) N g args s fun x s' => .now s' (.ret (x, s'))) (s₀ := s) (K := keysOf ov) [(s, ov, true)] (by simpa using hov) (chain_one _) p
    (fun z => ((isNodup is, z.1.1, z.2.head?.map fun t => picks is t.2.1), z.2.head?.map (·.1), some z.1.2)) (r := ((true, x, some now), (((fnJ E (callN E N n) (callNJ E N n) N g args s fun x s' => .now s' (.ret (x, s'))).follow p [(s, ov, true)] []).map fun z => (z.2.1.head?.map (·.1), some z.1.2)).getD (none, none))) (by
      cases hf : (fnJ E (callN E N n) (callNJ E N n) N g args s fun x s' => .now s' (.ret (x, s'))).follow p [(s, ov, true)] [] with
      | none => simp [hf] at h
      | some z =>
        simp only [hf, Option.map_some, Option.getD_some, Option.some.injEq, Prod.mk.injEq, List.cons.injEq] at h ⊢
        exact ⟨⟨h.1, trivial⟩, h.2.2⟩)
  obtain ⟨x', s', h4, h5⟩ := fnJ_run (callNJ_run E N n) E N _ _ _ _ _ h1
  have h5 : (x', s') = z := h5
  subst h5
  cases hf : (fnJ E (callN E N n) (callNJ E N n) N g args s fun x s' => .now s' (.ret (x, s'))).follow p [(s, ov, true)] [] with
  | none => simp [hf] at h
  | some w =>
    simp only [hf, Option.map_some, Option.getD_some, Option.some.injEq, Prod.mk.injEq, List.cons.injEq] at h h2
    obtain ⟨⟨h6, h7, h8⟩, h9, h10⟩ := h2
    obtain ⟨_, ⟨h11, _⟩, _⟩ := h
    subst h7
    cases hs : sn' with
    | nil => simp [hs] at h8
    | cons t sn =>
      simp only [hs, List.head?_cons, Option.map_some, Option.some.injEq] at h8 h9
      have h12 := h3 t (by simp [hs])
      have h13 : some t.1 = some s' := by rw [h9, h11, ← h10]
      cases h13
      refine ⟨_, h4, ?_⟩
      rw [← h8]
      exact h12.picks (isNodup_ok h6)

/-- A piece of code, likewise. -/
theorem codej_by {E : Env} {N n : Nat} {c : Code} {a : AAct} {s : St} {ov : Cache} (hov : Holds s ov) (p : List Ev) (is : List Nat) {β : Type} (f : X × AAct → β) {r : β} {now : Cache}
    (h : ((codeJ E (callN E N n) (callNJ E N n) N c a s fun x a' s' => .now s' (.ret (x, a', s'))).follow p [(s, ov, true)] []).map (fun z => ((isNodup is, f (z.1.1, z.1.2.1), z.2.1.head?.map fun t => picks is t.2.1), (z.2.1.head?.map (·.1) :: z.2.2.map (fun _ => none), z.2.2.map Ob.flip))) =
      some ((true, r, some now), (((codeJ E (callN E N n) (callNJ E N n) N c a s fun x a' s' => .now s' (.ret (x, a', s'))).follow p [(s, ov, true)] []).map fun z => ((some z.1.2.2 : Option St) :: z.2.2.map (fun _ => none), z.2.2)).getD ([], []))) :
    ∃ x a' s', evalCode E (callN E N n) N c a s = some (x, a', s') ∧ f (x, a') = r ∧ After s s' (keysOf ov) now := by
  obtain ⟨z, sn', h1, h2, h3⟩ := T.use (t := codeJ E (callN E N n) (callNJ E N n) N c a s fun x a' s' => .now s' (.ret (x, a', s'))) (s₀ := s) (K := keysOf ov) [(s, ov, true)] (by simpa using hov) (chain_one _) p
    (fun z => ((isNodup is, f (z.1.1, z.1.2.1), z.2.head?.map fun t => picks is t.2.1), z.2.head?.map (·.1), some z.1.2.2)) (r := ((true, r, some now), (((codeJ E (callN E N n) (callNJ E N n) N c a s fun x a' s' => .now s' (.ret (x, a', s'))).follow p [(s, ov, true)] []).map fun z => (z.2.1.head?.map (·.1), some z.1.2.2)).getD (none, none))) (by
      cases hf : (codeJ E (callN E N n) (callNJ E N n) N c a s fun x a' s' => .now s' (.ret (x, a', s'))).follow p [(s, ov, true)] [] with
      | none => simp [hf] at h
      | some z =>
        simp only [hf, Option.map_some, Option.getD_some, Option.some.injEq, Prod.mk.injEq, List.cons.injEq] at h ⊢
        exact ⟨⟨h.1, trivial⟩, h.2.2⟩)
  obtain ⟨x', a', s', h4, h5⟩ := codeJ_run (callNJ_run E N n) _ _ _ _ h1
  have h5 : (x', a', s') = z := h5
  subst h5
  cases hf : (codeJ E (callN E N n) (callNJ E N n) N c a s fun x a' s' => .now s' (.ret (x, a', s'))).follow p [(s, ov, true)] [] with
  | none => simp [hf] at h
  | some w =>
    simp only [hf, Option.map_some, Option.getD_some, Option.some.injEq, Prod.mk.injEq, List.cons.injEq] at h h2
    obtain ⟨⟨h6, h7, h8⟩, h9, h10⟩ := h2
    obtain ⟨_, ⟨h11, _⟩, _⟩ := h
    subst h7
    cases hs : sn' with
    | nil => simp [hs] at h8
    | cons t sn =>
      simp only [hs, List.head?_cons, Option.map_some, Option.some.injEq] at h8 h9
      have h12 := h3 t (by simp [hs])
      have h13 : some t.1 = some s' := by rw [h9, h11, ← h10]
      cases h13
      refine ⟨_, _, _, h4, rfl, ?_⟩
      rw [← h8]
      exact h12.picks (isNodup_ok h6)


/-- A piece of code, from what is told to what is told. -/
theorem roundj_by {E : Env} {N n : Nat} {c : Code} {a : AAct} {s : St} {ov : Cache} (hov : Holds s ov) (p : List Ev) (is : List Nat) {x : X} {d : List Deferred} {m : Nat} {live' : List (Nat × Value)} {now : Cache}
    (h : ((codeJ E (callN E N n) (callNJ E N n) N c a s fun x a' s' => .now s' (.ret (x, a', s'))).follow p [(s, ov, true)] []).map (fun z => ((isNodup is, look (live'.map (·.1)) (z.1.1, z.1.2.1), z.2.1.head?.map fun t => picks is t.2.1), (z.2.1.head?.map (·.1) :: z.2.2.map (fun _ => none), z.2.2.map Ob.flip))) =
      some ((true, (x, d, m, live'.map fun y => some y.2), some now), (((codeJ E (callN E N n) (callNJ E N n) N c a s fun x a' s' => .now s' (.ret (x, a', s'))).follow p [(s, ov, true)] []).map fun z => ((some z.1.2.2 : Option St) :: z.2.2.map (fun _ => none), z.2.2)).getD ([], []))) :
    ∃ rest' s', evalCode E (callN E N n) N c a s = some (x, { tmps := tmpsOf m live' rest', defers := d }, s') ∧ After s s' (keysOf ov) now := by
  obtain ⟨x', a', s', h1, h2, h3⟩ := codej_by hov p is (look (live'.map (·.1))) h
  have h2 : look (live'.map (·.1)) (x', a') = (x, d, m, (live'.map (·.2)).map some) := by rw [h2, List.map_map]; rfl
  obtain ⟨rfl, h4⟩ := of_look h2 (by simp)
  have hz : (live'.map (·.1)).zip (live'.map (·.2)) = live' := by
    rw [List.zip_map']
    exact List.map_id _
  rw [hz] at h4
  exact ⟨_, s', by rw [← h4]; exact h1, h3⟩

theorem fnvj_by {E : Env} {N n : Nat} {g : FuncId} {args : List Value} {s : St} {ov : Cache} (hov : Holds s ov) (p : List Ev) (is : List Nat) {β : Type} (f : Ret → β) {r : β} {now : Cache}
    (h : ((fnJ E (callN E N n) (callNJ E N n) N g args s fun x s' => .now s' (.ret (x, s'))).follow p [(s, ov, true)] []).map (fun z => ((isNodup is, f z.1.1, z.2.1.head?.map fun t => picks is t.2.1), (z.2.1.head?.map (·.1) :: z.2.2.map (fun _ => none), z.2.2.map Ob.flip))) =
      (((fnJ E (callN E N n) (callNJ E N n) N g args s fun x s' => .now s' (.ret (x, s'))).follow p [(s, ov, true)] []).map fun z => ((true, r, some now), ((some z.1.2 : Option St) :: z.2.2.map (fun _ => none), z.2.2))))
    (hs : ((fnJ E (callN E N n) (callNJ E N n) N g args s fun x s' => .now s' (.ret (x, s'))).follow p [(s, ov, true)] []).isSome = true) :
    ∃ x s', callN E N (n + 1) g args s = some (x, s') ∧ f x = r ∧ After s s' (keysOf ov) now := by
  obtain ⟨w, hf⟩ := Option.isSome_iff_exists.1 hs
  have hw : f w.1.1 = r := by
    simp only [hf, Option.map_some, Option.some.injEq, Prod.mk.injEq] at h
    exact h.1.2.1
  obtain ⟨s', h1, h2⟩ := fnj_by (E := E) (N := N) (n := n) (g := g) (args := args) hov p is (x := w.1.1) (now := now) (by
    simp only [hf, Option.map_some, Option.getD_some] at h ⊢
    obtain ⟨g1, g2⟩ := Prod.mk.inj (Option.some.inj h)
    obtain ⟨g3, g4⟩ := Prod.mk.inj g1
    obtain ⟨g5, g6⟩ := Prod.mk.inj g4
    rw [g3, g6, g2])
  exact ⟨_, s', h1, hw, h2⟩

theorem fnkj_by {E : Env} {N n : Nat} {g : FuncId} {args : List Value} {s : St} {ov : Cache} (hov : Holds s ov) (p : List Ev) (js is : List Nat) {x : List Nat → Ret} {now : List Nat → Cache}
    (h : ((fnJ E (callN E N n) (callNJ E N n) N g args s fun x s' => .now s' (.ret (x, s'))).follow p [(s, ov, true)] []).map (fun z => ((isNodup is, z.1.1, z.2.1.head?.map fun t => picks is t.2.1), (z.2.1.head?.map (·.1) :: z.2.2.map (fun _ => none), z.2.2.map Ob.flip))) =
      (((fnJ E (callN E N n) (callNJ E N n) N g args s fun x s' => .now s' (.ret (x, s'))).follow p [(s, ov, true)] []).map fun z => ((true, x (keysAt js ((z.2.1.head?.map (·.2.1)).getD [])), some (now (keysAt js ((z.2.1.head?.map (·.2.1)).getD [])))), ((some z.1.2 : Option St) :: z.2.2.map (fun _ => none), z.2.2))))
    (hs : ((fnJ E (callN E N n) (callNJ E N n) N g args s fun x s' => .now s' (.ret (x, s'))).follow p [(s, ov, true)] []).isSome = true) :
    ∃ nk s', callN E N (n + 1) g args s = some (x nk, s') ∧ After s s' (keysOf ov) (now nk) := by
  obtain ⟨w, hf⟩ := Option.isSome_iff_exists.1 hs
  refine ⟨keysAt js ((w.2.1.head?.map (·.2.1)).getD []), fnj_by hov p is ?_⟩
  simp only [hf, Option.map_some, Option.getD_some] at h ⊢
  exact h

theorem roundkj_by {E : Env} {N n : Nat} {c : Code} {a : AAct} {s : St} {ov : Cache} (hov : Holds s ov) (p : List Ev) (js is : List Nat) {x : X} {d : List Deferred} {m : Nat} {live' : List Nat → List (Nat × Value)} {now : List Nat → Cache}
    (h : ((codeJ E (callN E N n) (callNJ E N n) N c a s fun x a' s' => .now s' (.ret (x, a', s'))).follow p [(s, ov, true)] []).map (fun z => ((isNodup is, look ((live' (keysAt js ((z.2.1.head?.map (·.2.1)).getD []))).map (·.1)) (z.1.1, z.1.2.1), z.2.1.head?.map fun t => picks is t.2.1), (z.2.1.head?.map (·.1) :: z.2.2.map (fun _ => none), z.2.2.map Ob.flip))) =
      (((codeJ E (callN E N n) (callNJ E N n) N c a s fun x a' s' => .now s' (.ret (x, a', s'))).follow p [(s, ov, true)] []).map fun z => ((true, (x, d, m, (live' (keysAt js ((z.2.1.head?.map (·.2.1)).getD []))).map fun y => some y.2), some (now (keysAt js ((z.2.1.head?.map (·.2.1)).getD [])))), ((some z.1.2.2 : Option St) :: z.2.2.map (fun _ => none), z.2.2))))
    (hs : ((codeJ E (callN E N n) (callNJ E N n) N c a s fun x a' s' => .now s' (.ret (x, a', s'))).follow p [(s, ov, true)] []).isSome = true) :
    ∃ nk rest' s', evalCode E (callN E N n) N c a s = some (x, { tmps := tmpsOf m (live' nk) rest', defers := d }, s') ∧ After s s' (keysOf ov) (now nk) := by
  obtain ⟨w, hf⟩ := Option.isSome_iff_exists.1 hs
  refine ⟨keysAt js ((w.2.1.head?.map (·.2.1)).getD []), roundj_by hov p is ?_⟩
  simp only [hf, Option.map_some, Option.getD_some] at h ⊢
  exact h


theorem not_is {x v : Bool} (h : (!x) = v) : x = !v := by cases x <;> cases v <;> simp_all

/-- All ifs, blocks and loops of a piece of code, the outer ones first. -/
def piecesIn : Code → List Code
  | .loop c => .loop c :: piecesIn c
  | .seq a b => .seq a b :: (piecesIn a ++ piecesIn b)
  | .cond x a b => .cond x a b :: (piecesIn a ++ piecesIn b)
  | .block i a => .block i a :: piecesIn a
  | .scope a => piecesIn a
  | _ => []

noncomputable def pieceAt (P : Program) (g : FuncId) (i : Nat) : Code := (piecesIn (bodyIn P g)).getD i .skip

end Go.Ai

/-
  DERIVED: THE SHELF's CONTRACTS AT THIS DUMP, IN PLAIN WORDS (tools/lay-plain.mjs out of 'TrydShelf.lean', which tools/lay-shelf.mjs wrote): THE SAME DECLARATIONS UNDER THE SAME NAMES: 'import', 'namespace', 'open', 'def', 'theorem' AND NOTHING ELSE: no command of the shelf's: FOR A HAND-IN. Each laying: the table of numbers ('.._ren') and one theorem, a field a fact of the dump's own or the kernel's comparison; each contract: ONE APPLICATION.
-/
namespace Go.Proofs
open Go.Shelf
def Tryd.lays128_ren : Go.Shelf.Ren := ⟨fun | 128 => 53 | n => n, fun | 51 => 65 | 3 => 3 | 4 => 4 | 46 => 60 | 5 => 5 | 9 => 9 | n => n, fun | n => n⟩
theorem Tryd.lays128 : Go.Proofs.Lays.n128 Tryd.prog Tryd.lays128_ren := {
  mixed := by kernel_rfl
  f128 := Tryd.func53.trans (congrArg some (by kernel_rfl))
  t3 := Tryd.underlying3
  a3 := Tryd.isAgg3
  z3 := Tryd.sizeOf3
  v3 := Tryd.zeroValue3
  t4 := Tryd.underlying4
  a4 := Tryd.isAgg4
  z4 := Tryd.sizeOf4
  v4 := Tryd.zeroValue4
  t5 := Tryd.underlying5
  a5 := Tryd.isAgg5
  z5 := Tryd.sizeOf5
  v5 := Tryd.zeroValue5
  t9 := Tryd.underlying9
  a9 := Tryd.isAgg9
  z9 := Tryd.sizeOf9
  v9 := Tryd.zeroValue9
  t46 := Tryd.underlying60
  a46 := Tryd.isAgg60
  z46 := Tryd.sizeOf60
  v46 := Tryd.zeroValue60
  t51 := Tryd.underlying65
  a51 := Tryd.isAgg65
  z51 := Tryd.sizeOf65
  v51 := Tryd.zeroValue65 }
/-- bits.Len32: "Len32 returns the minimum number of bits required to represent x; the result is 0 for x == 0.": IT RETURNS 'Lib.bitLen x'; the world is as it was. ('h0', 'h1': x is a uint32.) (LAID: no walk: one application.) -/
theorem Tryd.bits_Len32 (x : Int) (w : World) (h0 : 0 ≤ x) (h1 : x ≤ 4294967295) :
    Calls Tryd.prog 53 #[.int .u32 x] w fun e w' => e = .returned (.int .i64 (Lib.bitLen x.toNat)) ∧ w' = w := Any.bits_Len32 Tryd.lays128 x w h0 h1
def Tryd.lays129_ren : Go.Shelf.Ren := ⟨fun | 129 => 51 | n => n, fun | 53 => 28 | 3 => 3 | 4 => 4 | 46 => 60 | 5 => 5 | 9 => 9 | n => n, fun | n => n⟩
theorem Tryd.lays129 : Go.Proofs.Lays.n129 Tryd.prog Tryd.lays129_ren := {
  mixed := by kernel_rfl
  f129 := Tryd.func51.trans (congrArg some (by kernel_rfl))
  t3 := Tryd.underlying3
  a3 := Tryd.isAgg3
  z3 := Tryd.sizeOf3
  v3 := Tryd.zeroValue3
  t4 := Tryd.underlying4
  a4 := Tryd.isAgg4
  z4 := Tryd.sizeOf4
  v4 := Tryd.zeroValue4
  t5 := Tryd.underlying5
  a5 := Tryd.isAgg5
  z5 := Tryd.sizeOf5
  v5 := Tryd.zeroValue5
  t9 := Tryd.underlying9
  a9 := Tryd.isAgg9
  z9 := Tryd.sizeOf9
  v9 := Tryd.zeroValue9
  t46 := Tryd.underlying60
  a46 := Tryd.isAgg60
  z46 := Tryd.sizeOf60
  v46 := Tryd.zeroValue60
  t53 := Tryd.underlying28
  a53 := Tryd.isAgg28
  z53 := Tryd.sizeOf28
  v53 := Tryd.zeroValue28 }
/-- bits.Len64: "Len64 returns the minimum number of bits required to represent x; the result is 0 for x == 0.": IT RETURNS 'Lib.bitLen x'; the world is as it was. ('h0', 'h1': x is a uint64.) (LAID: no walk: one application.) -/
theorem Tryd.bits_Len64 (x : Int) (w : World) (h0 : 0 ≤ x) (h1 : x ≤ 18446744073709551615) :
    Calls Tryd.prog 51 #[.int .u64 x] w fun e w' => e = .returned (.int .i64 (Lib.bitLen x.toNat)) ∧ w' = w := Any.bits_Len64 Tryd.lays129 x w h0 h1
def Tryd.lays217_ren : Go.Shelf.Ren := ⟨fun | 217 => 37 | 266 => 48 | n => n, fun | 9 => 9 | 5 => 5 | 3 => 3 | n => n, fun | n => n⟩
theorem Tryd.lays217 : Go.Proofs.Lays.n217 Tryd.prog Tryd.lays217_ren := {
  mixed := by kernel_rfl
  f217 := Tryd.func37.trans (congrArg some (by kernel_rfl))
  f266 := Tryd.func48.trans (congrArg some (by kernel_rfl))
  t3 := Tryd.underlying3
  a3 := Tryd.isAgg3
  z3 := Tryd.sizeOf3
  v3 := Tryd.zeroValue3
  t5 := Tryd.underlying5
  a5 := Tryd.isAgg5
  z5 := Tryd.sizeOf5
  v5 := Tryd.zeroValue5
  t9 := Tryd.underlying9
  a9 := Tryd.isAgg9
  z9 := Tryd.sizeOf9
  v9 := Tryd.zeroValue9 }
open Go.RowKit Go.Lib in
/-- internal/stringslite.IndexByte (what strings.IndexByte calls): IT RETURNS 'Lib.indexByte s c'; the world is as it was. (LAID: no walk: one application.) -/
theorem Tryd.stringslite_IndexByte (s : ByteArray) (c : Int) (w : World) :
    Calls Tryd.prog 37 #[.string s, .int .u8 c] w fun e w' => e = .returned (.int .i64 (Lib.indexByte s.data.toList c.toNat.toUInt8)) ∧ w' = w := Any.stringslite_IndexByte Tryd.lays217 s c w
def Tryd.lays224_ren : Go.Shelf.Ren := ⟨fun | 224 => 39 | n => n, fun | 3 => 3 | n => n, fun | n => n⟩
theorem Tryd.lays224 : Go.Proofs.Lays.n224 Tryd.prog Tryd.lays224_ren := {
  mixed := by kernel_rfl
  f224 := Tryd.func39.trans (congrArg some (by kernel_rfl))
  t3 := Tryd.underlying3
  a3 := Tryd.isAgg3
  z3 := Tryd.sizeOf3
  v3 := Tryd.zeroValue3 }
open Go.RowKit Go.Lib in
/-- internal/bytealg.Cutover: "Cutover reports the number of failures of IndexByte we should tolerate before switching over to Index. n is the number of bytes processed so far.": on amd64: (n + 16) / 8. (LAID: no walk: one application.) -/
theorem Tryd.bytealg_Cutover (n : Int) (h0 : 0 ≤ n) (h1 : n < 4611686018427387904) (w : World) :
    Calls Tryd.prog 39 #[.int .i64 n] w fun e w' => e = .returned (.int .i64 ((n + 16) / 8)) ∧ w' = w := Any.bytealg_Cutover Tryd.lays224 n h0 h1 w
def Tryd.lays314_ren : Go.Shelf.Ren := ⟨fun | 314 => 49 | n => n, fun | 9 => 9 | 51 => 65 | 3 => 3 | 4 => 4 | 5 => 5 | 46 => 60 | n => n, fun | n => n⟩
theorem Tryd.lays314 : Go.Proofs.Lays.n314 Tryd.prog Tryd.lays314_ren := {
  mixed := by kernel_rfl
  f314 := Tryd.func49.trans (congrArg some (by kernel_rfl))
  t3 := Tryd.underlying3
  a3 := Tryd.isAgg3
  z3 := Tryd.sizeOf3
  v3 := Tryd.zeroValue3
  t4 := Tryd.underlying4
  a4 := Tryd.isAgg4
  z4 := Tryd.sizeOf4
  v4 := Tryd.zeroValue4
  t5 := Tryd.underlying5
  a5 := Tryd.isAgg5
  z5 := Tryd.sizeOf5
  v5 := Tryd.zeroValue5
  t9 := Tryd.underlying9
  a9 := Tryd.isAgg9
  z9 := Tryd.sizeOf9
  v9 := Tryd.zeroValue9
  t46 := Tryd.underlying60
  a46 := Tryd.isAgg60
  z46 := Tryd.sizeOf60
  v46 := Tryd.zeroValue60
  t51 := Tryd.underlying65
  a51 := Tryd.isAgg65
  z51 := Tryd.sizeOf65
  v51 := Tryd.zeroValue65 }
open Go.RowKit Go.Lib in
/-- hashStr: "returns the hash and the appropriate multiplicative factor for use in Rabin-Karp algorithm": THE HASH OF ALL OF sep, AND 16777619 ^ len(sep), both in uint32. (LAID: no walk: one application.) -/
theorem Tryd.bytealg_hashStr (sep : ByteArray) (hs : sep.size < 4294967281) (w : World) :
    Calls Tryd.prog 49 #[.string sep] w fun e w' => e = .returned (.tuple #[.int .u32 (RK.H sep.data.toList % 4294967296), .int .u32 (16777619 ^ sep.size % 4294967296)]) ∧ w' = w := Any.bytealg_hashStr Tryd.lays314 sep hs w
def Tryd.lays267_ren : Go.Shelf.Ren := ⟨fun | 267 => 40 | 314 => 49 | n => n, fun | 9 => 9 | 3 => 3 | 146 => 71 | 51 => 65 | 4 => 4 | 5 => 5 | 46 => 60 | n => n, fun | n => n⟩
theorem Tryd.lays267 : Go.Proofs.Lays.n267 Tryd.prog Tryd.lays267_ren := {
  mixed := by kernel_rfl
  f267 := Tryd.func40.trans (congrArg some (by kernel_rfl))
  f314 := Tryd.func49.trans (congrArg some (by kernel_rfl))
  t3 := Tryd.underlying3
  a3 := Tryd.isAgg3
  z3 := Tryd.sizeOf3
  v3 := Tryd.zeroValue3
  t4 := Tryd.underlying4
  a4 := Tryd.isAgg4
  z4 := Tryd.sizeOf4
  v4 := Tryd.zeroValue4
  t5 := Tryd.underlying5
  a5 := Tryd.isAgg5
  z5 := Tryd.sizeOf5
  v5 := Tryd.zeroValue5
  t9 := Tryd.underlying9
  a9 := Tryd.isAgg9
  z9 := Tryd.sizeOf9
  v9 := Tryd.zeroValue9
  t46 := Tryd.underlying60
  a46 := Tryd.isAgg60
  z46 := Tryd.sizeOf60
  v46 := Tryd.zeroValue60
  t51 := Tryd.underlying65
  a51 := Tryd.isAgg65
  z51 := Tryd.sizeOf65
  v51 := Tryd.zeroValue65
  t146 := Tryd.underlying71
  a146 := Tryd.isAgg71
  z146 := Tryd.sizeOf71
  v146 := Tryd.zeroValue71 }
open Go.RowKit Go.Lib in
theorem Tryd.bytealg_IndexRabinKarp (s sep : ByteArray) (h1 : 1 ≤ sep.size) (h2 : sep.size ≤ s.size) (hs : s.size < 4294967281) (w : World) :
    Calls Tryd.prog 40 #[.string s, .string sep] w fun e w' => e = .returned (.int .i64 (Lib.index s.data.toList sep.data.toList)) ∧ w' = w := Any.bytealg_IndexRabinKarp Tryd.lays267 s sep h1 h2 hs w
def Tryd.lays219_ren : Go.Shelf.Ren := ⟨fun | 219 => 34 | 217 => 37 | 225 => 38 | 224 => 39 | 267 => 40 | 266 => 48 | 314 => 49 | n => n, fun | 9 => 9 | 3 => 3 | 4 => 4 | 5 => 5 | 46 => 60 | 146 => 71 | 51 => 65 | n => n, fun | 1 => 1 | n => n⟩
theorem Tryd.lays219 : Go.Proofs.Lays.n219 Tryd.prog Tryd.lays219_ren := {
  mixed := by kernel_rfl
  f217 := Tryd.func37.trans (congrArg some (by kernel_rfl))
  f219 := Tryd.func34.trans (congrArg some (by kernel_rfl))
  f224 := Tryd.func39.trans (congrArg some (by kernel_rfl))
  f225 := Tryd.func38.trans (congrArg some (by kernel_rfl))
  f266 := Tryd.func48.trans (congrArg some (by kernel_rfl))
  f267 := Tryd.func40.trans (congrArg some (by kernel_rfl))
  f314 := Tryd.func49.trans (congrArg some (by kernel_rfl))
  t3 := Tryd.underlying3
  a3 := Tryd.isAgg3
  z3 := Tryd.sizeOf3
  v3 := Tryd.zeroValue3
  t4 := Tryd.underlying4
  a4 := Tryd.isAgg4
  z4 := Tryd.sizeOf4
  v4 := Tryd.zeroValue4
  t5 := Tryd.underlying5
  a5 := Tryd.isAgg5
  z5 := Tryd.sizeOf5
  v5 := Tryd.zeroValue5
  t9 := Tryd.underlying9
  a9 := Tryd.isAgg9
  z9 := Tryd.sizeOf9
  v9 := Tryd.zeroValue9
  t46 := Tryd.underlying60
  a46 := Tryd.isAgg60
  z46 := Tryd.sizeOf60
  v46 := Tryd.zeroValue60
  t51 := Tryd.underlying65
  a51 := Tryd.isAgg65
  z51 := Tryd.sizeOf65
  v51 := Tryd.zeroValue65
  t146 := Tryd.underlying71
  a146 := Tryd.isAgg71
  z146 := Tryd.sizeOf71
  v146 := Tryd.zeroValue71
  g1 := by kernel_rfl }
open Go.RowKit Go.Lib in
/-- internal/stringslite.Index (what strings.Index calls) AT A substr OF ONE BYTE c: IT RETURNS 'Lib.indexByte s c'; the world is as it was. (LAID: no walk: one application.) -/
theorem Tryd.stringslite_Index_one (s : ByteArray) (c : UInt8) (w : World) :
    Calls Tryd.prog 34 #[.string s, .string ⟨#[c]⟩] w fun e w' => e = .returned (.int .i64 (Lib.indexByte s.data.toList c)) ∧ w' = w := Any.stringslite_Index_one Tryd.lays219 s c w
open Go.RowKit Go.Lib in
/-- internal/stringslite.Index (what strings.Index calls) AT A substr OF WHATEVER LENGTH: IT RETURNS 'Lib.index s substr'; the world is as it was. 'm': what internal/bytealg.MaxLen holds: whatever. (LAID: no walk: one application.) -/
theorem Tryd.stringslite_Index (s sub : ByteArray) (m : Int) (w : World) (hs : s.size < 4294967281) (hm : w.cell? ⟨1, 0, none⟩ = some (.int .i64 m)) :
    Calls Tryd.prog 34 #[.string s, .string sub] w fun e w' => e = .returned (.int .i64 (Lib.index s.data.toList sub.data.toList)) ∧ w' = w := Any.stringslite_Index Tryd.lays219 s sub m w hs hm
def Tryd.lays143_ren : Go.Shelf.Ren := ⟨fun | 143 => 29 | 219 => 34 | 217 => 37 | 225 => 38 | 224 => 39 | 267 => 40 | 266 => 48 | 314 => 49 | n => n, fun | 9 => 9 | 3 => 3 | 4 => 4 | 5 => 5 | 46 => 60 | 146 => 71 | 51 => 65 | n => n, fun | 1 => 1 | n => n⟩
theorem Tryd.lays143 : Go.Proofs.Lays.n143 Tryd.prog Tryd.lays143_ren := {
  mixed := by kernel_rfl
  f143 := Tryd.func29.trans (congrArg some (by kernel_rfl))
  f217 := Tryd.func37.trans (congrArg some (by kernel_rfl))
  f219 := Tryd.func34.trans (congrArg some (by kernel_rfl))
  f224 := Tryd.func39.trans (congrArg some (by kernel_rfl))
  f225 := Tryd.func38.trans (congrArg some (by kernel_rfl))
  f266 := Tryd.func48.trans (congrArg some (by kernel_rfl))
  f267 := Tryd.func40.trans (congrArg some (by kernel_rfl))
  f314 := Tryd.func49.trans (congrArg some (by kernel_rfl))
  t3 := Tryd.underlying3
  a3 := Tryd.isAgg3
  z3 := Tryd.sizeOf3
  v3 := Tryd.zeroValue3
  t4 := Tryd.underlying4
  a4 := Tryd.isAgg4
  z4 := Tryd.sizeOf4
  v4 := Tryd.zeroValue4
  t5 := Tryd.underlying5
  a5 := Tryd.isAgg5
  z5 := Tryd.sizeOf5
  v5 := Tryd.zeroValue5
  t9 := Tryd.underlying9
  a9 := Tryd.isAgg9
  z9 := Tryd.sizeOf9
  v9 := Tryd.zeroValue9
  t46 := Tryd.underlying60
  a46 := Tryd.isAgg60
  z46 := Tryd.sizeOf60
  v46 := Tryd.zeroValue60
  t51 := Tryd.underlying65
  a51 := Tryd.isAgg65
  z51 := Tryd.sizeOf65
  v51 := Tryd.zeroValue65
  t146 := Tryd.underlying71
  a146 := Tryd.isAgg71
  z146 := Tryd.sizeOf71
  v146 := Tryd.zeroValue71
  g1 := by kernel_rfl }
open Go.RowKit Go.Lib in
/-- strings.Index: "Index returns the index of the first instance of substr in s, or -1 if substr is not present in s.": AT A substr OF ONE BYTE c: IT RETURNS 'Lib.indexByte s c'; the world is as it was. (LAID: no walk: one application.) -/
theorem Tryd.strings_Index_one (s : ByteArray) (c : UInt8) (w : World) :
    Calls Tryd.prog 29 #[.string s, .string ⟨#[c]⟩] w fun e w' => e = .returned (.int .i64 (Lib.indexByte s.data.toList c)) ∧ w' = w := Any.strings_Index_one Tryd.lays143 s c w
open Go.RowKit Go.Lib in
/-- strings.Index: "Index returns the index of the first instance of substr in s, or -1 if substr is not present in s.": IT RETURNS 'Lib.index s substr'; the world is as it was. (LAID: no walk: one application.) -/
theorem Tryd.strings_Index (s sub : ByteArray) (m : Int) (w : World) (hs : s.size < 4294967281) (hm : w.cell? ⟨1, 0, none⟩ = some (.int .i64 m)) :
    Calls Tryd.prog 29 #[.string s, .string sub] w fun e w' => e = .returned (.int .i64 (Lib.index s.data.toList sub.data.toList)) ∧ w' = w := Any.strings_Index Tryd.lays143 s sub m w hs hm
def Tryd.lays144_ren : Go.Shelf.Ren := ⟨fun | 144 => 19 | 143 => 29 | 219 => 34 | 217 => 37 | 225 => 38 | 224 => 39 | 267 => 40 | 266 => 48 | 314 => 49 | n => n, fun | 9 => 9 | 4 => 4 | 3 => 3 | 5 => 5 | 46 => 60 | 146 => 71 | 51 => 65 | n => n, fun | 1 => 1 | n => n⟩
theorem Tryd.lays144 : Go.Proofs.Lays.n144 Tryd.prog Tryd.lays144_ren := {
  mixed := by kernel_rfl
  f143 := Tryd.func29.trans (congrArg some (by kernel_rfl))
  f144 := Tryd.func19.trans (congrArg some (by kernel_rfl))
  f217 := Tryd.func37.trans (congrArg some (by kernel_rfl))
  f219 := Tryd.func34.trans (congrArg some (by kernel_rfl))
  f224 := Tryd.func39.trans (congrArg some (by kernel_rfl))
  f225 := Tryd.func38.trans (congrArg some (by kernel_rfl))
  f266 := Tryd.func48.trans (congrArg some (by kernel_rfl))
  f267 := Tryd.func40.trans (congrArg some (by kernel_rfl))
  f314 := Tryd.func49.trans (congrArg some (by kernel_rfl))
  t3 := Tryd.underlying3
  a3 := Tryd.isAgg3
  z3 := Tryd.sizeOf3
  v3 := Tryd.zeroValue3
  t4 := Tryd.underlying4
  a4 := Tryd.isAgg4
  z4 := Tryd.sizeOf4
  v4 := Tryd.zeroValue4
  t5 := Tryd.underlying5
  a5 := Tryd.isAgg5
  z5 := Tryd.sizeOf5
  v5 := Tryd.zeroValue5
  t9 := Tryd.underlying9
  a9 := Tryd.isAgg9
  z9 := Tryd.sizeOf9
  v9 := Tryd.zeroValue9
  t46 := Tryd.underlying60
  a46 := Tryd.isAgg60
  z46 := Tryd.sizeOf60
  v46 := Tryd.zeroValue60
  t51 := Tryd.underlying65
  a51 := Tryd.isAgg65
  z51 := Tryd.sizeOf65
  v51 := Tryd.zeroValue65
  t146 := Tryd.underlying71
  a146 := Tryd.isAgg71
  z146 := Tryd.sizeOf71
  v146 := Tryd.zeroValue71
  g1 := by kernel_rfl }
open Go.RowKit Go.Lib in
/-- strings.Contains: "Contains reports whether substr is within s.": AT A substr OF ONE BYTE c: IT RETURNS 'decide (0 ≤ Lib.indexByte s c)'; the world is as it was. (LAID: no walk: one application.) -/
theorem Tryd.strings_Contains_one (s : ByteArray) (c : UInt8) (w : World) :
    Calls Tryd.prog 19 #[.string s, .string ⟨#[c]⟩] w fun e w' => e = .returned (.bool (decide (0 ≤ Lib.indexByte s.data.toList c))) ∧ w' = w := Any.strings_Contains_one Tryd.lays144 s c w
open Go.RowKit Go.Lib in
/-- strings.Contains: "Contains reports whether substr is within s.": IT RETURNS 'Lib.contains s substr'; the world is as it was. (LAID: no walk: one application.) -/
theorem Tryd.strings_Contains (s sub : ByteArray) (m : Int) (w : World) (hs : s.size < 4294967281) (hm : w.cell? ⟨1, 0, none⟩ = some (.int .i64 m)) :
    Calls Tryd.prog 19 #[.string s, .string sub] w fun e w' => e = .returned (.bool (Lib.contains s.data.toList sub.data.toList)) ∧ w' = w := Any.strings_Contains Tryd.lays144 s sub m w hs hm
def Tryd.laysM219_ren : Go.Shelf.Ren := ⟨fun | 219 => 34 | 217 => 37 | 225 => 38 | 224 => 39 | 267 => 40 | 266 => 48 | 314 => 49 | n => n, fun | 9 => 9 | 3 => 3 | 4 => 4 | 5 => 5 | 46 => 60 | 146 => 71 | 51 => 65 | n => n, fun | 1 => 1 | n => n⟩
theorem Tryd.laysM219 : Go.Proofs.LaysM.n219 Tryd.prog Tryd.laysM219_ren := {
  mixed := by kernel_rfl
  f217 := Tryd.func37.trans (congrArg some (by kernel_rfl))
  f219 := Tryd.func34.trans (congrArg some (by kernel_rfl))
  f224 := Tryd.func39.trans (congrArg some (by kernel_rfl))
  f225 := Tryd.func38.trans (congrArg some (by kernel_rfl))
  f266 := Tryd.func48.trans (congrArg some (by kernel_rfl))
  f267 := Tryd.func40.trans (congrArg some (by kernel_rfl))
  f314 := Tryd.func49.trans (congrArg some (by kernel_rfl))
  t3 := Tryd.underlying3
  a3 := Tryd.isAgg3
  z3 := Tryd.sizeOf3
  v3 := Tryd.zeroValue3
  t4 := Tryd.underlying4
  a4 := Tryd.isAgg4
  z4 := Tryd.sizeOf4
  v4 := Tryd.zeroValue4
  t5 := Tryd.underlying5
  a5 := Tryd.isAgg5
  z5 := Tryd.sizeOf5
  v5 := Tryd.zeroValue5
  t9 := Tryd.underlying9
  a9 := Tryd.isAgg9
  z9 := Tryd.sizeOf9
  v9 := Tryd.zeroValue9
  t46 := Tryd.underlying60
  a46 := Tryd.isAgg60
  z46 := Tryd.sizeOf60
  v46 := Tryd.zeroValue60
  t51 := Tryd.underlying65
  a51 := Tryd.isAgg65
  z51 := Tryd.sizeOf65
  v51 := Tryd.zeroValue65
  t146 := Tryd.underlying71
  a146 := Tryd.isAgg71
  z146 := Tryd.sizeOf71
  v146 := Tryd.zeroValue71
  g1 := by kernel_rfl
  i3 := by kernel_rfl
  i4 := by kernel_rfl
  i5 := by kernel_rfl
  i9 := by kernel_rfl
  i46 := by kernel_rfl
  i51 := by kernel_rfl
  i146 := by kernel_rfl
  m1 := by kernel_rfl
  s1_3 := fun w h => Go.Proofs.cell_of_shapedOpen_int (zero := #[.int .i64 0]) (t := 3) h (of_decide_eq_true (by kernel_rfl)) (by kernel_rfl) rfl (by kernel_rfl) (by kernel_rfl) Tryd.underlying3 }
open Go.RowKit Go.Lib in
theorem Tryd.stringslite_Index_shaped (s sub : ByteArray) (w : World) (h : w.ShapedOpen Tryd.prog) (hs : s.size < 4294967281) :
    Calls Tryd.prog 34 #[.string s, .string sub] w fun e w' => e = .returned (.int .i64 (Lib.index s.data.toList sub.data.toList)) ∧ w' = w := Any.stringslite_Index_shaped Tryd.laysM219 s sub w h hs
def Tryd.laysM143_ren : Go.Shelf.Ren := ⟨fun | 143 => 29 | 219 => 34 | 217 => 37 | 225 => 38 | 224 => 39 | 267 => 40 | 266 => 48 | 314 => 49 | n => n, fun | 9 => 9 | 3 => 3 | 4 => 4 | 5 => 5 | 46 => 60 | 146 => 71 | 51 => 65 | n => n, fun | 1 => 1 | n => n⟩
theorem Tryd.laysM143 : Go.Proofs.LaysM.n143 Tryd.prog Tryd.laysM143_ren := {
  mixed := by kernel_rfl
  f143 := Tryd.func29.trans (congrArg some (by kernel_rfl))
  f217 := Tryd.func37.trans (congrArg some (by kernel_rfl))
  f219 := Tryd.func34.trans (congrArg some (by kernel_rfl))
  f224 := Tryd.func39.trans (congrArg some (by kernel_rfl))
  f225 := Tryd.func38.trans (congrArg some (by kernel_rfl))
  f266 := Tryd.func48.trans (congrArg some (by kernel_rfl))
  f267 := Tryd.func40.trans (congrArg some (by kernel_rfl))
  f314 := Tryd.func49.trans (congrArg some (by kernel_rfl))
  t3 := Tryd.underlying3
  a3 := Tryd.isAgg3
  z3 := Tryd.sizeOf3
  v3 := Tryd.zeroValue3
  t4 := Tryd.underlying4
  a4 := Tryd.isAgg4
  z4 := Tryd.sizeOf4
  v4 := Tryd.zeroValue4
  t5 := Tryd.underlying5
  a5 := Tryd.isAgg5
  z5 := Tryd.sizeOf5
  v5 := Tryd.zeroValue5
  t9 := Tryd.underlying9
  a9 := Tryd.isAgg9
  z9 := Tryd.sizeOf9
  v9 := Tryd.zeroValue9
  t46 := Tryd.underlying60
  a46 := Tryd.isAgg60
  z46 := Tryd.sizeOf60
  v46 := Tryd.zeroValue60
  t51 := Tryd.underlying65
  a51 := Tryd.isAgg65
  z51 := Tryd.sizeOf65
  v51 := Tryd.zeroValue65
  t146 := Tryd.underlying71
  a146 := Tryd.isAgg71
  z146 := Tryd.sizeOf71
  v146 := Tryd.zeroValue71
  g1 := by kernel_rfl
  i3 := by kernel_rfl
  i4 := by kernel_rfl
  i5 := by kernel_rfl
  i9 := by kernel_rfl
  i46 := by kernel_rfl
  i51 := by kernel_rfl
  i146 := by kernel_rfl
  m1 := by kernel_rfl
  s1_3 := fun w h => Go.Proofs.cell_of_shapedOpen_int (zero := #[.int .i64 0]) (t := 3) h (of_decide_eq_true (by kernel_rfl)) (by kernel_rfl) rfl (by kernel_rfl) (by kernel_rfl) Tryd.underlying3 }
open Go.RowKit Go.Lib in
theorem Tryd.strings_Index_shaped (s sub : ByteArray) (w : World) (h : w.ShapedOpen Tryd.prog) (hs : s.size < 4294967281) :
    Calls Tryd.prog 29 #[.string s, .string sub] w fun e w' => e = .returned (.int .i64 (Lib.index s.data.toList sub.data.toList)) ∧ w' = w := Any.strings_Index_shaped Tryd.laysM143 s sub w h hs
def Tryd.laysM144_ren : Go.Shelf.Ren := ⟨fun | 144 => 19 | 143 => 29 | 219 => 34 | 217 => 37 | 225 => 38 | 224 => 39 | 267 => 40 | 266 => 48 | 314 => 49 | n => n, fun | 9 => 9 | 4 => 4 | 3 => 3 | 5 => 5 | 46 => 60 | 146 => 71 | 51 => 65 | n => n, fun | 1 => 1 | n => n⟩
theorem Tryd.laysM144 : Go.Proofs.LaysM.n144 Tryd.prog Tryd.laysM144_ren := {
  mixed := by kernel_rfl
  f143 := Tryd.func29.trans (congrArg some (by kernel_rfl))
  f144 := Tryd.func19.trans (congrArg some (by kernel_rfl))
  f217 := Tryd.func37.trans (congrArg some (by kernel_rfl))
  f219 := Tryd.func34.trans (congrArg some (by kernel_rfl))
  f224 := Tryd.func39.trans (congrArg some (by kernel_rfl))
  f225 := Tryd.func38.trans (congrArg some (by kernel_rfl))
  f266 := Tryd.func48.trans (congrArg some (by kernel_rfl))
  f267 := Tryd.func40.trans (congrArg some (by kernel_rfl))
  f314 := Tryd.func49.trans (congrArg some (by kernel_rfl))
  t3 := Tryd.underlying3
  a3 := Tryd.isAgg3
  z3 := Tryd.sizeOf3
  v3 := Tryd.zeroValue3
  t4 := Tryd.underlying4
  a4 := Tryd.isAgg4
  z4 := Tryd.sizeOf4
  v4 := Tryd.zeroValue4
  t5 := Tryd.underlying5
  a5 := Tryd.isAgg5
  z5 := Tryd.sizeOf5
  v5 := Tryd.zeroValue5
  t9 := Tryd.underlying9
  a9 := Tryd.isAgg9
  z9 := Tryd.sizeOf9
  v9 := Tryd.zeroValue9
  t46 := Tryd.underlying60
  a46 := Tryd.isAgg60
  z46 := Tryd.sizeOf60
  v46 := Tryd.zeroValue60
  t51 := Tryd.underlying65
  a51 := Tryd.isAgg65
  z51 := Tryd.sizeOf65
  v51 := Tryd.zeroValue65
  t146 := Tryd.underlying71
  a146 := Tryd.isAgg71
  z146 := Tryd.sizeOf71
  v146 := Tryd.zeroValue71
  g1 := by kernel_rfl
  i3 := by kernel_rfl
  i4 := by kernel_rfl
  i5 := by kernel_rfl
  i9 := by kernel_rfl
  i46 := by kernel_rfl
  i51 := by kernel_rfl
  i146 := by kernel_rfl
  m1 := by kernel_rfl
  s1_3 := fun w h => Go.Proofs.cell_of_shapedOpen_int (zero := #[.int .i64 0]) (t := 3) h (of_decide_eq_true (by kernel_rfl)) (by kernel_rfl) rfl (by kernel_rfl) (by kernel_rfl) Tryd.underlying3 }
open Go.RowKit Go.Lib in
theorem Tryd.strings_Contains_shaped (s sub : ByteArray) (w : World) (h : w.ShapedOpen Tryd.prog) (hs : s.size < 4294967281) :
    Calls Tryd.prog 19 #[.string s, .string sub] w fun e w' => e = .returned (.bool (Lib.contains s.data.toList sub.data.toList)) ∧ w' = w := Any.strings_Contains_shaped Tryd.laysM144 s sub w h hs
def Tryd.lays206_ren : Go.Shelf.Ren := ⟨fun | 206 => 30 | n => n, fun | 9 => 9 | 4 => 4 | 3 => 3 | n => n, fun | n => n⟩
theorem Tryd.lays206 : Go.Proofs.Lays.n206 Tryd.prog Tryd.lays206_ren := {
  mixed := by kernel_rfl
  f206 := Tryd.func30.trans (congrArg some (by kernel_rfl))
  t3 := Tryd.underlying3
  a3 := Tryd.isAgg3
  z3 := Tryd.sizeOf3
  v3 := Tryd.zeroValue3
  t4 := Tryd.underlying4
  a4 := Tryd.isAgg4
  z4 := Tryd.sizeOf4
  v4 := Tryd.zeroValue4
  t9 := Tryd.underlying9
  a9 := Tryd.isAgg9
  z9 := Tryd.sizeOf9
  v9 := Tryd.zeroValue9 }
open Go.RowKit Go.Lib in
/-- internal/stringslite.HasPrefix (what strings.HasPrefix calls). (LAID: no walk: one application.) -/
theorem Tryd.stringslite_HasPrefix (s p : ByteArray) (w : World) :
    Calls Tryd.prog 30 #[.string s, .string p] w fun e w' => e = .returned (.bool (Lib.hasPrefix s.data.toList p.data.toList)) ∧ w' = w := Any.stringslite_HasPrefix Tryd.lays206 s p w
def Tryd.lays99_ren : Go.Shelf.Ren := ⟨fun | 99 => 22 | 206 => 30 | n => n, fun | 9 => 9 | 4 => 4 | 3 => 3 | n => n, fun | n => n⟩
theorem Tryd.lays99 : Go.Proofs.Lays.n99 Tryd.prog Tryd.lays99_ren := {
  mixed := by kernel_rfl
  f99 := Tryd.func22.trans (congrArg some (by kernel_rfl))
  f206 := Tryd.func30.trans (congrArg some (by kernel_rfl))
  t3 := Tryd.underlying3
  a3 := Tryd.isAgg3
  z3 := Tryd.sizeOf3
  v3 := Tryd.zeroValue3
  t4 := Tryd.underlying4
  a4 := Tryd.isAgg4
  z4 := Tryd.sizeOf4
  v4 := Tryd.zeroValue4
  t9 := Tryd.underlying9
  a9 := Tryd.isAgg9
  z9 := Tryd.sizeOf9
  v9 := Tryd.zeroValue9 }
open Go.RowKit Go.Lib in
/-- strings.HasPrefix: "HasPrefix reports whether the string s begins with prefix.": IT RETURNS 'Lib.hasPrefix s prefix'; the world is as it was. (LAID: no walk: one application.) -/
theorem Tryd.strings_HasPrefix (s p : ByteArray) (w : World) :
    Calls Tryd.prog 22 #[.string s, .string p] w fun e w' => e = .returned (.bool (Lib.hasPrefix s.data.toList p.data.toList)) ∧ w' = w := Any.strings_HasPrefix Tryd.lays99 s p w
end Go.Proofs

/-
  The lexer's seat, 1: the environment in which its laws are run: the list of signs in old memory, strings.Contains known by the shelf's contract, and the laws' own 'lives'.
-/
set_option linter.unusedVariables false
set_option linter.unusedSimpArgs false
namespace Go.Proofs.YtiabpbememhdeaaDoor
open Go.Ai Go.RowKit

theorem funcs_ok : funcsOk Tryd.prog = true := by kernel_rfl

/-- The signs, in the order of the program's list. -/
def signs : List (List UInt8) := [[46, 46], [61, 61], [126, 61], [60, 61], [62, 61], [43], [45], [42], [47], [37], [61], [60], [62], [40], [41], [123], [125], [91], [93], [44], [59], [46], [35]]

/-- What old memory is known to hold. -/
def oldS : Addr → Option Value := fun a => if a.block = 0 ∧ a.spot = none then (signs[a.off]?).map fun l => .string ⟨l.toArray⟩ else none

/-- What strings.Contains and strings.HasPrefix answer. -/
def knownF : FuncId → Option (List Value → Option (Bool × Value)) := fun g =>
  if g = 19 then some fun l => match l with
    | [.string s, .string t] => some (decide (t.size = 1) || decide (s.size < 4294967281), .bool (Lib.contains s.data.toList t.data.toList))
    | _ => none
  else if g = 22 then some fun l => match l with
    | [.string s, .string t] => some (true, .bool (Lib.hasPrefix s.data.toList t.data.toList))
    | _ => none
  else if g = 53 then some fun l => match l with
    | [.int .u32 x] => some (decide (0 ≤ x ∧ x ≤ 4294967295), .int .i64 (Lib.bitLen x.toNat))
    | _ => none
  else if g = 51 then some fun l => match l with
    | [.int .u64 x] => some (decide (0 ≤ x ∧ x ≤ 18446744073709551615), .int .i64 (Lib.bitLen x.toNat))
    | _ => none
  else none

noncomputable def EL0 : Ai.Env := envOf Tryd.prog oldS knownF

end Go.Proofs.YtiabpbememhdeaaDoor

/-
  Making a number of its parts, 1: shifting.
-/
set_option linter.unusedVariables false
namespace Go.Proofs.YtiabpbememhdeaaDoor
open Go.Ai Go.RowKit
set_option maxRecDepth 100000

def fShifted : FuncId := 52
def fMake : FuncId := 43

abbrev AnswersU (g : FuncId) (n : Nat) (args : List Value) : Prop := ∀ s, ∃ x s', callN EL0 1000 n g args s = some (x, s') ∧ isInt .u64 x = true ∧ After s s' [] []

def lowOf (z n : Int) : Int := IntKind.u64.wrap (((BitVec.ofInt 64 z &&& BitVec.ofInt 64 (IntKind.u64.wrap (IntKind.u64.wrap (1 * 2 ^ min n.toNat 64) - 1))).toNat : Nat) : Int)
def halfOf (n : Int) : Int := IntKind.u64.wrap (1 * 2 ^ min (IntKind.i64.wrap (n - 1)).toNat 64)
def oddOf (z n : Int) : Bool := IntKind.u64.wrap (((BitVec.ofInt 64 (z.fdiv (2 ^ min n.toNat 64)) &&& BitVec.ofInt 64 1).toNat : Nat) : Int) == 1

theorem shifted_far (z n : Int) (h0 : 0 ≤ n) (h1 : n > 64) : AnswersU fShifted (3 + 1) [.int .u64 z, .bool false, .int .i64 n] := by
  intro s
  exact fnv_by (holds_nil s) [.yes 0 h0, .yes 0 h1, .m 0 0] [] _ (by kernel_rfl) (by kernel_rfl)
theorem shifted_gt (z n : Int) (h0 : 0 ≤ n) (h1 : ¬ n > 64) (h2 : 0 ≤ IntKind.i64.wrap (n - 1)) (h3 : lowOf z n > halfOf n) : AnswersU fShifted (3 + 1) [.int .u64 z, .bool false, .int .i64 n] := by
  intro s
  exact fnv_by (holds_nil s) [.yes 0 h0, .no 0 h1, .yes 0 h0, .yes 0 h2, .yes 0 h3, .yes 0 h3, .yes 0 h3, .yes 0 h3, .yes 0 h3, .yes 0 h3, .m 0 0] [] _ (by kernel_rfl) (by kernel_rfl)
theorem shifted_ne (z n : Int) (h0 : 0 ≤ n) (h1 : ¬ n > 64) (h2 : 0 ≤ IntKind.i64.wrap (n - 1)) (h3 : ¬ lowOf z n > halfOf n) (h4 : (lowOf z n == halfOf n) = false) : AnswersU fShifted (3 + 1) [.int .u64 z, .bool false, .int .i64 n] := by
  intro s
  exact fnv_by (holds_nil s) [.yes 0 h0, .no 0 h1, .yes 0 h0, .yes 0 h2, .no 0 h3, .no 0 h3, .no 0 h3, .no 0 h3, .is 0 h4, .is 0 h4, .is 0 h4, .no 0 h3, .is 0 h4, .no 0 h3, .m 0 0] [] _ (by kernel_rfl) (by kernel_rfl)
theorem shifted_odd (z n : Int) (h0 : 0 ≤ n) (h1 : ¬ n > 64) (h2 : 0 ≤ IntKind.i64.wrap (n - 1)) (h3 : ¬ lowOf z n > halfOf n) (h4 : (lowOf z n == halfOf n) = true) (h5 : oddOf z n = true) : AnswersU fShifted (3 + 1) [.int .u64 z, .bool false, .int .i64 n] := by
  intro s
  exact fnv_by (holds_nil s) [.yes 0 h0, .no 0 h1, .yes 0 h0, .yes 0 h2, .no 0 h3, .no 0 h3, .no 0 h3, .no 0 h3, .is 0 h4, .is 0 h4, .is 3 h4, .no 1 h3, .is 0 h4, .no 0 h3, .is 0 h5, .m 0 0] [] _ (by kernel_rfl) (by kernel_rfl)
theorem shifted_even (z n : Int) (h0 : 0 ≤ n) (h1 : ¬ n > 64) (h2 : 0 ≤ IntKind.i64.wrap (n - 1)) (h3 : ¬ lowOf z n > halfOf n) (h4 : (lowOf z n == halfOf n) = true) (h5 : oddOf z n = false) : AnswersU fShifted (3 + 1) [.int .u64 z, .bool false, .int .i64 n] := by
  intro s
  exact fnv_by (holds_nil s) [.yes 0 h0, .no 0 h1, .yes 0 h0, .yes 0 h2, .no 0 h3, .no 0 h3, .no 0 h3, .no 0 h3, .is 0 h4, .is 0 h4, .is 3 h4, .no 1 h3, .is 0 h4, .no 0 h3, .is 0 h5, .m 0 0] [] _ (by kernel_rfl) (by kernel_rfl)

theorem shifted_ok (z n : Int) (h0 : 0 < n) (hn : n < 2 ^ 40) : AnswersU fShifted (3 + 1) [.int .u64 z, .bool false, .int .i64 n] := by
  by_cases h1 : n > 64
  · exact shifted_far z n (by omega) h1
  · have h2 : 0 ≤ IntKind.i64.wrap (n - 1) := by rw [wrap_i64 (by omega) (by omega)]; omega
    by_cases h3 : lowOf z n > halfOf n
    · exact shifted_gt z n (by omega) h1 h2 h3
    · cases h4 : lowOf z n == halfOf n
      · exact shifted_ne z n (by omega) h1 h2 h3 h4
      · cases h5 : oddOf z n
        · exact shifted_even z n (by omega) h1 h2 h3 h4 h5
        · exact shifted_odd z n (by omega) h1 h2 h3 h4 h5

/-- What shifting comes to. -/
noncomputable def shiftedF (z n : Int) : Int := by
  classical
  exact if h : ∃ v s', callN EL0 1000 (3 + 1) fShifted [.int .u64 z, .bool false, .int .i64 n] .empty = some (.ok (.int .u64 v), s') then Classical.choose h else 0

theorem shiftedF_ok (z n : Int) (h0 : 0 < n) (hn : n < 2 ^ 40) : ∃ s', callN EL0 1000 (3 + 1) fShifted [.int .u64 z, .bool false, .int .i64 n] .empty = some (.ok (.int .u64 (shiftedF z n)), s') := by
  have h : ∃ v s', callN EL0 1000 (3 + 1) fShifted [.int .u64 z, .bool false, .int .i64 n] .empty = some (.ok (.int .u64 v), s') := by
    obtain ⟨x, s', h1, h2, _⟩ := shifted_ok z n h0 hn .empty
    obtain ⟨v, rfl⟩ := isInt_ok h2
    exact ⟨v, s', h1⟩
  unfold shiftedF
  rw [dif_pos h]
  exact Classical.choose_spec h

noncomputable def knownS1 : FuncId → Option (List Value → Option (Bool × Value)) := fun g =>
  if g = 52 then some fun l => match l with
    | [.int .u64 z, .bool false, .int .i64 n] => some (decide (0 < n ∧ n < 1099511627776), .int .u64 (shiftedF z n))
    | _ => none
  else knownF g

noncomputable def ES : Ai.Env := envOf Tryd.prog oldS knownS1

end Go.Proofs.YtiabpbememhdeaaDoor

/-
  Making a number of its parts, 2: it always comes to an end.
-/
set_option linter.unusedVariables false
namespace Go.Proofs.YtiabpbememhdeaaDoor
open Go.Ai Go.RowKit
set_option maxRecDepth 100000

abbrev AnswersM (e m : Int) : Prop := ∀ s, ∃ x s', callN ES 1000 (3 + 1) fMake [.bool false, .int .i64 e, .int .u64 m, .bool false] s = some (x, s') ∧ isInt .u64 x = true ∧ After s s' [] []

theorem make_zero (e m c1 c : Int) (k1 : (if (-1048576 : Int) > e then (-1048576 : Int) else e) = c1) (k2 : (if (1048576 : Int) < c1 then (1048576 : Int) else c1) = c) (h1 : (m == 0) = true) : AnswersM e m := by
  intro s
  exact fnv_by (holds_nil s) [.int 3 k1, .int 0 k2, .is 0 h1, .m 0 0] [] _ (by kernel_rfl) (by kernel_rfl)
theorem make_pos_top0 (e m c1 c n b1 b2 b3 c2 : Int) (k1 : (if (-1048576 : Int) > e then (-1048576 : Int) else e) = c1) (k2 : (if (1048576 : Int) < c1 then (1048576 : Int) else c1) = c) (h1 : (m == 0) = false) (h2 : 0 ≤ m ∧ m ≤ 18446744073709551615) (k3 : IntKind.i64.wrap ((Lib.bitLen m.toNat : Int) - 52) = b1) (k4 : IntKind.i64.wrap (b1 - 1) = b2) (k5 : IntKind.i64.wrap (-1074 - c) = b3) (k6 : (if b3 > b2 then b3 else b2) = n) (k7 : IntKind.i64.wrap (c + n) = c2) (h3 : n > 0) (h3' : 0 < n ∧ n < 1099511627776) (h6 : (shiftedF m n == 9007199254740992) = true) (c3 : Int) (k9 : IntKind.i64.wrap (c2 + 1) = c3) (h7 : ¬ c3 > 971) (h8 : 0 ≤ (52 : Int)) : AnswersM e m := by
  intro s
  exact fnv_by (holds_nil s) [.int 3 k1, .int 0 k2, .is 0 h1, .yes 0 h2, .int 0 k3, .int 0 k4, .int 1 k5, .int 0 k6, .yes 0 h3, .yes 0 h3', .int 3 k7, .is 0 h6, .int 1 k9, .no 1 h7, .m 0 0] [] _ (by kernel_rfl) (by kernel_rfl)
theorem make_pos_top1 (e m c1 c n b1 b2 b3 c2 : Int) (k1 : (if (-1048576 : Int) > e then (-1048576 : Int) else e) = c1) (k2 : (if (1048576 : Int) < c1 then (1048576 : Int) else c1) = c) (h1 : (m == 0) = false) (h2 : 0 ≤ m ∧ m ≤ 18446744073709551615) (k3 : IntKind.i64.wrap ((Lib.bitLen m.toNat : Int) - 52) = b1) (k4 : IntKind.i64.wrap (b1 - 1) = b2) (k5 : IntKind.i64.wrap (-1074 - c) = b3) (k6 : (if b3 > b2 then b3 else b2) = n) (k7 : IntKind.i64.wrap (c + n) = c2) (h3 : n > 0) (h3' : 0 < n ∧ n < 1099511627776) (h6 : (shiftedF m n == 9007199254740992) = true) (c3 : Int) (k9 : IntKind.i64.wrap (c2 + 1) = c3) (h7 :  c3 > 971) (h8 : 0 ≤ (52 : Int)) : AnswersM e m := by
  intro s
  exact fnv_by (holds_nil s) [.int 3 k1, .int 0 k2, .is 0 h1, .yes 0 h2, .int 0 k3, .int 0 k4, .int 1 k5, .int 0 k6, .yes 0 h3, .yes 0 h3', .int 3 k7, .is 0 h6, .int 1 k9, .yes 1 h7, .m 0 0] [] _ (by kernel_rfl) (by kernel_rfl)
theorem make_pos_nought (e m c1 c n b1 b2 b3 c2 : Int) (k1 : (if (-1048576 : Int) > e then (-1048576 : Int) else e) = c1) (k2 : (if (1048576 : Int) < c1 then (1048576 : Int) else c1) = c) (h1 : (m == 0) = false) (h2 : 0 ≤ m ∧ m ≤ 18446744073709551615) (k3 : IntKind.i64.wrap ((Lib.bitLen m.toNat : Int) - 52) = b1) (k4 : IntKind.i64.wrap (b1 - 1) = b2) (k5 : IntKind.i64.wrap (-1074 - c) = b3) (k6 : (if b3 > b2 then b3 else b2) = n) (k7 : IntKind.i64.wrap (c + n) = c2) (h3 : n > 0) (h3' : 0 < n ∧ n < 1099511627776) (h6 : (shiftedF m n == 9007199254740992) = false) (h7 : (shiftedF m n == 0) = true) : AnswersM e m := by
  intro s
  exact fnv_by (holds_nil s) [.int 3 k1, .int 0 k2, .is 0 h1, .yes 0 h2, .int 0 k3, .int 0 k4, .int 1 k5, .int 0 k6, .yes 0 h3, .yes 0 h3', .int 3 k7, .is 0 h6, .is 0 h7, .m 0 0] [] _ (by kernel_rfl) (by kernel_rfl)
theorem make_pos_inf (e m c1 c n b1 b2 b3 c2 : Int) (k1 : (if (-1048576 : Int) > e then (-1048576 : Int) else e) = c1) (k2 : (if (1048576 : Int) < c1 then (1048576 : Int) else c1) = c) (h1 : (m == 0) = false) (h2 : 0 ≤ m ∧ m ≤ 18446744073709551615) (k3 : IntKind.i64.wrap ((Lib.bitLen m.toNat : Int) - 52) = b1) (k4 : IntKind.i64.wrap (b1 - 1) = b2) (k5 : IntKind.i64.wrap (-1074 - c) = b3) (k6 : (if b3 > b2 then b3 else b2) = n) (k7 : IntKind.i64.wrap (c + n) = c2) (h3 : n > 0) (h3' : 0 < n ∧ n < 1099511627776) (h6 : (shiftedF m n == 9007199254740992) = false) (h7 : (shiftedF m n == 0) = false) (h8 : c2 > 971) : AnswersM e m := by
  intro s
  exact fnv_by (holds_nil s) [.int 3 k1, .int 0 k2, .is 0 h1, .yes 0 h2, .int 0 k3, .int 0 k4, .int 1 k5, .int 0 k6, .yes 0 h3, .yes 0 h3', .int 3 k7, .is 0 h6, .is 0 h7, .yes 0 h8, .m 0 0] [] _ (by kernel_rfl) (by kernel_rfl)
theorem make_pos_tiny (e m c1 c n b1 b2 b3 c2 : Int) (k1 : (if (-1048576 : Int) > e then (-1048576 : Int) else e) = c1) (k2 : (if (1048576 : Int) < c1 then (1048576 : Int) else c1) = c) (h1 : (m == 0) = false) (h2 : 0 ≤ m ∧ m ≤ 18446744073709551615) (k3 : IntKind.i64.wrap ((Lib.bitLen m.toNat : Int) - 52) = b1) (k4 : IntKind.i64.wrap (b1 - 1) = b2) (k5 : IntKind.i64.wrap (-1074 - c) = b3) (k6 : (if b3 > b2 then b3 else b2) = n) (k7 : IntKind.i64.wrap (c + n) = c2) (h3 : n > 0) (h3' : 0 < n ∧ n < 1099511627776) (h6 : (shiftedF m n == 9007199254740992) = false) (h7 : (shiftedF m n == 0) = false) (h8 : ¬ c2 > 971) (h9 : shiftedF m n < 4503599627370496) : AnswersM e m := by
  intro s
  exact fnv_by (holds_nil s) [.int 3 k1, .int 0 k2, .is 0 h1, .yes 0 h2, .int 0 k3, .int 0 k4, .int 1 k5, .int 0 k6, .yes 0 h3, .yes 0 h3', .int 3 k7, .is 0 h6, .is 0 h7, .no 0 h8, .yes 0 h9, .m 0 0] [] _ (by kernel_rfl) (by kernel_rfl)
theorem make_pos_plain (e m c1 c n b1 b2 b3 c2 : Int) (k1 : (if (-1048576 : Int) > e then (-1048576 : Int) else e) = c1) (k2 : (if (1048576 : Int) < c1 then (1048576 : Int) else c1) = c) (h1 : (m == 0) = false) (h2 : 0 ≤ m ∧ m ≤ 18446744073709551615) (k3 : IntKind.i64.wrap ((Lib.bitLen m.toNat : Int) - 52) = b1) (k4 : IntKind.i64.wrap (b1 - 1) = b2) (k5 : IntKind.i64.wrap (-1074 - c) = b3) (k6 : (if b3 > b2 then b3 else b2) = n) (k7 : IntKind.i64.wrap (c + n) = c2) (h3 : n > 0) (h3' : 0 < n ∧ n < 1099511627776) (h6 : (shiftedF m n == 9007199254740992) = false) (h7 : (shiftedF m n == 0) = false) (h8 : ¬ c2 > 971) (h9 : ¬ shiftedF m n < 4503599627370496) : AnswersM e m := by
  intro s
  exact fnv_by (holds_nil s) [.int 3 k1, .int 0 k2, .is 0 h1, .yes 0 h2, .int 0 k3, .int 0 k4, .int 1 k5, .int 0 k6, .yes 0 h3, .yes 0 h3', .int 3 k7, .is 0 h6, .is 0 h7, .no 0 h8, .no 0 h9, .m 0 0] [] _ (by kernel_rfl) (by kernel_rfl)
theorem make_zer_top0 (e m c1 c n b1 b2 b3 c2 : Int) (k1 : (if (-1048576 : Int) > e then (-1048576 : Int) else e) = c1) (k2 : (if (1048576 : Int) < c1 then (1048576 : Int) else c1) = c) (h1 : (m == 0) = false) (h2 : 0 ≤ m ∧ m ≤ 18446744073709551615) (k3 : IntKind.i64.wrap ((Lib.bitLen m.toNat : Int) - 52) = b1) (k4 : IntKind.i64.wrap (b1 - 1) = b2) (k5 : IntKind.i64.wrap (-1074 - c) = b3) (k6 : (if b3 > b2 then b3 else b2) = n) (k7 : IntKind.i64.wrap (c + n) = c2) (h3 : ¬ n > 0) (h4 : (n == 0) = true) (h6 : (m == 9007199254740992) = true) (c3 : Int) (k9 : IntKind.i64.wrap (c2 + 1) = c3) (h7 : ¬ c3 > 971) (h8 : 0 ≤ (52 : Int)) : AnswersM e m := by
  intro s
  exact fnv_by (holds_nil s) [.int 3 k1, .int 0 k2, .is 0 h1, .yes 0 h2, .int 0 k3, .int 0 k4, .int 1 k5, .int 0 k6, .no 0 h3, .is 0 h4, .int 2 k7, .is 0 h6, .int 1 k9, .no 1 h7, .m 0 0] [] _ (by kernel_rfl) (by kernel_rfl)
theorem make_zer_top1 (e m c1 c n b1 b2 b3 c2 : Int) (k1 : (if (-1048576 : Int) > e then (-1048576 : Int) else e) = c1) (k2 : (if (1048576 : Int) < c1 then (1048576 : Int) else c1) = c) (h1 : (m == 0) = false) (h2 : 0 ≤ m ∧ m ≤ 18446744073709551615) (k3 : IntKind.i64.wrap ((Lib.bitLen m.toNat : Int) - 52) = b1) (k4 : IntKind.i64.wrap (b1 - 1) = b2) (k5 : IntKind.i64.wrap (-1074 - c) = b3) (k6 : (if b3 > b2 then b3 else b2) = n) (k7 : IntKind.i64.wrap (c + n) = c2) (h3 : ¬ n > 0) (h4 : (n == 0) = true) (h6 : (m == 9007199254740992) = true) (c3 : Int) (k9 : IntKind.i64.wrap (c2 + 1) = c3) (h7 :  c3 > 971) (h8 : 0 ≤ (52 : Int)) : AnswersM e m := by
  intro s
  exact fnv_by (holds_nil s) [.int 3 k1, .int 0 k2, .is 0 h1, .yes 0 h2, .int 0 k3, .int 0 k4, .int 1 k5, .int 0 k6, .no 0 h3, .is 0 h4, .int 2 k7, .is 0 h6, .int 1 k9, .yes 1 h7, .m 0 0] [] _ (by kernel_rfl) (by kernel_rfl)
theorem make_zer_nought (e m c1 c n b1 b2 b3 c2 : Int) (k1 : (if (-1048576 : Int) > e then (-1048576 : Int) else e) = c1) (k2 : (if (1048576 : Int) < c1 then (1048576 : Int) else c1) = c) (h1 : (m == 0) = false) (h2 : 0 ≤ m ∧ m ≤ 18446744073709551615) (k3 : IntKind.i64.wrap ((Lib.bitLen m.toNat : Int) - 52) = b1) (k4 : IntKind.i64.wrap (b1 - 1) = b2) (k5 : IntKind.i64.wrap (-1074 - c) = b3) (k6 : (if b3 > b2 then b3 else b2) = n) (k7 : IntKind.i64.wrap (c + n) = c2) (h3 : ¬ n > 0) (h4 : (n == 0) = true) (h6 : (m == 9007199254740992) = false) (h7 : (m == 0) = true) : AnswersM e m := by
  intro s
  exact fnv_by (holds_nil s) [.int 3 k1, .int 0 k2, .is 0 h1, .yes 0 h2, .int 0 k3, .int 0 k4, .int 1 k5, .int 0 k6, .no 0 h3, .is 0 h4, .int 2 k7, .is 0 h6, .is 0 h7, .m 0 0] [] _ (by kernel_rfl) (by kernel_rfl)
theorem make_zer_inf (e m c1 c n b1 b2 b3 c2 : Int) (k1 : (if (-1048576 : Int) > e then (-1048576 : Int) else e) = c1) (k2 : (if (1048576 : Int) < c1 then (1048576 : Int) else c1) = c) (h1 : (m == 0) = false) (h2 : 0 ≤ m ∧ m ≤ 18446744073709551615) (k3 : IntKind.i64.wrap ((Lib.bitLen m.toNat : Int) - 52) = b1) (k4 : IntKind.i64.wrap (b1 - 1) = b2) (k5 : IntKind.i64.wrap (-1074 - c) = b3) (k6 : (if b3 > b2 then b3 else b2) = n) (k7 : IntKind.i64.wrap (c + n) = c2) (h3 : ¬ n > 0) (h4 : (n == 0) = true) (h6 : (m == 9007199254740992) = false) (h7 : (m == 0) = false) (h8 : c2 > 971) : AnswersM e m := by
  intro s
  exact fnv_by (holds_nil s) [.int 3 k1, .int 0 k2, .is 0 h1, .yes 0 h2, .int 0 k3, .int 0 k4, .int 1 k5, .int 0 k6, .no 0 h3, .is 0 h4, .int 2 k7, .is 0 h6, .is 0 h7, .yes 0 h8, .m 0 0] [] _ (by kernel_rfl) (by kernel_rfl)
theorem make_zer_tiny (e m c1 c n b1 b2 b3 c2 : Int) (k1 : (if (-1048576 : Int) > e then (-1048576 : Int) else e) = c1) (k2 : (if (1048576 : Int) < c1 then (1048576 : Int) else c1) = c) (h1 : (m == 0) = false) (h2 : 0 ≤ m ∧ m ≤ 18446744073709551615) (k3 : IntKind.i64.wrap ((Lib.bitLen m.toNat : Int) - 52) = b1) (k4 : IntKind.i64.wrap (b1 - 1) = b2) (k5 : IntKind.i64.wrap (-1074 - c) = b3) (k6 : (if b3 > b2 then b3 else b2) = n) (k7 : IntKind.i64.wrap (c + n) = c2) (h3 : ¬ n > 0) (h4 : (n == 0) = true) (h6 : (m == 9007199254740992) = false) (h7 : (m == 0) = false) (h8 : ¬ c2 > 971) (h9 : m < 4503599627370496) : AnswersM e m := by
  intro s
  exact fnv_by (holds_nil s) [.int 3 k1, .int 0 k2, .is 0 h1, .yes 0 h2, .int 0 k3, .int 0 k4, .int 1 k5, .int 0 k6, .no 0 h3, .is 0 h4, .int 2 k7, .is 0 h6, .is 0 h7, .no 0 h8, .yes 0 h9, .m 0 0] [] _ (by kernel_rfl) (by kernel_rfl)
theorem make_zer_plain (e m c1 c n b1 b2 b3 c2 : Int) (k1 : (if (-1048576 : Int) > e then (-1048576 : Int) else e) = c1) (k2 : (if (1048576 : Int) < c1 then (1048576 : Int) else c1) = c) (h1 : (m == 0) = false) (h2 : 0 ≤ m ∧ m ≤ 18446744073709551615) (k3 : IntKind.i64.wrap ((Lib.bitLen m.toNat : Int) - 52) = b1) (k4 : IntKind.i64.wrap (b1 - 1) = b2) (k5 : IntKind.i64.wrap (-1074 - c) = b3) (k6 : (if b3 > b2 then b3 else b2) = n) (k7 : IntKind.i64.wrap (c + n) = c2) (h3 : ¬ n > 0) (h4 : (n == 0) = true) (h6 : (m == 9007199254740992) = false) (h7 : (m == 0) = false) (h8 : ¬ c2 > 971) (h9 : ¬ m < 4503599627370496) : AnswersM e m := by
  intro s
  exact fnv_by (holds_nil s) [.int 3 k1, .int 0 k2, .is 0 h1, .yes 0 h2, .int 0 k3, .int 0 k4, .int 1 k5, .int 0 k6, .no 0 h3, .is 0 h4, .int 2 k7, .is 0 h6, .is 0 h7, .no 0 h8, .no 0 h9, .m 0 0] [] _ (by kernel_rfl) (by kernel_rfl)
theorem make_neg_top0 (e m c1 c n b1 b2 b3 c2 : Int) (k1 : (if (-1048576 : Int) > e then (-1048576 : Int) else e) = c1) (k2 : (if (1048576 : Int) < c1 then (1048576 : Int) else c1) = c) (h1 : (m == 0) = false) (h2 : 0 ≤ m ∧ m ≤ 18446744073709551615) (k3 : IntKind.i64.wrap ((Lib.bitLen m.toNat : Int) - 52) = b1) (k4 : IntKind.i64.wrap (b1 - 1) = b2) (k5 : IntKind.i64.wrap (-1074 - c) = b3) (k6 : (if b3 > b2 then b3 else b2) = n) (k7 : IntKind.i64.wrap (c + n) = c2) (h3 : ¬ n > 0) (h4 : (n == 0) = false) (nn : Int) (k8 : IntKind.i64.wrap (0 - n) = nn) (h5 : 0 ≤ nn) (h6 : ((IntKind.u64.wrap (m * 2 ^ min nn.toNat 64)) == 9007199254740992) = true) (c3 : Int) (k9 : IntKind.i64.wrap (c2 + 1) = c3) (h7 : ¬ c3 > 971) (h8 : 0 ≤ (52 : Int)) : AnswersM e m := by
  intro s
  exact fnv_by (holds_nil s) [.int 3 k1, .int 0 k2, .is 0 h1, .yes 0 h2, .int 0 k3, .int 0 k4, .int 1 k5, .int 0 k6, .no 0 h3, .is 0 h4, .int 2 k8, .yes 0 h5, .int 4 k7, .is 0 h6, .int 1 k9, .no 1 h7, .m 0 0] [] _ (by kernel_rfl) (by kernel_rfl)
theorem make_neg_top1 (e m c1 c n b1 b2 b3 c2 : Int) (k1 : (if (-1048576 : Int) > e then (-1048576 : Int) else e) = c1) (k2 : (if (1048576 : Int) < c1 then (1048576 : Int) else c1) = c) (h1 : (m == 0) = false) (h2 : 0 ≤ m ∧ m ≤ 18446744073709551615) (k3 : IntKind.i64.wrap ((Lib.bitLen m.toNat : Int) - 52) = b1) (k4 : IntKind.i64.wrap (b1 - 1) = b2) (k5 : IntKind.i64.wrap (-1074 - c) = b3) (k6 : (if b3 > b2 then b3 else b2) = n) (k7 : IntKind.i64.wrap (c + n) = c2) (h3 : ¬ n > 0) (h4 : (n == 0) = false) (nn : Int) (k8 : IntKind.i64.wrap (0 - n) = nn) (h5 : 0 ≤ nn) (h6 : ((IntKind.u64.wrap (m * 2 ^ min nn.toNat 64)) == 9007199254740992) = true) (c3 : Int) (k9 : IntKind.i64.wrap (c2 + 1) = c3) (h7 :  c3 > 971) (h8 : 0 ≤ (52 : Int)) : AnswersM e m := by
  intro s
  exact fnv_by (holds_nil s) [.int 3 k1, .int 0 k2, .is 0 h1, .yes 0 h2, .int 0 k3, .int 0 k4, .int 1 k5, .int 0 k6, .no 0 h3, .is 0 h4, .int 2 k8, .yes 0 h5, .int 4 k7, .is 0 h6, .int 1 k9, .yes 1 h7, .m 0 0] [] _ (by kernel_rfl) (by kernel_rfl)
theorem make_neg_nought (e m c1 c n b1 b2 b3 c2 : Int) (k1 : (if (-1048576 : Int) > e then (-1048576 : Int) else e) = c1) (k2 : (if (1048576 : Int) < c1 then (1048576 : Int) else c1) = c) (h1 : (m == 0) = false) (h2 : 0 ≤ m ∧ m ≤ 18446744073709551615) (k3 : IntKind.i64.wrap ((Lib.bitLen m.toNat : Int) - 52) = b1) (k4 : IntKind.i64.wrap (b1 - 1) = b2) (k5 : IntKind.i64.wrap (-1074 - c) = b3) (k6 : (if b3 > b2 then b3 else b2) = n) (k7 : IntKind.i64.wrap (c + n) = c2) (h3 : ¬ n > 0) (h4 : (n == 0) = false) (nn : Int) (k8 : IntKind.i64.wrap (0 - n) = nn) (h5 : 0 ≤ nn) (h6 : ((IntKind.u64.wrap (m * 2 ^ min nn.toNat 64)) == 9007199254740992) = false) (h7 : ((IntKind.u64.wrap (m * 2 ^ min nn.toNat 64)) == 0) = true) : AnswersM e m := by
  intro s
  exact fnv_by (holds_nil s) [.int 3 k1, .int 0 k2, .is 0 h1, .yes 0 h2, .int 0 k3, .int 0 k4, .int 1 k5, .int 0 k6, .no 0 h3, .is 0 h4, .int 2 k8, .yes 0 h5, .int 4 k7, .is 0 h6, .is 0 h7, .m 0 0] [] _ (by kernel_rfl) (by kernel_rfl)
theorem make_neg_inf (e m c1 c n b1 b2 b3 c2 : Int) (k1 : (if (-1048576 : Int) > e then (-1048576 : Int) else e) = c1) (k2 : (if (1048576 : Int) < c1 then (1048576 : Int) else c1) = c) (h1 : (m == 0) = false) (h2 : 0 ≤ m ∧ m ≤ 18446744073709551615) (k3 : IntKind.i64.wrap ((Lib.bitLen m.toNat : Int) - 52) = b1) (k4 : IntKind.i64.wrap (b1 - 1) = b2) (k5 : IntKind.i64.wrap (-1074 - c) = b3) (k6 : (if b3 > b2 then b3 else b2) = n) (k7 : IntKind.i64.wrap (c + n) = c2) (h3 : ¬ n > 0) (h4 : (n == 0) = false) (nn : Int) (k8 : IntKind.i64.wrap (0 - n) = nn) (h5 : 0 ≤ nn) (h6 : ((IntKind.u64.wrap (m * 2 ^ min nn.toNat 64)) == 9007199254740992) = false) (h7 : ((IntKind.u64.wrap (m * 2 ^ min nn.toNat 64)) == 0) = false) (h8 : c2 > 971) : AnswersM e m := by
  intro s
  exact fnv_by (holds_nil s) [.int 3 k1, .int 0 k2, .is 0 h1, .yes 0 h2, .int 0 k3, .int 0 k4, .int 1 k5, .int 0 k6, .no 0 h3, .is 0 h4, .int 2 k8, .yes 0 h5, .int 4 k7, .is 0 h6, .is 0 h7, .yes 0 h8, .m 0 0] [] _ (by kernel_rfl) (by kernel_rfl)
theorem make_neg_tiny (e m c1 c n b1 b2 b3 c2 : Int) (k1 : (if (-1048576 : Int) > e then (-1048576 : Int) else e) = c1) (k2 : (if (1048576 : Int) < c1 then (1048576 : Int) else c1) = c) (h1 : (m == 0) = false) (h2 : 0 ≤ m ∧ m ≤ 18446744073709551615) (k3 : IntKind.i64.wrap ((Lib.bitLen m.toNat : Int) - 52) = b1) (k4 : IntKind.i64.wrap (b1 - 1) = b2) (k5 : IntKind.i64.wrap (-1074 - c) = b3) (k6 : (if b3 > b2 then b3 else b2) = n) (k7 : IntKind.i64.wrap (c + n) = c2) (h3 : ¬ n > 0) (h4 : (n == 0) = false) (nn : Int) (k8 : IntKind.i64.wrap (0 - n) = nn) (h5 : 0 ≤ nn) (h6 : ((IntKind.u64.wrap (m * 2 ^ min nn.toNat 64)) == 9007199254740992) = false) (h7 : ((IntKind.u64.wrap (m * 2 ^ min nn.toNat 64)) == 0) = false) (h8 : ¬ c2 > 971) (h9 : (IntKind.u64.wrap (m * 2 ^ min nn.toNat 64)) < 4503599627370496) : AnswersM e m := by
  intro s
  exact fnv_by (holds_nil s) [.int 3 k1, .int 0 k2, .is 0 h1, .yes 0 h2, .int 0 k3, .int 0 k4, .int 1 k5, .int 0 k6, .no 0 h3, .is 0 h4, .int 2 k8, .yes 0 h5, .int 4 k7, .is 0 h6, .is 0 h7, .no 0 h8, .yes 0 h9, .m 0 0] [] _ (by kernel_rfl) (by kernel_rfl)
theorem make_neg_plain (e m c1 c n b1 b2 b3 c2 : Int) (k1 : (if (-1048576 : Int) > e then (-1048576 : Int) else e) = c1) (k2 : (if (1048576 : Int) < c1 then (1048576 : Int) else c1) = c) (h1 : (m == 0) = false) (h2 : 0 ≤ m ∧ m ≤ 18446744073709551615) (k3 : IntKind.i64.wrap ((Lib.bitLen m.toNat : Int) - 52) = b1) (k4 : IntKind.i64.wrap (b1 - 1) = b2) (k5 : IntKind.i64.wrap (-1074 - c) = b3) (k6 : (if b3 > b2 then b3 else b2) = n) (k7 : IntKind.i64.wrap (c + n) = c2) (h3 : ¬ n > 0) (h4 : (n == 0) = false) (nn : Int) (k8 : IntKind.i64.wrap (0 - n) = nn) (h5 : 0 ≤ nn) (h6 : ((IntKind.u64.wrap (m * 2 ^ min nn.toNat 64)) == 9007199254740992) = false) (h7 : ((IntKind.u64.wrap (m * 2 ^ min nn.toNat 64)) == 0) = false) (h8 : ¬ c2 > 971) (h9 : ¬ (IntKind.u64.wrap (m * 2 ^ min nn.toNat 64)) < 4503599627370496) : AnswersM e m := by
  intro s
  exact fnv_by (holds_nil s) [.int 3 k1, .int 0 k2, .is 0 h1, .yes 0 h2, .int 0 k3, .int 0 k4, .int 1 k5, .int 0 k6, .no 0 h3, .is 0 h4, .int 2 k8, .yes 0 h5, .int 4 k7, .is 0 h6, .is 0 h7, .no 0 h8, .no 0 h9, .m 0 0] [] _ (by kernel_rfl) (by kernel_rfl)

theorem bitLenAux_le' : ∀ (f x : Nat), Lib.bitLenAux f x ≤ f
  | 0, x => Nat.le_refl _
  | f + 1, x => by
      unfold Lib.bitLenAux
      split
      · omega
      · have := bitLenAux_le' f (x / 2); omega

theorem make_ok (e m : Int) (h2 : 0 ≤ m ∧ m ≤ 18446744073709551615) (he : -(2 ^ 62) ≤ e ∧ e ≤ 2 ^ 62) : AnswersM e m := by
  have hc1 : (if (-1048576 : Int) > e then (-1048576 : Int) else e) = (if (-1048576 : Int) > e then (-1048576 : Int) else e) := rfl
  generalize hg1 : (if (-1048576 : Int) > e then (-1048576 : Int) else e) = c1 at hc1
  generalize hg2 : (if (1048576 : Int) < c1 then (1048576 : Int) else c1) = c
  have hcr : -1048576 ≤ c ∧ c ≤ 1048576 := by
    constructor
    · rw [← hg2]; split
      · omega
      · rw [← hg1]; split <;> omega
    · rw [← hg2]; split <;> omega
  cases h1 : m == 0
  case true => exact make_zero e m c1 c hg1 hg2 h1
  case false =>
    have hl : Lib.bitLen m.toNat ≤ 64 := bitLenAux_le' 64 m.toNat
    have k3 : IntKind.i64.wrap ((Lib.bitLen m.toNat : Int) - 52) = (Lib.bitLen m.toNat : Int) - 52 := wrap_i64 (by omega) (by omega)
    have k4 : IntKind.i64.wrap ((Lib.bitLen m.toNat : Int) - 52 - 1) = (Lib.bitLen m.toNat : Int) - 52 - 1 := wrap_i64 (by omega) (by omega)
    have k5 : IntKind.i64.wrap (-1074 - c) = -1074 - c := wrap_i64 (by omega) (by omega)
    generalize k6 : (if -1074 - c > (Lib.bitLen m.toNat : Int) - 52 - 1 then -1074 - c else (Lib.bitLen m.toNat : Int) - 52 - 1) = n
    have hn : -53 ≤ n ∧ n < 2000000 := by
      rw [← k6]; split <;> omega
    have k7 : IntKind.i64.wrap (c + n) = c + n := wrap_i64 (by omega) (by omega)
    have k9 : IntKind.i64.wrap (c + n + 1) = c + n + 1 := wrap_i64 (by omega) (by omega)
    by_cases h3 : n > 0
    · have h3' : 0 < n ∧ n < 1099511627776 := by omega
      cases h6 : shiftedF m n == 9007199254740992
      · cases h7 : shiftedF m n == 0
        · by_cases h8 : c + n > 971
          · exact make_pos_inf e m c1 c n _ _ _ (c + n) hg1 hg2 h1 h2 k3 k4 k5 k6 k7 h3 h3' h6 h7 h8
          · by_cases h9 : shiftedF m n < 4503599627370496
            · exact make_pos_tiny e m c1 c n _ _ _ (c + n) hg1 hg2 h1 h2 k3 k4 k5 k6 k7 h3 h3' h6 h7 h8 h9
            · exact make_pos_plain e m c1 c n _ _ _ (c + n) hg1 hg2 h1 h2 k3 k4 k5 k6 k7 h3 h3' h6 h7 h8 h9
        · exact make_pos_nought e m c1 c n _ _ _ (c + n) hg1 hg2 h1 h2 k3 k4 k5 k6 k7 h3 h3' h6 h7
      · by_cases h7 : c + n + 1 > 971
        · exact make_pos_top1 e m c1 c n _ _ _ (c + n) hg1 hg2 h1 h2 k3 k4 k5 k6 k7 h3 h3' h6 _ k9 h7 (by omega)
        · exact make_pos_top0 e m c1 c n _ _ _ (c + n) hg1 hg2 h1 h2 k3 k4 k5 k6 k7 h3 h3' h6 _ k9 h7 (by omega)
    · cases h4 : n == 0
      · have h40 : n ≠ 0 := by simpa using h4
        have k8 : IntKind.i64.wrap (0 - n) = -n := by rw [wrap_i64 (by omega) (by omega)]; omega
        have h5 : 0 ≤ -n := by omega
        cases h6 : (IntKind.u64.wrap (m * 2 ^ min (-n).toNat 64)) == 9007199254740992
        · cases h7 : (IntKind.u64.wrap (m * 2 ^ min (-n).toNat 64)) == 0
          · by_cases h8 : c + n > 971
            · exact make_neg_inf e m c1 c n _ _ _ (c + n) hg1 hg2 h1 h2 k3 k4 k5 k6 k7 h3 h4 (-n) k8 h5 h6 h7 h8
            · by_cases h9 : (IntKind.u64.wrap (m * 2 ^ min (-n).toNat 64)) < 4503599627370496
              · exact make_neg_tiny e m c1 c n _ _ _ (c + n) hg1 hg2 h1 h2 k3 k4 k5 k6 k7 h3 h4 (-n) k8 h5 h6 h7 h8 h9
              · exact make_neg_plain e m c1 c n _ _ _ (c + n) hg1 hg2 h1 h2 k3 k4 k5 k6 k7 h3 h4 (-n) k8 h5 h6 h7 h8 h9
          · exact make_neg_nought e m c1 c n _ _ _ (c + n) hg1 hg2 h1 h2 k3 k4 k5 k6 k7 h3 h4 (-n) k8 h5 h6 h7
        · by_cases h7 : c + n + 1 > 971
          · exact make_neg_top1 e m c1 c n _ _ _ (c + n) hg1 hg2 h1 h2 k3 k4 k5 k6 k7 h3 h4 (-n) k8 h5 h6 _ k9 h7 (by omega)
          · exact make_neg_top0 e m c1 c n _ _ _ (c + n) hg1 hg2 h1 h2 k3 k4 k5 k6 k7 h3 h4 (-n) k8 h5 h6 _ k9 h7 (by omega)
      · cases h6 : m == 9007199254740992
        · cases h7 : m == 0
          · by_cases h8 : c + n > 971
            · exact make_zer_inf e m c1 c n _ _ _ (c + n) hg1 hg2 h1 h2 k3 k4 k5 k6 k7 h3 h4 h6 h7 h8
            · by_cases h9 : m < 4503599627370496
              · exact make_zer_tiny e m c1 c n _ _ _ (c + n) hg1 hg2 h1 h2 k3 k4 k5 k6 k7 h3 h4 h6 h7 h8 h9
              · exact make_zer_plain e m c1 c n _ _ _ (c + n) hg1 hg2 h1 h2 k3 k4 k5 k6 k7 h3 h4 h6 h7 h8 h9
          · exact make_zer_nought e m c1 c n _ _ _ (c + n) hg1 hg2 h1 h2 k3 k4 k5 k6 k7 h3 h4 h6 h7
        · by_cases h7 : c + n + 1 > 971
          · exact make_zer_top1 e m c1 c n _ _ _ (c + n) hg1 hg2 h1 h2 k3 k4 k5 k6 k7 h3 h4 h6 _ k9 h7 (by omega)
          · exact make_zer_top0 e m c1 c n _ _ _ (c + n) hg1 hg2 h1 h2 k3 k4 k5 k6 k7 h3 h4 h6 _ k9 h7 (by omega)

/-- What making comes to. -/
noncomputable def makeF (e m : Int) : Int := by
  classical
  exact if h : ∃ v s', callN ES 1000 (3 + 1) fMake [.bool false, .int .i64 e, .int .u64 m, .bool false] .empty = some (.ok (.int .u64 v), s') then Classical.choose h else 0

theorem makeF_ok (e m : Int) (h2 : 0 ≤ m ∧ m ≤ 18446744073709551615) (he : -(2 ^ 62) ≤ e ∧ e ≤ 2 ^ 62) : ∃ s', callN ES 1000 (3 + 1) fMake [.bool false, .int .i64 e, .int .u64 m, .bool false] .empty = some (.ok (.int .u64 (makeF e m)), s') := by
  have h : ∃ v s', callN ES 1000 (3 + 1) fMake [.bool false, .int .i64 e, .int .u64 m, .bool false] .empty = some (.ok (.int .u64 v), s') := by
    obtain ⟨x, s', h1, h2, _⟩ := make_ok e m h2 he .empty
    obtain ⟨v, rfl⟩ := isInt_ok h2
    exact ⟨v, s', h1⟩
  unfold makeF
  rw [dif_pos h]
  exact Classical.choose_spec h

noncomputable def knownM : FuncId → Option (List Value → Option (Bool × Value)) := fun g =>
  if g = 43 then some fun l => match l with
    | [.bool false, .int .i64 e, .int .u64 m, .bool false] => some (decide ((0 ≤ m ∧ m ≤ 18446744073709551615) ∧ -(2 ^ 62) ≤ e ∧ e ≤ 2 ^ 62), .int .u64 (makeF e m))
    | _ => none
  else knownS1 g

noncomputable def EL : Ai.Env := envOf Tryd.prog oldS knownM

end Go.Proofs.YtiabpbememhdeaaDoor

/-
  Numbers as decimal texts, walked, 1: whole numbers of any size: 'trim'.
-/
set_option linter.unusedVariables false
namespace Go.Proofs.YtiabpbememhdeaaDoor
open Go.Ai Go.RowKit
set_option maxRecDepth 100000

abbrev NN : Nat := 1048576
def fTrim : FuncId := 50
noncomputable def trimL : Code := loopAt Tryd.prog fTrim 0

theorem trimGo (f j : Nat) (cells : List Value) (m : Nat) (d : List Deferred) (rest : Nat → Value) (s : St) (hov : Holds s [(f, rowU cells)]) (h1 : ((j + 1 : Nat) : Int) > 0) (h2 : IntKind.i64.wrap (((j + 1 : Nat) : Int) - 1) = (j : Int)) (h3 : 0 ≤ (j : Int) ∧ (j : Int) < ((j + 1 : Nat) : Int))
    (h4 : cells[0 + j * 1]? = some (.int .u32 0)) (h5 : 0 ≤ (j : Int)) (h6 : j ≤ j + 1) :
    ∃ rest' s', evalCode EL (callN EL NN m) NN trimL { tmps := tmpsOf 21 [(0, sl f 0 (j + 1))] rest, defers := d } s = some (.normal, { tmps := tmpsOf 21 [(0, sl f 0 j)] rest', defers := d }, s') ∧ After s s' [f] [(f, rowU cells)] := by
  have h4' := load1 h4
  exact round_by hov [.yes 0 h1, .yes 0 h1, .yes 0 h1, .yes 0 h1, .int 0 h2, .yes 0 h1, .yes 0 h3, .yes 0 h1, .m 0 0, .list 0 h4', .yes 0 h1, .yes 0 h1, .int 1 h2, .m 0 0, .yes 1 h6, .m 0 0] [0] (by kernel_rfl)
theorem trimStop (f j : Nat) (cells : List Value) (z : Int) (m : Nat) (d : List Deferred) (rest : Nat → Value) (s : St) (hov : Holds s [(f, rowU cells)]) (h1 : ((j + 1 : Nat) : Int) > 0) (h2 : IntKind.i64.wrap (((j + 1 : Nat) : Int) - 1) = (j : Int)) (h3 : 0 ≤ (j : Int) ∧ (j : Int) < ((j + 1 : Nat) : Int))
    (h4 : cells[0 + j * 1]? = some (.int .u32 z)) (h5 : (z == 0) = false) :
    ∃ rest' s', evalCode EL (callN EL NN m) NN trimL { tmps := tmpsOf 21 [(0, sl f 0 (j + 1))] rest, defers := d } s = some (.exit 0, { tmps := tmpsOf 21 [(0, sl f 0 (j + 1))] rest', defers := d }, s') ∧ After s s' [f] [(f, rowU cells)] := by
  have h4' := load1 h4
  exact round_by hov [.yes 0 h1, .yes 0 h1, .yes 0 h1, .yes 0 h1, .int 0 h2, .yes 0 h1, .yes 0 h3, .yes 0 h1, .m 0 0, .list 0 h4', .yes 0 h1, .yes 0 h1, .is 0 h5, .m 0 0] [0] (by kernel_rfl)
theorem trimEmpty (f : Nat) (cells : List Value) (m : Nat) (d : List Deferred) (rest : Nat → Value) (s : St) (hov : Holds s [(f, rowU cells)]) :
    ∃ rest' s', evalCode EL (callN EL NN m) NN trimL { tmps := tmpsOf 21 [(0, sl f 0 0)] rest, defers := d } s = some (.exit 0, { tmps := tmpsOf 21 [(0, sl f 0 0)] rest', defers := d }, s') ∧ After s s' [f] [(f, rowU cells)] := by
  exact round_by hov [.m 0 0] [0] (by kernel_rfl)

/-- How long a number is without noughts highest. -/
def trimTo (cells : List Value) : Nat → Nat
  | 0 => 0
  | k + 1 => match cells[k]? with
    | some (.int .u32 z) => if z == 0 then trimTo cells k else k + 1
    | _ => k + 1

theorem trimTo_le (cells : List Value) : ∀ k, trimTo cells k ≤ k
  | 0 => Nat.le_refl _
  | k + 1 => by
      unfold trimTo
      split
      · split
        · exact Nat.le_succ_of_le (trimTo_le cells k)
        · exact Nat.le_refl _
      · exact Nat.le_refl _

theorem trim_loop (k : Nat) (cells : List Value) (hu : AllU cells) (hk : k ≤ cells.length) (hn : k < 1048576) (m : Nat) (d : List Deferred) :
    Loops1 (rowU cells) (evalCode EL (callN EL NN m) NN (.loop trimL)) 21 d (fun f => [(0, sl f 0 k)]) (.exit 0) (fun f _ => [(0, sl f 0 (trimTo cells k))]) (fun f _ => [(f, rowU cells)]) := by
  intro f rest s hov
  refine loop_pi (fun j => [(0, sl f 0 j)]) (fun _ => [(f, rowU cells)]) (fun j => j) (fun j => j ≤ k ∧ trimTo cells j = trimTo cells k) (by simp) (fun j hj rest s' hA => ?_) k ⟨Nat.le_refl _, rfl⟩ hn hov rest
  obtain ⟨hj, ht⟩ := hj
  have hov' := hA.holds
  cases j with
  | zero =>
    right
    refine ⟨[], ?_⟩
    rw [← ht]
    exact trimEmpty f cells m d rest s' hov'
  | succ j =>
    obtain ⟨z, hz, hz1, hz2⟩ := hu.get (show j < cells.length by omega)
    have h2 : IntKind.i64.wrap (((j + 1 : Nat) : Int) - 1) = (j : Int) := by rw [wrap_i64 (by omega) (by omega)]; omega
    have hz' : cells[0 + j * 1]? = some (.int .u32 z) := by rw [show 0 + j * 1 = j by omega]; exact hz
    cases h0 : z == 0
    · right
      refine ⟨[], ?_⟩
      have : trimTo cells (j + 1) = j + 1 := by simp only [trimTo, hz, h0]; rfl
      rw [← ht, this]
      exact trimStop f j cells z m d rest s' hov' (by omega) h2 (by omega) hz' h0
    · left
      have : trimTo cells (j + 1) = trimTo cells j := by simp only [trimTo, hz, h0]; rfl
      have hz0 : z = 0 := by simpa using h0
      subst hz0
      obtain ⟨rest', s'', g1, g2⟩ := trimGo f j cells m d rest s' hov' (by omega) h2 (by omega) hz' (by omega) (by omega)
      exact ⟨j, rest', s'', ⟨by omega, by rw [← ht, this]⟩, by omega, g1, g2⟩

theorem trim_ok (n : Nat) (k : Nat) (cells : List Value) (hu : AllU cells) (hk : k ≤ cells.length) (hn : k < 1048576) :
    Calls1 (rowU cells) (fun f => callN EL NN (n + 1) fTrim [sl f 0 k]) (fun f _ => .ok (sl f 0 (trimTo cells k))) (fun f _ => [(f, rowU cells)]) := by
  intro f s hov
  exact fnk_by hov [.loop 0 0 [0] (trim_loop k cells hu hk hn n []).ev, .m 0 0] [] [0] (by kernel_rfl) (by kernel_rfl)

end Go.Proofs.YtiabpbememhdeaaDoor

/-
  Numbers as decimal texts, walked, 2: 'times'.
-/
set_option linter.unusedVariables false
namespace Go.Proofs.YtiabpbememhdeaaDoor
open Go.Ai Go.RowKit
set_option maxRecDepth 100000

def fTimes : FuncId := 42
noncomputable def timesL : Code := loopAt Tryd.prog fTimes 0

def mulAdd (n c z : Int) : Int := IntKind.u64.wrap (c + IntKind.u64.wrap (IntKind.u64.wrap z * IntKind.u64.wrap n))

abbrev timesLive (n c : Int) (a : Value) (k f' j : Nat) : List (Nat × Value) := [(1, .int .u32 n), (7, sl f' 0 j), (8, .int .u64 c), (17, a), (18, .int .i64 (k : Int)), (19, .int .i64 (j : Int))]

theorem timesRound (f f' off k j : Nat) (cells out : List Value) (n c z : Int) (m : Nat) (d : List Deferred) (rest : Nat → Value) (s : St) (hov : Holds s [(f, rowU cells), (f', rowU out)]) (h1 : (j : Int) < (k : Int)) (h2 : 0 ≤ (j : Int) ∧ (j : Int) < (k : Int)) (h3 : cells[off + j * 1]? = some (.int .u32 z)) (h4 : (j + 1) * 4 ≤ 2 ^ 46 ∧ j + 1 < 2 ^ 62) (h5 : 0 + (j + 1) * 1 ≤ out.length) (h6 : IntKind.i64.wrap ((j : Int) + 1) = ((j + 1 : Nat) : Int)) :
    ∃ rest' s', evalCode EL (callN EL NN m) NN timesL { tmps := tmpsOf 44 (timesLive n c (sl f off k) k f' j) rest, defers := d } s = some (.normal, { tmps := tmpsOf 44 (timesLive n (Int.fdiv (mulAdd n c z) 4294967296) (sl f off k) k f' (j + 1)) rest', defers := d }, s') ∧ After s s' [f, f'] [(f, rowU cells), (f', rowU (splice out (0 + j * 1) [.int .u32 (IntKind.u32.wrap (mulAdd n c z))]))] := by
  have h3' := load1 h3
  exact round_by hov [.yes 0 h1, .yes 0 h2, .m 0 0, .list 0 h3', .m 0 0, .m 0 2, .yes 2 h4, .m 0 1, .yes 2 h5, .m 0 1, .int 3 h6, .m 0 0] [0, 1] (by kernel_rfl)
theorem timesStop (f f' off k j : Nat) (cells out : List Value) (n c : Int) (m : Nat) (d : List Deferred) (rest : Nat → Value) (s : St) (hov : Holds s [(f, rowU cells), (f', rowU out)]) (h1 : ¬ (j : Int) < (k : Int)) :
    ∃ rest' s', evalCode EL (callN EL NN m) NN timesL { tmps := tmpsOf 44 (timesLive n c (sl f off k) k f' j) rest, defers := d } s = some (.exit 0, { tmps := tmpsOf 44 [(7, sl f' 0 j), (8, .int .u64 c)] rest', defers := d }, s') ∧ After s s' [f, f'] [(f, rowU cells), (f', rowU out)] := by
  exact round_by hov [.no 0 h1, .m 0 0] [0, 1] (by kernel_rfl)

def valAt (cells : List Value) (i : Nat) : Int := match cells[i]? with
  | some (.int .u32 z) => z
  | _ => 0

/-- The carry, and what is there, behind so many parts. -/
def timesC (cells : List Value) (off : Nat) (n m : Int) : Nat → Int
  | 0 => m
  | j + 1 => Int.fdiv (mulAdd n (timesC cells off n m j) (valAt cells (off + j))) 4294967296
def timesO (cells : List Value) (off k : Nat) (n m : Int) : Nat → List Value
  | 0 => aZeros [.int .u32 0] (k + 1)
  | j + 1 => splice (timesO cells off k n m j) (0 + j * 1) [.int .u32 (IntKind.u32.wrap (mulAdd n (timesC cells off n m j) (valAt cells (off + j))))]

theorem timesO_ok (cells : List Value) (off k : Nat) (n m : Int) : ∀ j, j ≤ k + 1 → (timesO cells off k n m j).length = k + 1 ∧ AllU (timesO cells off k n m j)
  | 0, _ => by
      unfold timesO
      refine ⟨by simp [aZeros], fun x hx => ?_⟩
      simp [aZeros] at hx
      rw [hx]
      exact ⟨by omega, by omega⟩
  | j + 1, h => by
      obtain ⟨h1, h2⟩ := timesO_ok cells off k n m j (by omega)
      unfold timesO
      exact ⟨by rw [splice_len (by simp; omega)]; exact h1, h2.splice (wrap_u32_range _)⟩

theorem allU_val {cells : List Value} (h : AllU cells) {i : Nat} (hi : i < cells.length) : cells[i]? = some (.int .u32 (valAt cells i)) := by
  obtain ⟨z, hz, _⟩ := h.get hi
  unfold valAt
  rw [hz]

theorem times_loop (off k : Nat) (cells : List Value) (n c : Int) (hu : AllU cells) (hk : off + k ≤ cells.length) (hn : k < 1000000) (m : Nat) (d : List Deferred) :
    Loops2 (rowU cells) (rowU (aZeros [.int .u32 0] (k + 1))) (evalCode EL (callN EL NN m) NN (.loop timesL)) 44 d (fun f f' => timesLive n c (sl f off k) k f' 0) (.exit 0) (fun f f' _ => [(7, sl f' 0 k), (8, .int .u64 (timesC cells off n c k))])
      (fun f f' _ => [(f, rowU cells), (f', rowU (timesO cells off k n c k))]) := by
  intro f f' rest s hov
  refine loop_pi (fun j => timesLive n (timesC cells off n c j) (sl f off k) k f' j) (fun j => [(f, rowU cells), (f', rowU (timesO cells off k n c j))]) (fun j => k - j) (fun j => j ≤ k) (by simp) (fun j hj rest s' hA => ?_) 0 (Nat.zero_le _) (by show k - 0 < 1048576; omega) hov rest
  have hov' := hA.holds
  obtain ⟨l1, l2⟩ := timesO_ok cells off k n c j (by omega)
  by_cases hlt : j < k
  · left
    have hz := allU_val hu (show off + j < cells.length by omega)
    have hz' : cells[off + j * 1]? = some (.int .u32 (valAt cells (off + j))) := by rw [show off + j * 1 = off + j by omega]; exact hz
    obtain ⟨rest', s'', g1, g2⟩ := timesRound f f' off k j cells (timesO cells off k n c j) n (timesC cells off n c j) (valAt cells (off + j)) m d rest s' hov' (by omega) (by omega) hz' (by omega) (by omega) (by rw [wrap_i64 (by omega) (by omega)]; omega)
    exact ⟨j + 1, rest', s'', by omega, by omega, g1, g2⟩
  · right
    obtain rfl : j = k := by omega
    exact ⟨[], timesStop f f' off j j cells (timesO cells off j n c j) n (timesC cells off n c j) m d rest s' hov' (by omega)⟩

/-- A number times a small one, and another small one more; before it is trimmed. -/
def timesR (cells : List Value) (off k : Nat) (n c : Int) : List Value := splice (timesO cells off k n c k) (0 + k * 1) [.int .u32 (IntKind.u32.wrap (timesC cells off n c k))]

theorem timesR_ok (cells : List Value) (off k : Nat) (n c : Int) : (timesR cells off k n c).length = k + 1 ∧ AllU (timesR cells off k n c) := by
  obtain ⟨h1, h2⟩ := timesO_ok cells off k n c k (by omega)
  unfold timesR
  exact ⟨by rw [splice_len (by simp; omega)]; exact h1, h2.splice (wrap_u32_range _)⟩

theorem times_ok (q : Nat) (off k : Nat) (cells : List Value) (n c : Int) (hu : AllU cells) (hk : off + k ≤ cells.length) (hn : k < 1000000) (hc : IntKind.u64.wrap c = c) :
    Calls1 (rowU cells) (fun f => callN EL NN (q + 2) fTimes [sl f off k, .int .u32 n, .int .u32 c]) (fun f nk => .ok (sl (nk.getD 0 0) 0 (trimTo (timesR cells off k n c) (k + 1)))) (fun f nk => [(f, rowU cells), (nk.getD 0 0, rowU (timesR cells off k n c))]) := by
  intro f s hov
  have l1 := timesR_ok cells off k n c
  have l2 := timesO_ok cells off k n c k (by omega)
  have h1 : IntKind.i64.wrap ((k : Int) + 1) = ((k + 1 : Nat) : Int) := by rw [wrap_i64 (by omega) (by omega)]; omega
  have h2 : 0 ≤ k + 1 ∧ k + 1 < 2 ^ 62 ∧ 4 * (k + 1) ≤ 2 ^ 48 := by omega
  have h3 : (k + 1) * 4 ≤ 2 ^ 46 ∧ k + 1 < 2 ^ 62 := by omega
  have h4 : 0 + (k + 1) * 1 ≤ (timesO cells off k n c k).length := by omega
  exact fnk_by hov [.int 1 h1, .yes 2 h2, .m 0 0, .int 1 hc, .loop 0 0 [0, 1] (times_loop off k cells n c hu hk hn (q + 1) []).ev, .m 0 0, .m 0 2, .yes 2 h3, .m 0 1, .yes 2 h4, .m 0 1, .call 0 0 [1] (trim_ok q (k + 1) (timesR cells off k n c) l1.2 (by omega) (by omega)).ev, .m 0 0] [2] [0, 2] (by kernel_rfl) (by kernel_rfl)

end Go.Proofs.YtiabpbememhdeaaDoor

/-
  Numbers as decimal texts, walked, 3: 'times' of nothing, 'tens'.
-/
set_option linter.unusedVariables false
namespace Go.Proofs.YtiabpbememhdeaaDoor
open Go.Ai Go.RowKit
set_option maxRecDepth 100000

/-- A whole number of any size, as it lies there. -/
structure Bg where
  cells : List Value
  k : Nat

def Bg.ok (b : Bg) (n : Nat) : Prop := AllU b.cells ∧ b.k ≤ b.cells.length ∧ b.k ≤ n ∧ (b.k = 0 ∨ valAt b.cells (b.k - 1) ≠ 0)

theorem trimTo_norm {cells : List Value} (h : AllU cells) : ∀ {k : Nat}, k ≤ cells.length → trimTo cells k = 0 ∨ valAt cells (trimTo cells k - 1) ≠ 0
  | 0, _ => .inl rfl
  | k + 1, hk => by
      obtain ⟨z, hz, _⟩ := h.get (show k < cells.length by omega)
      cases h0 : z == 0
      · have e : trimTo cells (k + 1) = k + 1 := by simp only [trimTo, hz, h0]; rfl
        right
        rw [e, show k + 1 - 1 = k by omega]
        unfold valAt
        rw [hz]
        simpa using h0
      · have e : trimTo cells (k + 1) = trimTo cells k := by simp only [trimTo, hz, h0]; rfl
        rw [e]
        exact trimTo_norm h (by omega)

theorem trimTo_pos {cells : List Value} (h : AllU cells) : ∀ {k i : Nat}, k ≤ cells.length → i < k → valAt cells i ≠ 0 → 0 < trimTo cells k
  | 0, i, _, hi, _ => by omega
  | k + 1, i, hk, hi, hv => by
      obtain ⟨z, hz, _⟩ := h.get (show k < cells.length by omega)
      cases h0 : z == 0
      · have e : trimTo cells (k + 1) = k + 1 := by simp only [trimTo, hz, h0]; rfl
        omega
      · have e : trimTo cells (k + 1) = trimTo cells k := by simp only [trimTo, hz, h0]; rfl
        rw [e]
        refine trimTo_pos h (by omega) (i := i) ?_ hv
        rcases Nat.lt_or_ge i k with h1 | h1
        · exact h1
        · obtain rfl : i = k := by omega
          exfalso
          apply hv
          unfold valAt
          rw [hz]
          simpa using h0

theorem valAt_range {cells : List Value} (h : AllU cells) (i : Nat) : 0 ≤ valAt cells i ∧ valAt cells i < 2 ^ 32 := by
  by_cases hi : i < cells.length
  · obtain ⟨z, hz, h1, h2⟩ := h.get hi
    unfold valAt
    rw [hz]
    exact ⟨h1, h2⟩
  · unfold valAt
    rw [List.getElem?_eq_none (by omega)]
    exact ⟨by simp, by simp⟩

theorem mulAdd_eq {n c z : Int} (hn : 0 ≤ n ∧ n < 2 ^ 32) (hc : 0 ≤ c ∧ c < 2 ^ 32) (hz : 0 ≤ z ∧ z < 2 ^ 32) : mulAdd n c z = c + z * n ∧ 0 ≤ z * n ∧ c + z * n < 2 ^ 64 := by
  have h0 : 0 ≤ z * n := Int.mul_nonneg hz.1 hn.1
  have h1 : z * n ≤ (2 ^ 32 - 1) * (2 ^ 32 - 1) := Int.mul_le_mul (by omega) (by omega) hn.1 (by omega)
  have h2 : c + z * n < 2 ^ 64 := by omega
  unfold mulAdd
  rw [wrap_u64 (n := z) (by omega) (by omega), wrap_u64 (n := n) (by omega) (by omega), wrap_u64 (n := z * n) (by omega) (by omega), wrap_u64 (by omega) (by omega)]
  exact ⟨rfl, h0, h2⟩

theorem fdiv_nonneg_eq {a : Int} (h : 0 ≤ a) : Int.fdiv a 4294967296 = a / 4294967296 := by
  rw [Int.fdiv_eq_ediv_of_nonneg _ (by omega)]

theorem timesC_range {cells : List Value} (h : AllU cells) (off : Nat) {n c : Int} (hn : 0 ≤ n ∧ n < 2 ^ 32) (hc : 0 ≤ c ∧ c < 2 ^ 32) : ∀ j, 0 ≤ timesC cells off n c j ∧ timesC cells off n c j < 2 ^ 32
  | 0 => hc
  | j + 1 => by
      obtain ⟨h1, h2, h3⟩ := mulAdd_eq hn (timesC_range h off hn hc j) (valAt_range h (off + j))
      have h4 := (timesC_range h off hn hc j).1
      unfold timesC
      rw [fdiv_nonneg_eq (by omega), h1]
      omega

theorem valAt_splice {l : List Value} {i j : Nat} {z : Int} (hj : j < l.length) : valAt (splice l (0 + j * 1) [.int .u32 z]) i = if i = j then z else valAt l i := by
  unfold valAt splice
  rw [show 0 + j * 1 = j by omega]
  simp only [List.length_cons, List.length_nil]
  by_cases hij : i = j
  · subst hij
    rw [if_pos rfl, List.getElem?_append_right (by simp; omega)]
    simp [Nat.min_eq_left (Nat.le_of_lt hj)]
  · rw [if_neg hij]
    rcases Nat.lt_or_ge i j with h1 | h1
    · rw [List.getElem?_append_left (by simp; omega), List.getElem?_take_of_lt h1]
    · rw [List.getElem?_append_right (by simp; omega), List.getElem?_append_right (by simp; omega), List.getElem?_drop]
      simp only [List.length_take, Nat.min_eq_left (Nat.le_of_lt hj), List.length_cons, List.length_nil]
      rw [show j + (0 + 1) + (i - j - (0 + 1)) = i by omega]

/-- What is written stays. -/
theorem timesO_val {cells : List Value} {off k : Nat} {n c : Int} : ∀ {j i : Nat}, j ≤ k → i < j → valAt (timesO cells off k n c j) i = IntKind.u32.wrap (mulAdd n (timesC cells off n c i) (valAt cells (off + i)))
  | 0, i, _, hi => by omega
  | j + 1, i, hj, hi => by
      obtain ⟨l1, _⟩ := timesO_ok cells off k n c j (by omega)
      unfold timesO
      rw [valAt_splice (by omega)]
      by_cases hij : i = j
      · subst hij; rw [if_pos rfl]
      · rw [if_neg hij]; exact timesO_val (by omega) (by omega)

theorem timesR_val {cells : List Value} {off k : Nat} {n c : Int} {i : Nat} (hi : i ≤ k) : valAt (timesR cells off k n c) i = if i = k then IntKind.u32.wrap (timesC cells off n c k) else IntKind.u32.wrap (mulAdd n (timesC cells off n c i) (valAt cells (off + i))) := by
  obtain ⟨l1, _⟩ := timesO_ok cells off k n c k (by omega)
  unfold timesR
  rw [valAt_splice (by omega)]
  split
  · rfl
  · exact timesO_val (Nat.le_refl _) (by omega)

theorem wrap_u32_zero {x : Int} (h0 : 0 ≤ x) (h : IntKind.u32.wrap x = 0) : x % 4294967296 = 0 := by
  unfold IntKind.wrap at h
  simp only [IntKind.signed, IntKind.bits, Bool.false_and] at h
  split at h
  next h' => simp at h'
  next h' => simpa using h

/-- What is carried comes out. -/
theorem carry_out {cells : List Value} (h : AllU cells) (off k : Nat) {n c : Int} (hn : 0 ≤ n ∧ n < 2 ^ 32) (hc : 0 ≤ c ∧ c < 2 ^ 32) : ∀ (r j : Nat), j + r = k → 0 < timesC cells off n c j → ∃ i, i ≤ k ∧ valAt (timesR cells off k n c) i ≠ 0
  | 0, j, hj, hp => by
      obtain rfl : j = k := by omega
      have hr := timesC_range h off hn hc j
      refine ⟨j, Nat.le_refl _, ?_⟩
      rw [timesR_val (Nat.le_refl _), if_pos rfl, wrap_u32 (by omega) (by omega)]
      omega
  | r + 1, j, hj, hp => by
      obtain ⟨h1, h2, h3⟩ := mulAdd_eq hn (timesC_range h off hn hc j) (valAt_range h (off + j))
      by_cases h0 : IntKind.u32.wrap (mulAdd n (timesC cells off n c j) (valAt cells (off + j))) = 0
      · have h4 := wrap_u32_zero (by rw [h1]; omega) h0
        refine carry_out h off k hn hc r (j + 1) (by omega) ?_
        unfold timesC
        rw [fdiv_nonneg_eq (by rw [h1]; omega)]
        rw [h1] at h4 ⊢
        omega
      · refine ⟨j, by omega, ?_⟩
        rw [timesR_val (by omega), if_neg (by omega)]
        exact h0

theorem timesR_pos {cells : List Value} (h : AllU cells) (off k : Nat) {n c : Int} (hn : 1 ≤ n ∧ n < 2 ^ 32) (hc : 0 ≤ c ∧ c < 2 ^ 32) {i : Nat} (hi : i < k) (hv : valAt cells (off + i) ≠ 0) : 0 < trimTo (timesR cells off k n c) (k + 1) := by
  obtain ⟨l1, l2⟩ := timesR_ok cells off k n c
  have hz := valAt_range h (off + i)
  obtain ⟨h1, h2, h3⟩ := mulAdd_eq (n := n) ⟨by omega, hn.2⟩ (timesC_range h off ⟨by omega, hn.2⟩ hc i) hz
  have hci := (timesC_range h off (n := n) ⟨by omega, hn.2⟩ hc i).1
  have hp : 1 ≤ valAt cells (off + i) * n := by
    have : 1 * 1 ≤ valAt cells (off + i) * n := Int.mul_le_mul (by omega) hn.1 (by omega) hz.1
    omega
  have : ∃ i, i ≤ k ∧ valAt (timesR cells off k n c) i ≠ 0 := by
    by_cases h0 : IntKind.u32.wrap (mulAdd n (timesC cells off n c i) (valAt cells (off + i))) = 0
    · have h4 := wrap_u32_zero (by rw [h1]; omega) h0
      refine carry_out h off k ⟨by omega, hn.2⟩ hc (k - (i + 1)) (i + 1) (by omega) ?_
      unfold timesC
      rw [fdiv_nonneg_eq (by rw [h1]; omega)]
      rw [h1] at h4 ⊢
      omega
    · refine ⟨i, by omega, ?_⟩
      rw [timesR_val (by omega), if_neg (by omega)]
      exact h0
  obtain ⟨i', hi', hv'⟩ := this
  exact trimTo_pos l2 (by omega) (show i' < k + 1 by omega) hv'

def Bg.times (b : Bg) (n c : Int) : Bg := ⟨timesR b.cells 0 b.k n c, trimTo (timesR b.cells 0 b.k n c) (b.k + 1)⟩

theorem Bg.times_ok' {b : Bg} {q : Nat} (h : b.ok q) (n c : Int) : (b.times n c).ok (q + 1) := by
  obtain ⟨h1, h2, h3, h4⟩ := h
  obtain ⟨l1, l2⟩ := timesR_ok b.cells 0 b.k n c
  have := trimTo_le (timesR b.cells 0 b.k n c) (b.k + 1)
  exact ⟨l2, by show trimTo _ _ ≤ (timesR b.cells 0 b.k n c).length; omega, by show trimTo (timesR b.cells 0 b.k n c) (b.k + 1) ≤ _; omega, trimTo_norm l2 (by omega)⟩

theorem Bg.times_pos {b : Bg} {q : Nat} (h : b.ok q) (hk : 0 < b.k) {n c : Int} (hn : 1 ≤ n ∧ n < 2 ^ 32) (hc : 0 ≤ c ∧ c < 2 ^ 32) : 0 < (b.times n c).k := by
  obtain ⟨h1, h2, h3, h4⟩ := h
  exact timesR_pos h1 0 b.k hn hc (i := b.k - 1) (by omega) (by rw [Nat.zero_add]; exact h4.resolve_left (by omega))

theorem times_bg (q : Nat) {b : Bg} {r : Nat} (h : b.ok r) (hr : r < 1000000) (n c : Int) (hc : IntKind.u64.wrap c = c) :
    Calls1 (rowU b.cells) (fun f => callN EL NN (q + 2) fTimes [sl f 0 b.k, .int .u32 n, .int .u32 c]) (fun f nk => .ok (sl (nk.getD 0 0) 0 (b.times n c).k)) (fun f nk => [(f, rowU b.cells), (nk.getD 0 0, rowU (b.times n c).cells)]) :=
  times_ok q 0 b.k b.cells n c h.1 (by have := h.2.1; omega) (by have := h.2.2.1; omega) hc

def nilR (c : Int) : List Value := splice (aZeros [.int .u32 0] 1) (0 + 0 * 1) [.int .u32 (IntKind.u32.wrap c)]
def Bg.first (c : Int) : Bg := ⟨nilR c, trimTo (nilR c) 1⟩

theorem nilR_ok (c : Int) : (nilR c).length = 1 ∧ AllU (nilR c) := by
  refine ⟨rfl, ?_⟩
  intro x hx
  have hx : x ∈ [Value.int .u32 (IntKind.u32.wrap c)] := hx
  rw [List.mem_singleton.1 hx]
  exact wrap_u32_range c

theorem first_ok (c : Int) : (Bg.first c).ok 1 := by
  obtain ⟨h1, h2⟩ := nilR_ok c
  have := trimTo_le (nilR c) 1
  exact ⟨h2, by show trimTo (nilR c) 1 ≤ (nilR c).length; omega, this, trimTo_norm h2 (by omega)⟩

theorem times_nil (q : Nat) (n c : Int) (hc : IntKind.u64.wrap c = c) :
    Calls0 (callN EL NN (q + 2) fTimes [.slice none 0 0, .int .u32 n, .int .u32 c]) (fun nk => .ok (sl (nk.getD 0 0) 0 (Bg.first c).k)) (fun nk => [(nk.getD 0 0, rowU (Bg.first c).cells)]) := by
  intro s
  obtain ⟨l1, l2⟩ := nilR_ok c
  exact fnk_by (holds_nil s) [.m 0 0, .int 1 hc, .m 0 0, .m 0 1, .m 0 0, .m 0 0, .call 0 0 [0] (trim_ok q 1 (nilR c) l2 (by omega) (by omega)).ev, .m 0 0] [1] [1] (by kernel_rfl) (by kernel_rfl)

def fTens : FuncId := 44
noncomputable def tensL1 : Code := loopAt Tryd.prog fTens 0
noncomputable def tensL2 : Code := loopAt Tryd.prog fTens 1

theorem tensRound1 (f : Nat) (b : Bg) (r : Nat) (hb : b.ok r) (hr : r < 1000000) (i : Nat) (q : Nat) (d : List Deferred) (rest : Nat → Value) (s : St) (hov : Holds s [(f, rowU b.cells)]) (h1 : ((i + 9 : Nat) : Int) ≥ 9) (h2 : IntKind.i64.wrap (((i + 9 : Nat) : Int) - 9) = (i : Int)) :
    ∃ nk : List Nat, ∃ rest' s', evalCode EL (callN EL NN (q + 2)) NN tensL1 { tmps := tmpsOf 18 [(0, sl f 0 b.k), (1, .int .i64 ((i + 9 : Nat) : Int))] rest, defers := d } s =
      some (.normal, { tmps := tmpsOf 18 [(0, sl (nk.getD 0 0) 0 (b.times 1000000000 0).k), (1, .int .i64 (i : Int))] rest', defers := d }, s') ∧ After s s' [f] [(nk.getD 0 0, rowU (b.times 1000000000 0).cells)] := by
  exact roundk_by hov [.yes 0 h1, .call 0 0 [0] (times_bg q hb hr 1000000000 0 rfl).ev, .int 1 h2, .m 0 0] [1] [1] (by kernel_rfl) (by kernel_rfl)
theorem tensStop1 (f : Nat) (b : Bg) (i : Nat) (m : Nat) (d : List Deferred) (rest : Nat → Value) (s : St) (hov : Holds s [(f, rowU b.cells)]) (h1 : ¬ (i : Int) ≥ 9) :
    ∃ rest' s', evalCode EL (callN EL NN m) NN tensL1 { tmps := tmpsOf 18 [(0, sl f 0 b.k), (1, .int .i64 (i : Int))] rest, defers := d } s =
      some (.exit 0, { tmps := tmpsOf 18 [(0, sl f 0 b.k), (1, .int .i64 (i : Int))] rest', defers := d }, s') ∧ After s s' [f] [(f, rowU b.cells)] := by
  exact round_by hov [.no 0 h1, .m 0 0] [0] (by kernel_rfl)
theorem tensRound2 (f : Nat) (b : Bg) (r : Nat) (hb : b.ok r) (hr : r < 1000000) (i j : Nat) (q : Nat) (d : List Deferred) (rest : Nat → Value) (s : St) (hov : Holds s [(f, rowU b.cells)]) (h1 : (j : Int) < (i : Int)) (h2 : IntKind.i64.wrap ((j : Int) + 1) = ((j + 1 : Nat) : Int)) :
    ∃ nk : List Nat, ∃ rest' s', evalCode EL (callN EL NN (q + 2)) NN tensL2 { tmps := tmpsOf 18 [(0, sl f 0 b.k), (11, .int .i64 (i : Int)), (12, .int .i64 (j : Int))] rest, defers := d } s =
      some (.normal, { tmps := tmpsOf 18 [(0, sl (nk.getD 0 0) 0 (b.times 10 0).k), (11, .int .i64 (i : Int)), (12, .int .i64 ((j + 1 : Nat) : Int))] rest', defers := d }, s') ∧ After s s' [f] [(nk.getD 0 0, rowU (b.times 10 0).cells)] := by
  exact roundk_by hov [.yes 0 h1, .call 0 0 [0] (times_bg q hb hr 10 0 rfl).ev, .int 0 h2, .m 0 0] [1] [1] (by kernel_rfl) (by kernel_rfl)
theorem tensStop2 (f : Nat) (b : Bg) (i j : Nat) (m : Nat) (d : List Deferred) (rest : Nat → Value) (s : St) (hov : Holds s [(f, rowU b.cells)]) (h1 : ¬ (j : Int) < (i : Int)) :
    ∃ rest' s', evalCode EL (callN EL NN m) NN tensL2 { tmps := tmpsOf 18 [(0, sl f 0 b.k), (11, .int .i64 (i : Int)), (12, .int .i64 (j : Int))] rest, defers := d } s =
      some (.exit 2, { tmps := tmpsOf 18 [(0, sl f 0 b.k)] rest', defers := d }, s') ∧ After s s' [f] [(f, rowU b.cells)] := by
  exact round_by hov [.no 0 h1, .m 0 0] [0] (by kernel_rfl)

def Bg.iter (n : Int) : Nat → Bg → Bg
  | 0, b => b
  | i + 1, b => Bg.iter n i (b.times n 0)

theorem iter_ok (n : Int) : ∀ (i : Nat) (b : Bg) (r : Nat), b.ok r → (Bg.iter n i b).ok (r + i)
  | 0, b, r, h => h
  | i + 1, b, r, h => by
      have := iter_ok n i (b.times n 0) (r + 1) (Bg.times_ok' h n 0)
      rw [show r + 1 + i = r + (i + 1) by omega] at this
      exact this

theorem iter_pos {n : Int} (hn : 1 ≤ n ∧ n < 2 ^ 32) : ∀ (i : Nat) (b : Bg) (r : Nat), b.ok r → 0 < b.k → 0 < (Bg.iter n i b).k
  | 0, b, r, h, hk => hk
  | i + 1, b, r, h, hk => iter_pos hn i (b.times n 0) (r + 1) (Bg.times_ok' h n 0) (Bg.times_pos h hk hn ⟨by omega, by omega⟩)

/-- Ten to a power times a number. -/
def Bg.tens (b : Bg) (i : Nat) : Bg := Bg.iter 10 (i % 9) (Bg.iter 1000000000 (i / 9) b)

theorem tens_ok' {b : Bg} {r : Nat} (h : b.ok r) (i : Nat) : (b.tens i).ok (r + i) := by
  have h1 := iter_ok 10 (i % 9) _ _ (iter_ok 1000000000 (i / 9) b r h)
  obtain ⟨a1, a2, a3, a4⟩ := h1
  exact ⟨a1, a2, by unfold Bg.tens; omega, a4⟩

theorem tens_pos {b : Bg} {r : Nat} (h : b.ok r) (hk : 0 < b.k) (i : Nat) : 0 < (b.tens i).k :=
  iter_pos ⟨by omega, by omega⟩ (i % 9) _ _ (iter_ok 1000000000 (i / 9) b r h) (iter_pos ⟨by omega, by omega⟩ (i / 9) b r h hk)

theorem tens_loop1 (b : Bg) (r : Nat) (hb : b.ok r) (i : Nat) (hr : r + i < 1000000) (q : Nat) (d : List Deferred) :
    Loops1 (rowU b.cells) (evalCode EL (callN EL NN (q + 2)) NN (.loop tensL1)) 18 d (fun f => [(0, sl f 0 b.k), (1, .int .i64 (i : Int))]) (.exit 0)
      (fun f nk => [(0, sl (nk.getD 0 0) 0 (Bg.iter 1000000000 (i / 9) b).k), (1, .int .i64 ((i % 9 : Nat) : Int))]) (fun f nk => [(nk.getD 0 0, rowU (Bg.iter 1000000000 (i / 9) b).cells)]) := by
  intro f rest s hov
  refine loop_pi (π := Nat × Bg × Nat × Nat) (fun p => [(0, sl p.1 0 p.2.1.k), (1, .int .i64 (p.2.2.1 : Int))]) (fun p => [(p.1, rowU p.2.1.cells)]) (fun p => p.2.2.1)
    (fun p => p.2.1.ok p.2.2.2 ∧ p.2.2.2 + p.2.2.1 < 1000000 ∧ Bg.iter 1000000000 (p.2.2.1 / 9) p.2.1 = Bg.iter 1000000000 (i / 9) b ∧ p.2.2.1 % 9 = i % 9) (by simp) (fun p hp rest s' hA => ?_) (f, b, i, r) ⟨hb, hr, rfl, rfl⟩ (by show i < 1048576; omega) hov rest
  obtain ⟨f, b', j, r'⟩ := p
  obtain ⟨p1, p2, p3, p4⟩ := hp
  simp only at p1 p2 p3 p4
  have hov' := hA.holds
  by_cases hlt : j ≥ 9
  · left
    obtain ⟨j, rfl⟩ : ∃ j', j = j' + 9 := ⟨j - 9, by omega⟩
    obtain ⟨nk, rest', s'', g1, g2⟩ := tensRound1 f b' r' p1 (by omega) j q d rest s' hov' (by omega) (by rw [wrap_i64 (by omega) (by omega)]; omega)
    refine ⟨(nk.getD 0 0, b'.times 1000000000 0, j, r' + 1), rest', s'', ⟨Bg.times_ok' p1 _ _, by simp only; omega, ?_, by simp only; omega⟩, by simp only; omega, g1, g2⟩
    simp only
    rw [← p3, show (j + 9) / 9 = j / 9 + 1 by omega]
    rfl
  · right
    obtain ⟨rest', s'', g1, g2⟩ := tensStop1 f b' j (q + 2) d rest s' hov' (by omega)
    have e1 : j / 9 = 0 := by omega
    have e2 : j = i % 9 := by omega
    rw [e1] at p3
    refine ⟨[f], rest', s'', ?_, ?_⟩
    · rw [g1, ← p3, ← e2]; rfl
    · rw [← p3]; exact g2

theorem tens_loop2 (b : Bg) (r : Nat) (hb : b.ok r) (i : Nat) (hr : r + i < 1000000) (q : Nat) (d : List Deferred) :
    Loops1 (rowU b.cells) (evalCode EL (callN EL NN (q + 2)) NN (.loop tensL2)) 18 d (fun f => [(0, sl f 0 b.k), (11, .int .i64 (i : Int)), (12, .int .i64 0)]) (.exit 2)
      (fun f nk => [(0, sl (nk.getD 0 0) 0 (Bg.iter 10 i b).k)]) (fun f nk => [(nk.getD 0 0, rowU (Bg.iter 10 i b).cells)]) := by
  intro f rest s hov
  refine loop_pi (π := Nat × Bg × Nat × Nat) (fun p => [(0, sl p.1 0 p.2.1.k), (11, .int .i64 (i : Int)), (12, .int .i64 (p.2.2.1 : Int))]) (fun p => [(p.1, rowU p.2.1.cells)]) (fun p => i - p.2.2.1)
    (fun p => p.2.1.ok p.2.2.2 ∧ p.2.2.2 + (i - p.2.2.1) < 1000000 ∧ p.2.2.1 ≤ i ∧ Bg.iter 10 (i - p.2.2.1) p.2.1 = Bg.iter 10 i b) (by simp) (fun p hp rest s' hA => ?_) (f, b, 0, r) ⟨hb, hr, Nat.zero_le _, rfl⟩ (by show i - 0 < 1048576; omega) hov rest
  obtain ⟨f, b', j, r'⟩ := p
  obtain ⟨p1, p2, p3, p4⟩ := hp
  simp only at p1 p2 p3 p4
  have hov' := hA.holds
  by_cases hlt : j < i
  · left
    obtain ⟨nk, rest', s'', g1, g2⟩ := tensRound2 f b' r' p1 (by omega) i j q d rest s' hov' (by omega) (by rw [wrap_i64 (by omega) (by omega)]; omega)
    refine ⟨(nk.getD 0 0, b'.times 10 0, j + 1, r' + 1), rest', s'', ⟨Bg.times_ok' p1 _ _, by simp only; omega, by simp only; omega, ?_⟩, by simp only; omega, g1, g2⟩
    simp only
    rw [← p4, show i - j = (i - (j + 1)) + 1 by omega]
    rfl
  · right
    obtain ⟨rest', s'', g1, g2⟩ := tensStop2 f b' i j (q + 2) d rest s' hov' (by omega)
    have e1 : i - j = 0 := by omega
    rw [e1] at p4
    refine ⟨[f], rest', s'', ?_, ?_⟩
    · rw [g1, ← p4]; rfl
    · rw [← p4]; exact g2

theorem tens_ok (b : Bg) (r : Nat) (hb : b.ok r) (i : Nat) (hr : r + i + i < 1000000) (q : Nat) :
    Calls1 (rowU b.cells) (fun f => callN EL NN (q + 3) fTens [sl f 0 b.k, .int .i64 (i : Int)]) (fun f nk => .ok (sl (nk.getD 0 0) 0 (b.tens i).k)) (fun f nk => [(nk.getD 0 0, rowU (b.tens i).cells)]) := by
  intro f s hov
  have hb' := iter_ok 1000000000 (i / 9) b r hb
  have e1 : r + i < 1000000 := by omega
  have e2 : r + i / 9 + i % 9 < 1000000 := by omega
  have l1 := (tens_loop1 b r hb i e1 q []).ev
  have l2 := (tens_loop2 (Bg.iter 1000000000 (i / 9) b) (r + i / 9) hb' (i % 9) e2 q []).ev
  exact fnk_by hov [.loop 0 0 [0] l1, .loop 0 0 [0] l2, .m 0 0] [0] [0] (by kernel_rfl) (by kernel_rfl)

end Go.Proofs.YtiabpbememhdeaaDoor

/-
  Numbers as decimal texts, walked, 4: 'len', 'minus'.
-/
set_option linter.unusedVariables false
namespace Go.Proofs.YtiabpbememhdeaaDoor
open Go.Ai Go.RowKit
set_option maxRecDepth 100000

def fLen : FuncId := 45

/-- How many bits. -/
def Bg.len (b : Bg) : Nat := match b.k with
  | 0 => 0
  | j + 1 => 32 * j + Lib.bitLen (valAt b.cells j).toNat

theorem bitLenAux_le : ∀ (f x : Nat), Lib.bitLenAux f x ≤ f
  | 0, x => Nat.le_refl _
  | f + 1, x => by
      unfold Lib.bitLenAux
      split
      · omega
      · have := bitLenAux_le f (x / 2); omega

theorem Bg.len_le {b : Bg} {r : Nat} (h : b.ok r) : b.len ≤ 32 * r + 64 := by
  have := h.2.2.1
  unfold Bg.len
  split
  · omega
  · have h2 := bitLenAux_le 64 (valAt b.cells (by assumption)).toNat
    unfold Lib.bitLen
    omega

theorem len_zero (q : Nat) (cells : List Value) : Calls1 (rowU cells) (fun f => callN EL NN (q + 1) fLen [sl f 0 0]) (fun f _ => .ok (.int .i64 0)) (fun f _ => [(f, rowU cells)]) := by
  intro f s hov
  exact fnk_by hov [.m 0 0] [] [0] (by kernel_rfl) (by kernel_rfl)
theorem len_succ (q : Nat) (cells : List Value) (j b : Nat) (z : Int) (hz : cells[0 + j * 1]? = some (.int .u32 z)) (h1 : IntKind.i64.wrap (((j + 1 : Nat) : Int) - 1) = (j : Int)) (h2 : IntKind.i64.wrap (32 * (j : Int)) = ((32 * j : Nat) : Int)) (h3 : 0 ≤ (j : Int) ∧ (j : Int) < ((j + 1 : Nat) : Int)) (h4 : 0 ≤ z ∧ z ≤ 4294967295)
    (h5 : IntKind.i64.wrap (((32 * j : Nat) : Int) + (Lib.bitLen z.toNat : Int)) = ((32 * j + Lib.bitLen z.toNat : Nat) : Int)) (h0 : (((j + 1 : Nat) : Int) == 0) = false) :
    Calls1 (rowU cells) (fun f => callN EL NN (q + 1) fLen [sl f 0 (j + 1)]) (fun f _ => .ok (.int .i64 ((32 * j + Lib.bitLen z.toNat : Nat) : Int))) (fun f _ => [(f, rowU cells)]) := by
  intro f s hov
  have hz' := load1 hz
  exact fnk_by hov [.int 3 h1, .int 0 h2, .int 1 h1, .yes 0 h3, .m 0 0, .list 0 hz', .yes 0 h4, .int 0 h5, .m 0 0] [] [0] (by kernel_rfl) (by kernel_rfl)

theorem len_ok (q : Nat) (b : Bg) (r : Nat) (hb : b.ok r) (hr : r < 1000000) : Calls1 (rowU b.cells) (fun f => callN EL NN (q + 1) fLen [sl f 0 b.k]) (fun f _ => .ok (.int .i64 (b.len : Int))) (fun f _ => [(f, rowU b.cells)]) := by
  obtain ⟨cells, k⟩ := b
  obtain ⟨h1, h2, h3, h4⟩ := hb
  simp only at h1 h2 h3
  cases k with
  | zero => exact len_zero q cells
  | succ j =>
    have hz := allU_val h1 (show j < cells.length by omega)
    have hr' := valAt_range h1 j
    have hl := bitLenAux_le 64 (valAt cells j).toNat
    have hl : Lib.bitLen (valAt cells j).toNat ≤ 64 := hl
    exact len_succ q cells j 0 (valAt cells j) (by rw [show 0 + j * 1 = j by omega]; exact hz) (by rw [wrap_i64 (by omega) (by omega)]; omega) (by rw [wrap_i64 (by omega) (by omega)]; omega) (by omega) (by omega)
      (by rw [wrap_i64 (by omega) (by omega)]; omega) (by rw [beq_eq_false_iff_ne]; omega)

def fMinus : FuncId := 56
noncomputable def minusL : Code := loopAt Tryd.prog fMinus 0

def subOne (z y : Int) : Int := IntKind.u64.wrap (IntKind.u64.wrap z - y)

abbrev minusLive (b a : Value) (f' : Nat) (w : Int) (k j : Nat) : List (Nat × Value) := [(1, b), (5, sl f' 0 j), (6, .int .u64 w), (14, a), (15, .int .i64 (k : Int)), (16, .int .i64 (j : Int))]

theorem minusRoundA (f g f' k l j : Nat) (ca cb out : List Value) (w z y : Int) (m : Nat) (d : List Deferred) (rest : Nat → Value) (s : St) (hov : Holds s [(f, rowU ca), (g, rowU cb), (f', rowU out)]) (h1 : (j : Int) < (k : Int)) (h2 : 0 ≤ (j : Int) ∧ (j : Int) < (k : Int)) (h3 : ca[0 + j * 1]? = some (.int .u32 z)) (h4 : (j : Int) < (l : Int)) (h5 : 0 ≤ (j : Int) ∧ (j : Int) < (l : Int)) (h6 : cb[0 + j * 1]? = some (.int .u32 y))
    (h7 : (j + 1) * 4 ≤ 2 ^ 46 ∧ j + 1 < 2 ^ 62) (h8 : 0 + (j + 1) * 1 ≤ out.length) (h9 : IntKind.i64.wrap ((j : Int) + 1) = ((j + 1 : Nat) : Int)) :
    ∃ rest' s', evalCode EL (callN EL NN m) NN minusL { tmps := tmpsOf 47 (minusLive (sl g 0 l) (sl f 0 k) f' w k j) rest, defers := d } s = some (.normal, { tmps := tmpsOf 47 (minusLive (sl g 0 l) (sl f 0 k) f' (Int.fdiv (subOne z (IntKind.u64.wrap (w + IntKind.u64.wrap y))) 9223372036854775808) k (j + 1)) rest', defers := d }, s') ∧
      After s s' [f, g, f'] [(f, rowU ca), (g, rowU cb), (f', rowU (splice out (0 + j * 1) [.int .u32 (IntKind.u32.wrap (subOne z (IntKind.u64.wrap (w + IntKind.u64.wrap y))))]))] := by
  have h3' := load1 h3
  have h6' := load1 h6
  exact round_by hov [.yes 0 h1, .yes 0 h2, .m 0 0, .list 0 h3', .yes 0 h4, .yes 0 h5, .m 0 1, .list 0 h6', .m 0 0, .m 0 3, .yes 2 h7, .m 0 2, .yes 2 h8, .m 0 2, .int 3 h9, .m 0 0] [0, 1, 2] (by kernel_rfl)
theorem minusRoundB (f g f' k l j : Nat) (ca cb out : List Value) (w z : Int) (m : Nat) (d : List Deferred) (rest : Nat → Value) (s : St) (hov : Holds s [(f, rowU ca), (g, rowU cb), (f', rowU out)]) (h1 : (j : Int) < (k : Int)) (h2 : 0 ≤ (j : Int) ∧ (j : Int) < (k : Int)) (h3 : ca[0 + j * 1]? = some (.int .u32 z)) (h4 : ¬ (j : Int) < (l : Int))
    (h7 : (j + 1) * 4 ≤ 2 ^ 46 ∧ j + 1 < 2 ^ 62) (h8 : 0 + (j + 1) * 1 ≤ out.length) (h9 : IntKind.i64.wrap ((j : Int) + 1) = ((j + 1 : Nat) : Int)) :
    ∃ rest' s', evalCode EL (callN EL NN m) NN minusL { tmps := tmpsOf 47 (minusLive (sl g 0 l) (sl f 0 k) f' w k j) rest, defers := d } s = some (.normal, { tmps := tmpsOf 47 (minusLive (sl g 0 l) (sl f 0 k) f' (Int.fdiv (subOne z w) 9223372036854775808) k (j + 1)) rest', defers := d }, s') ∧
      After s s' [f, g, f'] [(f, rowU ca), (g, rowU cb), (f', rowU (splice out (0 + j * 1) [.int .u32 (IntKind.u32.wrap (subOne z w))]))] := by
  have h3' := load1 h3
  exact round_by hov [.yes 0 h1, .yes 0 h2, .m 0 0, .list 0 h3', .no 0 h4, .m 0 0, .m 0 3, .yes 2 h7, .m 0 2, .yes 2 h8, .m 0 2, .int 3 h9, .m 0 0] [0, 1, 2] (by kernel_rfl)
theorem minusStop (f g f' k l j : Nat) (ca cb out : List Value) (w : Int) (m : Nat) (d : List Deferred) (rest : Nat → Value) (s : St) (hov : Holds s [(f, rowU ca), (g, rowU cb), (f', rowU out)]) (h1 : ¬ (j : Int) < (k : Int)) :
    ∃ rest' s', evalCode EL (callN EL NN m) NN minusL { tmps := tmpsOf 47 (minusLive (sl g 0 l) (sl f 0 k) f' w k j) rest, defers := d } s = some (.exit 0, { tmps := tmpsOf 47 [(5, sl f' 0 j)] rest', defers := d }, s') ∧
      After s s' [f, g, f'] [(f, rowU ca), (g, rowU cb), (f', rowU out)] := by
  exact round_by hov [.no 0 h1, .m 0 0] [0, 1, 2] (by kernel_rfl)

/-- What is borrowed, and what is there, behind so many parts. -/
def minusW (a b : Bg) : Nat → Int
  | 0 => 0
  | j + 1 => Int.fdiv (subOne (valAt a.cells j) (if j < b.k then IntKind.u64.wrap (minusW a b j + IntKind.u64.wrap (valAt b.cells j)) else minusW a b j)) 9223372036854775808
def minusO (a b : Bg) : Nat → List Value
  | 0 => aZeros [.int .u32 0] a.k
  | j + 1 => splice (minusO a b j) (0 + j * 1) [.int .u32 (IntKind.u32.wrap (subOne (valAt a.cells j) (if j < b.k then IntKind.u64.wrap (minusW a b j + IntKind.u64.wrap (valAt b.cells j)) else minusW a b j)))]

theorem minusO_ok (a b : Bg) : ∀ j, j ≤ a.k → (minusO a b j).length = a.k ∧ AllU (minusO a b j)
  | 0, _ => by
      unfold minusO
      refine ⟨by simp [aZeros], fun x hx => ?_⟩
      simp [aZeros] at hx
      rw [hx.2]
      exact ⟨by omega, by omega⟩
  | j + 1, h => by
      obtain ⟨h1, h2⟩ := minusO_ok a b j (by omega)
      unfold minusO
      exact ⟨by rw [splice_len (by simp; omega)]; exact h1, h2.splice (wrap_u32_range _)⟩

def Bg.minus (a b : Bg) : Bg := ⟨minusO a b a.k, trimTo (minusO a b a.k) a.k⟩

theorem minus_ok' {a b : Bg} {r : Nat} (h : a.ok r) : (a.minus b).ok r := by
  obtain ⟨h1, h2⟩ := minusO_ok a b a.k (Nat.le_refl _)
  have h3 := trimTo_le (minusO a b a.k) a.k
  have h4 := h.2.2.1
  exact ⟨h2, by show trimTo (minusO a b a.k) a.k ≤ (minusO a b a.k).length; omega, by show trimTo (minusO a b a.k) a.k ≤ r; omega, trimTo_norm h2 (by omega)⟩

theorem minus_loop (a b : Bg) (r t : Nat) (ha : a.ok r) (hb : b.ok t) (hr : r < 1000000) (m : Nat) (d : List Deferred) :
    Loops3 (rowU a.cells) (rowU b.cells) (rowU (aZeros [.int .u32 0] a.k)) (evalCode EL (callN EL NN m) NN (.loop minusL)) 47 d (fun f g f' => minusLive (sl g 0 b.k) (sl f 0 a.k) f' 0 a.k 0) (.exit 0) (fun f g f' _ => [(5, sl f' 0 a.k)])
      (fun f g f' _ => [(f, rowU a.cells), (g, rowU b.cells), (f', rowU (minusO a b a.k))]) := by
  intro f g f' rest s hov
  refine loop_pi (fun j => minusLive (sl g 0 b.k) (sl f 0 a.k) f' (minusW a b j) a.k j) (fun j => [(f, rowU a.cells), (g, rowU b.cells), (f', rowU (minusO a b j))]) (fun j => a.k - j) (fun j => j ≤ a.k) (by simp) (fun j hj rest s' hA => ?_) 0 (Nat.zero_le _) (by have := ha.2.2.1; show a.k - 0 < 1048576; omega) hov rest
  have hov' := hA.holds
  have hk := ha.2.2.1
  obtain ⟨l1, l2⟩ := minusO_ok a b j hj
  by_cases hlt : j < a.k
  · left
    have hz := allU_val ha.1 (show j < a.cells.length by have := ha.2.1; omega)
    have hz' : a.cells[0 + j * 1]? = some (.int .u32 (valAt a.cells j)) := by rw [show 0 + j * 1 = j by omega]; exact hz
    have hw : IntKind.i64.wrap ((j : Int) + 1) = ((j + 1 : Nat) : Int) := by rw [wrap_i64 (by omega) (by omega)]; omega
    by_cases hl : j < b.k
    · have hy := allU_val hb.1 (show j < b.cells.length by have := hb.2.1; omega)
      have hy' : b.cells[0 + j * 1]? = some (.int .u32 (valAt b.cells j)) := by rw [show 0 + j * 1 = j by omega]; exact hy
      obtain ⟨rest', s'', g1, g2⟩ := minusRoundA f g f' a.k b.k j a.cells b.cells (minusO a b j) (minusW a b j) (valAt a.cells j) (valAt b.cells j) m d rest s' hov' (by omega) (by omega) hz' (by omega) (by omega) hy' (by omega) (by omega) hw
      refine ⟨j + 1, rest', s'', by omega, by omega, ?_, ?_⟩
      · simp only [minusW, if_pos hl]; exact g1
      · simp only [minusO, if_pos hl]; exact g2
    · obtain ⟨rest', s'', g1, g2⟩ := minusRoundB f g f' a.k b.k j a.cells b.cells (minusO a b j) (minusW a b j) (valAt a.cells j) m d rest s' hov' (by omega) (by omega) hz' (by omega) (by omega) (by omega) hw
      refine ⟨j + 1, rest', s'', by omega, by omega, ?_, ?_⟩
      · simp only [minusW, if_neg hl]; exact g1
      · simp only [minusO, if_neg hl]; exact g2
  · right
    obtain rfl : j = a.k := by omega
    exact ⟨[], minusStop f g f' a.k b.k a.k a.cells b.cells (minusO a b a.k) (minusW a b a.k) m d rest s' hov' (by omega)⟩

theorem minus_ok (q : Nat) (a b : Bg) (r t : Nat) (ha : a.ok r) (hb : b.ok t) (hr : r < 1000000) :
    Calls2 (rowU a.cells) (rowU b.cells) (fun f g => callN EL NN (q + 2) fMinus [sl f 0 a.k, sl g 0 b.k]) (fun f g nk => .ok (sl (nk.getD 0 0) 0 (a.minus b).k)) (fun f g nk => [(f, rowU a.cells), (g, rowU b.cells), (nk.getD 0 0, rowU (a.minus b).cells)]) := by
  intro f g s hov
  have hk := ha.2.2.1
  obtain ⟨l1, l2⟩ := minusO_ok a b a.k (Nat.le_refl _)
  have h2 : 0 ≤ a.k ∧ a.k < 2 ^ 62 ∧ 4 * a.k ≤ 2 ^ 48 := by omega
  have l3 := (minus_loop a b r t ha hb hr (q + 1) []).ev
  have l4 := (trim_ok q a.k (minusO a b a.k) l2 (by omega) (by omega)).ev
  exact fnk_by hov [.yes 2 h2, .m 0 0, .loop 0 0 [0, 1, 2] l3, .call 0 0 [2] l4, .m 0 0] [2] [0, 1, 2] (by kernel_rfl) (by kernel_rfl)

end Go.Proofs.YtiabpbememhdeaaDoor

/-
  Numbers as decimal texts, walked, 5: 'cmp'.
-/
set_option linter.unusedVariables false
namespace Go.Proofs.YtiabpbememhdeaaDoor
open Go.Ai Go.RowKit
set_option maxRecDepth 100000

def fCmp : FuncId := 55
noncomputable def cmpL : Code := loopAt Tryd.prog fCmp 0

def below : Nat → Int
  | 0 => -1
  | n + 1 => (n : Int)

abbrev cmpLive (a b : Value) (n : Nat) : List (Nat × Value) := [(0, a), (1, b), (5, .int .i64 (below n))]

theorem cmpSame (f g k l n : Nat) (ca cb : List Value) (z y : Int) (m : Nat) (d : List Deferred) (rest : Nat → Value) (s : St) (hov : Holds s [(f, rowU ca), (g, rowU cb)]) (h1 : (n : Int) ≥ 0) (h2 : 0 ≤ (n : Int) ∧ (n : Int) < (k : Int)) (h3 : 0 ≤ (n : Int) ∧ (n : Int) < (l : Int)) (h4 : ca[0 + n * 1]? = some (.int .u32 z)) (h5 : cb[0 + n * 1]? = some (.int .u32 y))
    (h6 : (!(z == y)) = false) (h7 : IntKind.i64.wrap ((n : Int) - 1) = below n) :
    ∃ rest' s', evalCode EL (callN EL NN m) NN cmpL { tmps := tmpsOf 41 (cmpLive (sl f 0 k) (sl g 0 l) (n + 1)) rest, defers := d } s = some (.normal, { tmps := tmpsOf 41 (cmpLive (sl f 0 k) (sl g 0 l) n) rest', defers := d }, s') ∧ After s s' [f, g] [(f, rowU ca), (g, rowU cb)] := by
  have h4' := load1 h4
  have h5' := load1 h5
  exact round_by hov [.yes 1 h2, .m 0 0, .list 0 h4', .yes 0 h3, .m 0 1, .list 0 h5', .is 0 h6, .int 1 h7, .m 0 0] [0, 1] (by kernel_rfl)
theorem cmpLess (f g k l n : Nat) (ca cb : List Value) (z y : Int) (m : Nat) (d : List Deferred) (rest : Nat → Value) (s : St) (hov : Holds s [(f, rowU ca), (g, rowU cb)]) (h1 : (n : Int) ≥ 0) (h2 : 0 ≤ (n : Int) ∧ (n : Int) < (k : Int)) (h3 : 0 ≤ (n : Int) ∧ (n : Int) < (l : Int)) (h4 : ca[0 + n * 1]? = some (.int .u32 z)) (h5 : cb[0 + n * 1]? = some (.int .u32 y))
    (h6 : (!(z == y)) = true) (h7 : z < y) :
    ∃ rest' s', evalCode EL (callN EL NN m) NN cmpL { tmps := tmpsOf 41 (cmpLive (sl f 0 k) (sl g 0 l) (n + 1)) rest, defers := d } s = some (.ret, { tmps := tmpsOf 41 [(4, .int .i64 (-1))] rest', defers := d }, s') ∧ After s s' [f, g] [(f, rowU ca), (g, rowU cb)] := by
  have h4' := load1 h4
  have h5' := load1 h5
  exact round_by hov [.yes 1 h2, .m 0 0, .list 0 h4', .yes 0 h3, .m 0 1, .list 0 h5', .is 0 h6, .yes 0 h2, .m 0 0, .list 0 h4', .yes 0 h3, .m 0 1, .list 0 h5', .yes 0 h7, .m 0 0] [0, 1] (by kernel_rfl)
theorem cmpMore (f g k l n : Nat) (ca cb : List Value) (z y : Int) (m : Nat) (d : List Deferred) (rest : Nat → Value) (s : St) (hov : Holds s [(f, rowU ca), (g, rowU cb)]) (h1 : (n : Int) ≥ 0) (h2 : 0 ≤ (n : Int) ∧ (n : Int) < (k : Int)) (h3 : 0 ≤ (n : Int) ∧ (n : Int) < (l : Int)) (h4 : ca[0 + n * 1]? = some (.int .u32 z)) (h5 : cb[0 + n * 1]? = some (.int .u32 y))
    (h6 : (!(z == y)) = true) (h7 : ¬ z < y) :
    ∃ rest' s', evalCode EL (callN EL NN m) NN cmpL { tmps := tmpsOf 41 (cmpLive (sl f 0 k) (sl g 0 l) (n + 1)) rest, defers := d } s = some (.ret, { tmps := tmpsOf 41 [(4, .int .i64 1)] rest', defers := d }, s') ∧ After s s' [f, g] [(f, rowU ca), (g, rowU cb)] := by
  have h4' := load1 h4
  have h5' := load1 h5
  exact round_by hov [.yes 1 h2, .m 0 0, .list 0 h4', .yes 0 h3, .m 0 1, .list 0 h5', .is 0 h6, .yes 0 h2, .m 0 0, .list 0 h4', .yes 0 h3, .m 0 1, .list 0 h5', .no 0 h7, .m 0 0] [0, 1] (by kernel_rfl)
theorem cmpStop (f g k l : Nat) (ca cb : List Value) (m : Nat) (d : List Deferred) (rest : Nat → Value) (s : St) (hov : Holds s [(f, rowU ca), (g, rowU cb)]) :
    ∃ rest' s', evalCode EL (callN EL NN m) NN cmpL { tmps := tmpsOf 41 (cmpLive (sl f 0 k) (sl g 0 l) 0) rest, defers := d } s = some (.exit 0, { tmps := tmpsOf 41 [] rest', defers := d }, s') ∧ After s s' [f, g] [(f, rowU ca), (g, rowU cb)] := by
  exact round_by hov [.m 0 0] [0, 1] (by kernel_rfl)

/-- Where two numbers part, from the highest part on. -/
def cmpGo (a b : Bg) : Nat → Option Int
  | 0 => none
  | n + 1 => if valAt a.cells n = valAt b.cells n then cmpGo a b n else some (if valAt a.cells n < valAt b.cells n then -1 else 1)

def Bg.cmp (a b : Bg) : Int := if a.k = b.k then (cmpGo a b a.k).getD 0 else (a.k : Int) - (b.k : Int)

theorem below_wrap (n : Nat) (h : n < 1000000) : IntKind.i64.wrap ((n : Int) - 1) = below n := by
  rw [wrap_i64 (by omega) (by omega)]
  cases n with
  | zero => rfl
  | succ n => show ((n + 1 : Nat) : Int) - 1 = (n : Int); omega

theorem cmp_loop_none (a b : Bg) (r t : Nat) (ha : a.ok r) (hb : b.ok t) (hr : r < 1000000) (he : a.k = b.k) (hc : cmpGo a b a.k = none) (m : Nat) (d : List Deferred) :
    Loops2 (rowU a.cells) (rowU b.cells) (evalCode EL (callN EL NN m) NN (.loop cmpL)) 41 d (fun f g => cmpLive (sl f 0 a.k) (sl g 0 b.k) a.k) (.exit 0) (fun f g _ => []) (fun f g _ => [(f, rowU a.cells), (g, rowU b.cells)]) := by
  intro f g rest s hov
  have hk := ha.2.2.1
  have ha2 := ha.2.1
  have hb2 := hb.2.1
  refine loop_pi (fun n => cmpLive (sl f 0 a.k) (sl g 0 b.k) n) (fun _ => [(f, rowU a.cells), (g, rowU b.cells)]) (fun n => n) (fun n => n ≤ a.k ∧ cmpGo a b n = none) (by simp) (fun n hn rest s' hA => ?_) a.k ⟨Nat.le_refl _, hc⟩ (by show a.k < 1048576; omega) hov rest
  obtain ⟨h1, h2⟩ := hn
  have hov' := hA.holds
  cases n with
  | zero => exact .inr ⟨[], cmpStop f g a.k b.k a.cells b.cells m d rest s' hov'⟩
  | succ n =>
    left
    have hz := allU_val ha.1 (show n < a.cells.length by omega)
    have hy := allU_val hb.1 (show n < b.cells.length by omega)
    unfold cmpGo at h2
    split at h2
    next heq =>
      obtain ⟨rest', s'', g1, g2⟩ := cmpSame f g a.k b.k n a.cells b.cells _ _ m d rest s' hov' (by omega) (by omega) (by omega) (by rw [show 0 + n * 1 = n by omega]; exact hz) (by rw [show 0 + n * 1 = n by omega]; exact hy) (by simp [heq]) (below_wrap n (by omega))
      exact ⟨n, rest', s'', ⟨by omega, h2⟩, by omega, g1, g2⟩
    next => simp at h2

theorem cmp_loop_some (a b : Bg) (r t : Nat) (ha : a.ok r) (hb : b.ok t) (hr : r < 1000000) (he : a.k = b.k) (v : Int) (hc : cmpGo a b a.k = some v) (m : Nat) (d : List Deferred) :
    Loops2 (rowU a.cells) (rowU b.cells) (evalCode EL (callN EL NN m) NN (.loop cmpL)) 41 d (fun f g => cmpLive (sl f 0 a.k) (sl g 0 b.k) a.k) .ret (fun f g _ => [(4, .int .i64 v)]) (fun f g _ => [(f, rowU a.cells), (g, rowU b.cells)]) := by
  intro f g rest s hov
  have hk := ha.2.2.1
  have ha2 := ha.2.1
  have hb2 := hb.2.1
  refine loop_pi (fun n => cmpLive (sl f 0 a.k) (sl g 0 b.k) n) (fun _ => [(f, rowU a.cells), (g, rowU b.cells)]) (fun n => n) (fun n => n ≤ a.k ∧ cmpGo a b n = some v) (by simp) (fun n hn rest s' hA => ?_) a.k ⟨Nat.le_refl _, hc⟩ (by show a.k < 1048576; omega) hov rest
  obtain ⟨h1, h2⟩ := hn
  have hov' := hA.holds
  cases n with
  | zero => simp [cmpGo] at h2
  | succ n =>
    have hz := allU_val ha.1 (show n < a.cells.length by omega)
    have hy := allU_val hb.1 (show n < b.cells.length by omega)
    have hz' : a.cells[0 + n * 1]? = some (.int .u32 (valAt a.cells n)) := by rw [show 0 + n * 1 = n by omega]; exact hz
    have hy' : b.cells[0 + n * 1]? = some (.int .u32 (valAt b.cells n)) := by rw [show 0 + n * 1 = n by omega]; exact hy
    unfold cmpGo at h2
    split at h2
    next heq =>
      left
      obtain ⟨rest', s'', g1, g2⟩ := cmpSame f g a.k b.k n a.cells b.cells _ _ m d rest s' hov' (by omega) (by omega) (by omega) hz' hy' (by simp [heq]) (below_wrap n (by omega))
      exact ⟨n, rest', s'', ⟨by omega, h2⟩, by omega, g1, g2⟩
    next heq =>
      right
      refine ⟨[], ?_⟩
      simp only [Option.some.injEq] at h2
      subst h2
      split
      next hlt => exact cmpLess f g a.k b.k n a.cells b.cells _ _ m d rest s' hov' (by omega) (by omega) (by omega) hz' hy' (by simp [heq]) hlt
      next hlt => exact cmpMore f g a.k b.k n a.cells b.cells _ _ m d rest s' hov' (by omega) (by omega) (by omega) hz' hy' (by simp [heq]) hlt

theorem cmp_apart (q : Nat) (ca cb : List Value) (k l : Nat) (h1 : (!((k : Int) == (l : Int))) = true) (h2 : IntKind.i64.wrap ((k : Int) - (l : Int)) = (k : Int) - (l : Int)) :
    Calls2 (rowU ca) (rowU cb) (fun f g => callN EL NN (q + 1) fCmp [sl f 0 k, sl g 0 l]) (fun f g _ => .ok (.int .i64 ((k : Int) - (l : Int)))) (fun f g _ => [(f, rowU ca), (g, rowU cb)]) := by
  intro f g s hov
  exact fnk_by hov [.is 0 h1, .int 2 h2, .m 0 0] [] [0, 1] (by kernel_rfl) (by kernel_rfl)
theorem cmp_none (q : Nat) (a b : Bg) (r t : Nat) (ha : a.ok r) (hb : b.ok t) (hr : r < 1000000) (he : a.k = b.k) (hc : cmpGo a b a.k = none) (h1 : (!((a.k : Int) == (b.k : Int))) = false) (h2 : IntKind.i64.wrap ((a.k : Int) - 1) = below a.k) :
    Calls2 (rowU a.cells) (rowU b.cells) (fun f g => callN EL NN (q + 1) fCmp [sl f 0 a.k, sl g 0 b.k]) (fun f g _ => .ok (.int .i64 0)) (fun f g _ => [(f, rowU a.cells), (g, rowU b.cells)]) := by
  intro f g s hov
  have l1 := (cmp_loop_none a b r t ha hb hr he hc q []).ev
  exact fnk_by hov [.is 0 h1, .int 1 h2, .loop 0 0 [0, 1] l1, .m 0 0] [] [0, 1] (by kernel_rfl) (by kernel_rfl)
theorem cmp_some (q : Nat) (a b : Bg) (r t : Nat) (ha : a.ok r) (hb : b.ok t) (hr : r < 1000000) (he : a.k = b.k) (v : Int) (hc : cmpGo a b a.k = some v) (h1 : (!((a.k : Int) == (b.k : Int))) = false) (h2 : IntKind.i64.wrap ((a.k : Int) - 1) = below a.k) :
    Calls2 (rowU a.cells) (rowU b.cells) (fun f g => callN EL NN (q + 1) fCmp [sl f 0 a.k, sl g 0 b.k]) (fun f g _ => .ok (.int .i64 v)) (fun f g _ => [(f, rowU a.cells), (g, rowU b.cells)]) := by
  intro f g s hov
  have l1 := (cmp_loop_some a b r t ha hb hr he v hc q []).ev
  exact fnk_by hov [.is 0 h1, .int 1 h2, .loop 0 0 [0, 1] l1, .m 0 0] [] [0, 1] (by kernel_rfl) (by kernel_rfl)

theorem cmp_ok (q : Nat) (a b : Bg) (r t : Nat) (ha : a.ok r) (hb : b.ok t) (hr : r < 1000000) (ht : t < 1000000) :
    Calls2 (rowU a.cells) (rowU b.cells) (fun f g => callN EL NN (q + 1) fCmp [sl f 0 a.k, sl g 0 b.k]) (fun f g _ => .ok (.int .i64 (a.cmp b))) (fun f g _ => [(f, rowU a.cells), (g, rowU b.cells)]) := by
  have hk := ha.2.2.1
  have hl := hb.2.2.1
  unfold Bg.cmp
  by_cases he : a.k = b.k
  · have h1 : (!((a.k : Int) == (b.k : Int))) = false := by simp [he]
    rw [if_pos he]
    cases hc : cmpGo a b a.k with
    | none => exact cmp_none q a b r t ha hb hr he hc h1 (below_wrap a.k (by omega))
    | some v => exact cmp_some q a b r t ha hb hr he v hc h1 (below_wrap a.k (by omega))
  · rw [if_neg he]
    exact cmp_apart q a.cells b.cells a.k b.k (by simp; omega) (wrap_i64 (by omega) (by omega))

end Go.Proofs.YtiabpbememhdeaaDoor
