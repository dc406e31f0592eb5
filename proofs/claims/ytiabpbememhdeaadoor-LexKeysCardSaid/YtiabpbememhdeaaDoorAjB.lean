/-
  THE FORKED RUN, 2: operations, code, calls.
-/
import Derived.Test.YtiabpbememhdeaaDoorAjA
set_option linter.unusedSimpArgs false
set_option linter.unusedVariables false
set_option linter.unusedSectionVars false
namespace Go.Ai
open Go

section
variable {α : Type}

def valT (E : Env) (ρ : Operand → Value) (o : Oper) (s : St) (k : Value → St → T α) : T α :=
  match o.op with
  | .pick c a b => match ρ c with
    | .bool t => .ask t fun c => k (if c then ρ a else ρ b) s
    | _ => .fail
  | .load t a => loadT E s t (ρ a) fun v => k v s
  | .store t a x => storeT E s t (ρ a) (ρ x) fun s' => k undef s'
  | .indexAddr t x i => indexAddrT E t (ρ x) (ρ i) fun v => k v s
  | .slice t x lo hi mx => sliceStrT E s t (ρ x) (lo.map ρ) (hi.map ρ) (mx.map ρ) fun v => k v s
  | .binOp .add t x y _ => addStrT E t x y (ρ x) (ρ y) fun v => k v s
  | .binOp .eql t x y _ => eqStrT E false t x y (ρ x) (ρ y) fun v => k v s
  | .binOp .neq t x y _ => eqStrT E true t x y (ρ x) (ρ y) fun v => k v s
  | .binOp op t x y _ => liftT (aBin E op t x y (ρ x) (ρ y)) fun v => intT v fun v => k v s
  | .index t x i => indexStrT E t (ρ x) (ρ i) fun v => k v s
  | .call { callee := .builtin .append, args, argTypes } => match args.toList.map ρ with
    | [x, y] => appendT E s argTypes x y k
    | _ => .fail
  | .call { callee := .builtin .clear, args, argTypes } => match args.toList.map ρ with
    | [x] => clearT E s argTypes x k
    | _ => .fail
  | .alloc t => match E.zero t, E.size t with
    | some z, some n => if z.cells.size = n ∧ 0 < n then .push s (.row z.cells.toList n 0 0 []) fun s' => k (.pointer (some ⟨s.next, 0, some 0⟩)) s' else .fail
    | _, _ => .fail
  | .box _ x => if 0 < (ρ x).cells.size then .push s (.row (ρ x).cells.toList (ρ x).cells.size 0 0 []) fun s' => k (.pointer (some ⟨s.next, 0, some 0⟩)) s' else .fail
  | .buildSlice t len parts => match E.desc t with
    | some (.slice elem) => match E.size elem, E.zero elem with
      | some n, some z =>
        if 0 < n ∧ len * n ≤ 2 ^ 24 ∧ z.cells.size = n then
          match Instr.fill (fun i => some (i * n, n)) (aZeros z.cells.toList len).toArray (parts.map fun (i, x) => (i, ρ x)).toList with
          | some cells => .push s (.row cells.toList n 0 0 []) fun s' => k (.slice (some ⟨s.next, 0, some 0⟩) len unc) s'
          | none => .fail
        else .fail
      | _, _ => .fail
    | _ => .fail
  | .makeMap _ none => .push s (.map []) fun s' => k (.map (some s.next)) s'
  | .makeSlice t l c => match E.desc t, aInt (ρ l), aInt (ρ c) with
    | some (.slice elem), some l, some c => match E.size elem, E.bytes elem, E.zero elem with
      | some n, some b, some z => .ask (decide (0 < n ∧ z.cells.size = n ∧ 0 ≤ l ∧ l ≤ c ∧ c < 2 ^ 62 ∧ b * c.toNat ≤ 2 ^ 48)) fun q => if q then
          .push s (.row (aZeros z.cells.toList c.toNat) n 0 0 []) fun s' => k (.slice (some ⟨s.next, 0, some 0⟩) l.toNat unc) s'
        else .fail
      | _, _, _ => .fail
    | _, _, _ => .fail
  | .convert src dst x => match ρ x with
    | .slice (some a) n _ => match E.desc src, E.desc dst with
      | some (.slice e), some .string => match E.desc e with
        | some (.int .u8) => readT E.old s a n fun l => liftT (bytesOf l) fun bs => k (.string ⟨bs.toArray⟩) s
        | _ => .fail
      | _, _ => .fail
    | .string b => match E.desc src, E.desc dst with
      | some .string, some .string => k (.string b) s
      | some .string, some (.slice e) => match E.desc e with
        | some (.int .u8) => .push s (.row (b.data.toList.map fun b => .int .u8 b.toNat) 1 0 0 []) fun s' => k (.slice (some ⟨s.next, 0, some 0⟩) b.size unc) s'
        | _ => .fail
      | _, _ => .fail
    | _ => liftT (aVal E ρ o s) fun r => intT r.1 fun v => k v r.2
  | _ => liftT (aVal E ρ o s) fun r => k r.1 r.2

theorem valT_run {E : Env} {ρ : Operand → Value} {o : Oper} {s : St} {k : Value → St → T α} {r : α} (h : (valT E ρ o s k).Runs r) : ∃ v s', aVal E ρ o s = some (v, s') ∧ (k v s').Runs r := by
  obtain ⟨dst, op, ty, pos, after, guard⟩ := o
  have other : (liftT (aVal E ρ ⟨dst, op, ty, pos, after, guard⟩ s) fun r => k r.1 r.2).Runs r → ∃ v s', aVal E ρ ⟨dst, op, ty, pos, after, guard⟩ s = some (v, s') ∧ (k v s').Runs r := by
    intro h
    obtain ⟨⟨v, s'⟩, h1, h2⟩ := liftT_run h
    exact ⟨v, s', h1, h2⟩
  unfold valT at h
  split at h
  next c a b hop =>
    simp only at hop
    subst hop
    unfold aVal
    simp only
    split at h
    next t ht =>
      simp only [T.Runs] at h
      simp only [ht]
      exact ⟨_, _, rfl, h⟩
    next => exact (fail_run h).elim
  next t a hop =>
    simp only at hop
    subst hop
    unfold aVal
    obtain ⟨v, h1, h2⟩ := loadT_run h
    exact ⟨v, s, by simp [h1], h2⟩
  next t a x hop =>
    simp only at hop
    subst hop
    unfold aVal
    obtain ⟨v, h1, h2⟩ := storeT_run h
    exact ⟨_, _, by simp [h1], h2⟩
  next t x i hop =>
    simp only at hop
    subst hop
    unfold aVal
    obtain ⟨v, h1, h2⟩ := indexAddrT_run h
    exact ⟨v, s, by simp [h1], h2⟩
  next t x lo hi mx hop =>
    simp only at hop
    subst hop
    unfold aVal
    obtain ⟨v, h1, h2⟩ := sliceStrT_run h
    exact ⟨v, s, by simp [h1], h2⟩
  next t x y ty hop =>
    simp only at hop
    subst hop
    unfold aVal
    obtain ⟨v, h1, h2⟩ := addStrT_run h
    exact ⟨v, s, by simp [h1], h2⟩
  next t x y ty hop =>
    simp only at hop
    subst hop
    unfold aVal
    obtain ⟨v, h1, h2⟩ := eqStrT_run h
    exact ⟨v, s, by simp only [Bool.false_eq_true, if_false] at h1; simp [h1], h2⟩
  next t x y ty hop =>
    simp only at hop
    subst hop
    unfold aVal
    obtain ⟨v, h1, h2⟩ := eqStrT_run h
    exact ⟨v, s, by simp only [if_true] at h1; simp [h1], h2⟩
  next op t x y ty hno hno1 hno2 hop =>
    simp only at hop
    subst hop
    unfold aVal
    obtain ⟨v, h1, h2⟩ := liftT_run h
    exact ⟨v, s, by simp [h1], intT_run h2⟩
  next t x i hop =>
    simp only at hop
    subst hop
    unfold aVal
    obtain ⟨v, h1, h2⟩ := indexStrT_run h
    exact ⟨v, s, by simp [h1], h2⟩
  next args ats hop =>
    simp only at hop
    subst hop
    unfold aVal
    simp only
    split at h
    next x y hl =>
      obtain ⟨v, s', h1, h2⟩ := appendT_run h
      exact ⟨v, s', by rw [hl]; simpa [aBuiltin] using h1, h2⟩
    next => exact (fail_run h).elim
  next args ats hop =>
    simp only at hop
    subst hop
    unfold aVal
    simp only
    split at h
    next x hl =>
      obtain ⟨v, s', h1, h2⟩ := clearT_run h
      exact ⟨v, s', by rw [hl]; simpa [aBuiltin] using h1, h2⟩
    next => exact (fail_run h).elim
  next t hop =>
    simp only at hop
    subst hop
    unfold aVal
    simp only
    split at h
    next z n hz hn =>
      simp only [hz, hn]
      split at h
      next hc => rw [if_pos hc]; exact ⟨_, _, rfl, h⟩
      next => exact (fail_run h).elim
    next => exact (fail_run h).elim
  next t x hop =>
    simp only at hop
    subst hop
    unfold aVal
    simp only
    split at h
    next hc => rw [if_pos hc]; exact ⟨_, _, rfl, h⟩
    next => exact (fail_run h).elim
  next t len parts hop =>
    simp only at hop
    subst hop
    unfold aVal aBuildSlice
    simp only
    split at h
    next elem hd =>
      simp only [hd]
      split at h
      next n z hn hz =>
        simp only [hn, hz]
        split at h
        next hc =>
          rw [if_pos hc]
          split at h
          next cells hf => simp only [hf]; exact ⟨_, _, rfl, h⟩
          next => exact (fail_run h).elim
        next => exact (fail_run h).elim
      next => exact (fail_run h).elim
    next => exact (fail_run h).elim
  next t hop =>
    simp only at hop
    subst hop
    unfold aVal
    exact ⟨_, _, rfl, h⟩
  next t l c hop =>
    simp only at hop
    subst hop
    unfold aVal aMakeSlice
    simp only
    split at h
    next elem l' c' hd hl hc =>
      simp only [hd, hl, hc]
      split at h
      next n b z hn hb hz =>
        simp only [hn, hb, hz]
        obtain ⟨h1, h2⟩ := ask_run' h
        rw [if_pos (of_decide_eq_true h1)]
        exact ⟨_, _, rfl, h2⟩
      next => exact (fail_run h).elim
    next => exact (fail_run h).elim
  next src dst x hop =>
    simp only at hop
    subst hop
    split at h
    next a n c hx =>
      unfold aVal aConvert
      simp only [hx]
      split at h
      next e hs hd =>
        simp only [hs, hd]
        split at h
        next he =>
          simp only [he]
          obtain ⟨l, h1, h2⟩ := readT_run h
          obtain ⟨bs, h3, h4⟩ := liftT_run h2
          simp only [h1, h3]
          exact ⟨_, _, rfl, h4⟩
        next => exact (fail_run h).elim
      next => exact (fail_run h).elim
    next b hx =>
      unfold aVal aConvert
      simp only [hx]
      split at h
      next hs hd => simp only [hs, hd]; exact ⟨_, _, rfl, h⟩
      next e hs hd =>
        simp only [hs, hd]
        split at h
        next he => simp only [he]; exact ⟨_, _, rfl, h⟩
        next => exact (fail_run h).elim
      next => exact (fail_run h).elim
    next =>
      obtain ⟨⟨v, s'⟩, h1, h2⟩ := liftT_run h
      exact ⟨v, s', h1, intT_run h2⟩
  next => exact other h

abbrev CallerT (α : Type) := FuncId → List Value → St → (Ret → St → T α) → T α

/-- One caller's forks are another one's answers. -/
def CallT (call : Caller) (ct : CallerT α) : Prop := ∀ g args s k r, (ct g args s k).Runs r → ∃ x s', call g args s = some (x, s') ∧ (k x s').Runs r

def callT (E : Env) (ct : CallerT α) (g : FuncId) (args : List Value) (s : St) (k : Rs → T α) : T α :=
  match E.known g with
  | some F => liftT (F args) fun x => .ask x.1 fun c => if c then k (.val x.2 s) else .fail
  | none => ct g args s fun x s' => match x with
    | .ok v => k (.val v s')
    | .pan v => k (.pan v s')

def opCT (E : Env) (ct : CallerT α) (ρ : Operand → Value) (o : Oper) (s : St) (k : Rs → T α) : T α :=
  match o.op with
  | .call { callee := .value f, args, .. } => match ρ f with
    | .func (.func g) first captured => callT E ct g (first.toList ++ args.toList.map ρ ++ captured.toList) s k
    | _ => .fail
  | .call { callee := .invoke .., .. } => .fail
  | .call { callee := .builtin .panic, args, .. } => match args.toList.map ρ with
    | [.iface t v] => k (.pan (.iface t v) s)
    | _ => .fail
  | .panic x => match ρ x with
    | .iface t v => k (.pan (.iface t v) s)
    | _ => .fail
  | .defer { callee := .value f, args, .. } => match ρ f with
    | .func (.func g) first captured => k (.dfr { target := .fn (.func g) captured, args := first ++ args.map ρ } s)
    | _ => .fail
  | _ => valT E ρ o s fun v s' => k (.val v s')

def opT (E : Env) (ct : CallerT α) (ρ : Operand → Value) (o : Oper) (s : St) (k : Rs → T α) : T α :=
  if clean ρ o.op then opCT E ct ρ o s k else .fail

variable {call : Caller} {ct : CallerT α}

theorem callT_run (hc : CallT call ct) {E : Env} {g : FuncId} {args : List Value} {s : St} {k : Rs → T α} {r : α} (h : (callT E ct g args s k).Runs r) : ∃ x, aCall E call g args s = some x ∧ (k x).Runs r := by
  unfold callT at h
  unfold aCall
  split at h
  next F hF =>
    obtain ⟨⟨c, v⟩, h1, h2⟩ := liftT_run h
    obtain ⟨h3, h4⟩ := ask_run' h2
    simp only at h3
    subst h3
    exact ⟨_, by simp [hF, h1], h4⟩
  next hF =>
    obtain ⟨x, s', h1, h2⟩ := hc _ _ _ _ _ h
    cases x with
    | ok v => exact ⟨_, by simp [hF, h1], h2⟩
    | pan v => exact ⟨_, by simp [hF, h1], h2⟩

theorem opT_run (hc : CallT call ct) {E : Env} {ρ : Operand → Value} {o : Oper} {s : St} {k : Rs → T α} {r : α} (h : (opT E ct ρ o s k).Runs r) : ∃ x, aOp E call ρ o s = some x ∧ (k x).Runs r := by
  unfold opT at h
  split at h
  case isFalse => exact (fail_run h).elim
  rename_i hcl
  unfold aOp
  rw [if_pos hcl]
  clear hcl
  obtain ⟨dst, op, ty, pos, after, guard⟩ := o
  unfold opCT at h
  unfold aOpC
  split at h
  next f args ats hop =>
    simp only at hop
    subst hop
    simp only
    split at h
    next g first captured hf => simp only [hf]; exact callT_run hc h
    next => exact (fail_run h).elim
  next => exact (fail_run h).elim
  next args ats hop =>
    simp only at hop
    subst hop
    simp only
    split at h
    next t v hl => simp only [hl]; exact ⟨_, rfl, h⟩
    next => exact (fail_run h).elim
  next x hop =>
    simp only at hop
    subst hop
    simp only
    split at h
    next t v hl => simp only [hl]; exact ⟨_, rfl, h⟩
    next => exact (fail_run h).elim
  next f args ats hop =>
    simp only at hop
    subst hop
    simp only
    split at h
    next g first captured hf => simp only [hf]; exact ⟨_, rfl, h⟩
    next => exact (fail_run h).elim
  next h1 h2 h3 h4 h5 =>
    obtain ⟨v, s', g1, g2⟩ := valT_run h
    refine ⟨_, ?_, g2⟩
    split
    next hop => exact absurd hop (h1 _ _ _)
    next hop => exact absurd hop (h2 _ _ _ _)
    next hop => exact absurd hop (h3 _ _)
    next hop => exact absurd hop (h4 _)
    next hop => exact absurd hop (h5 _ _ _)
    next => rw [g1]

def wantedT (ops : Array Oper) (tmps : List Value) (o : Oper) (k : Bool → T α) : T α :=
  match o.guard with
  | none => k true
  | some (j, want) => match ((ops[j]?).bind (·.dst)).bind (tmps[·]?) with
    | some (.bool b) => .ask b fun x => k (x == want)
    | _ => k false

theorem wantedT_run {ops : Array Oper} {tmps : List Value} {o : Oper} {k : Bool → T α} : (wantedT ops tmps o k).Runs = (k (aWanted ops tmps o)).Runs := by
  unfold wantedT aWanted
  cases hg : o.guard with
  | none => rfl
  | some jw =>
    obtain ⟨j, want⟩ := jw
    simp only
    generalize ((ops[j]?).bind (·.dst)).bind (tmps[·]?) = ov
    cases ov with
    | none => rfl
    | some v => cases v <;> rfl

def opsT (E : Env) (ct : CallerT α) (ops : Array Oper) : List Oper → AAct → St → (X → AAct → St → T α) → T α
  | [], a, s, k => k .normal a s
  | o :: rest, a, s, k => wantedT ops a.tmps o fun c => if c then opT E ct a.eval o s fun x => match x with
      | .val v s' => opsT E ct ops rest (a.put o.dst v) s' k
      | .pan v s' => k (.panic v) a s'
      | .dfr d s' => opsT E ct ops rest ({ a with defers := d :: a.defers }.put o.dst undef) s' k
    else opsT E ct ops rest (a.put o.dst undef) s k

theorem opsT_run (hc : CallT call ct) {E : Env} {ops : Array Oper} {k : X → AAct → St → T α} {r : α} : ∀ (l : List Oper) (a : AAct) (s : St), (opsT E ct ops l a s k).Runs r → ∃ x a' s', evalOps E call ops l a s = some (x, a', s') ∧ (k x a' s').Runs r := by
  intro l
  induction l with
  | nil => intro a s h; exact ⟨_, _, _, rfl, h⟩
  | cons o rest ih =>
    intro a s h
    simp only [opsT] at h
    rw [wantedT_run] at h
    simp only [evalOps]
    split at h
    next hw =>
      rw [if_pos hw]
      obtain ⟨x, h1, h2⟩ := opT_run hc h
      rw [h1]
      cases x with
      | val v s' => exact ih _ _ h2
      | pan v s' => exact ⟨_, _, _, rfl, h2⟩
      | dfr d s' => exact ih _ _ h2
    next hw =>
      rw [if_neg hw]
      exact ih _ _ h

/-! Statements whose order is open. -/
def traceT (E : Env) (ct : CallerT α) (ops : Array Oper) (bits : Array Nat) : List Oper → Nat → Option (Nat × Value × St) → AAct → St → (List Ent → Option (Nat × Value × St) → AAct → St → T α) → T α
  | [], _, pn, a, s, k => k [] pn a s
  | o :: rest, i, none, a, s, k => wantedT ops a.tmps o fun c => if c then opT E ct a.eval o s fun x => match x with
      | .val v s' => traceT E ct ops bits rest (i + 1) none (a.put o.dst v) s' fun l => k (⟨o, a, s, clsOf E a.eval o.op, true, v, s'⟩ :: l)
      | .pan v s' => traceT E ct ops bits rest (i + 1) (some (i, v, s')) (a.put o.dst undef) s fun l => k (⟨o, a, s, 4, true, undef, s⟩ :: l)
      | .dfr _ _ => .fail
    else traceT E ct ops bits rest (i + 1) none (a.put o.dst undef) s fun l => k (⟨o, a, s, 0, false, undef, s⟩ :: l)
  | o :: rest, i, some (p, pv, ps), a, s, k =>
    if (bits.getD i 0).testBit p then traceT E ct ops bits rest (i + 1) (some (p, pv, ps)) (a.put o.dst undef) s fun l => k (⟨o, a, s, 5, false, undef, s⟩ :: l)
    else wantedT ops a.tmps o fun c => if c then
        if quietOp E o.op then opT E ct a.eval o s fun x => match x with
            | .val v _ => traceT E ct ops bits rest (i + 1) (some (p, pv, ps)) (a.put o.dst v) s fun l => k (⟨o, a, s, clsOf E a.eval o.op, true, v, s⟩ :: l)
            | _ => .fail
        else .fail
      else traceT E ct ops bits rest (i + 1) (some (p, pv, ps)) (a.put o.dst undef) s fun l => k (⟨o, a, s, 0, false, undef, s⟩ :: l)

theorem traceT_run (hc : CallT call ct) {E : Env} {ops : Array Oper} {bits : Array Nat} {r : α} : ∀ (l : List Oper) (i : Nat) (pn : Option (Nat × Value × St)) (a : AAct) (s : St) (k : List Ent → Option (Nat × Value × St) → AAct → St → T α),
    (traceT E ct ops bits l i pn a s k).Runs r → ∃ ents pn' a' s', trace E call ops bits l i pn a s = some (ents, pn', a', s') ∧ (k ents pn' a' s').Runs r := by
  intro l
  induction l with
  | nil =>
    intro i pn a s k h
    have h' : (k [] pn a s).Runs r := by
      cases pn with
      | none => exact h
      | some q => exact h
    exact ⟨_, _, _, _, by cases pn <;> rfl, h'⟩
  | cons o rest ih =>
    intro i pn a s k h
    cases pn with
    | none =>
      simp only [traceT] at h
      rw [wantedT_run] at h
      simp only [trace]
      split at h
      next hw =>
        rw [if_pos hw]
        obtain ⟨x, h1, h2⟩ := opT_run hc h
        rw [h1]
        cases x with
        | val v s' =>
          obtain ⟨ents, pn', a', s'', g1, g2⟩ := ih _ _ _ _ _ h2
          exact ⟨_, _, _, _, by simp only [g1], g2⟩
        | pan v s' =>
          obtain ⟨ents, pn', a', s'', g1, g2⟩ := ih _ _ _ _ _ h2
          exact ⟨_, _, _, _, by simp only [g1], g2⟩
        | dfr d s' => exact (fail_run h2).elim
      next hw =>
        rw [if_neg hw]
        obtain ⟨ents, pn', a', s'', g1, g2⟩ := ih _ _ _ _ _ h
        exact ⟨_, _, _, _, by simp only [g1], g2⟩
    | some q =>
      obtain ⟨p, pv, ps⟩ := q
      simp only [traceT] at h
      simp only [trace]
      split at h
      next hb =>
        rw [if_pos hb]
        obtain ⟨ents, pn', a', s'', g1, g2⟩ := ih _ _ _ _ _ h
        exact ⟨_, _, _, _, by simp only [g1], g2⟩
      next hb =>
        rw [if_neg hb]
        rw [wantedT_run] at h
        split at h
        next hw =>
          rw [if_pos hw]
          split at h
          next hq =>
            rw [if_pos hq]
            obtain ⟨x, h1, h2⟩ := opT_run hc h
            rw [h1]
            cases x with
            | val v s' =>
              obtain ⟨ents, pn', a', s'', g1, g2⟩ := ih _ _ _ _ _ h2
              exact ⟨_, _, _, _, by simp only [g1], g2⟩
            | pan v s' => exact (fail_run h2).elim
            | dfr d s' => exact (fail_run h2).elim
          next => exact (fail_run h).elim
        next hw =>
          rw [if_neg hw]
          obtain ⟨ents, pn', a', s'', g1, g2⟩ := ih _ _ _ _ _ h
          exact ⟨_, _, _, _, by simp only [g1], g2⟩

def seenT (E : Env) (x : Ent) (s : St) (k : T α) : T α := valT E x.a.eval x.o s fun v _ => .same v x.v k

theorem same_run {x y : Value} {k : T α} {r : α} (h : (T.same x y k).Runs r) : x = y ∧ k.Runs r := h

theorem sameO_run {x y : Option AObj} {k : T α} {r : α} (h : (T.sameO x y k).Runs r) : x = y ∧ k.Runs r := h

theorem seenT_run {E : Env} {x : Ent} {s : St} {k : T α} {r : α} (h : (seenT E x s k).Runs r) : seenAt E x s ∧ k.Runs r := by
  obtain ⟨v, s', h1, h2⟩ := valT_run h
  obtain ⟨rfl, h3⟩ := same_run h2
  exact ⟨⟨s', h1⟩, h3⟩

def seesT (E : Env) (bits : Array Nat) (all : List (Ent × Nat)) (sM : St) (x : Ent) (i : Nat) (k : T α) : List (Ent × Nat) → T α
  | [] => seenT E x (withMade all.length all sM) k
  | (e, j) :: rest =>
    if (bits.getD i 0).testBit j then seesT E bits all sM x i k rest
    else seenT E x (withMade j all e.s) (if (bits.getD j 0).testBit i || e.cls = 4 then k else seesT E bits all sM x i k rest)

theorem seesT_run {E : Env} {bits : Array Nat} {all : List (Ent × Nat)} {sM : St} {x : Ent} {i : Nat} {k : T α} {r : α} : ∀ l, (seesT E bits all sM x i k l).Runs r → SeesP E bits all sM x i l ∧ k.Runs r := by
  intro l
  induction l with
  | nil => intro h; exact seenT_run h
  | cons e rest ih =>
    intro h
    obtain ⟨e, j⟩ := e
    simp only [seesT] at h
    simp only [SeesP]
    split at h
    next hb =>
      rw [if_pos hb]
      exact ih h
    next hb =>
      rw [if_neg hb]
      obtain ⟨h1, h2⟩ := seenT_run h
      split at h2
      next hc =>
        simp only [Bool.or_eq_true, decide_eq_true_eq] at hc
        exact ⟨⟨h1, hc.elim .inl fun h => .inr (.inl h)⟩, h2⟩
      next =>
        obtain ⟨h3, h4⟩ := ih h2
        exact ⟨⟨h1, .inr (.inr h3)⟩, h4⟩

def looksT (E : Env) (bits : Array Nat) (all effs : List (Ent × Nat)) (sM : St) (k : T α) : List (Ent × Nat) → T α
  | [] => k
  | (x, i) :: rest => if x.cls = 1 && x.ran then seesT E bits all sM x i (looksT E bits all effs sM k rest) effs else looksT E bits all effs sM k rest

theorem looksT_run {E : Env} {bits : Array Nat} {all effs : List (Ent × Nat)} {sM : St} {k : T α} {r : α} : ∀ l, (looksT E bits all effs sM k l).Runs r → (∀ x ∈ l, x.1.cls = 1 → x.1.ran = true → SeesP E bits all sM x.1 x.2 effs) ∧ k.Runs r := by
  intro l
  induction l with
  | nil => intro h; exact ⟨by simp, h⟩
  | cons x rest ih =>
    intro h
    obtain ⟨x, i⟩ := x
    simp only [looksT] at h
    split at h
    next hc =>
      obtain ⟨h1, h2⟩ := seesT_run _ h
      obtain ⟨h3, h4⟩ := ih h2
      refine ⟨fun y hy h5 h6 => ?_, h4⟩
      rcases List.mem_cons.1 hy with rfl | hy
      · exact h1
      · exact h3 y hy h5 h6
    next hc =>
      obtain ⟨h3, h4⟩ := ih h
      refine ⟨fun y hy h5 h6 => ?_, h4⟩
      rcases List.mem_cons.1 hy with rfl | hy
      · simp only at h5 h6; exact absurd (by simp [h5, h6]) hc
      · exact h3 y hy h5 h6

/-- What x makes is as it was when the effects that may stand ahead of it are done. -/
def madeT (bits : Array Nat) (x : Ent) (i : Nat) (k : T α) : List (Ent × Nat) → T α
  | [] => k
  | (y, j) :: rest => if !decide (i < j) || y.cls = 4 || (bits.getD j 0).testBit i then madeT bits x i k rest else .get y.s x.s.next fun o => .get y.s' x.s.next fun o' => .sameO (some o) (some o') (madeT bits x i k rest)

theorem madeT_run {bits : Array Nat} {x : Ent} {i : Nat} {k : T α} {r : α} : ∀ l, (madeT bits x i k l).Runs r → (∀ y ∈ l, i < y.2 → y.1.cls = 4 ∨ (bits.getD y.2 0).testBit i = true ∨ y.1.s.get x.s.next = y.1.s'.get x.s.next) ∧ k.Runs r := by
  intro l
  induction l with
  | nil => intro h; exact ⟨by simp, h⟩
  | cons y rest ih =>
    intro h
    obtain ⟨y, j⟩ := y
    simp only [madeT] at h
    split at h
    next hc =>
      simp only [Bool.or_eq_true, Bool.not_eq_true', decide_eq_false_iff_not, decide_eq_true_eq] at hc
      obtain ⟨h3, h4⟩ := ih h
      refine ⟨fun z hz hlt => ?_, h4⟩
      rcases List.mem_cons.1 hz with rfl | hz
      · rcases hc with (hc | hc) | hc
        · exact absurd hlt hc
        · exact .inl hc
        · exact .inr (.inl hc)
      · exact h3 z hz hlt
    next hc =>
      obtain ⟨o, e1, h⟩ := askO_run h
      obtain ⟨o', e2, h⟩ := askO_run h
      obtain ⟨h1, h2⟩ := sameO_run h
      obtain ⟨h3, h4⟩ := ih h2
      refine ⟨fun z hz hlt => ?_, h4⟩
      rcases List.mem_cons.1 hz with rfl | hz
      · exact .inr (.inr (e1.trans (h1.trans e2.symm)))
      · exact h3 z hz hlt

def makesT (bits : Array Nat) (effs : List (Ent × Nat)) (k : T α) : List (Ent × Nat) → T α
  | [] => k
  | (x, i) :: rest => if x.cls = 2 then madeT bits x i (makesT bits effs k rest) effs else makesT bits effs k rest

theorem makesT_run {bits : Array Nat} {effs : List (Ent × Nat)} {k : T α} {r : α} : ∀ l, (makesT bits effs k l).Runs r →
    (∀ x ∈ l, x.1.cls = 2 → ∀ y ∈ effs, x.2 < y.2 → y.1.cls = 4 ∨ (bits.getD y.2 0).testBit x.2 = true ∨ y.1.s.get x.1.s.next = y.1.s'.get x.1.s.next) ∧ k.Runs r := by
  intro l
  induction l with
  | nil => intro h; exact ⟨by simp, h⟩
  | cons x rest ih =>
    intro h
    obtain ⟨x, i⟩ := x
    simp only [makesT] at h
    split at h
    next hc =>
      obtain ⟨h1, h2⟩ := madeT_run _ h
      obtain ⟨h3, h4⟩ := ih h2
      refine ⟨fun y hy h5 => ?_, h4⟩
      rcases List.mem_cons.1 hy with rfl | hy
      · exact h1
      · exact h3 y hy h5
    next hc =>
      obtain ⟨h3, h4⟩ := ih h
      refine ⟨fun y hy h5 => ?_, h4⟩
      rcases List.mem_cons.1 hy with rfl | hy
      · exact absurd h5 hc
      · exact h3 y hy h5

def goodT (E : Env) (bits : Array Nat) (ents : List Ent) (sN : St) (k : T α) : T α :=
  let all := ents.zipIdx
  let effs := all.filter fun x => isEff x.1
  if effs.isEmpty then k else
  let tails := effs.filter (isTail bits all)
  let effs := effs.filter fun x => !isTail bits all x
  if (effs.all fun x => (effs.all fun y => !decide (x.2 < y.2) || (bits.getD y.2 0).testBit x.2) && tails.all fun y => (bits.getD y.2 0).testBit x.2) &&
    (tails.all fun x => tails.all fun y => !decide (x.2 < y.2) || (bits.getD y.2 0).testBit x.2 || apartStores x.1 y.1) && effs.all (knowsOk bits all) then
    if effs.isEmpty then k else looksT E bits all effs (midSt sN tails) (makesT bits effs k all) all
  else .fail

theorem goodT_run {E : Env} {bits : Array Nat} {ents : List Ent} {sN : St} {k : T α} {r : α} (h : (goodT E bits ents sN k).Runs r) : Good E bits ents sN ∧ k.Runs r := by
  unfold goodT at h
  simp only at h
  split at h
  next he =>
    have hno : ∀ (x : Ent) (j : Nat), ents[j]? = some x → isEff x = true → False := by
      intro x j hx hi
      have : (x, j) ∈ ents.zipIdx.filter fun x => isEff x.1 := by simp only [List.mem_filter, mem_zip]; exact ⟨hx, hi⟩
      rw [List.isEmpty_iff.1 he] at this
      simp at this
    exact ⟨⟨fun x i y j hx => (hno x i hx.1 hx.2.1).elim, fun x i y j hx => (hno x i hx.1 hx.2.1).elim, fun x i y j hx => (hno x i hx.1 hx.2.1).elim, fun x i hx => (hno x i hx.1 hx.2.1).elim,
      fun x i hx => (hno x i hx.1 hx.2.1).elim, fun x i y j _ _ hx => (hno y j hx.1 hx.2.1).elim⟩, h⟩
  next he =>
    split at h
    next hc =>
      simp only [Bool.and_eq_true] at hc
      obtain ⟨⟨h1, h2⟩, h3⟩ := hc
      rw [List.all_eq_true] at h1 h2 h3
      have e1 : ∀ x j, Eff bits ents x j → (x, j) ∈ (ents.zipIdx.filter fun x => isEff x.1).filter fun x => !isTail bits ents.zipIdx x := fun x j h => mem_effsOf.2 h
      have e2 : ∀ x j, Tail bits ents x j → (x, j) ∈ (ents.zipIdx.filter fun x => isEff x.1).filter (isTail bits ents.zipIdx) := fun x j h => mem_tailsOf.2 h
      have hrest : ((∀ e k, ¬ Eff bits ents e k) ∨ ((∀ x ∈ ents.zipIdx, x.1.cls = 1 → x.1.ran = true → SeesP E bits ents.zipIdx (midSt sN (tailsOf bits ents)) x.1 x.2 (effsOf bits ents)) ∧
          (∀ x ∈ ents.zipIdx, x.1.cls = 2 → ∀ y ∈ effsOf bits ents, x.2 < y.2 → y.1.cls = 4 ∨ (bits.getD y.2 0).testBit x.2 = true ∨ y.1.s.get x.1.s.next = y.1.s'.get x.1.s.next))) ∧ k.Runs r := by
        split at h
        next hem =>
          refine ⟨.inl fun e k he => ?_, h⟩
          have := e1 e k he
          rw [List.isEmpty_iff.1 hem] at this
          simp at this
        next =>
          obtain ⟨g1, g2⟩ := looksT_run _ h
          obtain ⟨g3, g4⟩ := makesT_run _ g2
          exact ⟨.inr ⟨g1, g3⟩, g4⟩
      obtain ⟨hr, hk⟩ := hrest
      refine ⟨⟨fun x i y j hx hy hij => ?_, fun x i y j hx hy => ?_, fun x i y j hx hy hij => ?_, fun y j hy => h3 _ (e1 _ _ hy), fun e k hek x i hx hc hran => ?_, fun x i y j hx hc hy hij => ?_⟩, hk⟩
      · have := h1 _ (e1 _ _ hx)
        simp only [Bool.and_eq_true, List.all_eq_true] at this
        have := this.1 _ (e1 _ _ hy)
        simpa [hij] using this
      · have := h1 _ (e1 _ _ hx)
        simp only [Bool.and_eq_true, List.all_eq_true] at this
        exact this.2 _ (e2 _ _ hy)
      · have := h2 _ (e2 _ _ hx)
        simp only [List.all_eq_true] at this
        have := this _ (e2 _ _ hy)
        simpa [hij] using this
      · rcases hr with hr | hr
        · exact absurd hek (hr _ _)
        · exact hr.1 _ (mem_zip.2 hx) hc hran
      · rcases hr with hr | hr
        · exact absurd hy (hr _ _)
        · exact hr.2 _ (mem_zip.2 hx) hc _ (mem_effsOf.2 hy) hij
    next => exact (fail_run h).elim

def drawT (E : Env) (ct : CallerT α) (ops : Array Oper) (a : AAct) (s : St) (k : X → AAct → St → T α) : T α :=
  let bits := Region.before ops
  traceT E ct ops bits ops.toList 0 none a s fun ents pn a' s' => match pn with
    | none => goodT E bits ents s' (k .normal a' s')
    | some (_, v, ps) => if a.defers.isEmpty then goodT E bits ents s' (k (.panic v) a ps) else .fail

theorem drawT_run (hc : CallT call ct) {E : Env} {ops : Array Oper} {a : AAct} {s : St} {k : X → AAct → St → T α} {r : α} (h : (drawT E ct ops a s k).Runs r) : ∃ x a' s', evalDraw E call ops a s = some (x, a', s') ∧ (k x a' s').Runs r := by
  unfold drawT at h
  obtain ⟨ents, pn, a', s', h1, h2⟩ := traceT_run hc _ _ _ _ _ _ h
  unfold evalDraw
  rw [h1]
  cases pn with
  | none =>
    obtain ⟨h3, h4⟩ := goodT_run h2
    exact ⟨_, _, _, by simp only; rw [if_pos h3], h4⟩
  | some q =>
    obtain ⟨p, v, ps⟩ := q
    simp only at h2
    split at h2
    next hd =>
      obtain ⟨h3, h4⟩ := goodT_run h2
      exact ⟨_, _, _, by simp only; rw [if_pos ⟨h3, by simpa using hd⟩], h4⟩
    next => exact (fail_run h2).elim

def iterT (f : AAct → St → (X → AAct → St → T α) → T α) : Nat → AAct → St → (X → AAct → St → T α) → T α
  | 0, _, _, _ => .fail
  | n + 1, a, s, k => f a s fun x a' s' => match x with
    | .normal => iterT f n a' s' k
    | x => k x a' s'

noncomputable def codeT (E : Env) (call : Caller) (ct : CallerT α) (N : Nat) : Code → AAct → St → (X → AAct → St → T α) → T α
  | .skip, a, s, k => k .normal a s
  | .label _, a, s, k => k .normal a s
  | .region _ ops false, a, s, k => opsT E ct ops ops.toList a s k
  | .region _ ops true, a, s, k => drawT E ct ops a s k
  | .seq x y, a, s, k => codeT E call ct N x a s fun r a' s' => match r with
    | .normal => codeT E call ct N y a' s' k
    | r => k r a' s'
  | .cond c x y, a, s, k => match a.eval c with
    | .bool b => .ask b fun c => if c then codeT E call ct N x a s k else codeT E call ct N y a s k
    | _ => .fail
  | .block id c, a, s, k => codeT E call ct N c a s fun r a' s' => match r with
    | .exit id' => if id' = id then k .normal a' s' else k (.exit id') a' s'
    | r => k r a' s'
  | .loop c, a, s, k => .code (evalCode E call N (.loop c)) a s k (iterT (codeT E call ct N c) N a s k)
  | .scope c, a, s, k => codeT E call ct N c a s k
  | .exit id, a, s, k => k (.exit id) a s
  | .ret, a, s, k => k .ret a s
  | _, _, _, _ => .fail

theorem codeT_run (hc : CallT call ct) {E : Env} {N : Nat} {r : α} : ∀ (c : Code) (a : AAct) (s : St) (k : X → AAct → St → T α), (codeT E call ct N c a s k).Runs r → ∃ x a' s', evalCode E call N c a s = some (x, a', s') ∧ (k x a' s').Runs r := by
  intro c
  induction c with
  | skip => intro a s k h; exact ⟨_, _, _, rfl, h⟩
  | label l => intro a s k h; exact ⟨_, _, _, rfl, h⟩
  | exit id => intro a s k h; exact ⟨_, _, _, rfl, h⟩
  | ret => intro a s k h; exact ⟨_, _, _, rfl, h⟩
  | region id ops d =>
    intro a s k h
    cases d with
    | false => exact opsT_run hc _ _ _ h
    | true => exact drawT_run hc h
  | seq x y ihx ihy =>
    intro a s k h
    simp only [codeT] at h
    obtain ⟨x', a', s', h1, h2⟩ := ihx _ _ _ h
    simp only [evalCode, h1]
    cases x' with
    | normal => exact ihy _ _ _ h2
    | _ => exact ⟨_, _, _, rfl, h2⟩
  | cond c x y ihx ihy =>
    intro a s k h
    simp only [codeT] at h
    simp only [evalCode]
    split at h
    next b hb =>
      rcases ask_run h with ⟨rfl, h⟩ | ⟨rfl, h⟩
      · rw [hb]; exact ihx _ _ _ h
      · rw [hb]; exact ihy _ _ _ h
    next => exact (fail_run h).elim
  | block id c ih =>
    intro a s k h
    simp only [codeT] at h
    obtain ⟨x', a', s', h1, h2⟩ := ih _ _ _ h
    simp only [evalCode, h1]
    cases x' with
    | exit id' =>
      simp only at h2 ⊢
      split at h2
      next he => rw [if_pos he]; exact ⟨_, _, _, rfl, h2⟩
      next he => rw [if_neg he]; exact ⟨_, _, _, rfl, h2⟩
    | _ => exact ⟨_, _, _, rfl, h2⟩
  | loop c ih =>
    intro a s k h
    simp only [codeT] at h
    simp only [evalCode]
    have key : ∀ n a s, (iterT (codeT E call ct N c) n a s k).Runs r → ∃ x a' s', iter (evalCode E call N c) n a s = some (x, a', s') ∧ (k x a' s').Runs r := by
      intro n
      induction n with
      | zero => intro a s h; exact (fail_run h).elim
      | succ n ihn =>
        intro a s h
        simp only [iterT] at h
        obtain ⟨x', a', s', h1, h2⟩ := ih _ _ _ h
        simp only [iter, h1]
        cases x' with
        | normal => exact ihn _ _ h2
        | _ => exact ⟨_, _, _, rfl, h2⟩
    rcases h with ⟨x, a', s', h1, h2⟩ | h
    · exact ⟨x, a', s', by simpa only [evalCode] using h1, h2⟩
    · exact key N a s h
  | scope c ih =>
    intro a s k h
    simp only [codeT] at h
    simp only [evalCode]
    exact ih _ _ _ h
  | _ => intro a s k h; exact (fail_run h).elim

def resultsT (E : Env) (tmps : List Value) (s : St) : List ResultVar → (List Value → T α) → T α
  | [], k => k []
  | .tmp t :: rest, k => if isJunk (tmps.getD t undef) then .fail else resultsT E tmps s rest fun l => k (tmps.getD t undef :: l)
  | .cell a t :: rest, k => loadT E s t (tmps.getD a undef) fun v => resultsT E tmps s rest fun l => k (v :: l)

theorem resultsT_run {E : Env} {tmps : List Value} {s : St} {r : α} : ∀ (l : List ResultVar) (k : List Value → T α), (resultsT E tmps s l k).Runs r → ∃ vs, aResults E tmps s l = some vs ∧ (k vs).Runs r := by
  intro l
  induction l with
  | nil => intro k h; exact ⟨_, rfl, h⟩
  | cons x rest ih =>
    intro k h
    cases x with
    | tmp t =>
      simp only [resultsT] at h
      split at h
      next => exact (fail_run h).elim
      next hj =>
        obtain ⟨vs, h1, h2⟩ := ih _ h
        exact ⟨_, by simp only [aResults, aResult, h1]; rw [if_neg hj], h2⟩
    | cell a t =>
      simp only [resultsT] at h
      obtain ⟨v, h3, h4⟩ := loadT_run h
      obtain ⟨vs, h1, h2⟩ := ih _ h4
      exact ⟨_, by simp only [aResults, aResult, h1, h3], h2⟩

def retT (E : Env) (fn : Func) (tmps : List Value) (s : St) (k : Value → T α) : T α :=
  resultsT E tmps s fn.results.toList fun l => match l with
    | [v] => k v
    | l => k (.tuple l.toArray)

theorem retT_run {E : Env} {fn : Func} {tmps : List Value} {s : St} {k : Value → T α} {r : α} (h : (retT E fn tmps s k).Runs r) : ∃ v, aRet E fn tmps s = some v ∧ (k v).Runs r := by
  unfold retT at h
  obtain ⟨vs, h1, h2⟩ := resultsT_run _ _ h
  unfold aRet
  rw [h1]
  match vs, h2 with
  | [], h2 => exact ⟨_, rfl, h2⟩
  | [v], h2 => exact ⟨_, rfl, h2⟩
  | v :: w :: l, h2 => exact ⟨_, rfl, h2⟩

/-! Calls that were put off. -/
def opsDT (E : Env) (ct : CallerT α) (ops : Array Oper) : List Oper → AAct → Unw → St → (X → AAct → Unw → St → T α) → T α
  | [], a, u, s, k => k .normal a u s
  | o :: rest, a, u, s, k => wantedT ops a.tmps o fun c => if c then
      if hasRecover o.op then
        match u with
        | some (v, false) => opsDT E ct ops rest (a.put o.dst v) (some (v, true)) s k
        | none => opsDT E ct ops rest (a.put o.dst .nilIface) none s k
        | _ => .fail
      else opT E ct a.eval o s fun x => match x with
        | .val v s' => opsDT E ct ops rest (a.put o.dst v) u s' k
        | .pan v s' => k (.panic v) a u s'
        | _ => .fail
    else opsDT E ct ops rest (a.put o.dst undef) u s k

theorem opsDT_run (hc : CallT call ct) {E : Env} {ops : Array Oper} {k : X → AAct → Unw → St → T α} {r : α} : ∀ (l : List Oper) (a : AAct) (u : Unw) (s : St), (opsDT E ct ops l a u s k).Runs r →
    ∃ x a' u' s', evalOpsD E call ops l a u s = some (x, a', u', s') ∧ (k x a' u' s').Runs r := by
  intro l
  induction l with
  | nil => intro a u s h; exact ⟨_, _, _, _, rfl, h⟩
  | cons o rest ih =>
    intro a u s h
    simp only [opsDT] at h
    rw [wantedT_run] at h
    simp only [evalOpsD]
    split at h
    next hw =>
      rw [if_pos hw]
      split at h
      next hr =>
        rw [if_pos hr]
        split at h
        · exact ih _ _ _ h
        · exact ih _ _ _ h
        · exact (fail_run h).elim
      next hr =>
        rw [if_neg hr]
        obtain ⟨x, h1, h2⟩ := opT_run hc h
        rw [h1]
        cases x with
        | val v s' => exact ih _ _ _ h2
        | pan v s' => exact ⟨_, _, _, _, rfl, h2⟩
        | dfr d s' => exact (fail_run h2).elim
    next hw =>
      rw [if_neg hw]
      exact ih _ _ _ h

noncomputable def codeDT (E : Env) (call : Caller) (ct : CallerT α) (N : Nat) : Code → AAct → Unw → St → (X → AAct → Unw → St → T α) → T α
  | .seq x y, a, u, s, k => codeDT E call ct N x a u s fun r a' u' s' => match r with
    | .normal => codeDT E call ct N y a' u' s' k
    | r => k r a' u' s'
  | .cond c x y, a, u, s, k => match a.eval c with
    | .bool b => .ask b fun c => if c then codeDT E call ct N x a u s k else codeDT E call ct N y a u s k
    | _ => .fail
  | .region i ops d, a, u, s, k =>
    if (ops.any fun o => hasRecover o.op) then (if d then .fail else opsDT E ct ops ops.toList a u s k)
    else codeT E call ct N (.region i ops d) a s fun x a' s' => k x a' u s'
  | c, a, u, s, k => if recovers c then .fail else codeT E call ct N c a s fun x a' s' => k x a' u s'

theorem codeDT_run (hc : CallT call ct) {E : Env} {N : Nat} {r : α} : ∀ (c : Code) (a : AAct) (u : Unw) (s : St) (k : X → AAct → Unw → St → T α), (codeDT E call ct N c a u s k).Runs r →
    ∃ x a' u' s', evalCodeD E call N c a u s = some (x, a', u', s') ∧ (k x a' u' s').Runs r := by
  intro c
  induction c with
  | seq x y ihx ihy =>
    intro a u s k h
    simp only [codeDT] at h
    obtain ⟨x', a', u', s', h1, h2⟩ := ihx _ _ _ _ h
    simp only [evalCodeD, h1]
    cases x' with
    | normal => exact ihy _ _ _ _ h2
    | _ => exact ⟨_, _, _, _, rfl, h2⟩
  | cond c x y ihx ihy =>
    intro a u s k h
    simp only [codeDT] at h
    simp only [evalCodeD]
    split at h
    next b hb =>
      rcases ask_run h with ⟨rfl, h⟩ | ⟨rfl, h⟩
      · rw [hb]; exact ihx _ _ _ _ h
      · rw [hb]; exact ihy _ _ _ _ h
    next => exact (fail_run h).elim
  | region i ops d =>
    intro a u s k h
    simp only [codeDT] at h
    simp only [evalCodeD]
    split at h
    next hr =>
      rw [if_pos hr]
      split at h
      next => exact (fail_run h).elim
      next hd => rw [if_neg hd]; exact opsDT_run hc _ _ _ _ h
    next hr =>
      rw [if_neg hr]
      obtain ⟨x, a', s', h1, h2⟩ := codeT_run hc _ _ _ _ h
      exact ⟨_, _, _, _, by rw [h1], h2⟩
  | _ =>
    intro a u s k h
    simp only [codeDT] at h
    simp only [evalCodeD]
    split at h
    next => exact (fail_run h).elim
    next hr =>
      rw [if_neg hr]
      obtain ⟨x, a', s', h1, h2⟩ := codeT_run hc _ _ _ _ h
      exact ⟨_, _, _, _, by rw [h1], h2⟩

noncomputable def deferredT (E : Env) (call : Caller) (ct : CallerT α) (N : Nat) (d : Deferred) (u : Unw) (s : St) (k : Unw → St → T α) : T α :=
  match d.target with
  | .fn (.func g) captured => match E.func g with
    | some fn => match fn.body with
      | some c => codeDT E call ct N c { tmps := enterTmps fn (d.args.toList ++ captured.toList), defers := [] } u s fun x a u' s' => match x with
        | .normal | .ret => if a.defers.isEmpty then retT E fn a.tmps s' fun _ => k u' s' else .fail
        | _ => .fail
      | none => .fail
    | none => .fail
  | _ => .fail

theorem deferredT_run (hc : CallT call ct) {E : Env} {N : Nat} {d : Deferred} {u : Unw} {s : St} {k : Unw → St → T α} {r : α} (h : (deferredT E call ct N d u s k).Runs r) : ∃ u' s', evalDeferred E call N d u s = some (u', s') ∧ (k u' s').Runs r := by
  unfold deferredT at h
  unfold evalDeferred
  split at h
  next g captured ht =>
    try simp only [ht]
    split at h
    next fn hf =>
      try simp only [hf]
      split at h
      next c hb =>
        try simp only [hb]
        obtain ⟨x, a, u', s', h1, h2⟩ := codeDT_run hc _ _ _ _ _ h
        simp only [h1]
        cases x <;> simp only at h2 ⊢
        case normal =>
          split at h2
          next he =>
            rw [if_pos he]
            obtain ⟨v, h3, h4⟩ := retT_run h2
            exact ⟨_, _, by simp only [h3], h4⟩
          next => exact (fail_run h2).elim
        case ret =>
          split at h2
          next he =>
            rw [if_pos he]
            obtain ⟨v, h3, h4⟩ := retT_run h2
            exact ⟨_, _, by simp only [h3], h4⟩
          next => exact (fail_run h2).elim
        all_goals exact (fail_run h2).elim
      next => exact (fail_run h).elim
    next => exact (fail_run h).elim
  next => exact (fail_run h).elim

noncomputable def unwindsT (E : Env) (call : Caller) (ct : CallerT α) (N : Nat) : List Deferred → Unw → St → (Unw → St → T α) → T α
  | [], u, s, k => k u s
  | d :: ds, u, s, k => deferredT E call ct N d u s fun u' s' => unwindsT E call ct N ds (aSettle u') s' k

theorem unwindsT_run (hc : CallT call ct) {E : Env} {N : Nat} {k : Unw → St → T α} {r : α} : ∀ (ds : List Deferred) (u : Unw) (s : St), (unwindsT E call ct N ds u s k).Runs r → ∃ u' s', unwinds E call N ds u s = some (u', s') ∧ (k u' s').Runs r := by
  intro ds
  induction ds with
  | nil => intro u s h; exact ⟨_, _, rfl, h⟩
  | cons d ds ih =>
    intro u s h
    simp only [unwindsT] at h
    obtain ⟨u', s', h1, h2⟩ := deferredT_run hc h
    simp only [unwinds, h1]
    exact ih _ _ h2

noncomputable def fnT (E : Env) (call : Caller) (ct : CallerT α) (N : Nat) : CallerT α := fun g args s k =>
  match E.func g with
  | none => .fail
  | some fn => match fn.body with
    | none => .fail
    | some c => codeT E call ct N c { tmps := enterTmps fn args, defers := [] } s fun x a s' => match x with
      | .normal | .ret => unwindsT E call ct N a.defers none s' fun u s'' => match u with
        | none => retT E fn a.tmps s'' fun v => k (.ok v) s''
        | _ => .fail
      | .panic v => unwindsT E call ct N a.defers (some (v, false)) s' fun u s'' => match u with
        | none => retT E fn a.tmps s'' fun v => k (.ok v) s''
        | some (v, false) => k (.pan v) s''
        | _ => .fail
      | _ => .fail

theorem fnT_run (hc : CallT call ct) (E : Env) (N : Nat) : CallT (evalFn E call N) (fnT E call ct N) := by
  intro g args s k r h
  unfold fnT at h
  unfold evalFn
  split at h
  next => exact (fail_run h).elim
  next fn hf =>
    try simp only [hf]
    split at h
    next => exact (fail_run h).elim
    next c hb =>
      try simp only [hb]
      obtain ⟨x, a, s', h1, h2⟩ := codeT_run hc _ _ _ _ h
      simp only [h1]
      cases x <;> simp only at h2 ⊢
      case exit => exact (fail_run h2).elim
      case panic v =>
        obtain ⟨u, s'', h3, h4⟩ := unwindsT_run hc _ _ _ h2
        simp only [h3]
        split at h4
        · obtain ⟨v', h5, h6⟩ := retT_run h4
          exact ⟨_, _, by simp only [h5, Option.map_some], h6⟩
        · exact ⟨_, _, rfl, h4⟩
        · exact (fail_run h4).elim
      all_goals
        obtain ⟨u, s'', h3, h4⟩ := unwindsT_run hc _ _ _ h2
        simp only [h3]
        split at h4
        · obtain ⟨v', h5, h6⟩ := retT_run h4
          exact ⟨_, _, by simp only [h5, Option.map_some], h6⟩
        · exact (fail_run h4).elim

noncomputable def callNT (E : Env) (N : Nat) : Nat → CallerT α
  | 0 => fun _ _ _ _ => .fail
  | n + 1 => fun g args s k => .call (callN E N (n + 1) g args s) k (fnT E (callN E N n) (callNT E N n) N g args s k)

theorem callNT_run (E : Env) (N : Nat) : ∀ n, CallT (callN E N n) (callNT (α := α) E N n) := by
  intro n
  induction n with
  | zero => intro g args s k r h; exact (fail_run h).elim
  | succ n ih =>
    intro g args s k r h
    rcases h with ⟨x, s', h1, h2⟩ | h
    · exact ⟨x, s', h1, h2⟩
    · exact fnT_run ih E N g args s k r h

end

/-- What is known of memory at the end, as far as is told. -/
def picks (is : List Nat) (ov : Cache) : Cache := is.filterMap (ov[·]?)

theorem picks_nodup {is : List Nat} {ov : Cache} (h : (keysOf ov).Nodup) (his : is.Nodup) : (keysOf (picks is ov)).Nodup := by
  induction is with
  | nil => exact List.nodup_nil
  | cons i is ih =>
    rw [List.nodup_cons] at his
    have hrec := ih his.2
    unfold picks
    rw [List.filterMap_cons]
    split
    next => exact hrec
    next q hq =>
      rw [keysOf, List.map_cons, List.nodup_cons]
      refine ⟨fun hmem => ?_, hrec⟩
      obtain ⟨q', hq', he⟩ := List.mem_map.1 hmem
      obtain ⟨j, hj, hjq⟩ := List.mem_filterMap.1 hq'
      have : i = j := nodup_get h (x := q.1) (by rw [List.getElem?_map, hq]; rfl) (by rw [List.getElem?_map, hjq]; exact congrArg some he)
      exact his.1 (this ▸ hj)

theorem After.picks {s s' : St} {old : List Nat} {now : Cache} (h : After s s' old now) {is : List Nat} (his : is.Nodup) : After s s' old (picks is now) := by
  have hmem : ∀ q ∈ Ai.picks is now, q ∈ now := fun q hq => by
    obtain ⟨i, _, hi⟩ := List.mem_filterMap.1 hq
    exact List.mem_of_getElem? hi
  exact ⟨h.next, h.keep, fun q hq => h.has q (hmem q hq), fun q hq => h.whence q (hmem q hq), picks_nodup h.apart his⟩

def isNodup (l : List Nat) : Bool := match l with
  | [] => true
  | x :: l => !l.contains x && isNodup l

theorem isNodup_ok : ∀ {l : List Nat}, isNodup l = true → l.Nodup
  | [], _ => List.nodup_nil
  | x :: l, h => by
      simp only [isNodup, Bool.and_eq_true, Bool.not_eq_true', List.contains_eq_mem, decide_eq_false_iff_not] at h
      exact List.nodup_cons.2 ⟨h.1, isNodup_ok h.2⟩

/-- A function's body, along a way, from what is known of memory to what is known of it behind. -/
theorem fn_by {E : Env} {N n : Nat} {g : FuncId} {args : List Value} {s : St} {ov : Cache} (hov : Holds s ov) (p : List Ev) (is : List Nat) {x : Ret} {now : Cache}
    (h : ((fnT E (callN E N n) (callNT E N n) N g args s fun x s' => .now s' (.ret (x, s'))).follow p [(s, ov)] []).map (fun z => ((isNodup is, z.1.1, z.2.1.head?.map fun t => picks is t.2), (z.2.1.head?.map (·.1) :: z.2.2.map (fun _ => none), z.2.2.map Ob.flip))) =
      some ((true, x, some now), (((fnT E (callN E N n) (callNT E N n) N g args s fun x s' => .now s' (.ret (x, s'))).follow p [(s, ov)] []).map fun z => ((some z.1.2 : Option St) :: z.2.2.map (fun _ => none), z.2.2)).getD ([], []))) :
    ∃ s', callN E N (n + 1) g args s = some (x, s') ∧ After s s' (keysOf ov) now := by
  obtain ⟨z, sn', h1, h2, h3⟩ := T.use (t := fnT E (callN E N n) (callNT E N n) N g args s fun x s' => .now s' (.ret (x, s'))) (s₀ := s) (K := keysOf ov) [(s, ov)] (by simpa using hov) p
    (fun z => ((isNodup is, z.1.1, z.2.head?.map fun t => picks is t.2), z.2.head?.map (·.1), some z.1.2)) (r := ((true, x, some now), (((fnT E (callN E N n) (callNT E N n) N g args s fun x s' => .now s' (.ret (x, s'))).follow p [(s, ov)] []).map fun z => (z.2.1.head?.map (·.1), some z.1.2)).getD (none, none))) (by
      cases hf : (fnT E (callN E N n) (callNT E N n) N g args s fun x s' => .now s' (.ret (x, s'))).follow p [(s, ov)] [] with
      | none => simp [hf] at h
      | some z =>
        simp only [hf, Option.map_some, Option.getD_some, Option.some.injEq, Prod.mk.injEq, List.cons.injEq] at h ⊢
        exact ⟨⟨h.1, trivial⟩, h.2.2⟩)
  obtain ⟨x', s', h4, h5⟩ := fnT_run (callNT_run E N n) E N _ _ _ _ _ h1
  have h5 : (x', s') = z := h5
  subst h5
  cases hf : (fnT E (callN E N n) (callNT E N n) N g args s fun x s' => .now s' (.ret (x, s'))).follow p [(s, ov)] [] with
  | none => simp [hf] at h
  | some w =>
    simp only [hf, Option.map_some, Option.getD_some, Option.some.injEq, Prod.mk.injEq, List.cons.injEq] at h h2
    obtain ⟨⟨h6, h7, h8⟩, h9, h10⟩ := h2
    obtain ⟨_, ⟨h11, _⟩, _⟩ := h
    subst h7
    cases hs : sn' with
    | nil => simp [hs] at h8
    | cons t sn =>
      simp only [hs, List.head?_cons, Option.map_some, Option.some.injEq] at h8 h9
      have h12 := h3 t (by simp [hs])
      have h13 : some t.1 = some s' := by rw [h9, h11, ← h10]
      cases h13
      refine ⟨_, h4, ?_⟩
      rw [← h8]
      exact h12.picks (isNodup_ok h6)

/-- A piece of code, likewise. -/
theorem code_by {E : Env} {N n : Nat} {c : Code} {a : AAct} {s : St} {ov : Cache} (hov : Holds s ov) (p : List Ev) (is : List Nat) {β : Type} (f : X × AAct → β) {r : β} {now : Cache}
    (h : ((codeT E (callN E N n) (callNT E N n) N c a s fun x a' s' => .now s' (.ret (x, a', s'))).follow p [(s, ov)] []).map (fun z => ((isNodup is, f (z.1.1, z.1.2.1), z.2.1.head?.map fun t => picks is t.2), (z.2.1.head?.map (·.1) :: z.2.2.map (fun _ => none), z.2.2.map Ob.flip))) =
      some ((true, r, some now), (((codeT E (callN E N n) (callNT E N n) N c a s fun x a' s' => .now s' (.ret (x, a', s'))).follow p [(s, ov)] []).map fun z => ((some z.1.2.2 : Option St) :: z.2.2.map (fun _ => none), z.2.2)).getD ([], []))) :
    ∃ x a' s', evalCode E (callN E N n) N c a s = some (x, a', s') ∧ f (x, a') = r ∧ After s s' (keysOf ov) now := by
  obtain ⟨z, sn', h1, h2, h3⟩ := T.use (t := codeT E (callN E N n) (callNT E N n) N c a s fun x a' s' => .now s' (.ret (x, a', s'))) (s₀ := s) (K := keysOf ov) [(s, ov)] (by simpa using hov) p
    (fun z => ((isNodup is, f (z.1.1, z.1.2.1), z.2.head?.map fun t => picks is t.2), z.2.head?.map (·.1), some z.1.2.2)) (r := ((true, r, some now), (((codeT E (callN E N n) (callNT E N n) N c a s fun x a' s' => .now s' (.ret (x, a', s'))).follow p [(s, ov)] []).map fun z => (z.2.1.head?.map (·.1), some z.1.2.2)).getD (none, none))) (by
      cases hf : (codeT E (callN E N n) (callNT E N n) N c a s fun x a' s' => .now s' (.ret (x, a', s'))).follow p [(s, ov)] [] with
      | none => simp [hf] at h
      | some z =>
        simp only [hf, Option.map_some, Option.getD_some, Option.some.injEq, Prod.mk.injEq, List.cons.injEq] at h ⊢
        exact ⟨⟨h.1, trivial⟩, h.2.2⟩)
  obtain ⟨x', a', s', h4, h5⟩ := codeT_run (callNT_run E N n) _ _ _ _ h1
  have h5 : (x', a', s') = z := h5
  subst h5
  cases hf : (codeT E (callN E N n) (callNT E N n) N c a s fun x a' s' => .now s' (.ret (x, a', s'))).follow p [(s, ov)] [] with
  | none => simp [hf] at h
  | some w =>
    simp only [hf, Option.map_some, Option.getD_some, Option.some.injEq, Prod.mk.injEq, List.cons.injEq] at h h2
    obtain ⟨⟨h6, h7, h8⟩, h9, h10⟩ := h2
    obtain ⟨_, ⟨h11, _⟩, _⟩ := h
    subst h7
    cases hs : sn' with
    | nil => simp [hs] at h8
    | cons t sn =>
      simp only [hs, List.head?_cons, Option.map_some, Option.some.injEq] at h8 h9
      have h12 := h3 t (by simp [hs])
      have h13 : some t.1 = some s' := by rw [h9, h11, ← h10]
      cases h13
      refine ⟨_, _, _, h4, rfl, ?_⟩
      rw [← h8]
      exact h12.picks (isNodup_ok h6)

/-- A piece of code in memory that is computed. -/
theorem code_along {E : Env} {N n : Nat} {c : Code} {a : AAct} {s : St} (p : List Ev) {β : Type} (f : X × AAct × St → β) {r : β}
    (h : ((codeT E (callN E N n) (callNT E N n) N c a s fun x a' s' => .ret (x, a', s')).follow p [] []).map (fun z => (f z.1, z.2.2.map Ob.flip)) =
      some (r, (((codeT E (callN E N n) (callNT E N n) N c a s fun x a' s' => .ret (x, a', s')).follow p [] []).map fun z => z.2.2).getD [])) :
    ∃ x a' s', evalCode E (callN E N n) N c a s = some (x, a', s') ∧ f (x, a', s') = r := by
  obtain ⟨z, _, h1, h2, _⟩ := T.use (s₀ := s) (K := []) [] (by simp) p (fun z => f z.1) h
  obtain ⟨x, a', s', h3, h4⟩ := codeT_run (callNT_run E N n) _ _ _ _ h1
  have h4 : (x, a', s') = z := h4
  subst h4
  exact ⟨x, a', s', h3, h2⟩

/-- A call in memory that is computed. -/
theorem call_along {E : Env} {N n : Nat} {g : FuncId} {args : List Value} {s : St} (p : List Ev) {β : Type} (f : Ret × St → β) {r : β}
    (h : ((callNT E N n g args s fun x s' => .ret (x, s')).follow p [] []).map (fun z => (f z.1, z.2.2.map Ob.flip)) =
      some (r, (((callNT E N n g args s fun x s' => .ret (x, s')).follow p [] []).map fun z => z.2.2).getD [])) :
    ∃ x s', callN E N n g args s = some (x, s') ∧ f (x, s') = r := by
  obtain ⟨z, _, h1, h2, _⟩ := T.use (s₀ := s) (K := []) [] (by simp) p (fun z => f z.1) h
  obtain ⟨x, s', h3, h4⟩ := callNT_run E N n _ _ _ _ _ h1
  have h4 : (x, s') = z := h4
  subst h4
  exact ⟨x, s', h3, h2⟩

/-! Ways. -/
abbrev Ev.yes (n : Nat) {p : Prop} [Decidable p] (h : p) : Ev := .b n (decide p) true (decide_eq_true h)
abbrev Ev.no (n : Nat) {p : Prop} [Decidable p] (h : ¬ p) : Ev := .b n (decide p) false (decide_eq_false h)
abbrev Ev.is (n : Nat) {x y : Bool} (h : x = y) : Ev := .b n x y h
abbrev Ev.int (n : Nat) {x y : Int} (h : x = y) : Ev := .i n x y h
abbrev Ev.list (n : Nat) {x : Option (List Value)} {y : List Value} (h : x = some y) : Ev := .l n x y h
abbrev Ev.call (n j : Nat) (is : List Nat) {c : Option (Ret × St)} {x : Ret} {s s' : St} {old : List Nat} {now : Cache} (h : c = some (x, s') ∧ After s s' old now) : Ev := .r n j is c x s s' old now h.1 h.2
abbrev Ev.loop (n j : Nat) (is : List Nat) {F : AAct → St → Option (X × AAct × St)} {m : Nat} {live live' : List (Nat × Value)} {d : List Deferred} {x : X} {s : St} {R : (Nat → Value) → (Nat → Value) × St} {old : List Nat} {now : (Nat → Value) → Cache}
    (h : ∀ rest, F { tmps := tmpsOf m live rest, defers := d } s = some (x, { tmps := tmpsOf m live' (R rest).1, defers := d }, (R rest).2) ∧ After s (R rest).2 old (now rest)) : Ev := .c n j is F m live live' d x s R old now h

end Go.Ai
