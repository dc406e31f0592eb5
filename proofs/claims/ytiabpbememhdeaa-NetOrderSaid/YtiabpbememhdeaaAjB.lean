/-
  THE FORKED RUN, 2: operations, code, calls.
-/
import Derived.Test.YtiabpbememhdeaaAjA
set_option linter.unusedSimpArgs false
set_option linter.unusedVariables false
set_option linter.unusedSectionVars false
namespace Go.Ai
open Go

section
variable {α : Type}

def valT (E : Env) (ρ : Operand → Value) (o : Oper) (s : St) (k : Value → St → T α) : T α :=
  match o.op with
  | .pick c a b => match ρ c with
    | .bool t => .ask t fun c => k (if c then ρ a else ρ b) s
    | _ => .fail
  | .load t a => loadT E s t (ρ a) fun v => k v s
  | .store t a x => storeT E s t (ρ a) (ρ x) fun s' => k undef s'
  | .indexAddr t x i => indexAddrT E t (ρ x) (ρ i) fun v => k v s
  | .slice t x lo hi mx => sliceT E s t (ρ x) (lo.map ρ) (hi.map ρ) (mx.map ρ) fun v => k v s
  | .call { callee := .builtin .append, args, argTypes } => match args.toList.map ρ with
    | [x, y] => appendT E s argTypes x y k
    | _ => .fail
  | .call { callee := .builtin .clear, args, argTypes } => match args.toList.map ρ with
    | [x] => clearT E s argTypes x k
    | _ => .fail
  | _ => liftT (aVal E ρ o s) fun r => k r.1 r.2

theorem valT_run {E : Env} {ρ : Operand → Value} {o : Oper} {s : St} {k : Value → St → T α} {r : α} (h : (valT E ρ o s k).run = some r) : ∃ v s', aVal E ρ o s = some (v, s') ∧ (k v s').run = some r := by
  obtain ⟨dst, op, ty, pos, after, guard⟩ := o
  have other : (liftT (aVal E ρ ⟨dst, op, ty, pos, after, guard⟩ s) fun r => k r.1 r.2).run = some r → ∃ v s', aVal E ρ ⟨dst, op, ty, pos, after, guard⟩ s = some (v, s') ∧ (k v s').run = some r := by
    intro h
    obtain ⟨⟨v, s'⟩, h1, h2⟩ := liftT_run h
    exact ⟨v, s', h1, h2⟩
  unfold valT at h
  split at h
  next c a b hop =>
    simp only at hop
    subst hop
    unfold aVal
    simp only
    split at h
    next t ht =>
      simp only [T.run] at h
      simp only [ht]
      exact ⟨_, _, rfl, h⟩
    next => exact (fail_run h).elim
  next t a hop =>
    simp only at hop
    subst hop
    unfold aVal
    obtain ⟨v, h1, h2⟩ := loadT_run h
    exact ⟨v, s, by simp [h1], h2⟩
  next t a x hop =>
    simp only at hop
    subst hop
    unfold aVal
    obtain ⟨v, h1, h2⟩ := storeT_run h
    exact ⟨_, _, by simp [h1], h2⟩
  next t x i hop =>
    simp only at hop
    subst hop
    unfold aVal
    obtain ⟨v, h1, h2⟩ := indexAddrT_run h
    exact ⟨v, s, by simp [h1], h2⟩
  next t x lo hi mx hop =>
    simp only at hop
    subst hop
    unfold aVal
    obtain ⟨v, h1, h2⟩ := sliceT_run h
    exact ⟨v, s, by simp [h1], h2⟩
  next args ats hop =>
    simp only at hop
    subst hop
    unfold aVal
    simp only
    split at h
    next x y hl =>
      obtain ⟨v, s', h1, h2⟩ := appendT_run h
      exact ⟨v, s', by rw [hl]; simpa [aBuiltin] using h1, h2⟩
    next => exact (fail_run h).elim
  next args ats hop =>
    simp only at hop
    subst hop
    unfold aVal
    simp only
    split at h
    next x hl =>
      obtain ⟨v, s', h1, h2⟩ := clearT_run h
      exact ⟨v, s', by rw [hl]; simpa [aBuiltin] using h1, h2⟩
    next => exact (fail_run h).elim
  next => exact other h

abbrev CallerT (α : Type) := FuncId → List Value → St → (Ret → St → T α) → T α

/-- One caller's forks are another one's answers. -/
def CallT (call : Caller) (ct : CallerT α) : Prop := ∀ g args s k r, (ct g args s k).run = some r → ∃ x s', call g args s = some (x, s') ∧ (k x s').run = some r

def callT (E : Env) (ct : CallerT α) (g : FuncId) (args : List Value) (s : St) (k : Rs → T α) : T α :=
  match E.known g with
  | some F => liftT (F args) fun v => k (.val v s)
  | none => ct g args s fun x s' => match x with
    | .ok v => k (.val v s')
    | .pan v => k (.pan v s')

def opCT (E : Env) (ct : CallerT α) (ρ : Operand → Value) (o : Oper) (s : St) (k : Rs → T α) : T α :=
  match o.op with
  | .call { callee := .value f, args, .. } => match ρ f with
    | .func (.func g) first captured => callT E ct g (first.toList ++ args.toList.map ρ ++ captured.toList) s k
    | _ => .fail
  | .call { callee := .invoke .., .. } => .fail
  | .call { callee := .builtin .panic, args, .. } => match args.toList.map ρ with
    | [.iface t v] => k (.pan (.iface t v) s)
    | _ => .fail
  | .panic x => match ρ x with
    | .iface t v => k (.pan (.iface t v) s)
    | _ => .fail
  | .defer { callee := .value f, args, .. } => match ρ f with
    | .func (.func g) first captured => k (.dfr { target := .fn (.func g) captured, args := first ++ args.map ρ } s)
    | _ => .fail
  | _ => valT E ρ o s fun v s' => k (.val v s')

def opT (E : Env) (ct : CallerT α) (ρ : Operand → Value) (o : Oper) (s : St) (k : Rs → T α) : T α :=
  if clean ρ o.op then opCT E ct ρ o s k else .fail

variable {call : Caller} {ct : CallerT α}

theorem callT_run (hc : CallT call ct) {E : Env} {g : FuncId} {args : List Value} {s : St} {k : Rs → T α} {r : α} (h : (callT E ct g args s k).run = some r) : ∃ x, aCall E call g args s = some x ∧ (k x).run = some r := by
  unfold callT at h
  unfold aCall
  split at h
  next F hF =>
    obtain ⟨v, h1, h2⟩ := liftT_run h
    exact ⟨_, by simp [hF, h1], h2⟩
  next hF =>
    obtain ⟨x, s', h1, h2⟩ := hc _ _ _ _ _ h
    cases x with
    | ok v => exact ⟨_, by simp [hF, h1], h2⟩
    | pan v => exact ⟨_, by simp [hF, h1], h2⟩

theorem opT_run (hc : CallT call ct) {E : Env} {ρ : Operand → Value} {o : Oper} {s : St} {k : Rs → T α} {r : α} (h : (opT E ct ρ o s k).run = some r) : ∃ x, aOp E call ρ o s = some x ∧ (k x).run = some r := by
  unfold opT at h
  split at h
  case isFalse => exact (fail_run h).elim
  rename_i hcl
  unfold aOp
  rw [if_pos hcl]
  clear hcl
  obtain ⟨dst, op, ty, pos, after, guard⟩ := o
  unfold opCT at h
  unfold aOpC
  split at h
  next f args ats hop =>
    simp only at hop
    subst hop
    simp only
    split at h
    next g first captured hf => simp only [hf]; exact callT_run hc h
    next => exact (fail_run h).elim
  next => exact (fail_run h).elim
  next args ats hop =>
    simp only at hop
    subst hop
    simp only
    split at h
    next t v hl => simp only [hl]; exact ⟨_, rfl, h⟩
    next => exact (fail_run h).elim
  next x hop =>
    simp only at hop
    subst hop
    simp only
    split at h
    next t v hl => simp only [hl]; exact ⟨_, rfl, h⟩
    next => exact (fail_run h).elim
  next f args ats hop =>
    simp only at hop
    subst hop
    simp only
    split at h
    next g first captured hf => simp only [hf]; exact ⟨_, rfl, h⟩
    next => exact (fail_run h).elim
  next h1 h2 h3 h4 h5 =>
    obtain ⟨v, s', g1, g2⟩ := valT_run h
    refine ⟨_, ?_, g2⟩
    split
    next hop => exact absurd hop (h1 _ _ _)
    next hop => exact absurd hop (h2 _ _ _ _)
    next hop => exact absurd hop (h3 _ _)
    next hop => exact absurd hop (h4 _)
    next hop => exact absurd hop (h5 _ _ _)
    next => rw [g1]

def wantedT (ops : Array Oper) (tmps : List Value) (o : Oper) (k : Bool → T α) : T α :=
  match o.guard with
  | none => k true
  | some (j, want) => match ((ops[j]?).bind (·.dst)).bind (tmps[·]?) with
    | some (.bool b) => .ask b fun x => k (x == want)
    | _ => k false

theorem wantedT_run {ops : Array Oper} {tmps : List Value} {o : Oper} {k : Bool → T α} : (wantedT ops tmps o k).run = (k (aWanted ops tmps o)).run := by
  unfold wantedT aWanted
  cases hg : o.guard with
  | none => rfl
  | some jw =>
    obtain ⟨j, want⟩ := jw
    simp only
    generalize ((ops[j]?).bind (·.dst)).bind (tmps[·]?) = ov
    cases ov with
    | none => rfl
    | some v => cases v <;> rfl

def opsT (E : Env) (ct : CallerT α) (ops : Array Oper) : List Oper → AAct → St → (X → AAct → St → T α) → T α
  | [], a, s, k => k .normal a s
  | o :: rest, a, s, k => wantedT ops a.tmps o fun c => if c then opT E ct a.eval o s fun x => match x with
      | .val v s' => opsT E ct ops rest (a.put o.dst v) s' k
      | .pan v s' => k (.panic v) a s'
      | .dfr d s' => opsT E ct ops rest ({ a with defers := d :: a.defers }.put o.dst undef) s' k
    else opsT E ct ops rest (a.put o.dst undef) s k

theorem opsT_run (hc : CallT call ct) {E : Env} {ops : Array Oper} {k : X → AAct → St → T α} {r : α} : ∀ (l : List Oper) (a : AAct) (s : St), (opsT E ct ops l a s k).run = some r → ∃ x a' s', evalOps E call ops l a s = some (x, a', s') ∧ (k x a' s').run = some r := by
  intro l
  induction l with
  | nil => intro a s h; exact ⟨_, _, _, rfl, h⟩
  | cons o rest ih =>
    intro a s h
    simp only [opsT] at h
    rw [wantedT_run] at h
    simp only [evalOps]
    split at h
    next hw =>
      rw [if_pos hw]
      obtain ⟨x, h1, h2⟩ := opT_run hc h
      rw [h1]
      cases x with
      | val v s' => exact ih _ _ h2
      | pan v s' => exact ⟨_, _, _, rfl, h2⟩
      | dfr d s' => exact ih _ _ h2
    next hw =>
      rw [if_neg hw]
      exact ih _ _ h

/-! Statements whose order is open. -/
def traceT (E : Env) (ct : CallerT α) (ops : Array Oper) (bits : Array Nat) : List Oper → Nat → Option (Nat × Value × St) → AAct → St → (List Ent → Option (Nat × Value × St) → AAct → St → T α) → T α
  | [], _, pn, a, s, k => k [] pn a s
  | o :: rest, i, none, a, s, k => wantedT ops a.tmps o fun c => if c then opT E ct a.eval o s fun x => match x with
      | .val v s' => traceT E ct ops bits rest (i + 1) none (a.put o.dst v) s' fun l => k (⟨o, a, s, clsOf E a.eval o.op, true, v, s'⟩ :: l)
      | .pan v s' => traceT E ct ops bits rest (i + 1) (some (i, v, s')) (a.put o.dst undef) s fun l => k (⟨o, a, s, 4, true, undef, s⟩ :: l)
      | .dfr _ _ => .fail
    else traceT E ct ops bits rest (i + 1) none (a.put o.dst undef) s fun l => k (⟨o, a, s, 0, false, undef, s⟩ :: l)
  | o :: rest, i, some (p, pv, ps), a, s, k =>
    if (bits.getD i 0).testBit p then traceT E ct ops bits rest (i + 1) (some (p, pv, ps)) (a.put o.dst undef) s fun l => k (⟨o, a, s, 5, false, undef, s⟩ :: l)
    else wantedT ops a.tmps o fun c => if c then
        if quietOp E o.op then opT E ct a.eval o s fun x => match x with
            | .val v _ => traceT E ct ops bits rest (i + 1) (some (p, pv, ps)) (a.put o.dst v) s fun l => k (⟨o, a, s, clsOf E a.eval o.op, true, v, s⟩ :: l)
            | _ => .fail
        else .fail
      else traceT E ct ops bits rest (i + 1) (some (p, pv, ps)) (a.put o.dst undef) s fun l => k (⟨o, a, s, 0, false, undef, s⟩ :: l)

theorem traceT_run (hc : CallT call ct) {E : Env} {ops : Array Oper} {bits : Array Nat} {r : α} : ∀ (l : List Oper) (i : Nat) (pn : Option (Nat × Value × St)) (a : AAct) (s : St) (k : List Ent → Option (Nat × Value × St) → AAct → St → T α),
    (traceT E ct ops bits l i pn a s k).run = some r → ∃ ents pn' a' s', trace E call ops bits l i pn a s = some (ents, pn', a', s') ∧ (k ents pn' a' s').run = some r := by
  intro l
  induction l with
  | nil =>
    intro i pn a s k h
    have h' : (k [] pn a s).run = some r := by
      cases pn with
      | none => exact h
      | some q => exact h
    exact ⟨_, _, _, _, by cases pn <;> rfl, h'⟩
  | cons o rest ih =>
    intro i pn a s k h
    cases pn with
    | none =>
      simp only [traceT] at h
      rw [wantedT_run] at h
      simp only [trace]
      split at h
      next hw =>
        rw [if_pos hw]
        obtain ⟨x, h1, h2⟩ := opT_run hc h
        rw [h1]
        cases x with
        | val v s' =>
          obtain ⟨ents, pn', a', s'', g1, g2⟩ := ih _ _ _ _ _ h2
          exact ⟨_, _, _, _, by simp only [g1], g2⟩
        | pan v s' =>
          obtain ⟨ents, pn', a', s'', g1, g2⟩ := ih _ _ _ _ _ h2
          exact ⟨_, _, _, _, by simp only [g1], g2⟩
        | dfr d s' => exact (fail_run h2).elim
      next hw =>
        rw [if_neg hw]
        obtain ⟨ents, pn', a', s'', g1, g2⟩ := ih _ _ _ _ _ h
        exact ⟨_, _, _, _, by simp only [g1], g2⟩
    | some q =>
      obtain ⟨p, pv, ps⟩ := q
      simp only [traceT] at h
      simp only [trace]
      split at h
      next hb =>
        rw [if_pos hb]
        obtain ⟨ents, pn', a', s'', g1, g2⟩ := ih _ _ _ _ _ h
        exact ⟨_, _, _, _, by simp only [g1], g2⟩
      next hb =>
        rw [if_neg hb]
        rw [wantedT_run] at h
        split at h
        next hw =>
          rw [if_pos hw]
          split at h
          next hq =>
            rw [if_pos hq]
            obtain ⟨x, h1, h2⟩ := opT_run hc h
            rw [h1]
            cases x with
            | val v s' =>
              obtain ⟨ents, pn', a', s'', g1, g2⟩ := ih _ _ _ _ _ h2
              exact ⟨_, _, _, _, by simp only [g1], g2⟩
            | pan v s' => exact (fail_run h2).elim
            | dfr d s' => exact (fail_run h2).elim
          next => exact (fail_run h).elim
        next hw =>
          rw [if_neg hw]
          obtain ⟨ents, pn', a', s'', g1, g2⟩ := ih _ _ _ _ _ h
          exact ⟨_, _, _, _, by simp only [g1], g2⟩

def seenT (E : Env) (x : Ent) (s : St) (k : T α) : T α := valT E x.a.eval x.o s fun v _ => .same v x.v k

theorem same_run {x y : Value} {k : T α} {r : α} (h : (T.same x y k).run = some r) : x = y ∧ k.run = some r := by
  simp only [T.run] at h
  split at h
  · rename_i hh; exact ⟨hh, h⟩
  · simp at h

theorem sameO_run {x y : Option AObj} {k : T α} {r : α} (h : (T.sameO x y k).run = some r) : x = y ∧ k.run = some r := by
  simp only [T.run] at h
  split at h
  · rename_i hh; exact ⟨hh, h⟩
  · simp at h

theorem seenT_run {E : Env} {x : Ent} {s : St} {k : T α} {r : α} (h : (seenT E x s k).run = some r) : seenAt E x s ∧ k.run = some r := by
  obtain ⟨v, s', h1, h2⟩ := valT_run h
  obtain ⟨rfl, h3⟩ := same_run h2
  exact ⟨⟨s', h1⟩, h3⟩

def seesT (E : Env) (bits : Array Nat) (all : List (Ent × Nat)) (sM : St) (x : Ent) (i : Nat) (k : T α) : List (Ent × Nat) → T α
  | [] => seenT E x (withMade all.length all sM) k
  | (e, j) :: rest =>
    if (bits.getD i 0).testBit j then seesT E bits all sM x i k rest
    else seenT E x (withMade j all e.s) (if (bits.getD j 0).testBit i || e.cls = 4 then k else seesT E bits all sM x i k rest)

theorem seesT_run {E : Env} {bits : Array Nat} {all : List (Ent × Nat)} {sM : St} {x : Ent} {i : Nat} {k : T α} {r : α} : ∀ l, (seesT E bits all sM x i k l).run = some r → SeesP E bits all sM x i l ∧ k.run = some r := by
  intro l
  induction l with
  | nil => intro h; exact seenT_run h
  | cons e rest ih =>
    intro h
    obtain ⟨e, j⟩ := e
    simp only [seesT] at h
    simp only [SeesP]
    split at h
    next hb =>
      rw [if_pos hb]
      exact ih h
    next hb =>
      rw [if_neg hb]
      obtain ⟨h1, h2⟩ := seenT_run h
      split at h2
      next hc =>
        simp only [Bool.or_eq_true, decide_eq_true_eq] at hc
        exact ⟨⟨h1, hc.elim .inl fun h => .inr (.inl h)⟩, h2⟩
      next =>
        obtain ⟨h3, h4⟩ := ih h2
        exact ⟨⟨h1, .inr (.inr h3)⟩, h4⟩

def looksT (E : Env) (bits : Array Nat) (all effs : List (Ent × Nat)) (sM : St) (k : T α) : List (Ent × Nat) → T α
  | [] => k
  | (x, i) :: rest => if x.cls = 1 && x.ran then seesT E bits all sM x i (looksT E bits all effs sM k rest) effs else looksT E bits all effs sM k rest

theorem looksT_run {E : Env} {bits : Array Nat} {all effs : List (Ent × Nat)} {sM : St} {k : T α} {r : α} : ∀ l, (looksT E bits all effs sM k l).run = some r → (∀ x ∈ l, x.1.cls = 1 → x.1.ran = true → SeesP E bits all sM x.1 x.2 effs) ∧ k.run = some r := by
  intro l
  induction l with
  | nil => intro h; exact ⟨by simp, h⟩
  | cons x rest ih =>
    intro h
    obtain ⟨x, i⟩ := x
    simp only [looksT] at h
    split at h
    next hc =>
      obtain ⟨h1, h2⟩ := seesT_run _ h
      obtain ⟨h3, h4⟩ := ih h2
      refine ⟨fun y hy h5 h6 => ?_, h4⟩
      rcases List.mem_cons.1 hy with rfl | hy
      · exact h1
      · exact h3 y hy h5 h6
    next hc =>
      obtain ⟨h3, h4⟩ := ih h
      refine ⟨fun y hy h5 h6 => ?_, h4⟩
      rcases List.mem_cons.1 hy with rfl | hy
      · simp only at h5 h6; exact absurd (by simp [h5, h6]) hc
      · exact h3 y hy h5 h6

/-- What x makes is as it was when the effects that may stand ahead of it are done. -/
def madeT (bits : Array Nat) (x : Ent) (i : Nat) (k : T α) : List (Ent × Nat) → T α
  | [] => k
  | (y, j) :: rest => if !decide (i < j) || y.cls = 4 || (bits.getD j 0).testBit i then madeT bits x i k rest else .sameO (y.s.get x.s.next) (y.s'.get x.s.next) (madeT bits x i k rest)

theorem madeT_run {bits : Array Nat} {x : Ent} {i : Nat} {k : T α} {r : α} : ∀ l, (madeT bits x i k l).run = some r → (∀ y ∈ l, i < y.2 → y.1.cls = 4 ∨ (bits.getD y.2 0).testBit i = true ∨ y.1.s.get x.s.next = y.1.s'.get x.s.next) ∧ k.run = some r := by
  intro l
  induction l with
  | nil => intro h; exact ⟨by simp, h⟩
  | cons y rest ih =>
    intro h
    obtain ⟨y, j⟩ := y
    simp only [madeT] at h
    split at h
    next hc =>
      simp only [Bool.or_eq_true, Bool.not_eq_true', decide_eq_false_iff_not, decide_eq_true_eq] at hc
      obtain ⟨h3, h4⟩ := ih h
      refine ⟨fun z hz hlt => ?_, h4⟩
      rcases List.mem_cons.1 hz with rfl | hz
      · rcases hc with (hc | hc) | hc
        · exact absurd hlt hc
        · exact .inl hc
        · exact .inr (.inl hc)
      · exact h3 z hz hlt
    next hc =>
      obtain ⟨h1, h2⟩ := sameO_run h
      obtain ⟨h3, h4⟩ := ih h2
      refine ⟨fun z hz hlt => ?_, h4⟩
      rcases List.mem_cons.1 hz with rfl | hz
      · exact .inr (.inr h1)
      · exact h3 z hz hlt

def makesT (bits : Array Nat) (effs : List (Ent × Nat)) (k : T α) : List (Ent × Nat) → T α
  | [] => k
  | (x, i) :: rest => if x.cls = 2 then madeT bits x i (makesT bits effs k rest) effs else makesT bits effs k rest

theorem makesT_run {bits : Array Nat} {effs : List (Ent × Nat)} {k : T α} {r : α} : ∀ l, (makesT bits effs k l).run = some r →
    (∀ x ∈ l, x.1.cls = 2 → ∀ y ∈ effs, x.2 < y.2 → y.1.cls = 4 ∨ (bits.getD y.2 0).testBit x.2 = true ∨ y.1.s.get x.1.s.next = y.1.s'.get x.1.s.next) ∧ k.run = some r := by
  intro l
  induction l with
  | nil => intro h; exact ⟨by simp, h⟩
  | cons x rest ih =>
    intro h
    obtain ⟨x, i⟩ := x
    simp only [makesT] at h
    split at h
    next hc =>
      obtain ⟨h1, h2⟩ := madeT_run _ h
      obtain ⟨h3, h4⟩ := ih h2
      refine ⟨fun y hy h5 => ?_, h4⟩
      rcases List.mem_cons.1 hy with rfl | hy
      · exact h1
      · exact h3 y hy h5
    next hc =>
      obtain ⟨h3, h4⟩ := ih h
      refine ⟨fun y hy h5 => ?_, h4⟩
      rcases List.mem_cons.1 hy with rfl | hy
      · exact absurd h5 hc
      · exact h3 y hy h5

def goodT (E : Env) (bits : Array Nat) (ents : List Ent) (sN : St) (k : T α) : T α :=
  let all := ents.zipIdx
  let effs := all.filter fun x => isEff x.1
  if effs.isEmpty then k else
  let tails := effs.filter (isTail bits all)
  let effs := effs.filter fun x => !isTail bits all x
  if (effs.all fun x => (effs.all fun y => !decide (x.2 < y.2) || (bits.getD y.2 0).testBit x.2) && tails.all fun y => (bits.getD y.2 0).testBit x.2) &&
    (tails.all fun x => tails.all fun y => !decide (x.2 < y.2) || (bits.getD y.2 0).testBit x.2 || apartStores x.1 y.1) && effs.all (knowsOk bits all) then
    if effs.isEmpty then k else looksT E bits all effs (midSt sN tails) (makesT bits effs k all) all
  else .fail

theorem goodT_run {E : Env} {bits : Array Nat} {ents : List Ent} {sN : St} {k : T α} {r : α} (h : (goodT E bits ents sN k).run = some r) : Good E bits ents sN ∧ k.run = some r := by
  unfold goodT at h
  simp only at h
  split at h
  next he =>
    have hno : ∀ (x : Ent) (j : Nat), ents[j]? = some x → isEff x = true → False := by
      intro x j hx hi
      have : (x, j) ∈ ents.zipIdx.filter fun x => isEff x.1 := by simp only [List.mem_filter, mem_zip]; exact ⟨hx, hi⟩
      rw [List.isEmpty_iff.1 he] at this
      simp at this
    exact ⟨⟨fun x i y j hx => (hno x i hx.1 hx.2.1).elim, fun x i y j hx => (hno x i hx.1 hx.2.1).elim, fun x i y j hx => (hno x i hx.1 hx.2.1).elim, fun x i hx => (hno x i hx.1 hx.2.1).elim,
      fun x i hx => (hno x i hx.1 hx.2.1).elim, fun x i y j _ _ hx => (hno y j hx.1 hx.2.1).elim⟩, h⟩
  next he =>
    split at h
    next hc =>
      simp only [Bool.and_eq_true] at hc
      obtain ⟨⟨h1, h2⟩, h3⟩ := hc
      rw [List.all_eq_true] at h1 h2 h3
      have e1 : ∀ x j, Eff bits ents x j → (x, j) ∈ (ents.zipIdx.filter fun x => isEff x.1).filter fun x => !isTail bits ents.zipIdx x := fun x j h => mem_effsOf.2 h
      have e2 : ∀ x j, Tail bits ents x j → (x, j) ∈ (ents.zipIdx.filter fun x => isEff x.1).filter (isTail bits ents.zipIdx) := fun x j h => mem_tailsOf.2 h
      have hrest : ((∀ e k, ¬ Eff bits ents e k) ∨ ((∀ x ∈ ents.zipIdx, x.1.cls = 1 → x.1.ran = true → SeesP E bits ents.zipIdx (midSt sN (tailsOf bits ents)) x.1 x.2 (effsOf bits ents)) ∧
          (∀ x ∈ ents.zipIdx, x.1.cls = 2 → ∀ y ∈ effsOf bits ents, x.2 < y.2 → y.1.cls = 4 ∨ (bits.getD y.2 0).testBit x.2 = true ∨ y.1.s.get x.1.s.next = y.1.s'.get x.1.s.next))) ∧ k.run = some r := by
        split at h
        next hem =>
          refine ⟨.inl fun e k he => ?_, h⟩
          have := e1 e k he
          rw [List.isEmpty_iff.1 hem] at this
          simp at this
        next =>
          obtain ⟨g1, g2⟩ := looksT_run _ h
          obtain ⟨g3, g4⟩ := makesT_run _ g2
          exact ⟨.inr ⟨g1, g3⟩, g4⟩
      obtain ⟨hr, hk⟩ := hrest
      refine ⟨⟨fun x i y j hx hy hij => ?_, fun x i y j hx hy => ?_, fun x i y j hx hy hij => ?_, fun y j hy => h3 _ (e1 _ _ hy), fun e k hek x i hx hc hran => ?_, fun x i y j hx hc hy hij => ?_⟩, hk⟩
      · have := h1 _ (e1 _ _ hx)
        simp only [Bool.and_eq_true, List.all_eq_true] at this
        have := this.1 _ (e1 _ _ hy)
        simpa [hij] using this
      · have := h1 _ (e1 _ _ hx)
        simp only [Bool.and_eq_true, List.all_eq_true] at this
        exact this.2 _ (e2 _ _ hy)
      · have := h2 _ (e2 _ _ hx)
        simp only [List.all_eq_true] at this
        have := this _ (e2 _ _ hy)
        simpa [hij] using this
      · rcases hr with hr | hr
        · exact absurd hek (hr _ _)
        · exact hr.1 _ (mem_zip.2 hx) hc hran
      · rcases hr with hr | hr
        · exact absurd hy (hr _ _)
        · exact hr.2 _ (mem_zip.2 hx) hc _ (mem_effsOf.2 hy) hij
    next => exact (fail_run h).elim

def drawT (E : Env) (ct : CallerT α) (ops : Array Oper) (a : AAct) (s : St) (k : X → AAct → St → T α) : T α :=
  let bits := Region.before ops
  traceT E ct ops bits ops.toList 0 none a s fun ents pn a' s' => match pn with
    | none => goodT E bits ents s' (k .normal a' s')
    | some (_, v, ps) => if a.defers.isEmpty then goodT E bits ents s' (k (.panic v) a ps) else .fail

theorem drawT_run (hc : CallT call ct) {E : Env} {ops : Array Oper} {a : AAct} {s : St} {k : X → AAct → St → T α} {r : α} (h : (drawT E ct ops a s k).run = some r) : ∃ x a' s', evalDraw E call ops a s = some (x, a', s') ∧ (k x a' s').run = some r := by
  unfold drawT at h
  obtain ⟨ents, pn, a', s', h1, h2⟩ := traceT_run hc _ _ _ _ _ _ h
  unfold evalDraw
  rw [h1]
  cases pn with
  | none =>
    obtain ⟨h3, h4⟩ := goodT_run h2
    exact ⟨_, _, _, by simp only; rw [if_pos h3], h4⟩
  | some q =>
    obtain ⟨p, v, ps⟩ := q
    simp only at h2
    split at h2
    next hd =>
      obtain ⟨h3, h4⟩ := goodT_run h2
      exact ⟨_, _, _, by simp only; rw [if_pos ⟨h3, by simpa using hd⟩], h4⟩
    next => exact (fail_run h2).elim

def iterT (f : AAct → St → (X → AAct → St → T α) → T α) : Nat → AAct → St → (X → AAct → St → T α) → T α
  | 0, _, _, _ => .fail
  | n + 1, a, s, k => f a s fun x a' s' => match x with
    | .normal => iterT f n a' s' k
    | x => k x a' s'

def codeT (E : Env) (ct : CallerT α) (N : Nat) : Code → AAct → St → (X → AAct → St → T α) → T α
  | .skip, a, s, k => k .normal a s
  | .label _, a, s, k => k .normal a s
  | .region _ ops false, a, s, k => opsT E ct ops ops.toList a s k
  | .region _ ops true, a, s, k => drawT E ct ops a s k
  | .seq x y, a, s, k => codeT E ct N x a s fun r a' s' => match r with
    | .normal => codeT E ct N y a' s' k
    | r => k r a' s'
  | .cond c x y, a, s, k => match a.eval c with
    | .bool b => .ask b fun c => if c then codeT E ct N x a s k else codeT E ct N y a s k
    | _ => .fail
  | .block id c, a, s, k => codeT E ct N c a s fun r a' s' => match r with
    | .exit id' => if id' = id then k .normal a' s' else k (.exit id') a' s'
    | r => k r a' s'
  | .loop c, a, s, k => iterT (codeT E ct N c) N a s k
  | .scope c, a, s, k => codeT E ct N c a s k
  | .exit id, a, s, k => k (.exit id) a s
  | .ret, a, s, k => k .ret a s
  | _, _, _, _ => .fail

theorem codeT_run (hc : CallT call ct) {E : Env} {N : Nat} {r : α} : ∀ (c : Code) (a : AAct) (s : St) (k : X → AAct → St → T α), (codeT E ct N c a s k).run = some r → ∃ x a' s', evalCode E call N c a s = some (x, a', s') ∧ (k x a' s').run = some r := by
  intro c
  induction c with
  | skip => intro a s k h; exact ⟨_, _, _, rfl, h⟩
  | label l => intro a s k h; exact ⟨_, _, _, rfl, h⟩
  | exit id => intro a s k h; exact ⟨_, _, _, rfl, h⟩
  | ret => intro a s k h; exact ⟨_, _, _, rfl, h⟩
  | region id ops d =>
    intro a s k h
    cases d with
    | false => exact opsT_run hc _ _ _ h
    | true => exact drawT_run hc h
  | seq x y ihx ihy =>
    intro a s k h
    simp only [codeT] at h
    obtain ⟨x', a', s', h1, h2⟩ := ihx _ _ _ h
    simp only [evalCode, h1]
    cases x' with
    | normal => exact ihy _ _ _ h2
    | _ => exact ⟨_, _, _, rfl, h2⟩
  | cond c x y ihx ihy =>
    intro a s k h
    simp only [codeT] at h
    simp only [evalCode]
    split at h
    next b hb =>
      rcases ask_run h with ⟨rfl, h⟩ | ⟨rfl, h⟩
      · rw [hb]; exact ihx _ _ _ h
      · rw [hb]; exact ihy _ _ _ h
    next => exact (fail_run h).elim
  | block id c ih =>
    intro a s k h
    simp only [codeT] at h
    obtain ⟨x', a', s', h1, h2⟩ := ih _ _ _ h
    simp only [evalCode, h1]
    cases x' with
    | exit id' =>
      simp only at h2 ⊢
      split at h2
      next he => rw [if_pos he]; exact ⟨_, _, _, rfl, h2⟩
      next he => rw [if_neg he]; exact ⟨_, _, _, rfl, h2⟩
    | _ => exact ⟨_, _, _, rfl, h2⟩
  | loop c ih =>
    intro a s k h
    simp only [codeT] at h
    simp only [evalCode]
    have key : ∀ n a s, (iterT (codeT E ct N c) n a s k).run = some r → ∃ x a' s', iter (evalCode E call N c) n a s = some (x, a', s') ∧ (k x a' s').run = some r := by
      intro n
      induction n with
      | zero => intro a s h; exact (fail_run h).elim
      | succ n ihn =>
        intro a s h
        simp only [iterT] at h
        obtain ⟨x', a', s', h1, h2⟩ := ih _ _ _ h
        simp only [iter, h1]
        cases x' with
        | normal => exact ihn _ _ h2
        | _ => exact ⟨_, _, _, rfl, h2⟩
    exact key N a s h
  | scope c ih =>
    intro a s k h
    simp only [codeT] at h
    simp only [evalCode]
    exact ih _ _ _ h
  | _ => intro a s k h; exact (fail_run h).elim

def resultsT (E : Env) (tmps : List Value) (s : St) : List ResultVar → (List Value → T α) → T α
  | [], k => k []
  | .tmp t :: rest, k => if isJunk (tmps.getD t undef) then .fail else resultsT E tmps s rest fun l => k (tmps.getD t undef :: l)
  | .cell a t :: rest, k => loadT E s t (tmps.getD a undef) fun v => resultsT E tmps s rest fun l => k (v :: l)

theorem resultsT_run {E : Env} {tmps : List Value} {s : St} {r : α} : ∀ (l : List ResultVar) (k : List Value → T α), (resultsT E tmps s l k).run = some r → ∃ vs, aResults E tmps s l = some vs ∧ (k vs).run = some r := by
  intro l
  induction l with
  | nil => intro k h; exact ⟨_, rfl, h⟩
  | cons x rest ih =>
    intro k h
    cases x with
    | tmp t =>
      simp only [resultsT] at h
      split at h
      next => exact (fail_run h).elim
      next hj =>
        obtain ⟨vs, h1, h2⟩ := ih _ h
        exact ⟨_, by simp only [aResults, aResult, h1]; rw [if_neg hj], h2⟩
    | cell a t =>
      simp only [resultsT] at h
      obtain ⟨v, h3, h4⟩ := loadT_run h
      obtain ⟨vs, h1, h2⟩ := ih _ h4
      exact ⟨_, by simp only [aResults, aResult, h1, h3], h2⟩

def retT (E : Env) (fn : Func) (tmps : List Value) (s : St) (k : Value → T α) : T α :=
  resultsT E tmps s fn.results.toList fun l => match l with
    | [v] => k v
    | l => k (.tuple l.toArray)

theorem retT_run {E : Env} {fn : Func} {tmps : List Value} {s : St} {k : Value → T α} {r : α} (h : (retT E fn tmps s k).run = some r) : ∃ v, aRet E fn tmps s = some v ∧ (k v).run = some r := by
  unfold retT at h
  obtain ⟨vs, h1, h2⟩ := resultsT_run _ _ h
  unfold aRet
  rw [h1]
  match vs, h2 with
  | [], h2 => exact ⟨_, rfl, h2⟩
  | [v], h2 => exact ⟨_, rfl, h2⟩
  | v :: w :: l, h2 => exact ⟨_, rfl, h2⟩

/-! Calls that were put off. -/
def opsDT (E : Env) (ct : CallerT α) (ops : Array Oper) : List Oper → AAct → Unw → St → (X → AAct → Unw → St → T α) → T α
  | [], a, u, s, k => k .normal a u s
  | o :: rest, a, u, s, k => wantedT ops a.tmps o fun c => if c then
      if hasRecover o.op then
        match u with
        | some (v, false) => opsDT E ct ops rest (a.put o.dst v) (some (v, true)) s k
        | none => opsDT E ct ops rest (a.put o.dst .nilIface) none s k
        | _ => .fail
      else opT E ct a.eval o s fun x => match x with
        | .val v s' => opsDT E ct ops rest (a.put o.dst v) u s' k
        | .pan v s' => k (.panic v) a u s'
        | _ => .fail
    else opsDT E ct ops rest (a.put o.dst undef) u s k

theorem opsDT_run (hc : CallT call ct) {E : Env} {ops : Array Oper} {k : X → AAct → Unw → St → T α} {r : α} : ∀ (l : List Oper) (a : AAct) (u : Unw) (s : St), (opsDT E ct ops l a u s k).run = some r →
    ∃ x a' u' s', evalOpsD E call ops l a u s = some (x, a', u', s') ∧ (k x a' u' s').run = some r := by
  intro l
  induction l with
  | nil => intro a u s h; exact ⟨_, _, _, _, rfl, h⟩
  | cons o rest ih =>
    intro a u s h
    simp only [opsDT] at h
    rw [wantedT_run] at h
    simp only [evalOpsD]
    split at h
    next hw =>
      rw [if_pos hw]
      split at h
      next hr =>
        rw [if_pos hr]
        split at h
        · exact ih _ _ _ h
        · exact ih _ _ _ h
        · exact (fail_run h).elim
      next hr =>
        rw [if_neg hr]
        obtain ⟨x, h1, h2⟩ := opT_run hc h
        rw [h1]
        cases x with
        | val v s' => exact ih _ _ _ h2
        | pan v s' => exact ⟨_, _, _, _, rfl, h2⟩
        | dfr d s' => exact (fail_run h2).elim
    next hw =>
      rw [if_neg hw]
      exact ih _ _ _ h

def codeDT (E : Env) (ct : CallerT α) (N : Nat) : Code → AAct → Unw → St → (X → AAct → Unw → St → T α) → T α
  | .seq x y, a, u, s, k => codeDT E ct N x a u s fun r a' u' s' => match r with
    | .normal => codeDT E ct N y a' u' s' k
    | r => k r a' u' s'
  | .cond c x y, a, u, s, k => match a.eval c with
    | .bool b => .ask b fun c => if c then codeDT E ct N x a u s k else codeDT E ct N y a u s k
    | _ => .fail
  | .region i ops d, a, u, s, k =>
    if (ops.any fun o => hasRecover o.op) then (if d then .fail else opsDT E ct ops ops.toList a u s k)
    else codeT E ct N (.region i ops d) a s fun x a' s' => k x a' u s'
  | c, a, u, s, k => if recovers c then .fail else codeT E ct N c a s fun x a' s' => k x a' u s'

theorem codeDT_run (hc : CallT call ct) {E : Env} {N : Nat} {r : α} : ∀ (c : Code) (a : AAct) (u : Unw) (s : St) (k : X → AAct → Unw → St → T α), (codeDT E ct N c a u s k).run = some r →
    ∃ x a' u' s', evalCodeD E call N c a u s = some (x, a', u', s') ∧ (k x a' u' s').run = some r := by
  intro c
  induction c with
  | seq x y ihx ihy =>
    intro a u s k h
    simp only [codeDT] at h
    obtain ⟨x', a', u', s', h1, h2⟩ := ihx _ _ _ _ h
    simp only [evalCodeD, h1]
    cases x' with
    | normal => exact ihy _ _ _ _ h2
    | _ => exact ⟨_, _, _, _, rfl, h2⟩
  | cond c x y ihx ihy =>
    intro a u s k h
    simp only [codeDT] at h
    simp only [evalCodeD]
    split at h
    next b hb =>
      rcases ask_run h with ⟨rfl, h⟩ | ⟨rfl, h⟩
      · rw [hb]; exact ihx _ _ _ _ h
      · rw [hb]; exact ihy _ _ _ _ h
    next => exact (fail_run h).elim
  | region i ops d =>
    intro a u s k h
    simp only [codeDT] at h
    simp only [evalCodeD]
    split at h
    next hr =>
      rw [if_pos hr]
      split at h
      next => exact (fail_run h).elim
      next hd => rw [if_neg hd]; exact opsDT_run hc _ _ _ _ h
    next hr =>
      rw [if_neg hr]
      obtain ⟨x, a', s', h1, h2⟩ := codeT_run hc _ _ _ _ h
      exact ⟨_, _, _, _, by rw [h1], h2⟩
  | _ =>
    intro a u s k h
    simp only [codeDT] at h
    simp only [evalCodeD]
    split at h
    next => exact (fail_run h).elim
    next hr =>
      rw [if_neg hr]
      obtain ⟨x, a', s', h1, h2⟩ := codeT_run hc _ _ _ _ h
      exact ⟨_, _, _, _, by rw [h1], h2⟩

def deferredT (E : Env) (ct : CallerT α) (N : Nat) (d : Deferred) (u : Unw) (s : St) (k : Unw → St → T α) : T α :=
  match d.target with
  | .fn (.func g) captured => match E.func g with
    | some fn => match fn.body with
      | some c => codeDT E ct N c { tmps := enterTmps fn (d.args.toList ++ captured.toList), defers := [] } u s fun x a u' s' => match x with
        | .normal | .ret => if a.defers.isEmpty then retT E fn a.tmps s' fun _ => k u' s' else .fail
        | _ => .fail
      | none => .fail
    | none => .fail
  | _ => .fail

theorem deferredT_run (hc : CallT call ct) {E : Env} {N : Nat} {d : Deferred} {u : Unw} {s : St} {k : Unw → St → T α} {r : α} (h : (deferredT E ct N d u s k).run = some r) : ∃ u' s', evalDeferred E call N d u s = some (u', s') ∧ (k u' s').run = some r := by
  unfold deferredT at h
  unfold evalDeferred
  split at h
  next g captured ht =>
    try simp only [ht]
    split at h
    next fn hf =>
      try simp only [hf]
      split at h
      next c hb =>
        try simp only [hb]
        obtain ⟨x, a, u', s', h1, h2⟩ := codeDT_run hc _ _ _ _ _ h
        simp only [h1]
        cases x <;> simp only at h2 ⊢
        case normal =>
          split at h2
          next he =>
            rw [if_pos he]
            obtain ⟨v, h3, h4⟩ := retT_run h2
            exact ⟨_, _, by simp only [h3], h4⟩
          next => exact (fail_run h2).elim
        case ret =>
          split at h2
          next he =>
            rw [if_pos he]
            obtain ⟨v, h3, h4⟩ := retT_run h2
            exact ⟨_, _, by simp only [h3], h4⟩
          next => exact (fail_run h2).elim
        all_goals exact (fail_run h2).elim
      next => exact (fail_run h).elim
    next => exact (fail_run h).elim
  next => exact (fail_run h).elim

def unwindsT (E : Env) (ct : CallerT α) (N : Nat) : List Deferred → Unw → St → (Unw → St → T α) → T α
  | [], u, s, k => k u s
  | d :: ds, u, s, k => deferredT E ct N d u s fun u' s' => unwindsT E ct N ds (aSettle u') s' k

theorem unwindsT_run (hc : CallT call ct) {E : Env} {N : Nat} {k : Unw → St → T α} {r : α} : ∀ (ds : List Deferred) (u : Unw) (s : St), (unwindsT E ct N ds u s k).run = some r → ∃ u' s', unwinds E call N ds u s = some (u', s') ∧ (k u' s').run = some r := by
  intro ds
  induction ds with
  | nil => intro u s h; exact ⟨_, _, rfl, h⟩
  | cons d ds ih =>
    intro u s h
    simp only [unwindsT] at h
    obtain ⟨u', s', h1, h2⟩ := deferredT_run hc h
    simp only [unwinds, h1]
    exact ih _ _ h2

def fnT (E : Env) (ct : CallerT α) (N : Nat) : CallerT α := fun g args s k =>
  match E.func g with
  | none => .fail
  | some fn => match fn.body with
    | none => .fail
    | some c => codeT E ct N c { tmps := enterTmps fn args, defers := [] } s fun x a s' => match x with
      | .normal | .ret => unwindsT E ct N a.defers none s' fun u s'' => match u with
        | none => retT E fn a.tmps s'' fun v => k (.ok v) s''
        | _ => .fail
      | .panic v => unwindsT E ct N a.defers (some (v, false)) s' fun u s'' => match u with
        | none => retT E fn a.tmps s'' fun v => k (.ok v) s''
        | some (v, false) => k (.pan v) s''
        | _ => .fail
      | _ => .fail

theorem fnT_run (hc : CallT call ct) (E : Env) (N : Nat) : CallT (evalFn E call N) (fnT E ct N) := by
  intro g args s k r h
  unfold fnT at h
  unfold evalFn
  split at h
  next => exact (fail_run h).elim
  next fn hf =>
    try simp only [hf]
    split at h
    next => exact (fail_run h).elim
    next c hb =>
      try simp only [hb]
      obtain ⟨x, a, s', h1, h2⟩ := codeT_run hc _ _ _ _ h
      simp only [h1]
      cases x <;> simp only at h2 ⊢
      case exit => exact (fail_run h2).elim
      case panic v =>
        obtain ⟨u, s'', h3, h4⟩ := unwindsT_run hc _ _ _ h2
        simp only [h3]
        split at h4
        · obtain ⟨v', h5, h6⟩ := retT_run h4
          exact ⟨_, _, by simp only [h5, Option.map_some], h6⟩
        · exact ⟨_, _, rfl, h4⟩
        · exact (fail_run h4).elim
      all_goals
        obtain ⟨u, s'', h3, h4⟩ := unwindsT_run hc _ _ _ h2
        simp only [h3]
        split at h4
        · obtain ⟨v', h5, h6⟩ := retT_run h4
          exact ⟨_, _, by simp only [h5, Option.map_some], h6⟩
        · exact (fail_run h4).elim

def callNT (E : Env) (N : Nat) : Nat → CallerT α
  | 0 => fun _ _ _ _ => .fail
  | n + 1 => fnT E (callNT E N n) N

theorem callNT_run (E : Env) (N : Nat) : ∀ n, CallT (callN E N n) (callNT (α := α) E N n) := by
  intro n
  induction n with
  | zero => intro g args s k r h; exact (fail_run h).elim
  | succ n ih => exact fnT_run ih E N

end

/-- A piece of code, along a path. -/
theorem code_along {E : Env} {N n : Nat} {c : Code} {a : AAct} {s : St} (p : List (Nat × Ans)) {β : Type} (f : X × AAct × St → β) {r : β} {os : List Ob}
    (h : ((codeT E (callNT E N n) N c a s fun x a' s' => .ret (x, a', s')).follow p Acc.start).map (fun z => (f z.1, z.2.opens, z.2.autos.map Ob.flip)) =
      some (r, os, (((codeT E (callNT E N n) N c a s fun x a' s' => .ret (x, a', s')).follow p Acc.start).map fun z => z.2.autos).getD [])) (hos : ∀ x ∈ os, x.ok) :
    ∃ x a' s', evalCode E (callN E N n) N c a s = some (x, a', s') ∧ f (x, a', s') = r := by
  obtain ⟨z, h1, h2⟩ := T.use p f h hos
  obtain ⟨x, a', s', h3, h4⟩ := codeT_run (callNT_run E N n) _ _ _ _ h1
  simp only [T.run, Option.some.injEq] at h4
  subst h4
  exact ⟨x, a', s', h3, h2⟩

/-- A call, along a path. -/
theorem call_along {E : Env} {N n : Nat} {g : FuncId} {args : List Value} {s : St} (p : List (Nat × Ans)) {β : Type} (f : Ret × St → β) {r : β} {os : List Ob}
    (h : ((callNT E N n g args s fun x s' => .ret (x, s')).follow p Acc.start).map (fun z => (f z.1, z.2.opens, z.2.autos.map Ob.flip)) =
      some (r, os, (((callNT E N n g args s fun x s' => .ret (x, s')).follow p Acc.start).map fun z => z.2.autos).getD [])) (hos : ∀ x ∈ os, x.ok) :
    ∃ x s', callN E N n g args s = some (x, s') ∧ f (x, s') = r := by
  obtain ⟨z, h1, h2⟩ := T.use p f h hos
  obtain ⟨x, s', h3, h4⟩ := callNT_run E N n _ _ _ _ _ h1
  simp only [T.run, Option.some.injEq] at h4
  subst h4
  exact ⟨x, s', h3, h2⟩

end Go.Ai
