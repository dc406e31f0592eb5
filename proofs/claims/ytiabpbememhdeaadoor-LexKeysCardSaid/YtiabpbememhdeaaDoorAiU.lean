/-
  THE SHORT RUN, 21: statements whose order is open: memory that later operations have added to; the run in the text's order.
-/
import Derived.Test.YtiabpbememhdeaaDoorAiT
set_option linter.unusedSimpArgs false
set_option linter.unusedVariables false
set_option linter.unusedSectionVars false
namespace Go.Ai
open Go

theorem Tr.all_get {α : Type} {p : α → Bool} : ∀ {t : Tr α} {n : Nat} {o : α}, t.all p = true → t.get n = some o → p o = true := by
  intro t
  induction t with
  | nil => intro n o _ h; simp [Tr.get] at h
  | node l v r ihl ihr =>
    intro n o h hg
    simp only [Tr.all, Bool.and_eq_true] at h
    cases n with
    | zero =>
      simp only [Tr.get] at hg
      subst hg
      exact h.1.2
    | succ n =>
      simp only [Tr.get] at hg
      split at hg
      · exact ihl h.1.1 hg
      · exact ihr h.2 hg

theorem underL_iff {n : Nat} (l : List Value) : underL n l = true ↔ ∀ x ∈ l, under n x = true := by
  induction l with
  | nil => simp [underL]
  | cons v l ih => simp [underL, ih]

def low (n : Nat) (φ : Phi) : Phi := only (fun f => decide (f < n)) φ

theorem low_some {n : Nat} {φ : Phi} {f e : Nat} {k : Blk} (h : low n φ f e = some k) : φ f e = some k ∧ f < n := by
  have := only_some h
  exact ⟨this.1, by simpa using this.2⟩

theorem low_of {n : Nat} {φ : Phi} {f e : Nat} {k : Blk} (h : φ f e = some k) (hn : f < n) : low n φ f e = some k := only_of h (by simpa using hn)

theorem V.cut_low {B : Nat} {φ : Phi} {n : Nat} {x y : Value} (h : V B φ x y) : under n x = true → V B (low n φ) x y := by
  have arr : ∀ {xs : Array Value}, underL n xs.toList = true → ∀ (i : Nat) (x : Value), xs[i]? = some x → under n x = true := by
    intro xs h i x hx
    exact (underL_iff _).1 h x (by simpa using Array.mem_of_getElem? hx)
  induction h with
  | bool b => intro _; exact .bool b
  | int k m => intro _; exact .int k m
  | float k b => intro _; exact .float k b
  | complex k a b => intro _; exact .complex k a b
  | string s => intro _; exact .string s
  | nilFunc => intro _; exact .nilFunc
  | nilIface => intro _; exact .nilIface
  | pnil => intro _; exact .pnil
  | pold a hb hs => intro _; exact .pold a hb hs
  | pnew f off e k hk hb => intro h; exact .pnew f off e k (low_of hk (by simpa [under] using h)) hb
  | snil l c => intro _; exact .snil l c
  | sold a l c hb hs => intro _; exact .sold a l c hb hs
  | snew f off e l k hk hb hz hl hd => intro h; exact .snew f off e l k (low_of hk (by simpa [under] using h)) hb hz hl hd
  | sfix f off e l c k hk hb hc => intro h; exact .sfix f off e l c k (low_of hk (by simpa [under] using h)) hb hc
  | snone f off e o k hk hb hz hl hd => intro h; exact .snone f off e o k (low_of hk (by simpa [under] using h)) hb hz hl hd
  | mnil => intro _; exact .mnil
  | mnew f k hk => intro h; exact .mnew f k (low_of hk (by simpa [under] using h))
  | cnil => intro _; exact .cnil
  | iface t _ ih => intro h; exact .iface t (ih (by simpa [under] using h))
  | func fn hs hi hs' hi' ih ih' =>
    rename_i xs ys zs us
    intro h
    obtain ⟨xs⟩ := xs
    obtain ⟨zs⟩ := zs
    simp only [under, Bool.and_eq_true] at h
    exact .func fn hs (fun i x y hx hy => ih i x y hx hy (arr (xs := ⟨xs⟩) h.1 i x hx)) hs' (fun i x y hx hy => ih' i x y hx hy (arr (xs := ⟨zs⟩) h.2 i x hx))
  | agg hs hi ih =>
    rename_i xs ys
    intro h
    obtain ⟨xs⟩ := xs
    simp only [under] at h
    exact .agg hs (fun i x y hx hy => ih i x y hx hy (arr (xs := ⟨xs⟩) h i x hx))
  | tuple hs hi ih =>
    rename_i xs ys
    intro h
    obtain ⟨xs⟩ := xs
    simp only [under] at h
    exact .tuple hs (fun i x y hx hy => ih i x y hx hy (arr (xs := ⟨xs⟩) h i x hx))

/-- Memory as it is known to what stands ahead. -/
theorem R.cut_low {B : Nat} {w₀ : World} {φ : Phi} {g : Nat → Option AObj} {s : St} {w : World} (h : R B w₀ φ g w) (hg : ∀ f, f < s.next → g f = s.get f)
    (hk : (∀ f e b, φ f e = some b → f < s.next) ∨ underSt s = true) : R B w₀ (low s.next φ) s.get w := by
  refine h.sub (fun f e k hk' => ⟨(low_some hk').1, (hg f (low_some hk').2).symm⟩) ?_ ?_
  · intro f e k cells esz ep lw hist hk' hgf x hx v hv
    rcases hk with hk | hk
    · exact hv.mono fun f e k h => low_of h (hk _ _ _ h)
    · rw [hg f (low_some hk').2] at hgf
      have := Tr.all_get hk hgf
      simp only [underO] at this
      exact hv.cut_low ((underL_iff _).1 this x hx)
  · intro f e k es hk' hgf x hx v hv
    rcases hk with hk | hk
    · exact hv.mono fun f e k h => low_of h (hk _ _ _ h)
    · rw [hg f (low_some hk').2] at hgf
      have := Tr.all_get hk hgf
      simp only [underO, List.all_eq_true] at this
      exact hv.cut_low (this x hx)

def joined (n : Nat) (φ' φ : Phi) : Phi := fun f e => if f < n then φ' f e else φ f e

/-- What a step from part of memory comes to, with the other part beside it. -/
theorem R.join_low {B : Nat} {w₀ : World} {φ φ' : Phi} {g : Nat → Option AObj} {s s' : St} {w w' : World} (h : R B w₀ φ g w) (hs : Step s.next (low s.next φ) w φ' w') (h' : R B w₀ φ' s'.get w')
    (hF : s'.Fresh) (hn : s.next ≤ s'.next) (hgap : ∀ f e b, φ f e = some b → f < s.next ∨ s'.next ≤ f) :
    Step s.next φ w (joined s'.next φ' φ) w' ∧ R B w₀ (joined s'.next φ' φ) (fun f => if f < s'.next then s'.get f else g f) w' ∧ (∀ f e b, φ' f e = some b → joined s'.next φ' φ f e = some b) := by
  have hlt : ∀ f e b, φ' f e = some b → f < s'.next := fun f e b hb => hF.lt (h'.dom _ _ _ hb)
  have h1 : ∀ f e b, φ' f e = some b → joined s'.next φ' φ f e = some b := fun f e b hb => by
    unfold joined; rw [if_pos (hlt _ _ _ hb)]; exact hb
  have h2 : ∀ f e b, φ f e = some b → joined s'.next φ' φ f e = some b := fun f e b hb => by
    unfold joined
    split
    next hl =>
      rcases hgap _ _ _ hb with h3 | h3
      · exact hs.ext _ _ _ (low_of hb h3)
      · omega
    next => exact hb
  have h3 : ∀ f e b, joined s'.next φ' φ f e = some b → (φ' f e = some b ∧ f < s'.next) ∨ (φ f e = some b ∧ s'.next ≤ f) := fun f e b hb => by
    unfold joined at hb
    split at hb
    next hl => exact .inl ⟨hb, hl⟩
    next hl => exact .inr ⟨hb, by omega⟩
  have hkeep : ∀ f e b, φ f e = some b → s'.next ≤ f → w'.heap[b.b]? = w.heap[b.b]? := by
    intro f e b hb hl
    refine hs.frame _ (h.lo _ _ _ hb).2 fun f₀ e₀ k₀ hk he => ?_
    have := h.inj _ _ _ _ _ _ (low_some hk).1 hb he
    have := (low_some hk).2
    omega
  have hmix : ∀ f e b f' e' b', φ' f e = some b → f < s'.next → φ f' e' = some b' → s'.next ≤ f' → b.b ≠ b'.b := by
    intro f e b f' e' b' hb hl hb' hl' he
    rcases hs.new _ _ _ hb with h4 | h4 | ⟨e₀, k₀, h4, h5⟩
    · have := h.inj _ _ _ _ _ _ (low_some h4).1 hb' he
      omega
    · have := (h.lo _ _ _ hb').2
      omega
    · have := h.inj _ _ _ _ _ _ (low_some h4).1 hb' (h5.trans he)
      omega
  refine ⟨⟨h2, ?_, ?_, hs.size, hs.os, hs.tape, hs.output, ?_⟩, ⟨?_, ?_, ?_, ?_, ?_, ?_, h'.old, h'.size, ?_⟩, h1⟩
  · intro f e b hb
    rcases h3 _ _ _ hb with ⟨h4, h5⟩ | ⟨h4, h5⟩
    · rcases hs.new _ _ _ h4 with h6 | h6 | ⟨e₀, k₀, h6, h7⟩
      · exact .inl (low_some h6).1
      · exact .inr (.inl h6)
      · exact .inr (.inr ⟨e₀, k₀, (low_some h6).1, h7⟩)
    · exact .inl h4
  · intro b hb hn'
    exact hs.frame b hb fun f e k hk => hn' f e k (low_some hk).1
  · intro f e b hb
    rcases h3 _ _ _ hb with ⟨h4, h5⟩ | ⟨h4, h5⟩
    · rcases hs.fam _ _ _ h4 with ⟨e₀, k₀, h6⟩ | h6
      · exact .inl ⟨_, _, (low_some h6).1⟩
      · exact .inr h6
    · exact .inl ⟨_, _, h4⟩
  · intro f e b hb
    show (if f < s'.next then s'.get f else g f).isSome = true
    rcases h3 _ _ _ hb with ⟨h4, h5⟩ | ⟨h4, h5⟩
    · rw [if_pos h5]; exact h'.dom _ _ _ h4
    · rw [if_neg (by omega)]; exact h.dom _ _ _ h4
  · intro f e b hb
    rcases h3 _ _ _ hb with ⟨h4, h5⟩ | ⟨h4, h5⟩
    · exact h'.lo _ _ _ h4
    · have := h.lo _ _ _ h4
      have := hs.size
      omega
  · intro f e b f' e' b' hb hb' he
    rcases h3 _ _ _ hb with ⟨h4, h5⟩ | ⟨h4, h5⟩ <;> rcases h3 _ _ _ hb' with ⟨h6, h7⟩ | ⟨h6, h7⟩
    · exact h'.inj _ _ _ _ _ _ h4 h6 he
    · exact absurd he (hmix _ _ _ _ _ _ h4 h5 h6 h7)
    · exact absurd he.symm (hmix _ _ _ _ _ _ h6 h7 h4 h5)
    · exact h.inj _ _ _ _ _ _ h4 h6 he
  · intro f e b cells esz ep lw hist hg hb
    rcases h3 _ _ _ hb with ⟨h4, h5⟩ | ⟨h4, h5⟩
    · rw [if_pos h5] at hg
      obtain ⟨a1, a2, a3⟩ := h'.row _ _ _ _ _ _ _ _ hg h4
      exact ⟨a1, a2, fun hl => (a3 hl).congr h1 rfl⟩
    · rw [if_neg (by omega)] at hg
      obtain ⟨a1, a2, a3⟩ := h.row _ _ _ _ _ _ _ _ hg h4
      exact ⟨a1, a2, fun hl => (a3 hl).congr h2 (hkeep _ _ _ h4 h5)⟩
  · intro f e b es hg hb
    rcases h3 _ _ _ hb with ⟨h4, h5⟩ | ⟨h4, h5⟩
    · rw [if_pos h5] at hg
      exact (h'.map _ _ _ _ hg h4).congr h1 rfl
    · rw [if_neg (by omega)] at hg
      exact (h.map _ _ _ _ hg h4).congr h2 (hkeep _ _ _ h4 h5)
  · intro f e b s₁ p hg hb
    rcases h3 _ _ _ hb with ⟨h4, h5⟩ | ⟨h4, h5⟩
    · rw [if_pos h5] at hg
      exact h'.iter _ _ _ _ _ hg h4
    · rw [if_neg (by omega)] at hg
      rw [hkeep _ _ _ h4 h5]
      exact h.iter _ _ _ _ _ hg h4
  · intro f e b hb hg
    rcases h3 _ _ _ hb with ⟨h4, h5⟩ | ⟨h4, h5⟩
    · rw [if_pos h5] at hg
      exact h'.one _ _ _ h4 hg
    · rw [if_neg (by omega)] at hg
      exact h.one _ _ _ h4 hg

/-! The run in the text's order. -/
def stAt (ents : List Ent) (sN : St) (i : Nat) : St := match ents[i]? with | some x => x.s | none => sN
def acAt (ents : List Ent) (aN : AAct) (i : Nat) : AAct := match ents[i]? with | some x => x.a | none => aN

theorem stAt_cons {x : Ent} {l : List Ent} {sN : St} {i : Nat} : stAt (x :: l) sN (i + 1) = stAt l sN i := by simp [stAt]
theorem acAt_cons {x : Ent} {l : List Ent} {aN : AAct} {i : Nat} : acAt (x :: l) aN (i + 1) = acAt l aN i := by simp [acAt]

/-- An operation that looks at no memory, as it ran. -/
def Plainly (E : Env) (x : Ent) : Prop :=
  (quietOp E x.o.op = true ∧ ∀ σ, aVal E x.a.eval x.o σ = some (x.v, σ)) ∨
  ∃ f args ats g first captured F, x.o.op = .call { callee := .value f, args := args, argTypes := ats } ∧ x.a.eval f = .func (.func g) first captured ∧ E.known g = some F ∧
    F (first.toList ++ args.toList.map x.a.eval ++ captured.toList) = some (true, x.v)

/-- What is known of an operation as it ran. 'n': its place. -/
structure EntOk (E : Env) (call : Caller) (ops : Array Oper) (x : Ent) (n : Nat) (s1 : St) (a1 : AAct) (pn : Option (Nat × Value × St)) : Prop where
  act : a1 = x.a.put x.o.dst x.v
  cls : x.cls ≤ 5
  clean : x.ran = true → Go.Ai.clean x.a.eval x.o.op = true
  went : x.cls ≠ 5 → x.ran = aWanted ops x.a.tmps x.o
  none : x.ran = false → x.v = undef ∧ s1 = x.s ∧ (x.cls = 0 ∨ x.cls = 5)
  pure : x.cls = 0 → x.ran = true → s1 = x.s ∧ Plainly E x
  look : x.cls = 1 → x.ran = true ∧ s1 = x.s ∧ quietOp E x.o.op = true ∧ aVal E x.a.eval x.o x.s = some (x.v, x.s)
  make : x.cls = 2 → x.ran = true ∧ x.s' = s1 ∧ allocOp E x.o.op = true ∧ aVal E x.a.eval x.o x.s = some (x.v, s1)
  does : x.cls = 3 → x.ran = true ∧ x.s' = s1 ∧ aOp E call x.a.eval x.o x.s = some (.val x.v s1)
  pan : x.cls = 4 → x.ran = true ∧ s1 = x.s ∧ x.v = undef ∧ ∃ v s', aOp E call x.a.eval x.o x.s = some (.pan v s') ∧ pn = some (n, v, s')
  dead : x.cls = 5 → x.ran = false ∧ ∃ p v s', pn = some (p, v, s') ∧ bit ops n p = true
  early : (x.cls = 2 ∨ x.cls = 3) → ∀ p v s', pn = some (p, v, s') → n < p

theorem aOp_plain {E : Env} {call : Caller} {ρ : Operand → Value} {o : Oper} {s : St} (hcl : clean ρ o.op = true) (h : quietOp E o.op = true ∨ allocOp E o.op = true) :
    aOp E call ρ o s = match aVal E ρ o s with | some (v, s') => some (.val v s') | none => none := by
  unfold aOp
  rw [if_pos hcl]
  clear hcl
  obtain ⟨dst, op, ty, pos, after, guard⟩ := o
  cases op <;> simp only [quietOp, allocOp, Bool.false_eq_true, or_self, or_false, false_or] at h <;> simp only [aOpC]
  all_goals try rfl
  case call c =>
    obtain ⟨callee, args, ats⟩ := c
    cases callee with
    | value f => simp at h
    | invoke r m => simp at h
    | builtin b => cases b <;> simp at h <;> simp only [aOpC] <;> rfl

theorem Plainly.any {E : Env} {call : Caller} {x : Ent} (hcl : clean x.a.eval x.o.op = true) (h : Plainly E x) (σ : St) : aOp E call x.a.eval x.o σ = some (.val x.v σ) := by
  rcases h with ⟨h1, h2⟩ | ⟨f, args, ats, g, first, captured, F, h1, h2, h3, h4⟩
  · rw [aOp_plain hcl (.inl h1), h2 σ]
  · unfold aOp
    rw [if_pos hcl]
    unfold aOpC
    simp only [h1, h2, aCall, h3, h4]

theorem pureOp_quiet {E : Env} {o : Op} (h : pureOp o = true) : quietOp E o = true := by
  cases o <;> simp only [pureOp, Bool.false_eq_true] at h <;> simp only [quietOp]

theorem clsOf_spec (E : Env) (ρ : Operand → Value) (o : Op) : (clsOf E ρ o = 0 → pureOp o = true ∨ ∃ f args ats g first captured F, o = .call { callee := .value f, args := args, argTypes := ats } ∧ ρ f = .func (.func g) first captured ∧ E.known g = some F) ∧
    (clsOf E ρ o = 1 → quietOp E o = true) ∧ (clsOf E ρ o = 2 → allocOp E o = true) ∧ clsOf E ρ o ≤ 3 ∧ (quietOp E o = true → clsOf E ρ o ≤ 1) := by
  unfold clsOf
  by_cases h1 : pureOp o = true
  · simp [h1]
  rw [if_neg h1]
  by_cases h2 : quietOp E o = true
  · simp [h2]
  rw [if_neg h2]
  by_cases h3 : allocOp E o = true
  · simp [h2, h3]
  rw [if_neg h3]
  cases o <;> simp [h2]
  case call c =>
    obtain ⟨callee, args, ats⟩ := c
    cases callee with
    | value f =>
      simp only
      cases hf : ρ f with
      | func fn first captured =>
        cases fn with
        | func g =>
          simp only
          cases hk : E.known g with
          | some F => simp [h2, hk, hf]
          | none => simp [h2]
        | _ => simp [h2]
      | _ => simp [h2]
    | _ => simp [h2]


theorem trace_spec {E : Env} {call : Caller} {ops : Array Oper} : ∀ (l : List Oper) (i : Nat) (pn : Option (Nat × Value × St)) (a : AAct) (s : St) (ents : List Ent) (pn' : Option (Nat × Value × St)) (aN : AAct) (sN : St),
    trace E call ops (Region.before ops) l i pn a s = some (ents, pn', aN, sN) →
      ents.length = l.length ∧ stAt ents sN 0 = s ∧ acAt ents aN 0 = a ∧ (∀ q, pn = some q → pn' = some q) ∧ (pn' = pn ∨ (pn = none ∧ ∃ (j : Nat) (x : Ent), ents[j]? = some x ∧ x.cls = 4)) ∧
      ∀ (j : Nat) (x : Ent), ents[j]? = some x → l[j]? = some x.o ∧ x.s = stAt ents sN j ∧ x.a = acAt ents aN j ∧ EntOk E call ops x (i + j) (stAt ents sN (j + 1)) (acAt ents aN (j + 1)) pn' ∧ ((∃ q, pn = some q) → x.cls ≠ 2 ∧ x.cls ≠ 3 ∧ x.cls ≠ 4) := by
  intro l
  induction l with
  | nil =>
    intro i pn a s ents pn' aN sN h
    simp only [trace, Option.some.injEq, Prod.mk.injEq] at h
    obtain ⟨rfl, rfl, rfl, rfl⟩ := h
    exact ⟨rfl, rfl, rfl, fun q hq => hq, .inl rfl, fun j x hx => by simp at hx⟩
  | cons o rest ih =>
    intro i pn a s ents pn' aN sN h
    -- one entry ahead of the others
    have step : ∀ (x : Ent) (es : List Ent) (pn₁ : Option (Nat × Value × St)) (s₁ : St) (a₁ : AAct), ents = x :: es → x.o = o → x.a = a → x.s = s → trace E call ops (Region.before ops) rest (i + 1) pn₁ a₁ s₁ = some (es, pn', aN, sN) →
        (∀ q, pn = some q → pn₁ = some q) → (pn₁ = pn ∨ (pn = none ∧ x.cls = 4)) → ((∀ q, pn₁ = some q → pn' = some q) → (x.cls ≠ 4 → pn₁ = none → ∀ p v s', pn' = some (p, v, s') → i < p) → EntOk E call ops x i s₁ a₁ pn') → ((∃ q, pn = some q) → x.cls ≠ 2 ∧ x.cls ≠ 3 ∧ x.cls ≠ 4) →
        ents.length = (o :: rest).length ∧ stAt ents sN 0 = s ∧ acAt ents aN 0 = a ∧ (∀ q, pn = some q → pn' = some q) ∧ (pn' = pn ∨ (pn = none ∧ ∃ (j : Nat) (x : Ent), ents[j]? = some x ∧ x.cls = 4)) ∧
        ∀ (j : Nat) (x : Ent), ents[j]? = some x → (o :: rest)[j]? = some x.o ∧ x.s = stAt ents sN j ∧ x.a = acAt ents aN j ∧ EntOk E call ops x (i + j) (stAt ents sN (j + 1)) (acAt ents aN (j + 1)) pn' ∧ ((∃ q, pn = some q) → x.cls ≠ 2 ∧ x.cls ≠ 3 ∧ x.cls ≠ 4) := by
      intro x es pn₁ s₁ a₁ he ho ha hs ht hp hp' hk hlate
      subst he
      obtain ⟨h1, h2, h3, h4, h5, h6⟩ := ih _ _ _ _ _ _ _ _ ht
      have hearly : pn₁ = none → ∀ p v s', pn' = some (p, v, s') → i < p := by
        intro hn p v s' hpp
        rcases h5 with h5 | ⟨_, j, y, hy, hyc⟩
        · rw [h5, hn] at hpp; simp at hpp
        · obtain ⟨_, _, _, hyk, _⟩ := h6 j y hy
          obtain ⟨_, _, _, v', s'', _, hpn⟩ := hyk.pan hyc
          rw [hpn] at hpp
          simp only [Option.some.injEq, Prod.mk.injEq] at hpp
          omega
      have hx := hk h4 (fun _ => hearly)
      refine ⟨by simp [h1], by simp [stAt, hs], by simp [acAt, ha], fun q hq => h4 _ (hp q hq), ?_, fun j y hy => ?_⟩
      · rcases h5 with h5 | ⟨h5, j, y, hy, hyc⟩
        · rcases hp' with hp' | ⟨hp', hc⟩
          · exact .inl (h5.trans hp')
          · exact .inr ⟨hp', 0, x, rfl, hc⟩
        · rcases hp' with hp' | ⟨hp', hc⟩
          · exact .inr ⟨hp' ▸ h5, j + 1, y, by simpa using hy, hyc⟩
          · exact .inr ⟨hp', 0, x, rfl, hc⟩
      · cases j with
        | zero =>
          simp only [List.getElem?_cons_zero, Option.some.injEq] at hy
          subst hy
          refine ⟨by simp [ho], by simp [stAt], by simp [acAt], ?_, hlate⟩
          rw [stAt_cons, acAt_cons, h2, h3]
          exact hx
        | succ j =>
          simp only [List.getElem?_cons_succ] at hy ⊢
          obtain ⟨g1, g2, g3, g4, g5⟩ := h6 j y hy
          rw [stAt_cons, acAt_cons, stAt_cons, acAt_cons, show i + (j + 1) = i + 1 + j by omega]
          exact ⟨g1, g2, g3, g4, fun ⟨q, hq⟩ => g5 ⟨q, hp q hq⟩⟩
    cases pn with
    | none =>
      simp only [trace] at h
      split at h
      next hw =>
        split at h
        next v s₁ hop =>
          split at h
          next es r ht =>
            obtain ⟨r1, r2, r3⟩ := r
            simp only [Option.some.injEq, Prod.mk.injEq] at h
            obtain ⟨rfl, rfl, rfl, rfl⟩ := h
            refine step _ es _ s₁ _ rfl rfl rfl rfl ht (fun q hq => hq) (.inl rfl) (fun hq he => ?_) (by rintro ⟨q, hq⟩; simp at hq)
            obtain ⟨c0, c1, c2, c3, c4⟩ := clsOf_spec E a.eval o.op
            have hne : clsOf E a.eval o.op ≠ 4 := by omega
            refine ⟨rfl, by simp only; omega, fun _ => (aOp_clean hop).1, fun _ => by simp only [hw], by simp, ?_, ?_, ?_, ?_, fun h => by simp only at h; omega, fun h => by simp only at h; omega, fun _ => he hne rfl⟩
            · intro h0 _
              simp only at h0
              rcases c0 h0 with hp | ⟨f, args, ats, g, first, captured, F, ho, hf, hk⟩
              · rw [aOp_plain (aOp_clean hop).1 (.inl (pureOp_quiet hp))] at hop
                cases hv : aVal E a.eval o s with
                | none => simp [hv] at hop
                | some z =>
                  obtain ⟨v', s'⟩ := z
                  simp only [hv, Option.some.injEq, Rs.val.injEq] at hop
                  obtain ⟨rfl, rfl⟩ := hop
                  obtain ⟨g1, g2⟩ := pure_any hp hv
                  exact ⟨g1, .inl ⟨pureOp_quiet hp, g2⟩⟩
              · have hop' := (aOp_clean hop).2
                unfold aOpC at hop'
                simp only [ho, hf, aCall, hk] at hop'
                split at hop'
                case h_2 => simp at hop'
                rename_i v' hv'
                simp only [Option.some.injEq, Rs.val.injEq] at hop'
                obtain ⟨rfl, rfl⟩ := hop'
                exact ⟨rfl, .inr ⟨f, args, ats, g, first, captured, F, ho, hf, hk, hv'⟩⟩
            · intro h1
              simp only at h1
              have hqt := c1 h1
              rw [aOp_plain (aOp_clean hop).1 (.inl hqt)] at hop
              cases hv : aVal E a.eval o s with
              | none => simp [hv] at hop
              | some z =>
                obtain ⟨v', s'⟩ := z
                simp only [hv, Option.some.injEq, Rs.val.injEq] at hop
                obtain ⟨rfl, rfl⟩ := hop
                obtain ⟨g1, g2⟩ := quiet_sub (σ := s) (fun _ _ h => h) hqt hv
                subst g1
                exact ⟨rfl, rfl, hqt, rfl⟩
            · intro h1
              simp only at h1
              have hal := c2 h1
              rw [aOp_plain (aOp_clean hop).1 (.inr hal)] at hop
              cases hv : aVal E a.eval o s with
              | none => simp [hv] at hop
              | some z =>
                obtain ⟨v', s'⟩ := z
                simp only [hv, Option.some.injEq, Rs.val.injEq] at hop
                obtain ⟨rfl, rfl⟩ := hop
                exact ⟨rfl, rfl, hal, rfl⟩
            · intro h1
              exact ⟨rfl, rfl, hop⟩
          next => simp at h
        next v s₁ hop =>
          split at h
          next es r ht =>
            obtain ⟨r1, r2, r3⟩ := r
            simp only [Option.some.injEq, Prod.mk.injEq] at h
            obtain ⟨rfl, rfl, rfl, rfl⟩ := h
            refine step _ es _ s _ rfl rfl rfl rfl ht (by simp) (.inr ⟨rfl, rfl⟩) (fun hq he => ?_) (by rintro ⟨q, hq⟩; simp at hq)
            exact ⟨rfl, by simp, fun _ => (aOp_clean hop).1, fun _ => by simp only [hw], by simp, by simp, by simp, by simp, by simp, fun _ => ⟨rfl, rfl, rfl, v, s₁, hop, hq _ rfl⟩, by simp, by simp⟩
          next => simp at h
        next => simp at h
      next hw =>
        split at h
        next es r ht =>
          obtain ⟨r1, r2, r3⟩ := r
          simp only [Option.some.injEq, Prod.mk.injEq] at h
          obtain ⟨rfl, rfl, rfl, rfl⟩ := h
          refine step _ es _ s _ rfl rfl rfl rfl ht (fun q hq => hq) (.inl rfl) (fun hq he => ?_) (by rintro ⟨q, hq⟩; simp at hq)
          exact ⟨rfl, by simp, by simp, fun _ => by simp only; simpa using hw, fun _ => ⟨rfl, rfl, .inl rfl⟩, by simp, by simp, by simp, by simp, by simp, by simp, by simp⟩
        next => simp at h
    | some q =>
      obtain ⟨p, pv, ps⟩ := q
      simp only [trace] at h
      split at h
      next hb =>
        split at h
        next es r ht =>
          obtain ⟨r1, r2, r3⟩ := r
          simp only [Option.some.injEq, Prod.mk.injEq] at h
          obtain ⟨rfl, rfl, rfl, rfl⟩ := h
          refine step _ es _ s _ rfl rfl rfl rfl ht (fun q hq => hq) (.inl rfl) (fun hq he => ?_) (fun _ => by simp)
          exact ⟨rfl, by simp, by simp, by simp, fun _ => ⟨rfl, rfl, .inr rfl⟩, by simp, by simp, by simp, by simp, by simp, fun _ => ⟨rfl, p, pv, ps, hq _ rfl, hb⟩, by simp⟩
        next => simp at h
      next hb =>
        split at h
        next hw =>
          split at h
          next hqt =>
            split at h
            next v s₁ hop =>
              have hv : aVal E a.eval o s = some (v, s₁) := by
                rw [aOp_plain (aOp_clean hop).1 (.inl hqt)] at hop
                cases hv : aVal E a.eval o s with
                | none => simp [hv] at hop
                | some z =>
                  obtain ⟨v', s'⟩ := z
                  simp only [hv, Option.some.injEq, Rs.val.injEq] at hop
                  obtain ⟨rfl, rfl⟩ := hop
                  rfl
              split at h
              next es r ht =>
                obtain ⟨r1, r2, r3⟩ := r
                simp only [Option.some.injEq, Prod.mk.injEq] at h
                obtain ⟨rfl, rfl, rfl, rfl⟩ := h
                obtain ⟨c0, c1, c2, c3, c4⟩ := clsOf_spec E a.eval o.op
                have hle := c4 hqt
                refine step _ es _ s _ rfl rfl rfl rfl ht (fun q hq => hq) (.inl rfl) (fun hq he => ?_) (fun _ => by simp only; omega)
                obtain ⟨g1, g2⟩ := quiet_sub (σ := s) (fun _ _ h => h) hqt hv
                subst g1
                refine ⟨rfl, by simp only; omega, fun _ => (aOp_clean hop).1, fun _ => by simp only [hw], by simp, ?_, ?_, fun h => by simp only at h; omega, fun h => by simp only at h; omega, fun h => by simp only at h; omega, fun h => by simp only at h; omega, fun h => by simp only at h; omega⟩
                · intro h0 _
                  simp only at h0
                  rcases c0 h0 with hp | ⟨f, args, ats, g, first, captured, F, ho, hf, hk⟩
                  · obtain ⟨g1, g3⟩ := pure_any hp hv
                    exact ⟨rfl, .inl ⟨hqt, g3⟩⟩
                  · simp [ho, quietOp] at hqt
                · intro h1
                  exact ⟨rfl, rfl, hqt, hv⟩
              next => simp at h
            next => simp at h
          next => simp at h
        next hw =>
          split at h
          next es r ht =>
            obtain ⟨r1, r2, r3⟩ := r
            simp only [Option.some.injEq, Prod.mk.injEq] at h
            obtain ⟨rfl, rfl, rfl, rfl⟩ := h
            refine step _ es _ s _ rfl rfl rfl rfl ht (fun q hq => hq) (.inl rfl) (fun hq he => ?_) (fun _ => by simp)
            exact ⟨rfl, by simp, by simp, fun _ => by simp only; simpa using hw, fun _ => ⟨rfl, rfl, .inl rfl⟩, by simp, by simp, by simp, by simp, by simp, by simp, by simp⟩
          next => simp at h

end Go.Ai
