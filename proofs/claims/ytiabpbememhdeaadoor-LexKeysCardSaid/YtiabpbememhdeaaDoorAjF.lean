/-
  THE FORKED RUN, 6: loops, told by what each round does.
-/
import Derived.Test.YtiabpbememhdeaaDoorAjE
set_option linter.unusedSimpArgs false
set_option linter.unusedVariables false
set_option linter.unusedSectionVars false
namespace Go.Ai
open Go RowKit

theorem lookup_mem {l : List (Nat × Value)} {i : Nat} {v : Value} (h : l.lookup i = some v) : (i, v) ∈ l := by
  induction l with
  | nil => simp at h
  | cons y l ih =>
    obtain ⟨j, w⟩ := y
    simp only [List.lookup_cons] at h
    split at h
    next hij =>
      simp only [beq_iff_eq] at hij
      cases h
      rw [hij]
      simp
    next => exact List.mem_cons_of_mem _ (ih h)

/-- Temporaries of which some are told. -/
theorem tmps_told {tmps : List Value} {n : Nat} {live : List (Nat × Value)} (hl : tmps.length = n) (h : ∀ y ∈ live, tmps[y.1]? = some y.2) : tmps = tmpsOf n live (fun i => tmps.getD i undef) := by
  apply List.ext_getElem?
  intro i
  unfold tmpsOf
  rw [List.getElem?_map]
  by_cases hi : i < n
  · rw [List.getElem?_range hi]
    simp only [Option.map_some]
    split
    next v hv => exact h _ (lookup_mem hv)
    next => rw [List.getElem?_eq_getElem (by omega), List.getD_eq_getElem?_getD, List.getElem?_eq_getElem (by omega)]; rfl
  · rw [List.getElem?_eq_none (by omega), List.getElem?_eq_none (by simp; omega)]; rfl

/-- How a piece of code ended. -/
inductive XK where
  | normal
  | exit (id : Nat)
  | ret
  | panic (v : Value)

def XK.x : XK → X
  | .normal => .normal
  | .exit id => .exit id
  | .ret => .ret
  | .panic v => .panic v

/-- A look at how a piece of code ended and at some temporaries. -/
def look (is : List Nat) (r : X × AAct) : X × List Deferred × Nat × List (Option Value) := (r.1, r.2.defers, r.2.tmps.length, is.map (r.2.tmps[·]?))

theorem of_look {is : List Nat} {x x' : X} {a : AAct} {d : List Deferred} {n : Nat} {vs : List Value} (h : look is (x, a) = (x', d, n, vs.map some)) (hl : is.length = vs.length) :
    x = x' ∧ a = { tmps := tmpsOf n (is.zip vs) (fun i => a.tmps.getD i undef), defers := d } := by
  simp only [look, Prod.mk.injEq] at h
  obtain ⟨h1, h2, h3, h4⟩ := h
  refine ⟨h1, ?_⟩
  obtain ⟨tmps, defers⟩ := a
  simp only at h2 h3 h4
  subst h2
  rw [← tmps_told h3]
  intro y hy
  obtain ⟨i, hi⟩ := List.mem_iff_getElem?.1 hy
  rw [List.getElem?_zip_eq_some] at hi
  have := congrArg (·[i]?) h4
  simp only [List.getElem?_map, hi.1, hi.2, Option.map_some, Option.some.injEq] at this
  exact this

theorem iter_rule {f : AAct → St → Option (X × AAct × St)} (J : Nat → AAct → St → Prop) (Q : X → AAct → St → Prop)
    (round : ∀ r a s, J r a s → ∃ x a' s', f a s = some (x, a', s') ∧ ((x = .normal ∧ ∃ r', r' < r ∧ J r' a' s') ∨ (x ≠ .normal ∧ Q x a' s'))) : ∀ n r a s, J r a s → r < n → ∃ x a' s', iter f n a s = some (x, a', s') ∧ Q x a' s' := by
  intro n
  induction n with
  | zero => intro r a s _ h; omega
  | succ n ih =>
    intro r a s hJ hn
    obtain ⟨x, a', s', h1, h2⟩ := round r a s hJ
    simp only [iter, h1]
    rcases h2 with ⟨rfl, r', hr, hJ'⟩ | ⟨hx, hQ⟩
    · exact ih r' a' s' hJ' (by omega)
    · cases x with
      | normal => exact absurd rfl hx
      | _ => exact ⟨_, _, _, rfl, hQ⟩

/-- A loop of so many rounds. -/
theorem loop_ok {E : Env} {call : Caller} {N : Nat} {c : Code} {m : Nat} {d : List Deferred} {s₀ : St} {old : List Nat} (K : Nat) (hK : K < N) (live : Nat → List (Nat × Value)) (now : Nat → Cache) {x : X} (hx : x ≠ .normal) {live' : List (Nat × Value)} {now' : Cache}
    (h0 : After s₀ s₀ old (now 0))
    (round : ∀ k, k < K → ∀ rest s, After s₀ s old (now k) → ∃ rest' s', evalCode E call N c { tmps := tmpsOf m (live k) rest, defers := d } s = some (.normal, { tmps := tmpsOf m (live (k + 1)) rest', defers := d }, s') ∧ After s s' (keysOf (now k)) (now (k + 1)))
    (last : ∀ rest s, After s₀ s old (now K) → ∃ rest' s', evalCode E call N c { tmps := tmpsOf m (live K) rest, defers := d } s = some (x, { tmps := tmpsOf m live' rest', defers := d }, s') ∧ After s s' (keysOf (now K)) now') :
    ∀ rest, ∃ rest' s', evalCode E call N (.loop c) { tmps := tmpsOf m (live 0) rest, defers := d } s₀ = some (x, { tmps := tmpsOf m live' rest', defers := d }, s') ∧ After s₀ s' old now' := by
  intro rest
  have := iter_rule (f := evalCode E call N c) (fun r a s => ∃ k rest, k ≤ K ∧ r = K - k ∧ a = { tmps := tmpsOf m (live k) rest, defers := d } ∧ After s₀ s old (now k))
    (fun x' a' s' => x' = x ∧ ∃ rest', a' = { tmps := tmpsOf m live' rest', defers := d } ∧ After s₀ s' old now') (by
      rintro r a s ⟨k, rest, hk, rfl, rfl, hA⟩
      by_cases hlt : k < K
      · obtain ⟨rest', s', h1, h2⟩ := round k hlt rest s hA
        exact ⟨_, _, _, h1, .inl ⟨rfl, K - (k + 1), by omega, k + 1, rest', by omega, rfl, rfl, hA.trans h2 fun f hf => hf⟩⟩
      · obtain rfl : k = K := by omega
        obtain ⟨rest', s', h1, h2⟩ := last rest s hA
        exact ⟨_, _, _, h1, .inr ⟨hx, rfl, rest', rfl, hA.trans h2 fun f hf => hf⟩⟩) N K _ s₀ ⟨0, rest, Nat.zero_le _, rfl, rfl, h0⟩ hK
  obtain ⟨x', a', s', h1, rfl, rest', rfl, h2⟩ := this
  exact ⟨rest', s', h1, h2⟩

/-- What each act comes to, as one function. -/
theorem choose_loop {F : AAct → St → Option (X × AAct × St)} {m : Nat} {live live' : List (Nat × Value)} {d : List Deferred} {x : X} {s : St} {old : List Nat} {now : Cache}
    (h : ∀ rest, ∃ rest' s', F { tmps := tmpsOf m live rest, defers := d } s = some (x, { tmps := tmpsOf m live' rest', defers := d }, s') ∧ After s s' old now) :
    ∃ R : (Nat → Value) → (Nat → Value) × St, ∀ rest, F { tmps := tmpsOf m live rest, defers := d } s = some (x, { tmps := tmpsOf m live' (R rest).1, defers := d }, (R rest).2) ∧ After s (R rest).2 old now := by
  have h' : ∀ rest, ∃ q : (Nat → Value) × St, F { tmps := tmpsOf m live rest, defers := d } s = some (x, { tmps := tmpsOf m live' q.1, defers := d }, q.2) ∧ After s q.2 old now := fun rest => by
    obtain ⟨rest', s', h1⟩ := h rest
    exact ⟨(rest', s'), h1⟩
  exact ⟨fun rest => Classical.choose (h' rest), fun rest => Classical.choose_spec (h' rest)⟩

/-- A piece of code, from what is told to what is told. -/
theorem round_by {E : Env} {N n : Nat} {c : Code} {a : AAct} {s : St} {ov : Cache} (hov : Holds s ov) (p : List Ev) (is : List Nat) {x : X} {d : List Deferred} {m : Nat} {live' : List (Nat × Value)} {now : Cache}
    (h : ((codeT E (callN E N n) (callNT E N n) N c a s fun x a' s' => .now s' (.ret (x, a', s'))).follow p [(s, ov)] []).map (fun z => ((isNodup is, look (live'.map (·.1)) (z.1.1, z.1.2.1), z.2.1.head?.map fun t => picks is t.2), (z.2.1.head?.map (·.1) :: z.2.2.map (fun _ => none), z.2.2.map Ob.flip))) =
      some ((true, (x, d, m, live'.map fun y => some y.2), some now), (((codeT E (callN E N n) (callNT E N n) N c a s fun x a' s' => .now s' (.ret (x, a', s'))).follow p [(s, ov)] []).map fun z => ((some z.1.2.2 : Option St) :: z.2.2.map (fun _ => none), z.2.2)).getD ([], []))) :
    ∃ rest' s', evalCode E (callN E N n) N c a s = some (x, { tmps := tmpsOf m live' rest', defers := d }, s') ∧ After s s' (keysOf ov) now := by
  obtain ⟨x', a', s', h1, h2, h3⟩ := code_by hov p is (look (live'.map (·.1))) h
  have h2 : look (live'.map (·.1)) (x', a') = (x, d, m, (live'.map (·.2)).map some) := by rw [h2, List.map_map]; rfl
  obtain ⟨rfl, h4⟩ := of_look h2 (by simp)
  have hz : (live'.map (·.1)).zip (live'.map (·.2)) = live' := by
    rw [List.zip_map']
    exact List.map_id _
  rw [hz] at h4
  exact ⟨_, s', by rw [← h4]; exact h1, h3⟩

theorem wrap_u8 {n : Int} (h1 : 0 ≤ n) (h2 : n < 2 ^ 8) : IntKind.u8.wrap n = n := by
  unfold IntKind.wrap
  simp only [IntKind.signed, IntKind.bits, Bool.false_and]
  split
  next h => simp at h
  next h => omega

theorem wrap_u32 {n : Int} (h1 : 0 ≤ n) (h2 : n < 2 ^ 32) : IntKind.u32.wrap n = n := by
  unfold IntKind.wrap
  simp only [IntKind.signed, IntKind.bits, Bool.false_and]
  split
  next h => simp at h
  next h => omega

end Go.Ai
