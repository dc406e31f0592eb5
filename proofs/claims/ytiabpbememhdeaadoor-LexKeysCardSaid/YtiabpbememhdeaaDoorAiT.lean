/-
  THE SHORT RUN, 20: more tools for statements whose order is open.
-/
import Derived.Test.YtiabpbememhdeaaDoorAiS
set_option linter.unusedSimpArgs false
set_option linter.unusedVariables false
set_option linter.unusedSectionVars false
namespace Go.Ai
open Go

/-! The bits of what stands ahead. -/
def bit (ops : Array Oper) (j i : Nat) : Bool := ((Region.before ops).getD j 0).testBit i

theorem fold_bits (acc : Array Nat) (i : Nat) : ∀ (l : List Edge) (s : Nat), (l.foldl (fun s e => if Region.binds .any e then s ||| 2 ^ e.on ||| acc.getD e.on 0 else s) s).testBit i = true →
    s.testBit i = true ∨ ∃ e ∈ l, Region.binds .any e = true ∧ (i = e.on ∨ (acc.getD e.on 0).testBit i = true) := by
  intro l
  induction l with
  | nil => intro s h; exact .inl h
  | cons e l ih =>
    intro s h
    simp only [List.foldl_cons] at h
    rcases ih _ h with h1 | ⟨e', h1, h2⟩
    · split at h1
      next hb =>
        simp only [Nat.testBit_or, Nat.testBit_two_pow, Bool.or_eq_true, decide_eq_true_eq] at h1
        rcases h1 with (h1 | h1) | h1
        · exact .inl h1
        · exact .inr ⟨e, by simp, hb, .inl h1.symm⟩
        · exact .inr ⟨e, by simp, hb, .inr h1⟩
      next => exact .inl h1
    · exact .inr ⟨e', by simp [h1], h2⟩

theorem before_bits (ops : Array Oper) (j i : Nat) (h : bit ops j i = true) : ∃ o, ops[j]? = some o ∧ ∃ e ∈ o.after, Region.binds .any e = true ∧ (i = e.on ∨ (e.on < j ∧ bit ops e.on i = true)) := by
  have key : ∀ (l : List Oper) (done : List Oper) (acc : Array Nat), ops.toList = done ++ l → acc.size = done.length →
      (∀ j, j < acc.size → ∀ i, (acc.getD j 0).testBit i = true → ∃ o, ops[j]? = some o ∧ ∃ e ∈ o.after, Region.binds .any e = true ∧ (i = e.on ∨ (e.on < j ∧ (acc.getD e.on 0).testBit i = true))) →
      ∀ j, ((l.foldl (fun acc o => acc.push (o.after.foldl (fun s e => if Region.binds .any e then s ||| 2 ^ e.on ||| acc.getD e.on 0 else s) 0)) acc).getD j 0).testBit i = true →
        ∃ o, ops[j]? = some o ∧ ∃ e ∈ o.after, Region.binds .any e = true ∧ (i = e.on ∨ (e.on < j ∧ ((l.foldl (fun acc o => acc.push (o.after.foldl (fun s e => if Region.binds .any e then s ||| 2 ^ e.on ||| acc.getD e.on 0 else s) 0)) acc).getD e.on 0).testBit i = true)) := by
    intro l
    induction l with
    | nil =>
      intro done acc hd hs hp j hj
      simp only [List.foldl_nil] at hj ⊢
      by_cases hlt : j < acc.size
      · exact hp j hlt i hj
      · simp [Array.getD, hlt] at hj
    | cons o l ih =>
      intro done acc hd hs hp j hj
      simp only [List.foldl_cons] at hj ⊢
      refine ih (done ++ [o]) _ (by simp [hd]) (by simp [hs]) ?_ j hj
      intro j' hj' i' hb
      have hget : ∀ k, k < acc.size → ∀ x, (acc.push x).getD k 0 = acc.getD k 0 := by
        intro k hk x
        simp [Array.getD, hk, Array.getElem_push, Nat.lt_succ_of_lt hk]
      simp only [Array.size_push] at hj'
      by_cases hlt : j' < acc.size
      · rw [hget j' hlt] at hb
        obtain ⟨o', h1, e, h2, h3, h4⟩ := hp j' hlt i' hb
        refine ⟨o', h1, e, h2, h3, ?_⟩
        rcases h4 with h4 | ⟨h4, h5⟩
        · exact .inl h4
        · exact .inr ⟨h4, by rw [hget _ (by omega)]; exact h5⟩
      · have hje : j' = acc.size := by omega
        subst hje
        have hlast : ∀ x, (acc.push x).getD acc.size 0 = x := by intro x; simp [Array.getD]
        rw [hlast] at hb
        have hoj : ops[acc.size]? = some o := by
          rw [← Array.getElem?_toList, hd, hs]
          simp
        refine ⟨o, hoj, ?_⟩
        rw [← Array.foldl_toList] at hb
        rcases fold_bits acc i' _ 0 hb with h1 | ⟨e, h1, h2, h3⟩
        · simp at h1
        · refine ⟨e, by simpa using h1, h2, ?_⟩
          rcases h3 with h3 | h3
          · exact .inl h3
          · by_cases he : e.on < acc.size
            · exact .inr ⟨he, by rw [hget _ he]; exact h3⟩
            · simp [Array.getD, he] at h3
  have := key ops.toList [] #[] rfl rfl (by simp) j (by
    unfold bit Region.before at h
    rw [← Array.foldl_toList] at h
    exact h)
  unfold bit Region.before
  rw [← Array.foldl_toList]
  exact this

/-! Memory of part of the numbers. -/
def only (p : Nat → Bool) (φ : Phi) : Phi := fun f e => if p f then φ f e else none

theorem only_some {p : Nat → Bool} {φ : Phi} {f e : Nat} {k : Blk} (h : only p φ f e = some k) : φ f e = some k ∧ p f = true := by
  unfold only at h
  split at h
  · exact ⟨h, by assumption⟩
  · simp at h

theorem only_of {p : Nat → Bool} {φ : Phi} {f e : Nat} {k : Blk} (h : φ f e = some k) (hp : p f = true) : only p φ f e = some k := by simp [only, hp, h]

/-- Values that name numbers of the part alone. -/
theorem V.only {B : Nat} {φ ψ : Phi} {p : Nat → Bool} (hp : ∀ f e k, ψ f e = some k → p f = true) {x y : Value} (h : V B ψ x y) : ∀ {z : Value}, V B φ x z → V B (only p φ) x z := by
  induction h with
  | bool b => intro z h; cases h; exact .bool b
  | int k n => intro z h; cases h; exact .int k n
  | float k b => intro z h; cases h; exact .float k b
  | complex k a b => intro z h; cases h; exact .complex k a b
  | string s => intro z h; cases h; exact .string s
  | nilFunc => intro z h; cases h; exact .nilFunc
  | nilIface => intro z h; cases h; exact .nilIface
  | pnil => intro z h; cases h; exact .pnil
  | pold a hb hs =>
    intro z h
    cases h with
    | pold _ h1 h2 => exact .pold a h1 h2
    | pnew f off e k hk hb' => simp at hs
  | pnew f off e k hk hb =>
    intro z h
    cases h with
    | pold _ h1 h2 => simp at h2
    | pnew _ _ _ k' hk' hb' => exact .pnew f off e k' (only_of hk' (hp _ _ _ hk)) hb'
  | snil l c => intro z h; cases h; exact .snil l c
  | sold a l c hb hs =>
    intro z h
    cases h with
    | sold _ _ _ h1 h2 => exact .sold a l c h1 h2
    | _ => simp at hs
  | snew f off e l k hk hb hz hl hd =>
    intro z h
    cases h with
    | sold _ _ _ h1 h2 => simp at h2
    | snew _ _ _ _ k' hk' h2 h3 h4 h5 => exact .snew f off e l k' (only_of hk' (hp _ _ _ hk)) h2 h3 h4 h5
    | sfix _ _ _ _ _ k' hk' h2 h3 => exact .sfix f off e l _ k' (only_of hk' (hp _ _ _ hk)) h2 h3
    | snone _ _ _ o k' hk' h2 h3 h4 h5 => exact .snone f off e o k' (only_of hk' (hp _ _ _ hk)) h2 h3 h4 h5
  | sfix f off e l c k hk hb hc =>
    intro z h
    cases h with
    | sold _ _ _ h1 h2 => simp at h2
    | snew _ _ _ _ k' hk' h2 h3 h4 h5 => exact .snew f off e l k' (only_of hk' (hp _ _ _ hk)) h2 h3 h4 h5
    | sfix _ _ _ _ _ k' hk' h2 h3 => exact .sfix f off e l _ k' (only_of hk' (hp _ _ _ hk)) h2 h3
    | snone _ _ _ o k' hk' h2 h3 h4 h5 => exact .snone f off e o k' (only_of hk' (hp _ _ _ hk)) h2 h3 h4 h5
  | snone f off e o k hk hb hz hl hd =>
    intro z h
    cases h with
    | sold _ _ _ h1 h2 => simp at h2
    | snew _ _ _ _ k' hk' h2 h3 h4 h5 => exact .snew f off e _ k' (only_of hk' (hp _ _ _ hk)) h2 h3 h4 h5
    | sfix _ _ _ _ _ k' hk' h2 h3 => exact .sfix f off e _ _ k' (only_of hk' (hp _ _ _ hk)) h2 h3
    | snone _ _ _ o k' hk' h2 h3 h4 h5 => exact .snone f off e o k' (only_of hk' (hp _ _ _ hk)) h2 h3 h4 h5
  | mnil => intro z h; cases h; exact .mnil
  | mnew f k hk => intro z h; cases h with | mnew _ k' hk' => exact .mnew f k' (only_of hk' (hp _ _ _ hk))
  | cnil => intro z h; cases h; exact .cnil
  | iface t _ ih => intro z h; cases h with | iface _ h' => exact .iface t (ih h')
  | func fn hs hi hs' hi' ih ih' =>
    intro z h
    cases h with
    | func _ h1 h2 h3 h4 =>
      refine .func fn h1 (fun i x y hx hy => ?_) h3 (fun i x y hx hy => ?_)
      · have hlt := (Array.getElem?_eq_some_iff.1 hx).1
        exact ih i x _ hx (Array.getElem?_eq_getElem (by rw [← hs]; exact hlt)) (h2 i x y hx hy)
      · have hlt := (Array.getElem?_eq_some_iff.1 hx).1
        exact ih' i x _ hx (Array.getElem?_eq_getElem (by rw [← hs']; exact hlt)) (h4 i x y hx hy)
  | agg hs hi ih =>
    intro z h
    cases h with
    | agg h1 h2 =>
      refine .agg h1 (fun i x y hx hy => ?_)
      have hlt := (Array.getElem?_eq_some_iff.1 hx).1
      exact ih i x _ hx (Array.getElem?_eq_getElem (by rw [← hs]; exact hlt)) (h2 i x y hx hy)
  | tuple hs hi ih =>
    intro z h
    cases h with
    | tuple h1 h2 =>
      refine .tuple h1 (fun i x y hx hy => ?_)
      have hlt := (Array.getElem?_eq_some_iff.1 hx).1
      exact ih i x _ hx (Array.getElem?_eq_getElem (by rw [← hs]; exact hlt)) (h2 i x y hx hy)

theorem R.congr {B : Nat} {w₀ : World} {φ : Phi} {g g' : Nat → Option AObj} {w : World} (h : R B w₀ φ g w) (hg : ∀ f e k, φ f e = some k → g' f = g f) : R B w₀ φ g' w :=
  h.sub (fun f e k hk => ⟨hk, hg f e k hk⟩) (fun _ _ _ _ _ _ _ _ _ _ _ _ _ h => h) (fun _ _ _ _ _ _ _ _ _ h => h)

end Go.Ai
