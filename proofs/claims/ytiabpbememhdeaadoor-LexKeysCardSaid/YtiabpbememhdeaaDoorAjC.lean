/-
  THE FORKED RUN, 3: memory that is told anew: under new numbers, without what is not looked at any more.
-/
import Derived.Test.YtiabpbememhdeaaDoorAjB
set_option linter.unusedSimpArgs false
set_option linter.unusedVariables false
set_option linter.unusedSectionVars false
namespace Go.Ai
open Go

/-! What a new number was called: an older one, and in which growth's time. -/
abbrev Names := List (Nat × Nat)

mutual
def oldV (τ : Names) : Value → Value
  | .pointer (some ⟨n, off, some _⟩) => match τ[n]? with
    | some (f, e) => .pointer (some ⟨f, off, some e⟩)
    | none => .pointer none
  | .slice (some ⟨n, off, some _⟩) l c => match τ[n]? with
    | some (f, e) => .slice (some ⟨f, off, some e⟩) l c
    | none => .pointer none
  | .map (some n) => match τ[n]? with
    | some (f, _) => .map (some f)
    | none => .pointer none
  | .iface t v => .iface t (oldV τ v)
  | .func fn ⟨a⟩ ⟨b⟩ => .func fn ⟨oldL τ a⟩ ⟨oldL τ b⟩
  | .agg ⟨l⟩ => .agg ⟨oldL τ l⟩
  | .tuple ⟨l⟩ => .tuple ⟨oldL τ l⟩
  | v => v
def oldL (τ : Names) : List Value → List Value
  | [] => []
  | v :: l => oldV τ v :: oldL τ l
end

mutual
def fitsV (τ : Names) : Value → Bool
  | .pointer (some ⟨n, _, some e⟩) => e == 0 && decide (n < τ.length)
  | .slice (some ⟨n, _, some e⟩) _ _ => e == 0 && decide (n < τ.length)
  | .map (some n) => match τ[n]? with
    | some (_, e) => e == 0
    | none => false
  | .iface _ v => fitsV τ v
  | .func _ ⟨a⟩ ⟨b⟩ => fitsL τ a && fitsL τ b
  | .agg ⟨l⟩ => fitsL τ l
  | .tuple ⟨l⟩ => fitsL τ l
  | _ => true
def fitsL (τ : Names) : List Value → Bool
  | [] => true
  | v :: l => fitsV τ v && fitsL τ l
end

theorem oldL_length (τ : Names) : ∀ l, (oldL τ l).length = l.length
  | [] => rfl
  | v :: l => by simp [oldL, oldL_length τ l]

theorem oldL_get (τ : Names) : ∀ (l : List Value) (i : Nat), (oldL τ l)[i]? = (l[i]?).map (oldV τ)
  | [], i => by simp [oldL]
  | v :: l, 0 => by simp [oldL]
  | v :: l, i + 1 => by simpa [oldL] using oldL_get τ l i

theorem fitsL_mem {τ : Names} : ∀ {l : List Value}, fitsL τ l = true → ∀ (i : Nat) (x : Value), l[i]? = some x → fitsV τ x = true
  | [], _, i, x, hx => by simp at hx
  | v :: l, h, 0, x, hx => by simp [fitsL] at h hx; rw [← hx]; exact h.1
  | v :: l, h, i + 1, x, hx => by simp [fitsL] at h hx; exact fitsL_mem h.2 i x hx

mutual
theorem oldV_flat (τ : Names) : ∀ v, flat v = true → oldV τ v = v ∧ fitsV τ v = true
  | .bool _, _ => ⟨rfl, rfl⟩
  | .int _ _, _ => ⟨rfl, rfl⟩
  | .float _ _, _ => ⟨rfl, rfl⟩
  | .complex _ _ _, _ => ⟨rfl, rfl⟩
  | .string _, _ => ⟨rfl, rfl⟩
  | .pointer none, _ => ⟨rfl, rfl⟩
  | .slice none _ _, _ => ⟨rfl, rfl⟩
  | .map none, _ => ⟨rfl, rfl⟩
  | .chan none, _ => ⟨rfl, rfl⟩
  | .nilFunc, _ => ⟨rfl, rfl⟩
  | .nilIface, _ => ⟨rfl, rfl⟩
  | .pointer (some _), h => by simp [flat] at h
  | .slice (some _) _ _, h => by simp [flat] at h
  | .map (some _), h => by simp [flat] at h
  | .chan (some _), h => by simp [flat] at h
  | .iface t v, h => by
      simp only [flat] at h
      obtain ⟨h1, h2⟩ := oldV_flat τ v h
      exact ⟨by simp only [oldV, h1], by simp only [fitsV, h2]⟩
  | .func fn ⟨a⟩ ⟨b⟩, h => by
      simp only [flat, flatA, Bool.and_eq_true] at h
      obtain ⟨h1, h2⟩ := oldL_flat τ a h.1
      obtain ⟨h3, h4⟩ := oldL_flat τ b h.2
      exact ⟨by simp only [oldV, h1, h3], by simp only [fitsV, h2, h4]; rfl⟩
  | .agg ⟨l⟩, h => by
      simp only [flat, flatA] at h
      obtain ⟨h1, h2⟩ := oldL_flat τ l h
      exact ⟨by simp only [oldV, h1], by simp only [fitsV, h2]⟩
  | .tuple ⟨l⟩, h => by
      simp only [flat, flatA] at h
      obtain ⟨h1, h2⟩ := oldL_flat τ l h
      exact ⟨by simp only [oldV, h1], by simp only [fitsV, h2]⟩
theorem oldL_flat (τ : Names) : ∀ l, flatL l = true → oldL τ l = l ∧ fitsL τ l = true
  | [], _ => ⟨rfl, rfl⟩
  | v :: l, h => by
      simp only [flatL, Bool.and_eq_true] at h
      obtain ⟨h1, h2⟩ := oldV_flat τ v h.1
      obtain ⟨h3, h4⟩ := oldL_flat τ l h.2
      exact ⟨by simp only [oldL, h1, h3], by simp only [fitsL, h2, h4]; rfl⟩
end

def renφ (τ : Names) (φ : Phi) : Phi := fun n e => if e = 0 then (match τ[n]? with | some (f, e₀) => φ f e₀ | none => none) else none

theorem renφ_some {τ : Names} {φ : Phi} {n e : Nat} {k : Blk} (h : renφ τ φ n e = some k) : e = 0 ∧ ∃ f e₀, τ[n]? = some (f, e₀) ∧ φ f e₀ = some k := by
  unfold renφ at h
  split at h
  · rename_i he
    split at h
    · rename_i f e₀ hf; exact ⟨he, f, e₀, hf, h⟩
    · simp at h
  · simp at h

theorem renφ_of {τ : Names} {φ : Phi} {n f e₀ : Nat} {k : Blk} (h : τ[n]? = some (f, e₀)) (hk : φ f e₀ = some k) : renφ τ φ n 0 = some k := by
  unfold renφ
  rw [if_pos rfl, h]
  exact hk

section
variable {B : Nat} {φ : Phi} {τ : Names}

theorem arr_split {xs ys : Array Value} {τ : Names} {l : List Value} (hl : xs = ⟨oldL τ l⟩) (hs : xs.size = ys.size) : l.length = ys.size := by
  rw [← hs, hl]; simp [oldL_length]

mutual
theorem V.ren : ∀ (v : Value) (y : Value), fitsV τ v = true → V B φ (oldV τ v) y → V B (renφ τ φ) v y
  | .bool _, y, _, h => by cases h; exact .bool _
  | .int _ _, y, _, h => by cases h; exact .int _ _
  | .float _ _, y, _, h => by cases h; exact .float _ _
  | .complex _ _ _, y, _, h => by cases h; exact .complex _ _ _
  | .string _, y, _, h => by cases h; exact .string _
  | .nilFunc, y, _, h => by cases h; exact .nilFunc
  | .nilIface, y, _, h => by cases h; exact .nilIface
  | .pointer none, y, _, h => by cases h; exact .pnil
  | .slice none _ _, y, _, h => by cases h; exact .snil _ _
  | .map none, y, _, h => by cases h; exact .mnil
  | .chan none, y, _, h => by cases h; exact .cnil
  | .chan (some _), y, _, h => by cases h
  | .pointer (some ⟨n, off, none⟩), y, _, h => by
      cases h with
      | pold _ h1 h2 => exact .pold _ h1 h2
  | .pointer (some ⟨n, off, some e⟩), y, hf, h => by
      simp only [fitsV, Bool.and_eq_true, beq_iff_eq, decide_eq_true_eq] at hf
      obtain ⟨rfl, hn⟩ := hf
      have hτ : τ[n]? = some (τ[n].1, τ[n].2) := List.getElem?_eq_getElem hn
      simp only [oldV, hτ] at h
      cases h with
      | pold _ h1 h2 => simp at h2
      | pnew _ _ _ k hk hb => exact .pnew _ _ _ k (renφ_of hτ hk) hb
  | .slice (some ⟨n, off, none⟩) l c, y, _, h => by
      cases h with
      | sold _ _ _ h1 h2 => exact .sold _ _ _ h1 h2
  | .slice (some ⟨n, off, some e⟩) l c, y, hf, h => by
      simp only [fitsV, Bool.and_eq_true, beq_iff_eq, decide_eq_true_eq] at hf
      obtain ⟨rfl, hn⟩ := hf
      have hτ : τ[n]? = some (τ[n].1, τ[n].2) := List.getElem?_eq_getElem hn
      simp only [oldV, hτ] at h
      cases h with
      | sold _ _ _ h1 h2 => simp at h2
      | snew _ _ _ _ k hk h2 h3 h4 h5 => exact .snew _ _ _ _ k (renφ_of hτ hk) h2 h3 h4 h5
      | sfix _ _ _ _ _ k hk h2 h3 => exact .sfix _ _ _ _ _ k (renφ_of hτ hk) h2 h3
      | snone _ _ _ o k hk h2 h3 h4 h5 => exact .snone _ _ _ o k (renφ_of hτ hk) h2 h3 h4 h5
  | .map (some n), y, hf, h => by
      simp only [fitsV] at hf
      split at hf
      next f e hτ =>
        simp only [beq_iff_eq] at hf
        subst hf
        simp only [oldV, hτ] at h
        cases h with
        | mnew _ k hk => exact .mnew _ k (renφ_of hτ hk)
      next => simp at hf
  | .iface t v, y, hf, h => by
      simp only [oldV] at h
      simp only [fitsV] at hf
      cases h with
      | iface _ h' => exact .iface t (V.ren v _ hf h')
  | .func fn ⟨a⟩ ⟨b⟩, y, hf, h => by
      simp only [oldV] at h
      simp only [fitsV, Bool.and_eq_true] at hf
      cases h with
      | func _ h1 h2 h3 h4 =>
        refine .func fn (by simpa [oldL_length] using h1) (fun i x y hx hy => ?_) (by simpa [oldL_length] using h3) (fun i x y hx hy => ?_)
        · exact V.renL a hf.1 i x y (by simpa using hx) fun x' hx' => h2 i x' y (by simpa using hx') hy
        · exact V.renL b hf.2 i x y (by simpa using hx) fun x' hx' => h4 i x' y (by simpa using hx') hy
  | .agg ⟨l⟩, y, hf, h => by
      simp only [oldV] at h
      simp only [fitsV] at hf
      cases h with
      | agg h1 h2 =>
        refine .agg (by simpa [oldL_length] using h1) (fun i x y hx hy => ?_)
        exact V.renL l hf i x y (by simpa using hx) fun x' hx' => h2 i x' y (by simpa using hx') hy
  | .tuple ⟨l⟩, y, hf, h => by
      simp only [oldV] at h
      simp only [fitsV] at hf
      cases h with
      | tuple h1 h2 =>
        refine .tuple (by simpa [oldL_length] using h1) (fun i x y hx hy => ?_)
        exact V.renL l hf i x y (by simpa using hx) fun x' hx' => h2 i x' y (by simpa using hx') hy
theorem V.renL : ∀ (l : List Value), fitsL τ l = true → ∀ (i : Nat) (x y : Value), l[i]? = some x → (∀ x', (oldL τ l)[i]? = some x' → V B φ x' y) → V B (renφ τ φ) x y
  | [], _, i, x, y, hx, _ => by simp at hx
  | v :: l, hf, 0, x, y, hx, h => by
      simp only [List.getElem?_cons_zero, Option.some.injEq] at hx
      subst hx
      simp only [fitsL, Bool.and_eq_true] at hf
      exact V.ren v y hf.1 (h _ (by simp [oldL]))
  | v :: l, hf, i + 1, x, y, hx, h => by
      simp only [List.getElem?_cons_succ] at hx
      simp only [fitsL, Bool.and_eq_true] at hf
      exact V.renL l hf.2 i x y hx fun x' hx' => h x' (by simpa [oldL] using hx')
end
end

/-- One object, told anew. -/
def ObjRen (τ : Names) (e : Nat) (src : Option AObj) (o : AObj) : Prop :=
  match o with
  | .row cells esz ep lw hist => ep = 0 ∧ lw = 0 ∧ hist = [] ∧ fitsL τ cells = true ∧ ∃ lw₀ hist₀, src = some (.row (oldL τ cells) esz e lw₀ hist₀) ∧ lw₀ ≤ e
  | .map es => e = 0 ∧ (es.all fun x => fitsV τ x.2) = true ∧ src = some (.map (es.map fun x => (x.1, oldV τ x.2)))
  | .iter s p => e = 0 ∧ src = some (.iter s p)

theorem R.ren {B : Nat} {w₀ : World} {φ : Phi} {g g' : Nat → Option AObj} {w : World} {τ : Names} (h : R B w₀ φ g w) (hobj : ∀ (n f e : Nat), τ[n]? = some (f, e) → ∃ o, g' n = some o ∧ ObjRen τ e (g f) o)
    (hinj : ∀ (n n' f e e' : Nat), τ[n]? = some (f, e) → τ[n']? = some (f, e') → n = n') : R B w₀ (renφ τ φ) g' w where
  dom n e k hk := by
    obtain ⟨rfl, f, e₀, h1, h2⟩ := renφ_some hk
    obtain ⟨o, h3, _⟩ := hobj _ _ _ h1
    simp [h3]
  lo n e k hk := by
    obtain ⟨rfl, f, e₀, h1, h2⟩ := renφ_some hk
    exact h.lo _ _ _ h2
  inj n e k n' e' k' hk hk' hb := by
    obtain ⟨rfl, f, e₀, h1, h2⟩ := renφ_some hk
    obtain ⟨rfl, f', e₀', h1', h2'⟩ := renφ_some hk'
    obtain ⟨rfl, h3⟩ := h.inj _ _ _ _ _ _ h2 h2' hb
    exact ⟨hinj _ _ _ _ _ h1 h1', h3⟩
  row n e k cells esz ep lw hist hg hk := by
    obtain ⟨rfl, f, e₀, h1, h2⟩ := renφ_some hk
    obtain ⟨o, h3, h4⟩ := hobj _ _ _ h1
    rw [hg] at h3
    cases h3
    simp only [ObjRen] at h4
    obtain ⟨rfl, rfl, rfl, h5, lw₀, hist₀, h6, h7⟩ := h4
    refine ⟨Nat.le_refl _, by simp [ext], fun _ => ?_⟩
    obtain ⟨_, _, h8⟩ := h.row _ _ _ _ _ _ _ _ h6 h2
    obtain ⟨a1, a2, c, t, fr, a3, a4, a5, a6, a7⟩ := h8 h7
    have e1 : ext (oldL τ cells) e₀ hist₀ e₀ = cells.length := by simp [ext, oldL_length]
    have e2 : ext cells 0 [] 0 = cells.length := by simp [ext]
    rw [e1] at a5 a7
    rw [e2]
    refine ⟨a1, a2, c, t, fr, a3, a4, a5, a6, fun o x ho ho' hx => ?_⟩
    obtain ⟨v, hv1, hv2⟩ := a7 o (oldV τ x) ho ho' (by rw [oldL_get, hx]; rfl)
    exact ⟨v, hv1, V.ren x v (fitsL_mem h5 _ _ hx) hv2⟩
  map n e k es hg hk := by
    obtain ⟨rfl, f, e₀, h1, h2⟩ := renφ_some hk
    obtain ⟨o, h3, h4⟩ := hobj _ _ _ h1
    rw [hg] at h3
    cases h3
    simp only [ObjRen] at h4
    obtain ⟨rfl, h5, h6⟩ := h4
    obtain ⟨ces, clock, a1, a2, a3⟩ := h.map _ _ _ _ h6 h2
    refine ⟨ces, clock, a1, by simpa using a2, fun i x hx => ?_⟩
    obtain ⟨en, b1, b2, b3, b4⟩ := a3 i (x.1, oldV τ x.2) (by rw [List.getElem?_map, hx]; rfl)
    rw [List.all_eq_true] at h5
    exact ⟨en, b1, b2, b3, V.ren x.2 _ (h5 x (List.mem_of_getElem? hx)) b4⟩
  iter n e k s p hg hk := by
    obtain ⟨rfl, f, e₀, h1, h2⟩ := renφ_some hk
    obtain ⟨o, h3, h4⟩ := hobj _ _ _ h1
    rw [hg] at h3
    cases h3
    simp only [ObjRen] at h4
    obtain ⟨rfl, h6⟩ := h4
    exact h.iter _ _ _ _ _ h6 h2
  old := h.old
  size := h.size
  one n e k hk _ := (renφ_some hk).1

/-! Memory of a list of objects. -/
def memOf (l : List AObj) : St := l.foldl St.push .empty

theorem memOf_fold : ∀ (l : List AObj) (s : St), (l.foldl St.push s).next = s.next + l.length ∧ ∀ n, (l.foldl St.push s).get n = if n < s.next then s.get n else if n < s.next + l.length then l[n - s.next]? else s.get n := by
  intro l
  induction l with
  | nil =>
    intro s
    refine ⟨rfl, fun n => ?_⟩
    simp only [List.foldl_nil, List.length_nil, Nat.add_zero]
    split
    · rfl
    · rfl
  | cons o l ih =>
    intro s
    obtain ⟨h1, h2⟩ := ih (s.push o)
    simp only [List.foldl_cons]
    refine ⟨by rw [h1, St.next_push]; simp; omega, fun n => ?_⟩
    rw [h2, St.next_push, St.get_push]
    by_cases hn : n < s.next
    · rw [if_pos (by omega), if_pos hn, if_neg (by omega)]
    · rw [if_neg hn]
      by_cases hn2 : n = s.next
      · subst hn2
        rw [if_pos (by omega), if_pos rfl, if_pos (by simp)]
        simp
      · rw [if_neg (by omega), if_neg hn2]
        simp only [List.length_cons]
        by_cases hn3 : n < s.next + (l.length + 1)
        · rw [if_pos (by omega), if_pos hn3, show n - s.next = (n - (s.next + 1)) + 1 by omega]
          simp
        · rw [if_neg (by omega), if_neg hn3]

theorem empty_get (n : Nat) : St.empty.get n = none := by
  show Tr.get .nil n = none
  rfl

theorem memOf_get (l : List AObj) (n : Nat) : (memOf l).get n = l[n]? := by
  unfold memOf
  rw [(memOf_fold l .empty).2]
  have h0 : St.empty.next = 0 := rfl
  rw [h0, if_neg (by omega)]
  simp only [Nat.zero_add, Nat.sub_zero]
  split
  · rfl
  · rw [empty_get, List.getElem?_eq_none (by omega)]

theorem memOf_next (l : List AObj) : (memOf l).next = l.length := by
  unfold memOf
  rw [(memOf_fold l .empty).1]
  simp [St.empty]

theorem memOf_fresh (l : List AObj) : (memOf l).Fresh := by
  intro f hf
  rw [memOf_get]
  rw [memOf_next] at hf
  exact List.getElem?_eq_none hf

/-- A list of objects tells memory anew. -/
def AllRen (τ : Names) (s : St) : Names → List AObj → Prop
  | [], [] => True
  | (f, e) :: t, o :: l => ObjRen τ e (s.get f) o ∧ AllRen τ s t l
  | _, _ => False

theorem AllRen.get {τ : Names} {s : St} : ∀ {t : Names} {l : List AObj}, AllRen τ s t l → t.length = l.length ∧ ∀ (n f e : Nat), t[n]? = some (f, e) → ∃ o, l[n]? = some o ∧ ObjRen τ e (s.get f) o
  | [], [], _ => ⟨rfl, fun n f e h => by simp at h⟩
  | (f, e) :: t, o :: l, h => by
      obtain ⟨h1, h2⟩ := h
      obtain ⟨h3, h4⟩ := AllRen.get h2
      refine ⟨by simp [h3], fun n f' e' hn => ?_⟩
      cases n with
      | zero =>
        simp only [List.getElem?_cons_zero, Option.some.injEq, Prod.mk.injEq] at hn
        obtain ⟨rfl, rfl⟩ := hn
        exact ⟨o, by simp, h1⟩
      | succ n =>
        simp only [List.getElem?_cons_succ] at hn ⊢
        exact h4 n f' e' hn
  | [], _ :: _, h => h.elim
  | _ :: _, [], h => h.elim

/-! What is known of a frame's temporaries: those that are looked at, and that the others are bools or junk. -/
def dull : Value → Bool
  | .bool _ => true
  | v => isJunk v

def fade : Value → Value
  | .bool b => .bool b
  | _ => junk

theorem dull_fade (v : Value) : dull (fade v) = true := by cases v <;> rfl

theorem tmpsOf_length (n : Nat) (live : List (Nat × Value)) (rest : Nat → Value) : (tmpsOf n live rest).length = n := by simp [tmpsOf]

theorem tmpsOf_get (n : Nat) (live : List (Nat × Value)) (rest : Nat → Value) (i : Nat) (x : Value) (h : (tmpsOf n live rest)[i]? = some x) : i < n ∧ ((live.lookup i = some x) ∨ (live.lookup i = none ∧ x = rest i)) := by
  unfold tmpsOf at h
  rw [List.getElem?_map] at h
  cases hr : (List.range n)[i]? with
  | none => simp [hr] at h
  | some j =>
    have hj := List.getElem?_eq_some_iff.1 hr
    obtain ⟨hj1, hj2⟩ := hj
    simp at hj1 hj2
    subst hj2
    simp only [hr, Option.map_some, Option.some.injEq] at h
    refine ⟨hj1, ?_⟩
    cases hl : live.lookup i with
    | none => rw [hl] at h; exact .inr ⟨rfl, h.symm⟩
    | some v => rw [hl] at h; simp only at h; exact .inl (by rw [h])

/-- Where a frame and memory stand, as far as is told: 'live': temporaries; 'l': memory. -/
def Near (B : Nat) (w₀ : World) (n : Nat) (live : List (Nat × Value)) (l : List AObj) (ca : Act) (w : World) : Prop :=
  w.os = w₀.os ∧ w.tape = w₀.tape ∧ w.output = w₀.output ∧
    ∃ rest, (∀ i, dull (rest i) = true) ∧ ∃ φ, R B w₀ φ (memOf l).get w ∧ VAct B φ { tmps := tmpsOf n live rest, defers := [] } ca

theorem oldV_junk (τ : Names) (x : Value) (h : isJunk (oldV τ x) = true) : isJunk x = true := by
  cases x with
  | pointer p =>
    rcases p with _ | ⟨b, o, _ | e⟩
    · exact h
    · exact h
    · simp only [oldV] at h
      cases hτ : τ[b]? with
      | none => rw [hτ] at h; simp [isJunk] at h
      | some q => obtain ⟨f, e'⟩ := q; rw [hτ] at h; simp [isJunk] at h
  | slice p l c =>
    rcases p with _ | ⟨b, o, _ | e⟩
    · exact h
    · exact h
    · simp only [oldV] at h
      cases hτ : τ[b]? with
      | none => rw [hτ] at h; simp [isJunk] at h
      | some q => obtain ⟨f, e'⟩ := q; rw [hτ] at h; simp [isJunk] at h
  | map p =>
    rcases p with _ | b
    · exact h
    · simp only [oldV] at h
      cases hτ : τ[b]? with
      | none => rw [hτ] at h; simp [isJunk] at h
      | some q => obtain ⟨f, e'⟩ := q; rw [hτ] at h; simp [isJunk] at h
  | iface t v => simp [oldV, isJunk] at h
  | func fn a b => obtain ⟨a⟩ := a; obtain ⟨b⟩ := b; simp [oldV, isJunk] at h
  | agg l => obtain ⟨l⟩ := l; simp [oldV, isJunk] at h
  | tuple l => obtain ⟨l⟩ := l; simp [oldV, isJunk] at h
  | chan r => cases r <;> exact h
  | _ => simp [oldV, isJunk] at h

/-- Told anew. -/
theorem VAct.ren {B : Nat} {φ : Phi} {τ : Names} {a : AAct} {ca : Act} (h : VAct B φ a ca) (hd : a.defers = []) {n : Nat} (hn : a.tmps.length = n) {live : List (Nat × Value)}
    (hlive : ∀ x ∈ live, x.1 < n → a.tmps[x.1]? = some (oldV τ x.2) ∧ fitsV τ x.2 = true) : ∃ rest, (∀ i, dull (rest i) = true) ∧ VAct B (renφ τ φ) { tmps := tmpsOf n live rest, defers := [] } ca := by
  refine ⟨fun i => fade (a.tmps.getD i undef), fun i => dull_fade _, ⟨by rw [tmpsOf_length, ← hn]; exact h.size, fun i x y hx hy => ?_, ?_⟩⟩
  · obtain ⟨hi, h1 | ⟨_, h1⟩⟩ := tmpsOf_get _ _ _ _ _ hx
    · have hmem : (i, x) ∈ live := by
        clear hx hlive
        induction live with
        | nil => simp at h1
        | cons z live ih =>
          obtain ⟨j, v⟩ := z
          simp only [List.lookup_cons] at h1
          split at h1
          next hij =>
            simp only [beq_iff_eq] at hij
            cases h1
            rw [hij]
            simp
          next => exact List.mem_cons_of_mem _ (ih h1)
      obtain ⟨h2, h3⟩ := hlive _ hmem hi
      rcases h.tmp i _ y h2 hy with h4 | ⟨h4, h5⟩
      · exact .inl (V.ren x y h3 h4)
      · exact .inr ⟨oldV_junk τ x h4, h5⟩
    · subst h1
      have hlt : i < a.tmps.length := by omega
      have hget : a.tmps[i]? = some (a.tmps.getD i undef) := by rw [List.getElem?_eq_getElem hlt, List.getD_eq_getElem?_getD, List.getElem?_eq_getElem hlt]; rfl
      have h2 := h.tmp i _ y hget hy
      generalize a.tmps.getD i undef = z at h2
      rcases h2 with h2 | ⟨h2, h3⟩
      · cases h2 <;> first | exact .inl (.bool _) | exact .inr ⟨rfl, by simp⟩
      · cases z <;> simp only [isJunk, Bool.false_eq_true] at h2
        exact .inr ⟨rfl, h3⟩
  · have := h.defers
    rw [hd] at this
    rw [this.nil_left]
    exact .nil

theorem Near.ren {B : Nat} {w₀ : World} {n : Nat} {ca : Act} {w : World} {a : AAct} {s : St} {φ : Phi} (hos : w.os = w₀.os) (ht : w.tape = w₀.tape) (ho : w.output = w₀.output) (hR : R B w₀ φ s.get w) (hA : VAct B φ a ca) (hd : a.defers = [])
    (hn : a.tmps.length = n) (τ : Names) (live : List (Nat × Value)) (l : List AObj) (hl : AllRen τ s τ l) (hinj : (τ.map (·.1)).Nodup) (hlive : ∀ x ∈ live, x.1 < n → a.tmps[x.1]? = some (oldV τ x.2) ∧ fitsV τ x.2 = true) :
    Near B w₀ n live l ca w := by
  obtain ⟨rest, h1, h2⟩ := hA.ren hd hn hlive
  refine ⟨hos, ht, ho, rest, h1, _, hR.ren (τ := τ) (fun m f e hm => ?_) (fun m m' f e e' hm hm' => ?_), h2⟩
  · obtain ⟨o, h3, h4⟩ := hl.get.2 m f e hm
    exact ⟨o, by rw [memOf_get]; exact h3, h4⟩
  · obtain ⟨l1, l2⟩ := List.getElem?_eq_some_iff.1 hm
    obtain ⟨l3, l4⟩ := List.getElem?_eq_some_iff.1 hm'
    have g1 : (τ.map (·.1))[m]'(by simpa using l1) = (τ.map (·.1))[m']'(by simpa using l3) := by simp [l2, l4]
    exact (List.getElem_inj hinj).1 g1

section
variable {E : Env} {B : Nat} {w₀ : World} (hE : E.Fine B w₀)
include hE

/-- A piece of code, from what is told of a frame and memory to what is told behind it. -/
theorem Near.code {N m n : Nat} {c : Code} (hc : codeOk E.P c = true) {live : List (Nat × Value)} {l : List AObj} {ca : Act} {w : World} {Q : Exit → Act → World → Prop} (h : Near B w₀ n live l ca w)
    (hgo : ∀ rest, (∀ i, dull (rest i) = true) → ∃ x a' s', evalCode E (callN E N m) N c { tmps := tmpsOf n live rest, defers := [] } (memOf l) = some (x, a', s') ∧ (∀ v, x ≠ .panic v) ∧
      ∀ ca' w' e φ, w'.os = w₀.os → w'.tape = w₀.tape → w'.output = w₀.output → R B w₀ φ s'.get w' → VAct B φ a' ca' → XRel B φ x e → Q e ca' w') :
    c.wp E.P Q ca w := by
  obtain ⟨h1, h2, h3, rest, h4, φ, h5, h6⟩ := h
  obtain ⟨x, a', s', g1, g2, g3⟩ := hgo rest h4
  refine evalCode_sim hE (callN_sim hE N m) (draw_sim hE (callN_sim hE N m)) N c hc _ _ x a' s' φ ca w Q g1 h5 (memOf_fresh l) h6 ?_
  intro φ' w' ca' e k1 k2 k3 k4 k5 k6
  refine g3 ca' w' e φ' (k1.os.trans h1) (k1.tape.trans h2) (k1.output.trans h3) k2 ?_ k5
  rcases k6 with k6 | ⟨⟨v, k6⟩, _⟩
  · exact k6
  · exact absurd k6 (g2 v)
end

end Go.Ai
