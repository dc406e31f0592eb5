/-
  THE SHORT RUN, 7: operations that turn nothing.
-/
import Derived.Test.YtiabpbememhdeaaDoorAiF
set_option linter.unusedSimpArgs false
set_option linter.unusedVariables false
namespace Go.Ai
open Go

theorem VA.foldl_set {B : Nat} {φ : Phi} (off : Nat) : ∀ (l l' : List Value) (k : Nat) (xs ys : Array Value), VL B φ l l' → VA B φ xs ys →
    VA B φ ((l.zipIdx k).foldl (fun cs (p : Value × Nat) => cs.setIfInBounds (off + p.2) p.1) xs) ((l'.zipIdx k).foldl (fun cs (p : Value × Nat) => cs.setIfInBounds (off + p.2) p.1) ys) := by
  intro l
  induction l with
  | nil =>
    intro l' k xs ys h hv
    obtain rfl : l' = [] := by simpa using h.1.symm
    simpa using hv
  | cons x l ih =>
    intro l' k xs ys h hv
    cases l' with
    | nil => have := h.1; simp at this
    | cons y l' =>
      simp only [List.zipIdx_cons, List.foldl_cons]
      exact ih _ _ _ _ ⟨by simpa using h.1, fun i a b ha hb => h.2 (i + 1) a b (by simpa using ha) (by simpa using hb)⟩ (hv.set (h.2 0 x y rfl rfl))

theorem VA.toList {B : Nat} {φ : Phi} {xs ys : Array Value} (h : VA B φ xs ys) : VL B φ xs.toList ys.toList :=
  ⟨by simpa using h.1, fun i x y hx hy => h.2 i x y (by simpa using hx) (by simpa using hy)⟩

theorem VL.toArray {B : Nat} {φ : Phi} {l l' : List Value} (h : VL B φ l l') : VA B φ l.toArray l'.toArray :=
  ⟨by simpa using h.1, fun i x y hx hy => h.2 i x y (by simpa using hx) (by simpa using hy)⟩

theorem fill_rel {B : Nat} {φ : Phi} (place : Nat → Option (Nat × Nat)) : ∀ (ps ps' : List (Nat × Value)) (xs ys r : Array Value), ps.length = ps'.length →
    (∀ (i : Nat) (p p' : Nat × Value), ps[i]? = some p → ps'[i]? = some p' → p.1 = p'.1 ∧ V B φ p.2 p'.2) → VA B φ xs ys → Instr.fill place xs ps = some r →
    ∃ r', Instr.fill place ys ps' = some r' ∧ VA B φ r r' := by
  intro ps
  induction ps with
  | nil =>
    intro ps' xs ys r hl hp hv h
    obtain rfl : ps' = [] := by simpa using hl.symm
    simp only [Instr.fill, Option.some.injEq] at h ⊢
    subst h
    exact ⟨ys, rfl, hv⟩
  | cons p ps ih =>
    intro ps' xs ys r hl hp hv h
    cases ps' with
    | nil => simp at hl
    | cons p' ps' =>
      obtain ⟨h1, h2⟩ := hp 0 p p' rfl rfl
      obtain ⟨i, v⟩ := p
      obtain ⟨i', v'⟩ := p'
      obtain rfl : i = i' := h1
      simp only [Instr.fill] at h ⊢
      split at h
      · simp at h
      · rename_i off size hpl
        have hcs : VA B φ v.cells v'.cells := h2.cells
        split at h
        · simp at h
        · rename_i hc
          rw [if_neg (by rw [← hcs.1, ← hv.1]; exact hc)]
          refine ih ps' _ _ r (by simpa using hl) (fun j a b ha hb => hp (j + 1) a b (by simpa using ha) (by simpa using hb)) ?_ h
          have := VA.foldl_set off v.cells.toList v'.cells.toList 0 xs ys hcs.toList hv
          rw [← Array.foldl_toList, ← Array.foldl_toList, Array.toList_zipIdx, Array.toList_zipIdx]
          exact this

/-- Operations that turn nothing. -/
def quietOp (E : Env) : Op → Bool
  | .move _ | .assign _ | .pick .. | .build .. | .load .. | .nilCheck _ | .binOp .. | .unOp .. | .makeInterface .. | .makeFunc .. | .slice .. | .fieldAddr .. | .field ..
  | .indexAddr .. | .index .. | .lookup .. | .typeAssert .. | .extract .. => true
  | .convert _ dst _ => !toSlice E dst
  | .call { callee := .builtin b, .. } => match b with
    | .len | .cap | .min | .max => true
    | _ => false
  | _ => false

theorem map_prod {α β : Type} {s s' : β} {x : Option α} {v : α} (h : x.map (·, s) = some (v, s')) : x = some v ∧ s' = s := by
  cases x with
  | none => simp at h
  | some a => simp only [Option.map_some, Option.some.injEq, Prod.mk.injEq] at h; exact ⟨by rw [h.1], h.2.symm⟩

section
variable {E : Env} {B : Nat} {w₀ : World} (hE : E.Ok B w₀) {φ : Phi} {s : St} {w : World}

theorem bound_rel {v v' : Option Value} {d d' n : Nat} (hv : (v = none ∧ v' = none) ∨ ∃ x x', v = some x ∧ v' = some x' ∧ V B φ x x') (h : aBound v d = some n) :
    (v = none ∧ v' = none ∧ n = d) ∨ ∃ k i, v' = some (.int k i) ∧ 0 ≤ i ∧ n = i.toNat := by
  rcases hv with ⟨rfl, rfl⟩ | ⟨x, x', rfl, rfl, hx⟩
  · simp only [aBound, Option.some.injEq] at h; exact .inl ⟨rfl, rfl, h.symm⟩
  · unfold aBound at h
    split at h
    · rename_i hh; simp at hh
    · rename_i k i hh
      cases hh
      unfold asNat at h
      split at h
      · exact .inr ⟨k, i, by rw [hx.int_left], by assumption, by simpa using h.symm⟩
      · simp at h
    · simp at h

theorem run_sliceBound (P : Program) (w : World) (k : IntKind) (i : Int) (y : Nat) (code : BoundsCode) (h : 0 ≤ i ∧ i.toNat ≤ y) : (Instr.sliceBound (.int k i) y code).run P w = .ok i.toNat w := by
  have : 0 ≤ i ∧ i ≤ y := by omega
  simp [Instr.sliceBound, asIntOf, this]

/-- The three bounds, where they fit. -/
theorem run_bounds (P : Program) (w : World) (sl : Bool) (len cap : Nat) (lo hi mx : Option Value) (l h m : Nat)
    (hm : (mx = none ∧ m = cap) ∨ ∃ k i, mx = some (.int k i) ∧ 0 ≤ i ∧ m = i.toNat ∧ hi.isSome = true)
    (hh : (hi = none ∧ h = len) ∨ ∃ k i, hi = some (.int k i) ∧ 0 ≤ i ∧ h = i.toNat)
    (hl : (lo = none ∧ l = 0) ∨ ∃ k i, lo = some (.int k i) ∧ 0 ≤ i ∧ l = i.toNat) (h1 : l ≤ h) (h2 : h ≤ m) (h3 : m ≤ cap) :
    (Instr.sliceBounds sl len cap lo hi mx).run P w = .ok (l, h, m) w := by
  unfold Instr.sliceBounds
  rcases hm with ⟨rfl, rfl⟩ | ⟨km, im, rfl, hm0, rfl, hsome⟩
  · rcases hh with ⟨rfl, rfl⟩ | ⟨kh, ih, rfl, hh0, rfl⟩ <;> rcases hl with ⟨rfl, rfl⟩ | ⟨kl, il, rfl, hl0, rfl⟩ <;>
      simp [run_sliceBound, *]
  · rcases hh with ⟨rfl, rfl⟩ | ⟨kh, ih, rfl, hh0, rfl⟩
    · simp at hsome
    · rcases hl with ⟨rfl, rfl⟩ | ⟨kl, il, rfl, hl0, rfl⟩ <;> simp [run_sliceBound, *]

theorem Addr_add_zero (a : Addr) : a.add 0 = a := rfl

theorem aadd_block (a : Addr) (n : Nat) : (aadd a n).block = a.block ∧ (aadd a n).spot = a.spot ∧ (aadd a n).off = a.off + n := ⟨rfl, rfl, rfl⟩

/-- Moved along alike. -/
theorem V.pointer_add {a c : Addr} (h : V B φ (.pointer (some a)) (.pointer (some c))) (n : Nat) : V B φ (.pointer (some (aadd a n))) (.pointer (some (c.add n))) := by
  cases h with
  | pold _ hb hs =>
    obtain ⟨b, o, sp⟩ := a
    simp only at hs hb
    subst hs
    rw [add_none]
    exact .pold _ hb rfl
  | pnew f off e k hk hb =>
    rw [add_none, show off - k.base + n = off + n - k.base by omega]
    exact .pnew f (off + n) e k hk (by omega)

theorem V.pointer_some {a : Addr} {y : Value} (h : V B φ (.pointer (some a)) y) : ∃ c, y = .pointer (some c) := by cases h <;> exact ⟨_, rfl⟩

/-- Where a slice begins. -/
theorem V.slice_some {a : Addr} {l c : Nat} {y : Value} (h : V B φ (.slice (some a) l c) y) :
    (∃ c', y = .slice (some c') l c ∧ V B φ (.pointer (some a)) (.pointer (some c')) ∧ (a.spot = none ∨ c < unc)) ∨
    (∃ e k c', a.spot = some e ∧ c = unc ∧ φ a.block e = some k ∧ k.base ≤ a.off ∧ 0 < k.esz ∧ (a.off - k.base) / k.esz + l ≤ k.cap ∧ V B φ (.pointer (some a)) (.pointer (some c')) ∧ (a.off - k.base) % k.esz = 0 ∧
      y = .slice (some c') l (k.cap - (a.off - k.base) / k.esz)) ∨
    (∃ e k o, a.spot = some e ∧ c = unc ∧ l = 0 ∧ φ a.block e = some k ∧ k.base ≤ a.off ∧ 0 < k.esz ∧ k.cap ≤ (a.off - k.base) / k.esz ∧ (a.off - k.base) % k.esz = 0 ∧ y = .slice (some ⟨k.b, o, none⟩) 0 0) := by
  cases h with
  | sold _ _ _ hb hs => exact .inl ⟨a, rfl, .pold a hb hs, .inl hs⟩
  | snew f off e l k hk hb hz hl hd => exact .inr (.inl ⟨e, k, _, rfl, rfl, hk, hb, hz, hl, .pnew f off e k hk hb, hd, rfl⟩)
  | sfix f off e l c k hk hb hc => exact .inl ⟨_, rfl, .pnew f off e k hk hb, .inr hc⟩
  | snone f off e o k hk hb hz hl hd => exact .inr (.inr ⟨e, k, o, rfl, rfl, rfl, hk, hb, hz, hl, hd, rfl⟩)

end

end Go.Ai
