/-
  THE FORKED RUN, 4: a program's own environment; a function from its first to its last step, its loops told by what stays.
-/
import Derived.Test.YtiabpbememhdeaaDoorAjC
set_option linter.unusedSimpArgs false
set_option linter.unusedVariables false
set_option linter.unusedSectionVars false
namespace Go.Ai
open Go RowKit

/-- What a program says of itself. -/
def envOf (P : Program) (old : Addr → Option Value) (known : FuncId → Option (List Value → Option (Bool × Value))) : Env where
  P := P
  desc := P.underlying
  size t := (P.info? t).map (·.size)
  bytes t := (P.info? t).map (·.bytes)
  zero t := match (P.info? t).bind (·.zero) with
    | some z => if flat z then some z else none
    | none => none
  func f := P.funcs[f]?
  old := old
  known := known
  methods _ _ := none

/-- Every function is of a form that the short run knows. -/
def funcsOk (P : Program) : Bool := P.funcs.toList.all fun fn => !(fn.name == "runtime.NumGoroutine") && (match fn.body with | some c => codeOk P c | none => true)

theorem envOf_fine {P : Program} {old : Addr → Option Value} {known : FuncId → Option (List Value → Option (Bool × Value))} {B : Nat} {w₀ : World} (hf : funcsOk P = true) (hm : P.follows .mixedOrders = true) (hg : P.globals.size ≤ B)
    (ho : OldOk B w₀ old)
    (hk : ∀ g F args v, known g = some F → F args = some (true, v) → flatL args = true ∧ flat v = true ∧ ∀ w, (∀ b, b < B → w.heap[b]? = w₀.heap[b]?) → B ≤ w.heap.size → KnownOk P g args v w) : (envOf P old known).Fine B w₀ where
  desc t d h := h
  size t n h := by simpa [envOf] using h
  bytes t n h := by simpa [envOf] using h
  zero t z h := by
    simp only [envOf] at h
    split at h
    next z' hz =>
      split at h
      next hfl =>
        cases h
        cases hi : P.info? t with
        | none => simp [hi] at hz
        | some i => exact ⟨hfl, i, hi, by simpa [hi] using hz⟩
      next => simp at h
    next => simp at h
  old := ho
  func g fn h := by
    have hmem : fn ∈ P.funcs.toList := by
      have := Array.mem_of_getElem? (show P.funcs[g]? = some fn from h)
      simpa using this
    unfold funcsOk at hf
    rw [List.all_eq_true] at hf
    have := hf fn hmem
    simp only [Bool.and_eq_true, Bool.not_eq_true'] at this
    refine ⟨h, this.1, fun c hc => ?_⟩
    have h2 := this.2
    rw [hc] at h2
    exact h2
  known := hk
  globals := hg
  mixed := hm

/-! A sequence's first pieces, and the others. -/
def preSeq : Nat → Code → Code
  | 0, _ => .skip
  | k + 1, .seq a b => .seq a (preSeq k b)
  | _, _ => .ret

def postSeq : Nat → Code → Code
  | 0, c => c
  | k + 1, .seq a b => postSeq k b
  | _, _ => .skip

theorem codeOk_pre {P : Program} : ∀ (k : Nat) (c : Code), codeOk P c = true → codeOk P (preSeq k c) = true ∧ codeOk P (postSeq k c) = true := by
  intro k
  induction k with
  | zero => intro c h; exact ⟨rfl, h⟩
  | succ k ih =>
    intro c h
    cases c with
    | seq a b =>
      simp only [codeOk, Bool.and_eq_true] at h
      obtain ⟨h1, h2⟩ := ih b h.2
      exact ⟨by simp only [preSeq, codeOk, h.1, h1]; rfl, h2⟩
    | _ => exact ⟨rfl, rfl⟩

/-- What the short run came to, told anew. -/
def Tells (x : X) (a' : AAct) (s' : St) (n' : Nat) (live' : List (Nat × Value)) (l' : List AObj) : Prop :=
  x = .normal ∧ a'.defers = [] ∧ a'.tmps.length = n' ∧ ∃ τ : Names, AllRen τ s' τ l' ∧ (τ.map (·.1)).Nodup ∧ ∀ y ∈ live', y.1 < n' → a'.tmps[y.1]? = some (oldV τ y.2) ∧ fitsV τ y.2 = true

/-- A loop, with what is left of it. -/
theorem wp_loop_down {P : Program} {Q : Exit → Act → World → Prop} {c : Code} (J : Nat → Act → World → Prop)
    (h : ∀ r ca w, J r ca w → c.wp P (Exit.then (fun ca' w' => ∃ r', r' < r ∧ J r' ca' w') Q) ca w) {r : Nat} {ca : Act} {w : World} (hJ : J r ca w) : (Code.loop c).wp P Q ca w := by
  refine wp_loop (fun ca w => ∃ r, J r ca w) (fun ca w => leastOf fun r => J r ca w) ⟨r, hJ⟩ ?_
  intro ca w hI
  have hspec := (leastOf_spec hI).1
  refine wp_mono (h _ ca w hspec) ?_
  intro e ca' w' he
  cases e with
  | normal =>
    obtain ⟨r', h1, h2⟩ := he
    exact ⟨⟨r', h2⟩, Nat.lt_of_le_of_lt ((leastOf_spec ⟨r', h2⟩).2 r' h2) h1⟩
  | _ => exact he

/-- At a function's entry. -/
theorem Near.enter {B : Nat} {w : World} (hB : B ≤ w.heap.size) {n : Nat} {args : List Value} {cargs : Array Value} (hv : VL B (fun _ _ => none) args cargs.toList) (hn : args.length ≤ n) :
    Near B w n ((List.range args.length).zip args) [] { tmps := cargs ++ Array.replicate (n - cargs.size) undef, defers := [] } w := by
  have hlen : args.length = cargs.size := by simpa using hv.1
  refine ⟨rfl, rfl, rfl, fun _ => junk, fun _ => rfl, fun _ _ => none, ⟨?_, ?_, ?_, ?_, ?_, ?_, fun _ _ => rfl, hB, ?_⟩, ⟨?_, fun i x y hx hy => ?_, .nil⟩⟩
  · intro _ _ _ h; simp at h
  · intro _ _ _ h; simp at h
  · intro _ _ _ _ _ _ h; simp at h
  · intro _ _ _ _ _ _ _ _ _ h; simp at h
  · intro _ _ _ _ _ h; simp at h
  · intro _ _ _ _ _ _ h; simp at h
  · intro _ _ _ h; simp at h
  · simp only [tmpsOf_length, Array.size_append, Array.size_replicate]; omega
  · obtain ⟨hi, h1 | ⟨h0, h1⟩⟩ := tmpsOf_get _ _ _ _ _ hx
    · left
      have hmem : args[i]? = some x := by
        have key : ∀ (l : List Value) (k : Nat), ((List.range' k l.length).zip l).lookup i = some x → k ≤ i ∧ l[i - k]? = some x := by
          intro l
          induction l with
          | nil => intro k h; simp at h
          | cons v l ih =>
            intro k h
            simp only [List.length_cons, List.range'_succ, List.zip_cons_cons, List.lookup_cons] at h
            split at h
            next hik =>
              simp only [beq_iff_eq] at hik
              subst hik
              exact ⟨Nat.le_refl _, by simpa using h⟩
            next hik =>
              obtain ⟨h2, h3⟩ := ih _ h
              refine ⟨by omega, ?_⟩
              rw [show i - k = (i - (k + 1)) + 1 by omega]
              simpa using h3
        have := key args 0 (by rw [← List.range_eq_range']; exact h1)
        simpa using this.2
      have hlt := (List.getElem?_eq_some_iff.1 hmem).1
      simp only at hy
      rw [Array.getElem?_append_left (by omega)] at hy
      exact hv.2 i x y hmem (by simpa using hy)
    · right
      subst h1
      refine ⟨rfl, fun b hb => ?_⟩
      have hge : args.length ≤ i := by
        rcases Nat.lt_or_ge i args.length with hlt | hge
        · exfalso
          have key : ∀ (l : List Value) (k : Nat), k ≤ i → i - k < l.length → ((List.range' k l.length).zip l).lookup i ≠ none := by
            intro l
            induction l with
            | nil => intro k _ h; simp at h
            | cons v l ih =>
              intro k hk h
              simp only [List.length_cons, List.range'_succ, List.zip_cons_cons, List.lookup_cons]
              split
              next => simp
              next hik =>
                have : i ≠ k := by simpa using hik
                exact ih (k + 1) (by omega) (by simp at h; omega)
          exact key args 0 (Nat.zero_le _) (by simpa using hlt) (by rw [← List.range_eq_range']; exact h0)
        · exact hge
      simp only at hy
      rw [Array.getElem?_append_right (by omega), Array.getElem?_replicate] at hy
      split at hy
      · cases hy; simp [undef] at hb
      · simp at hy

section
variable {E : Env} {B : Nat} {w₀ : World} (hE : E.Fine B w₀) {call : Caller} (hcall : CallOk E B w₀ call)
include hE

include hcall in
/-- The first pieces by the short run, the others otherwise. -/
theorem prefix_wp (N : Nat) : ∀ (k : Nat) (c : Code), codeOk E.P c = true → ∀ (a : AAct) (s : St) (a' : AAct) (s' : St) (φ : Phi) (ca : Act) (w : World) (Q : Exit → Act → World → Prop),
    evalCode E call N (preSeq k c) a s = some (.normal, a', s') → R B w₀ φ s.get w → s.Fresh → VAct B φ a ca →
    (∀ φ' w' ca', Step s.next φ w φ' w' → R B w₀ φ' s'.get w' → s'.Fresh → s.next ≤ s'.next → VAct B φ' a' ca' → (postSeq k c).wp E.P Q ca' w') → c.wp E.P Q ca w := by
  intro k
  induction k with
  | zero =>
    intro c hc a s a' s' φ ca w Q h hR hF hA hgo
    simp only [preSeq, evalCode, Option.some.injEq, Prod.mk.injEq] at h
    obtain ⟨_, rfl, rfl⟩ := h
    exact hgo φ w ca (Step.refl _ _) hR hF (Nat.le_refl _) hA
  | succ k ih =>
    intro c hc a s a' s' φ ca w Q h hR hF hA hgo
    cases c with
    | seq x y =>
      simp only [codeOk, Bool.and_eq_true] at hc
      simp only [preSeq, evalCode] at h
      split at h
      next a₁ s₁ h₁ =>
        refine wp_seq (evalCode_sim hE hcall (draw_sim hE hcall) N x hc.1 a s .normal a₁ s₁ φ ca w _ h₁ hR hF hA ?_)
        intro φ' w' ca' e g1 g2 g3 g4 g5 g6
        cases e <;> simp only [XRel] at g5
        refine ih y hc.2 a₁ s₁ a' s' φ' ca' w' Q h g2 g3 g6.of_normal ?_
        intro φ'' w'' ca'' k1 k2 k3 k4 k5
        exact hgo φ'' w'' ca'' (g1.trans k1) k2 k3 (Nat.le_trans g4 k4) k5
      next r hr => exact absurd h (hr _ _)
    | _ => simp [preSeq, evalCode] at h

/-- From what is told of a frame and memory, over the first pieces of a sequence, to the others. -/
theorem Near.lead {N m n : Nat} (k : Nat) {c : Code} (hc : codeOk E.P c = true) {live : List (Nat × Value)} {l : List AObj} {ca : Act} {w : World} {Q : Exit → Act → World → Prop} (h : Near B w₀ n live l ca w)
    {n' : Nat} {live' : List (Nat × Value)} {l' : List AObj}
    (hgo : ∀ rest, (∀ i, dull (rest i) = true) → ∃ x a' s', evalCode E (callN E N m) N (preSeq k c) { tmps := tmpsOf n live rest, defers := [] } (memOf l) = some (x, a', s') ∧ Tells x a' s' n' live' l')
    (hn : ∀ ca' w', Near B w₀ n' live' l' ca' w' → (postSeq k c).wp E.P Q ca' w') : c.wp E.P Q ca w := by
  obtain ⟨h1, h2, h3, rest, h4, φ, h5, h6⟩ := h
  obtain ⟨x, a', s', g1, rfl, g3, g4, τ, g5, g6, g7⟩ := hgo rest h4
  refine prefix_wp hE (callN_sim hE N m) N k c hc _ _ a' s' φ ca w Q g1 h5 (memOf_fresh l) h6 ?_
  intro φ' w' ca' k1 k2 k3 k4 k5
  exact hn ca' w' (Near.ren (k1.os.trans h1) (k1.tape.trans h2) (k1.output.trans h3) k2 k5 g3 g4 τ live' l' g5 g6 g7)

/-- To a function's end. -/
theorem Near.leave {N m n : Nat} {fn : Func} {c : Code} (hc : codeOk E.P c = true) {live : List (Nat × Value)} {l : List AObj} {ca : Act} {w : World} {v : Value} (hfl : flat v = true) (h : Near B w₀ n live l ca w) {R' : Ending → World → Prop}
    (hgo : ∀ rest, (∀ i, dull (rest i) = true) → ∃ x a' s', evalCode E (callN E N m) N c { tmps := tmpsOf n live rest, defers := [] } (memOf l) = some (x, a', s') ∧ (x = .normal ∨ x = .ret) ∧ a'.defers = [] ∧ aRet E fn a'.tmps s' = some v)
    (hR : ∀ w', w'.os = w₀.os → w'.tape = w₀.tape → w'.output = w₀.output → B ≤ w'.heap.size → (∀ b, b < B → w'.heap[b]? = w₀.heap[b]?) → R' (.returned v) w') : c.wp E.P (bodyPostD E.P fn R') ca w := by
  obtain ⟨h1, h2, h3, rest, h4, φ, h5, h6⟩ := h
  obtain ⟨x, a', s', g1, g2, g3, g4⟩ := hgo rest h4
  refine evalCode_sim hE (callN_sim hE N m) (draw_sim hE (callN_sim hE N m)) N c hc _ _ x a' s' φ ca w _ g1 h5 (memOf_fresh l) h6 ?_
  intro φ' w' ca' e k1 k2 k3 k4 k5 k6
  have hA : VAct B φ' a' ca' := by
    rcases k6 with k6 | ⟨⟨v, k6⟩, _⟩
    · exact k6
    · rcases g2 with rfl | rfl <;> simp at k6
  have hd : ca'.defers = [] := by
    have := hA.defers
    rw [g3] at this
    exact this.nil_left
  have hl : Leaves E.P fn ca'.tmps R' ca'.defers .returning w' := by
    rw [hd]
    obtain ⟨v', r1, r2⟩ := ret_sim hE k2 hA g4
    obtain rfl := r2.flat_right hfl
    exact ⟨_, r1, hR w' (k1.os.trans h1) (k1.tape.trans h2) (k1.output.trans h3) k2.size k2.old⟩
  rcases g2 with rfl | rfl
  · cases e <;> simp only [XRel] at k5
    exact hl
  · cases e <;> simp only [XRel] at k5
    exact hl

end

end Go.Ai
