/-
  THE SHORT RUN, 17: code, functions, calls: what the short run comes to, the machine comes to (given the same of statements whose order is open).
-/
import Derived.Test.YtiabpbememhdeaaDoorAiP
set_option linter.unusedSimpArgs false
set_option linter.unusedVariables false
set_option linter.unusedSectionVars false
namespace Go.Ai
open Go

/-- Statements whose order is open come to what the short run says. -/
def DrawSim (E : Env) (B : Nat) (w₀ : World) (call : Caller) : Prop :=
  ∀ (id : Nat) (ops : Array Oper) (a : AAct) (s : St) (x : X) (a' : AAct) (s' : St) (φ : Phi) (ca : Act) (w : World) (Q : Exit → Act → World → Prop), evalDraw E call ops a s = some (x, a', s') →
    (∀ o ∈ ops.toList, operOk E.P o = true) → drawOk ops = true → R B w₀ φ s.get w → s.Fresh → VAct B φ a ca → Goes B w₀ φ s w Q x a' s' → (Code.region id ops true).wp E.P Q ca w

theorem exists_least {p : Nat → Prop} (h : ∃ n, p n) : ∃ n, p n ∧ ∀ m, p m → n ≤ m := by
  obtain ⟨n, hn⟩ := h
  induction n using Nat.strongRecOn with
  | _ n ih =>
    by_cases hm : ∃ m, m < n ∧ p m
    · obtain ⟨m, h1, h2⟩ := hm
      exact ih m h1 h2
    · exact ⟨n, hn, fun m h => by
        rcases Nat.lt_or_ge m n with h1 | h1
        · exact absurd ⟨m, h1, h⟩ hm
        · exact h1⟩

open Classical in
noncomputable def leastOf (p : Nat → Prop) : Nat := if h : ∃ n, p n then (exists_least h).choose else 0

theorem leastOf_spec {p : Nat → Prop} (h : ∃ n, p n) : p (leastOf p) ∧ ∀ m, p m → leastOf p ≤ m := by
  unfold leastOf
  rw [dif_pos h]
  exact (exists_least h).choose_spec

section
variable {E : Env} {B : Nat} {w₀ : World} (hE : E.Fine B w₀) {call : Caller} (hcall : CallOk E B w₀ call) (hdraw : DrawSim E B w₀ call)
include hE

theorem Goes.refl_left {φ : Phi} {s : St} {w : World} {Q : Exit → Act → World → Prop} {x : X} {a' : AAct} {ca : Act} {e : Exit} (hG : Goes B w₀ φ s w Q x a' s) (hR : R B w₀ φ s.get w) (hF : s.Fresh) (hA : VAct B φ a' ca) (hx : XRel B φ x e) : Q e ca w :=
  hG φ w ca e (Step.refl _ _) hR hF (Nat.le_refl _) hx (.inl hA)

omit hE in
theorem Left.of_normal {φ : Phi} {a : AAct} {ca : Act} (h : Left B φ .normal a ca) : VAct B φ a ca := by
  rcases h with h | ⟨⟨v, h⟩, _⟩
  · exact h
  · simp at h

include hcall hdraw in
theorem evalCode_sim (N : Nat) : ∀ (c : Code), codeOk E.P c = true → ∀ (a : AAct) (s : St) (x : X) (a' : AAct) (s' : St) (φ : Phi) (ca : Act) (w : World) (Q : Exit → Act → World → Prop),
    evalCode E call N c a s = some (x, a', s') → R B w₀ φ s.get w → s.Fresh → VAct B φ a ca → Goes B w₀ φ s w Q x a' s' → c.wp E.P Q ca w := by
  intro c
  induction c with
  | skip =>
    intro _ a s x a' s' φ ca w Q h hR hF hA hG
    simp only [evalCode, Option.some.injEq, Prod.mk.injEq] at h
    obtain ⟨rfl, rfl, rfl⟩ := h
    exact wp_skip (hG.refl_left hE hR hF hA trivial)
  | label l =>
    intro _ a s x a' s' φ ca w Q h hR hF hA hG
    simp only [evalCode, Option.some.injEq, Prod.mk.injEq] at h
    obtain ⟨rfl, rfl, rfl⟩ := h
    exact wp_label (hG.refl_left hE hR hF hA trivial)
  | exit id =>
    intro _ a s x a' s' φ ca w Q h hR hF hA hG
    simp only [evalCode, Option.some.injEq, Prod.mk.injEq] at h
    obtain ⟨rfl, rfl, rfl⟩ := h
    exact wp_exit (hG.refl_left hE hR hF hA rfl)
  | ret =>
    intro _ a s x a' s' φ ca w Q h hR hF hA hG
    simp only [evalCode, Option.some.injEq, Prod.mk.injEq] at h
    obtain ⟨rfl, rfl, rfl⟩ := h
    exact wp_ret (hG.refl_left hE hR hF hA trivial)
  | region id ops d =>
    intro hok a s x a' s' φ ca w Q h hR hF hA hG
    simp only [codeOk, Bool.and_eq_true, Array.all_eq_true_iff_forall_mem] at hok
    have hok' : ∀ o ∈ ops.toList, operOk E.P o = true := fun o ho => hok.1 o (by simpa using ho)
    cases d with
    | false =>
      simp only [evalCode] at h
      have := evalOps_sim hE hcall hok' ops.toList 0 φ a s ca w rfl h hR hF hA hG
      exact wp_region (by simpa using this)
    | true =>
      simp only [evalCode] at h
      exact hdraw id ops a s x a' s' φ ca w Q h hok' (by simpa using hok.2) hR hF hA hG
  | seq c₁ c₂ ih₁ ih₂ =>
    intro hok a s x a' s' φ ca w Q h hR hF hA hG
    simp only [codeOk, Bool.and_eq_true] at hok
    simp only [evalCode] at h
    refine wp_seq ?_
    split at h
    next a₁ s₁ h₁ =>
      refine ih₁ hok.1 a s .normal a₁ s₁ φ ca w _ h₁ hR hF hA ?_
      intro φ' w' ca' e g1 g2 g3 g4 g5 g6
      cases e <;> simp only [XRel] at g5
      exact ih₂ hok.2 a₁ s₁ x a' s' φ' ca' w' Q h g2 g3 g6.of_normal (hG.step hE g1 g4)
    next r hnn =>
      refine ih₁ hok.1 a s x a' s' φ ca w _ h hR hF hA ?_
      intro φ' w' ca' e g1 g2 g3 g4 g5 g6
      have := hG φ' w' ca' e g1 g2 g3 g4 g5 g6
      cases e with
      | normal =>
        cases x <;> simp only [XRel] at g5
        exact absurd h (hnn _ _)
      | _ => exact this
  | cond c x₁ x₂ ih₁ ih₂ =>
    intro hok a s x a' s' φ ca w Q h hR hF hA hG
    simp only [codeOk, Bool.and_eq_true] at hok
    have hc := hA.eval hE.globals hok.1.1
    simp only [evalCode] at h
    split at h
    next hb =>
      rw [hb] at hc
      exact wp_cond (t := true) (hc rfl).bool_left (ih₁ hok.1.2 a s x a' s' φ ca w Q h hR hF hA hG)
    next hb =>
      rw [hb] at hc
      exact wp_cond (t := false) (hc rfl).bool_left (ih₂ hok.2 a s x a' s' φ ca w Q h hR hF hA hG)
    next => simp at h
  | block id c ih =>
    intro hok a s x a' s' φ ca w Q h hR hF hA hG
    simp only [codeOk] at hok
    simp only [evalCode] at h
    refine wp_block ?_
    split at h
    next id' a₁ s₁ h₁ =>
      refine ih hok a s (.exit id') a₁ s₁ φ ca w _ h₁ hR hF hA ?_
      intro φ' w' ca' e g1 g2 g3 g4 g5 g6
      cases e <;> simp only [XRel] at g5
      subst g5
      have g7 : VAct B φ' a₁ ca' := by
        rcases g6 with h | ⟨⟨v, h⟩, _⟩
        · exact h
        · simp at h
      simp only [Exit.inBlock]
      split at h
      next he =>
        cases h
        rw [if_pos he]
        exact hG φ' w' ca' .normal g1 g2 g3 g4 trivial (.inl g7)
      next he =>
        cases h
        rw [if_neg he]
        exact hG φ' w' ca' _ g1 g2 g3 g4 rfl (.inl g7)
    next r hne =>
      refine ih hok a s x a' s' φ ca w _ h hR hF hA ?_
      intro φ' w' ca' e g1 g2 g3 g4 g5 g6
      have := hG φ' w' ca' e g1 g2 g3 g4 g5 g6
      cases e with
      | exit i =>
        cases x <;> simp only [XRel] at g5
        exact absurd h (hne _ _ _)
      | _ => exact this
  | loop c ih =>
    intro hok a s x a' s' φ ca w Q h hR hF hA hG
    simp only [codeOk] at hok
    simp only [evalCode] at h
    let J : Nat → Act → World → Prop := fun n ca w => ∃ φ₁ a₁ s₁, iter (evalCode E call N c) n a₁ s₁ = some (x, a', s') ∧ R B w₀ φ₁ s₁.get w ∧ s₁.Fresh ∧ VAct B φ₁ a₁ ca ∧ Goes B w₀ φ₁ s₁ w Q x a' s'
    have key : ∀ n ca w, J n ca w → (Code.loop c).wp E.P Q ca w := by
      intro n ca w hJ
      refine wp_loop (fun ca w => ∃ n, J n ca w) (fun ca w => leastOf fun n => J n ca w) ⟨n, hJ⟩ ?_
      intro ca w hI
      have hspec := (leastOf_spec hI).1
      generalize leastOf (fun n => J n ca w) = k at hspec
      obtain ⟨φ₁, a₁, s₁, h1, h2, h3, h4, h5⟩ := hspec
      cases k with
      | zero => simp [iter] at h1
      | succ k =>
        simp only [iter] at h1
        split at h1
        next a₂ s₂ h6 =>
          refine ih hok a₁ s₁ .normal a₂ s₂ φ₁ ca w _ h6 h2 h3 h4 ?_
          intro φ' w' ca' e g1 g2 g3 g4 g5 g6
          cases e <;> simp only [XRel] at g5
          have hJ' : J k ca' w' := ⟨φ', a₂, s₂, h1, g2, g3, g6.of_normal, h5.step hE g1 g4⟩
          exact ⟨⟨k, hJ'⟩, Nat.lt_succ_of_le ((leastOf_spec ⟨k, hJ'⟩).2 k hJ')⟩
        next r hnn =>
          refine ih hok a₁ s₁ x a' s' φ₁ ca w _ h1 h2 h3 h4 ?_
          intro φ' w' ca' e g1 g2 g3 g4 g5 g6
          have := h5 φ' w' ca' e g1 g2 g3 g4 g5 g6
          cases e with
          | normal =>
            cases x <;> simp only [XRel] at g5
            exact absurd h1 (hnn _ _)
          | _ => exact this
    exact key N ca w ⟨φ, a, s, h, hR, hF, hA, hG⟩
  | scope c ih =>
    intro hok a s x a' s' φ ca w Q h hR hF hA hG
    simp only [codeOk] at hok
    simp only [evalCode] at h
    refine wp_scope_straight (ih hok a s x a' s' φ ca w _ h hR hF hA ?_)
    intro φ' w' ca' e g1 g2 g3 g4 g5 g6
    have := hG φ' w' ca' e g1 g2 g3 g4 g5 g6
    cases e with
    | goto l => cases x <;> simp [XRel] at g5
    | _ => exact this
  | _ => intro _ a s x a' s' φ ca w Q h; simp [evalCode] at h

end

end Go.Ai
