/-
  THE SHORT RUN, 18: functions and calls.
-/
import Derived.Test.YtiabpbememhdeaaDoorAiQ
set_option linter.unusedSimpArgs false
set_option linter.unusedVariables false
set_option linter.unusedSectionVars false
namespace Go.Ai
open Go

section
variable {E : Env} {B : Nat} {w₀ : World} (hE : E.Fine B w₀) {call : Caller} (hcall : CallOk E B w₀ call) (hdraw : DrawSim E B w₀ call)
include hE

/-- Temporaries alike. -/
theorem VAct.getD {φ : Phi} {a : AAct} {ca : Act} (hA : VAct B φ a ca) (t : Nat) (hj : isJunk (a.tmps.getD t undef) = false) : V B φ (a.tmps.getD t undef) (ca.tmps.getD t undef) :=
  hA.eval (P := E.P) hE.globals (x := .tmp t) rfl hj

theorem results_sim {φ : Phi} {s : St} {w : World} {a : AAct} (F : ResultVar → Sem Value) (hF : ∀ r v, aResult E a.tmps s r = some v → ∃ v', (F r).run E.P w = .ok v' w ∧ V B φ v v') : ∀ (rs : List ResultVar) (l : List Value), aResults E a.tmps s rs = some l →
    ∃ l', (rs.mapM F).run E.P w = .ok l' w ∧ VL B φ l l' := by
  intro rs
  induction rs with
  | nil =>
    intro l h
    simp only [aResults, Option.some.injEq] at h
    subst h
    exact ⟨[], rfl, rfl, by simp⟩
  | cons r rs ih =>
    intro l h
    simp only [aResults] at h
    split at h
    next v l₀ hv hl =>
      cases h
      obtain ⟨l', h1, h2⟩ := ih _ hl
      obtain ⟨v', g1, g2⟩ := hF _ _ hv
      refine ⟨v' :: l', ?_, by simp [h2.1], ?_⟩
      · simp only [List.mapM_cons, Sem.run_bind, g1, Result.andThen_ok, h1, Sem.run_pure]
      · intro i x y hx hy
        cases i with
        | zero => simp at hx hy; subst hx; subst hy; exact g2
        | succ i => exact h2.2 i x y (by simpa using hx) (by simpa using hy)
    next => simp at h

theorem ret_sim {φ : Phi} {s : St} {w : World} (hR : R B w₀ φ s.get w) {a : AAct} {ca : Act} (hA : VAct B φ a ca) {fn : Func} {v : Value} (h : aRet E fn a.tmps s = some v) :
    ∃ v', (results fn ca.tmps).run E.P w = .ok v' w ∧ V B φ v v' := by
  have main : ∀ (F : ResultVar → Sem Value), (∀ r v, aResult E a.tmps s r = some v → ∃ v', (F r).run E.P w = .ok v' w ∧ V B φ v v') →
      ∃ v', (do let vs ← fn.results.mapM F; pure (if h : vs.size = 1 then vs[0] else .tuple vs) : Sem Value).run E.P w = .ok v' w ∧ V B φ v v' := by
    intro F hF
    have hm : ∀ l', (fn.results.toList.mapM F).run E.P w = .ok l' w → (fn.results.mapM F).run E.P w = .ok l'.toArray w := by
      intro l' h
      rw [Array.mapM_eq_mapM_toList]
      simp only [Sem.run_map, h, Result.andThen_ok]
    unfold aRet at h
    split at h
    next v₀ hv =>
      cases h
      obtain ⟨l', h1, h2⟩ := results_sim hE F hF _ _ hv
      obtain ⟨v', rfl⟩ : ∃ v', l' = [v'] := by
        match l', h2.1 with
        | [v'], _ => exact ⟨v', rfl⟩
      refine ⟨v', ?_, h2.2 0 _ _ rfl rfl⟩
      simp only [Sem.run_bind, hm _ h1, Result.andThen_ok]
      rfl
    next l hne hl =>
      cases h
      obtain ⟨l', h1, h2⟩ := results_sim hE F hF _ _ hl
      have hsz : ¬ l'.toArray.size = 1 := by
        intro h3
        have : l.length = 1 := by rw [h2.1]; simpa using h3
        match l, this with
        | [x], _ => exact hne x rfl
      refine ⟨.tuple l'.toArray, ?_, ?_⟩
      · simp only [Sem.run_bind, hm _ h1, Result.andThen_ok]
        rw [dif_neg hsz]
        rfl
      · have := h2.toArray
        exact .tuple this.1 this.2
    next => simp at h
  unfold results
  refine main _ ?_
  intro r v hv
  cases r with
  | tmp t =>
    simp only [aResult] at hv
    split at hv
    next => simp at hv
    next hj =>
      simp only [Option.some.injEq] at hv
      subst hv
      exact ⟨_, rfl, hA.getD hE t (by simpa using hj)⟩
  | cell x t =>
    simp only [aResult] at hv
    have hx := hA.getD hE x (by
      unfold aLoad at hv
      split at hv
      next hp => rw [hp]; rfl
      next => simp at hv)
    obtain ⟨v', g1, g2⟩ := run_load hE.toOk hR hx hv
    refine ⟨v', ?_, g2⟩
    generalize hc : ca.tmps.getD x undef = cx at hx g1
    generalize hac : a.tmps.getD x undef = ax at hx hv
    unfold aLoad at hv
    split at hv
    · obtain ⟨c', rfl⟩ := hx.pointer_some
      simpa [Instr.loadAt, Instr.sureAddr, asAddr, hc] using g1
    · simp at hv

/-- What a frame unwinds with. -/
def UnwRel (B : Nat) (φ : Phi) : Unw → FrameMode → Prop
  | none, .returning => True
  | some (v, b), .panicking chain => ∃ v', chain = [{ v := v', recovered := b }] ∧ V B φ v v'
  | _, _ => False

theorem UnwRel.mono {φ φ' : Phi} (h : ∀ f e k, φ f e = some k → φ' f e = some k) {u : Unw} {m : FrameMode} (hu : UnwRel B φ u m) : UnwRel B φ' u m := by
  cases u with
  | none => cases m <;> exact hu
  | some x =>
    obtain ⟨v, b⟩ := x
    cases m with
    | panicking c => obtain ⟨v', h1, h2⟩ := hu; exact ⟨v', h1, h2.mono h⟩
    | _ => exact hu.elim

theorem UnwRel.settle {φ : Phi} {u : Unw} {m : FrameMode} (hu : UnwRel B φ u m) : UnwRel B φ (aSettle u) (settle m) := by
  cases u with
  | none => cases m <;> simp_all [UnwRel, aSettle, Go.settle]
  | some x =>
    obtain ⟨v, b⟩ := x
    cases m with
    | panicking c =>
      obtain ⟨v', h1, h2⟩ := hu
      subst h1
      cases b with
      | true => simp [aSettle, Go.settle, UnwRel]
      | false => exact ⟨v', by simp [Go.settle], h2⟩
    | _ => exact hu.elim

/-- What is to hold behind a piece of a call that was put off. -/
def GoesD (B : Nat) (w₀ : World) (φ : Phi) (s : St) (w : World) (c₀ : Frame) (cs : List Frame) (Q : Exit → Act → List Frame → World → Prop) (x : X) (a' : AAct) (u' : Unw) (s' : St) : Prop :=
  ∀ φ' w' ca' e m', Step s.next φ w φ' w' → R B w₀ φ' s'.get w' → s'.Fresh → s.next ≤ s'.next → XRel B φ' x e → Left B φ' x a' ca' → UnwRel B φ' u' m' → Q e ca' ({ c₀ with mode := m' } :: cs) w'

include hcall in
theorem evalOpsD_sim {ops : Array Oper} (hok : ∀ o ∈ ops.toList, operOk E.P o = true) {x : X} {a' : AAct} {u' : Unw} {s' : St} {c₀ : Frame} {cs : List Frame} {Q : Exit → Act → List Frame → World → Prop} :
    ∀ (l : List Oper) (k : Nat) (φ : Phi) (a : AAct) (u : Unw) (m : FrameMode) (s : St) (ca : Act) (w : World), l = ops.toList.drop k → evalOpsD E call ops l a u s = some (x, a', u', s') → R B w₀ φ s.get w → s.Fresh → VAct B φ a ca → UnwRel B φ u m →
      GoesD B w₀ φ s w c₀ cs Q x a' u' s' → wpOpsS E.P ops Q ((List.range ops.size).drop k) ca ({ c₀ with mode := m } :: cs) w := by
  intro l
  induction l with
  | nil =>
    intro k φ a u m s ca w hl h hR hF hA hU hG
    simp only [evalOpsD, Option.some.injEq, Prod.mk.injEq] at h
    obtain ⟨rfl, rfl, rfl, rfl⟩ := h
    have hk : ops.size ≤ k := by
      have := congrArg List.length hl
      simp at this
      omega
    rw [List.drop_of_length_le (by simpa using hk)]
    exact hG φ w ca .normal m (Step.refl _ _) hR hF (Nat.le_refl _) trivial (.inl hA) hU
  | cons o rest ih =>
    intro k φ a u m s ca w hl h hR hF hA hU hG
    have hk : k < ops.size := by
      have := congrArg List.length hl
      simp at this
      omega
    have hko : ops[k]? = some o := by
      have := congrArg (fun l => l[0]?) hl
      simp [List.getElem?_drop] at this
      simp [this]
    have hrest : rest = ops.toList.drop (k + 1) := by
      have := congrArg List.tail hl
      simpa using this
    have hro : (List.range ops.size).drop k = k :: (List.range ops.size).drop (k + 1) := by
      rw [← List.getElem_cons_drop (by simpa using hk)]
      simp
    rw [hro]
    simp only [wpOpsS, hko]
    have hoo : operOk E.P o = true := hok o (by
      have : o ∈ ops.toList.drop k := by rw [← hl]; simp
      exact List.mem_of_mem_drop this)
    unfold operOk at hoo
    simp only [Bool.and_eq_true, Array.all_eq_true_iff_forall_mem] at hoo
    have hρ : ∀ y ∈ o.op.operands, isJunk (a.eval y) = false → V B φ (a.eval y) (ca.eval y) := fun y hy => hA.eval hE.globals (hoo.1 y hy)
    simp only [evalOpsD] at h
    rw [hA.wanted]
    split at h
    next hw =>
      rw [if_pos hw]
      split at h
      next hrec =>
        -- recover
        have hrun : (execOp ca.eval o).run E.P w = .ok .recover w := by
          obtain ⟨dst, op, ty, pos, after, guard⟩ := o
          simp only at hrec
          unfold hasRecover at hrec
          split at hrec
          · simp [execOp, resolve, invoke, builtin]
          · simp at hrec
        simp only [hrun]
        split at h
        next v =>
          cases m with
          | panicking chain =>
            obtain ⟨v', rfl, hv⟩ := hU
            simp only [recoverD]
            exact ih (k + 1) φ _ (some (v, true)) (.panicking [{ v := v', recovered := true }]) s _ w hrest h hR hF (hA.put _ hv) ⟨v', rfl, hv⟩ hG
          | _ => exact hU.elim
        next =>
          cases m with
          | returning =>
            simp only [recoverD]
            exact ih (k + 1) φ _ none .returning s _ w hrest h hR hF (hA.put _ .nilIface) trivial hG
          | _ => exact hU.elim
        next => simp at h
      next hrec =>
        have fin : ∀ {r : Rs}, aOp E call a.eval o s = some r → OpGoes E B w₀ φ s w o ca (fun a' w' => wpOpsS E.P ops Q ((List.range ops.size).drop (k + 1)) a' ({ c₀ with mode := m } :: cs) w') (fun e a' w' => Q e a' ({ c₀ with mode := m } :: cs) w') r →
            (match (execOp ca.eval o).run E.P w with
              | .ok .recover w' =>
                match recoverD ({ c₀ with mode := m } :: cs) with
                | some (v, cs') => wpOpsS E.P ops Q ((List.range ops.size).drop (k + 1)) (ca.put o.dst v) cs' w'
                | none => wpOpsS E.P ops Q ((List.range ops.size).drop (k + 1)) (ca.put o.dst .nilIface) ({ c₀ with mode := m } :: cs) w'
              | r => o.upon E.P ca (fun a' w' => wpOpsS E.P ops Q ((List.range ops.size).drop (k + 1)) a' ({ c₀ with mode := m } :: cs) w') (fun e a' w' => Q e a' ({ c₀ with mode := m } :: cs) w') r) := by
          intro r hr hg
          have hup := aOp_sim hE hcall hR hF hρ hoo.2 hr hg
          unfold Oper.wp at hup
          generalize (execOp ca.eval o).run E.P w = r' at hup
          split
          · exact hup.elim
          · exact hup
        split at h
        next v s₁ ho =>
          refine fin ho ?_
          intro φ' w' v' g1 g2 g3 g4 g5
          refine ih (k + 1) φ' _ u m s₁ _ w' hrest h g2 g4 ((hA.mono g1.ext).put _ g3) (hU.mono hE g1.ext) ?_
          intro φ'' w'' ca'' e m'' k1 k2 k3 k4 k5 k6 k7
          exact hG φ'' w'' ca'' e m'' (g1.trans k1) k2 k3 (Nat.le_trans g5 k4) k5 k6 k7
        next v s₁ ho =>
          simp only [Option.some.injEq, Prod.mk.injEq] at h
          obtain ⟨rfl, rfl, rfl, rfl⟩ := h
          refine fin ho ?_
          intro φ' w' v' g1 g2 g3 g4 g5
          exact hG φ' w' ca _ m g1 g2 g4 g5 ⟨v', rfl, g3⟩ (.inl (hA.mono g1.ext)) (hU.mono hE g1.ext)
        next => simp at h
    next hw =>
      rw [if_neg hw]
      exact ih (k + 1) φ _ u m s _ w hrest h hR hF (hA.put _ (V.undef_refl hE.toOk φ)) hU hG


include hcall hdraw in
theorem evalCodeD_sim (N : Nat) {c₀ : Frame} {cs : List Frame} : ∀ (c : Code), codeOk E.P c = true → ∀ (a : AAct) (u : Unw) (m : FrameMode) (s : St) (x : X) (a' : AAct) (u' : Unw) (s' : St) (φ : Phi) (ca : Act) (w : World) (Q : Exit → Act → List Frame → World → Prop),
    evalCodeD E call N c a u s = some (x, a', u', s') → R B w₀ φ s.get w → s.Fresh → VAct B φ a ca → UnwRel B φ u m → GoesD B w₀ φ s w c₀ cs Q x a' u' s' → c.wpS E.P Q ca ({ c₀ with mode := m } :: cs) w := by
  have plain : ∀ (c : Code), codeOk E.P c = true → ∀ (a : AAct) (u : Unw) (m : FrameMode) (s : St) (x : X) (a' : AAct) (u' : Unw) (s' : St) (φ : Phi) (ca : Act) (w : World) (Q : Exit → Act → List Frame → World → Prop),
      (match evalCode E call N c a s with | some (x, a', s') => some (x, a', u, s') | none => none) = some (x, a', u', s') → R B w₀ φ s.get w → s.Fresh → VAct B φ a ca → UnwRel B φ u m →
      GoesD B w₀ φ s w c₀ cs Q x a' u' s' → c.wpS E.P Q ca ({ c₀ with mode := m } :: cs) w := by
    intro c hok a u m s x a' u' s' φ ca w Q h hR hF hA hU hG
    split at h
    next x₁ a₁ s₁ h₁ =>
      simp only [Option.some.injEq, Prod.mk.injEq] at h
      obtain ⟨rfl, rfl, rfl, rfl⟩ := h
      refine wpS_of_wp (evalCode_sim hE hcall hdraw N c hok a s _ _ _ φ ca w _ h₁ hR hF hA ?_)
      intro φ' w' ca' e g1 g2 g3 g4 g5 g6
      exact hG φ' w' ca' e m g1 g2 g3 g4 g5 g6 (hU.mono hE g1.ext)
    next => simp at h
  intro c
  induction c with
  | seq c₁ c₂ ih₁ ih₂ =>
    intro hok a u m s x a' u' s' φ ca w Q h hR hF hA hU hG
    simp only [codeOk, Bool.and_eq_true] at hok
    simp only [evalCodeD] at h
    refine wpS_seq ?_
    split at h
    next a₁ u₁ s₁ h₁ =>
      refine ih₁ hok.1 a u m s .normal a₁ u₁ s₁ φ ca w _ h₁ hR hF hA hU ?_
      intro φ' w' ca' e m' g1 g2 g3 g4 g5 g6 g7
      cases e <;> simp only [XRel] at g5
      refine ih₂ hok.2 a₁ u₁ m' s₁ x a' u' s' φ' ca' w' Q h g2 g3 g6.of_normal g7 ?_
      intro φ'' w'' ca'' e m'' k1 k2 k3 k4 k5 k6 k7
      exact hG φ'' w'' ca'' e m'' (g1.trans k1) k2 k3 (Nat.le_trans g4 k4) k5 k6 k7
    next r hnn =>
      refine ih₁ hok.1 a u m s x a' u' s' φ ca w _ h hR hF hA hU ?_
      intro φ' w' ca' e m' g1 g2 g3 g4 g5 g6 g7
      have := hG φ' w' ca' e m' g1 g2 g3 g4 g5 g6 g7
      cases e with
      | normal =>
        cases x <;> simp only [XRel] at g5
        exact absurd h (hnn _ _ _)
      | _ => exact this
  | cond c x₁ x₂ ih₁ ih₂ =>
    intro hok a u m s x a' u' s' φ ca w Q h hR hF hA hU hG
    simp only [codeOk, Bool.and_eq_true] at hok
    have hc := hA.eval hE.globals hok.1.1
    simp only [evalCodeD] at h
    split at h
    next hb =>
      rw [hb] at hc
      exact wpS_cond (t := true) (hc rfl).bool_left (ih₁ hok.1.2 a u m s x a' u' s' φ ca w Q h hR hF hA hU hG)
    next hb =>
      rw [hb] at hc
      exact wpS_cond (t := false) (hc rfl).bool_left (ih₂ hok.2 a u m s x a' u' s' φ ca w Q h hR hF hA hU hG)
    next => simp at h
  | region id ops d =>
    intro hok a u m s x a' u' s' φ ca w Q h hR hF hA hU hG
    simp only [evalCodeD] at h
    split at h
    next hrec =>
      split at h
      next => simp at h
      next hd =>
        simp only [Bool.not_eq_true] at hd
        subst hd
        simp only [codeOk, Bool.and_eq_true, Array.all_eq_true_iff_forall_mem] at hok
        have hok' : ∀ o ∈ ops.toList, operOk E.P o = true := fun o ho => hok.1 o (by simpa using ho)
        have := evalOpsD_sim hE hcall (c₀ := c₀) (cs := cs) hok' ops.toList 0 φ a u m s ca w rfl h hR hF hA hU hG
        exact wpS_region (by simpa using this)
    next hrec =>
      exact plain _ hok a u m s x a' u' s' φ ca w Q h hR hF hA hU hG
  | _ =>
    intro hok a u m s x a' u' s' φ ca w Q h hR hF hA hU hG
    simp only [evalCodeD] at h
    split at h
    · simp at h
    · exact plain _ hok a u m s x a' u' s' φ ca w Q h hR hF hA hU hG

omit hE in
theorem enter_tmps {φ : Phi} {fn : Func} {args : List Value} {cargs : Array Value} (h : VL B φ args cargs.toList) :
    VAct B φ { tmps := enterTmps fn args, defers := [] } { tmps := cargs ++ Array.replicate (fn.ntmps - cargs.size) undef, defers := [] } := by
  have hlen : args.length = cargs.size := by simpa using h.1
  refine ⟨by simp [enterTmps, hlen], fun i x y hx hy => ?_, .nil⟩
  simp only [enterTmps] at hx
  by_cases hi : i < args.length
  · rw [List.getElem?_append_left hi] at hx
    rw [Array.getElem?_append_left (by omega)] at hy
    exact .inl (h.2 i x y hx (by simpa using hy))
  · rw [List.getElem?_append_right (by omega)] at hx
    rw [Array.getElem?_append_right (by omega)] at hy
    rw [List.getElem?_replicate] at hx
    rw [Array.getElem?_replicate] at hy
    split at hx
    · split at hy
      · cases hx; cases hy; exact .inl (V.refl_of_flat B φ undef (by rfl))
      · simp at hy
    · simp at hx

include hcall hdraw in
theorem deferred_sim (N : Nat) {φ : Phi} {s : St} {w : World} {d d' : Deferred} {u u' : Unw} {m : FrameMode} {s' : St} (hd : VD B φ d d') (hR : R B w₀ φ s.get w) (hF : s.Fresh) (hU : UnwRel B φ u m)
    (h : evalDeferred E call N d u s = some (u', s')) :
    ∃ fv cap g args, d'.target = .fn fv cap ∧ (invoke d'.target d'.args).run E.P w = .ok (.enter g args) w ∧ CallsD E.P g args m w fun e m' w' => (∃ v, e = .returned v) ∧
      ∃ φ', Step s.next φ w φ' w' ∧ R B w₀ φ' s'.get w' ∧ s'.Fresh ∧ s.next ≤ s'.next ∧ UnwRel B φ' u' m' := by
  obtain ⟨g, cap, cap', ht, ht', hcap, hargs⟩ := hd
  unfold evalDeferred at h
  rw [ht] at h
  simp only at h
  split at h
  next fn hfn =>
    split at h
    next c hc =>
      obtain ⟨f1, f2, f3⟩ := hE.func _ _ hfn
      refine ⟨.func g, cap', g, d'.args ++ cap', ht', ?_, ?_⟩
      · rw [ht']
        simp only [invoke]
        exact run_callFunc hE f1 (by simp [hc]) f2 _ _
      · have hvl : VL B φ (d.args.toList ++ cap.toList) (d'.args ++ cap').toList := by
          rw [Array.toList_append]
          exact VL.append hE.toOk hargs.toList hcap.toList
        refine callsD_of_wpS f1 hc fun c₀ cs hc₀ => ?_
        have hcc : c₀ = { c₀ with mode := m } := by rw [← hc₀]
        have hmain : ∀ x a u₁ s₁, evalCodeD E call N c { tmps := enterTmps fn (d.args.toList ++ cap.toList), defers := [] } u s = some (x, a, u₁, s₁) → (x = .normal ∨ x = .ret) →
            (if a.defers.isEmpty then (match aRet E fn a.tmps s₁ with | some _ => some (u₁, s₁) | none => none) else none) = some (u', s') →
            c.wpS E.P (bodyPostS E.P fn c₀ cs fun e m' w' => (∃ v, e = .returned v) ∧ ∃ φ', Step s.next φ w φ' w' ∧ R B w₀ φ' s'.get w' ∧ s'.Fresh ∧ s.next ≤ s'.next ∧ UnwRel B φ' u' m')
              { tmps := (d'.args ++ cap') ++ Array.replicate (fn.ntmps - (d'.args ++ cap').size) undef, defers := [] } (c₀ :: cs) w := by
          intro x a u₁ s₁ hev hx hfin
          split at hfin
          next hde =>
            split at hfin
            next v hv =>
              simp only [Option.some.injEq, Prod.mk.injEq] at hfin
              obtain ⟨rfl, rfl⟩ := hfin
              rw [hcc]
              refine evalCodeD_sim hE hcall hdraw N c (f3 c hc) _ u m s x a u₁ s₁ φ _ w _ hev hR hF (enter_tmps hvl) hU ?_
              intro φ' w' ca' e m' g1 g2 g3 g4 g5 g6 g7
              have g8 : VAct B φ' a ca' := by
                rcases g6 with h | ⟨⟨v, h⟩, _⟩
                · exact h
                · rcases hx with rfl | rfl <;> simp at h
              obtain ⟨v', r1, r2⟩ := ret_sim hE g2 g8 hv
              have hde' : ca'.defers = [] := by
                have := g8.defers
                have hnil : a.defers = [] := by simpa using hde
                rw [hnil] at this
                exact this.nil_left
              rcases hx with rfl | rfl
              · cases e <;> simp only [XRel] at g5
                exact ⟨hde', m', rfl, v', r1, ⟨v', rfl⟩, φ', g1, g2, g3, g4, g7⟩
              · cases e <;> simp only [XRel] at g5
                exact ⟨hde', m', rfl, v', r1, ⟨v', rfl⟩, φ', g1, g2, g3, g4, g7⟩
            next => simp at hfin
          next => simp at hfin
        split at h
        next a u₁ s₁ hev => exact hmain .normal a u₁ s₁ hev (.inl rfl) h
        next a u₁ s₁ hev => exact hmain .ret a u₁ s₁ hev (.inr rfl) h
        next => simp at h
    next => simp at h
  next => simp at h

include hcall hdraw in
theorem unwinds_sim (N : Nat) {fn : Func} {a : AAct} {ca : Act} {Q : Ending → World → Prop} {u' : Unw} {s' : St} : ∀ (ds ds' : List Deferred) (φ : Phi) (s : St) (w : World) (u : Unw) (m : FrameMode), VDs B φ ds ds' → VAct B φ a ca → R B w₀ φ s.get w → s.Fresh → UnwRel B φ u m → m ≠ .run →
    unwinds E call N ds u s = some (u', s') →
    (∀ φ' w' m', Step s.next φ w φ' w' → R B w₀ φ' s'.get w' → s'.Fresh → s.next ≤ s'.next → VAct B φ' a ca → UnwRel B φ' u' m' → Leaves E.P fn ca.tmps Q [] m' w') → Leaves E.P fn ca.tmps Q ds' m w := by
  intro ds
  induction ds with
  | nil =>
    intro ds' φ s w u m hds hA hR hF hU hm h hfin
    cases hds
    simp only [unwinds, Option.some.injEq, Prod.mk.injEq] at h
    obtain ⟨rfl, rfl⟩ := h
    exact hfin φ w m (Step.refl _ _) hR hF (Nat.le_refl _) hA hU
  | cons d ds ih =>
    intro ds' φ s w u m hds hA hR hF hU hm h hfin
    cases hds with
    | cons hd hds' =>
      rename_i d' l'
      simp only [unwinds] at h
      split at h
      next u₁ s₁ hev =>
        obtain ⟨fv, cap, g, args, h1, h2, h3⟩ := deferred_sim hE hcall hdraw N hd hR hF hU hev
        refine ⟨hm, fv, cap, g, args, h1, h2, h3.mono ?_⟩
        rintro e m' w' ⟨⟨v, rfl⟩, φ', g1, g2, g3, g4, g5⟩
        have hne : settle m' ≠ .run := by
          have := g5.settle hE
          intro hh
          rw [hh] at this
          cases hs : aSettle u₁ with
          | none => rw [hs] at this; exact this.elim
          | some x => rw [hs] at this; exact this.elim
        refine ih l' φ' s₁ w' (aSettle u₁) (settle m') (hds'.mono g1.ext) (hA.mono g1.ext) g2 g3 (g5.settle hE) hne h ?_
        intro φ'' w'' m'' k1 k2 k3 k4 k5 k6
        exact hfin φ'' w'' m'' (g1.trans k1) k2 k3 (Nat.le_trans g4 k4) k5 k6
      next => simp at h

include hcall hdraw in
theorem evalFn_sim (N : Nat) : CallOk E B w₀ (evalFn E call N) := by
  intro g args s r s' h
  unfold evalFn at h
  split at h
  next => simp at h
  next fn hfn =>
    split at h
    next => simp at h
    next c hc =>
      obtain ⟨f1, f2, f3⟩ := hE.func _ _ hfn
      refine ⟨⟨fn, f1, by simp [hc], f2⟩, fun φ w cargs hR hF hvl => ?_⟩
      refine calls_of_wp_defers f1 hc ?_
      have hvl' : VL B φ args cargs.toArray.toList := by simpa using hvl
      have hnorm : ∀ x a s₁, evalCode E call N c { tmps := enterTmps fn args, defers := [] } s = some (x, a, s₁) → (x = .normal ∨ x = .ret) →
          (match unwinds E call N a.defers none s₁ with | some (none, s'') => (aRet E fn a.tmps s'').map fun v => (Ret.ok v, s'') | _ => none) = some (r, s') →
          c.wp E.P (bodyPostD E.P fn fun e w' => ∃ φ', Step s.next φ w φ' w' ∧ R B w₀ φ' s'.get w' ∧ s'.Fresh ∧ s.next ≤ s'.next ∧ RetRel B φ' r e)
            { tmps := cargs.toArray ++ Array.replicate (fn.ntmps - cargs.toArray.size) undef, defers := [] } w := by
        intro x a s₁ hev hx hfin
        refine evalCode_sim hE hcall hdraw N c (f3 c hc) _ s x a s₁ φ _ w _ hev hR hF (enter_tmps hvl') ?_
        intro φ' w' ca' e g1 g2 g3 g4 g5 g6
        have g8 : VAct B φ' a ca' := by
          rcases g6 with h | ⟨⟨v, h⟩, _⟩
          · exact h
          · rcases hx with rfl | rfl <;> simp at h
        split at hfin
        next s₂ hun =>
          simp only [Option.map_eq_some_iff, Prod.mk.injEq] at hfin
          obtain ⟨v, hv, rfl, rfl⟩ := hfin
          have hl : Leaves E.P fn ca'.tmps (fun e w' => ∃ φ', Step s.next φ w φ' w' ∧ R B w₀ φ' s₂.get w' ∧ s₂.Fresh ∧ s.next ≤ s₂.next ∧ RetRel B φ' (.ok v) e) ca'.defers .returning w' := by
            refine unwinds_sim hE hcall hdraw N a.defers ca'.defers φ' s₁ w' none .returning g8.defers g8 g2 g3 trivial (by simp) hun ?_
            intro φ'' w'' m'' k1 k2 k3 k4 k5 k6
            cases m'' with
            | returning =>
              obtain ⟨v', r1, r2⟩ := ret_sim hE k2 k5 hv
              exact ⟨v', r1, φ'', g1.trans k1, k2, k3, Nat.le_trans g4 k4, r2⟩
            | _ => exact k6.elim
          rcases hx with rfl | rfl
          · cases e <;> simp only [XRel] at g5
            exact hl
          · cases e <;> simp only [XRel] at g5
            exact hl
        next => simp at hfin
      split at h
      next a s₁ hev => exact hnorm .normal a s₁ hev (.inl rfl) h
      next a s₁ hev => exact hnorm .ret a s₁ hev (.inr rfl) h
      next v a s₁ hev =>
        refine evalCode_sim hE hcall hdraw N c (f3 c hc) _ s (.panic v) a s₁ φ _ w _ hev hR hF (enter_tmps hvl') ?_
        intro φ' w' ca' e g1 g2 g3 g4 g5 g6
        cases e <;> simp only [XRel] at g5
        obtain ⟨v', rfl, hv'⟩ := g5
        simp only [bodyPostD]
        rcases g6 with g6 | ⟨_, hd1, hd2⟩
        · split at h
          next s₂ hun =>
            simp only [Option.map_eq_some_iff, Prod.mk.injEq] at h
            obtain ⟨v₂, hv₂, rfl, rfl⟩ := h
            refine unwinds_sim hE hcall hdraw N a.defers ca'.defers φ' s₁ w' (some (v, false)) _ g6.defers g6 g2 g3 ⟨v', rfl, hv'⟩ (by simp) hun ?_
            intro φ'' w'' m'' k1 k2 k3 k4 k5 k6
            cases m'' with
            | returning =>
              obtain ⟨v₃, r1, r2⟩ := ret_sim hE k2 k5 hv₂
              exact ⟨v₃, r1, φ'', g1.trans k1, k2, k3, Nat.le_trans g4 k4, r2⟩
            | _ => exact k6.elim
          next v₂ s₂ hun =>
            simp only [Option.some.injEq, Prod.mk.injEq] at h
            obtain ⟨rfl, rfl⟩ := h
            refine unwinds_sim hE hcall hdraw N a.defers ca'.defers φ' s₁ w' (some (v, false)) _ g6.defers g6 g2 g3 ⟨v', rfl, hv'⟩ (by simp) hun ?_
            intro φ'' w'' m'' k1 k2 k3 k4 k5 k6
            cases m'' with
            | panicking chain =>
              obtain ⟨v₃, rfl, hv₃⟩ := k6
              exact ⟨φ'', g1.trans k1, k2, k3, Nat.le_trans g4 k4, v₃, rfl, hv₃⟩
            | _ => exact k6.elim
          next => simp at h
        · rw [hd1] at h
          simp only [unwinds, Option.some.injEq, Prod.mk.injEq] at h
          obtain ⟨rfl, rfl⟩ := h
          rw [hd2]
          exact ⟨φ', g1, g2, g3, g4, v', rfl, hv'⟩
      next => simp at h

end

end Go.Ai
