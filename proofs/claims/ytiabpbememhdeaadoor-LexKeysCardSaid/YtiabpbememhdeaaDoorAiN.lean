/-
  THE SHORT RUN, 14: delete, a walk along a string, and all operations that are no calls in one.
-/
import Derived.Test.YtiabpbememhdeaaDoorAiM
set_option linter.unusedSimpArgs false
set_option linter.unusedVariables false
set_option linter.unusedSectionVars false
namespace Go.Ai
open Go

section
variable {E : Env} {B : Nat} {w₀ : World} (hE : E.Ok B w₀)
include hE

theorem e_mapDelete {φ : Phi} {s s' : St} {argTypes : Array TypeId} {ty : TypeId} {x x' k k' : Value} {w : World} (hR : R B w₀ φ s.get w) (hx : V B φ x x') (hk : V B φ k k')
    (h : aMapDelete E s argTypes x k = some s') :
    ∃ w', (Builtin.delete_ argTypes ty #[x', k']).run E.P w = .ok (.tuple #[]) w' ∧ Step s.next φ w φ w' ∧ R B w₀ φ s'.get w' ∧ (s.Fresh → s'.Fresh) ∧ s'.next = s.next := by
  unfold aMapDelete at h
  split at h
  next => simp at h
  next t ht =>
    split at h
    next kt et f hd =>
      split at h
      next d es hkd hg =>
        split at h
        next hok =>
          have hfl : flat k = true := by unfold keyOk at hok; simp only [Bool.and_eq_true] at hok; exact hok.1
          obtain rfl := hk.flat_right hfl
          rcases run_entries hE hR hx (by simp [aEntries, hg] : aEntries s (.map (some f)) = some es) with ⟨h1, _⟩ | ⟨f', kb, ces, clock, h1, rfl, h2, h3, h4, h5, h6, h7⟩
          · simp at h1
          · cases h1
            have hget := run_getMap hE h4
            have hset : ∀ o', (setObj kb.b o').run E.P w = .ok () { w with heap := w.heap.setIfInBounds kb.b o' } := fun o' => run_setObj hE h4 (by simp)
            have honly : ∀ e k', φ f e = some k' → e = 0 := fun e k' h' => hR.one _ _ _ h' (by simp [hg])
            have hc := run_checkKey hE hkd hok w
            have hemp : es.isEmpty = ces.isEmpty := by
              rw [Array.isEmpty, h5]
              cases es <;> simp
            rw [hemp] at hc
            have hlen : es.length = ces.toList.length := by simpa using h5.symm
            split at h
            next i a hfa =>
              obtain ⟨r', g1, g2⟩ := run_findKey hE hkd hlen h6 hfa w
              rcases g2 with ⟨g2, _⟩ | ⟨j, b, b', g2, rfl, hb, hj⟩
              · simp at g2
              · cases g2
                cases h
                have hjc : i < ces.size := by rw [h5]; exact hj
                have hm := hR.setObj hE h2 honly (o' := .map (es.eraseIdx i)) (x := .map (ces.eraseIdxIfInBounds i) clock) (by simp) (fun es' he' => by
                  cases he'
                  refine ⟨_, _, by simp [Array.getElem?_setIfInBounds, (hR.lo _ _ _ h2).2]; exact ⟨rfl, rfl⟩, by simp [Array.eraseIdxIfInBounds, hjc, List.length_eraseIdx, hj, h5], fun n y hy => ?_⟩
                  have hce : (ces.eraseIdxIfInBounds i)[n]? = (ces.toList.eraseIdx i)[n]? := by
                    simp only [Array.eraseIdxIfInBounds, hjc, dif_pos]
                    rw [← Array.getElem?_toList, Array.toList_eraseIdx]
                  rw [hce]
                  rw [List.getElem?_eraseIdx] at hy ⊢
                  split at hy
                  next hn =>
                    rw [if_pos hn]
                    have hnl : n < ces.size := by omega
                    obtain ⟨c1, c2⟩ := h6 n y ces[n] hy (by simp [hnl])
                    exact ⟨ces[n], by simp [hnl], c1, h7 n y hy, c2⟩
                  next hn =>
                    rw [if_neg hn]
                    have hnl : n + 1 < ces.size := by rw [h5]; exact (List.getElem?_eq_some_iff.1 hy).1
                    obtain ⟨c1, c2⟩ := h6 (n + 1) y ces[n + 1] hy (by simp [hnl])
                    exact ⟨ces[n + 1], by simp [hnl], c1, h7 (n + 1) y hy, c2⟩) (by simp)
                refine ⟨_, ?_, hm.1, hm.2, fun hf => hf.put _ (by simp [hg]), rfl⟩
                simp [Builtin.delete_, ht, run_desc hE hd, hget, hc, g1, hset]
            next hfa =>
              cases h
              obtain ⟨r', g1, g2⟩ := run_findKey hE hkd hlen h6 hfa w
              rcases g2 with ⟨_, rfl⟩ | ⟨_, _, _, g2, _⟩
              · have hm := hR.setObj hE h2 honly (o' := .map es) (x := .map ces clock) (by simp) (fun es' he' => by
                  cases he'
                  refine ⟨ces, clock, by simp [Array.getElem?_setIfInBounds, (hR.lo _ _ _ h2).2], h5, fun n y hy => ?_⟩
                  have hnl : n < ces.size := by rw [h5]; exact (List.getElem?_eq_some_iff.1 hy).1
                  obtain ⟨c1, c2⟩ := h6 n y ces[n] hy (by simp [hnl])
                  exact ⟨ces[n], by simp [hnl], c1, h7 n y hy, c2⟩) (by simp)
                have hsame : (s.put f (.map es)).get = s.get := by
                  funext m
                  rw [St.get_put]
                  split
                  · rename_i e; rw [e, hg]
                  · rfl
                rw [hsame] at hm
                refine ⟨_, ?_, hm.1, hm.2, id, rfl⟩
                simp [Builtin.delete_, ht, run_desc hE hd, hget, hc, g1, hset]
              · simp at g2
            next => simp at h
        next => simp at h
      next => simp at h
    next => simp at h

theorem e_clear {φ : Phi} {s s' : St} {argTypes : Array TypeId} {ty : TypeId} {x x' v : Value} {w : World} (hR : R B w₀ φ s.get w) (hx : V B φ x x')
    (h : aClear E s argTypes x = some (v, s')) :
    ∃ w', (Builtin.clear_ argTypes ty #[x']).run E.P w = .ok v w' ∧ flat v = true ∧ Step s.next φ w φ w' ∧ R B w₀ φ s'.get w' ∧ (s.Fresh → s'.Fresh) ∧ s'.next = s.next := by
  unfold aClear at h
  split at h
  next t a n c ht =>
    split at h
    next e hd =>
      split at h
      next k z hk hz =>
        split at h
        next hn =>
          subst hn
          cases h
          obtain ⟨c', cap', rfl⟩ : ∃ c' cap', x' = .slice (some c') 0 cap' := by cases hx <;> exact ⟨_, _, rfl⟩
          exact ⟨w, by simp [Builtin.clear_, ht, run_desc hE hd], rfl, Step.refl _ _, hR, id, rfl⟩
        next hn =>
          split at h
          next hzk =>
            obtain ⟨hzk, hpos⟩ := hzk
            cases hw : writeN s a (aZeros z.cells.toList n) with
            | none => simp [hw] at h
            | some s₁ =>
              simp only [hw, Option.map_some, Option.some.injEq, Prod.mk.injEq] at h
              obtain ⟨rfl, rfl⟩ := h
              obtain ⟨c', cap', rfl, hp⟩ : ∃ c' cap', x' = .slice (some c') n cap' ∧ V B φ (.pointer (some a)) (.pointer (some c')) := by
                rcases hx.slice_some with ⟨c', h1, h2, _⟩ | ⟨_, _, c', _, _, _, _, _, _, h1, _, h2⟩ | ⟨e, k, o, _, _, h0, _⟩
                · exact ⟨c', _, h1, h2⟩
                · exact ⟨c', _, h2, h1⟩
                · exact absurd h0 hn
              have hfl := flatL_aZeros (flat_cells (hE.zero _ _ hz).1) n
              obtain ⟨w', f1, f2, f3, f4, f5⟩ := e_write hE hR hp (VL.refl_of_flat' hfl) hw
              refine ⟨w', ?_, rfl, f2, f3, f4, f5⟩
              have hzr : Builtin.zeroCells z.cells n = (aZeros z.cells.toList n).toArray := zeros_row z.cells n (by omega)
              obtain ⟨n', rfl⟩ : ∃ n', n = n' + 1 := ⟨n - 1, by omega⟩
              simp [Builtin.clear_, ht, run_desc hE hd, run_zero hE hz, hzr, f1]
          next => simp at h
      next => simp at h
    next => simp at h
  next => simp at h

/-- A step of a walk along a string. -/
theorem e_next {φ : Phi} {s s' : St} {it it' v : Value} {ty : TypeId} {f : Nat} {b : ByteArray} {pos : Nat} {w : World} (hR : R B w₀ φ s.get w) (hx : V B φ (.pointer (some ⟨f, 0, some 0⟩)) it')
    (hg : s.get f = some (.iter b pos))
    (h : (if pos < b.size then
          let (c, width) := Utf8.decode b pos
          some (.tuple #[.bool true, goInt pos, .int .i32 c], s.put f (.iter b (pos + width)))
        else some (.tuple #[.bool false], s)) = some (v, s')) :
    ∃ w', (Instr.next it' true ty).run E.P w = .ok v w' ∧ flat v = true ∧ Step s.next φ w φ w' ∧ R B w₀ φ s'.get w' ∧ (s.Fresh → s'.Fresh) ∧ s'.next = s.next := by
  cases hx with
  | pold _ _ hs => simp at hs
  | pnew _ _ _ k hk hb =>
    have hit := hR.iter _ _ _ _ _ hg hk
    have hget : (getObj k.b).run E.P w = .ok (.stringIter b pos) w := by simp [getObj, Sem.run, hit]
    have hset : ∀ o', (setObj k.b o').run E.P w = .ok () { w with heap := w.heap.setIfInBounds k.b o' } := fun o' => run_setObj hE hit (by simp)
    have honly : ∀ e k', φ f e = some k' → e = 0 := fun e k' h' => hR.one _ _ _ h' (by simp [hg])
    rw [Nat.zero_sub]
    split at h
    next hp =>
      simp only [Option.some.injEq, Prod.mk.injEq] at h
      obtain ⟨rfl, rfl⟩ := h
      have hm := hR.setObj hE hk honly (o' := .iter b (pos + (Utf8.decode b pos).2)) (x := .stringIter b (pos + (Utf8.decode b pos).2)) (by simp) (by simp) (fun _ _ he => by cases he; rfl)
      refine ⟨_, ?_, rfl, hm.1, hm.2, fun hf => hf.put _ (by simp [hg]), rfl⟩
      simp [Instr.next, hget, hp, hset]
    next hp =>
      cases h
      exact ⟨w, by simp [Instr.next, hget, hp], rfl, Step.refl _ _, hR, id, rfl⟩


/-- What an operation of the short run that is no call comes to. -/
def Met (E : Env) (B : Nat) (w₀ : World) (φ : Phi) (w : World) (m : Sem Next) (v : Value) (s s' : St) : Prop :=
  ∃ φ' v' w', (m.run E.P w = .ok (.value v') w' ∨ (m.run E.P w = .ok .skip w' ∧ v' = undef)) ∧ Step s.next φ w φ' w' ∧ R B w₀ φ' s'.get w' ∧ V B φ' v v' ∧ s'.Fresh ∧ s.next ≤ s'.next

theorem V.undef_refl (φ : Phi) : V B φ undef undef := V.refl_of_flat B φ undef (by rfl)

theorem aVal_sim {φ : Phi} {ρ ρ' : Operand → Value} {o : Oper} {s s' : St} {v : Value} {w : World} (hR : R B w₀ φ s.get w) (hF : s.Fresh) (hρ : ∀ x ∈ o.op.operands, V B φ (ρ x) (ρ' x)) (hs : shapeOk o.op = true)
    (h : aVal E ρ o s = some (v, s')) : Met E B w₀ φ w (execOp ρ' o) v s s' := by
  have wrap : ∀ {m : Sem Value} {v' : Value} {w w' : World}, m.run E.P w = .ok v' w' → (do pure (.value (← m)) : Sem Next).run E.P w = .ok (.value v') w' := by
    intro m v' w w' hm; rw [Sem.run_bind, hm]; rfl
  have wrapU : ∀ {m : Sem Unit} {w w' : World}, m.run E.P w = .ok () w' → (do m; pure .skip : Sem Next).run E.P w = .ok .skip w' := by
    intro m w w' hm; rw [Sem.run_bind, hm]; rfl
  by_cases hq : quietOp E o.op = true
  · obtain ⟨rfl, v', h1, h2⟩ := aVal_quiet hE hR hρ hs hq h
    exact ⟨φ, v', w, .inl h1, Step.refl _ _, hR, h2, hF, Nat.le_refl _⟩
  by_cases ha : allocOp E o.op = true
  · obtain ⟨obj, rfl, hm⟩ := aVal_alloc hE (B := B) (w₀ := w₀) ha h
    obtain ⟨k, v', w', h1, h2, h3, h4⟩ := hm s.get φ w ρ' hR (hR.noneAt hF) hρ
    refine ⟨_, v', w', .inl h1, h2, ?_, h4, hF.push _, by simp [St.push]⟩
    rw [show (s.push obj).get = _ from funext fun m => St.get_push _ _ _]
    exact h3
  obtain ⟨dst, op, ty, pos, after, guard⟩ := o
  unfold aVal at h
  unfold Met execOp
  cases op <;> simp only [quietOp, allocOp, not_true, Bool.not_eq_true, Bool.true_eq_false, reduceCtorEq] at hq ha <;> simp only [Op.operands] at hρ <;> simp only [reduceCtorEq] at h ⊢
  case store t a x =>
    cases hst : aStore E s t (ρ a) (ρ x) with
    | none => simp [hst] at h
    | some s₁ =>
      simp only [hst, Option.map_some, Option.some.injEq, Prod.mk.injEq] at h
      obtain ⟨rfl, rfl⟩ := h
      obtain ⟨w', h1, h2, h3, h4, h5⟩ := e_store hE hR (hρ a (by simp)) (hρ x (by simp)) hst
      exact ⟨φ, undef, w', .inr ⟨wrapU h1, rfl⟩, h2, h3, V.undef_refl hE φ, h4 hF, by rw [h5]; exact Nat.le_refl _⟩
  case mapUpdate t m k x =>
    cases hst : aMapUpdate E s t (ρ m) (ρ k) (ρ x) with
    | none => simp [hst] at h
    | some s₁ =>
      simp only [hst, Option.map_some, Option.some.injEq, Prod.mk.injEq] at h
      obtain ⟨rfl, rfl⟩ := h
      obtain ⟨w', h1, h2, h3, h4, h5⟩ := e_mapUpdate hE hR (hρ m (by simp)) (hρ k (by simp)) (hρ x (by simp)) hst
      exact ⟨φ, undef, w', .inr ⟨wrapU h1, rfl⟩, h2, h3, V.undef_refl hE φ, h4 hF, by rw [h5]; exact Nat.le_refl _⟩
  case next it str =>
    cases str with
    | false => simp at h
    | true =>
      simp only at h
      split at h
      next f hit =>
        split at h
        next b pos' hg =>
          have hx := hρ it (by simp)
          rw [hit] at hx
          obtain ⟨w', h1, h2, h3, h4, h5, h6⟩ := e_next hE (it := ρ it) (ty := ty) hR hx hg h
          exact ⟨φ, v, w', .inl (wrap h1), h3, h4, V.refl_of_flat B φ v h2, h5 hF, by rw [h6]; exact Nat.le_refl _⟩
        next => simp at h
      next => simp at h
  case makeMap t r =>
    cases r with
    | none => simp at ha
    | some r => simp at h
  case convert src dst x => simp_all
  case call c =>
    obtain ⟨callee, args, argTypes⟩ := c
    cases callee with
    | value f => simp at h
    | invoke r m => simp at h
    | builtin b =>
      simp only at h
      have hargs : ∀ (i : Nat) (x : Operand), args.toList[i]? = some x → V B φ (ρ x) (ρ' x) := fun i x hx => hρ x (by
        simp only [Call.operands, List.append_toArray, List.nil_append]
        simpa using Array.mem_of_getElem? (by simpa using hx))
      have hfin : ∀ {m : Sem Next} {nx : Next} {w' : World}, (∀ cs, builtin b argTypes ty cs (args.map ρ') = m) → m.run E.P w = .ok nx w' →
          (do let d ← resolve ρ' { callee := .builtin b, args := args, argTypes := argTypes } ty; invoke d.target d.args : Sem Next).run E.P w = .ok nx w' := by
        intro m nx w' hm hr
        simp only [resolve, Sem.run_bind, Sem.run_pure, Result.andThen_ok, invoke, hm]
        exact hr
      unfold aBuiltin at h
      split at h
      next hl => simp at hq
      next hl => simp at hq
      next x y hl =>
        obtain ⟨x₁, y₁, hxy⟩ : ∃ x₁ y₁, args = #[x₁, y₁] := by
          obtain ⟨l⟩ := args
          match l, hl with
          | [a, b], _ => exact ⟨a, b, rfl⟩
        subst hxy
        simp only [List.map_cons, List.map_nil, List.cons.injEq, and_true] at hl
        obtain ⟨rfl, rfl⟩ := hl
        obtain ⟨φ', v', w', h1, h2⟩ := e_append hE (ty := ty) hR hF (hargs 0 x₁ rfl) (hargs 1 y₁ rfl) h
        exact ⟨φ', v', w', .inl (hfin (fun cs => rfl) (wrap (by simpa using h1))), h2⟩
      next x y hl =>
        obtain ⟨x₁, y₁, hxy⟩ : ∃ x₁ y₁, args = #[x₁, y₁] := by
          obtain ⟨l⟩ := args
          match l, hl with
          | [a, b], _ => exact ⟨a, b, rfl⟩
        subst hxy
        simp only [List.map_cons, List.map_nil, List.cons.injEq, and_true] at hl
        obtain ⟨rfl, rfl⟩ := hl
        obtain ⟨v', w', h1, h2⟩ := e_copy hE (ty := ty) hR hF (hargs 0 x₁ rfl) (hargs 1 y₁ rfl) h
        exact ⟨φ, v', w', .inl (hfin (fun cs => rfl) (wrap (by simpa using h1))), h2⟩
      next x hl =>
        obtain ⟨x₁, hxy⟩ : ∃ x₁, args = #[x₁] := by
          obtain ⟨l⟩ := args
          match l, hl with
          | [a], _ => exact ⟨a, rfl⟩
        subst hxy
        simp only [List.map_cons, List.map_nil, List.cons.injEq, and_true] at hl
        subst hl
        obtain ⟨w', h1, h2, h3, h4, h5, h6⟩ := e_clear hE (ty := ty) hR (hargs 0 x₁ rfl) h
        exact ⟨φ, v, w', .inl (hfin (fun cs => rfl) (wrap (by simpa using h1))), h3, h4, V.refl_of_flat B φ v h2, h5 hF, by rw [h6]; exact Nat.le_refl _⟩
      next x y hl =>
        obtain ⟨x₁, y₁, hxy⟩ : ∃ x₁ y₁, args = #[x₁, y₁] := by
          obtain ⟨l⟩ := args
          match l, hl with
          | [a, b], _ => exact ⟨a, b, rfl⟩
        subst hxy
        simp only [List.map_cons, List.map_nil, List.cons.injEq, and_true] at hl
        obtain ⟨rfl, rfl⟩ := hl
        cases hst : aMapDelete E s argTypes (ρ x₁) (ρ y₁) with
        | none => simp [hst] at h
        | some s₁ =>
          simp only [hst, Option.map_some, Option.some.injEq, Prod.mk.injEq] at h
          obtain ⟨rfl, rfl⟩ := h
          obtain ⟨w', h1, h2, h3, h4, h5⟩ := e_mapDelete hE (ty := ty) hR (hargs 0 x₁ rfl) (hargs 1 y₁ rfl) hst
          exact ⟨φ, .tuple #[], w', .inl (hfin (fun cs => rfl) (wrap (by simpa using h1))), h2, h3, V.refl_of_flat B φ _ (by rfl), h4 hF, by rw [h5]; exact Nat.le_refl _⟩
      next hl => simp at hq
      next hl => simp at hq
      next => simp at h
  all_goals simp_all

end

end Go.Ai
