/-
  THE SHORT RUN, 25: statements whose order is open: one operation more.
-/
import Derived.Test.YtiabpbememhdeaaDoorAiX
set_option linter.unusedSimpArgs false
set_option linter.unusedVariables false
set_option linter.unusedSectionVars false
namespace Go.Ai
open Go

theorem Closed.add {ops : Array Oper} {D : Nat → Prop} (hc : Closed ops D) {i : Nat} (hb : ∀ j, bit ops i j = true → D j) : Closed ops (fun j => j = i ∨ D j) := by
  intro j hj k hk
  rcases hj with rfl | hj
  · exact .inr (hb _ hk)
  · exact .inr (hc _ hj _ hk)

/-- Fewer numbers at the end of a step. -/
theorem Step.to_low {n m : Nat} {φ φ' : Phi} {w w' : World} (h : Step n φ w φ' w') (hn : ∀ f e b, φ f e = some b → f < m) : Step n φ w (low m φ') w' :=
  ⟨fun f e b hb => low_of (h.ext _ _ _ hb) (hn _ _ _ hb), fun f e b hb => h.new _ _ _ (low_some hb).1, h.frame, h.size, h.os, h.tape, h.output, fun f e b hb => h.fam _ _ _ (low_some hb).1⟩

theorem aStore_at {E : Env} {s s' : St} {t : TypeId} {x v : Value} (h : aStore E s t x v = some s') :
    ∃ a obj, x = .pointer (some a) ∧ a.spot.isSome = true ∧ s' = s.put a.block obj ∧ ∀ σ : St, σ.get a.block = s.get a.block → aStore E σ t x v = some (σ.put a.block obj) := by
  unfold aStore at h
  split at h
  next a =>
    split at h
    next => simp at h
    next n hn =>
      split at h
      next hc =>
        unfold writeN at h
        split at h
        next => simp at h
        next e he =>
          split at h
          next cells esz ep lw hist hg =>
            split at h
            next hcc =>
              cases h
              refine ⟨a, _, rfl, by simp [he], rfl, fun σ hσ => ?_⟩
              simp only [aStore, hn, hc, if_true, writeN, he, hσ, hg, hcc]
              rfl
            next => simp at h
          next => simp at h
      next => simp at h
  next => simp at h

section
variable {E : Env} {B : Nat} {w₀ : World} {call : Caller} {ops : Array Oper} {ents : List Ent} {sN : St} {aN : AAct} {pn : Option (Nat × Value × St)}

theorem Opened.operOk (O : Opened E call ops ents sN aN pn) {i : Nat} {x : Ent} (hx : ents[i]? = some x) : (∀ q ∈ x.o.op.operands, opndOk E.P q = true) ∧ shapeOk x.o.op = true := by
  have hoo : Go.Ai.operOk E.P x.o = true := O.ok x.o (by
    have := Array.mem_of_getElem? (O.ent i x hx).1
    simpa using this)
  unfold Go.Ai.operOk at hoo
  simp only [Bool.and_eq_true, Array.all_eq_true_iff_forall_mem] at hoo
  exact hoo

/-- What is ready names what it named in the text's order. -/
theorem Opened.same_eval (O : Opened E call ops ents sN aN pn) {D : Nat → Prop} (hc : Closed ops D) {i : Nat} {x : Ent} (hx : ents[i]? = some x) (hi : ¬ D i) (hb : ∀ j, bit ops i j = true → D j) {aD : AAct}
    (hl : aD.tmps.length = (acAt ents aN 0).tmps.length) (hD : ∀ t v, TV ents (acAt ents aN 0) D t v → aD.tmps[t]? = some v) :
    (∀ q ∈ x.o.op.operands, aD.eval q = x.a.eval q) ∧ aWanted ops aD.tmps x.o = aWanted ops x.a.tmps x.o := by
  have hlen : x.a.tmps.length = (acAt ents aN 0).tmps.length := by
    rw [(O.ent i x hx).2.2.1]
    exact (O.act i (Nat.le_of_lt (List.getElem?_eq_some_iff.1 hx).1)).1
  have key : ∀ t, t ∈ namesOf ops x.o → aD.tmps[t]? = x.a.tmps[t]? := by
    intro t ht
    cases hv : x.a.tmps[t]? with
    | some v => exact hD t v (O.ready_tmp hc hx hi hb ht hv)
    | none =>
      rw [List.getElem?_eq_none_iff] at hv ⊢
      rw [hl, ← hlen]
      exact hv
  constructor
  · intro q hq
    cases q with
    | tmp t =>
      have := key t (by
        unfold namesOf Oper.looksAt
        simp only [List.mem_append, List.mem_filterMap]
        exact .inr (.inl ⟨.tmp t, by simpa using hq, rfl⟩))
      simp only [AAct.eval, List.getD_eq_getElem?_getD, this]
    | _ => rfl
  · unfold aWanted
    cases hg : x.o.guard with
    | none => rfl
    | some jw =>
      obtain ⟨j, want⟩ := jw
      simp only
      cases hd : (ops[j]?).bind (·.dst) with
      | none => simp
      | some d =>
        have := key d (by
          unfold namesOf Oper.looksAt
          simp only [List.mem_append]
          exact .inr (.inr (by simp [hg, hd])))
        simp only [Option.bind_some, this]

/-- What holds when the operations D have run. -/
def Inv (B : Nat) (w₀ : World) (ops : Array Oper) (ents : List Ent) (sN : St) (aN : AAct) (φ0 : Phi) (wI : World) (D : Nat → Prop) (ca : Act) (w : World) : Prop :=
  ∃ φ aD, Step (stAt ents sN 0).next φ0 wI φ w ∧ Dom ents sN D φ ∧ VAct B φ aD ca ∧ aD.tmps.length = (acAt ents aN 0).tmps.length ∧ aD.defers = (acAt ents aN 0).defers ∧
    (∀ t v, TV ents (acAt ents aN 0) D t v → aD.tmps[t]? = some v) ∧ Mem B w₀ ops ents sN φ D w

theorem Mem.some {φ : Phi} {D : Nat → Prop} {w : World} (h : Mem B w₀ ops ents sN φ D w) : ∃ σ : St, R B w₀ φ σ.get w := by
  rcases h with ⟨y, c, _, _, _, h⟩ | ⟨_, σ, h, _⟩
  · exact ⟨_, h⟩
  · exact ⟨_, h⟩

/-- An operation that looks at no memory. -/
theorem plain_wp (hE : E.Fine B w₀) {φ : Phi} {σ : St} {w : World} {ca : Act} {x : Ent} (hP : Plainly E x) (hR : R B w₀ φ σ.get w) (hρ : ∀ q ∈ x.o.op.operands, V B φ (x.a.eval q) (ca.eval q)) (hs : shapeOk x.o.op = true)
    {K : Act → World → Prop} {Q : Exit → Act → World → Prop} (hK : ∀ w' v', Grew w w' → V B φ x.v v' → K (ca.put x.o.dst v') w') : x.o.wp E.P ca w K Q := by
  unfold Oper.wp
  rcases hP with ⟨h1, h2⟩ | ⟨f, args, ats, g, first, captured, F, h1, h2, h3, h4⟩
  · obtain ⟨_, v', g1, g2⟩ := aVal_quiet hE.toOk hR hρ hs h1 (h2 σ)
    rw [g1]
    exact hK w v' (Grew.refl w) g2
  · simp only [h1, Op.operands, Call.operands] at hρ
    have hf := hρ f (by simp)
    have hargs : VA B φ (args.map x.a.eval) (args.map ca.eval) := VA.map args fun y hy => hρ y (by simp [hy])
    rw [h2] at hf
    generalize hcf : ca.eval f = cf at hf
    cases hf with
    | func _ k1 k2 k3 k4 =>
      rename_i first' captured'
      have hrun : (execOp ca.eval x.o).run E.P w = (callFunc g ((first' ++ args.map ca.eval) ++ captured')).run E.P w := by
        simp only [execOp, h1, resolve, Sem.run_bind, hcf, Deferred.ofValue, Sem.run_pure, Result.andThen_ok, invoke]
      rw [hrun]
      obtain ⟨p1, p2, p3⟩ := hE.known _ _ _ _ h3 h4
      have e1 : VL B φ first.toList first'.toList := VA.toList ⟨k1, k2⟩
      have e2 : VL B φ captured.toList captured'.toList := VA.toList ⟨k3, k4⟩
      have e3 := hargs.toList
      simp only [Array.toList_map] at e3
      have e4 := VL.append hE.toOk (VL.append hE.toOk e1 e3) e2
      have hflat := e4.flat p1
      have hca : (first' ++ args.map ca.eval) ++ captured' = (first.toList ++ args.toList.map x.a.eval ++ captured.toList).toArray := by
        apply Array.toList_inj.1
        simp only [Array.toList_append, Array.toList_map]
        exact hflat
      rw [hca]
      have hvv := V.refl_of_flat B φ x.v p2
      rcases p3 w hR.old hR.size with p4 | ⟨p4, p5⟩
      · rw [p4]
        exact hK w x.v (Grew.refl w) hvv
      · rw [p4]
        refine p5.mono ?_
        rintro e w' ⟨rfl, hw⟩
        exact hK w' x.v hw hvv

/-- What memory an operation that does something can know. -/
theorem Known.known_low (hE : E.Fine B w₀) (O : Known E call ops ents sN aN pn) {D : Nat → Prop} (hc : Closed ops D) {φ : Phi} (hdom : Dom ents sN D φ) {y : Ent} {c : Nat} (hy : Eff (Region.before ops) ents y c) (hD : ¬ D c) :
    ((∀ f e b, φ f e = some b → f < (stAt ents sN c).next) ∨ (underSt (stAt ents sN c) = true ∧ ∀ q ∈ y.o.op.operands, under (stAt ents sN c).next (y.a.eval q) = true)) ∧
    ∀ f e b, φ f e = some b → f < (stAt ents sN c).next ∨ (stAt ents sN (c + 1)).next ≤ f := by
  obtain ⟨hb1, hb2⟩ := O.behind hc hy hD
  have hcase : ∀ f e b, φ f e = some b → f < (stAt ents sN c).next ∨ ∃ j x, c < j ∧ D j ∧ ents[j]? = some x ∧ x.cls = 2 ∧ (stAt ents sN (c + 1)).next ≤ f := by
    intro f e b hb
    rcases hdom f e b hb with h | ⟨j, x, h1, h2, h3, h4⟩
    · exact .inl (Nat.lt_of_lt_of_le h (O.mono (Nat.zero_le _)))
    · rcases Nat.lt_trichotomy j c with h | h | h
      · exact .inl (Nat.lt_of_lt_of_le h4 (O.mono (show j + 1 ≤ c from h)))
      · exact absurd (h ▸ h1) hD
      · have h3' : x.cls ≠ 3 := by
          intro hcls
          rcases eff_or_tail (bits := Region.before ops) h2 (isEff_cls.2 (.inl hcls)) with h7 | h7
          · exact hb2 _ _ h7 (Nat.le_of_lt h) h1
          · exact hb1 _ _ h7 h1
        exact .inr ⟨j, x, h, h1, h2, (O.gap hE h2 h3' h3 h4).1, Nat.le_trans (O.mono (show c + 1 ≤ j from h)) h3⟩
  refine ⟨?_, fun f e b hb => ?_⟩
  · have hk := O.good.knows y c hy
    unfold knowsOk at hk
    rw [Bool.or_eq_true] at hk
    rcases hk with hk | hk
    · left
      intro f e b hb
      rcases hcase f e b hb with h | ⟨j, x, h1, h2, h3, h4, _⟩
      · exact h
      · exfalso
        rw [List.all_eq_true] at hk
        have := hk _ (mem_zip.2 h3)
        simp only [h4, ne_eq, not_true, decide_false, Bool.false_or, Bool.or_eq_true, decide_eq_true_eq] at this
        rcases this with h | h
        · omega
        · exact hD (hc j h2 c h)
    · right
      simp only [Bool.and_eq_true, Array.all_eq_true_iff_forall_mem] at hk
      rw [(O.ent c y hy.1).2.1] at hk
      exact hk
  · rcases hcase f e b hb with h | ⟨j, x, _, _, _, _, h⟩
    · exact .inl h
    · exact .inr h

theorem Mem.at {φ : Phi} {D : Nat → Prop} {w : World} (O : Known E call ops ents sN aN pn) (hc : Closed ops D) (h : Mem B w₀ ops ents sN φ D w) {x : Ent} {i : Nat} (hx : Eff (Region.before ops) ents x i) (hi : ¬ D i) (hb : ∀ j, bit ops i j = true → D j) :
    (∀ z k, Eff (Region.before ops) ents z k → k < i → D k) ∧ R B w₀ φ (withMade i ents.zipIdx (stAt ents sN i)).get w := by
  rcases h with ⟨y, c, h1, h2, h3, h4⟩ | ⟨h1, _⟩
  · have : i = c := by
      rcases Nat.lt_trichotomy i c with h | h | h
      · exact absurd (h3 _ _ hx h) hi
      · exact h
      · exact absurd (hb c (O.good.inRow _ _ _ _ h1 hx h)) h2
    subst this
    exact ⟨h3, h4⟩
  · exact absurd (h1 _ _ hx) hi

/-- An operation that does something. -/
theorem Known.effect (hE : E.Fine B w₀) (hcall : CallOk E B w₀ call) (O : Known E call ops ents sN aN pn) {D : Nat → Prop} (hc : Closed ops D) {φ : Phi} {w : World} {ca : Act} (hdom : Dom ents sN D φ) (hM : Mem B w₀ ops ents sN φ D w)
    {i : Nat} {x : Ent} (hx : Eff (Region.before ops) ents x i) (hi : ¬ D i) (hb : ∀ j, bit ops i j = true → D j) (hρ : ∀ q ∈ x.o.op.operands, V B φ (x.a.eval q) (ca.eval q))
    {K : Act → World → Prop} {Q : Exit → Act → World → Prop}
    (hK : x.cls = 3 → ∀ φ' w' v', Step (stAt ents sN i).next φ w φ' w' → Dom ents sN (fun j => j = i ∨ D j) φ' → Mem B w₀ ops ents sN φ' (fun j => j = i ∨ D j) w' → V B φ' x.v v' → K (ca.put x.o.dst v') w')
    (hQ : ∀ v s', pn = some (i, v, s') → ∀ φ' w' v', Step (stAt ents sN i).next (low (stAt ents sN i).next φ) w φ' w' → R B w₀ φ' s'.get w' → s'.Fresh → (stAt ents sN i).next ≤ s'.next → V B φ' v v' → Q (.panic [{ v := v', recovered := false }]) ca w') :
    x.o.wp E.P ca w K Q := by
  obtain ⟨g1, g2, g3, g4⟩ := O.ent i x hx.1
  obtain ⟨hbefore, hR⟩ := hM.at O hc hx hi hb
  obtain ⟨hknow, hgap⟩ := O.known_low hE hc hdom hx hi
  have hcut := O.cut hE i
  have hF := O.fresh i
  have hRl : R B w₀ (low (stAt ents sN i).next φ) (stAt ents sN i).get w := hR.cut_low hcut.lo (hknow.imp id fun h => h.1)
  have hρl : ∀ q ∈ x.o.op.operands, V B (low (stAt ents sN i).next φ) (x.a.eval q) (ca.eval q) := by
    intro q hq
    rcases hknow with h | ⟨_, h⟩
    · exact (hρ q hq).mono fun f e k hk => low_of hk (h _ _ _ hk)
    · exact (hρ q hq).cut_low (h q hq)
  have hsh := (O.operOk hx.1).2
  have hcls := isEff_cls.1 hx.2.1
  rcases hcls with hcls | hcls
  · obtain ⟨_, h1, h2⟩ := g4.does hcls
    rw [g2] at h2
    refine aOp_sim hE hcall hRl hF (fun q hq _ => hρl q hq) hsh h2 ?_
    intro φ' w' v' k1 k2 k3 k4 k5
    obtain ⟨j1, j2, j3⟩ := hR.join_low k1 k2 k4 k5 hgap
    have hc' := hc.add hb
    obtain ⟨hb1, hb2⟩ := O.behind hc hx hi
    have hdom' : Dom ents sN (fun j => j = i ∨ D j) (joined (stAt ents sN (i + 1)).next φ' φ) := by
      intro f e b hfb
      have old : ∀ e₀ k₀, φ f e₀ = some k₀ → f < (stAt ents sN 0).next ∨ ∃ j x, (j = i ∨ D j) ∧ ents[j]? = some x ∧ (stAt ents sN j).next ≤ f ∧ f < (stAt ents sN (j + 1)).next := by
        intro e₀ k₀ h₀
        rcases hdom f e₀ k₀ h₀ with h | ⟨j, z, h1, h2⟩
        · exact .inl h
        · exact .inr ⟨j, z, .inr h1, h2⟩
      unfold joined at hfb
      split at hfb
      next hl =>
        rcases k1.fam _ _ _ hfb with ⟨e₀, k₀, h₀⟩ | h₀
        · exact old _ _ (low_some h₀).1
        · exact .inr ⟨i, x, .inl rfl, hx.1, h₀, hl⟩
      next => exact old _ _ hfb
    refine hK hcls _ w' v' j1 hdom' ?_ (k3.mono j3)
    refine O.advance hE hc' j2 hdom' (k0 := i + 1) (.inr ⟨x, i, hx, rfl⟩) (fun z k hz hk => ?_) (fun z k hz hk => ?_) (fun z k hz hk => ?_) (fun f hf => if_pos hf) (fun j z hz hzc hij hDj => ?_)
    · rcases Nat.lt_or_ge k i with h | h
      · exact .inr (hbefore _ _ hz h)
      · exact .inl (by omega)
    · rintro (h | h)
      · omega
      · exact hb2 _ _ hz (by omega) h
    · rcases hk with h | h
      · subst h
        have h5 := hx.2.2
        have h6 := hz.2.2
        have h7 := hz.1
        rw [hx.1] at h7
        cases h7
        rw [h5] at h6
        simp at h6
      · exact hb1 _ _ hz h
    · have := O.mono hij
      rw [if_neg (by omega)]
      exact hcut.hi j z hz hzc hij
  · obtain ⟨_, _, _, v, s', h2, h3⟩ := g4.pan hcls
    rw [g2] at h2
    refine aOp_sim hE hcall hRl hF (fun q hq _ => hρl q hq) hsh h2 ?_
    intro φ' w' v' k1 k2 k3 k4 k5
    exact hQ v s' h3 φ' w' v' k1 k2 k4 k5 k3

/-- A store at the end. -/
theorem Known.tail (hE : E.Fine B w₀) (hcall : CallOk E B w₀ call) (O : Known E call ops ents sN aN pn) {D : Nat → Prop} (hc : Closed ops D) {φ : Phi} {w : World} {ca : Act} (hdom : Dom ents sN D φ) (hM : Mem B w₀ ops ents sN φ D w)
    {i : Nat} {x : Ent} (hx : Tail (Region.before ops) ents x i) (hi : ¬ D i) (hb : ∀ j, bit ops i j = true → D j) (hρ : ∀ q ∈ x.o.op.operands, V B φ (x.a.eval q) (ca.eval q))
    {K : Act → World → Prop} {Q : Exit → Act → World → Prop}
    (hK : ∀ w' v' n, (stAt ents sN 0).next ≤ n → Step n φ w φ w' → Mem B w₀ ops ents sN φ (fun j => j = i ∨ D j) w' → V B φ x.v v' → K (ca.put x.o.dst v') w') :
    x.o.wp E.P ca w K Q := by
  obtain ⟨g1, g2, g3, g4⟩ := O.ent i x hx.1
  obtain ⟨t1, t2, t3⟩ := isTail_spec hx.2.2
  obtain ⟨_, h1, h2⟩ := g4.does t1
  have hstore : ∀ (y : Ent) (j : Nat), Tail (Region.before ops) ents y j → ∃ t p q a obj, y.o.op = .store t p q ∧ y.a.eval p = .pointer (some a) ∧ storeTo y = some a.block ∧ stAt ents sN (j + 1) = (stAt ents sN j).put a.block obj ∧ y.v = undef ∧
      ∀ σ : St, σ.get a.block = (stAt ents sN j).get a.block → aStore E σ t (y.a.eval p) (y.a.eval q) = some (σ.put a.block obj) := by
    intro y j hy
    obtain ⟨u1, u2, u3⟩ := isTail_spec hy.2.2
    obtain ⟨k1, k2, k3, k4⟩ := O.ent j y hy.1
    obtain ⟨_, k5, k6⟩ := k4.does u1
    cases hop : y.o.op <;> simp only [hop, isStore, Bool.false_eq_true] at u2
    rename_i t p q
    have hst : (aStore E y.s t (y.a.eval p) (y.a.eval q)).map (undef, ·) = some (y.v, stAt ents sN (j + 1)) := by
      have k6 := (aOp_clean k6).2
      unfold aOpC at k6
      simp only [hop, aVal] at k6
      cases hh : aStore E y.s t (y.a.eval p) (y.a.eval q) with
      | none => simp [hh] at k6
      | some s₁ =>
        simp only [hh, Option.map_some, Option.some.injEq, Rs.val.injEq] at k6
        simp [k6.1, k6.2]
    cases hh : aStore E y.s t (y.a.eval p) (y.a.eval q) with
    | none => simp [hh] at hst
    | some s₁ =>
      simp only [hh, Option.map_some, Option.some.injEq, Prod.mk.injEq] at hst
      obtain ⟨a, obj, p1, p2, p3, p4⟩ := aStore_at hh
      refine ⟨t, p, q, a, obj, rfl, p1, ?_, ?_, hst.1.symm, ?_⟩
      · unfold storeTo
        simp only [hop, p1, p2, if_true]
      · rw [← hst.2, p3, k2]
      · rw [← k2]; exact p4
  have other : ∀ (y : Ent) (j : Nat), Tail (Region.before ops) ents y j → ∀ f, storeTo y ≠ some f → (stAt ents sN (j + 1)).get f = (stAt ents sN j).get f := by
    intro y j hy f hf
    obtain ⟨t, p, q, a, obj, p1, p2, p3, p4, _⟩ := hstore y j hy
    rw [p4, St.get_put, if_neg]
    rintro rfl
    exact hf p3
  obtain ⟨t, p, q, a, obj, p1, p2, p3, p4, p5, p6⟩ := hstore x i hx
  obtain ⟨m, hm, hml, hmt, hme, hmo, hmm, hcut⟩ := O.mid hE
  -- the stores to the same number that have run are those that stand ahead of this one
  have hsame : ∀ y j, Tail (Region.before ops) ents y j → storeTo y = some a.block → (D j ↔ j < i) := by
    intro y j hy hys
    rcases Nat.lt_trichotomy j i with h | h | h
    · refine ⟨fun _ => h, fun _ => ?_⟩
      rcases O.good.apart _ _ _ _ hy hx h with h5 | h5
      · exact hb _ h5
      · simp [apartStores, hys, p3] at h5
    · subst h
      exact ⟨fun h => absurd h hi, fun h => by omega⟩
    · refine ⟨fun hj => ?_, fun h => by omega⟩
      rcases O.good.apart _ _ _ _ hx hy h with h5 | h5
      · exact absurd (hc j hj i h5) hi
      · simp [apartStores, hys, p3] at h5
  rcases hM with ⟨y, c, h1, h2, _⟩ | ⟨hall, σ, hR, hlast⟩
  · exact absurd (hb c (O.good.last _ _ _ _ h1 hx)) h2
  have hσ : σ.get a.block = (stAt ents sN i).get a.block := by
    have walk : ∀ k, m ≤ k → k ≤ i → (∀ y j, Tail (Region.before ops) ents y j → k ≤ j → j < i → storeTo y ≠ some a.block) → (stAt ents sN i).get a.block = (stAt ents sN k).get a.block := by
      intro k hmk hki hno
      refine O.keep hE i hki (fun j z h5 h6 hz hzc => ?_) (.inr fun j z h5 h6 hz hzc => ?_)
      · rcases eff_or_tail (bits := Region.before ops) hz (isEff_cls.2 (.inl hzc)) with h7 | h7
        · have := hme _ _ h7; omega
        · exact other z j h7 _ (hno z j h7 h5 h6)
      · have := hmm _ _ hz hzc; omega
    rcases hlast a.block with ⟨t', k, q1, q2, q3, q4, q5⟩ | ⟨q1, q2⟩
    · rw [q5]
      have hki := (hsame _ _ q1 q3).1 q2
      refine (walk (k + 1) (by have := hmt _ _ q1; omega) hki fun y j hy hj hji hys => ?_).symm
      have := q4 y j hy ((hsame _ _ hy hys).2 hji) hys
      omega
    · rw [q2, hm]
      exact (walk m (Nat.le_refl _) (hmt _ _ hx) fun y j hy hj hji hys => q1 _ _ hy ((hsame _ _ hy hys).2 hji) hys).symm
  have hst := p6 σ hσ
  simp only [p1, Op.operands] at hρ
  obtain ⟨w', e1, e2, e3, e4, e5⟩ := e_store hE.toOk hR (hρ p (by simp)) (hρ q (by simp)) hst
  have hrun : (execOp ca.eval x.o).run E.P w = .ok .skip w' := by
    simp only [execOp, p1, Sem.run_bind, e1, Result.andThen_ok, Sem.run_pure]
  unfold Oper.wp
  rw [hrun]
  refine hK w' undef (stAt ents sN 0).next (Nat.le_refl _) ⟨e2.ext, e2.new, e2.frame, e2.size, e2.os, e2.tape, e2.output, fun f e k hk => .inl ⟨_, _, hk⟩⟩ ?_ (by rw [p5]; exact V.undef_refl hE.toOk φ)
  refine .inr ⟨fun z k hz => .inr (hall _ _ hz), _, e3, fun f => ?_⟩
  rw [St.get_put]
  by_cases hf : f = a.block
  · rw [if_pos hf, hf]
    refine .inl ⟨x, i, hx, .inl rfl, p3, fun t' k' ht hk hs => ?_, by rw [p4, St.get_put, if_pos rfl]⟩
    rcases hk with hk | hk
    · omega
    · have := (hsame _ _ ht hs).1 hk; omega
  · rw [if_neg hf]
    have hxf : storeTo x ≠ some f := by rw [p3]; simpa using fun h => hf h.symm
    have hne : ∀ t' k', Tail (Region.before ops) ents t' k' → storeTo t' = some f → k' ≠ i := by
      rintro t' k' ht hs rfl
      have := ht.1
      rw [hx.1] at this
      cases this
      exact hxf hs
    rcases hlast f with ⟨t', k, q1, q2, q3, q4, q5⟩ | ⟨q1, q2⟩
    · exact .inl ⟨t', k, q1, .inr q2, q3, fun t' k' ht hk hs => q4 t' k' ht (hk.resolve_left (hne t' k' ht hs)) hs, q5⟩
    · exact .inr ⟨fun t' k' ht hk hs => q1 t' k' ht (hk.resolve_left (hne t' k' ht hs)) hs, q2⟩

end

end Go.Ai
