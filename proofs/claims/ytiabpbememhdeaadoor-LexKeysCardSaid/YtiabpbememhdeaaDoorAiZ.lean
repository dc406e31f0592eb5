/-
  THE SHORT RUN, 26: statements whose order is open come to what the short run says; calls do.
-/
import Derived.Test.YtiabpbememhdeaaDoorAiY
set_option linter.unusedSimpArgs false
set_option linter.unusedVariables false
set_option linter.unusedSectionVars false
namespace Go.Ai
open Go

section
variable {E : Env} {B : Nat} {w₀ : World} {call : Caller} {ops : Array Oper} {ents : List Ent} {sN : St} {aN : AAct} {pn : Option (Nat × Value × St)}

theorem Mem.grew {φ : Phi} {D : Nat → Prop} {w w' : World} (h : Mem B w₀ ops ents sN φ D w) (hw : Grew w w') : Mem B w₀ ops ents sN φ D w' := by
  rcases h with ⟨y, c, h1, h2, h3, h4⟩ | ⟨h1, σ, h2, h3⟩
  · exact .inl ⟨y, c, h1, h2, h3, h4.grew hw⟩
  · exact .inr ⟨h1, σ, h2.grew hw, h3⟩

theorem Known.step (hE : E.Fine B w₀) (hcall : CallOk E B w₀ call) (O : Known E call ops ents sN aN pn) (hp : ∀ p v s', pn = some (p, v, s') → ∃ z, ents[p]? = some z ∧ z.cls = 4)
    {φ0 : Phi} {wI : World} {D : Nat → Prop} (hc : Closed ops D) (h45 : ∀ z k, ents[k]? = some z → D k → z.cls ≠ 4 ∧ z.cls ≠ 5) {ca : Act} {w : World} (hI : Inv B w₀ ops ents sN aN φ0 wI D ca w)
    (hφ0 : ∀ f e b, φ0 f e = some b → f < (stAt ents sN 0).next)
    {i : Nat} {x : Ent} (hx : ents[i]? = some x) (hi : ¬ D i) (hb : ∀ j, bit ops i j = true → D j) {K : Act → World → Prop} {Q : Exit → Act → World → Prop}
    (hK : x.cls ≠ 4 → x.cls ≠ 5 → ∀ ca' w', Inv B w₀ ops ents sN aN φ0 wI (fun j => j = i ∨ D j) ca' w' → K ca' w')
    (hQ : ∀ p v s', pn = some (p, v, s') → ∀ φ' w' v' ca', Step (stAt ents sN 0).next φ0 wI φ' w' → R B w₀ φ' s'.get w' → s'.Fresh → (stAt ents sN 0).next ≤ s'.next → V B φ' v v' → (∃ φ, VDs B φ (acAt ents aN 0).defers ca'.defers) →
      Q (.panic [{ v := v', recovered := false }]) ca' w') :
    wpOp E.P ops Q i K ca w := by
  obtain ⟨φ, aD, hst, hdom, hA, hlen, hdef, htv, hM⟩ := hI
  obtain ⟨g1, g2, g3, g4⟩ := O.ent i x hx
  obtain ⟨hev, hwa⟩ := O.same_eval hc hx hi hb hlen htv
  obtain ⟨hok, hsh⟩ := O.operOk hx
  have h5 : x.cls ≠ 5 := by
    intro h
    obtain ⟨_, p, v, s', h1, h2⟩ := g4.dead h
    obtain ⟨z, h3, h4⟩ := hp p v s' h1
    exact (h45 z p h3 (hb p h2)).1 h4
  have hρ : x.ran = true → ∀ q ∈ x.o.op.operands, V B φ (x.a.eval q) (ca.eval q) := fun hran q hq => by
    have := hA.eval hE.globals (hok q hq)
    rw [hev q hq] at this
    exact this (clean_iff.1 (g4.clean hran) q hq)
  have next : ∀ {φ' : Phi} {w' : World} {v' : Value} {n : Nat}, x.cls ≠ 4 → (stAt ents sN 0).next ≤ n → Step n φ w φ' w' → Dom ents sN (fun j => j = i ∨ D j) φ' → Mem B w₀ ops ents sN φ' (fun j => j = i ∨ D j) w' → V B φ' x.v v' →
      K (ca.put x.o.dst v') w' := by
    intro φ' w' v' n h4 hn k1 k2 k3 k4
    refine hK h4 h5 _ _ ⟨φ', aD.put x.o.dst x.v, hst.trans k1 hn, k2, (hA.mono k1.ext).put _ k4, ?_, ?_, O.list_tmp hc hx hi hlen htv, k3⟩
    · cases x.o.dst <;> simp [AAct.put, hlen]
    · cases x.o.dst <;> simp [AAct.put, hdef]
  have hmono := O.mono (Nat.zero_le i)
  unfold wpOp
  simp only [g1]
  rw [hA.wanted, hwa, ← g4.went h5]
  split
  next hran =>
    left
    have hρ := hρ hran
    have h6 := g4.cls
    have hcs : x.cls = 0 ∨ x.cls = 1 ∨ x.cls = 2 ∨ x.cls = 3 ∨ x.cls = 4 := by omega
    have skip : isEff x = false → x.cls ≠ 4 → ∀ w' v', Grew w w' → V B φ x.v v' → K (ca.put x.o.dst v') w' := fun hne h4 w' v' hw hv =>
      next h4 (Nat.le_refl _) hw.step (hdom.more fun _ h => .inr h) ((hM.skip hx hne).grew hw) hv
    rcases hcs with hcls | hcls | hcls | hcls | hcls
    · obtain ⟨_, hP⟩ := g4.pure hcls hran
      obtain ⟨σ, hσ⟩ := hM.some
      exact plain_wp hE hP hσ hρ hsh (skip (by simp [isEff, hcls]) (by omega))
    · obtain ⟨_, _, hq, _⟩ := g4.look hcls
      obtain ⟨σ, hσ, s', hs'⟩ := O.looksAt hE hc hM hx hcls hi hb (fun z k hz hk => (h45 z k hz hk).1)
      obtain ⟨_, v', k1, k2⟩ := aVal_quiet hE.toOk hσ hρ hsh hq hs'
      unfold Oper.wp
      rw [k1]
      exact skip (by simp [isEff, hcls]) (by omega) w v' (Grew.refl w) k2
    · obtain ⟨_, _, hal, hv⟩ := g4.make hcls
      obtain ⟨obj, h1, hmk⟩ := aVal_alloc (B := B) (w₀ := w₀) hE.toOk hal hv
      rw [g2] at h1 hmk
      have hun := O.unmade hE hdom hx hcls hi
      obtain ⟨σ, hσ⟩ := hM.some
      -- the same new place whatever memory stands beside it
      have huse : ∀ g, R B w₀ φ g w → ∃ k v' w', (execOp ca.eval x.o).run E.P w = .ok (.value v') w' ∧ Step (stAt ents sN i).next φ w (withNew φ (stAt ents sN i).next 0 k) w' ∧
          R B w₀ (withNew φ (stAt ents sN i).next 0 k) (fun f => if f = (stAt ents sN i).next then some obj else g f) w' ∧ V B (withNew φ (stAt ents sN i).next 0 k) x.v v' := fun g hg => hmk g φ w ca.eval hg hun hρ
      have hg : ∃ g, R B w₀ φ g w ∧ ∀ φ' w', (∃ k, φ' = withNew φ (stAt ents sN i).next 0 k ∧ R B w₀ φ' (fun f => if f = (stAt ents sN i).next then some obj else g f) w') →
          Dom ents sN (fun j => j = i ∨ D j) φ' ∧ Mem B w₀ ops ents sN φ' (fun j => j = i ∨ D j) w' := by
        have hM' := hM
        rcases hM with ⟨y, c, m1, m2, m3, m4⟩ | ⟨m1, σ, m2, m3⟩
        · refine ⟨_, m4, fun φ' w' hk => ?_⟩
          exact O.make1 hE hc hdom hx hcls hi h1 y c m1 m2 m3 hk
        · refine ⟨_, m2, fun φ' w' hk => ?_⟩
          exact O.make2 hE hc hdom hx hcls hi h1 σ m1 m3 hk
      obtain ⟨g, hg1, hg2⟩ := hg
      obtain ⟨k, v', w', k1, k2, k3, k4⟩ := huse g hg1
      unfold Oper.wp
      rw [k1]
      obtain ⟨k5, k6⟩ := hg2 _ _ ⟨k, rfl, k3⟩
      exact next (by omega) hmono k2 k5 k6 k4
    · rcases eff_or_tail (bits := Region.before ops) hx (isEff_cls.2 (.inl hcls)) with hx' | hx'
      · exact O.effect hE hcall hc hdom hM hx' hi hb hρ (fun _ φ' w' v' k1 k2 k3 k4 => next (by omega) hmono k1 k2 k3 k4) (fun v s' hpn => by
          obtain ⟨z, k1, k2⟩ := hp _ _ _ hpn
          rw [hx] at k1
          cases k1
          omega)
      · exact O.tail hE hcall hc hdom hM hx' hi hb hρ (fun w' v' n hn k1 k2 k3 => next (by omega) hn k1 (hdom.more fun _ h => .inr h) k2 k3)
    · have hx' : Eff (Region.before ops) ents x i := by
        rcases eff_or_tail (bits := Region.before ops) hx (isEff_cls.2 (.inr hcls)) with hx' | hx'
        · exact hx'
        · have := hx'.cls; omega
      refine O.effect hE hcall hc hdom hM hx' hi hb hρ (fun h => by omega) ?_
      intro v s' hpn φ' w' v' k1 k2 k3 k4 k5
      have hlow : Step (stAt ents sN 0).next φ0 wI (low (stAt ents sN i).next φ) w := hst.to_low fun f e b hfb => Nat.lt_of_lt_of_le (hφ0 f e b hfb) hmono
      exact hQ i v s' hpn φ' w' v' ca (hlow.trans k1 hmono) k2 k3 (Nat.le_trans hmono k4) k5 ⟨φ, hdef ▸ hA.defers⟩
  next hran =>
    obtain ⟨h1, h2, h3⟩ := g4.none (by simpa using hran)
    have hcls : x.cls = 0 := h3.resolve_right h5
    have := next (v' := undef) (by omega) (Nat.le_refl _) (Step.refl φ w) (hdom.more fun _ h => .inr h) (hM.skip hx (by simp [isEff, hcls])) (by rw [h1]; exact V.undef_refl hE.toOk φ)
    exact this

/-- All has run. -/
theorem Known.ended (O : Known E call ops ents sN aN pn) (hE : E.Fine B w₀) {φ : Phi} {D : Nat → Prop} {w : World} (hall : ∀ z k, ents[k]? = some z → D k) (h : Mem B w₀ ops ents sN φ D w) : R B w₀ φ sN.get w := by
  rcases h with ⟨y, c, h1, h2, _⟩ | ⟨_, σ, h2, h3⟩
  · exact absurd (hall _ _ h1.1) h2
  · refine h2.congr fun f e b hb => ?_
    obtain ⟨m, hm, hml, hmt, hme, hmo, hmm, hcut⟩ := O.mid hE
    have hend : stAt ents sN ents.length = sN := stAt_end (Nat.le_refl _)
    have other : ∀ (y : Ent) (j : Nat), Tail (Region.before ops) ents y j → storeTo y ≠ some f → (stAt ents sN (j + 1)).get f = (stAt ents sN j).get f := by
      intro y j hy hf
      obtain ⟨u1, u2, u3⟩ := isTail_spec hy.2.2
      obtain ⟨k1, k2, k3, k4⟩ := O.ent j y hy.1
      obtain ⟨_, k5, k6⟩ := k4.does u1
      cases hop : y.o.op <;> simp only [hop, isStore, Bool.false_eq_true] at u2
      rename_i t p q
      have k6 := (aOp_clean k6).2
      unfold aOpC at k6
      simp only [hop, aVal] at k6
      cases hh : aStore E y.s t (y.a.eval p) (y.a.eval q) with
      | none => simp [hh] at k6
      | some s₁ =>
        simp only [hh, Option.map_some, Option.some.injEq, Rs.val.injEq] at k6
        obtain ⟨a, obj, p1, p2, p3, _⟩ := aStore_at hh
        rw [← k6.2, p3, k2, St.get_put, if_neg]
        rintro rfl
        apply hf
        unfold storeTo
        simp only [hop, p1, p2, if_true]
    have walk : ∀ k, m ≤ k → k ≤ ents.length → (∀ y j, Tail (Region.before ops) ents y j → k ≤ j → storeTo y ≠ some f) → sN.get f = (stAt ents sN k).get f := by
      intro k hmk hk hno
      refine (congrArg (fun s : St => s.get f) hend).symm.trans ?_
      refine O.keep hE ents.length hk (fun j z h5 h6 hz hzc => ?_) (.inr fun j z h5 h6 hz hzc => ?_)
      · rcases eff_or_tail (bits := Region.before ops) hz (isEff_cls.2 (.inl hzc)) with h7 | h7
        · have := hme _ _ h7; omega
        · exact other z j h7 (hno z j h7 h5)
      · have := hmm _ _ hz hzc; omega
    rcases h3 f with ⟨t, k, g1, g2, g3, g4, g5⟩ | ⟨g1, g2⟩
    · rw [g5]
      refine walk (k + 1) (by have := hmt _ _ g1; omega) (List.getElem?_eq_some_iff.1 g1.1).1 fun y j hy hj hs => ?_
      have := g4 y j hy (hall _ _ hy.1) hs
      omega
    · rw [g2, hm]
      exact walk m (Nat.le_refl _) hml fun y j hy _ => g1 y j hy (hall _ _ hy.1)

theorem unlisted_count {l : List Bool} {i : Nat} (hi : i < l.length) (h : l[i] = false) : (l.set i true).count false + 1 = l.count false := by
  rw [List.count_set hi]
  have : 0 < l.count false := List.count_pos_iff.2 (h ▸ List.getElem_mem hi)
  simp [h]
  omega

theorem Known.any (hE : E.Fine B w₀) (hcall : CallOk E B w₀ call) (O : Known E call ops ents sN aN pn) (hp : ∀ p v s', pn = some (p, v, s') → ∃ z, ents[p]? = some z ∧ z.cls = 4) (hp' : pn = none ∨ ∃ p v s', pn = some (p, v, s'))
    {φ0 : Phi} {wI : World} (hφ0 : ∀ f e b, φ0 f e = some b → f < (stAt ents sN 0).next) {Q : Exit → Act → World → Prop}
    (hQ : ∀ p v s', pn = some (p, v, s') → ∀ φ' w' v' ca', Step (stAt ents sN 0).next φ0 wI φ' w' → R B w₀ φ' s'.get w' → s'.Fresh → (stAt ents sN 0).next ≤ s'.next → V B φ' v v' → (∃ φ, VDs B φ (acAt ents aN 0).defers ca'.defers) →
      Q (.panic [{ v := v', recovered := false }]) ca' w')
    (hN : pn = none → ∀ φ' w' ca', Step (stAt ents sN 0).next φ0 wI φ' w' → R B w₀ φ' sN.get w' → VAct B φ' aN ca' → Q .normal ca' w') :
    ∀ (fuel : Nat) (listed : Array Bool) (ca : Act) (w : World), listed.size = ops.size → listed.toList.count false ≤ fuel → Closed ops (fun j => listed.getD j false = true) →
      (∀ z k, ents[k]? = some z → listed.getD k false = true → z.cls ≠ 4 ∧ z.cls ≠ 5) → Inv B w₀ ops ents sN aN φ0 wI (fun j => listed.getD j false = true) ca w →
      wpAny E.P .any ops Q fuel listed ca w := by
  -- all have run
  have fin : ∀ (listed : Array Bool) (ca : Act) (w : World), listed.size = ops.size → Region.ready .any ops listed = [] →
      (∀ z k, ents[k]? = some z → listed.getD k false = true → z.cls ≠ 4 ∧ z.cls ≠ 5) → Inv B w₀ ops ents sN aN φ0 wI (fun j => listed.getD j false = true) ca w → Q .normal ca w := by
    intro listed ca w hsz hr h45 hI
    have hall : ∀ k, k < ops.size → listed.getD k false = true := by
      intro k
      induction k using Nat.strongRecOn with
      | _ k ih =>
        intro hk
        cases hl : listed.getD k false with
        | true => rfl
        | false =>
          exfalso
          have hmem : k ∈ Region.ready .any ops listed := by
            rw [mem_ready]
            have hks : k < listed.size := by rw [hsz]; exact hk
            refine ⟨?_, ops[k], Array.getElem?_eq_getElem hk, fun e he hbd => ?_⟩
            · simpa [Array.getD, hks] using hl
            · have := O.back (Array.getElem?_eq_getElem hk) he hbd
              exact ih e.on this (by omega)
          rw [hr] at hmem
          simp at hmem
    have hall' : ∀ z k, ents[k]? = some z → listed.getD k false = true := fun z k hz => hall k (by rw [← O.len]; exact (List.getElem?_eq_some_iff.1 hz).1)
    obtain ⟨φ, aD, hst, hdom, hA, hlen, hdef, htv, hM⟩ := hI
    rcases hp' with hpn | ⟨p, v, s', hpn⟩
    · refine hN hpn φ w ca hst (O.ended hE hall' hM) ?_
      have hact := O.act ents.length (Nat.le_refl _)
      have hend : acAt ents aN ents.length = aN := acAt_end (Nat.le_refl _)
      rw [hend] at hact
      refine ⟨by rw [hact.1, ← hlen]; exact hA.size, fun t u v hu hv => ?_, by rw [hact.2.1, ← hdef]; exact hA.defers⟩
      refine hA.tmp t u v (htv t u ?_) hv
      rcases hact.2.2 t u hu with ⟨i, y, k1, k2, k3, k4, k5, k6⟩ | ⟨k1, k2⟩
      · exact .inl ⟨i, y, k1, hall' _ _ k1, k3, k4, k5, fun j z hz _ hzd => k6 j z hz (List.getElem?_eq_some_iff.1 hz).1 hzd⟩
      · exact .inr ⟨fun i y hy _ => k1 i y hy (List.getElem?_eq_some_iff.1 hy).1, k2⟩
    · obtain ⟨z, h1, h2⟩ := hp _ _ _ hpn
      exact absurd h2 (h45 z p h1 (hall' _ _ h1)).1
  intro fuel
  induction fuel with
  | zero =>
    intro listed ca w hsz hcnt hc h45 hI
    have hr : Region.ready .any ops listed = [] := by
      rw [List.eq_nil_iff_forall_not_mem]
      intro k hk
      obtain ⟨h1, _⟩ := mem_ready.1 hk
      have hks : k < listed.size := by
        rcases Nat.lt_or_ge k listed.size with h | h
        · exact h
        · simp [Array.getD, Nat.not_lt.2 h] at h1
      have : false ∈ listed.toList := by
        have h2 : listed[k] = false := by simpa [Array.getD, hks] using h1
        rw [← h2]
        simp
      have := List.count_pos_iff.2 this
      omega
    exact ⟨hr, fin listed ca w hsz hr h45 hI⟩
  | succ fuel ih =>
    intro listed ca w hsz hcnt hc h45 hI
    refine ⟨fun hr => fin listed ca w hsz hr h45 hI, fun i hi => ?_⟩
    obtain ⟨h1, o, ho, _⟩ := mem_ready.1 hi
    have hio : i < ops.size := (Array.getElem?_eq_some_iff.1 ho).1
    have his : i < listed.size := by rw [hsz]; exact hio
    have hlf : listed[i] = false := by simpa [Array.getD, his] using h1
    have hni : ¬ (listed.getD i false = true) := by simp [Array.getD, his, hlf]
    obtain ⟨x, hx⟩ : ∃ x, ents[i]? = some x := ⟨_, List.getElem?_eq_getElem (by rw [O.len]; exact hio)⟩
    have hb : ∀ j, bit ops i j = true → listed.getD j false = true := fun j hj => ready_bits hi hc hj
    have hset : (fun j => (listed.setIfInBounds i true).getD j false = true) = fun j => j = i ∨ listed.getD j false = true := by
      funext j
      apply propext
      by_cases hj : j = i
      · subst hj
        simp [Array.getD, his]
      · have : (listed.setIfInBounds i true).getD j false = listed.getD j false := by
          simp only [Array.getD_eq_getD_getElem?, Array.getElem?_setIfInBounds]
          rw [if_neg (fun h => hj h.symm)]
        rw [this]
        simp [hj]
    refine O.step hE hcall hp hc h45 hI hφ0 hx hni hb (fun h4 h5 ca' w' hI' => ?_) hQ
    refine ih _ ca' w' (by simp [hsz]) ?_ ?_ ?_ ?_
    · have := unlisted_count (l := listed.toList) (i := i) (by simpa using his) (by simpa using hlf)
      rw [Array.toList_setIfInBounds]
      omega
    · rw [hset]; exact hc.add hb
    · intro z k hz hk
      rcases (congrFun hset k).mp hk with rfl | hk
      · rw [hx] at hz
        cases hz
        exact ⟨h4, h5⟩
      · exact h45 z k hz hk
    · rw [hset]; exact hI'

end

/-- Statements whose order is open come to what the short run says. -/
theorem draw_sim {E : Env} {B : Nat} {w₀ : World} (hE : E.Fine B w₀) {call : Caller} (hcall : CallOk E B w₀ call) : DrawSim E B w₀ call := by
  intro id ops a s x a' s' φ ca w Q h hok hd hR hF hA hG
  -- the run in the text's order
  have main : ∀ (ents : List Ent) (pn : Option (Nat × Value × St)) (aN : AAct) (sN : St), trace E call ops (Region.before ops) ops.toList 0 none a s = some (ents, pn, aN, sN) → Good E (Region.before ops) ents sN →
      (∀ p v ps, pn = some (p, v, ps) → ∀ φ' w' v' ca', Step s.next φ w φ' w' → R B w₀ φ' ps.get w' → ps.Fresh → s.next ≤ ps.next → V B φ' v v' → (∃ φ, VDs B φ a.defers ca'.defers) → Q (.panic [{ v := v', recovered := false }]) ca' w') →
      (pn = none → ∀ φ' w' ca', Step s.next φ w φ' w' → R B w₀ φ' sN.get w' → sN.Fresh → s.next ≤ sN.next → VAct B φ' aN ca' → Q .normal ca' w') → (Code.region id ops true).wp E.P Q ca w := by
    intro ents pn aN sN ht htok hQ hN
    obtain ⟨h1, h2, h3, _, h5, h6⟩ := trace_spec _ _ _ _ _ _ _ _ _ ht
    have O : Opened E call ops ents sN aN pn := ⟨by simpa using h1, fun j x hx => by
      obtain ⟨g1, g2, g3, g4, _⟩ := h6 j x hx
      rw [Nat.zero_add] at g4
      exact ⟨by simpa using g1, g2, g3, g4⟩, hok, hd⟩
    have htext := O.text hE hcall (h2 ▸ hR) (h2 ▸ hF) (h3 ▸ hA)
    have K : Known E call ops ents sN aN pn := { O with fresh := fun j => (htext j).1.1, up := fun j => (htext j).2, good := htok }
    have hNF : sN.Fresh := by
      have := K.fresh ents.length
      rwa [stAt_end (Nat.le_refl _)] at this
    have hNn : s.next ≤ sN.next := by
      have := K.mono (Nat.zero_le ents.length)
      rwa [stAt_end (Nat.le_refl _), h2] at this
    have hp : ∀ p v s', pn = some (p, v, s') → ∃ z, ents[p]? = some z ∧ z.cls = 4 := by
      intro p v s' hpn
      rcases h5 with h5 | ⟨_, j, z, hz, hzc⟩
      · rw [h5] at hpn; simp at hpn
      · obtain ⟨_, _, _, g4⟩ := O.ent j z hz
        obtain ⟨_, _, _, _, _, _, g5⟩ := g4.pan hzc
        rw [hpn] at g5
        simp only [Option.some.injEq, Prod.mk.injEq] at g5
        exact ⟨z, g5.1 ▸ hz, hzc⟩
    have hp' : pn = none ∨ ∃ p v s', pn = some (p, v, s') := by
      cases pn with
      | none => exact .inl rfl
      | some q => obtain ⟨p, v, s'⟩ := q; exact .inr ⟨_, _, _, rfl⟩
    have hR' := hR.drew (w.drawn + 1)
    obtain ⟨hdom, hM⟩ := K.start hE (φ := φ) (w := { w with drawn := w.drawn + 1 }) (h2 ▸ hR')
    have hfalse : (fun j => (Array.replicate ops.size false).getD j false = true) = fun _ => False := by
      funext j
      apply propext
      simp [Array.getD]
    refine wp_region_any hE.mixed (K.any hE hcall hp hp' (φ0 := φ) (wI := w) (fun f e b hb => by rw [h2]; exact hF.lt (hR.dom _ _ _ hb)) ?_ ?_ ops.size _ ca _ (by simp) ?_ ?_ ?_ ?_)
    · rw [h2, h3]
      exact hQ
    · intro hpn φ' w' ca' k1 k2 k3
      rw [h2] at k1
      exact hN hpn φ' w' ca' k1 k2 hNF hNn k3
    · exact Nat.le_trans List.count_le_length (by simp)
    · rw [hfalse]; exact fun _ h => h.elim
    · intro z k _ hk
      exact ((congrFun hfalse k).mp hk).elim
    · rw [hfalse]
      refine ⟨φ, a, ?_, hdom, hA, by rw [h3], by rw [h3], fun t v htv => ?_, hM⟩
      · rw [h2]; exact Step.drewN _ _ _
      · rcases htv with ⟨_, _, _, h, _⟩ | ⟨_, h⟩
        · exact h.elim
        · rwa [h3] at h
  unfold evalDraw at h
  split at h
  next ents aN sN ht =>
    split at h
    next hok' =>
      simp only [Option.some.injEq, Prod.mk.injEq] at h
      obtain ⟨rfl, rfl, rfl⟩ := h
      refine main ents none aN sN ht hok' (by simp) ?_
      intro _ φ' w' ca' k1 k2 k3 k4 k5
      exact hG φ' w' ca' .normal k1 k2 k3 k4 trivial (.inl k5)
    next => simp at h
  next ents p v ps aN sN ht =>
    split at h
    next hok' =>
      simp only [Option.some.injEq, Prod.mk.injEq] at h
      obtain ⟨rfl, rfl, rfl⟩ := h
      refine main ents (some (p, v, ps)) aN sN ht hok'.1 ?_ (by simp)
      intro p' v₁ ps' hpn φ' w' v' ca' k1 k2 k3 k4 k5 ⟨φd, k6⟩
      simp only [Option.some.injEq, Prod.mk.injEq] at hpn
      obtain ⟨rfl, rfl, rfl⟩ := hpn
      have hnil : a.defers = [] := hok'.2
      rw [hnil] at k6
      exact hG φ' w' ca' _ k1 k2 k3 k4 ⟨v', rfl, k5⟩ (.inr ⟨⟨_, rfl⟩, hnil, k6.nil_left⟩)
    next => simp at h
  next => simp at h

/-- What the short run of a call comes to, the call comes to. -/
theorem callN_sim {E : Env} {B : Nat} {w₀ : World} (hE : E.Fine B w₀) (N : Nat) : ∀ n, CallOk E B w₀ (callN E N n) := by
  intro n
  induction n with
  | zero => intro g args s r s' h; simp [callN] at h
  | succ n ih => exact evalFn_sim hE ih (draw_sim hE ih) N

end Go.Ai
