/-
  THE SHORT RUN, 24: statements whose order is open: which memory goes with which operations that have run.
-/
import Derived.Test.YtiabpbememhdeaaDoorAiW
set_option linter.unusedSimpArgs false
set_option linter.unusedVariables false
set_option linter.unusedSectionVars false
namespace Go.Ai
open Go

/-- Where the numbers of memory come from when the operations D have run. -/
def Dom (ents : List Ent) (sN : St) (D : Nat → Prop) (φ : Phi) : Prop :=
  ∀ f e b, φ f e = some b → f < (stAt ents sN 0).next ∨ ∃ j x, D j ∧ ents[j]? = some x ∧ (stAt ents sN j).next ≤ f ∧ f < (stAt ents sN (j + 1)).next

theorem Dom.more {ents : List Ent} {sN : St} {D D' : Nat → Prop} {φ : Phi} (h : Dom ents sN D φ) (hD : ∀ j, D j → D' j) : Dom ents sN D' φ := by
  intro f e b hb
  rcases h f e b hb with h1 | ⟨j, x, h1, h2⟩
  · exact .inl h1
  · exact .inr ⟨j, x, hD _ h1, h2⟩

/-- What a number stands for when some of the stores at the end have run. -/
def TailLast (ops : Array Oper) (ents : List Ent) (sN : St) (D : Nat → Prop) (f : Nat) (o : Option AObj) : Prop :=
  (∃ t k, Tail (Region.before ops) ents t k ∧ D k ∧ storeTo t = some f ∧ (∀ t' k', Tail (Region.before ops) ents t' k' → D k' → storeTo t' = some f → k' ≤ k) ∧ o = (stAt ents sN (k + 1)).get f) ∨
  ((∀ t k, Tail (Region.before ops) ents t k → D k → storeTo t ≠ some f) ∧ o = (midSt sN (tailsOf (Region.before ops) ents)).get f)

/-- Memory when the operations D have run: ahead of the first operation that does something and has not run, or behind them all. -/
def Mem (B : Nat) (w₀ : World) (ops : Array Oper) (ents : List Ent) (sN : St) (φ : Phi) (D : Nat → Prop) (w : World) : Prop :=
  (∃ y c, Eff (Region.before ops) ents y c ∧ ¬ D c ∧ (∀ z k, Eff (Region.before ops) ents z k → k < c → D k) ∧ R B w₀ φ (withMade c ents.zipIdx (stAt ents sN c)).get w) ∨
  ((∀ z k, Eff (Region.before ops) ents z k → D k) ∧ ∃ σ : St, R B w₀ φ σ.get w ∧ ∀ f, TailLast ops ents sN D f (σ.get f))

section
variable {E : Env} {B : Nat} {w₀ : World} {call : Caller} {ops : Array Oper} {ents : List Ent} {sN : St} {aN : AAct} {pn : Option (Nat × Value × St)}

theorem eff_or_tail {bits : Array Nat} {x : Ent} {j : Nat} (hx : ents[j]? = some x) (h : isEff x = true) : Eff bits ents x j ∨ Tail bits ents x j := by
  cases ht : isTail bits ents.zipIdx (x, j)
  · exact .inl ⟨hx, h, ht⟩
  · exact .inr ⟨hx, h, ht⟩

theorem isEff_cls {x : Ent} : isEff x = true ↔ x.cls = 3 ∨ x.cls = 4 := by simp [isEff]

theorem Tail.cls {bits : Array Nat} {x : Ent} {j : Nat} (h : Tail bits ents x j) : x.cls = 3 := (isTail_spec h.2.2).1

/-- What is neither making nor doing leaves memory as it was. -/
theorem Known.same (O : Known E call ops ents sN aN pn) {j : Nat} {x : Ent} (hx : ents[j]? = some x) (h2 : x.cls ≠ 2) (h3 : x.cls ≠ 3) : stAt ents sN (j + 1) = stAt ents sN j := by
  obtain ⟨g1, g2, g3, g4⟩ := O.ent j x hx
  have h5 := g4.cls
  by_cases hr : x.ran = true
  · have hcs : x.cls = 0 ∨ x.cls = 1 ∨ x.cls = 4 ∨ x.cls = 5 := by omega
    rcases hcs with hc | hc | hc | hc
    · rw [(g4.pure hc hr).1, g2]
    · rw [(g4.look hc).2.1, g2]
    · rw [(g4.pan hc).2.1, g2]
    · exact absurd hr (by simp [(g4.dead hc).1])
  · rw [(g4.none (by simpa using hr)).2.1, g2]

theorem Known.gap (hE : E.Fine B w₀) (O : Known E call ops ents sN aN pn) {j f : Nat} {x : Ent} (hx : ents[j]? = some x) (h3 : x.cls ≠ 3) (h1 : (stAt ents sN j).next ≤ f) (h2 : f < (stAt ents sN (j + 1)).next) :
    x.cls = 2 ∧ f = (stAt ents sN j).next := by
  by_cases hc : x.cls = 2
  · have := (O.made_lt hE hx hc).1
    exact ⟨hc, by omega⟩
  · rw [O.same hx hc h3] at h2
    omega

theorem Known.behind (O : Known E call ops ents sN aN pn) {D : Nat → Prop} (hc : Closed ops D) {y : Ent} {c : Nat} (hy : Eff (Region.before ops) ents y c) (hD : ¬ D c) :
    (∀ z k, Tail (Region.before ops) ents z k → ¬ D k) ∧ (∀ z k, Eff (Region.before ops) ents z k → c ≤ k → ¬ D k) := by
  refine ⟨fun z k hz hk => hD (hc k hk c (O.good.last _ _ _ _ hy hz)), fun z k hz hck hk => ?_⟩
  rcases Nat.lt_or_eq_of_le hck with h | h
  · exact hD (hc k hk c (O.good.inRow _ _ _ _ hy hz h))
  · exact hD (h ▸ hk)

/-- On to the next operation that does something. -/
theorem Known.advance (hE : E.Fine B w₀) (O : Known E call ops ents sN aN pn) {D : Nat → Prop} (hc : Closed ops D) {φ : Phi} {g : Nat → Option AObj} {w : World} (hR : R B w₀ φ g w) (hdom : Dom ents sN D φ) {k0 : Nat}
    (hk0 : k0 = 0 ∨ ∃ y c, Eff (Region.before ops) ents y c ∧ k0 = c + 1)
    (h1 : ∀ z k, Eff (Region.before ops) ents z k → k < k0 → D k) (h2 : ∀ z k, Eff (Region.before ops) ents z k → k0 ≤ k → ¬ D k) (h3 : ∀ z k, Tail (Region.before ops) ents z k → ¬ D k)
    (hlo : ∀ f, f < (stAt ents sN k0).next → g f = (stAt ents sN k0).get f)
    (hhi : ∀ j x, ents[j]? = some x → x.cls = 2 → k0 ≤ j → D j → g (stAt ents sN j).next = (stAt ents sN (j + 1)).get (stAt ents sN j).next) :
    Mem B w₀ ops ents sN φ D w := by
  have hno : ∀ j x, D j → k0 ≤ j → ents[j]? = some x → x.cls ≠ 3 := by
    intro j x hj hk hx hcls
    rcases eff_or_tail (bits := Region.before ops) hx (isEff_cls.2 (.inl hcls)) with h | h
    · exact h2 _ _ h hk hj
    · exact h3 _ _ h hj
  -- where a number comes from
  have hcase : ∀ f e b, φ f e = some b → f < (stAt ents sN k0).next ∨ ∃ j x, ents[j]? = some x ∧ x.cls = 2 ∧ k0 ≤ j ∧ D j ∧ f = (stAt ents sN j).next := by
    intro f e b hb
    rcases hdom f e b hb with h | ⟨j, x, h4, h5, h6, h7⟩
    · exact .inl (Nat.lt_of_lt_of_le h (O.mono (Nat.zero_le _)))
    · rcases Nat.lt_or_ge j k0 with hj | hj
      · exact .inl (Nat.lt_of_lt_of_le h7 (O.mono hj))
      · obtain ⟨h8, h9⟩ := O.gap hE h5 (hno j x h4 hj h5) h6 h7
        exact .inr ⟨j, x, h5, h8, hj, h4, h9⟩
  by_cases hex : ∃ c', ∃ y, Eff (Region.before ops) ents y c' ∧ k0 ≤ c'
  · obtain ⟨c', ⟨y, hy, hkc⟩, hleast⟩ := exists_least hex
    have hquiet : ∀ j x, k0 ≤ j → j < c' → ents[j]? = some x → x.cls ≠ 3 := by
      intro j x hj hjc hx hcls
      rcases eff_or_tail (bits := Region.before ops) hx (isEff_cls.2 (.inl hcls)) with h | h
      · have := hleast j ⟨x, h, hj⟩; omega
      · have := O.bit_lt (O.good.last _ _ _ _ hy h); omega
    refine .inl ⟨y, c', hy, h2 _ _ hy hkc, fun z k hz hk => ?_, ?_⟩
    · rcases Nat.lt_or_ge k k0 with h | h
      · exact h1 _ _ hz h
      · have := hleast k ⟨z, hz, h⟩; omega
    · refine hR.congr fun f e b hb => ?_
      have hcut := O.cut hE c'
      rcases hcase f e b hb with hf | ⟨j, x, hx, hcls, hkj, hDj, rfl⟩
      · rw [hlo f hf, hcut.lo f (Nat.lt_of_lt_of_le hf (O.mono hkc))]
        exact O.keep hE c' hkc (fun j x h4 h5 hx hcls => absurd hcls (hquiet j x h4 h5 hx)) (.inl hf)
      · rw [hhi j x hx hcls hkj hDj]
        rcases Nat.lt_trichotomy j c' with h | h | h
        · have hlt := (O.made_lt hE hx hcls).1
          rw [hcut.lo _ (Nat.lt_of_lt_of_le (by omega) (O.mono (show j + 1 ≤ c' from h)))]
          exact O.keep hE c' h (fun i z h4 h5 hz hzc => absurd hzc (hquiet i z (by omega) h5 hz)) (.inl (by omega))
        · subst h
          rw [hy.1] at hx
          cases hx
          have := isEff_cls.1 hy.2.1
          omega
        · exact hcut.hi j x hx hcls h
  · have hnone : ∀ z k, Eff (Region.before ops) ents z k → k < k0 := by
      intro z k hz
      rcases Nat.lt_or_ge k k0 with h | h
      · exact h
      · exact absurd ⟨k, z, hz, h⟩ hex
    obtain ⟨m, hm, hml, hmt, hme, hmo, hmm, hcut⟩ := O.mid hE
    have hkm : k0 ≤ m := by
      rcases hk0 with rfl | ⟨y, c, hy, rfl⟩
      · exact Nat.zero_le _
      · exact hme _ _ hy
    have hquiet : ∀ j x, k0 ≤ j → j < m → ents[j]? = some x → x.cls ≠ 3 := by
      intro j x hj hjc hx hcls
      rcases eff_or_tail (bits := Region.before ops) hx (isEff_cls.2 (.inl hcls)) with h | h
      · have := hnone _ _ h; omega
      · have := hmt _ _ h; omega
    refine .inr ⟨fun z k hz => h1 _ _ hz (hnone _ _ hz), midSt sN (tailsOf (Region.before ops) ents), ?_, fun f => .inr ⟨fun t k ht hk => absurd hk (h3 _ _ ht), rfl⟩⟩
    refine hR.congr fun f e b hb => ?_
    rw [hm]
    rcases hcase f e b hb with hf | ⟨j, x, hx, hcls, hkj, hDj, rfl⟩
    · rw [hlo f hf]
      exact O.keep hE m hkm (fun j x h4 h5 hx hcls => absurd hcls (hquiet j x h4 h5 hx)) (.inl hf)
    · rw [hhi j x hx hcls hkj hDj]
      have hlt := (O.made_lt hE hx hcls).1
      exact O.keep hE m (hmm _ _ hx hcls) (fun i z h4 h5 hz hzc => absurd hzc (hquiet i z (by omega) h5 hz)) (.inl (by omega))

/-- Ahead of all. -/
theorem Known.start (hE : E.Fine B w₀) (O : Known E call ops ents sN aN pn) {φ : Phi} {w : World} (hR : R B w₀ φ (stAt ents sN 0).get w) : Dom ents sN (fun _ => False) φ ∧ Mem B w₀ ops ents sN φ (fun _ => False) w := by
  have hdom : Dom ents sN (fun _ => False) φ := fun f e b hb => .inl ((O.fresh 0).lt (hR.dom _ _ _ hb))
  exact ⟨hdom, O.advance hE (fun _ h => h.elim) hR hdom (k0 := 0) (.inl rfl) (fun _ _ _ h => by omega) (fun _ _ _ _ h => h) (fun _ _ _ h => h) (fun _ _ => rfl) (fun _ _ _ _ _ h => h.elim)⟩

/-- What does nothing leaves memory as it was. -/
theorem Mem.skip {φ : Phi} {D : Nat → Prop} {w : World} (h : Mem B w₀ ops ents sN φ D w) {i : Nat} {x : Ent} (hx : ents[i]? = some x) (hn : isEff x = false) : Mem B w₀ ops ents sN φ (fun j => j = i ∨ D j) w := by
  have hne : ∀ {z : Ent} {k : Nat}, ents[k]? = some z → isEff z = true → k ≠ i := by
    rintro z k hz hez rfl
    rw [hx] at hz
    cases hz
    rw [hn] at hez
    simp at hez
  rcases h with ⟨y, c, h1, h2, h3, h4⟩ | ⟨h1, σ, h2, h3⟩
  · exact .inl ⟨y, c, h1, fun h => h.elim (hne h1.1 h1.2.1) h2, fun z k hz hk => .inr (h3 z k hz hk), h4⟩
  · refine .inr ⟨fun z k hz => .inr (h1 z k hz), σ, h2, fun f => ?_⟩
    rcases h3 f with ⟨t, k, g1, g2, g3, g4, g5⟩ | ⟨g1, g2⟩
    · exact .inl ⟨t, k, g1, .inr g2, g3, fun t' k' ht hk => g4 t' k' ht (hk.resolve_left (hne ht.1 ht.2.1)), g5⟩
    · exact .inr ⟨fun t k ht hk => g1 t k ht (hk.resolve_left (hne ht.1 ht.2.1)), g2⟩

/-- A number that no operation has made has no place. -/
theorem Known.unmade (hE : E.Fine B w₀) (O : Known E call ops ents sN aN pn) {D : Nat → Prop} {φ : Phi} (hdom : Dom ents sN D φ) {i : Nat} {x : Ent} (hx : ents[i]? = some x) (hcls : x.cls = 2) (hi : ¬ D i) : ∀ e, φ (stAt ents sN i).next e = none := by
  intro e
  cases hb : φ (stAt ents sN i).next e with
  | none => rfl
  | some b =>
    exfalso
    rcases hdom _ _ _ hb with h | ⟨j, y, h1, h2, h3, h4⟩
    · have := O.mono (Nat.zero_le i); omega
    · rcases Nat.lt_trichotomy j i with h | h | h
      · have := O.mono (show j + 1 ≤ i from h); omega
      · exact hi (h ▸ h1)
      · have := O.mono (show i + 1 ≤ j from h)
        have := (O.made_lt hE hx hcls).1
        omega

/-- What is made is what it was in the text's order. -/
theorem Known.made_keep (hE : E.Fine B w₀) (O : Known E call ops ents sN aN pn) {D : Nat → Prop} (hc : Closed ops D) {i : Nat} {x : Ent} (hx : ents[i]? = some x) (hcls : x.cls = 2) (hi : ¬ D i) {c : Nat} (hic : i < c)
    (hall : ∀ z k, ents[k]? = some z → z.cls = 3 → i < k → k < c → Eff (Region.before ops) ents z k ∧ D k) : (stAt ents sN c).get (stAt ents sN i).next = (stAt ents sN (i + 1)).get (stAt ents sN i).next := by
  have hlt := (O.made_lt hE hx hcls).1
  refine O.keep hE c hic (fun j z h5 h6 hz hzc => ?_) (.inl (by omega))
  obtain ⟨hy, hDj⟩ := hall z j hz hzc (by omega) h6
  rcases O.good.makes x i z j hx hcls hy (by omega) with h | h | h
  · omega
  · exact absurd (hc j hDj i h) hi
  · have h4 := (O.ent j z hy.1)
    rw [(O.ent i x hx).2.1, h4.2.1, (h4.2.2.2.does hzc).2.1] at h
    exact h.symm

theorem Known.made_dom (hE : E.Fine B w₀) (O : Known E call ops ents sN aN pn) {D : Nat → Prop} {φ : Phi} (hdom : Dom ents sN D φ) {i : Nat} {x : Ent} (hx : ents[i]? = some x) (hcls : x.cls = 2) (k : Blk) :
    Dom ents sN (fun j => j = i ∨ D j) (withNew φ (stAt ents sN i).next 0 k) := by
  have hlt := (O.made_lt hE hx hcls).1
  intro f e b hb
  rcases withNew_case hb with ⟨rfl, _, _⟩ | hb
  · exact .inr ⟨i, x, .inl rfl, hx, Nat.le_refl _, by omega⟩
  · rcases hdom f e b hb with h | ⟨j, z, h1, h2⟩
    · exact .inl h
    · exact .inr ⟨j, z, .inr h1, h2⟩

theorem not_eff_of_made {x : Ent} (hcls : x.cls = 2) : isEff x = false := by simp [isEff, hcls]

theorem Known.make1 (hE : E.Fine B w₀) (O : Known E call ops ents sN aN pn) {D : Nat → Prop} (hc : Closed ops D) {φ φ' : Phi} {w' : World} (hdom : Dom ents sN D φ) {i : Nat} {x : Ent} (hx : ents[i]? = some x) (hcls : x.cls = 2) (hi : ¬ D i) {obj : AObj}
    (hobj : stAt ents sN (i + 1) = (stAt ents sN i).push obj) (y : Ent) (c : Nat) (h1 : Eff (Region.before ops) ents y c) (h2 : ¬ D c) (h3 : ∀ z k, Eff (Region.before ops) ents z k → k < c → D k)
    (hR : ∃ k, φ' = withNew φ (stAt ents sN i).next 0 k ∧ R B w₀ φ' (fun f => if f = (stAt ents sN i).next then some obj else (withMade c ents.zipIdx (stAt ents sN c)).get f) w') :
    Dom ents sN (fun j => j = i ∨ D j) φ' ∧ Mem B w₀ ops ents sN φ' (fun j => j = i ∨ D j) w' := by
  have hget : (stAt ents sN (i + 1)).get (stAt ents sN i).next = some obj := by rw [hobj, St.get_push, if_pos rfl]
  have hlt := (O.made_lt hE hx hcls).1
  obtain ⟨k, hk, hR⟩ := hR
  refine ⟨hk ▸ O.made_dom hE hdom hx hcls k, Mem.skip (D := D) (.inl ⟨y, c, h1, h2, h3, hR.congr fun f e b hb => ?_⟩) hx (not_eff_of_made hcls)⟩
  by_cases hf : f = (stAt ents sN i).next
  · rw [if_pos hf, hf, ← hget]
    have hcut := O.cut hE c
    rcases Nat.lt_trichotomy i c with h | h | h
    · rw [hcut.lo _ (Nat.lt_of_lt_of_le (by omega) (O.mono (show i + 1 ≤ c from h)))]
      refine O.made_keep hE hc hx hcls hi h fun z j hz hzc h5 h6 => ?_
      rcases eff_or_tail (bits := Region.before ops) hz (isEff_cls.2 (.inl hzc)) with h7 | h7
      · exact ⟨h7, h3 z j h7 h6⟩
      · have := O.bit_lt (O.good.last _ _ _ _ h1 h7); omega
    · subst h
      rw [h1.1] at hx
      cases hx
      have := isEff_cls.1 h1.2.1
      omega
    · exact hcut.hi i x hx hcls h
  · rw [if_neg hf]

theorem Known.make2 (hE : E.Fine B w₀) (O : Known E call ops ents sN aN pn) {D : Nat → Prop} (hc : Closed ops D) {φ φ' : Phi} {w' : World} (hdom : Dom ents sN D φ) {i : Nat} {x : Ent} (hx : ents[i]? = some x) (hcls : x.cls = 2) (hi : ¬ D i) {obj : AObj}
    (hobj : stAt ents sN (i + 1) = (stAt ents sN i).push obj) (σ : St) (h1 : ∀ z k, Eff (Region.before ops) ents z k → D k) (h3 : ∀ f, TailLast ops ents sN D f (σ.get f))
    (hR : ∃ k, φ' = withNew φ (stAt ents sN i).next 0 k ∧ R B w₀ φ' (fun f => if f = (stAt ents sN i).next then some obj else σ.get f) w') :
    Dom ents sN (fun j => j = i ∨ D j) φ' ∧ Mem B w₀ ops ents sN φ' (fun j => j = i ∨ D j) w' := by
  have hget : (stAt ents sN (i + 1)).get (stAt ents sN i).next = some obj := by rw [hobj, St.get_push, if_pos rfl]
  have hran := ((O.ent i x hx).2.2.2.make hcls).1
  obtain ⟨k, hk, hR⟩ := hR
  refine ⟨hk ▸ O.made_dom hE hdom hx hcls k, Mem.skip (D := D) (.inr ⟨h1, σ, hR.congr fun f e b hb => ?_, h3⟩) hx (not_eff_of_made hcls)⟩
  by_cases hf : f = (stAt ents sN i).next
  · rw [if_pos hf, hf, ← hget]
    obtain ⟨m, hm, hml, hmt, hme, hmo, hmm, hcut⟩ := O.mid hE
    rcases h3 (stAt ents sN i).next with ⟨t, j, g1, g2, _⟩ | ⟨_, g2⟩
    · exact absurd (hc j g2 i ((isTail_spec g1.2.2).2.2 x i hx hran (.inr (.inl hcls)))) hi
    · rw [g2, hm]
      refine O.made_keep hE hc hx hcls hi (hmm _ _ hx hcls) fun z j hz hzc h5 h6 => ?_
      rcases eff_or_tail (bits := Region.before ops) hz (isEff_cls.2 (.inl hzc)) with h7 | h7
      · exact ⟨h7, h1 z j h7⟩
      · have := hmt _ _ h7; omega
  · rw [if_neg hf]

/-- What looks at memory sees what it saw in the text's order. -/
theorem Known.looksAt (hE : E.Fine B w₀) (O : Known E call ops ents sN aN pn) {D : Nat → Prop} (hc : Closed ops D) {φ : Phi} {w : World} (hM : Mem B w₀ ops ents sN φ D w) {i : Nat} {x : Ent} (hx : ents[i]? = some x) (hcls : x.cls = 1) (hi : ¬ D i)
    (hb : ∀ j, bit ops i j = true → D j) (h4 : ∀ z k, ents[k]? = some z → D k → z.cls ≠ 4) : ∃ σ : St, R B w₀ φ σ.get w ∧ seenAt E x σ := by
  have hran := ((O.ent i x hx).2.2.2.look hcls).1
  have hsp : ∀ y c, Eff (Region.before ops) ents y c → _ := fun y c hy => sees_spec (E := E) (x := x) hc hi hb (effsOf (Region.before ops) ents) (effsOf_sorted _ _) (fun z hz hD => h4 z.1 z.2 (mem_effsOf.1 hz).1 hD) (O.good.looks y c hy x i hx hcls hran)
  rcases hM with ⟨y, c, h1, h2, h3, h5⟩ | ⟨h1, σ, h2, h3⟩
  · have := (hsp y c h1).2 (y, c) (mem_effsOf.2 h1) h2 (fun z hz hlt => h3 z.1 z.2 (mem_effsOf.1 hz) hlt)
    rw [(O.ent c y h1.1).2.1] at this
    exact ⟨_, h5, this⟩
  · have hσ : ∀ f, σ.get f = (midSt sN (tailsOf (Region.before ops) ents)).get f := by
      intro f
      rcases h3 f with ⟨t, j, g1, g2, _⟩ | ⟨_, g2⟩
      · exact absurd (hc j g2 i ((isTail_spec g1.2.2).2.2 x i hx hran (.inl hcls))) hi
      · exact g2
    have hRm : R B w₀ φ (midSt sN (tailsOf (Region.before ops) ents)).get w := h2.congr fun f _ _ _ => (hσ f).symm
    by_cases hex : ∃ y c, Eff (Region.before ops) ents y c
    · obtain ⟨y, c, hy⟩ := hex
      have := (hsp y c hy).1 (fun z hz => h1 z.1 z.2 (mem_effsOf.1 hz))
      refine ⟨_, hRm.congr fun f _ _ _ => withMade_keep _ _ ?_, this⟩
      rintro ⟨z, k⟩ hz _ hk
      have := (List.getElem?_eq_some_iff.1 (mem_zip.1 hz)).1
      simp at hk
      omega
    · obtain ⟨m, hm, hml, hmt, hme, hmo, hmm, hcut⟩ := O.mid hE
      obtain ⟨_, g2, g3, g4⟩ := O.ent i x hx
      obtain ⟨_, g5, g6, g7⟩ := g4.look hcls
      refine ⟨_, hRm, ?_⟩
      have hsub : Sub x.s (midSt sN (tailsOf (Region.before ops) ents)) := by
        intro f o hf
        rw [hm]
        rw [g2] at hf
        rw [O.keep hE m (Nat.le_of_lt (hmo _ _ hx hcls)) (fun j z h5 h6 hz hzc => ?_) (.inl ((O.fresh i).lt (by simp [hf])))]
        · exact hf
        · exfalso
          rcases eff_or_tail (bits := Region.before ops) hz (isEff_cls.2 (.inl hzc)) with h7 | h7
          · exact hex ⟨_, _, h7⟩
          · have := hmt _ _ h7; omega
      exact ⟨_, (quiet_sub hsub g6 g7).2⟩

end

end Go.Ai
