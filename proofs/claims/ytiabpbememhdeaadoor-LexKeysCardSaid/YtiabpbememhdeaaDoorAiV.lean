/-
  THE SHORT RUN, 22: statements whose order is open: what holds of the run in the text's order, and what every order keeps of it.
-/
import Derived.Test.YtiabpbememhdeaaDoorAiU
set_option linter.unusedSimpArgs false
set_option linter.unusedVariables false
set_option linter.unusedSectionVars false
namespace Go.Ai
open Go

theorem upon_exists {P : Program} {o : Oper} {a : Act} {K : Act → World → Prop} {r : Result Next} (h : o.upon P a K (fun _ _ _ => False) r) : ∃ a' w', K a' w' := by
  cases r with
  | ok n w' =>
    cases n <;> simp only [Oper.upon] at h
    case value v => exact ⟨_, _, h⟩
    case skip => exact ⟨_, _, h⟩
    case defer d => exact ⟨_, _, h⟩
    case enter f args =>
      obtain ⟨e, w₁, fr, hr, _⟩ := h []
      cases e with
      | returned v => exact ⟨_, _, hr⟩
      | panicked c => exact hr.elim
      | outgrown => obtain ⟨_, _, hr⟩ := hr; exact hr.elim
    case row row args =>
      obtain ⟨v, w₁, hr, _⟩ := h default []
      exact ⟨_, _, hr⟩
  | halt x w' => cases x <;> simp only [Oper.upon] at h

/-- The run in the text's order of a statement whose order is open. -/
structure Opened (E : Env) (call : Caller) (ops : Array Oper) (ents : List Ent) (sN : St) (aN : AAct) (pn : Option (Nat × Value × St)) : Prop where
  len : ents.length = ops.size
  ent : ∀ (j : Nat) (x : Ent), ents[j]? = some x → ops[j]? = some x.o ∧ x.s = stAt ents sN j ∧ x.a = acAt ents aN j ∧ EntOk E call ops x j (stAt ents sN (j + 1)) (acAt ents aN (j + 1)) pn
  ok : ∀ o ∈ ops.toList, operOk E.P o = true
  draw : drawOk ops = true

theorem EntOk.ran_val {E : Env} {call : Caller} {ops : Array Oper} {x : Ent} {n : Nat} {s1 : St} {a1 : AAct} {pn : Option (Nat × Value × St)} (h : EntOk E call ops x n s1 a1 pn) :
    aOp E call x.a.eval x.o x.s = some (.val x.v s1) ∨ (x.v = undef ∧ s1 = x.s) := by
  by_cases hr : x.ran = true
  · have := h.cls
    have hc : x.cls = 0 ∨ x.cls = 1 ∨ x.cls = 2 ∨ x.cls = 3 ∨ x.cls = 4 ∨ x.cls = 5 := by omega
    rcases hc with hc | hc | hc | hc | hc | hc
    · obtain ⟨h1, h2⟩ := h.pure hc hr
      rw [h1]
      exact .inl (h2.any (h.clean hr) _)
    · obtain ⟨_, h1, h2, h3⟩ := h.look hc
      left
      rw [aOp_plain (h.clean hr) (.inl h2), h3, h1]
    · obtain ⟨_, h1, h2, h3⟩ := h.make hc
      left
      rw [aOp_plain (h.clean hr) (.inr h2), h3]
    · exact .inl (h.does hc).2.2
    · obtain ⟨_, h1, h2, _⟩ := h.pan hc
      exact .inr ⟨h2, h1⟩
    · exact absurd hr (by simp [(h.dead hc).1])
  · obtain ⟨h1, h2, _⟩ := h.none (by simpa using hr)
    exact .inr ⟨h1, h2⟩

section
variable {E : Env} {B : Nat} {w₀ : World} {call : Caller} {ops : Array Oper} {ents : List Ent} {sN : St} {aN : AAct} {pn : Option (Nat × Value × St)}

theorem stAt_end {i : Nat} (h : ents.length ≤ i) : stAt ents sN i = sN := by simp [stAt, List.getElem?_eq_none h]
theorem acAt_end {i : Nat} (h : ents.length ≤ i) : acAt ents aN i = aN := by simp [acAt, List.getElem?_eq_none h]

theorem Opened.text (hE : E.Fine B w₀) (hcall : CallOk E B w₀ call) (O : Opened E call ops ents sN aN pn) {φ : Phi} {w : World} {ca : Act} (hR : R B w₀ φ (stAt ents sN 0).get w) (hF : (stAt ents sN 0).Fresh)
    (hA : VAct B φ (acAt ents aN 0) ca) : ∀ j, ((stAt ents sN j).Fresh ∧ ∃ φ w ca, R B w₀ φ (stAt ents sN j).get w ∧ VAct B φ (acAt ents aN j) ca) ∧ (stAt ents sN j).next ≤ (stAt ents sN (j + 1)).next := by
  have step : ∀ j, ((stAt ents sN j).Fresh ∧ ∃ φ w ca, R B w₀ φ (stAt ents sN j).get w ∧ VAct B φ (acAt ents aN j) ca) →
      ((stAt ents sN (j + 1)).Fresh ∧ ∃ φ w ca, R B w₀ φ (stAt ents sN (j + 1)).get w ∧ VAct B φ (acAt ents aN (j + 1)) ca) ∧ (stAt ents sN j).next ≤ (stAt ents sN (j + 1)).next := by
    intro j ⟨hF, φ, w, ca, hR, hA⟩
    rcases Nat.lt_or_ge j ents.length with hj | hj
    · obtain ⟨x, hx⟩ : ∃ x, ents[j]? = some x := ⟨_, List.getElem?_eq_getElem hj⟩
      obtain ⟨h1, h2, h3, h4⟩ := O.ent j x hx
      rw [← h2] at hF hR
      rw [← h3] at hA
      rw [← h2, h4.act]
      have hoo : operOk E.P x.o = true := O.ok x.o (by
        have := Array.mem_of_getElem? h1
        simpa using this)
      unfold operOk at hoo
      simp only [Bool.and_eq_true, Array.all_eq_true_iff_forall_mem] at hoo
      rcases h4.ran_val with h5 | ⟨h5, h6⟩
      · have := aOp_sim hE hcall (K := fun ca' w' => ((stAt ents sN (j + 1)).Fresh ∧ ∃ φ w ca, R B w₀ φ (stAt ents sN (j + 1)).get w ∧ VAct B φ (x.a.put x.o.dst x.v) ca) ∧ x.s.next ≤ (stAt ents sN (j + 1)).next)
          (Q := fun _ _ _ => False) hR hF (fun y hy => hA.eval hE.globals (hoo.1 y hy)) hoo.2 h5
          (fun φ' w' v' g1 g2 g3 g4 g5 => ⟨⟨g4, φ', w', _, g2, (hA.mono g1.ext).put _ g3⟩, g5⟩)
        obtain ⟨_, _, h⟩ := upon_exists this
        exact h
      · rw [h6, h5]
        exact ⟨⟨hF, φ, w, _, hR, hA.put x.o.dst (V.undef_refl hE.toOk φ)⟩, Nat.le_refl _⟩
    · rw [stAt_end hj] at hF hR
      rw [acAt_end hj] at hA
      rw [stAt_end hj, stAt_end (by omega), acAt_end (by omega)]
      exact ⟨⟨hF, φ, w, ca, hR, hA⟩, Nat.le_refl _⟩
  have all : ∀ j, ((stAt ents sN j).Fresh ∧ ∃ φ w ca, R B w₀ φ (stAt ents sN j).get w ∧ VAct B φ (acAt ents aN j) ca) := by
    intro j
    induction j with
    | zero => exact ⟨hF, φ, w, ca, hR, hA⟩
    | succ j ih => exact (step j ih).1
  exact fun j => ⟨all j, (step j (all j)).2⟩

/-! What stands ahead of what. -/
theorem Opened.back (O : Opened E call ops ents sN aN pn) {i : Nat} {o : Oper} (ho : ops[i]? = some o) {e : Edge} (he : e ∈ o.after) (hb : Region.binds .any e = true) : e.on < i := by
  have h := O.draw
  unfold drawOk at h
  simp only [Bool.and_eq_true, List.all_eq_true] at h
  have := h.1 (o, i) (by
    simp only [Array.mem_toList_iff, Array.mem_zipIdx_iff_getElem?]
    exact ho)
  simp only [Array.all_eq_true_iff_forall_mem] at this
  have := this e he
  simpa [hb] using this

theorem Opened.bit_lt (O : Opened E call ops ents sN aN pn) : ∀ {j i : Nat}, bit ops j i = true → i < j := by
  intro j
  induction j using Nat.strongRecOn with
  | _ j ih =>
    intro i h
    obtain ⟨o, ho, e, he, hb, h1 | ⟨h1, h2⟩⟩ := before_bits ops j i h
    · rw [h1]; exact O.back ho he hb
    · have := ih e.on h1 h2
      omega

/-- What is behind an operation that is listed is no hurdle. -/
def Closed (ops : Array Oper) (D : Nat → Prop) : Prop := ∀ j, D j → ∀ i, bit ops j i = true → D i

theorem ready_bits {listed : Array Bool} {i : Nat} (hi : i ∈ Region.ready .any ops listed) (hc : Closed ops fun j => listed.getD j false = true) {j : Nat} (hb : bit ops i j = true) : listed.getD j false = true := by
  obtain ⟨_, o, ho, h⟩ := mem_ready.1 hi
  obtain ⟨o', ho', e, he, heb, h1 | ⟨h1, h2⟩⟩ := before_bits ops i j hb
  · rw [ho] at ho'
    cases ho'
    rw [h1]
    exact h e he heb
  · rw [ho] at ho'
    cases ho'
    exact hc _ (h e he heb) _ h2

theorem Opened.names (O : Opened E call ops ents sN aN pn) {i j : Nat} {x y : Oper} (hx : ops[i]? = some x) (hy : ops[j]? = some y) (hij : i ≠ j) {d : Tmp} (hd : y.dst = some d) (hn : d ∈ namesOf ops x) :
    (i < j → bit ops j i = true) ∧ (j < i → bit ops i j = true) := by
  have h := O.draw
  unfold drawOk at h
  simp only [Bool.and_eq_true, List.all_eq_true] at h
  have := h.2 (x, i) (by simp only [Array.mem_toList_iff, Array.mem_zipIdx_iff_getElem?]; exact hx) (y, j) (by simp only [Array.mem_toList_iff, Array.mem_zipIdx_iff_getElem?]; exact hy)
  simp only [hd, Bool.or_eq_true, beq_iff_eq, hij, false_or, Bool.not_eq_true'] at this
  have hc : (namesOf ops x).contains d = true := by simpa using hn
  rw [hc] at this
  simp only [Bool.true_eq_false, false_or] at this
  constructor
  · intro hlt
    rw [if_pos hlt] at this
    exact this
  · intro hlt
    rw [if_neg (by omega)] at this
    exact this

/-! What a temporary holds when the operations D have run. -/
def TV (ents : List Ent) (a0 : AAct) (D : Nat → Prop) (t : Tmp) (x : Value) : Prop :=
  (∃ (i : Nat) (y : Ent), ents[i]? = some y ∧ D i ∧ y.o.dst = some t ∧ x = y.v ∧ t < a0.tmps.length ∧ ∀ (j : Nat) (z : Ent), ents[j]? = some z → D j → z.o.dst = some t → j ≤ i) ∨
  ((∀ (i : Nat) (y : Ent), ents[i]? = some y → D i → y.o.dst ≠ some t) ∧ a0.tmps[t]? = some x)

theorem Opened.act (O : Opened E call ops ents sN aN pn) : ∀ i, i ≤ ents.length → (acAt ents aN i).tmps.length = (acAt ents aN 0).tmps.length ∧ (acAt ents aN i).defers = (acAt ents aN 0).defers ∧
    ∀ t x, (acAt ents aN i).tmps[t]? = some x → TV ents (acAt ents aN 0) (· < i) t x := by
  intro i
  induction i with
  | zero => exact fun _ => ⟨rfl, rfl, fun t x hx => .inr ⟨fun i y _ h => by omega, hx⟩⟩
  | succ i ih =>
    intro hi
    obtain ⟨h1, h0, h2⟩ := ih (by omega)
    obtain ⟨y, hy⟩ : ∃ y, ents[i]? = some y := ⟨_, List.getElem?_eq_getElem (by omega)⟩
    obtain ⟨g1, g2, g3, g4⟩ := O.ent i y hy
    rw [g4.act, g3]
    cases hd : y.o.dst with
    | none =>
      refine ⟨h1, h0, fun t x hx => ?_⟩
      rcases h2 t x hx with ⟨k, z, k1, k2, k3, k4, k5, k6⟩ | ⟨k1, k2⟩
      · refine .inl ⟨k, z, k1, by omega, k3, k4, k5, fun j u hu hj hud => ?_⟩
        rcases Nat.lt_or_ge j i with h | h
        · exact k6 j u hu h hud
        · obtain rfl : j = i := by omega
          rw [hy] at hu
          cases hu
          rw [hd] at hud; simp at hud
      · refine .inr ⟨fun j u hu hj => ?_, k2⟩
        rcases Nat.lt_or_ge j i with h | h
        · exact k1 j u hu h
        · obtain rfl : j = i := by omega
          rw [hy] at hu
          cases hu
          rw [hd]; simp
    | some d =>
      refine ⟨by simp [AAct.put, h1], h0, fun t x hx => ?_⟩
      simp only [AAct.put, List.getElem?_set] at hx
      by_cases hdt : d = t
      · subst hdt
        rw [if_pos rfl] at hx
        split at hx
        next hl =>
          cases hx
          exact .inl ⟨i, y, hy, by omega, hd, rfl, h1 ▸ hl, fun j u hu hj _ => by omega⟩
        next => simp at hx
      · rw [if_neg hdt] at hx
        rcases h2 t x hx with ⟨k, z, k1, k2, k3, k4, k5, k6⟩ | ⟨k1, k2⟩
        · refine .inl ⟨k, z, k1, by omega, k3, k4, k5, fun j u hu hj hud => ?_⟩
          rcases Nat.lt_or_ge j i with h | h
          · exact k6 j u hu h hud
          · obtain rfl : j = i := by omega
            rw [hy] at hu
            cases hu
            rw [hd] at hud
            exact absurd (Option.some.inj hud) hdt
        · refine .inr ⟨fun j u hu hj => ?_, k2⟩
          rcases Nat.lt_or_ge j i with h | h
          · exact k1 j u hu h
          · obtain rfl : j = i := by omega
            rw [hy] at hu
            cases hu
            rw [hd]
            simp [hdt]

/-- What an operation that is ready names is what it named in the text's order. -/
theorem Opened.ready_tmp (O : Opened E call ops ents sN aN pn) {D : Nat → Prop} (hc : Closed ops D) {i : Nat} {x : Ent} (hx : ents[i]? = some x) (hi : ¬ D i) (hb : ∀ j, bit ops i j = true → D j) {t : Tmp} (ht : t ∈ namesOf ops x.o) {v : Value}
    (hv : x.a.tmps[t]? = some v) : TV ents (acAt ents aN 0) D t v := by
  have hil : i < ents.length := (List.getElem?_eq_some_iff.1 hx).1
  obtain ⟨g1, g2, g3, g4⟩ := O.ent i x hx
  rw [g3] at hv
  have h := (O.act i (by omega)).2.2 t v hv
  have key : ∀ (j : Nat) (z : Ent), ents[j]? = some z → z.o.dst = some t → (j < i → D j) ∧ (D j → j < i) := by
    intro j z hz hd
    by_cases hij : i = j
    · subst hij
      exact ⟨fun h => by omega, fun h => absurd h hi⟩
    · obtain ⟨k1, k2⟩ := O.names g1 (O.ent j z hz).1 hij hd ht
      refine ⟨fun h => hb _ (k2 h), fun h => ?_⟩
      rcases Nat.lt_or_ge j i with hlt | hge
      · exact hlt
      · exact absurd (hc _ h _ (k1 (by omega))) hi
  rcases h with ⟨k, z, k1, k2, k3, k4, k5, k6⟩ | ⟨k1, k2⟩
  · exact .inl ⟨k, z, k1, (key k z k1 k3).1 k2, k3, k4, k5, fun j u hu hj hud => k6 j u hu ((key j u hu hud).2 hj) hud⟩
  · exact .inr ⟨fun j u hu hj hud => k1 j u hu ((key j u hu hud).2 hj) hud, k2⟩

/-- One more operation has run. -/
theorem Opened.list_tmp (O : Opened E call ops ents sN aN pn) {D : Nat → Prop} (hc : Closed ops D) {i : Nat} {x : Ent} (hx : ents[i]? = some x) (hi : ¬ D i) {aD : AAct} (hl : aD.tmps.length = (acAt ents aN 0).tmps.length)
    (hD : ∀ t v, TV ents (acAt ents aN 0) D t v → aD.tmps[t]? = some v) : ∀ t v, TV ents (acAt ents aN 0) (fun j => j = i ∨ D j) t v → (aD.put x.o.dst x.v).tmps[t]? = some v := by
  intro t v h
  have hlast : ∀ (j : Nat) (z : Ent), ents[j]? = some z → D j → z.o.dst = some t → x.o.dst = some t → j < i := by
    intro j z hz hj hzd hxd
    rcases Nat.lt_trichotomy j i with h | h | h
    · exact h
    · subst h; exact absurd hj hi
    · have := (O.names (O.ent i x hx).1 (O.ent j z hz).1 (by omega) hzd (by simp [namesOf, hxd])).1 h
      exact absurd (hc _ hj _ this) hi
  rcases h with ⟨k, z, k1, k2, k3, k4, k5, k6⟩ | ⟨k1, k2⟩
  · by_cases hki : k = i
    · subst hki
      rw [hx] at k1
      cases k1
      rw [k3, k4]
      simp only [AAct.put]
      rw [List.getElem?_set_self (by rw [hl]; exact k5)]
    · have hDk : D k := k2.resolve_left hki
      have hne : x.o.dst ≠ some t := by
        intro hxd
        have h1 := k6 i x hx (.inl rfl) hxd
        have h2 := hlast k z k1 hDk k3 hxd
        omega
      have hold := hD t v (.inl ⟨k, z, k1, hDk, k3, k4, k5, fun j u hu hj hud => k6 j u hu (.inr hj) hud⟩)
      cases hd : x.o.dst with
      | none => exact hold
      | some d =>
        simp only [AAct.put]
        rw [List.getElem?_set_ne (by rintro rfl; exact hne hd)]
        exact hold
  · have hne := k1 i x hx (.inl rfl)
    have hold := hD t v (.inr ⟨fun j u hu hj => k1 j u hu (.inr hj), k2⟩)
    cases hd : x.o.dst with
    | none => exact hold
    | some d =>
      simp only [AAct.put]
      rw [List.getElem?_set_ne (by rintro rfl; exact hne hd)]
      exact hold

end

end Go.Ai
