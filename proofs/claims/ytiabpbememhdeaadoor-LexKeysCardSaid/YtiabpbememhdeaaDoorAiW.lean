/-
  THE SHORT RUN, 23: statements whose order is open: memory in every order.
-/
import Derived.Test.YtiabpbememhdeaaDoorAiV
set_option linter.unusedSimpArgs false
set_option linter.unusedVariables false
set_option linter.unusedSectionVars false
namespace Go.Ai
open Go

theorem zipIdx_sorted {α : Type} : ∀ (l : List α) (k : Nat), (l.zipIdx k).Pairwise fun a b => a.2 < b.2 := by
  intro l
  induction l with
  | nil => intro k; simp
  | cons x l ih =>
    intro k
    rw [List.zipIdx_cons, List.pairwise_cons]
    refine ⟨fun y hy => ?_, ih _⟩
    have := List.le_snd_of_mem_zipIdx hy
    simp only at this ⊢
    omega

theorem mem_zip {ents : List Ent} {x : Ent} {j : Nat} : (x, j) ∈ ents.zipIdx ↔ ents[j]? = some x := by
  rw [List.mem_zipIdx_iff_getElem?]

theorem mem_effsOf {bits : Array Nat} {ents : List Ent} {x : Ent} {j : Nat} : (x, j) ∈ effsOf bits ents ↔ Eff bits ents x j := by
  unfold effsOf Eff
  simp only [List.mem_filter, mem_zip, Bool.not_eq_true', and_assoc]

theorem mem_tailsOf {bits : Array Nat} {ents : List Ent} {x : Ent} {j : Nat} : (x, j) ∈ tailsOf bits ents ↔ Tail bits ents x j := by
  unfold tailsOf Tail
  simp only [List.mem_filter, mem_zip, and_assoc]

theorem effsOf_sorted (bits : Array Nat) (ents : List Ent) : (effsOf bits ents).Pairwise fun a b => a.2 < b.2 :=
  ((zipIdx_sorted _ _).filter _).filter _
theorem tailsOf_sorted (bits : Array Nat) (ents : List Ent) : (tailsOf bits ents).Pairwise fun a b => a.2 < b.2 :=
  ((zipIdx_sorted _ _).filter _).filter _

theorem isTail_spec {bits : Array Nat} {ents : List Ent} {x : Ent} {j : Nat} (h : isTail bits ents.zipIdx (x, j) = true) : x.cls = 3 ∧ isStore x.o.op = true ∧
    ∀ y i, ents[i]? = some y → y.ran = true → (y.cls = 1 ∨ y.cls = 2 ∨ y.cls = 4 ∨ (y.cls = 3 ∧ isStore y.o.op = false)) → (bits.getD j 0).testBit i = true := by
  unfold isTail at h
  simp only [Bool.and_eq_true, List.all_eq_true, decide_eq_true_eq] at h
  refine ⟨h.1.1, h.1.2, fun y i hy hr hc => ?_⟩
  have := h.2 _ (mem_zip.2 hy)
  simp only [Bool.or_eq_true, Bool.not_eq_true', Bool.and_eq_false_iff, Bool.or_eq_false_iff, decide_eq_false_iff_not] at this
  rcases this with (h1 | h1) | h1
  · rw [hr] at h1; simp at h1
  · obtain ⟨⟨⟨k1, k2⟩, k3⟩, k4⟩ := h1
    rcases hc with hc | hc | hc | ⟨hc, hs⟩
    · exact absurd hc k1
    · exact absurd hc k2
    · exact absurd hc k3
    · rcases k4 with k4 | k4
      · exact absurd hc k4
      · simp [hs] at k4
  · exact h1

theorem sees_spec {E : Env} {ops : Array Oper} {all : List (Ent × Nat)} {sM : St} {x : Ent} {i : Nat} {D : Nat → Prop} (hc : Closed ops D) (hi : ¬ D i) (hb : ∀ j, bit ops i j = true → D j) :
    ∀ (l : List (Ent × Nat)), l.Pairwise (fun a b => a.2 < b.2) → (∀ y ∈ l, D y.2 → y.1.cls ≠ 4) → SeesP E (Region.before ops) all sM x i l →
      ((∀ y ∈ l, D y.2) → seenAt E x (withMade all.length all sM)) ∧ (∀ y ∈ l, ¬ D y.2 → (∀ z ∈ l, z.2 < y.2 → D z.2) → seenAt E x (withMade y.2 all y.1.s)) := by
  intro l
  induction l with
  | nil => intro _ _ h; exact ⟨fun _ => h, fun y hy => by simp at hy⟩
  | cons e l ih =>
    intro hs h4 h
    obtain ⟨e, k⟩ := e
    rw [List.pairwise_cons] at hs
    simp only [SeesP] at h
    have next : D k → SeesP E (Region.before ops) all sM x i l := by
      intro hk
      split at h
      · exact h
      · rcases h.2 with h1 | h1 | h1
        · exact absurd (hc k hk i h1) hi
        · exact absurd h1 (h4 (e, k) (by simp) hk)
        · exact h1
    constructor
    · intro hall
      exact (ih hs.2 (fun y hy => h4 y (by simp [hy])) (next (hall (e, k) (by simp)))).1 fun y hy => hall y (by simp [hy])
    · intro y hy hyD hz
      rcases List.mem_cons.1 hy with rfl | hy'
      · simp only at hyD ⊢
        split at h
        next hbk => exact absurd (hb k hbk) hyD
        next => exact h.1
      · have hk : D k := hz (e, k) (by simp) (hs.1 y hy')
        exact (ih hs.2 (fun y hy => h4 y (by simp [hy])) (next hk)).2 y hy' hyD fun z hz' => hz z (by simp [hz'])

/-! Memory with what later operations make. -/
theorem withMade_keep {e f : Nat} : ∀ (l : List (Ent × Nat)) (s : St), (∀ x ∈ l, x.1.cls = 2 → e < x.2 → x.1.s.next ≠ f) → (withMade e l s).get f = s.get f := by
  intro l
  induction l with
  | nil => intro s _; rfl
  | cons x l ih =>
    intro s h
    unfold withMade
    simp only [List.foldl_cons]
    have h1 := ih (if x.1.cls = 2 && decide (e < x.2) then (match x.1.s'.get x.1.s.next with | some o => s.put x.1.s.next o | none => s) else s) fun y hy => h y (by simp [hy])
    refine Eq.trans h1 ?_
    split
    next hc =>
      simp only [Bool.and_eq_true, decide_eq_true_eq] at hc
      split
      next o ho => rw [St.get_put, if_neg (Ne.symm (h x (by simp) hc.1 hc.2))]
      next => rfl
    next => rfl

theorem withMade_made {e f : Nat} {o : AObj} : ∀ (l : List (Ent × Nat)) (s : St), (∀ x ∈ l, x.1.cls = 2 → e < x.2 → x.1.s.next = f → x.1.s'.get f = some o) →
    (s.get f = some o ∨ ∃ x ∈ l, x.1.cls = 2 ∧ e < x.2 ∧ x.1.s.next = f) → (withMade e l s).get f = some o := by
  intro l
  induction l with
  | nil => intro s _ h; rcases h with h | ⟨x, hx, _⟩; exact h; simp at hx
  | cons x l ih =>
    intro s h hs
    unfold withMade
    simp only [List.foldl_cons]
    refine ih _ (fun y hy => h y (by simp [hy])) ?_
    split
    next hc =>
      simp only [Bool.and_eq_true, decide_eq_true_eq] at hc
      by_cases hf : x.1.s.next = f
      · have hx := h x (by simp) hc.1 hc.2 hf
        rw [hf, hx]
        exact .inl (by simp [St.get_put])
      · rcases hs with hs | ⟨y, hy, hy'⟩
        · left
          split
          next o' _ => rw [St.get_put, if_neg (Ne.symm hf)]; exact hs
          next => exact hs
        · rcases List.mem_cons.1 hy with rfl | hy
          · exact absurd hy'.2.2 hf
          · exact .inr ⟨y, hy, hy'⟩
    next hc =>
      rcases hs with hs | ⟨y, hy, hy'⟩
      · exact .inl hs
      · rcases List.mem_cons.1 hy with rfl | hy
        · exact absurd (by simp [hy'.1, hy'.2.1]) hc
        · exact .inr ⟨y, hy, hy'⟩

section
variable {E : Env} {B : Nat} {w₀ : World} {call : Caller} {ops : Array Oper} {ents : List Ent} {sN : St} {aN : AAct} {pn : Option (Nat × Value × St)}

/-- What is known of the run in the text's order. -/
structure Known (E : Env) (call : Caller) (ops : Array Oper) (ents : List Ent) (sN : St) (aN : AAct) (pn : Option (Nat × Value × St)) : Prop extends Opened E call ops ents sN aN pn where
  fresh : ∀ j, (stAt ents sN j).Fresh
  up : ∀ j, (stAt ents sN j).next ≤ (stAt ents sN (j + 1)).next
  good : Good E (Region.before ops) ents sN

theorem Known.mono (O : Known E call ops ents sN aN pn) {i j : Nat} (h : i ≤ j) : (stAt ents sN i).next ≤ (stAt ents sN j).next := by
  induction h with
  | refl => exact Nat.le_refl _
  | step h ih => exact Nat.le_trans ih (O.up _)

theorem Known.made (hE : E.Fine B w₀) (O : Known E call ops ents sN aN pn) {j : Nat} {x : Ent} (hx : ents[j]? = some x) (hc : x.cls = 2) : ∃ obj, stAt ents sN (j + 1) = (stAt ents sN j).push obj ∧ x.s' = stAt ents sN (j + 1) := by
  obtain ⟨g1, g2, g3, g4⟩ := O.ent j x hx
  obtain ⟨_, h1, h2, h3⟩ := g4.make hc
  obtain ⟨obj, h4, _⟩ := aVal_alloc (B := B) (w₀ := w₀) hE.toOk h2 h3
  exact ⟨obj, by rw [h4, g2], h1⟩

/-- What does nothing turns nothing. -/
theorem Known.keep1 (hE : E.Fine B w₀) (O : Known E call ops ents sN aN pn) {j : Nat} (h : ∀ x, ents[j]? = some x → x.cls ≠ 3) {f : Nat} (hf : f < (stAt ents sN j).next ∨ ∀ x, ents[j]? = some x → x.cls ≠ 2) :
    (stAt ents sN (j + 1)).get f = (stAt ents sN j).get f := by
  rcases Nat.lt_or_ge j ents.length with hj | hj
  · obtain ⟨x, hx⟩ : ∃ x, ents[j]? = some x := ⟨_, List.getElem?_eq_getElem hj⟩
    obtain ⟨g1, g2, g3, g4⟩ := O.ent j x hx
    have h3 := h x hx
    have h5 := g4.cls
    by_cases hr : x.ran = true
    · have hcs : x.cls = 0 ∨ x.cls = 1 ∨ x.cls = 2 ∨ x.cls = 4 ∨ x.cls = 5 := by omega
      rcases hcs with hc | hc | hc | hc | hc
      · rw [(g4.pure hc hr).1, g2]
      · rw [(g4.look hc).2.1, g2]
      · obtain ⟨obj, h1, h2⟩ := O.made hE hx hc
        rw [h1, St.get_push, if_neg]
        rcases hf with hf | hf
        · omega
        · exact absurd hc (hf x hx)
      · rw [(g4.pan hc).2.1, g2]
      · exact absurd hr (by simp [(g4.dead hc).1])
    · rw [(g4.none (by simpa using hr)).2.1, g2]
  · rw [stAt_end hj, stAt_end (by omega)]

theorem Known.keep (hE : E.Fine B w₀) (O : Known E call ops ents sN aN pn) {f i : Nat} : ∀ (k : Nat), i ≤ k → (∀ j x, i ≤ j → j < k → ents[j]? = some x → x.cls = 3 → (stAt ents sN (j + 1)).get f = (stAt ents sN j).get f) →
    (f < (stAt ents sN i).next ∨ ∀ j x, i ≤ j → j < k → ents[j]? = some x → x.cls ≠ 2) → (stAt ents sN k).get f = (stAt ents sN i).get f := by
  intro k hik
  induction hik with
  | refl => intro _ _; rfl
  | step hik ih =>
    rename_i k
    have hik : i ≤ k := hik
    intro h3 hf
    rw [← ih (fun j x h1 h2 => h3 j x h1 (by omega)) (hf.imp id fun h j x h1 h2 => h j x h1 (by omega))]
    by_cases hc : ∃ x, ents[k]? = some x ∧ x.cls = 3
    · obtain ⟨x, hx, hc⟩ := hc
      exact h3 k x hik (by omega) hx hc
    · refine O.keep1 hE (fun x hx h => hc ⟨x, hx, h⟩) ?_
      rcases hf with hf | hf
      · exact .inl (Nat.lt_of_lt_of_le hf (O.mono hik))
      · exact .inr fun x hx => hf k x hik (by omega) hx

/-- Memory ahead of the operation at c, with what later ones make. -/
structure Cut (ents : List Ent) (sN : St) (c : Nat) (W : St) : Prop where
  lo : ∀ f, f < (stAt ents sN c).next → W.get f = (stAt ents sN c).get f
  hi : ∀ j x, ents[j]? = some x → x.cls = 2 → c < j → W.get (stAt ents sN j).next = (stAt ents sN (j + 1)).get (stAt ents sN j).next

theorem Known.made_lt (hE : E.Fine B w₀) (O : Known E call ops ents sN aN pn) {j : Nat} {x : Ent} (hx : ents[j]? = some x) (hc : x.cls = 2) : (stAt ents sN (j + 1)).next = (stAt ents sN j).next + 1 ∧
    ((stAt ents sN (j + 1)).get (stAt ents sN j).next).isSome = true := by
  obtain ⟨obj, h1, h2⟩ := O.made hE hx hc
  rw [h1]
  exact ⟨St.next_push _ _, by simp [St.get_push]⟩

theorem Known.cut (hE : E.Fine B w₀) (O : Known E call ops ents sN aN pn) (c : Nat) : Cut ents sN c (withMade c ents.zipIdx (stAt ents sN c)) := by
  constructor
  · intro f hf
    refine withMade_keep _ _ ?_
    rintro ⟨x, j⟩ hx hc hj
    simp only at hc hj ⊢
    rw [(O.ent j x (mem_zip.1 hx)).2.1]
    have := O.mono (Nat.le_of_lt hj)
    omega
  · intro j x hx hc hj
    obtain ⟨obj, h1, h2⟩ := O.made hE hx hc
    have hobj : (stAt ents sN (j + 1)).get (stAt ents sN j).next = some obj := by rw [h1, St.get_push, if_pos rfl]
    rw [hobj]
    refine withMade_made _ _ ?_ (.inr ⟨(x, j), mem_zip.2 hx, hc, hj, ?_⟩)
    · rintro ⟨y, k⟩ hy hyc hk hn
      simp only at hyc hk hn ⊢
      rw [(O.ent k y (mem_zip.1 hy)).2.1] at hn
      have hkj : k = j := by
        rcases Nat.lt_trichotomy k j with h | h | h
        · have := O.made_lt hE (mem_zip.1 hy) hyc
          have := O.mono (show k + 1 ≤ j from h)
          omega
        · exact h
        · have := O.made_lt hE hx hc
          have := O.mono (show j + 1 ≤ k from h)
          omega
      subst hkj
      rw [mem_zip.1 hy] at hx
      cases hx
      rw [h2, hobj]
    · exact (congrArg St.next (O.ent j x hx).2.1)

/-- The place of the first of the stores at the end. -/
def endOf (ents : List Ent) : List (Ent × Nat) → Nat
  | [] => ents.length
  | x :: _ => x.2

theorem Known.mid (hE : E.Fine B w₀) (O : Known E call ops ents sN aN pn) : ∃ m, midSt sN (tailsOf (Region.before ops) ents) = stAt ents sN m ∧ m ≤ ents.length ∧ (∀ x j, Tail (Region.before ops) ents x j → m ≤ j) ∧
    (∀ x j, Eff (Region.before ops) ents x j → j < m) ∧ (∀ x j, ents[j]? = some x → x.cls = 1 → j < m) ∧ (∀ x j, ents[j]? = some x → x.cls = 2 → j < m) ∧ Cut ents sN m (midSt sN (tailsOf (Region.before ops) ents)) := by
  have hsorted := tailsOf_sorted (Region.before ops) ents
  have hmem : ∀ x j, (x, j) ∈ tailsOf (Region.before ops) ents ↔ Tail (Region.before ops) ents x j := fun x j => mem_tailsOf
  generalize tailsOf (Region.before ops) ents = l at hsorted hmem
  cases l with
  | nil =>
    refine ⟨ents.length, by simp [midSt, stAt], Nat.le_refl _, fun x j h => by simpa using (hmem x j).2 h, fun x j h => (List.getElem?_eq_some_iff.1 h.1).1, fun x j h _ => (List.getElem?_eq_some_iff.1 h).1,
      fun x j h _ => (List.getElem?_eq_some_iff.1 h).1, ?_⟩
    constructor
    · intro f _; simp [midSt, stAt]
    · intro j x hx _ hj
      have := (List.getElem?_eq_some_iff.1 hx).1
      omega
  | cons t l =>
    obtain ⟨t, m⟩ := t
    have ht : Tail (Region.before ops) ents t m := (hmem t m).1 (by simp)
    have hs : t.s = stAt ents sN m := (O.ent m t ht.1).2.1
    obtain ⟨t1, t2, t3⟩ := isTail_spec ht.2.2
    rw [List.pairwise_cons] at hsorted
    have hmk : ∀ x j, ents[j]? = some x → x.cls = 2 → j < m := by
      intro x j hx hc
      exact O.bit_lt (t3 x j hx ((O.ent j x hx).2.2.2.make hc).1 (.inr (.inl hc)))
    refine ⟨m, hs, Nat.le_of_lt (List.getElem?_eq_some_iff.1 ht.1).1, fun x j h => ?_, fun x j h => O.bit_lt (O.good.last _ _ _ _ h ht), fun x j hx hc => ?_, hmk, ?_⟩
    · have := (hmem x j).2 h
      rcases List.mem_cons.1 this with h1 | h1
      · cases h1; exact Nat.le_refl _
      · exact Nat.le_of_lt (hsorted.1 _ h1)
    · exact O.bit_lt (t3 x j hx ((O.ent j x hx).2.2.2.look hc).1 (.inl hc))
    · constructor
      · intro f _; simp only [midSt, hs]
      · intro j x hx hc hj
        have := hmk x j hx hc
        omega

end

end Go.Ai
