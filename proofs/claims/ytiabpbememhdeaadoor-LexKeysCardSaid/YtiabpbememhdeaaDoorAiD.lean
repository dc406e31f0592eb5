/-
  THE SHORT RUN, 4: a row that grows.
-/
import Derived.Test.YtiabpbememhdeaaDoorAiC
set_option linter.unusedSimpArgs false
set_option linter.unusedVariables false
namespace Go.Ai
open Go

theorem ext_grown (cells vs : List Value) (ep : Nat) (hist : List Nat) (e : Nat) (h : e ≤ ep) :
    ext (cells ++ vs) (ep + 1) (cells.length :: hist) e = ext cells ep hist e := by
  unfold ext
  rw [if_neg (by omega)]
  by_cases he : e = ep
  · subst he; simp
  · rw [if_neg he]
    obtain ⟨d, hd⟩ : ∃ d, ep + 1 - 1 - e = d + 1 := ⟨ep - 1 - e, by omega⟩
    rw [hd, List.getElem?_cons_succ]
    congr 2; omega

theorem ext_now (cells vs : List Value) (ep : Nat) (hist : List Nat) : ext (cells ++ vs) (ep + 1) hist (ep + 1) = cells.length + vs.length := by simp [ext]

theorem withNew_case {φ : Phi} {f e : Nat} {k : Blk} {f' e' : Nat} {k' : Blk} (h : withNew φ f e k f' e' = some k') : (f' = f ∧ e' = e ∧ k' = k) ∨ φ f' e' = some k' := by
  unfold withNew at h
  split at h
  · rename_i hh; exact .inl ⟨hh.1, hh.2, (Option.some.inj h).symm⟩
  · exact .inr h

section
variable {B : Nat} {w₀ : World} {φ : Phi} {s : St} {w : World} {f : Nat} {cells : List Value} {esz ep lw : Nat} {hist : List Nat} {k : Blk}

theorem R.none_above (h : R B w₀ φ s.get w) (hg : s.get f = some (.row cells esz ep lw hist)) : φ f (ep + 1) = none := by
  cases hn : φ f (ep + 1) with
  | none => rfl
  | some k' => have := (h.row _ _ _ _ _ _ _ _ hg hn).1; omega

/-- In place. -/
theorem R.grow_in (P : Program) (h : R B w₀ φ s.get w) (hg : s.get f = some (.row cells esz ep lw hist)) (hlw : lw ≤ ep) (hk : φ f ep = some k)
    {vs vs' : List Value} (hcap : cells.length + vs.length ≤ k.base + k.cap * esz) (hb : k.base ≤ cells.length)
    (hv : VL B φ vs vs') (hc : ∀ v ∈ vs, isCell v = true) :
    ∃ w', (storeCells ⟨k.b, cells.length - k.base, none⟩ vs').run P w = .ok () w' ∧ Step s.next φ w (withNew φ f (ep + 1) k) w' ∧
      R B w₀ (withNew φ f (ep + 1) k) (s.put f (.row (cells ++ vs) esz (ep + 1) lw (cells.length :: hist))).get w' := by
  obtain ⟨h1, _, h2⟩ := h.row _ _ _ _ _ _ _ _ hg hk
  obtain ⟨a1, a2, cs, t, fr, a3, a4, a5, a6, a7⟩ := h2 hlw
  have hext : ext cells ep hist ep = cells.length := by simp [ext]
  rw [hext] at a5 a7
  have hmono := withNew_ext (k := k) (h.none_above hg)
  have hl' : cells.length - k.base + vs'.length ≤ cs.size := by have := hv.1; omega
  have hspl := splice_length cs.toList (cells.length - k.base) vs' (by simpa using hl')
  refine ⟨_, run_store_row P k.b (cells.length - k.base) t fr vs' 0 cs w a3 a6 (by simpa using hl') (hv.cells hc), ?_⟩
  rw [Nat.add_zero]
  have hch := h.change f (.row (cells ++ vs) esz (ep + 1) lw (cells.length :: hist)) (φ' := withNew φ f (ep + 1) k)
    (w' := w.setRow k.b (splice cs.toList (cells.length - k.base) vs').toArray) hmono
    (fun f' e' k' hf hk' => by rcases withNew_case hk' with ⟨h3, _⟩ | h3; exact absurd h3 hf; exact h3)
    (fun e' k' hk' => .inl (by rcases withNew_case hk' with ⟨_, _, rfl⟩ | h3; exact ⟨_, _, hk, rfl⟩; exact ⟨_, _, h3, rfl⟩))
    (fun e₁ k₁ e₂ k₂ h₁ h₂ he => by
      rcases withNew_case h₁ with ⟨_, _, e1⟩ | h₁ <;> rcases withNew_case h₂ with ⟨_, _, e2⟩ | h₂
      · rw [e1, e2]
      · rw [e1] at he ⊢; exact (h.inj _ _ _ _ _ _ hk h₂ he).2
      · rw [e2] at he ⊢; exact (h.inj _ _ _ _ _ _ h₁ hk he).2
      · exact (h.inj _ _ _ _ _ _ h₁ h₂ he).2)
    (fun b hb hn => setRow_other _ _ _ _ (fun he => hn _ _ hk he.symm)) (by simp) rfl rfl rfl ?_ (by simp) (by simp) (fun h => absurd rfl (h _ _ _ _ _)) (fun _ _ _ => ⟨_, _, hk⟩)
  · refine ⟨hch.1 _, ?_⟩
    rw [show (s.put f (.row (cells ++ vs) esz (ep + 1) lw (cells.length :: hist))).get = _ from funext fun m => St.get_put _ _ _ _]
    exact hch.2
  · intro e k' cells' esz' ep' lw' hist' ho hk'
    cases ho
    have hget : ∀ j, j < cells.length - k.base → (splice cs.toList (cells.length - k.base) vs').toArray[j]? = cs[j]? := by
      intro j hj
      simp only [List.getElem?_toArray]
      rw [splice_get _ _ _ (by simpa using hl'), if_neg (by omega)]
      simp
    rcases withNew_case hk' with ⟨_, rfl, rfl⟩ | h3
    · refine ⟨Nat.le_refl _, by simp [ext], fun _ => ⟨a1, a2, _, t, fr, setRow_heap w k'.b cs _ t fr a3, ?_, ?_, ?_, ?_⟩⟩
      · simp [hspl, a4]
      · rw [ext_now]; simp [hspl]; omega
      · simpa [hspl] using a6
      · intro o x ho ho' hx
        rw [ext_now] at ho'
        by_cases hlt : o < cells.length
        · rw [List.getElem?_append_left hlt] at hx
          obtain ⟨v, hv1, hv2⟩ := a7 o x ho hlt hx
          exact ⟨v, by rw [hget _ (by omega)]; exact hv1, hv2.mono hmono⟩
        · rw [List.getElem?_append_right (by omega)] at hx
          have hlen := hv.1
          have hlt' : o - cells.length < vs'.length := by omega
          refine ⟨vs'[o - cells.length], ?_, (hv.2 _ _ _ hx (List.getElem?_eq_getElem hlt')).mono hmono⟩
          simp only [List.getElem?_toArray]
          rw [splice_get _ _ _ (by simpa using hl'), if_pos (by omega), show o - k'.base - (cells.length - k'.base) = o - cells.length by omega]
          exact List.getElem?_eq_getElem hlt'
    · obtain ⟨b1, b0, b2⟩ := h.row _ _ _ _ _ _ _ _ hg h3
      rw [ext_grown _ _ _ _ _ b1]
      refine ⟨by omega, by simp; omega, fun hle => ?_⟩
      obtain ⟨c1, c2, cs2, t2, fr2, c3, c4, c5, c6, c7⟩ := b2 hle
      by_cases hsame : k'.b = k.b
      · rw [hsame, a3] at c3
        cases c3
        have hbase := (h.inj _ _ _ _ _ _ h3 hk hsame).2
        refine ⟨c1, c2, (splice cs.toList (cells.length - k.base) vs').toArray, t, fr, by rw [hsame]; exact setRow_heap w k.b cs _ t fr a3, by simp [hspl, c4], by simp [hspl]; exact c5, by simpa [hspl] using c6, ?_⟩
        intro o x ho ho' hx
        rw [List.getElem?_append_left (by omega)] at hx
        obtain ⟨v, hv1, hv2⟩ := c7 o x ho ho' hx
        exact ⟨v, by rw [hget _ (by omega)]; exact hv1, hv2.mono hmono⟩
      · refine ⟨c1, c2, cs2, t2, fr2, (setRow_other _ _ _ _ hsame).trans c3, c4, c5, c6, fun o x ho ho' hx => ?_⟩
        rw [List.getElem?_append_left (by omega)] at hx
        obtain ⟨v, hv1, hv2⟩ := c7 o x ho ho' hx
        exact ⟨v, hv1, hv2.mono hmono⟩

/-- Into a new block, of which the row's cells from 'off' on are the first ones. -/
theorem R.grow_new (h : R B w₀ φ s.get w) (hk : ∃ e₀ k₀, φ f e₀ = some k₀) (hg : s.get f = some (.row cells esz ep lw hist)) (hz : 0 < esz) {off cap : Nat} {elem : TypeId} {vs : List Value} {c : Array Value} (n : Nat)
    (ho : off ≤ cells.length + vs.length) (hs : c.size = cap * esz) (hfit : cells.length + vs.length ≤ off + c.size)
    (hold : ∀ o x, off ≤ o → o < cells.length → cells[o]? = some x → ∃ v, c[o - off]? = some v ∧ V B φ x v)
    (hnew : ∀ i x, vs[i]? = some x → off ≤ cells.length + i → ∃ v, c[cells.length + i - off]? = some v ∧ V B φ x v) :
    Step s.next φ w (withNew φ f (ep + 1) ⟨w.heap.size, off, cap, esz⟩) { w with drawn := n, heap := w.heap.push (.cells c elem) } ∧
      R B w₀ (withNew φ f (ep + 1) ⟨w.heap.size, off, cap, esz⟩) (s.put f (.row (cells ++ vs) esz (ep + 1) lw (cells.length :: hist))).get
        { w with drawn := n, heap := w.heap.push (.cells c elem) } := by
  have hmono := withNew_ext (k := ⟨w.heap.size, off, cap, esz⟩) (h.none_above hg)
  have hfresh : ∀ e' k', φ f e' = some k' → k'.b ≠ w.heap.size := fun e' k' h' => by have := (h.lo _ _ _ h').2; omega
  have hch := h.change f (.row (cells ++ vs) esz (ep + 1) lw (cells.length :: hist)) (φ' := withNew φ f (ep + 1) ⟨w.heap.size, off, cap, esz⟩)
    (w' := { w with drawn := n, heap := w.heap.push (.cells c elem) }) hmono
    (fun f' e' k' hf hk' => by rcases withNew_case hk' with ⟨h3, _⟩ | h3; exact absurd h3 hf; exact h3)
    (fun e' k' hk' => by rcases withNew_case hk' with ⟨_, _, rfl⟩ | h3; exact .inr ⟨Nat.le_refl _, by simp⟩; exact .inl ⟨_, _, h3, rfl⟩)
    (fun e₁ k₁ e₂ k₂ h₁ h₂ he => by
      rcases withNew_case h₁ with ⟨_, _, rfl⟩ | h₁ <;> rcases withNew_case h₂ with ⟨_, _, rfl⟩ | h₂
      · rfl
      · exact absurd he.symm (hfresh _ _ h₂)
      · exact absurd he (hfresh _ _ h₁)
      · exact (h.inj _ _ _ _ _ _ h₁ h₂ he).2)
    (fun b hb hn => heap_push_old w _ b hb) (by simp) rfl rfl rfl ?_ (by simp) (by simp) (fun h => absurd rfl (h _ _ _ _ _)) (fun _ _ _ => hk)
  · refine ⟨hch.1 _, ?_⟩
    rw [show (s.put f (.row (cells ++ vs) esz (ep + 1) lw (cells.length :: hist))).get = _ from funext fun m => St.get_put _ _ _ _]
    exact hch.2
  · intro e k' cells' esz' ep' lw' hist' ho hk'
    cases ho
    rcases withNew_case hk' with ⟨_, rfl, rfl⟩ | h3
    · refine ⟨Nat.le_refl _, by simp [ext], fun _ => ⟨hz, rfl, c, elem, (0, 0), by simp, hs, by rw [ext_now]; exact hfit, by simp, ?_⟩⟩
      intro o x ho ho' hx
      rw [ext_now] at ho'
      by_cases hlt : o < cells.length
      · rw [List.getElem?_append_left hlt] at hx
        obtain ⟨v, hv1, hv2⟩ := hold o x ho hlt hx
        exact ⟨v, hv1, hv2.mono hmono⟩
      · rw [List.getElem?_append_right (by omega)] at hx
        simp only at ho
        obtain ⟨v, hv1, hv2⟩ := hnew _ x hx (by omega)
        rw [show cells.length + (o - cells.length) - off = o - off by omega] at hv1
        exact ⟨v, hv1, hv2.mono hmono⟩
    · obtain ⟨b1, b0, b2⟩ := h.row _ _ _ _ _ _ _ _ hg h3
      rw [ext_grown _ _ _ _ _ b1]
      refine ⟨by omega, by simp; omega, fun hle => ?_⟩
      obtain ⟨c1, c2, cs2, t2, fr2, c3, c4, c5, c6, c7⟩ := b2 hle
      refine ⟨c1, c2, cs2, t2, fr2, (heap_push_old w _ _ (h.lo _ _ _ h3).2).trans c3, c4, c5, c6, fun o x ho ho' hx => ?_⟩
      rw [List.getElem?_append_left (by omega)] at hx
      obtain ⟨v, hv1, hv2⟩ := c7 o x ho ho' hx
      exact ⟨v, hv1, hv2.mono hmono⟩
end

end Go.Ai
