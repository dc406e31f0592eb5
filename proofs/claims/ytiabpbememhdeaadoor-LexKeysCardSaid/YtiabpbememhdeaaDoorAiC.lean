/-
  THE SHORT RUN, 3: one number's object turns into another one: a write, a growth in place, a growth into a new block, a map's or a walk's next state.
-/
import Derived.Test.YtiabpbememhdeaaDoorAiB
set_option linter.unusedSimpArgs false
set_option linter.unusedVariables false
namespace Go.Ai
open Go

theorem R.change {B : Nat} {w₀ : World} {φ φ' : Phi} {g : Nat → Option AObj} {w w' : World} (h : R B w₀ φ g w) (f : Nat) (o' : AObj)
    (hφ : ∀ f' e k, φ f' e = some k → φ' f' e = some k)
    (hne : ∀ f' e' k', f' ≠ f → φ' f' e' = some k' → φ f' e' = some k')
    (hnew : ∀ e' k', φ' f e' = some k' → (∃ e₀ k₀, φ f e₀ = some k₀ ∧ k₀.b = k'.b) ∨ (w.heap.size ≤ k'.b ∧ k'.b < w'.heap.size))
    (hbase : ∀ e₁ k₁ e₂ k₂, φ' f e₁ = some k₁ → φ' f e₂ = some k₂ → k₁.b = k₂.b → k₁.base = k₂.base)
    (hheap : ∀ b, b < w.heap.size → (∀ e₀ k₀, φ f e₀ = some k₀ → k₀.b ≠ b) → w'.heap[b]? = w.heap[b]?)
    (hsize : w.heap.size ≤ w'.heap.size) (hos : w'.os = w.os) (ht : w'.tape = w.tape) (hp : w'.output = w.output)
    (hrow : ∀ e k cells esz ep lw hist, o' = .row cells esz ep lw hist → φ' f e = some k → e ≤ ep ∧ ext cells ep hist e ≤ cells.length ∧ (lw ≤ e → RowOk B φ' w' k cells esz (ext cells ep hist e)))
    (hmap : ∀ e k es, o' = .map es → φ' f e = some k → MapOk B φ' w' k es)
    (hiter : ∀ e k s p, o' = .iter s p → φ' f e = some k → w'.heap[k.b]? = some (.stringIter s p))
    (hone : (∀ cells esz ep lw hist, o' ≠ .row cells esz ep lw hist) → ∀ e k, φ' f e = some k → e = 0) (hfam : ∀ e k, φ' f e = some k → ∃ e₀ k₀, φ f e₀ = some k₀) :
    (∀ n, Step n φ w φ' w') ∧ R B w₀ φ' (fun m => if m = f then some o' else g m) w' := by
  have hother : ∀ f' e' k', f' ≠ f → φ f' e' = some k' → w'.heap[k'.b]? = w.heap[k'.b]? := by
    intro f' e' k' hf hk
    exact hheap _ (h.lo _ _ _ hk).2 (fun e₀ k₀ h₀ he => hf (h.inj _ _ _ _ _ _ hk h₀ he.symm).1)
  have hold : ∀ b, b < B → w'.heap[b]? = w.heap[b]? := fun b hb =>
    hheap b (Nat.lt_of_lt_of_le hb h.size) (fun e₀ k₀ h₀ he => by have := (h.lo _ _ _ h₀).1; omega)
  constructor
  · intro n
    refine ⟨hφ, fun f' e' k' hk' => ?_, fun b hb hn => hheap b hb (fun e₀ k₀ h₀ => hn _ _ _ h₀), hsize, hos, ht, hp, fun f' e' k' hk' => ?_⟩
    rotate_left
    · left
      by_cases hf : f' = f
      · subst hf; exact hfam _ _ hk'
      · exact ⟨_, _, hne _ _ _ hf hk'⟩
    by_cases hf : f' = f
    · subst hf
      rcases hnew _ _ hk' with ⟨e₀, k₀, h1, h2⟩ | h1
      · exact .inr (.inr ⟨e₀, k₀, h1, h2⟩)
      · exact .inr (.inl h1.1)
    · exact .inl (hne _ _ _ hf hk')
  · refine ⟨fun f' e' k' hk' => ?_, fun f' e' k' hk' => ?_, fun f₁ e₁ k₁ f₂ e₂ k₂ h1 h2 he => ?_, fun f' e' k' cells esz ep lw hist hg hk' => ?_, fun f' e' k' es hg hk' => ?_,
      fun f' e' k' s p hg hk' => ?_, fun b hb => (hold b hb).trans (h.old b hb), Nat.le_trans h.size hsize,
      fun f' e' k' hk' hg => by
        by_cases hf : f' = f
        · subst hf; exact hone (by simpa using hg) _ _ hk'
        · exact h.one _ _ _ (hne _ _ _ hf hk') (by simpa [hf] using hg)⟩
    · by_cases hf : f' = f
      · simp [hf]
      · simp [hf, h.dom _ _ _ (hne _ _ _ hf hk')]
    · by_cases hf : f' = f
      · subst hf
        rcases hnew _ _ hk' with ⟨e₀, k₀, h1, h2⟩ | h1
        · have := h.lo _ _ _ h1; omega
        · have := h.size; omega
      · have := h.lo _ _ _ (hne _ _ _ hf hk'); omega
    · by_cases hf1 : f₁ = f <;> by_cases hf2 : f₂ = f
      · subst hf1; subst hf2; exact ⟨rfl, hbase _ _ _ _ h1 h2 he⟩
      · subst hf1
        have h3 := hne _ _ _ hf2 h2
        rcases hnew _ _ h1 with ⟨e₀, k₀, h4, h5⟩ | h4
        · exact absurd (h.inj _ _ _ _ _ _ h4 h3 (h5.trans he)).1.symm hf2
        · have := (h.lo _ _ _ h3).2; omega
      · subst hf2
        have h3 := hne _ _ _ hf1 h1
        rcases hnew _ _ h2 with ⟨e₀, k₀, h4, h5⟩ | h4
        · exact absurd (h.inj _ _ _ _ _ _ h3 h4 (he.trans h5.symm)).1 hf1
        · have := (h.lo _ _ _ h3).2; omega
      · exact h.inj _ _ _ _ _ _ (hne _ _ _ hf1 h1) (hne _ _ _ hf2 h2) he
    · by_cases hf : f' = f
      · subst hf
        simp only [if_true, Option.some.injEq] at hg
        exact hrow _ _ _ _ _ _ _ hg hk'
      · simp only [if_neg hf] at hg
        have h1 := hne _ _ _ hf hk'
        obtain ⟨h3, h3', h4⟩ := h.row _ _ _ _ _ _ _ _ hg h1
        exact ⟨h3, h3', fun hl => (h4 hl).congr hφ (hother _ _ _ hf h1)⟩
    · by_cases hf : f' = f
      · subst hf
        simp only [if_true, Option.some.injEq] at hg
        exact hmap _ _ _ hg hk'
      · simp only [if_neg hf] at hg
        have h1 := hne _ _ _ hf hk'
        exact (h.map _ _ _ _ hg h1).congr hφ (hother _ _ _ hf h1)
    · by_cases hf : f' = f
      · subst hf
        simp only [if_true, Option.some.injEq] at hg
        exact hiter _ _ _ _ hg hk'
      · simp only [if_neg hf] at hg
        have h1 := hne _ _ _ hf hk'
        rw [hother _ _ _ hf h1]
        exact h.iter _ _ _ _ _ hg h1

def splice (cells : List Value) (o : Nat) (vs : List Value) : List Value := cells.take o ++ (vs ++ cells.drop (o + vs.length))

theorem splice_length (cells : List Value) (o : Nat) (vs : List Value) (h : o + vs.length ≤ cells.length) : (splice cells o vs).length = cells.length := by
  simp [splice]; omega

theorem splice_get (cells : List Value) (o : Nat) (vs : List Value) (h : o + vs.length ≤ cells.length) (i : Nat) :
    (splice cells o vs)[i]? = if o ≤ i ∧ i < o + vs.length then vs[i - o]? else cells[i]? := by
  unfold splice
  rw [List.getElem?_append]
  simp only [List.length_take]
  by_cases h1 : i < o
  · rw [if_pos (by omega), if_neg (by omega), List.getElem?_take, if_pos h1]
  · rw [if_neg (by omega), List.getElem?_append]
    by_cases h2 : i < o + vs.length
    · rw [if_pos (by omega), if_pos (by omega)]; congr 1; omega
    · rw [if_neg (by omega), if_neg (by omega), List.getElem?_drop]; congr 1; omega

/-- Cells of one kind only: what a cell can hold. -/
def isCell : Value → Bool
  | .agg _ | .tuple _ => false
  | _ => true

theorem V.isCell {B : Nat} {φ : Phi} {x y : Value} (h : V B φ x y) : isCell y = isCell x := by cases h <;> rfl

theorem setRow_frozen (w : World) (g : Nat) (cs : Array Value) (b : Nat) (h : b ≠ g) : (w.setRow g cs).heap[b]? = w.heap[b]? := setRow_other w g b cs h

/-- Cells stored one behind the other, where nothing is frozen. -/
theorem run_store_row (P : Program) (g o : Nat) (t : TypeId) (fz : Nat × Nat) : ∀ (vs : List Value) (i : Nat) (cur : Array Value) (w : World), w.heap[g]? = some (.cells cur t fz) →
    (∀ j, j < cur.size → ¬ (fz.1 ≤ j ∧ j < fz.2)) → o + i + vs.length ≤ cur.size → (∀ v ∈ vs, isCell v = true) →
    (storeCells ⟨g, o, none⟩ vs i).run P w = .ok () (w.setRow g (splice cur.toList (o + i) vs).toArray)
  | [], i, cur, w, hg, _, _, _ => by
    simp only [storeCells, splice, List.nil_append, List.length_nil, Nat.add_zero, List.take_append_drop, Array.toArray_toList]
    rw [setRow_self w g cur t fz hg]
    rfl
  | v :: rest, i, cur, w, hg, hfz, hl, h1 => by
    have hi : o + i < cur.size := by simp at hl; omega
    have hcell : w.cell? ⟨g, o + i, none⟩ = some cur[o + i] := by simp [World.cell?, hg, hi]
    have hfro : w.frozen? ⟨g, o + i, none⟩ = false := by
      have := hfz (o + i) hi
      simp only [World.frozen?, hg, Bool.and_eq_false_iff, decide_eq_false_iff_not]
      omega
    have hv : v.oneCell' = true := by have := h1 v (by simp); cases v <;> simp_all [Ai.isCell, Value.oneCell']
    have hst : (store ((⟨g, o, none⟩ : Addr).add i) v).run P w = .ok () (w.setRow g (cur.setIfInBounds (o + i) v)) := by
      rw [add_none, run_store P w _ v _ hv, hcell]
      simp [hfro, setCell_eq_setRow w g (o + i) cur t fz v hg]
    have ih := run_store_row P g o t fz rest (i + 1) (cur.setIfInBounds (o + i) v) (w.setRow g (cur.setIfInBounds (o + i) v)) (setRow_heap w g cur _ t _ hg)
      (by simpa using hfz) (by simp at hl ⊢; omega) (fun x hx => h1 x (by simp [hx]))
    simp only [storeCells, Sem.run_bind, hst, Result.andThen_ok, ih, setRow_setRow]
    congr 3
    apply List.ext_getElem?
    intro j
    rw [splice_get _ _ _ (by simp at hl ⊢; omega), splice_get _ _ _ (by simp at hl ⊢; omega)]
    simp only [Array.toList_setIfInBounds, List.getElem?_set, List.length_cons]
    by_cases h2 : j = o + i
    · subst h2
      rw [if_neg (by omega)]
      simp [hi]
    · by_cases h3 : o + (i + 1) ≤ j ∧ j < o + (i + 1) + rest.length
      · rw [if_pos h3, if_pos (by omega)]
        obtain ⟨d, hd⟩ : ∃ d, j - (o + i) = d + 1 := ⟨j - (o + i) - 1, by omega⟩
        rw [hd, List.getElem?_cons_succ]
        congr 1; omega
      · rw [if_neg h3, if_neg (by omega), if_neg (by omega)]

/-- Values one by one. -/
def VL (B : Nat) (φ : Phi) (l l' : List Value) : Prop := l.length = l'.length ∧ ∀ (i : Nat) (x y : Value), l[i]? = some x → l'[i]? = some y → V B φ x y

theorem VL.mono {B : Nat} {φ φ' : Phi} (h : ∀ f e k, φ f e = some k → φ' f e = some k) {x y : List Value} (hv : VL B φ x y) : VL B φ' x y :=
  ⟨hv.1, fun i a b ha hb => (hv.2 i a b ha hb).mono h⟩

theorem VL.cells {B : Nat} {φ : Phi} {l l' : List Value} (h : VL B φ l l') (hc : ∀ v ∈ l, isCell v = true) : ∀ v ∈ l', isCell v = true := by
  intro v hv
  obtain ⟨i, hi⟩ := List.mem_iff_getElem?.1 hv
  have hlt : i < l.length := by rw [h.1]; exact (List.getElem?_eq_some_iff.1 hi).1
  rw [(h.2 i _ _ (List.getElem?_eq_getElem hlt) hi).isCell]
  exact hc _ (List.getElem_mem hlt)

/-- A write into a row, in the time of its last growth. -/
theorem R.write {B : Nat} {w₀ : World} {φ : Phi} {s : St} {w : World} (P : Program) (h : R B w₀ φ s.get w) {f off : Nat} {cells : List Value} {esz ep lw : Nat} {hist : List Nat} {k : Blk}
    (hg : s.get f = some (.row cells esz ep lw hist)) (hlw : lw ≤ ep) (hk : φ f ep = some k) (hb : k.base ≤ off) {vs vs' : List Value} (hl : off + vs.length ≤ cells.length)
    (hv : VL B φ vs vs') (hc : ∀ v ∈ vs, isCell v = true) :
    ∃ w', (storeCells ⟨k.b, off - k.base, none⟩ vs').run P w = .ok () w' ∧ Step s.next φ w φ w' ∧ R B w₀ φ (s.put f (.row (splice cells off vs) esz ep ep hist)).get w' := by
  obtain ⟨h1, _, h2⟩ := h.row _ _ _ _ _ _ _ _ hg hk
  obtain ⟨a1, a2, cs, t, fr, a3, a4, a5, a6, a7⟩ := h2 hlw
  have hext : ext cells ep hist ep = cells.length := by simp [ext]
  rw [hext] at a5 a7
  have hl' : off - k.base + vs'.length ≤ cs.size := by have := hv.1; omega
  refine ⟨_, run_store_row P k.b (off - k.base) t fr vs' 0 cs w a3 a6 (by simpa using hl') (hv.cells hc), ?_⟩
  have hch := h.change f (.row (splice cells off vs) esz ep ep hist) (φ' := φ) (w' := w.setRow k.b (splice cs.toList (off - k.base + 0) vs').toArray) (fun _ _ _ h => h) (fun _ _ _ _ h => h)
    (fun e' k' hk' => .inl ⟨e', k', hk', rfl⟩) (fun e₁ k₁ e₂ k₂ h₁ h₂ he => (h.inj _ _ _ _ _ _ h₁ h₂ he).2) (fun b hb hn => setRow_other _ _ _ _ (fun he => hn _ _ hk he.symm)) (by simp) rfl rfl rfl ?_ (by simp) (by simp) (fun h => absurd rfl (h _ _ _ _ _)) (fun _ _ h => ⟨_, _, h⟩)
  · refine ⟨hch.1 _, ?_⟩
    have : (s.put f (.row (splice cells off vs) esz ep ep hist)).get = fun m => if m = f then some (.row (splice cells off vs) esz ep ep hist) else s.get m := by
      funext m; exact St.get_put _ _ _ _
    rw [this]; exact hch.2
  · intro e k' cells' esz' ep' lw' hist' ho hk'
    cases ho
    obtain ⟨b1, b0, b2⟩ := h.row _ _ _ _ _ _ _ _ hg hk'
    have hsl := splice_length cells _ _ hl
    refine ⟨b1, by unfold ext at b0 ⊢; rw [hsl]; exact b0, fun hle => ?_⟩
    obtain rfl : e = ep := by omega
    obtain rfl : k' = k := by rw [hk] at hk'; exact (Option.some.inj hk').symm
    refine ⟨a1, a2, _, t, fr, setRow_heap w k'.b cs _ t fr a3, ?_, ?_, ?_, ?_⟩
    · simp [splice_length cs.toList _ _ (by simpa using hl'), a4]
    · simp [ext, splice_length cells _ _ hl, splice_length cs.toList _ _ (by simpa using hl')]; omega
    · simpa [splice_length cs.toList _ _ (by simpa using hl')] using a6
    · intro o x ho ho' hx
      rw [splice_get _ _ _ hl] at hx
      simp only [List.getElem?_toArray, Nat.add_zero]
      rw [splice_get _ _ _ (by simpa using hl')]
      have hlen := hv.1
      by_cases hin : off ≤ o ∧ o < off + vs.length
      · rw [if_pos hin] at hx
        rw [if_pos (by omega)]
        have hlt : o - off < vs'.length := by omega
        refine ⟨vs'[o - off], ?_, hv.2 _ _ _ hx (List.getElem?_eq_getElem hlt)⟩
        rw [show o - k'.base - (off - k'.base) = o - off by omega]
        exact List.getElem?_eq_getElem hlt
      · rw [if_neg hin] at hx
        rw [if_neg (by omega)]
        obtain ⟨v, hv1, hv2⟩ := a7 o x ho (by simp [ext, splice_length cells _ _ hl] at ho'; exact ho') hx
        exact ⟨v, by simpa using hv1, hv2⟩

end Go.Ai
