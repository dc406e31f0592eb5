/-
  THE SHORT RUN, 2: what its memory has to do with the machine's, and what reading, writing, making and growing a row do to that.
-/
import Derived.Test.YtiabpbememhdeaaDoorAiA
import Derived.Laws.Cells
import Derived.Laws.CopyRow
import Derived.Laws.Rows
import Derived.Below
set_option linter.unusedSimpArgs false
set_option linter.unusedVariables false
namespace Go.Ai
open Go

/-- A row's first n cells as the block k holds them. -/
def RowOk (B : Nat) (φ : Phi) (w : World) (k : Blk) (cells : List Value) (esz n : Nat) : Prop :=
  0 < esz ∧ k.esz = esz ∧ ∃ (c : Array Value) (t : TypeId) (fr : Nat × Nat), w.heap[k.b]? = some (.cells c t fr) ∧ c.size = k.cap * esz ∧ n ≤ k.base + c.size ∧
    (∀ o, o < c.size → ¬ (fr.1 ≤ o ∧ o < fr.2)) ∧ ∀ (o : Nat) (x : Value), k.base ≤ o → o < n → cells[o]? = some x → ∃ v : Value, c[o - k.base]? = some v ∧ V B φ x v

def MapOk (B : Nat) (φ : Phi) (w : World) (k : Blk) (es : List (Value × Value)) : Prop :=
  ∃ ces clock, w.heap[k.b]? = some (.map ces clock) ∧ ces.size = es.length ∧
    ∀ (i : Nat) (x : Value × Value), es[i]? = some x → ∃ e : MapEntry, ces[i]? = some e ∧ e.key = x.1 ∧ flat x.1 = true ∧ V B φ x.2 e.val

structure R (B : Nat) (w₀ : World) (φ : Phi) (g : Nat → Option AObj) (w : World) : Prop where
  dom : ∀ f e k, φ f e = some k → (g f).isSome = true
  lo : ∀ f e k, φ f e = some k → B ≤ k.b ∧ k.b < w.heap.size
  inj : ∀ f e k f' e' k', φ f e = some k → φ f' e' = some k' → k.b = k'.b → f = f' ∧ k.base = k'.base
  row : ∀ f e k cells esz ep lw hist, g f = some (.row cells esz ep lw hist) → φ f e = some k → e ≤ ep ∧ ext cells ep hist e ≤ cells.length ∧ (lw ≤ e → RowOk B φ w k cells esz (ext cells ep hist e))
  map : ∀ f e k es, g f = some (.map es) → φ f e = some k → MapOk B φ w k es
  iter : ∀ f e k s p, g f = some (.iter s p) → φ f e = some k → w.heap[k.b]? = some (.stringIter s p)
  old : ∀ b, b < B → w.heap[b]? = w₀.heap[b]?
  size : B ≤ w.heap.size
  one : ∀ f e k, φ f e = some k → (∀ cells esz ep lw hist, g f ≠ some (.row cells esz ep lw hist)) → e = 0

/-- What a step leaves as it was. -/
structure Step (n : Nat) (φ : Phi) (w : World) (φ' : Phi) (w' : World) : Prop where
  ext : ∀ f e k, φ f e = some k → φ' f e = some k
  new : ∀ f e k, φ' f e = some k → φ f e = some k ∨ w.heap.size ≤ k.b ∨ ∃ e₀ k₀, φ f e₀ = some k₀ ∧ k₀.b = k.b
  frame : ∀ b, b < w.heap.size → (∀ f e k, φ f e = some k → k.b ≠ b) → w'.heap[b]? = w.heap[b]?
  size : w.heap.size ≤ w'.heap.size
  os : w'.os = w.os
  tape : w'.tape = w.tape
  output : w'.output = w.output
  fam : ∀ f e k, φ' f e = some k → (∃ e₀ k₀, φ f e₀ = some k₀) ∨ n ≤ f

theorem Step.refl {n : Nat} (φ : Phi) (w : World) : Step n φ w φ w :=
  ⟨fun _ _ _ h => h, fun _ _ _ h => .inl h, fun _ _ _ => rfl, Nat.le_refl _, rfl, rfl, rfl, fun _ _ _ h => .inl ⟨_, _, h⟩⟩

theorem Step.trans {n n' : Nat} {φ φ' φ'' : Phi} {w w' w'' : World} (h : Step n φ w φ' w') (k : Step n' φ' w' φ'' w'') (hn : n ≤ n' := by omega) : Step n φ w φ'' w'' where
  ext f e x hx := k.ext _ _ _ (h.ext _ _ _ hx)
  new f e x hx := by
    rcases k.new _ _ _ hx with h1 | h1 | ⟨e₀, k₀, h1, h2⟩
    · exact h.new _ _ _ h1
    · exact .inr (.inl (Nat.le_trans h.size h1))
    · rcases h.new _ _ _ h1 with h3 | h3 | ⟨e₁, k₁, h3, h4⟩
      · exact .inr (.inr ⟨_, _, h3, h2⟩)
      · exact .inr (.inl (h2 ▸ h3))
      · exact .inr (.inr ⟨_, _, h3, h4.trans h2⟩)
  frame b hb hn := by
    rw [k.frame b (Nat.lt_of_lt_of_le hb h.size), h.frame b hb hn]
    intro f e x hx hxb
    rcases h.new _ _ _ hx with h3 | h3 | ⟨e₁, k₁, h3, h4⟩
    · exact hn _ _ _ h3 hxb
    · omega
    · exact hn _ _ _ h3 (h4.trans hxb)
  size := Nat.le_trans h.size k.size
  os := k.os.trans h.os
  tape := k.tape.trans h.tape
  output := k.output.trans h.output
  fam f e x hx := by
    rcases k.fam _ _ _ hx with ⟨e₀, k₀, h1⟩ | h1
    · exact h.fam _ _ _ h1
    · exact .inr (Nat.le_trans hn h1)

/-- A draw alone. -/
theorem Step.drewN {m : Nat} (φ : Phi) (w : World) (n : Nat) : Step m φ w φ { w with drawn := n } :=
  ⟨fun _ _ _ h => h, fun _ _ _ h => .inl h, fun _ _ _ => rfl, Nat.le_refl _, rfl, rfl, rfl, fun _ _ _ h => .inl ⟨_, _, h⟩⟩

theorem RowOk.congr {B : Nat} {φ φ' : Phi} {w w' : World} {k : Blk} {cells : List Value} {esz n : Nat} (h : RowOk B φ w k cells esz n)
    (hφ : ∀ f e k, φ f e = some k → φ' f e = some k) (hw : w'.heap[k.b]? = w.heap[k.b]?) : RowOk B φ' w' k cells esz n := by
  obtain ⟨h1, h2, c, t, fr, h3, h4, h5, h6, h7⟩ := h
  exact ⟨h1, h2, c, t, fr, hw ▸ h3, h4, h5, h6, fun o x ho ho' hx => let ⟨v, hv, hv'⟩ := h7 o x ho ho' hx; ⟨v, hv, hv'.mono hφ⟩⟩

theorem MapOk.congr {B : Nat} {φ φ' : Phi} {w w' : World} {k : Blk} {es : List (Value × Value)} (h : MapOk B φ w k es)
    (hφ : ∀ f e k, φ f e = some k → φ' f e = some k) (hw : w'.heap[k.b]? = w.heap[k.b]?) : MapOk B φ' w' k es := by
  obtain ⟨ces, clock, h1, h2, h3⟩ := h
  exact ⟨ces, clock, hw ▸ h1, h2, fun i x hx => let ⟨e, a, b, c, d⟩ := h3 i x hx; ⟨e, a, b, c, d.mono hφ⟩⟩

/-- A draw turns nothing. -/
theorem R.drew {B : Nat} {w₀ : World} {φ : Phi} {g : Nat → Option AObj} {w : World} (h : R B w₀ φ g w) (n : Nat) : R B w₀ φ g { w with drawn := n } :=
  ⟨h.dom, h.lo, h.inj, h.row, h.map, h.iter, h.old, h.size, h.one⟩

/-- Fewer numbers. -/
theorem R.sub {B : Nat} {w₀ : World} {φ φ' : Phi} {g g' : Nat → Option AObj} {w : World} (h : R B w₀ φ g w)
    (hφ : ∀ f e k, φ' f e = some k → φ f e = some k ∧ (g' f = g f))
    (hV : ∀ f e k cells esz ep lw hist, φ' f e = some k → g f = some (.row cells esz ep lw hist) → ∀ x ∈ cells, ∀ v, V B φ x v → V B φ' x v)
    (hM : ∀ f e k es, φ' f e = some k → g f = some (.map es) → ∀ x ∈ es, ∀ v, V B φ x.2 v → V B φ' x.2 v) : R B w₀ φ' g' w where
  dom f e k hk := by obtain ⟨h1, h2⟩ := hφ _ _ _ hk; rw [h2]; exact h.dom _ _ _ h1
  lo f e k hk := h.lo _ _ _ (hφ _ _ _ hk).1
  inj f e k f' e' k' hk hk' := h.inj _ _ _ _ _ _ (hφ _ _ _ hk).1 (hφ _ _ _ hk').1
  row f e k cells esz ep lw hist hg hk := by
    obtain ⟨h1, h2⟩ := hφ _ _ _ hk
    rw [h2] at hg
    obtain ⟨h3, h3', h4⟩ := h.row _ _ _ _ _ _ _ _ hg h1
    refine ⟨h3, h3', fun hl => ?_⟩
    obtain ⟨a1, a2, c, t, fr, a3, a4, a5, a6, a7⟩ := h4 hl
    exact ⟨a1, a2, c, t, fr, a3, a4, a5, a6, fun o x ho ho' hx => let ⟨v, hv, hv'⟩ := a7 o x ho ho' hx; ⟨v, hv, hV _ _ _ _ _ _ _ _ hk hg x (List.mem_of_getElem? hx) v hv'⟩⟩
  map f e k es hg hk := by
    obtain ⟨h1, h2⟩ := hφ _ _ _ hk
    rw [h2] at hg
    obtain ⟨ces, clock, a1, a2, a3⟩ := h.map _ _ _ _ hg h1
    exact ⟨ces, clock, a1, a2, fun i x hx => let ⟨e, b1, b2, b3, b4⟩ := a3 i x hx; ⟨e, b1, b2, b3, hM _ _ _ _ hk hg x (List.mem_of_getElem? hx) _ b4⟩⟩
  iter f e k s p hg hk := by
    obtain ⟨h1, h2⟩ := hφ _ _ _ hk
    rw [h2] at hg
    exact h.iter _ _ _ _ _ hg h1
  old := h.old
  size := h.size
  one f e k hk hg := by
    obtain ⟨h1, h2⟩ := hφ _ _ _ hk
    rw [h2] at hg
    exact h.one _ _ _ h1 hg

/-! Reading. -/
def aadd (a : Addr) (n : Nat) : Addr := { a with off := a.off + n }

/-- n cells from an address on. -/
def readOld (old : Addr → Option Value) (a : Addr) : Nat → Option (List Value)
  | 0 => some []
  | n + 1 => match old a with
    | some v => (readOld old (aadd a 1) n).map (v :: ·)
    | none => none

def readN (old : Addr → Option Value) (s : St) (a : Addr) (n : Nat) : Option (List Value) :=
  match a.spot with
  | none => readOld old a n
  | some e => match s.get a.block with
    | some (.row cells _ ep lw hist) => if lw ≤ e ∧ a.off + n ≤ Go.Ai.ext cells ep hist e ∧ a.off + n ≤ cells.length then some ((cells.drop a.off).take n) else none
    | _ => none

/-- What old memory is known to hold. -/
def OldOk (B : Nat) (w₀ : World) (old : Addr → Option Value) : Prop :=
  ∀ a v, old a = some v → a.block < B ∧ w₀.cell? a = some v ∧ ∀ φ, V B φ v v

theorem readOld_spec {B : Nat} {w₀ : World} {old : Addr → Option Value} (ho : OldOk B w₀ old) : ∀ (n : Nat) (a : Addr) (l : List Value), readOld old a n = some l →
    l.length = n ∧ ∀ (i : Nat) (x : Value), l[i]? = some x → old (aadd a i) = some x := by
  intro n
  induction n with
  | zero => intro a l h; simp [readOld] at h; subst h; simp
  | succ n ih =>
    intro a l h
    simp only [readOld] at h
    split at h
    · rename_i v hv
      cases hr : readOld old (aadd a 1) n with
      | none => simp [hr] at h
      | some l' =>
        simp only [hr, Option.map_some, Option.some.injEq] at h
        subst h
        obtain ⟨h1, h2⟩ := ih _ _ hr
        refine ⟨by simp [h1], fun i x hx => ?_⟩
        cases i with
        | zero => simp at hx; subst hx; simpa [aadd] using hv
        | succ i =>
          have := h2 i x (by simpa using hx)
          simpa [aadd, Nat.add_assoc, Nat.add_comm 1 i] using this
    · simp at h

theorem cell_of_block {w w' : World} {a : Addr} (h : w'.heap[a.block]? = w.heap[a.block]?) : w'.cell? a = w.cell? a := by
  simp [World.cell?, h]

theorem add_none (b o n : Nat) : (⟨b, o, none⟩ : Addr).add n = ⟨b, o + n, none⟩ := by unfold Addr.add; split <;> simp_all

/-- What is read is what the machine reads. -/
theorem R.read {B : Nat} {w₀ : World} {φ : Phi} {s : St} {w : World} {old : Addr → Option Value} (h : R B w₀ φ s.get w) (ho : OldOk B w₀ old)
    {a c : Addr} (hv : V B φ (.pointer (some a)) (.pointer (some c))) {n : Nat} {l : List Value} (hr : readN old s a n = some l) :
    l.length = n ∧ ∃ l' : List Value, l'.length = n ∧ (∀ (i : Nat) (x y : Value), l[i]? = some x → l'[i]? = some y → V B φ x y) ∧ ∀ (i : Nat) (y : Value), l'[i]? = some y → w.cell? (c.add i) = some y := by
  unfold readN at hr
  cases hv with
  | pold _ hb hs =>
    rw [hs] at hr
    simp only at hr
    obtain ⟨h1, h2⟩ := readOld_spec ho _ _ _ hr
    refine ⟨h1, l, h1, fun i x y hx hy => ?_, fun i y hy => ?_⟩
    · rw [hx] at hy
      obtain rfl : x = y := by simpa using hy
      exact (ho _ _ (h2 i x hx)).2.2 φ
    · have h3 := ho _ _ (h2 i y hy)
      obtain ⟨ab, ao, as⟩ := a
      simp only at hs hb
      subst hs
      rw [add_none]
      simp only [aadd] at h3
      rw [cell_of_block (w := w₀) (h.old _ hb)]
      exact h3.2.1
  | pnew f off e k hk hb =>
    simp only at hr
    split at hr
    · rename_i cells esz ep lw hist hg
      split at hr
      · rename_i hc
        obtain ⟨hc1, hc2, hc3⟩ := hc
        simp only [Option.some.injEq] at hr
        obtain ⟨h1, _, h2⟩ := h.row _ _ _ _ _ _ _ _ hg hk
        obtain ⟨a1, a2, cs, t, fr, a3, a4, a5, a6, a7⟩ := h2 hc1
        have hl : l.length = n := by rw [← hr]; simp; omega
        have hget : ∀ i, i < n → ∃ v x, cells[off + i]? = some x ∧ cs[off - k.base + i]? = some v ∧ V B φ x v := by
          intro i hi
          have hlt : off + i < cells.length := by omega
          obtain ⟨v, hv1, hv2⟩ := a7 (off + i) cells[off + i] (by omega) (by omega) (List.getElem?_eq_getElem hlt)
          refine ⟨v, cells[off + i], List.getElem?_eq_getElem hlt, ?_, hv2⟩
          rw [show off - k.base + i = off + i - k.base by omega]
          exact hv1
        refine ⟨hl, (List.range n).map fun i => (cs[off - k.base + i]?).getD undef, by simp, fun i x y hx hy => ?_, fun i y hy => ?_⟩
        · have hi : i < n := by
            have := (List.getElem?_eq_some_iff.1 hx).1
            omega
          obtain ⟨v, x', g1, g2, g3⟩ := hget i hi
          rw [← hr, List.getElem?_take, if_pos hi, List.getElem?_drop, g1] at hx
          simp only [List.getElem?_map, List.getElem?_range hi, Option.map_some, g2, Option.getD_some] at hy
          cases hx; cases hy
          exact g3
        · have hi : i < n := by
            have := (List.getElem?_eq_some_iff.1 hy).1
            simpa using this
          obtain ⟨v, x', g1, g2, g3⟩ := hget i hi
          simp only [List.getElem?_map, List.getElem?_range hi, Option.map_some, g2, Option.getD_some] at hy
          cases hy
          rw [add_none]
          simp [World.cell?, a3, g2]
      · simp at hr
    · simp at hr

/-! A new block. -/
theorem heap_push_old (w : World) (o : Obj) (b : Nat) (hb : b < w.heap.size) : (w.heap.push o)[b]? = w.heap[b]? := by
  rw [Array.getElem?_push, if_neg (by omega)]

def withNew (φ : Phi) (f e : Nat) (k : Blk) : Phi := fun f' e' => if f' = f ∧ e' = e then some k else φ f' e'

theorem withNew_ext {φ : Phi} {f e : Nat} {k : Blk} (h : φ f e = none) : ∀ f' e' k', φ f' e' = some k' → withNew φ f e k f' e' = some k' := by
  intro f' e' k' hk
  unfold withNew
  split
  · rename_i hh; obtain ⟨rfl, rfl⟩ := hh; simp [h] at hk
  · exact hk

/-- The general step of making: a new object under a new number, in a new block. -/
theorem R.push {B : Nat} {w₀ : World} {φ : Phi} {g : Nat → Option AObj} {w w' : World} (h : R B w₀ φ g w) {f : Nat} (hφ : ∀ e, φ f e = none) (o : AObj) (k : Blk)
    (hk : k.b = w.heap.size) (hh : ∃ x, w'.heap = w.heap.push x) (ho : w'.os = w.os) (ht : w'.tape = w.tape) (hp : w'.output = w.output)
    (hrow : ∀ cells esz ep lw hist, o = .row cells esz ep lw hist → ep = 0 ∧ RowOk B (withNew φ f 0 k) w' k cells esz cells.length)
    (hmap : ∀ es, o = .map es → MapOk B (withNew φ f 0 k) w' k es) (hiter : ∀ s p, o = .iter s p → w'.heap[k.b]? = some (.stringIter s p)) :
    Step f φ w (withNew φ f 0 k) w' ∧ R B w₀ (withNew φ f 0 k) (fun m => if m = f then some o else g m) w' := by
  obtain ⟨x, hx⟩ := hh
  have hext := withNew_ext (k := k) (hφ 0)
  have hsz : w'.heap.size = w.heap.size + 1 := by rw [hx]; simp
  have hold : ∀ b, b < w.heap.size → w'.heap[b]? = w.heap[b]? := fun b hb => by rw [hx, heap_push_old w x b hb]
  have hne : ∀ f' e' k', φ f' e' = some k' → f' ≠ f := fun f' e' k' hk' he => by rw [he, hφ] at hk'; simp at hk'
  have hcase : ∀ f' e' k', withNew φ f 0 k f' e' = some k' → (f' = f ∧ e' = 0 ∧ k' = k) ∨ (φ f' e' = some k' ∧ f' ≠ f) := by
    intro f' e' k' hk'
    unfold withNew at hk'
    split at hk'
    · rename_i hh; left; exact ⟨hh.1, hh.2, by simpa using hk'.symm⟩
    · right; exact ⟨hk', hne _ _ _ hk'⟩
  constructor
  · refine ⟨hext, fun f' e' k' hk' => ?_, fun b hb _ => hold b hb, by omega, ho, ht, hp, fun f' e' k' hk' => (hcase _ _ _ hk').elim (fun h => .inr (Nat.le_of_eq h.1.symm)) fun h => .inl ⟨_, _, h.1⟩⟩
    rcases hcase _ _ _ hk' with ⟨_, _, rfl⟩ | ⟨h1, _⟩
    · exact .inr (.inl (by omega))
    · exact .inl h1
  · refine ⟨fun f' e' k' hk' => ?_, fun f' e' k' hk' => ?_, fun f₁ e₁ k₁ f₂ e₂ k₂ h1 h2 he => ?_, fun f' e' k' cells esz ep lw hist hg hk' => ?_, fun f' e' k' es hg hk' => ?_,
      fun f' e' k' s p hg hk' => ?_, fun b hb => (hold b (Nat.lt_of_lt_of_le hb h.size)).trans (h.old b hb), by have := h.size; omega,
      fun f' e' k' hk' hg => by
        rcases hcase _ _ _ hk' with ⟨_, h0, _⟩ | ⟨h1, h2⟩
        · exact h0
        · exact h.one _ _ _ h1 (by simpa [h2] using hg)⟩
    · rcases hcase _ _ _ hk' with ⟨rfl, _, rfl⟩ | ⟨h1, h2⟩
      · simp
      · simp [h2, h.dom _ _ _ h1]
    · rcases hcase _ _ _ hk' with ⟨rfl, _, rfl⟩ | ⟨h1, h2⟩
      · have := h.size; omega
      · have := h.lo _ _ _ h1; omega
    · rcases hcase _ _ _ h1 with ⟨a1, _, a2⟩ | ⟨a1, a2⟩ <;> rcases hcase _ _ _ h2 with ⟨b1, _, b2⟩ | ⟨b1, b2⟩
      · exact ⟨a1.trans b1.symm, by rw [a2, b2]⟩
      · have := (h.lo _ _ _ b1).2; rw [a2] at he; omega
      · have := (h.lo _ _ _ a1).2; rw [b2] at he; omega
      · exact h.inj _ _ _ _ _ _ a1 b1 he
    · rcases hcase _ _ _ hk' with ⟨rfl, rfl, rfl⟩ | ⟨h1, h2⟩
      · simp only [if_true, Option.some.injEq] at hg
        obtain ⟨rfl, h4⟩ := hrow _ _ _ _ _ hg
        exact ⟨Nat.le_refl _, by simp [Go.Ai.ext], fun _ => by simpa [Go.Ai.ext] using h4⟩
      · simp only [if_neg h2] at hg
        obtain ⟨h3, h3', h4⟩ := h.row _ _ _ _ _ _ _ _ hg h1
        exact ⟨h3, h3', fun hl => (h4 hl).congr hext (hold _ (h.lo _ _ _ h1).2)⟩
    · rcases hcase _ _ _ hk' with ⟨rfl, rfl, rfl⟩ | ⟨h1, h2⟩
      · simp only [if_true, Option.some.injEq] at hg
        exact hmap _ hg
      · simp only [if_neg h2] at hg
        exact (h.map _ _ _ _ hg h1).congr hext (hold _ (h.lo _ _ _ h1).2)
    · rcases hcase _ _ _ hk' with ⟨rfl, rfl, rfl⟩ | ⟨h1, h2⟩
      · simp only [if_true, Option.some.injEq] at hg
        exact hiter _ _ hg
      · simp only [if_neg h2] at hg
        rw [hold _ (h.lo _ _ _ h1).2]
        exact h.iter _ _ _ _ _ hg h1

end Go.Ai
