/-
  THE SHORT RUN, 12: operations that write.
-/
import Derived.Test.YtiabpbememhdeaaDoorAiK
set_option linter.unusedSimpArgs false
set_option linter.unusedVariables false
set_option linter.unusedSectionVars false
namespace Go.Ai
open Go

/-- Numbers from 'next' on stand for nothing yet. -/
def St.Fresh (s : St) : Prop := ∀ f, s.next ≤ f → s.get f = none

theorem St.Fresh.push {s : St} (h : s.Fresh) (o : AObj) : (s.push o).Fresh := by
  intro f hf
  rw [St.get_push, if_neg (by simp [St.push] at hf; omega)]
  exact h f (by simp [St.push] at hf; omega)

theorem St.Fresh.put {s : St} (h : s.Fresh) {f : Nat} (o : AObj) (hf : (s.get f).isSome = true) : (s.put f o).Fresh := by
  intro g hg
  rw [St.get_put]
  split
  · rename_i e
    subst e
    have := h g hg
    simp [this] at hf
  · exact h g hg

theorem St.Fresh.lt {s : St} (h : s.Fresh) {f : Nat} (hf : (s.get f).isSome = true) : f < s.next := by
  rcases Nat.lt_or_ge f s.next with h1 | h1
  · exact h1
  · simp [h f h1] at hf

theorem R.noneAt {B : Nat} {w₀ : World} {φ : Phi} {s : St} {w : World} (h : R B w₀ φ s.get w) (hF : s.Fresh) : ∀ e, φ s.next e = none := fun e => by
  cases he : φ s.next e with
  | none => rfl
  | some k => have := h.dom _ _ _ he; simp [hF s.next (Nat.le_refl _)] at this

section
variable {E : Env} {B : Nat} {w₀ : World} (hE : E.Ok B w₀)
include hE

theorem e_write {φ : Phi} {s s' : St} {w : World} (hR : R B w₀ φ s.get w) {a c : Addr} (hp : V B φ (.pointer (some a)) (.pointer (some c))) {vs vs' : List Value} (hv : VL B φ vs vs') (h : writeN s a vs = some s') :
    ∃ w', (storeCells c vs').run E.P w = .ok () w' ∧ Step s.next φ w φ w' ∧ R B w₀ φ s'.get w' ∧ (s.Fresh → s'.Fresh) ∧ s'.next = s.next := by
  unfold writeN at h
  split at h
  next => simp at h
  next e he =>
    split at h
    next cells esz ep lw hist hg =>
      split at h
      next hc =>
        obtain ⟨rfl, h1, h2, h3⟩ := hc
        cases h
        obtain ⟨k, hk, hb, rfl⟩ := hp.pointer_new he
        obtain ⟨w', g1, g2, g3⟩ := hR.write E.P hg h1 hk hb h2 hv (by simpa using h3)
        exact ⟨w', g1, g2, g3, fun hf => hf.put _ (by simp [hg]), rfl⟩
      next => simp at h
    next => simp at h

theorem e_store {φ : Phi} {s s' : St} {t : TypeId} {x x' v v' : Value} {w : World} (hR : R B w₀ φ s.get w) (hx : V B φ x x') (hv : V B φ v v') (h : aStore E s t x v = some s') :
    ∃ w', (Instr.storeAt t x' v').run E.P w = .ok () w' ∧ Step s.next φ w φ w' ∧ R B w₀ φ s'.get w' ∧ (s.Fresh → s'.Fresh) ∧ s'.next = s.next := by
  unfold aStore at h
  split at h
  next a =>
    obtain ⟨c, rfl⟩ := hx.pointer_some
    split at h
    next => simp at h
    next n hn =>
      split at h
      next hc =>
        obtain ⟨w', g1, g2⟩ := e_write hE hR hx hv.cells.toList h
        refine ⟨w', ?_, g2⟩
        have hsz : v'.cells.size = n := by rw [← hv.cells.1]; exact hc
        simp [Instr.storeAt, Instr.sureAddr, storeVar, run_size hE hn, hsz, g1]
      next => simp at h
  next => simp at h

theorem e_source {φ : Phi} {s : St} {m n : Nat} {x x' : Value} {l : List Value} {w : World} (hR : R B w₀ φ s.get w) (hx : V B φ x x') (h : aSource E s m n x = some l) (hm : aLen x = some m ∨ m = 0 ∨ ∃ k, aLen x = some k ∧ m ≤ k) :
    ∃ l', (Builtin.firstCells n m x').run E.P w = .ok l'.toArray w ∧ VL B φ l l' := by
  unfold aSource at h
  split at h
  next k c =>
    cases h
    rw [hx.flat_right rfl]
    exact ⟨[], rfl, ⟨rfl, by simp⟩⟩
  next a k c =>
    have key : ∀ c', V B φ (.pointer (some a)) (.pointer (some c')) → ∀ k' cap', ∃ l', (Builtin.firstCells n m (.slice (some c') k' cap')).run E.P w = .ok l'.toArray w ∧ VL B φ l l' := by
      intro c' hp k' cap'
      obtain ⟨h1, l', h2, h3, h4⟩ := hR.read hE.old hp h
      have h5 := run_loadCells_list (P := E.P) w c' l' h4
      rw [h2] at h5
      exact ⟨l', by simpa [Builtin.firstCells] using h5, by rw [h1, h2], h3⟩
    rcases hx.slice_some with ⟨c', rfl, h2, h3⟩ | ⟨e, k', c', h1, h2, _, _, _, _, hp, _, rfl⟩ | ⟨e, k', o, h1, h2, hn0, h3, h4, h5, h6, _, rfl⟩
    · exact key c' h2 _ _
    · exact key c' hp _ _
    · subst hn0
      have hm0 : m = 0 := by
        simp only [aLen, Option.some.injEq] at hm
        rcases hm with hm | hm | ⟨_, hm, hm'⟩ <;> omega
      subst hm0
      have hae : a = ⟨a.block, a.off, some e⟩ := by rw [← h1]
      rw [hae] at h
      obtain ⟨g1, _⟩ := hR.read hE.old (.pnew _ _ _ _ h3 h4) h
      have : l = [] := by simpa using g1
      subst this
      exact ⟨[], by simp [Builtin.firstCells, loadCells, loadCellsFrom], rfl, by simp⟩
  next b =>
    split at h
    next hn =>
      cases h
      subst hn
      rw [hx.string_left]
      refine ⟨(b.extract 0 m).data.toList.map fun b => .int .u8 b.toNat, by
        show Result.ok ((b.extract 0 m).data.map fun b => Value.int .u8 b.toNat) w = _
        rw [← Array.toList_map], rfl, fun i x y hx hy => ?_⟩
      have hxx := hx
      simp only [List.getElem?_map, Option.map_eq_some_iff] at hx
      obtain ⟨q, hq, rfl⟩ := hx
      simp only [List.getElem?_map, hq, Option.map_some, Option.some.injEq] at hy
      subst hy
      exact .int _ _
    next => simp at h
  next => simp at h


/-! append -/

omit hE in
theorem nextcap_le (need cap : Nat) (h : cap < need) : Builtin.nextslicecap need cap ≤ 3 * need := by
  unfold Builtin.nextslicecap
  split
  · omega
  · split
    · omega
    · have key : ∀ r c, 256 ≤ c → c ≤ 3 * need → (c < need → c + (c + 768) / 4 ≤ 3 * need) → Builtin.growBy need r c ≤ 3 * need := by
        intro r
        induction r with
        | zero => intro c _ hc _; exact hc
        | succ r ih =>
          intro c h0 hc hg
          simp only [Builtin.growBy]
          split
          · exact hc
          · have := hg (by omega)
            exact ih _ (by omega) this (by omega)
      exact key 4 cap (by omega) (by omega) (by omega)

omit hE in
theorem run_lenOf {φ : Phi} {x x' : Value} {m : Nat} (hx : V B φ x x') (h : aLen x = some m) (w : World) : (Builtin.lenOf x').run E.P w = .ok m w := by
  unfold aLen at h
  split at h
  next a n c =>
    cases h
    cases hx <;> rfl
  next b =>
    cases h
    rw [hx.string_left]
    rfl
  next => simp at h

omit hE in
theorem aNew_cases {s : St} {argTypes : Array TypeId} {n b : Nat} {z x : Value} {m : Nat} {new : List Value} (h : aNew E s argTypes n b z x = some (m, new)) :
    (∃ xt k kk i, argTypes[1]? = some xt ∧ E.desc xt = some (.int k) ∧ x = .int kk i ∧ 0 ≤ i ∧ i < 2 ^ 62 ∧ i.toNat * b ≤ 2 ^ 46 ∧ m = i.toNat ∧ new = aZeros z.cells.toList m) ∨
    ((argTypes[1]? = none ∨ ∃ xt d, argTypes[1]? = some xt ∧ E.desc xt = some d ∧ ∀ k, d ≠ .int k) ∧ aLen x = some m ∧ aSource E s m n x = some new) := by
  unfold aNew at h
  have src : ∀ {r : Option (Nat × List Value)}, (match aLen x with | some m => (aSource E s m n x).map fun l => (m, l) | none => none : Option (Nat × List Value)) = some (m, new) → aLen x = some m ∧ aSource E s m n x = some new := by
    intro _ h
    cases hl : aLen x with
    | none => simp [hl] at h
    | some m' =>
      simp only [hl, Option.map_eq_some_iff, Prod.mk.injEq] at h
      obtain ⟨l, h1, rfl, rfl⟩ := h
      exact ⟨rfl, h1⟩
  split at h
  next xt hxt =>
    split at h
    next k hk =>
      split at h
      next kk i =>
        split at h
        next hc =>
          simp only [Option.some.injEq, Prod.mk.injEq] at h
          obtain ⟨rfl, rfl⟩ := h
          exact .inl ⟨xt, k, kk, i, hxt, hk, rfl, hc.1, hc.2.1, hc.2.2, rfl, rfl⟩
        next => simp at h
      next => simp at h
    next d hni hd =>
      obtain ⟨h1, h2⟩ := src (r := none) h
      exact .inr ⟨.inr ⟨xt, d, hxt, hd, fun k hk => hni k hk⟩, h1, h2⟩
    next => simp at h
  next hxt =>
    obtain ⟨h1, h2⟩ := src (r := none) h
    exact .inr ⟨.inl hxt, h1, h2⟩

set_option maxHeartbeats 1000000 in
/-- The machine's append where it has to make a new array. -/
theorem run_append_new {φ : Phi} {s : St} {w : World} {elem st : TypeId} {argTypes : Array TypeId} {ty : TypeId} {n b : Nat} {z : Value} (hR : R B w₀ φ s.get w)
    (hst : argTypes[0]? = some st) (hd : E.desc st = some (.slice elem)) (hn : E.size elem = some n) (hb : E.bytes elem = some b) (hz : E.zero elem = some z) (hn0 : 0 < n) (hzn : z.cells.size = n)
    {base : Option Addr} {len cap m : Nat} {x x' : Value} {new was was' : List Value} (hx : V B φ x x') (hnew : aNew E s argTypes n b z x = some (m, new)) (hneed : cap < len + m)
    (hsmall : (len + m) * b ≤ 2 ^ 46) (hsmall' : len + m < 2 ^ 62)
    (hwas : ∀ d, (Builtin.firstCells n len (.slice base len cap)).run E.P { w with drawn := d } = .ok was'.toArray { w with drawn := d }) :
    ∃ new' newCap, VL B φ new new' ∧ len + m ≤ newCap ∧
      (Builtin.append_ argTypes ty #[.slice base len cap, x']).run E.P w =
        .ok (.slice (some ⟨w.heap.size, 0, none⟩) (len + m) newCap)
          { w with drawn := w.drawn + 1, heap := w.heap.push (.cells (was'.toArray ++ new'.toArray ++ (aZeros z.cells.toList (newCap - (len + m))).toArray) elem) } := by
  obtain ⟨i, hi, hib⟩ := run_bytes hE hb w
  obtain ⟨i', hi', hib'⟩ := run_bytes hE hb { w with drawn := w.drawn + 1 }
  have h1 : ¬ (len + m ≤ cap) := by omega
  have h2 : ¬ ((len + m : Nat) : Int) > IntKind.i64.max := by
    have : IntKind.i64.max = 2 ^ 63 - 1 := rfl
    rw [this]; omega
  have h3 : ¬ (Builtin.nextslicecap (len + m) cap * b > 2 ^ 48) := by
    have := nextcap_le (len + m) cap hneed
    have h4 : Builtin.nextslicecap (len + m) cap * b ≤ 3 * (len + m) * b := Nat.mul_le_mul_right _ this
    have h5 : 3 * (len + m) * b = 3 * ((len + m) * b) := Nat.mul_assoc _ _ _
    omega
  have hch : (choose (.appendCap (len + m) cap elem)).run E.P w = .ok (len + m + w.tape w.drawn (.appendCap (len + m) cap elem) % (2 ^ 63 - (len + m))) { w with drawn := w.drawn + 1 } := by
    rw [run_choose]; rfl
  generalize hnc : len + m + w.tape w.drawn (.appendCap (len + m) cap elem) % (2 ^ 63 - (len + m)) = newCap at hch
  have hle : len + m ≤ newCap := by omega
  have hzr : ∀ k, Builtin.zeroCells z.cells k = (aZeros z.cells.toList k).toArray := fun k => zeros_row z.cells k (by omega)
  have hzd := run_zero hE hz { w with drawn := w.drawn + 1 }
  have hw1 := hwas (w.drawn + 1)
  have hR' : R B w₀ φ s.get { w with drawn := w.drawn + 1 } := hR.drew _
  have hend : ∀ c, ({ w with drawn := w.drawn + 1 } : World).alloc (.cells c elem) = { w with drawn := w.drawn + 1, heap := w.heap.push (.cells c elem) } := fun c => rfl
  have hhs : ({ w with drawn := w.drawn + 1 } : World).heap.size = w.heap.size := rfl
  rcases aNew_cases hnew with ⟨xt, k, kk, ii, hxt, hk, rfl, hi0, hi1, hi2, rfl, rfl⟩ | ⟨hxt, hlen, hsrc⟩
  · rw [hx.int_left]
    refine ⟨aZeros z.cells.toList ii.toNat, newCap, VL.refl_of_flat' (flatL_aZeros (flat_cells (hE.zero _ _ hz).1) _), hle, ?_⟩
    have h2' : ¬ (9223372036854775807 < (len : Int) + ii.toNat) := by omega
    have h2'' : ¬ (9223372036854775807 < (len : Int) + max ii 0) := by omega
    have h3' : ¬ (281474976710656 < Builtin.nextslicecap (len + ii.toNat) cap * b) := by omega
    have hwr : IntKind.i64.wrap ii = ii := wrap_small hi0 hi1
    have hneg : ¬ (ii < 0) := by omega
    have hbig : ¬ (281474976710656 < ii * (b : Int)) := by
      have h1 : ((ii.toNat * b : Nat) : Int) = ii * b := by rw [Int.natCast_mul, Int.toNat_of_nonneg hi0]
      omega
    have happ : (if ii.toNat * n = 0 then (pure #[] : Sem (Array Value)) else do pure (Builtin.zeroCells (← zeroValue elem).cells ii.toNat)).run E.P { w with drawn := w.drawn + 1 } =
        .ok (aZeros z.cells.toList ii.toNat).toArray { w with drawn := w.drawn + 1 } := by
      by_cases h0 : ii.toNat * n = 0
      · have : ii.toNat = 0 := by rcases Nat.mul_eq_zero.1 h0 with h | h; exact h; omega
        rw [if_pos h0, this]
        simp [aZeros]
      · rw [if_neg h0]
        simp only [Sem.run_bind, hzd, Result.andThen_ok, hzr, Sem.run_pure]
    simp only [← hend]
    generalize ({ w with drawn := w.drawn + 1 } : World) = w1 at *
    unfold Builtin.append_
    by_cases h0 : ii.toNat * n = 0
    · have hi00 : ii.toNat = 0 := by rcases Nat.mul_eq_zero.1 h0 with h | h; exact h; omega
      have hi000 : ii = 0 := by omega
      subst hi000
      have h2a : ¬ (9223372036854775807 < (len : Int)) := by omega
      simp only [Int.toNat_zero, Nat.add_zero] at h1 h3' hch hneed
      simp [-run_choose, hst, hxt, run_desc hE hd, run_desc hE hk, run_size hE hn, h1, hi, hib, hi', hib', h2a, h3', hch, hw1, hzd, hzr, newRow, hhs, asInt, asIntOf, hwr, aZeros]
    · simp [-run_choose, hst, hxt, run_desc hE hd, run_desc hE hk, run_size hE hn, h1, hi, hib, hi', hib', h2', h3', hch, hw1, hzd, hzr, newRow, hhs, asInt, asIntOf, hwr, hneg, hbig, h0, h2'']
  · obtain ⟨new', hs1, hs2⟩ := e_source hE hR' hx hsrc (.inl hlen)
    refine ⟨new', newCap, hs2, hle, ?_⟩
    have hl := run_lenOf (E := E) hx hlen w
    have h2' : ¬ (9223372036854775807 < (len : Int) + m) := by omega
    have h3' : ¬ (281474976710656 < Builtin.nextslicecap (len + m) cap * b) := by omega
    simp only [← hend]
    generalize ({ w with drawn := w.drawn + 1 } : World) = w1 at *
    unfold Builtin.append_
    rcases hxt with hxt | ⟨xt, d, hxt, hd', hni⟩
    · simp [-run_choose, hst, hxt, run_desc hE hd, run_size hE hn, hl, h1, hi, hib, hi', hib', h2', h3', hch, hw1, hs1, hzd, hzr, newRow, hhs]
    · cases d <;> first
        | exact absurd rfl (hni _)
        | simp [-run_choose, hst, hxt, run_desc hE hd, run_desc hE hd', run_size hE hn, hl, h1, hi, hib, hi', hib', h2', h3', hch, hw1, hs1, hzd, hzr, newRow, hhs]


set_option maxHeartbeats 1000000 in
/-- The machine's append where there is room. -/
theorem run_append_in {φ : Phi} {s : St} {w : World} {elem st : TypeId} {argTypes : Array TypeId} {ty : TypeId} {n b : Nat} {z : Value} (hR : R B w₀ φ s.get w)
    (hst : argTypes[0]? = some st) (hd : E.desc st = some (.slice elem)) (hn : E.size elem = some n) (hb : E.bytes elem = some b) (hz : E.zero elem = some z) (hn0 : 0 < n) (hzn : z.cells.size = n)
    {base : Option Addr} {len cap m : Nat} {x x' : Value} {new : List Value} (hx : V B φ x x') (hnew : aNew E s argTypes n b z x = some (m, new)) (hneed : len + m ≤ cap) :
    ∃ new', VL B φ new new' ∧ ∀ w', (match base with | some c => (storeCells (c.add (len * n)) new').run E.P w = .ok () w' | none => w' = w) →
      (Builtin.append_ argTypes ty #[.slice base len cap, x']).run E.P w = .ok (.slice base (len + m) cap) w' := by
  obtain ⟨i, hi, hib⟩ := run_bytes hE hb w
  have hzr : ∀ k, Builtin.zeroCells z.cells k = (aZeros z.cells.toList k).toArray := fun k => zeros_row z.cells k (by omega)
  have hzd := run_zero hE hz w
  rcases aNew_cases hnew with ⟨xt, k, kk, ii, hxt, hk, rfl, hi0, hi1, hi2, rfl, rfl⟩ | ⟨hxt, hlen, hsrc⟩
  · rw [hx.int_left]
    refine ⟨aZeros z.cells.toList ii.toNat, VL.refl_of_flat' (flatL_aZeros (flat_cells (hE.zero _ _ hz).1) _), fun w' hw' => ?_⟩
    have hwr : IntKind.i64.wrap ii = ii := wrap_small hi0 hi1
    have hneg : ¬ (ii < 0) := by omega
    have hbig : ¬ (281474976710656 < ii * (b : Int)) := by
      have h1 : ((ii.toNat * b : Nat) : Int) = ii * b := by rw [Int.natCast_mul, Int.toNat_of_nonneg hi0]
      omega
    unfold Builtin.append_
    by_cases h0 : ii.toNat * n = 0
    · have hi00 : ii.toNat = 0 := by rcases Nat.mul_eq_zero.1 h0 with h | h; exact h; omega
      have hi000 : ii = 0 := by omega
      subst hi000
      simp only [Int.toNat_zero, Nat.add_zero] at hneed
      simp only [Int.toNat_zero, aZeros, List.replicate_zero, List.flatten_nil] at hw'
      cases base with
      | none => subst hw'; simp [-run_choose, hst, hxt, run_desc hE hd, run_desc hE hk, run_size hE hn, hneed, hi, hib, hzd, hzr, asInt, asIntOf, hwr]
      | some c => simp [-run_choose, hst, hxt, run_desc hE hd, run_desc hE hk, run_size hE hn, hneed, hi, hib, hzd, hzr, asInt, asIntOf, hwr, hw']
    · cases base with
      | none => subst hw'; simp [-run_choose, hst, hxt, run_desc hE hd, run_desc hE hk, run_size hE hn, hneed, hi, hib, hzd, hzr, asInt, asIntOf, hwr, hneg, hbig, h0]
      | some c => simp [-run_choose, hst, hxt, run_desc hE hd, run_desc hE hk, run_size hE hn, hneed, hi, hib, hzd, hzr, asInt, asIntOf, hwr, hneg, hbig, h0, hw']
  · obtain ⟨new', hs1, hs2⟩ := e_source hE hR hx hsrc (.inl hlen)
    refine ⟨new', hs2, fun w' hw' => ?_⟩
    have hl := run_lenOf (E := E) hx hlen w
    unfold Builtin.append_
    rcases hxt with hxt | ⟨xt, d, hxt, hd', hni⟩
    · cases base with
      | none => subst hw'; simp [-run_choose, hst, hxt, run_desc hE hd, run_size hE hn, hl, hneed, hs1]
      | some c => simp [-run_choose, hst, hxt, run_desc hE hd, run_size hE hn, hl, hneed, hs1, hw']
    · cases base with
      | none =>
        subst hw'
        cases d <;> first
          | exact absurd rfl (hni _)
          | simp [-run_choose, hst, hxt, run_desc hE hd, run_desc hE hd', run_size hE hn, hl, hneed, hs1]
      | some c =>
        cases d <;> first
          | exact absurd rfl (hni _)
          | simp [-run_choose, hst, hxt, run_desc hE hd, run_desc hE hd', run_size hE hn, hl, hneed, hs1, hw']

end

end Go.Ai
