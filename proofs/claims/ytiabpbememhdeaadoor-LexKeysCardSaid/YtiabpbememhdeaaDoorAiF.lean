/-
  THE SHORT RUN, 6: what an operation of it answers, the machine's answers too: those that look at no memory.
-/
import Derived.Test.YtiabpbememhdeaaDoorAiE
import Derived.Laws.Entries
set_option linter.unusedSimpArgs false
set_option linter.unusedVariables false
namespace Go.Ai
open Go

structure Env.Ok (E : Env) (B : Nat) (w₀ : World) : Prop where
  desc : ∀ t d, E.desc t = some d → E.P.underlying t = some d
  size : ∀ t n, E.size t = some n → ∃ i, E.P.info? t = some i ∧ i.size = n
  bytes : ∀ t n, E.bytes t = some n → ∃ i, E.P.info? t = some i ∧ i.bytes = n
  zero : ∀ t z, E.zero t = some z → flat z = true ∧ ∃ i, E.P.info? t = some i ∧ i.zero = some z
  old : OldOk B w₀ E.old

section
variable {E : Env} {B : Nat} {w₀ : World} (hE : E.Ok B w₀)
include hE

theorem run_desc {t : TypeId} {d : TypeDesc} (h : E.desc t = some d) (w : World) : (underlying t).run E.P w = .ok d w := run_underlying (hE.desc _ _ h) w

theorem run_size {t : TypeId} {n : Nat} (h : E.size t = some n) (w : World) : (sizeOf t).run E.P w = .ok n w := by
  obtain ⟨i, hi, rfl⟩ := hE.size _ _ h
  simp [sizeOf, typeInfo, hi]

theorem run_zero {t : TypeId} {z : Value} (h : E.zero t = some z) (w : World) : (zeroValue t).run E.P w = .ok z w := by
  obtain ⟨_, i, hi, hz⟩ := hE.zero _ _ h
  simp [zeroValue, typeInfo, hi, hz]

theorem run_bytes {t : TypeId} {n : Nat} (h : E.bytes t = some n) (w : World) : ∃ i, (typeInfo t).run E.P w = .ok i w ∧ i.bytes = n := by
  obtain ⟨i, hi, rfl⟩ := hE.bytes _ _ h
  exact ⟨i, by simp [typeInfo, hi], rfl⟩

theorem run_agg {t : TypeId} {d : TypeDesc} (h : E.desc t = some d) (w : World) : (isAgg t).run E.P w = .ok (isAggD d) w := by
  unfold isAgg
  rw [Sem.run_bind, run_desc hE h]
  cases d <;> rfl

end

theorem pureRun_spec {α : Type} (P : Program) : ∀ (x : Sem α) (a : α), pureRun P x = some a → ∀ w, x.run P w = .ok a w := by
  intro x
  induction x with
  | pure b => intro a h w; simp only [pureRun, Option.some.injEq] at h; subst h; rfl
  | program k ih => intro a h w; simp only [pureRun] at h; exact ih _ _ h w
  | mark m k ih => intro a h w; simp only [pureRun] at h; exact ih _ h w
  | _ => intro a h; simp [pureRun] at h

theorem pureFlat_spec {P : Program} {x : Sem Value} {v : Value} (h : pureFlat P x = some v) : flat v = true ∧ ∀ w, x.run P w = .ok v w := by
  unfold pureFlat at h
  cases hx : pureRun P x with
  | none => simp [hx] at h
  | some a =>
    simp only [hx] at h
    split at h
    · cases h; exact ⟨by assumption, pureRun_spec _ _ _ hx⟩
    · simp at h

theorem V.flat_right {B : Nat} {φ : Phi} {x y : Value} (h : V B φ x y) (hf : flat x = true) : y = x := (h.eq_of_flat hf).symm

theorem V.bool_left {B : Nat} {φ : Phi} {b : Bool} {y : Value} (h : V B φ (.bool b) y) : y = .bool b := h.flat_right rfl
theorem V.int_left {B : Nat} {φ : Phi} {k : IntKind} {n : Int} {y : Value} (h : V B φ (.int k n) y) : y = .int k n := h.flat_right rfl
theorem V.string_left {B : Nat} {φ : Phi} {b : ByteArray} {y : Value} (h : V B φ (.string b) y) : y = .string b := h.flat_right rfl

theorem VA.of_agg {B : Nat} {φ : Phi} {cs : Array Value} {y : Value} (h : V B φ (.agg cs) y) : ∃ cs', y = .agg cs' ∧ VA B φ cs cs' := by
  cases h with
  | agg hs hi => exact ⟨_, rfl, hs, hi⟩

theorem VA.of_tuple {B : Nat} {φ : Phi} {cs : Array Value} {y : Value} (h : V B φ (.tuple cs) y) : ∃ cs', y = .tuple cs' ∧ VA B φ cs cs' := by
  cases h with
  | tuple hs hi => exact ⟨_, rfl, hs, hi⟩

theorem VA.extract {B : Nat} {φ : Phi} {xs ys : Array Value} (h : VA B φ xs ys) (a b : Nat) : VA B φ (xs.extract a b) (ys.extract a b) := by
  refine ⟨by simp [h.1], fun i x y hx hy => ?_⟩
  rw [Array.getElem?_extract] at hx hy
  split at hx
  · split at hy
    · exact h.2 _ _ _ hx hy
    · simp at hy
  · simp at hx

theorem VA.get {B : Nat} {φ : Phi} {xs ys : Array Value} (h : VA B φ xs ys) {i : Nat} {x : Value} (hx : xs[i]? = some x) : ∃ y, ys[i]? = some y ∧ V B φ x y := by
  have hi : i < ys.size := by rw [← h.1]; exact (Array.getElem?_eq_some_iff.1 hx).1
  exact ⟨ys[i], Array.getElem?_eq_getElem hi, h.2 _ _ _ hx (Array.getElem?_eq_getElem hi)⟩

theorem VA.get_none {B : Nat} {φ : Phi} {xs ys : Array Value} (h : VA B φ xs ys) {i : Nat} (hx : xs[i]? = none) : ys[i]? = none := by
  simp only [Array.getElem?_eq_none_iff] at hx ⊢
  have := h.1; omega

theorem VA.set {B : Nat} {φ : Phi} {xs ys : Array Value} (h : VA B φ xs ys) {i : Nat} {x y : Value} (hv : V B φ x y) : VA B φ (xs.setIfInBounds i x) (ys.setIfInBounds i y) := by
  refine ⟨by simp [h.1], fun j a b ha hb => ?_⟩
  rw [Array.getElem?_setIfInBounds] at ha hb
  split at ha
  · rename_i e
    subst e
    simp only [if_true] at hb
    split at ha
    · split at hb
      · cases ha; cases hb; exact hv
      · simp at hb
    · simp at ha
  · rename_i e
    rw [if_neg e] at hb
    exact h.2 _ _ _ ha hb

theorem VA.map {B : Nat} {φ : Phi} {α : Type} {f g : α → Value} (l : Array α) (h : ∀ x ∈ l, V B φ (f x) (g x)) : VA B φ (l.map f) (l.map g) := by
  refine ⟨by simp, fun i x y hx hy => ?_⟩
  simp only [Array.getElem?_map, Option.map_eq_some_iff] at hx hy
  obtain ⟨a, ha, rfl⟩ := hx
  obtain ⟨b, hb, rfl⟩ := hy
  rw [ha] at hb
  cases hb
  exact h _ (Array.mem_of_getElem? ha)

theorem VA.one {B : Nat} {φ : Phi} {x y : Value} (h : V B φ x y) : VA B φ #[x] #[y] := by
  refine ⟨rfl, fun i a b ha hb => ?_⟩
  cases i with
  | zero => simp at ha hb; subst ha; subst hb; exact h
  | succ i => simp at ha

theorem V.cells {B : Nat} {φ : Phi} {x y : Value} (h : V B φ x y) : VA B φ x.cells y.cells := by
  have h0 := h
  cases h with
  | agg hs hi => exact ⟨hs, hi⟩
  | _ => exact VA.one h0

section
variable {E : Env} {B : Nat} {w₀ : World} (hE : E.Ok B w₀) {φ : Phi}
include hE

theorem run_part {t : TypeId} {cs cs' : Array Value} {off : Nat} {x : Value} (h : aPart E t cs off = some x) (hc : VA B φ cs cs') (w : World) :
    ∃ y, (part t cs' off).run E.P w = .ok y w ∧ V B φ x y := by
  unfold aPart at h
  cases hd : E.desc t with
  | none => simp [hd] at h
  | some d =>
    simp only [hd] at h
    unfold part
    simp only [Sem.run_bind, run_agg hE hd, Result.andThen_ok]
    cases ha : isAggD d with
    | true =>
      simp only [ha, if_true] at h
      cases hn : E.size t with
      | none => simp [hn] at h
      | some n =>
        simp only [hn, Option.map_some, Option.some.injEq] at h
        subst h
        have hx := hc.extract off (off + n)
        exact ⟨.agg (cs'.extract off (off + n)), by simp [run_size hE hn], .agg hx.1 hx.2⟩
    | false =>
      simp only [ha, Bool.false_eq_true, if_false] at h
      obtain ⟨y, hy, hv⟩ := hc.get h
      exact ⟨y, by simp [hy], hv⟩

theorem run_load {s : St} {t : TypeId} {x x' v : Value} {w : World} (hR : R B w₀ φ s.get w) (hx : V B φ x x') (h : aLoad E s t x = some v) :
    ∃ v', (Instr.loadAt t x').run E.P w = .ok v' w ∧ V B φ v v' := by
  unfold aLoad at h
  split at h
  · rename_i a
    cases hd : E.desc t with
    | none => simp [hd] at h
    | some d =>
      simp only [hd] at h
      obtain ⟨c, rfl⟩ : ∃ c, x' = .pointer (some c) := by cases hx <;> exact ⟨_, rfl⟩
      cases ha : isAggD d with
      | true =>
        simp only [ha, if_true] at h
        cases hn : E.size t with
        | none => simp [hn] at h
        | some n =>
          simp only [hn] at h
          cases hr : readN E.old s a n with
          | none => simp [hr] at h
          | some l =>
            simp only [hr, Option.map_some, Option.some.injEq] at h
            subst h
            obtain ⟨h1, l', h2, h3, h4⟩ := hR.read hE.old hx hr
            have h5 := run_loadCells_list (P := E.P) w c l' h4
            rw [h2] at h5
            refine ⟨.agg l'.toArray, by simp [Instr.loadAt, Instr.sureAddr, loadVar, run_agg hE hd, ha, run_size hE hn, h5], .agg (by simp [h1, h2]) fun i x y hx hy => h3 i x y (by simpa using hx) (by simpa using hy)⟩
      | false =>
        simp only [ha, Bool.false_eq_true, if_false] at h
        split at h
        · rename_i v0 hr
          cases h
          obtain ⟨h1, l', h2, h3, h4⟩ := hR.read hE.old hx hr
          obtain ⟨v', rfl⟩ : ∃ v', l' = [v'] := by
            match l', h2 with
            | [v'], _ => exact ⟨v', rfl⟩
          have h5 := h4 0 v' rfl
          rw [show c.add 0 = c from rfl] at h5
          exact ⟨v', by simp [Instr.loadAt, Instr.sureAddr, loadVar, run_agg hE hd, ha, h5], h3 0 _ _ rfl rfl⟩
        · simp at h
  · simp at h
end

end Go.Ai
