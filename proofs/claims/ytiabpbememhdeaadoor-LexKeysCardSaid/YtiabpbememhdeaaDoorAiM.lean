/-
  THE SHORT RUN, 13: append, copy, maps, walks along a string.
-/
import Derived.Test.YtiabpbememhdeaaDoorAiL
set_option linter.unusedSimpArgs false
set_option linter.unusedVariables false
set_option linter.unusedSectionVars false
namespace Go.Ai
open Go

section
variable {E : Env} {B : Nat} {w₀ : World} (hE : E.Ok B w₀)
include hE

theorem VL.append {φ : Phi} {a a' b b' : List Value} (h : VL B φ a a') (k : VL B φ b b') : VL B φ (a ++ b) (a' ++ b') := by
  refine ⟨by simp [h.1, k.1], fun i x y hx hy => ?_⟩
  by_cases hi : i < a.length
  · rw [List.getElem?_append_left hi] at hx
    rw [List.getElem?_append_left (by rw [← h.1]; exact hi)] at hy
    exact h.2 i x y hx hy
  · rw [List.getElem?_append_right (by omega)] at hx
    rw [List.getElem?_append_right (by rw [← h.1]; omega), ← h.1] at hy
    exact k.2 _ x y hx hy

/-- The cells of a new array behind an append, and how far they go. -/
theorem grown_get (was new : List Value) (z : List Value) (k : Nat) (i : Nat) (hi : i < (was ++ new).length) : (was.toArray ++ new.toArray ++ (aZeros z k).toArray)[i]? = (was ++ new)[i]? := by
  simp only [List.append_toArray, List.getElem?_toArray]
  rw [List.getElem?_append_left hi]

theorem e_append {φ : Phi} {s s' : St} {argTypes : Array TypeId} {ty : TypeId} {sl sl' x x' v : Value} {w : World} (hR : R B w₀ φ s.get w) (hF : s.Fresh) (hs : V B φ sl sl') (hx : V B φ x x')
    (h : aAppend E s argTypes sl x = some (v, s')) :
    ∃ φ' v' w', (Builtin.append_ argTypes ty #[sl', x']).run E.P w = .ok v' w' ∧ Step s.next φ w φ' w' ∧ R B w₀ φ' s'.get w' ∧ V B φ' v v' ∧ s'.Fresh ∧ s.next ≤ s'.next := by
  unfold aAppend at h
  split at h
  next => simp at h
  next st hst =>
    split at h
    next elem hd =>
      split at h
      next n b z hn hb hz =>
        split at h
        next => simp at h
        next hnz =>
          obtain ⟨hn0, hzn⟩ : 0 < n ∧ z.cells.size = n := Classical.not_not.1 hnz
          split at h
          next => simp at h
          next m new hnew =>
            split at h
            next => simp at h
            next hnl =>
              obtain ⟨hnewl, hcell⟩ : new.length = m * n ∧ new.all isCell = true := Classical.not_not.1 hnl
              have hcell' : ∀ y ∈ new, isCell y = true := by simpa using hcell
              have wasOf : ∀ (a c' : Addr) (len cap : Nat) (was : List Value), V B φ (.pointer (some a)) (.pointer (some c')) → readN E.old s a (len * n) = some was →
                  ∃ was', VL B φ was was' ∧ was.length = len * n ∧ ∀ d, (Builtin.firstCells n len (.slice (some c') len cap)).run E.P { w with drawn := d } = .ok was'.toArray { w with drawn := d } := by
                intro a c' len cap was hp hr
                obtain ⟨h1, l', h2, h3, h4⟩ := hR.read hE.old hp hr
                refine ⟨l', ⟨by rw [h1, h2], h3⟩, h1, fun d => ?_⟩
                have h5 := run_loadCells_list (P := E.P) { w with drawn := d } c' l' h4
                rw [h2] at h5
                simpa [Builtin.firstCells] using h5
              -- a fresh array of its own
              have fresh : ∀ (base : Option Addr) (len cap : Nat) (was was' : List Value), sl' = .slice base len cap → was.length = len * n → VL B φ was was' → cap < len + m → (len + m) * b ≤ 2 ^ 46 → len + m < 2 ^ 62 →
                  (∀ d, (Builtin.firstCells n len (.slice base len cap)).run E.P { w with drawn := d } = .ok was'.toArray { w with drawn := d }) →
                  ∃ φ' v' w', (Builtin.append_ argTypes ty #[sl', x']).run E.P w = .ok v' w' ∧ Step s.next φ w φ' w' ∧ R B w₀ φ' (s.push (.row (was ++ new) n 0 0 [])).get w' ∧
                    V B φ' (.slice (some ⟨s.next, 0, some 0⟩) (len + m) unc) v' ∧ (s.push (.row (was ++ new) n 0 0 [])).Fresh ∧ s.next ≤ (s.push (.row (was ++ new) n 0 0 [])).next := by
                intro base len cap was was' hsl hwl hvw hneed hs1 hs2 hfc
                subst hsl
                obtain ⟨new', newCap, g1, g2, g3⟩ := run_append_new hE (was := []) (ty := ty) hR hst hd hn hb hz hn0 hzn hx hnew hneed hs1 hs2 hfc
                have hlen' : was'.length = len * n := by rw [← hvw.1]; exact hwl
                have hlenn : new'.length = m * n := by rw [← g1.1]; exact hnewl
                have hsub : len + m + (newCap - (len + m)) = newCap := by omega
                obtain ⟨f1, f2, f3, f4⟩ := hR.new_row (hR.noneAt hF) (l := was ++ new) (l' := was' ++ new') (n := n) (m := len + m) (cap := newCap) (t := elem) (fr := (0, 0))
                  (c := was'.toArray ++ new'.toArray ++ (aZeros z.cells.toList (newCap - (len + m))).toArray)
                  (w' := { w with drawn := w.drawn + 1, heap := w.heap.push (.cells (was'.toArray ++ new'.toArray ++ (aZeros z.cells.toList (newCap - (len + m))).toArray) elem) })
                  (VL.append hE hvw g1) hn0 (by simp [hwl, hnewl, Nat.add_mul]) (by
                    simp only [Array.size_append, List.size_toArray, hlen', hlenn, aZeros_length, Array.length_toList, hzn]
                    rw [← Nat.add_mul, ← Nat.add_mul, hsub]) g2 (fun i hi => grown_get hE _ _ _ _ i hi) (by simp) rfl rfl rfl rfl
                refine ⟨_, _, _, g3, f1, ?_, f4, hF.push _, by simp [St.push]⟩
                rw [show (s.push (.row (was ++ new) n 0 0 [])).get = _ from funext fun m => St.get_push _ _ _]
                exact f2
              split at h
              next l c =>
                split at h
                next => simp at h
                next hlc =>
                  obtain ⟨rfl, rfl⟩ : l = 0 ∧ c = 0 := by
                    constructor <;> (apply Classical.byContradiction; intro hh; exact hlc (by simp [hh]))
                  obtain rfl := hs.flat_right (by simp [flat])
                  split at h
                  next hm =>
                    subst hm
                    cases h
                    obtain ⟨new', _, g⟩ := run_append_in hE (ty := ty) (len := 0) (cap := 0) (base := none) hR hst hd hn hb hz hn0 hzn hx hnew (by omega)
                    exact ⟨φ, _, w, g w rfl, Step.refl _ _, hR, .snil 0 0, hF, Nat.le_refl _⟩
                  next hm =>
                    split at h
                    next hsm =>
                      simp only [mkRow, Option.some.injEq, Prod.mk.injEq] at h
                      obtain ⟨rfl, rfl⟩ := h
                      have := fresh none 0 0 [] [] rfl (by simp) ⟨rfl, by simp⟩ (by omega) (by simpa using hsm.1) (by simpa using hsm.2) (fun d => rfl)
                      simpa using this
                    next => simp at h
              next a len cap =>
                split at h
                next hsm =>
                  obtain ⟨hsm1, hsm2⟩ := hsm
                  split at h
                  next e he =>
                    split at h
                    next cells esz ep lw hist hg =>
                      split at h
                      next hc =>
                        obtain ⟨rfl, hlw, rfl, hoff⟩ := hc
                        split at h
                        next hcap =>
                          subst hcap
                          obtain ⟨k, c', cap', hk, hke, hz0, rfl, hbase, hdv, hfit, hlen, hrm, hcase⟩ := hs.slice_unc hR hg he hlw
                          split at h
                          next hm =>
                            subst hm
                            cases h
                            obtain ⟨new', hvn, g⟩ := run_append_in hE (ty := ty) (len := len) (cap := cap') (base := some c') hR hst hd hn hb hz hn0 hzn hx hnew (by omega)
                            have hnil : new' = [] := by
                              have h1 := hvn.1
                              rw [hnewl] at h1
                              simpa using h1.symm
                            subst hnil
                            exact ⟨φ, _, w, g w rfl, Step.refl _ _, hR, hs, hF, Nat.le_refl _⟩
                          next hm =>
                            split at h
                            next hin =>
                              cases h
                              have hdivs : len + m ≤ (cells.length - a.off) / esz := by
                                rw [Nat.le_div_iff_mul_le hz0]; omega
                              have hneed : len + m ≤ cap' := by omega
                              obtain ⟨new', hvn, g⟩ := run_append_in hE (ty := ty) (len := len) (cap := cap') (base := some c') hR hst hd hn hb hz hn0 hzn hx hnew hneed
                              rcases hcase with ⟨hp, hcap1, hcap2⟩ | ⟨_, h0, _⟩
                              · obtain ⟨k', hk', _, rfl⟩ := hp.pointer_new he
                                rw [hk] at hk'; cases hk'
                                have hin' : a.off + len * esz + new.length ≤ cells.length := by rw [hnewl, Nat.add_assoc, ← Nat.add_mul]; exact hin
                                obtain ⟨w', g1, g2, g3⟩ := hR.write E.P (off := a.off + len * esz) hg hlw hk (by omega) hin' hvn hcell'
                                refine ⟨φ, _, w', g w' (by simp only [add_none]; rw [show a.off - k.base + len * esz = a.off + len * esz - k.base by omega]; exact g1), g2, g3, ?_, hF.put _ (by simp [hg]), Nat.le_refl _⟩
                                have := V.snew (B := B) (φ := φ) a.block a.off e (len + m) k hk hbase (by omega) (by rw [hke]; omega) (by rw [hke]; exact hdv)
                                rw [hke, ← hcap1] at this
                                rw [show a = ⟨a.block, a.off, some e⟩ by rw [← he]]
                                exact this
                              · omega
                            next hin =>
                              split at h
                              next hend =>
                                cases h
                                by_cases hneed : len + m ≤ cap'
                                · obtain ⟨new', hvn, g⟩ := run_append_in hE (ty := ty) (len := len) (cap := cap') (base := some c') hR hst hd hn hb hz hn0 hzn hx hnew hneed
                                  rcases hcase with ⟨hp, hcap1, hcap2⟩ | ⟨_, h0, _⟩
                                  · obtain ⟨k', hk', _, rfl⟩ := hp.pointer_new he
                                    rw [hk] at hk'; cases hk'
                                    have hq := Nat.div_add_mod (a.off - k.base) esz
                                    rw [hdv, Nat.add_zero, Nat.mul_comm] at hq
                                    have hfits : cells.length + new.length ≤ k.base + k.cap * esz := by
                                      have h1 : ((a.off - k.base) / esz + len + m) * esz ≤ k.cap * esz := Nat.mul_le_mul_right _ (by omega)
                                      rw [Nat.add_mul, Nat.add_mul] at h1
                                      omega
                                    obtain ⟨w', g1, g2, g3⟩ := hR.grow_in E.P hg hlw hk hfits (by omega) hvn hcell'
                                    refine ⟨_, _, w', g w' (by simp only [add_none]; rw [show a.off - k.base + len * esz = cells.length - k.base by omega]; exact g1), g2, g3, ?_, hF.put _ (by simp [hg]), Nat.le_refl _⟩
                                    have := V.snew (B := B) (φ := withNew φ a.block (e + 1) k) a.block a.off (e + 1) (len + m) k (by simp [withNew]) hbase (by omega) (by rw [hke]; omega) (by rw [hke]; exact hdv)
                                    rw [hke, ← hcap1] at this
                                    exact this
                                  · omega
                                · have hwas : ∃ was', VL B φ ((cells.drop a.off).take (len * esz)) was' ∧ ∀ d, (Builtin.firstCells esz len (.slice (some c') len cap')).run E.P { w with drawn := d } = .ok was'.toArray { w with drawn := d } := by
                                    rcases hcase with ⟨hp, _, _⟩ | ⟨hl0, _, _, o, rfl⟩
                                    · have hr : readN E.old s a (len * esz) = some ((cells.drop a.off).take (len * esz)) := by
                                        unfold readN
                                        rw [he]
                                        simp only [hg]
                                        rw [if_pos ⟨hlw, by simp [ext]; omega, by omega⟩]
                                      obtain ⟨was', h1, _, h2⟩ := wasOf a c' len cap' _ hp hr
                                      exact ⟨was', h1, h2⟩
                                    · subst hl0
                                      exact ⟨[], ⟨by simp, by simp⟩, fun d => by simp [Builtin.firstCells, loadCells, loadCellsFrom]⟩
                                  obtain ⟨was', hvw, hfc⟩ := hwas
                                  obtain ⟨new', newCap, g1, g2, g3⟩ := run_append_new hE (was := []) (ty := ty) hR hst hd hn hb hz hn0 hzn hx hnew (by omega) hsm1 hsm2 hfc
                                  have hwl : was'.length = len * esz := by rw [← hvw.1]; simp; omega
                                  have hnl' : new'.length = m * esz := by rw [← g1.1]; exact hnewl
                                  have hsub : len + m + (newCap - (len + m)) = newCap := by omega
                                  have hcs : (was'.toArray ++ new'.toArray ++ (aZeros z.cells.toList (newCap - (len + m))).toArray).size = newCap * esz := by
                                    simp only [Array.size_append, List.size_toArray, hwl, hnl', aZeros_length, Array.length_toList, hzn]
                                    rw [← Nat.add_mul, ← Nat.add_mul, hsub]
                                  have hmn : m * esz ≤ newCap * esz - len * esz := by rw [← Nat.sub_mul]; exact Nat.mul_le_mul_right _ (by omega)
                                  have hln : len * esz ≤ newCap * esz := Nat.mul_le_mul_right _ (by omega)
                                  obtain ⟨f1, f2⟩ := hR.grow_new ⟨_, _, hk⟩ hg hz0 (off := a.off) (cap := newCap) (elem := elem) (vs := new) (c := was'.toArray ++ new'.toArray ++ (aZeros z.cells.toList (newCap - (len + m))).toArray)
                                    (w.drawn + 1) (by omega) hcs (by rw [hcs, hnewl]; omega) (fun o y ho1 ho2 hy => by
                                      have hlt : o - a.off < was'.length := by omega
                                      refine ⟨was'[o - a.off], ?_, hvw.2 (o - a.off) _ _ ?_ (List.getElem?_eq_getElem hlt)⟩
                                      · rw [grown_get hE was' new' _ _ _ (by simp; omega), List.getElem?_append_left hlt]
                                        exact List.getElem?_eq_getElem hlt
                                      · rw [List.getElem?_take, if_pos (by omega), List.getElem?_drop, show a.off + (o - a.off) = o by omega]
                                        exact hy) (fun i y hy hi => by
                                      have hil : i < new.length := (List.getElem?_eq_some_iff.1 hy).1
                                      have hlt : i < new'.length := by rw [← g1.1]; exact hil
                                      refine ⟨new'[i], ?_, g1.2 i _ _ hy (List.getElem?_eq_getElem hlt)⟩
                                      rw [grown_get hE was' new' _ _ _ (by simp; omega), List.getElem?_append_right (by omega), show cells.length + i - a.off - was'.length = i by omega]
                                      exact List.getElem?_eq_getElem hlt)
                                  refine ⟨_, _, _, g3, f1, f2, ?_, hF.put _ (by simp [hg]), Nat.le_refl _⟩
                                  have := V.snew (B := B) (φ := withNew φ a.block (e + 1) ⟨w.heap.size, a.off, newCap, esz⟩) a.block a.off (e + 1) (len + m) ⟨w.heap.size, a.off, newCap, esz⟩ (by simp [withNew]) (Nat.le_refl _) hz0 (by simp; omega) (by simp)
                                  simpa using this
                              next => simp at h
                        next hcap =>
                          obtain ⟨c', rfl, hp, hcu⟩ : ∃ c', sl' = .slice (some c') len cap ∧ V B φ (.pointer (some a)) (.pointer (some c')) ∧ cap < unc := by
                            rcases hs.slice_some with ⟨c', h1, h2, h3⟩ | ⟨_, _, _, _, h2, _⟩ | ⟨_, _, _, _, h2, _⟩
                            · refine ⟨c', h1, h2, h3.resolve_left (by simp [he])⟩
                            · exact absurd h2 hcap
                            · exact absurd h2 hcap
                          split at h
                          next hroom =>
                            split at h
                            next hin =>
                              cases h
                              obtain ⟨new', hvn, g⟩ := run_append_in hE (ty := ty) (len := len) (cap := cap) (base := some c') hR hst hd hn hb hz hn0 hzn hx hnew hroom
                              obtain ⟨k, hk, hbase, rfl⟩ := hp.pointer_new he
                              have hin' : a.off + len * esz + new.length ≤ cells.length := by rw [hnewl, Nat.add_assoc, ← Nat.add_mul]; exact hin
                              obtain ⟨w', g1, g2, g3⟩ := hR.write E.P (off := a.off + len * esz) hg hlw hk (by omega) hin' hvn hcell'
                              refine ⟨φ, _, w', g w' (by simp only [add_none]; rw [show a.off - k.base + len * esz = a.off + len * esz - k.base by omega]; exact g1), g2, g3, hp.slice_mk (.inr hcu), hF.put _ (by simp [hg]), Nat.le_refl _⟩
                            next => simp at h
                          next hroom =>
                            split at h
                            next was hr =>
                              simp only [mkRow, Option.some.injEq, Prod.mk.injEq] at h
                              obtain ⟨rfl, rfl⟩ := h
                              obtain ⟨was', h1, h2, h3⟩ := wasOf a c' len cap was hp hr
                              exact fresh (some c') len cap was was' rfl h2 h1 (by omega) hsm1 hsm2 h3
                            next => simp at h
                      next => simp at h
                    next => simp at h
                  next he =>
                    obtain ⟨c', rfl, hp⟩ : ∃ c', sl' = .slice (some c') len cap ∧ V B φ (.pointer (some a)) (.pointer (some c')) := by
                      rcases hs.slice_some with ⟨c', h1, h2, h3⟩ | ⟨_, _, _, h1, _⟩ | ⟨_, _, _, h1, _⟩
                      · exact ⟨c', h1, h2⟩
                      · simp [he] at h1
                      · simp [he] at h1
                    split at h
                    next hm =>
                      obtain ⟨rfl, hlc⟩ := hm
                      cases h
                      obtain ⟨new', hvn, g⟩ := run_append_in hE (ty := ty) (len := len) (cap := cap) (base := some c') hR hst hd hn hb hz hn0 hzn hx hnew (by omega)
                      have hnil : new' = [] := by
                        have h1 := hvn.1
                        rw [hnewl] at h1
                        simpa using h1.symm
                      subst hnil
                      exact ⟨φ, _, w, g w rfl, Step.refl _ _, hR, hs, hF, Nat.le_refl _⟩
                    next hm =>
                      split at h
                      next => simp at h
                      next hroom =>
                        split at h
                        next was hr =>
                          simp only [mkRow, Option.some.injEq, Prod.mk.injEq] at h
                          obtain ⟨rfl, rfl⟩ := h
                          obtain ⟨was', h1, h2, h3⟩ := wasOf a c' len cap was hp hr
                          exact fresh (some c') len cap was was' rfl h2 h1 (by omega) hsm1 hsm2 h3
                        next => simp at h
                next => simp at h
              next => simp at h
      next => simp at h
    next => simp at h


/-! copy -/
theorem e_copy {φ : Phi} {s s' : St} {argTypes : Array TypeId} {ty : TypeId} {dst dst' x x' v : Value} {w : World} (hR : R B w₀ φ s.get w) (hF : s.Fresh) (hs : V B φ dst dst') (hx : V B φ x x')
    (h : aCopy E s argTypes dst x = some (v, s')) :
    ∃ v' w', (Builtin.copy_ argTypes ty #[dst', x']).run E.P w = .ok v' w' ∧ Step s.next φ w φ w' ∧ R B w₀ φ s'.get w' ∧ V B φ v v' ∧ s'.Fresh ∧ s.next ≤ s'.next := by
  unfold aCopy at h
  split at h
  next => simp at h
  next st hst =>
    split at h
    next elem base dl cap m hd hm =>
      split at h
      next => simp at h
      next n hn =>
        split at h
        next => simp at h
        next l hl =>
          have hlen := run_lenOf (E := E) hx hm w
          obtain ⟨l', g1, g2⟩ := e_source hE hR hx hl (.inr (.inr ⟨m, hm, Nat.min_le_left _ _⟩))
          split at h
          next =>
            cases h
            rw [hs.flat_right (by simp [flat])]
            exact ⟨goInt (Nat.min m dl), w, by simp [Builtin.copy_, hst, run_desc hE hd, run_size hE hn, hlen, g1], Step.refl _ _, hR, .int _ _, hF, Nat.le_refl _⟩
          next a =>
            split at h
            next hnil =>
              cases h
              subst hnil
              obtain rfl : l' = [] := by simpa using g2.1.symm
              obtain ⟨c', cap', rfl⟩ : ∃ c' cap', dst' = .slice (some c') dl cap' := by
                rcases hs.slice_some with ⟨c', h1, _⟩ | ⟨_, _, c', _, _, _, _, _, _, _, _, h1⟩ | ⟨_, k, o, _, _, h0, _, _, _, _, _, h1⟩
                · exact ⟨c', _, h1⟩
                · exact ⟨c', _, h1⟩
                · subst h0; exact ⟨_, _, h1⟩
              exact ⟨goInt (Nat.min m dl), w, by simp [Builtin.copy_, hst, run_desc hE hd, run_size hE hn, hlen, g1, storeCells], Step.refl _ _, hR, .int _ _, hF, Nat.le_refl _⟩
            next hnil =>
              cases hw : writeN s a l with
              | none => simp [hw] at h
              | some s₁ =>
                simp only [hw, Option.map_some, Option.some.injEq, Prod.mk.injEq] at h
                obtain ⟨rfl, rfl⟩ := h
                obtain ⟨c', cap', rfl, hp⟩ : ∃ c' cap', dst' = .slice (some c') dl cap' ∧ V B φ (.pointer (some a)) (.pointer (some c')) := by
                  rcases hs.slice_some with ⟨c', h1, h2, _⟩ | ⟨_, _, c', _, _, _, _, _, _, h1, _, h2⟩ | ⟨e, k, o, _, _, h0, _⟩
                  · exact ⟨c', _, h1, h2⟩
                  · exact ⟨c', _, h2, h1⟩
                  · exfalso
                    subst h0
                    rw [show Nat.min m 0 = 0 from Nat.min_zero m] at hl
                    apply hnil
                    have h2 := g2.1
                    unfold aSource at hl
                    split at hl
                    · simpa using hl.symm
                    · rename_i a' _ _ _
                      rw [Nat.zero_mul] at hl
                      unfold readN at hl
                      split at hl
                      · simpa [readOld] using hl.symm
                      · split at hl
                        · split at hl
                          · simpa using hl.symm
                          · simp at hl
                        · simp at hl
                    · rename_i b
                      split at hl
                      · rw [show (b.extract 0 0).data.toList = [] by simp] at hl
                        simpa using hl.symm
                      · simp at hl
                    · simp at hl
                obtain ⟨w', f1, f2, f3, f4, f5⟩ := e_write hE hR hp g2 hw
                exact ⟨goInt (Nat.min m dl), w', by simp [Builtin.copy_, hst, run_desc hE hd, run_size hE hn, hlen, g1, f1], f2, f3, .int _ _, f4 hF, by rw [f5]; exact Nat.le_refl _⟩
    next => simp at h

/-! maps -/
theorem run_getMap {w : World} {b : Nat} {ces : Array MapEntry} {clock : Nat} (h : w.heap[b]? = some (.map ces clock)) : (getObj b).run E.P w = .ok (.map ces clock) w := by simp [getObj, Sem.run, h]

theorem run_setObj {w : World} {b : Nat} {o o' : Obj} (h : w.heap[b]? = some o) (ho : ∀ c t f, o ≠ .cells c t f) : (setObj b o').run E.P w = .ok () { w with heap := w.heap.setIfInBounds b o' } := by
  unfold setObj
  simp only [Sem.run, h]
  try (cases o <;> first | rfl | exact absurd rfl (ho _ _ _))

/-- A number's object, no row, turns into another one. -/
theorem R.setObj {φ : Phi} {s : St} {w : World} (hR : R B w₀ φ s.get w) {f : Nat} {k : Blk} (hk : φ f 0 = some k) (honly : ∀ e k', φ f e = some k' → e = 0) {o' : AObj} {x : Obj}
    (hrow : ∀ cells esz ep lw hist, o' ≠ .row cells esz ep lw hist)
    (hmap : ∀ es, o' = .map es → MapOk B φ { w with heap := w.heap.setIfInBounds k.b x } k es) (hiter : ∀ b p, o' = .iter b p → x = .stringIter b p) :
    Step s.next φ w φ { w with heap := w.heap.setIfInBounds k.b x } ∧ R B w₀ φ (s.put f o').get { w with heap := w.heap.setIfInBounds k.b x } := by
  have hlt := (hR.lo _ _ _ hk).2
  have hsame : ∀ e k', φ f e = some k' → k' = k := by
    intro e k' h'
    obtain rfl := honly _ _ h'
    rw [hk] at h'
    exact (Option.some.inj h').symm
  have hch := hR.change f o' (φ' := φ) (w' := { w with heap := w.heap.setIfInBounds k.b x }) (fun _ _ _ h => h) (fun _ _ _ _ h => h)
    (fun e' k' hk' => .inl ⟨e', k', hk', rfl⟩) (fun e₁ k₁ e₂ k₂ h₁ h₂ he => (hR.inj _ _ _ _ _ _ h₁ h₂ he).2)
    (fun b hb hn => by
      have : b ≠ k.b := fun h => hn 0 k hk h.symm
      simp only [Array.getElem?_setIfInBounds]
      rw [if_neg (fun h => this h.symm)]) (by simp) rfl rfl rfl
    (fun e k' cells esz ep lw hist he _ => absurd he (hrow _ _ _ _ _))
    (fun e k' es he hk' => by rw [hsame _ _ hk']; exact hmap _ he)
    (fun e k' b p he hk' => by
      rw [hsame _ _ hk', ← hiter _ _ he]
      simp [Array.getElem?_setIfInBounds, hlt]) (fun _ e k' hk' => honly _ _ hk') (fun _ _ h => ⟨_, _, h⟩)
  refine ⟨hch.1 _, ?_⟩
  rw [show (s.put f o').get = _ from funext fun m => St.get_put _ _ _ _]
  exact hch.2

theorem e_mapUpdate {φ : Phi} {s s' : St} {t : TypeId} {x x' k k' v v' : Value} {w : World} (hR : R B w₀ φ s.get w) (hx : V B φ x x') (hk : V B φ k k') (hv : V B φ v v')
    (h : aMapUpdate E s t x k v = some s') :
    ∃ w', (Instr.mapUpdate t x' k' v').run E.P w = .ok () w' ∧ Step s.next φ w φ w' ∧ R B w₀ φ s'.get w' ∧ (s.Fresh → s'.Fresh) ∧ s'.next = s.next := by
  unfold aMapUpdate at h
  split at h
  next kt et f hd =>
    split at h
    next d es hkd hg =>
      split at h
      next hok =>
        have hfl : flat k = true := by unfold keyOk at hok; simp only [Bool.and_eq_true] at hok; exact hok.1
        obtain rfl := hk.flat_right hfl
        rcases run_entries hE hR hx (by simp [aEntries, hg] : aEntries s (.map (some f)) = some es) with ⟨h1, _⟩ | ⟨f', kb, ces, clock, h1, rfl, h2, h3, h4, h5, h6, h7⟩
        · simp at h1
        · cases h1
          have hget := run_getMap hE h4
          have hset : ∀ o', (setObj kb.b o').run E.P w = .ok () { w with heap := w.heap.setIfInBounds kb.b o' } := fun o' => run_setObj hE h4 (by simp)
          have honly : ∀ e k', φ f e = some k' → e = 0 := fun e k' h' => hR.one _ _ _ h' (by simp [hg])
          have hc := run_checkKey hE hkd hok w
          have hlen : es.length = ces.toList.length := by simpa using h5.symm
          split at h
          next i a hfa =>
            obtain ⟨r', g1, g2⟩ := run_findKey hE hkd hlen h6 hfa w
            rcases g2 with ⟨g2, _⟩ | ⟨j, b, b', g2, rfl, hb, hj⟩
            · simp at g2
            · cases g2
              split at h
              next e he =>
                split at h
                next hsb =>
                  simp only [Bool.and_eq_true] at hsb
                  cases h
                  have hjc : i < ces.size := by rw [h5]; exact hj
                  obtain ⟨ck, cv⟩ := h6 i e ces[i] he (by simp [hjc])
                  have hks : (Instr.keyThatStays e.1 k').run E.P w = .ok k' w := by simp [Instr.keyThatStays, hsb.1]
                  have hm := hR.setObj hE h2 honly (o' := .map (es.set i (k', v))) (x := .map (ces.modify i fun e => { e with key := k', val := v' }) clock) (by simp) (fun es' he' => by
                    cases he'
                    refine ⟨ces.modify i fun e => { e with key := k', val := v' }, clock, by simp [Array.getElem?_setIfInBounds, (hR.lo _ _ _ h2).2], by simp [h5], fun n y hy => ?_⟩
                    rw [List.getElem?_set] at hy
                    by_cases hn : i = n
                    · subst hn
                      rw [if_pos rfl, if_pos hj] at hy
                      cases hy
                      exact ⟨{ ces[i] with key := k', val := v' }, by rw [Array.getElem?_modify, if_pos rfl, Array.getElem?_eq_getElem hjc]; rfl, rfl, hfl, hv⟩
                    · rw [if_neg hn] at hy
                      have hnl : n < ces.size := by rw [h5]; exact (List.getElem?_eq_some_iff.1 hy).1
                      obtain ⟨c1, c2⟩ := h6 n y ces[n] hy (by simp [hnl])
                      exact ⟨ces[n], by rw [Array.getElem?_modify, if_neg hn]; simp [hnl], c1, h7 n y hy, c2⟩) (by simp)
                  refine ⟨_, ?_, hm.1, hm.2, fun hf => hf.put _ (by simp [hg]), rfl⟩
                  simp [Instr.mapUpdate, run_desc hE hd, hget, hc, g1, hjc, ck, hks, hset]
                next => simp at h
              next => simp at h
          next hfa =>
            cases h
            obtain ⟨r', g1, g2⟩ := run_findKey hE hkd hlen h6 hfa w
            rcases g2 with ⟨_, rfl⟩ | ⟨_, _, _, g2, _⟩
            · have hm := hR.setObj hE h2 honly (o' := .map (es ++ [(k', v)])) (x := .map (ces.push { key := k', val := v', born := clock }) (clock + 1)) (by simp) (fun es' he' => by
                cases he'
                refine ⟨_, _, by simp [Array.getElem?_setIfInBounds, (hR.lo _ _ _ h2).2]; exact ⟨rfl, rfl⟩, by simp [h5], fun n y hy => ?_⟩
                by_cases hn : n < es.length
                · rw [List.getElem?_append_left hn] at hy
                  have hnl : n < ces.size := by rw [h5]; exact hn
                  obtain ⟨c1, c2⟩ := h6 n y ces[n] hy (by simp [hnl])
                  exact ⟨ces[n], by rw [Array.getElem?_push, if_neg (by omega)]; simp [hnl], c1, h7 n y hy, c2⟩
                · rw [List.getElem?_append_right (by omega)] at hy
                  have hn0 : n = es.length := by
                    have := (List.getElem?_eq_some_iff.1 hy).1
                    simp at this; omega
                  subst hn0
                  simp at hy
                  subst hy
                  exact ⟨{ key := k', val := v', born := clock }, by rw [Array.getElem?_push, if_pos h5.symm], rfl, hfl, hv⟩) (by simp)
              refine ⟨_, ?_, hm.1, hm.2, fun hf => hf.put _ (by simp [hg]), rfl⟩
              simp [Instr.mapUpdate, run_desc hE hd, hget, hc, g1, hset]
            · simp at g2
          next => simp at h
      next => simp at h
    next => simp at h
  next => simp at h

end

end Go.Ai
