/-
  THE FORKED RUN, 5: what the kernel computes of a piece of code, told; calls that are run to their end.
-/
import Derived.Test.YtiabpbememhdeaaDoorAjD
set_option linter.unusedSimpArgs false
set_option linter.unusedVariables false
set_option linter.unusedSectionVars false
namespace Go.Ai
open Go RowKit

def isNormal : X → Bool
  | .normal => true
  | _ => false

def isExit (id : Nat) : X → Bool
  | .exit i => i == id
  | _ => false

def isRet : X → Bool
  | .ret => true
  | _ => false

/-- A gaze at what a piece of code came to: how it ended, some temporaries, some of memory. -/
def gaze (p : X → Bool) (is fs : List Nat) (r : X × AAct × St) : Bool × Bool × Nat × List (Option Value) × List (Option AObj) :=
  (p r.1, r.2.1.defers.isEmpty, r.2.1.tmps.length, is.map (r.2.1.tmps[·]?), fs.map r.2.2.get)

/-- Objects, told anew. -/
def RenL (τ : Names) : Names → List (Option AObj) → List AObj → Prop
  | [], [], [] => True
  | (f, e) :: t, x :: xs, o :: l => ObjRen τ e x o ∧ RenL τ t xs l
  | _, _, _ => False

theorem RenL.all {τ : Names} {s : St} : ∀ {t : Names} {xs : List (Option AObj)} {l : List AObj}, RenL τ t xs l → (t.map (·.1)).map s.get = xs → AllRen τ s t l
  | [], [], [], _, _ => trivial
  | (f, e) :: t, x :: xs, o :: l, h, hx => by
      simp only [List.map_cons, List.cons.injEq] at hx
      obtain ⟨rfl, hx⟩ := hx
      exact ⟨h.1, RenL.all h.2 hx⟩
  | [], _ :: _, _, h, _ => by simp [RenL] at h
  | [], [], _ :: _, h, _ => by simp [RenL] at h
  | _ :: _, [], _, h, _ => by simp [RenL] at h
  | _ :: _, _ :: _, [], h, _ => by simp [RenL] at h

/-- Temporaries, told anew. -/
def LiveL (τ : Names) : List (Nat × Value) → List (Option Value) → Prop
  | [], [] => True
  | y :: live, v :: vs => v = some (oldV τ y.2) ∧ fitsV τ y.2 = true ∧ LiveL τ live vs
  | _, _ => False

theorem LiveL.all {τ : Names} {tmps : List Value} : ∀ {live : List (Nat × Value)} {vs : List (Option Value)}, LiveL τ live vs → (live.map (·.1)).map (tmps[·]?) = vs → ∀ y ∈ live, tmps[y.1]? = some (oldV τ y.2) ∧ fitsV τ y.2 = true
  | [], [], _, _ => by simp
  | y :: live, v :: vs, h, hx => by
      simp only [List.map_cons, List.cons.injEq] at hx
      obtain ⟨hx1, hx⟩ := hx
      obtain ⟨h1, h2, h3⟩ := h
      intro z hz
      rcases List.mem_cons.1 hz with rfl | hz
      · exact ⟨hx1.trans h1, h2⟩
      · exact LiveL.all h3 hx z hz
  | [], _ :: _, h, _ => by simp [LiveL] at h
  | _ :: _, [], h, _ => by simp [LiveL] at h

theorem Tells.of_gaze {x : X} {a' : AAct} {s' : St} {n' : Nat} {vs : List (Option Value)} {os : List (Option AObj)} (τ : Names) (live' : List (Nat × Value)) (l' : List AObj)
    (h : gaze isNormal (live'.map (·.1)) (τ.map (·.1)) (x, a', s') = (true, true, n', vs, os)) (hv : LiveL τ live' vs) (ho : RenL τ τ os l') (hn : (τ.map (·.1)).Nodup) : Tells x a' s' n' live' l' := by
  simp only [gaze, Prod.mk.injEq] at h
  obtain ⟨h1, h2, h3, h4, h5⟩ := h
  refine ⟨?_, by simpa using h2, h3, τ, ho.all h5, hn, fun y hy _ => hv.all h4 y hy⟩
  cases x <;> simp only [isNormal, Bool.false_eq_true] at h1
  rfl

theorem Tells.of_gaze_exit {id : Nat} {x : X} {a' : AAct} {s' : St} {n' : Nat} {vs : List (Option Value)} {os : List (Option AObj)} (τ : Names) (live' : List (Nat × Value)) (l' : List AObj)
    (h : gaze (isExit id) (live'.map (·.1)) (τ.map (·.1)) (x, a', s') = (true, true, n', vs, os)) (hv : LiveL τ live' vs) (ho : RenL τ τ os l') (hn : (τ.map (·.1)).Nodup) : x = .exit id ∧ Tells .normal a' s' n' live' l' := by
  simp only [gaze, Prod.mk.injEq] at h
  obtain ⟨h1, h2, h3, h4, h5⟩ := h
  refine ⟨?_, rfl, by simpa using h2, h3, τ, ho.all h5, hn, fun y hy _ => hv.all h4 y hy⟩
  cases x <;> simp only [isExit, Bool.false_eq_true, beq_iff_eq] at h1
  rw [h1]

theorem oks_nil : ∀ x ∈ ([] : List Ob), x.ok := by simp
theorem oks_cons {x : Ob} {l : List Ob} (h : x.ok) (hl : ∀ y ∈ l, y.ok) : ∀ y ∈ x :: l, y.ok := by
  intro y hy
  rcases List.mem_cons.1 hy with rfl | hy
  · exact h
  · exact hl y hy
theorem oks_append {l m : List Ob} (hl : ∀ y ∈ l, y.ok) (hm : ∀ y ∈ m, y.ok) : ∀ y ∈ l ++ m, y.ok := by
  intro y hy
  rcases List.mem_append.1 hy with hy | hy
  · exact hl y hy
  · exact hm y hy
theorem oks_replicate {n : Nat} {x : Ob} (h : x.ok) : ∀ y ∈ List.replicate n x, y.ok := by
  intro y hy
  rw [(List.mem_replicate.1 hy).2]
  exact h

/-- Whole numbers in their bounds. -/
theorem wrap_i64 {n : Int} (h1 : -(2 ^ 63) ≤ n) (h2 : n < 2 ^ 63) : IntKind.i64.wrap n = n := by
  unfold IntKind.wrap
  simp only [IntKind.signed, IntKind.bits, Bool.true_and]
  split
  next h => have := of_decide_eq_true h; omega
  next h => simp only [decide_eq_true_eq, ge_iff_le, Int.not_le] at h; omega

theorem wrap_u64 {n : Int} (h1 : 0 ≤ n) (h2 : n < 2 ^ 64) : IntKind.u64.wrap n = n := by
  unfold IntKind.wrap
  simp only [IntKind.signed, IntKind.bits, Bool.false_and]
  split
  next h => simp at h
  next h => omega

section
variable {E : Env} {B : Nat} {w₀ : World} (hE : E.Fine B w₀)
include hE

/-- A loop's round, or its end: from what is told to what is told. -/
theorem Near.round {N m n : Nat} {c : Code} (hc : codeOk E.P c = true) {live : List (Nat × Value)} {l : List AObj} {ca : Act} {w : World} {Q : Exit → Act → World → Prop} (h : Near B w₀ n live l ca w)
    (hgo : ∀ rest, (∀ i, dull (rest i) = true) → ∃ x a' s', evalCode E (callN E N m) N c { tmps := tmpsOf n live rest, defers := [] } (memOf l) = some (x, a', s') ∧
      ((∃ n' live' l', Tells x a' s' n' live' l' ∧ ∀ ca' w', Near B w₀ n' live' l' ca' w' → Q .normal ca' w') ∨
       (∃ id n' live' l', x = .exit id ∧ Tells .normal a' s' n' live' l' ∧ ∀ ca' w', Near B w₀ n' live' l' ca' w' → Q (.exit id) ca' w'))) :
    c.wp E.P Q ca w := by
  refine Near.code (N := N) (m := m) hE hc h fun rest hrest => ?_
  obtain ⟨x, a', s', h1, h2⟩ := hgo rest hrest
  rcases h2 with ⟨n', live', l', ⟨rfl, g3, g4, τ, g5, g6, g7⟩, h3⟩ | ⟨id, n', live', l', rfl, ⟨_, g3, g4, τ, g5, g6, g7⟩, h3⟩
  · refine ⟨_, a', s', h1, by simp, fun ca' w' e φ k1 k2 k3 k4 k5 k6 => ?_⟩
    cases e <;> simp only [XRel] at k6
    exact h3 ca' w' (Near.ren k1 k2 k3 k4 k5 g3 g4 τ live' l' g5 g6 g7)
  · refine ⟨_, a', s', h1, by simp, fun ca' w' e φ k1 k2 k3 k4 k5 k6 => ?_⟩
    cases e <;> simp only [XRel] at k6
    subst k6
    exact h3 ca' w' (Near.ren k1 k2 k3 k4 k5 g3 g4 τ live' l' g5 g6 g7)
end

theorem V.widen {B B' : Nat} {x y : Value} (h : V B (fun _ _ => none) x y) (hB : B ≤ B') (φ : Phi) : V B' φ x y := by
  induction h with
  | bool b => exact .bool b
  | int k n => exact .int k n
  | float k b => exact .float k b
  | complex k a b => exact .complex k a b
  | string s => exact .string s
  | nilFunc => exact .nilFunc
  | nilIface => exact .nilIface
  | pnil => exact .pnil
  | pold a h hs => exact .pold a (Nat.lt_of_lt_of_le h hB) hs
  | pnew f off e k h => simp at h
  | snil l c => exact .snil l c
  | sold a l c h hs => exact .sold a l c (Nat.lt_of_lt_of_le h hB) hs
  | snew f off e l k h => simp at h
  | sfix f off e l c k h => simp at h
  | snone f off e o k h => simp at h
  | mnil => exact .mnil
  | mnew f k h => simp at h
  | cnil => exact .cnil
  | iface t _ ih => exact .iface t ih
  | func fn hs hi hs' hi' ih ih' => exact .func fn hs ih hs' ih'
  | agg hs hi ih => exact .agg hs ih
  | tuple hs hi ih => exact .tuple hs ih

/-- A call without an address in its arguments and its answer, run to its end in an empty memory, is known wherever it stands. -/
theorem calls_of_run {P : Program} {old : Addr → Option Value} {known : FuncId → Option (List Value → Option (Bool × Value))} {B : Nat} {w₀ : World} (hf : funcsOk P = true) (hm : P.follows .mixedOrders = true) (hg : P.globals.size ≤ B) (ho : OldOk B w₀ old)
    (hk : ∀ g F args v, known g = some F → F args = some (true, v) → flatL args = true ∧ flat v = true ∧ ∀ w, (∀ b, b < B → w.heap[b]? = w₀.heap[b]?) → B ≤ w.heap.size → KnownOk P g args v w) {N m : Nat} {g : FuncId} {args : List Value} {v : Value} {s' : St}
    (hfa : flatL args = true) (hfv : flat v = true) (h : callN (envOf P old known) N m g args .empty = some (.ok v, s')) (w : World) (hw : ∀ b, b < B → w.heap[b]? = w₀.heap[b]?) (hs : B ≤ w.heap.size) : (callFunc g args.toArray).run P w = .ok (.enter g args.toArray) w ∧ Calls P g args.toArray w fun e w' => e = .returned v ∧ Grew w w' := by
  have ho' : OldOk w.heap.size w old := fun a x hx => by
    obtain ⟨h1, h2, h3⟩ := ho a x hx
    refine ⟨by omega, ?_, fun φ => ?_⟩
    · rw [← h2]
      exact cell_of_block (hw _ h1)
    · have h4 := h3 (fun _ _ => none)
      exact V.widen h4 hs φ
  have hE : (envOf P old known).Fine w.heap.size w := envOf_fine hf hm (by omega) ho' (fun g F args v h1 h2 => by
    obtain ⟨k1, k2, k3⟩ := hk g F args v h1 h2
    refine ⟨k1, k2, fun w' hw' hs' => k3 w' (fun b hb => ?_) (by omega)⟩
    rw [hw' b (by omega), hw b hb])
  have hc := callN_sim hE N m
  obtain ⟨⟨fn, f1, f2, f3⟩, hcall⟩ := hc g args .empty _ s' h
  refine ⟨run_callFunc hE f1 f2 f3 _ w, ?_⟩
  have hR : R w.heap.size w (fun _ _ => none) St.empty.get w :=
    ⟨fun _ _ _ h => by simp at h, fun _ _ _ h => by simp at h, fun _ _ _ _ _ _ h => by simp at h, fun _ _ _ _ _ _ _ _ _ h => by simp at h, fun _ _ _ _ _ h => by simp at h, fun _ _ _ _ _ _ h => by simp at h,
      fun _ _ => rfl, Nat.le_refl _, fun _ _ _ h => by simp at h⟩
  refine (hcall _ w args hR (memOf_fresh []) (VL.refl_of_flat' hfa)).mono ?_
  rintro e w' ⟨φ', g1, g2, g3, g4, g5⟩
  cases e with
  | returned v' =>
    have := V.flat_right g5 hfv
    subst this
    refine ⟨rfl, fun b hb => g2.old b hb, g2.size, g1.os, g1.tape, g1.output⟩
  | panicked c => exact g5.elim
  | outgrown => exact g5.elim

theorem known_of_run {P : Program} {old : Addr → Option Value} {B : Nat} {w₀ : World} (hf : funcsOk P = true) (hm : P.follows .mixedOrders = true) (hg : P.globals.size ≤ B) (ho : OldOk B w₀ old) {N m : Nat} {g : FuncId} {args : List Value} {v : Value} {s' : St}
    (hfa : flatL args = true) (hfv : flat v = true) (h : callN (envOf P old (fun _ => none)) N m g args .empty = some (.ok v, s')) (w : World) (hw : ∀ b, b < B → w.heap[b]? = w₀.heap[b]?) (hs : B ≤ w.heap.size) : KnownOk P g args v w :=
  .inr (calls_of_run hf hm hg ho (by simp) hfa hfv h w hw hs)

end Go.Ai
