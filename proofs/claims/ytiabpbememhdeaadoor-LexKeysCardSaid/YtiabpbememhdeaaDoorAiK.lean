/-
  THE SHORT RUN, 11: operations that make something new.
-/
import Derived.Test.YtiabpbememhdeaaDoorAiJ
set_option linter.unusedSimpArgs false
set_option linter.unusedVariables false
set_option linter.unusedSectionVars false
namespace Go.Ai
open Go

def allocOp (E : Env) : Op → Bool
  | .alloc _ | .box .. | .buildSlice .. | .makeMap _ none | .makeSlice .. | .range .. => true
  | .convert _ dst _ => toSlice E dst
  | _ => false

section
variable {E : Env} {B : Nat} {w₀ : World} (hE : E.Ok B w₀)

theorem R.new_row {φ : Phi} {g : Nat → Option AObj} {w w' : World} (h : R B w₀ φ g w) {f : Nat} (hf : ∀ e, φ f e = none) {l l' : List Value} {n m cap : Nat} {c : Array Value} {t : TypeId} {fr : Nat × Nat}
    (hv : VL B φ l l') (hn : 0 < n) (hl : l.length = m * n) (hc : c.size = cap * n) (hm : m ≤ cap) (hget : ∀ i, i < l'.length → c[i]? = l'[i]?) (hfr : ∀ o, o < c.size → ¬ (fr.1 ≤ o ∧ o < fr.2))
    (hw : w'.heap = w.heap.push (.cells c t fr)) (ho : w'.os = w.os) (ht : w'.tape = w.tape) (hp : w'.output = w.output) :
    Step f φ w (withNew φ f 0 ⟨w.heap.size, 0, cap, n⟩) w' ∧ R B w₀ (withNew φ f 0 ⟨w.heap.size, 0, cap, n⟩) (fun x => if x = f then some (.row l n 0 0 []) else g x) w' ∧
      V B (withNew φ f 0 ⟨w.heap.size, 0, cap, n⟩) (.pointer (some ⟨f, 0, some 0⟩)) (.pointer (some ⟨w.heap.size, 0, none⟩)) ∧
      V B (withNew φ f 0 ⟨w.heap.size, 0, cap, n⟩) (.slice (some ⟨f, 0, some 0⟩) m unc) (.slice (some ⟨w.heap.size, 0, none⟩) m cap) := by
  have hext := withNew_ext (k := ⟨w.heap.size, 0, cap, n⟩) (hf 0)
  have hself : withNew φ f 0 ⟨w.heap.size, 0, cap, n⟩ f 0 = some ⟨w.heap.size, 0, cap, n⟩ := by simp [withNew]
  have hpush := h.push hf (.row l n 0 0 []) ⟨w.heap.size, 0, cap, n⟩ rfl (w' := w') ⟨_, hw⟩ ho ht hp (fun cells esz ep lw hist he => by
      cases he
      refine ⟨rfl, hn, rfl, c, t, fr, by simp [hw], hc, ?_, hfr, fun o x _ ho hx => ?_⟩
      · rw [hc, hl]; simp; exact Nat.mul_le_mul_right _ hm
      · have hlt : o < l'.length := by rw [← hv.1]; exact ho
        refine ⟨l'[o], ?_, (hv.2 _ _ _ hx (List.getElem?_eq_getElem hlt)).mono hext⟩
        show c[o]? = _
        rw [hget o hlt, List.getElem?_eq_getElem hlt]) (by simp) (by simp)
  refine ⟨hpush.1, hpush.2, .pnew f 0 0 _ hself (Nat.le_refl _), ?_⟩
  have := V.snew (B := B) f 0 0 m _ hself (Nat.le_refl _) hn (by simp; exact hm) (by simp)
  simpa using this

theorem aZeros_length (z : List Value) (n : Nat) : (aZeros z n).length = n * z.length := by
  unfold aZeros
  induction n with
  | zero => simp
  | succ n ih => simp [List.replicate_succ, ih, Nat.succ_mul, Nat.add_comm]

theorem aZeros_get (z : List Value) (n i : Nat) (h : i < n * z.length) : (aZeros z n)[i]? = z[i % z.length]? := by
  unfold aZeros
  induction n generalizing i with
  | zero => omega
  | succ n ih =>
    simp only [List.replicate_succ, List.flatten_cons]
    by_cases hi : i < z.length
    · rw [List.getElem?_append_left hi, Nat.mod_eq_of_lt hi]
    · rw [List.getElem?_append_right (by omega), ih _ (by rw [Nat.succ_mul] at h; omega)]
      congr 1
      rw [Nat.mod_eq_sub_mod (by omega : i ≥ z.length)]

theorem zeros_row (z : Array Value) (n : Nat) (hz : 0 < z.size) : ((Array.range (n * z.size)).map fun i => z[i % z.size]!) = (aZeros z.toList n).toArray := by
  apply Array.ext_getElem?
  intro i
  by_cases hi : i < n * z.size
  · simp only [Array.getElem?_map, Array.getElem?_range, hi, if_true, Option.map_some, List.getElem?_toArray]
    rw [aZeros_get _ _ _ (by simpa using hi)]
    have hm : i % z.size < z.size := Nat.mod_lt _ hz
    simp [hm]
  · have h1 : n * z.size ≤ i := by omega
    rw [Array.getElem?_eq_none (by simp; exact h1), Array.getElem?_eq_none (by simp [aZeros_length]; exact h1)]

theorem VL.refl_of_flat' {φ : Phi} {l : List Value} (h : flatL l = true) : VL B φ l l :=
  ⟨rfl, fun i x y hx hy => by rw [hx] at hy; cases hy; exact VL.refl_of_flat B φ l h i x hx⟩

theorem flatL_aZeros {z : List Value} (h : flatL z = true) (n : Nat) : flatL (aZeros z n) = true := by
  rw [flatL_iff] at h ⊢
  intro i x hx
  have hi : i < n * z.length := by rw [← aZeros_length]; exact (List.getElem?_eq_some_iff.1 hx).1
  rw [aZeros_get _ _ _ hi] at hx
  exact h _ _ hx

theorem flat_cells {v : Value} (h : flat v = true) : flatL v.cells.toList = true := by
  rw [flatL_iff]
  intro i x hx
  cases v with
  | agg cs => simp only [flat] at h; exact (flatA_iff _).1 h i x (by simpa [Value.cells] using hx)
  | _ =>
    simp only [Value.cells, Array.toList, List.getElem?_cons] at hx
    cases i <;> simp at hx
    subst hx
    exact h

theorem foldl_size (off : Nat) : ∀ (l : List Value) (k : Nat) (xs : Array Value), ((l.zipIdx k).foldl (fun cs (p : Value × Nat) => cs.setIfInBounds (off + p.2) p.1) xs).size = xs.size := by
  intro l
  induction l with
  | nil => intro k xs; simp
  | cons x l ih => intro k xs; simp only [List.zipIdx_cons, List.foldl_cons]; rw [ih]; simp

theorem fill_size (place : Nat → Option (Nat × Nat)) : ∀ (ps : List (Nat × Value)) (xs r : Array Value), Instr.fill place xs ps = some r → r.size = xs.size := by
  intro ps
  induction ps with
  | nil => intro xs r h; simp only [Instr.fill, Option.some.injEq] at h; rw [h]
  | cons p ps ih =>
    intro xs r h
    obtain ⟨i, v⟩ := p
    simp only [Instr.fill] at h
    split at h
    · simp at h
    · split at h
      · simp at h
      · rw [ih _ _ h, ← Array.foldl_toList, Array.toList_zipIdx]
        exact foldl_size _ _ _ _

theorem wrap_small {n : Int} (h0 : 0 ≤ n) (h1 : n < 2 ^ 62) : IntKind.i64.wrap n = n := by
  have hm : n % (2 ^ IntKind.i64.bits : Int) = n := Int.emod_eq_of_lt h0 (by show n < 2 ^ 64; omega)
  unfold IntKind.wrap
  simp only [hm]
  rw [if_neg]
  intro h
  simp [IntKind.signed, IntKind.bits] at h
  omega

/-- What a making operation comes to. -/
def Makes (E : Env) (B : Nat) (w₀ : World) (s : St) (v : Value) (s' : St) (m : (Operand → Value) → Sem Next) (ρ : Operand → Value) (ops : Array Operand) : Prop :=
  ∃ obj, s' = s.push obj ∧ ∀ (g : Nat → Option AObj) (φ : Phi) (w : World) (ρ' : Operand → Value), R B w₀ φ g w → (∀ e, φ s.next e = none) → (∀ x ∈ ops, V B φ (ρ x) (ρ' x)) →
    ∃ k v' w', (m ρ').run E.P w = .ok (.value v') w' ∧ Step s.next φ w (withNew φ s.next 0 k) w' ∧ R B w₀ (withNew φ s.next 0 k) (fun x => if x = s.next then some obj else g x) w' ∧
      V B (withNew φ s.next 0 k) v v'

include hE

theorem run_newRow (w : World) (t : TypeId) (c : Array Value) : (newRow t c).run E.P w = .ok ⟨w.heap.size, 0, none⟩ { w with heap := w.heap.push (.cells c t) } := rfl

theorem aVal_alloc {ρ : Operand → Value} {o : Oper} {s s' : St} {v : Value} (ha : allocOp E o.op = true) (h : aVal E ρ o s = some (v, s')) :
    Makes E B w₀ s v s' (fun ρ' => execOp ρ' o) ρ o.op.operands := by
  have wrap : ∀ {m : Sem Value} {v' : Value} {w w' : World}, m.run E.P w = .ok v' w' → (do pure (.value (← m)) : Sem Next).run E.P w = .ok (.value v') w' := by
    intro m v' w w' hm; rw [Sem.run_bind, hm]; rfl
  obtain ⟨dst, op, ty, pos, after, guard⟩ := o
  unfold aVal at h
  unfold execOp
  cases op <;> simp only [allocOp, Bool.false_eq_true] at ha <;> simp only [Op.operands] <;> simp only at h ⊢
  case alloc t =>
    split at h
    next z n hz hn =>
      split at h
      next hc =>
        obtain ⟨hc1, hc2⟩ := hc
        simp only [mkRow, Option.some.injEq, Prod.mk.injEq] at h
        obtain ⟨rfl, rfl⟩ := h
        refine ⟨_, rfl, fun g φ w ρ' hR hg hρ => ?_⟩
        have hfl := flat_cells (hE.zero _ _ hz).1
        obtain ⟨h1, h2, h3, h4⟩ := hR.new_row hg (l := z.cells.toList) (l' := z.cells.toList) (n := n) (m := 1) (cap := 1) (c := z.cells) (t := t) (fr := (0, 0)) (w' := { w with heap := w.heap.push (.cells z.cells t) })
          (VL.refl_of_flat' hfl) hc2 (by simp [hc1]) (by simp [hc1]) (Nat.le_refl _) (fun i _ => by simp) (by simp) rfl rfl rfl rfl
        refine ⟨_, .pointer (some ⟨w.heap.size, 0, none⟩), _, wrap ?_, h1, h2, h3⟩
        simp [Instr.alloc, run_zero hE hz, newVar, newRow]
      next => simp at h
    next => simp at h
  case box t x =>
    split at h
    next hc =>
      simp only [mkRow, Option.some.injEq, Prod.mk.injEq] at h
      obtain ⟨rfl, rfl⟩ := h
      refine ⟨_, rfl, fun g φ w ρ' hR hg hρ => ?_⟩
      have hv := (hρ x (by simp)).cells
      obtain ⟨h1, h2, h3, h4⟩ := hR.new_row hg (l := (ρ x).cells.toList) (l' := (ρ' x).cells.toList) (n := (ρ x).cells.size) (m := 1) (cap := 1) (c := (ρ' x).cells) (t := t) (fr := (0, 0)) (w' := { w with heap := w.heap.push (.cells (ρ' x).cells t) })
        hv.toList hc (by simp) (by simp [hv.1]) (Nat.le_refl _) (fun i _ => by simp) (by simp) rfl rfl rfl rfl
      exact ⟨_, .pointer (some ⟨w.heap.size, 0, none⟩), _, wrap rfl, h1, h2, h3⟩
    next => simp at h
  case buildSlice t len parts =>
    unfold aBuildSlice at h
    split at h
    next elem hd =>
      split at h
      next n z hn hz =>
        split at h
        next hc =>
          obtain ⟨hc1, hc2, hc3⟩ := hc
          split at h
          next cells hf =>
            simp only [mkRow, Option.some.injEq, Prod.mk.injEq] at h
            obtain ⟨rfl, rfl⟩ := h
            refine ⟨_, rfl, fun g φ w ρ' hR hg hρ => ?_⟩
            have hfl := flatL_aZeros (flat_cells (hE.zero _ _ hz).1) len
            have hz0 : VA B φ (aZeros z.cells.toList len).toArray (aZeros z.cells.toList len).toArray := (VL.refl_of_flat' hfl).toArray
            obtain ⟨r', h1, h2⟩ := fill_rel (B := B) (φ := φ) (fun i => some (i * n, n)) (parts.map fun (i, x) => (i, ρ x)).toList (parts.map fun (i, x) => (i, ρ' x)).toList _ _ cells (by simp)
              (fun i p p' hp hp' => by
                simp only [Array.toList_map, List.getElem?_map, Option.map_eq_some_iff] at hp hp'
                obtain ⟨q, hq1, rfl⟩ := hp
                obtain ⟨q', hq2, rfl⟩ := hp'
                rw [hq1] at hq2
                cases hq2
                refine ⟨rfl, hρ q.2 ?_⟩
                simp only [List.mem_toArray, List.mem_map]
                exact ⟨q, List.mem_of_getElem? hq1, rfl⟩) hz0 hf
            have hsz : cells.size = len * n := by
              rw [fill_size _ _ _ _ hf]
              simp [aZeros_length, hc3]
            obtain ⟨g1, g2, g3, g4⟩ := hR.new_row hg (l := cells.toList) (l' := r'.toList) (n := n) (m := len) (cap := len) (c := r') (t := elem) (fr := (0, 0)) (w' := { w with heap := w.heap.push (.cells r' elem) })
              h2.toList hc1 (by simpa using hsz) (by rw [← h2.1]; exact hsz) (Nat.le_refl _) (fun i _ => by simp) (by simp) rfl rfl rfl rfl
            refine ⟨_, .slice (some ⟨w.heap.size, 0, none⟩) len len, _, wrap ?_, g1, g2, g4⟩
            have hle : ¬ (len * n > 2 ^ 24) := by omega
            have hrow : (Array.range (len * n)).map (fun i => (if len * n = 0 then #[] else z.cells)[i % (if len * n = 0 then #[] else z.cells).size]!) = (aZeros z.cells.toList len).toArray := by
              by_cases h0 : len * n = 0
              · have hl0 : len = 0 := by rcases Nat.mul_eq_zero.1 h0 with h | h; exact h; omega
                subst hl0
                simp [aZeros]
              · simp only [if_neg h0]
                have := zeros_row z.cells len (by omega)
                rw [hc3] at this
                rw [hc3]
                exact this
            unfold Instr.buildSlice
            by_cases h0 : len * n = 0
            · simp only [h0, if_true] at hrow
              simp only [Sem.run_bind, run_desc hE hd, run_size hE hn, Result.andThen_ok, Sem.run_ite, if_neg hle, h0, if_true, Sem.run_pure, hrow, h1]
              simp [newRow]
            · simp only [if_neg h0] at hrow
              simp only [Sem.run_bind, run_desc hE hd, run_size hE hn, run_zero hE hz, Result.andThen_ok, Sem.run_ite, if_neg hle, if_neg h0, Sem.run_pure, hrow, h1]
              simp [newRow]
          next => simp at h
        next => simp at h
      next => simp at h
    next => simp at h
  case makeMap t r =>
    cases r with
    | some r => simp at ha
    | none =>
      simp only [Option.some.injEq, Prod.mk.injEq] at h
      obtain ⟨rfl, rfl⟩ := h
      refine ⟨_, rfl, fun g φ w ρ' hR hg hρ => ?_⟩
      have hpush := hR.push hg (.map []) ⟨w.heap.size, 0, 0, 0⟩ rfl (w' := { w with heap := w.heap.push (.map #[] 0) }) ⟨_, rfl⟩ rfl rfl rfl (by simp) (fun es he => by
        cases he
        exact ⟨#[], 0, by simp, rfl, by simp⟩) (by simp)
      exact ⟨_, .map (some w.heap.size), _, wrap rfl, hpush.1, hpush.2, .mnew s.next ⟨w.heap.size, 0, 0, 0⟩ (by simp [withNew])⟩
  case makeSlice t l c =>
    unfold aMakeSlice at h
    split at h
    next elem li ci hd hl hc =>
      split at h
      next n b z hn hb hz =>
        split at h
        next hcond =>
          obtain ⟨c1, c2, c3, c4, c5, c6⟩ := hcond
          simp only [mkRow, Option.some.injEq, Prod.mk.injEq] at h
          obtain ⟨rfl, rfl⟩ := h
          refine ⟨_, rfl, fun g φ w ρ' hR hg hρ => ?_⟩
          obtain ⟨kl, hl'⟩ := aInt_some (hρ l (by simp)) hl
          obtain ⟨kc, hc'⟩ := aInt_some (hρ c (by simp)) hc
          obtain ⟨i, hi, hib⟩ := run_bytes hE hb w
          have hfl := flatL_aZeros (flat_cells (hE.zero _ _ hz).1) ci.toNat
          obtain ⟨g1, g2, g3, g4⟩ := hR.new_row hg (l := aZeros z.cells.toList ci.toNat) (l' := aZeros z.cells.toList ci.toNat) (n := n) (m := ci.toNat) (cap := ci.toNat) (c := (aZeros z.cells.toList ci.toNat).toArray) (t := elem) (fr := (0, 0))
            (w' := { w with heap := w.heap.push (.cells (aZeros z.cells.toList ci.toNat).toArray elem) }) (VL.refl_of_flat' hfl) c1 (by simp [aZeros_length, c2]) (by simp [aZeros_length, c2]) (Nat.le_refl _) (fun i _ => by simp) (by simp) rfl rfl rfl rfl
          have g5 : V B (withNew φ s.next 0 ⟨w.heap.size, 0, ci.toNat, n⟩) (.slice (some ⟨s.next, 0, some 0⟩) li.toNat unc) (.slice (some ⟨w.heap.size, 0, none⟩) li.toNat ci.toNat) := by
            have := V.snew (B := B) (φ := withNew φ s.next 0 ⟨w.heap.size, 0, ci.toNat, n⟩) s.next 0 0 li.toNat ⟨w.heap.size, 0, ci.toNat, n⟩ (by simp [withNew]) (Nat.le_refl _) c1 (by simp; omega) (by simp)
            simpa using this
          refine ⟨_, .slice (some ⟨w.heap.size, 0, none⟩) li.toNat ci.toNat, _, wrap ?_, g1, g2, g5⟩
          have w1 : IntKind.i64.wrap li = li := wrap_small c3 (by omega)
          have w2 : IntKind.i64.wrap ci = ci := wrap_small (by omega) c5
          rw [hl', hc']
          unfold Instr.makeSlice
          have hbig : ∀ x : Int, 0 ≤ x → x ≤ ci → (decide (x < 0) || decide ((b : Int) * x > 2 ^ 48)) = false := by
            intro x hx0 hxc
            have h1 : (b : Int) * x ≤ b * ci := Int.mul_le_mul_of_nonneg_left hxc (by omega)
            have h2 : (b : Int) * ci ≤ 2 ^ 48 := by
              have : (ci.toNat : Int) = ci := Int.toNat_of_nonneg (by omega)
              rw [← this]
              exact_mod_cast c6
            simp only [Bool.or_eq_false_iff, decide_eq_false_iff_not]
            omega
          have hrow : ((Array.range (ci.toNat * n)).map fun i => (if ci.toNat * n = 0 then #[] else z.cells)[i % (if ci.toNat * n = 0 then #[] else z.cells).size]!) = (aZeros z.cells.toList ci.toNat).toArray := by
            by_cases h0 : ci.toNat * n = 0
            · have hl0 : ci.toNat = 0 := by rcases Nat.mul_eq_zero.1 h0 with h | h; exact h; omega
              rw [hl0]
              simp [aZeros]
            · simp only [if_neg h0]
              have := zeros_row z.cells ci.toNat (by omega)
              rw [c2] at this
              rw [c2]
              exact this
          simp only [Sem.run_bind, run_desc hE hd, Result.andThen_ok, asInt, asIntOf, Sem.run_pure, hi, hib, w1, w2, hbig ci (by omega) (Int.le_refl _)]
          have hneg : ¬ (li < 0) := by omega
          have hgt : ¬ (li > ci) := by omega
          simp only [hneg, hgt, decide_false, Bool.or_self, Bool.false_or, Bool.false_eq_true, if_false, Sem.run_bind, run_askRoom, Result.andThen_ok, run_size hE hn]
          by_cases h0 : ci.toNat * n = 0
          · simp only [h0, if_true] at hrow
            simp only [h0, if_true, Sem.run_bind, Sem.run_pure, Result.andThen_ok, hrow]
            simp [newRow]
          · simp only [if_neg h0] at hrow
            simp only [if_neg h0, Sem.run_bind, run_zero hE hz, Sem.run_pure, Result.andThen_ok, hrow]
            simp [newRow]
        next => simp at h
      next => simp at h
    next => simp at h
  case range t x =>
    split at h
    next b hx hd =>
      simp only [Option.some.injEq, Prod.mk.injEq] at h
      obtain ⟨rfl, rfl⟩ := h
      refine ⟨_, rfl, fun g φ w ρ' hR hg hρ => ?_⟩
      have hv := hρ x (by simp)
      rw [hx] at hv
      have hpush := hR.push hg (.iter b 0) ⟨w.heap.size, 0, 0, 0⟩ rfl (w' := { w with heap := w.heap.push (.stringIter b 0) }) ⟨_, rfl⟩ rfl rfl rfl (by simp) (by simp) (fun s p he => by
        cases he
        simp)
      refine ⟨_, .pointer (some ⟨w.heap.size, 0, none⟩), _, wrap ?_, hpush.1, hpush.2, .pnew s.next 0 0 ⟨w.heap.size, 0, 0, 0⟩ (by simp [withNew]) (Nat.le_refl _)⟩
      simp [Instr.range, run_desc hE hd, hv.string_left]
    next => simp at h
  case convert src dst x =>
    unfold aConvert at h
    split at h
    next a n c =>
      split at h
      next e hs hd => simp [toSlice, hd] at ha
      next => simp at h
    next b hx =>
      split at h
      next hs hd => simp [toSlice, hd] at ha
      next e hs hd =>
        split at h
        next he =>
          simp only [mkRow, Option.some.injEq, Prod.mk.injEq] at h
          obtain ⟨rfl, rfl⟩ := h
          refine ⟨_, rfl, fun g φ w ρ' hR hg hρ => ?_⟩
          have hv := hρ x (by simp)
          rw [hx] at hv
          obtain ⟨cap, hcap, hcut⟩ : ∃ cap, b.size ≤ cap ∧ (choose (.appendCap b.size 0 e)).run E.P w = .ok cap { w with drawn := w.drawn + 1 } :=
            ⟨b.size + w.tape w.drawn (.appendCap b.size 0 e) % (2 ^ 63 - b.size), Nat.le_add_right _ _, by rw [run_choose]; rfl⟩
          generalize hel : (b.data.map fun (x : UInt8) => Value.int .u8 (x.toNat : Int)) = els
          have hels : els.size = b.size := by rw [← hel]; simp
          have hbl : (b.data.toList.map fun (x : UInt8) => Value.int .u8 (x.toNat : Int)) = els.toList := by rw [← hel]; simp
          have hcsz : (els ++ Array.replicate (cap - b.size) (Value.int .u8 0)).size = cap := by simp; omega
          have hfl : flatL els.toList = true := by
            rw [flatL_iff]
            intro i y hy
            rw [← hel] at hy
            simp only [Array.toList_map, List.getElem?_map, Option.map_eq_some_iff] at hy
            obtain ⟨q, _, rfl⟩ := hy
            rfl
          rw [hbl]
          obtain ⟨g1, g2, g3, g4⟩ := hR.new_row hg (l := els.toList) (l' := els.toList) (n := 1) (m := b.size) (cap := cap) (c := els ++ Array.replicate (cap - b.size) (.int .u8 0)) (t := e) (fr := (cap, cap + 1))
            (w' := { w with drawn := w.drawn + 1, heap := w.heap.push (.cells (els ++ Array.replicate (cap - b.size) (.int .u8 0)) e (cap, cap + 1)) })
            (VL.refl_of_flat' hfl) (by omega) (by simp [hels]) (by rw [hcsz]; omega) hcap (fun i hi => by simp at hi; rw [Array.getElem?_append_left hi]; simp) (by rw [hcsz]; intro o ho; simp; omega) rfl rfl rfl rfl
          refine ⟨_, .slice (some ⟨w.heap.size, 0, none⟩) b.size cap, _, wrap ?_, g1, g2, g4⟩
          rw [hv.string_left]
          simp only [convert, Sem.run_bind, run_desc hE hs, run_desc hE hd, run_desc hE he, Result.andThen_ok, Conv.stringToBytes, hcut, hel, newRow, run_newObj, markStringish, run_shape]
          have hsh : World.shape? { w with drawn := w.drawn + 1, heap := w.heap.push (.cells (els ++ Array.replicate (cap - b.size) (.int .u8 0)) e) } w.heap.size = some (e, cap) := by
            simp only [World.shape?, Array.getElem?_push_size, hcsz]
          simp only [Sem.run_pure, Result.andThen_ok, hsh, run_freeze]
          congr 1
          unfold World.freeze
          rw [if_neg (by omega)]
          congr 1
          apply Array.ext_getElem?
          intro i
          simp only [Array.getElem?_modify, Array.getElem?_push]
          by_cases hi : i = w.heap.size
          · subst hi; simp
          · have : ¬ w.heap.size = i := fun h => hi h.symm
            simp [hi, this]
        next => simp at h
      next => simp at h
    next l c hx =>
      rw [if_pos ha] at h
      simp at h
    next k n hx =>
      rw [if_pos ha] at h
      simp at h
    next => simp at h
    next => simp at h

end

end Go.Ai
