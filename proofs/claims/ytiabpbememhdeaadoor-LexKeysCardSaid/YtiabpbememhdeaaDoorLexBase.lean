/-
  The lexer's seat, 2: its known calls hold, the list of signs from what a row lays.
-/
import Derived.Test.YtiabpbememhdeaaDoorLexByte
set_option linter.unusedVariables false
set_option linter.unusedSimpArgs false
namespace Go.Proofs.YtiabpbememhdeaaDoor
open Go.Ai Go.RowKit

theorem enter19 (s t : ByteArray) (w : World) : (callFunc 19 #[.string s, .string t]).run Tryd.prog w = .ok (.enter 19 #[.string s, .string t]) w := by
  unfold callFunc
  rfl

theorem enter22 (s t : ByteArray) (w : World) : (callFunc 22 #[.string s, .string t]).run Tryd.prog w = .ok (.enter 22 #[.string s, .string t]) w := by
  unfold callFunc
  rfl

theorem knownS_ok {W : World} (hsh : W.ShapedOpen Tryd.prog) (hB : 2 ≤ W.heap.size) (g : FuncId) (F : List Value → Option (Bool × Value)) (args : List Value) (v : Value) (hg : knownF g = some F) (hF : F args = some (true, v)) :
    flatL args = true ∧ flat v = true ∧ ∀ w, (∀ b, b < W.heap.size → w.heap[b]? = W.heap[b]?) → W.heap.size ≤ w.heap.size → KnownOk Tryd.prog g args v w := by
  have fin : ∀ (w : World) (b c : Bool), b = c → ∀ (e : Ending) w', e = .returned (.bool b) ∧ w' = w → e = .returned (.bool c) ∧ Grew w w' := by
    rintro w b _ rfl e w' ⟨rfl, rfl⟩
    exact ⟨rfl, Grew.refl _⟩
  unfold knownF at hg
  split at hg
  next hgg =>
    subst hgg
    cases hg
    match args, hF with
    | [.string s, .string t], hF =>
      simp only [Option.some.injEq, Prod.mk.injEq] at hF
      obtain ⟨hc, rfl⟩ := hF
      refine ⟨rfl, rfl, fun w hw hs => .inr ⟨enter19 s t w, ?_⟩⟩
      rw [Bool.or_eq_true, decide_eq_true_eq, decide_eq_true_eq] at hc
      rcases hc with hc | hc
      · obtain ⟨d⟩ := t
        obtain ⟨l⟩ := d
        match l, hc with
        | [c], _ =>
          refine (Tryd.strings_Contains_one s c w).mono (fun e w' h => fin w _ _ ?_ e w' h)
          unfold Lib.contains
          rw [Lib.index_one]
      · obtain ⟨m, hm⟩ := Tryd.laysM144.s1_3 W hsh
        refine (Tryd.strings_Contains s t m w hc ?_).mono (fun e w' h => fin w _ _ rfl e w' h)
        rw [← hm]
        exact cell_of_block (hw 1 (by omega))
  next =>
    split at hg
    next hgg =>
      subst hgg
      cases hg
      match args, hF with
      | [.string s, .string t], hF =>
        simp only [Option.some.injEq, Prod.mk.injEq, true_and] at hF
        subst hF
        exact ⟨rfl, rfl, fun w hw hs => .inr ⟨enter22 s t w, (Tryd.strings_HasPrefix s t w).mono (fun e w' h => fin w _ _ rfl e w' h)⟩⟩
    next => simp at hg

/-! Functions of one byte. -/
def isLetter (c : Int) : Bool := if 97 ≤ c then (if c ≤ 122 then true else c == 95) else if 65 ≤ c then (if c ≤ 90 then true else c == 95) else c == 95
def isDigit (c : Int) : Bool := if 48 ≤ c then decide (c ≤ 57) else false
def isBlank (c : Int) : Bool := c == 32 || c == 9 || c == 10 || c == 13
def notLine (c : Int) : Bool := !(c == 10)
def escapedOf (c : Int) : Int := if c == 110 then 10 else if c == 116 then 9 else if c == 34 then c else if c == 92 then c else 0

theorem digit_ok (c : Int) : Answers EL (4 + 1) 26 [.int .u8 c] (.bool (isDigit c)) := by
  unfold isDigit
  split
  next h => exact digit1 c h
  next h => exact digit2 c h

theorem letter_ok (c : Int) : Answers EL (4 + 1) 24 [.int .u8 c] (.bool (isLetter c)) := by
  unfold isLetter
  split
  next h1 =>
    split
    next h2 => exact letter1 c h1 h2
    next h2 => exact letter2 c h1 h2 (by omega) (by omega)
  next h1 =>
    split
    next h2 =>
      split
      next h3 => exact letter3 c h1 h2 h3
      next h3 => exact letter4 c h1 h2 h3
    next h2 => exact letter5 c h1 h2

theorem blank_ok (c : Int) : Answers EL (4 + 1) 21 [.int .u8 c] (.bool (isBlank c)) := by
  unfold isBlank
  cases h1 : c == 32
  · cases h2 : c == 9
    · cases h3 : c == 10
      · exact blank4 c h1 h2 h3
      · exact blank3 c h1 h2 h3
    · exact blank2 c h1 h2
  · exact blank1 c h1

theorem escaped_ok (c : Int) : Answers EL (4 + 1) 33 [.int .u8 c] (.int .u8 (escapedOf c)) := by
  unfold escapedOf
  cases h1 : c == 110
  · cases h2 : c == 116
    · cases h3 : c == 34
      · cases h4 : c == 92
        · exact escaped5 c h1 h2 h3 h4
        · exact escaped4 c h1 h2 h3 h4
      · exact escaped3 c h1 h2 h3
    · exact escaped2 c h1 h2
  · exact escaped1 c h1

/-- What more is known: 'lives', functions of one byte. -/
def knownB : FuncId → Option (List Value → Option (Bool × Value)) := fun g =>
  if g = 8 then some fun l => match l with
    | [] => some (true, .bool true)
    | _ => none
  else if g = 21 then some fun l => match l with
    | [.int .u8 c] => some (true, .bool (isBlank c))
    | _ => none
  else if g = 23 then some fun l => match l with
    | [.int .u8 c] => some (true, .bool (notLine c))
    | _ => none
  else if g = 24 then some fun l => match l with
    | [.int .u8 c] => some (true, .bool (isLetter c))
    | _ => none
  else if g = 26 then some fun l => match l with
    | [.int .u8 c] => some (true, .bool (isDigit c))
    | _ => none
  else if g = 33 then some fun l => match l with
    | [.int .u8 c] => some (true, .int .u8 (escapedOf c))
    | _ => none
  else none

theorem known_answers {W : World} (hsh : W.ShapedOpen Tryd.prog) (hB : 2 ≤ W.heap.size) (ho : OldOk W.heap.size W oldS) {n : Nat} {g : FuncId} {args : List Value} {v : Value} (hfa : flatL args = true) (hfv : flat v = true) (h : ∃ s', callN EL 1000 n g args .empty = some (.ok v, s')) (w : World) (hw : ∀ b, b < W.heap.size → w.heap[b]? = W.heap[b]?) (hs : W.heap.size ≤ w.heap.size) : KnownOk Tryd.prog g args v w := by
  obtain ⟨s', h⟩ := h
  exact .inr (calls_of_run funcs_ok (by kernel_rfl) (show Tryd.prog.globals.size ≤ W.heap.size by rw [Tryd.globals_size]; exact hB) ho (knownS_ok hsh hB) hfa hfv h w hw hs)

theorem Answers.empty {E : Ai.Env} {n : Nat} {g : FuncId} {args : List Value} {v : Value} (h : Answers E n g args v) : ∃ s', callN E 1000 n g args .empty = some (.ok v, s') := by
  obtain ⟨s', h1, _⟩ := h .empty
  exact ⟨s', h1⟩

theorem knownB_ok {W : World} (hsh : W.ShapedOpen Tryd.prog) (hB : 2 ≤ W.heap.size) (ho : OldOk W.heap.size W oldS) (g : FuncId) (F : List Value → Option (Bool × Value)) (args : List Value) (v : Value) (hg : knownB g = some F) (hF : F args = some (true, v)) :
    flatL args = true ∧ flat v = true ∧ ∀ w, (∀ b, b < W.heap.size → w.heap[b]? = W.heap[b]?) → W.heap.size ≤ w.heap.size → KnownOk Tryd.prog g args v w := by
  unfold knownB at hg
  split at hg
  next hgg =>
    subst hgg; cases hg
    match args, hF with
    | [], hF => cases hF; exact ⟨rfl, rfl, known_answers hsh hB ho rfl rfl lives_run⟩
  split at hg
  next hgg =>
    subst hgg; cases hg
    match args, hF with
    | [.int .u8 c], hF => cases hF; exact ⟨rfl, rfl, known_answers hsh hB ho rfl rfl (blank_ok c).empty⟩
  split at hg
  next hgg =>
    subst hgg; cases hg
    match args, hF with
    | [.int .u8 c], hF => cases hF; exact ⟨rfl, rfl, known_answers hsh hB ho rfl rfl (notLine1 c).empty⟩
  split at hg
  next hgg =>
    subst hgg; cases hg
    match args, hF with
    | [.int .u8 c], hF => cases hF; exact ⟨rfl, rfl, known_answers hsh hB ho rfl rfl (letter_ok c).empty⟩
  split at hg
  next hgg =>
    subst hgg; cases hg
    match args, hF with
    | [.int .u8 c], hF => cases hF; exact ⟨rfl, rfl, known_answers hsh hB ho rfl rfl (digit_ok c).empty⟩
  split at hg
  next hgg =>
    subst hgg; cases hg
    match args, hF with
    | [.int .u8 c], hF => cases hF; exact ⟨rfl, rfl, known_answers hsh hB ho rfl rfl (escaped_ok c).empty⟩
  next => simp at hg

def knownL : FuncId → Option (List Value → Option (Bool × Value)) := fun g => match knownB g with
  | some F => some F
  | none => knownF g

noncomputable def EK : Ai.Env := envOf Tryd.prog oldS knownL

theorem knownL_ok {W : World} (hsh : W.ShapedOpen Tryd.prog) (hB : 2 ≤ W.heap.size) (ho : OldOk W.heap.size W oldS) (g : FuncId) (F : List Value → Option (Bool × Value)) (args : List Value) (v : Value) (hg : knownL g = some F) (hF : F args = some (true, v)) :
    flatL args = true ∧ flat v = true ∧ ∀ w, (∀ b, b < W.heap.size → w.heap[b]? = W.heap[b]?) → W.heap.size ≤ w.heap.size → KnownOk Tryd.prog g args v w := by
  unfold knownL at hg
  split at hg
  next G hG => cases hg; exact knownB_ok hsh hB ho g F args v hG hF
  next => exact knownS_ok hsh hB g F args v hg hF

theorem lexFine {W : World} (hsh : W.ShapedOpen Tryd.prog) (hB : 2 ≤ W.heap.size) (ho : OldOk W.heap.size W oldS) : EK.Fine W.heap.size W :=
  envOf_fine funcs_ok (by kernel_rfl) (show Tryd.prog.globals.size ≤ W.heap.size by rw [Tryd.globals_size]; exact hB) ho (knownL_ok hsh hB ho)

/-- The list of signs, from what the row lays. -/
theorem cells_of_strings {H : Type} {enc : TypeId × Value → H} {P : Program} {w : World} {base : Nat} {sp : Nat → Bool} {held : Bool} {fuel : Nat} {t e : TypeId} {n : Nat} {cs : List Value} {zs : List (List UInt8)} {p : List MemPlace}
    (ht : P.underlying t = some (.array n e)) (he : P.underlying e = some .string) (hce : P.cellsOf e = 1) (hct : P.cellsOf t = n)
    (h : DataW.trod enc P w base sp held fuel t cs = some (.agg (zs.map fun z => .lit (.string z)), p)) : cs = zs.map fun z => Value.string ⟨z.toArray⟩ := by
  cases fuel with
  | zero => simp [DataW.trod] at h
  | succ fuel =>
    simp only [DataW.trod, ht, hce, hct, Nat.mul_one] at h
    split at h
    · rename_i hl
      obtain ⟨xs, hm, hx⟩ := Option.map_eq_some_iff.1 h
      have hxs : xs.map (·.1) = zs.map fun z => (DataW.lit (.string z) : DataW H) := by
        have := congrArg Prod.fst hx
        simpa using this
      have hxl : xs.length = n := by simpa using Lib.mapM_length hm
      have hzl : zs.length = n := by
        have := congrArg List.length hxs
        simp at this
        omega
      apply List.ext_getElem?
      intro i
      by_cases hi : i < n
      · obtain ⟨b, hb, hf⟩ := Lib.mapM_at hm i i (by simp [hi])
        obtain ⟨z, hc, rfl, _⟩ := Go.DataW.trod_string he hf
        have h1 : cs[i]? = some (.string z) := by
          have := congrArg (·[0]?) hc
          simpa [List.getElem?_take, List.getElem?_drop] using this
        have h2 : (xs.map (·.1))[i]? = some (DataW.lit (.string z.data.toList) : DataW H) := by simp [hb]
        rw [hxs] at h2
        simp only [List.getElem?_map, Option.map_eq_some_iff, DataW.lit.injEq, Lit.string.injEq] at h2
        obtain ⟨z', hz', rfl⟩ := h2
        rw [h1]
        simp [hz']
      · rw [List.getElem?_eq_none (by omega), List.getElem?_eq_none (by simp; omega)]
    · cases h

theorem gSigns : Tryd.prog.globalNamed "minstrel/lex.signs" = some 0 := by kernel_rfl
theorem gSignsType : (Tryd.prog.globals[0]?).map (·.type) = some 46 := by kernel_rfl
theorem cells46 : Tryd.prog.cellsOf 46 = 23 := by kernel_rfl
theorem cells9 : Tryd.prog.cellsOf 9 = 1 := by kernel_rfl

theorem oldS_ok {W : World} (hsh : W.ShapedOpen Tryd.prog) (h : laidMetH Tryd.prog [("minstrel/lex.signs", Rows.laid_minstrel_lex_signs)] W) : 2 ≤ W.heap.size ∧ OldOk W.heap.size W oldS := by
  have hB : 2 ≤ W.heap.size := by
    obtain ⟨m, hm⟩ := Tryd.laysM144.s1_3 W hsh
    rcases Nat.lt_or_ge 1 W.heap.size with h1 | h1
    · exact h1
    · exfalso
      unfold World.cell? at hm
      rw [show W.heap[Tryd.laysM144_ren.g 1]? = none from Array.getElem?_eq_none h1] at hm
      simp at hm
  refine ⟨hB, ?_⟩
  obtain ⟨ps, ⟨g', t', cs, fuel, p, q, hg', ht', hvar, hd, _, _⟩, _⟩ := h
  obtain rfl := Option.some.inj (gSigns.symm.trans hg')
  obtain rfl := Option.some.inj (gSignsType.symm.trans ht')
  have hcs := cells_of_strings (zs := signs) Tryd.underlying46 Tryd.underlying9 cells9 cells46 hd
  intro a v hv
  unfold oldS at hv
  split at hv
  next ha =>
    obtain ⟨b, off, spot⟩ := a
    obtain ⟨rfl, rfl⟩ := ha
    rw [Option.map_eq_some_iff] at hv
    obtain ⟨z, hz, rfl⟩ := hv
    refine ⟨by show 0 < W.heap.size; omega, ?_, fun φ => V.refl_of_flat _ φ _ rfl⟩
    rw [World.var?_cell gSigns hvar off, ← Array.getElem?_toList, hcs, List.getElem?_map]
    rw [show signs[off]? = some z from hz]
    rfl
  next => simp at hv

end Go.Proofs.YtiabpbememhdeaaDoor
