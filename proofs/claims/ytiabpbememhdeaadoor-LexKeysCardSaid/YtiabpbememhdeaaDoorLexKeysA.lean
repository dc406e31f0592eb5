/-
  The lexer's seat: which words are key words, walked.
-/
import Derived.Test.YtiabpbememhdeaaDoorLexBase
import Derived.Test.YtiabpbememhdeaaDoorLexWords
import Derived.Test.YtiabpbememhdeaaDoorAjF
set_option linter.unusedVariables false
namespace Go.Proofs.YtiabpbememhdeaaDoor
open Go.Ai Go.RowKit
set_option maxRecDepth 100000

noncomputable def bodyOf (f : Func) : Code := f.body.getD .skip

/-- The first loop of a piece of code. -/
def loopIn : Code → Option Code
  | .loop c => some c
  | .seq a b => (loopIn a).or (loopIn b)
  | .cond _ a b => (loopIn a).or (loopIn b)
  | .block _ a => loopIn a
  | .scope a => loopIn a
  | _ => none

noncomputable def inL : Code := (loopIn (bodyOf Tryd.f13)).getD .skip

/-- Where the word begins that a place stands in or behind. -/
def fromOf (l : ByteArray) : Nat → Nat
  | 0 => 0
  | i + 1 => if l.get! i = 32 then i + 1 else fromOf l i

abbrev inLive (w l : ByteArray) (from' i : Int) : List (Nat × Value) := [(0, .string w), (1, .string l), (4, .bool false), (5, .int .i64 from'), (6, .int .i64 i)]

theorem inRoundA (w l : ByteArray) (m : Nat) (fr i : Nat) (d : List Deferred) (rest : Nat → Value) (s : St) (h1 : (i : Int) ≤ (l.size : Int)) (h2 : ((i : Int) == (l.size : Int)) = false) (h3 : (0 : Int) ≤ (i : Int)) (h4 : (i : Int).toNat < l.size) (h5 : ((((l.get! i).toNat : Nat) : Int) == 32) = false) (h6 : IntKind.i64.wrap ((i : Int) + 1) = ((i + 1 : Nat) : Int)) :
    ∃ rest' s', evalCode EK (callN EK 1000 m) 1000 inL { tmps := tmpsOf 31 (inLive w l fr i) rest, defers := d } s = some (.normal, { tmps := tmpsOf 31 (inLive w l fr ((i + 1 : Nat) : Int)) rest', defers := d }, s') ∧ After s s' [] [] := by
  exact round_by (holds_nil s) [.yes 0 h1, .is 0 h2, .is 0 h2, .is 0 h2, .yes 1 h4, .is 0 h2, .is 0 h2, .is 0 h5, .int 0 h6, .m 0 0] [] (by kernel_rfl)
theorem inRoundB (w l : ByteArray) (m : Nat) (fr i : Nat) (d : List Deferred) (rest : Nat → Value) (s : St) (h1 : (i : Int) ≤ (l.size : Int)) (h2 : ((i : Int) == (l.size : Int)) = false) (h3 : (0 : Int) ≤ (i : Int)) (h4 : (i : Int).toNat < l.size) (h5 : ((((l.get! i).toNat : Nat) : Int) == 32) = true) (h6 : IntKind.i64.wrap ((i : Int) + 1) = ((i + 1 : Nat) : Int))
    (h7 : (0 : Int) ≤ (fr : Int)) (h8 : (fr : Int).toNat ≤ (i : Int).toNat) (h9 : (i : Int).toNat ≤ l.size) (h10 : ((l.extract fr i).data.toList == w.data.toList) = false) :
    ∃ rest' s', evalCode EK (callN EK 1000 m) 1000 inL { tmps := tmpsOf 31 (inLive w l fr i) rest, defers := d } s = some (.normal, { tmps := tmpsOf 31 (inLive w l ((i + 1 : Nat) : Int) ((i + 1 : Nat) : Int)) rest', defers := d }, s') ∧ After s s' [] [] := by
  exact round_by (holds_nil s) [.yes 0 h1, .is 0 h2, .is 0 h2, .is 0 h2, .yes 1 h4, .is 0 h2, .is 0 h2, .is 0 h5, .yes 2 h8, .yes 0 h9, .is 0 h10, .int 0 h6, .int 0 h6, .m 0 0] [] (by kernel_rfl)
theorem inRoundC (w l : ByteArray) (m : Nat) (fr i : Nat) (d : List Deferred) (rest : Nat → Value) (s : St) (h1 : (i : Int) ≤ (l.size : Int)) (h2 : ((i : Int) == (l.size : Int)) = true) (h3 : (0 : Int) ≤ (i : Int)) (h6 : IntKind.i64.wrap ((i : Int) + 1) = ((i + 1 : Nat) : Int))
    (h7 : (0 : Int) ≤ (fr : Int)) (h8 : (fr : Int).toNat ≤ (i : Int).toNat) (h9 : (i : Int).toNat ≤ l.size) (h10 : ((l.extract fr i).data.toList == w.data.toList) = false) :
    ∃ rest' s', evalCode EK (callN EK 1000 m) 1000 inL { tmps := tmpsOf 31 (inLive w l fr i) rest, defers := d } s = some (.normal, { tmps := tmpsOf 31 (inLive w l ((i + 1 : Nat) : Int) ((i + 1 : Nat) : Int)) rest', defers := d }, s') ∧ After s s' [] [] := by
  exact round_by (holds_nil s) [.yes 0 h1, .is 0 h2, .is 0 h2, .is 0 h2, .is 0 h2, .is 0 h2, .yes 3 h8, .yes 0 h9, .is 0 h10, .int 0 h6, .int 0 h6, .m 0 0] [] (by kernel_rfl)
theorem inEnd (w l : ByteArray) (m : Nat) (fr i : Nat) (d : List Deferred) (rest : Nat → Value) (s : St) (h1 : ¬ (i : Int) ≤ (l.size : Int)) :
    ∃ rest' s', evalCode EK (callN EK 1000 m) 1000 inL { tmps := tmpsOf 31 (inLive w l fr i) rest, defers := d } s = some (.exit 0, { tmps := tmpsOf 31 (inLive w l fr i) rest', defers := d }, s') ∧ After s s' [] [] := by
  exact round_by (holds_nil s) [.no 0 h1, .m 0 0] [] (by kernel_rfl)

/-- No word of the list is w. -/
def NoneIs (w l : ByteArray) : Prop := ∀ i, i ≤ l.size → (i = l.size ∨ l.get! i = 32) → ((l.extract (fromOf l i) i).data.toList == w.data.toList) = false

theorem fromOf_le (l : ByteArray) : ∀ i, fromOf l i ≤ i
  | 0 => Nat.le_refl _
  | i + 1 => by
      unfold fromOf
      split
      · exact Nat.le_refl _
      · exact Nat.le_succ_of_le (fromOf_le l i)

theorem byte_eq (c : UInt8) (n : Nat) (hn : n < 256) : (((c.toNat : Nat) : Int) == (n : Int)) = decide (c = UInt8.ofNat n) := by
  rw [Bool.eq_iff_iff]
  simp only [beq_iff_eq, decide_eq_true_eq]
  constructor
  · intro h
    have : c.toNat = n := by omega
    rw [← this]; simp
  · intro h
    subst h
    simp [UInt8.toNat_ofNat]
    omega

theorem inLoop (w l : ByteArray) (hl : l.size < 900) (hn : NoneIs w l) (m : Nat) (d : List Deferred) (s : St) :
    ∃ R : (Nat → Value) → (Nat → Value) × St, ∀ rest, evalCode EK (callN EK 1000 m) 1000 (.loop inL) { tmps := tmpsOf 31 (inLive w l 0 0) rest, defers := d } s = some (.exit 0, { tmps := tmpsOf 31 [(4, .bool false)] (R rest).1, defers := d }, (R rest).2) ∧ After s (R rest).2 [] [] := by
  refine choose_loop ?_
  refine loop_ok (l.size + 1) (by omega) (fun k => inLive w l ((if k = l.size + 1 then k else fromOf l k : Nat) : Int) (k : Int)) (fun _ => []) (by simp) (holds_nil s) (fun k hk rest s' _ => ?_) (fun rest s' _ => ?_)
  · have e6 : IntKind.i64.wrap ((k : Int) + 1) = ((k + 1 : Nat) : Int) := by rw [wrap_i64 (by omega) (by omega)]; omega
    have h0 : (0 : Int) ≤ (k : Int) := by omega
    have hfr := fromOf_le l k
    simp only [if_neg (show ¬ k = l.size + 1 by omega)]
    by_cases hend : k = l.size
    · have := inRoundC w l m (fromOf l k) k d rest s' (by omega) (by simp [hend]) h0 e6 (by omega) (by omega) (by omega) (hn k (by omega) (.inl hend))
      rw [if_pos (by omega)]
      exact this
    · rw [if_neg (by omega)]
      have h2 : ((k : Int) == (l.size : Int)) = false := by rw [beq_eq_false_iff_ne]; omega
      have h5 := byte_eq (l.get! k) 32 (by omega)
      by_cases hb : l.get! k = 32
      · have hf : fromOf l (k + 1) = k + 1 := by rw [fromOf, if_pos hb]
        rw [hf]
        exact inRoundB w l m (fromOf l k) k d rest s' (by omega) h2 h0 (by omega) (h5.trans (decide_eq_true hb)) e6 (by omega) (by omega) (by omega) (hn k (by omega) (.inr hb))
      · have hf : fromOf l (k + 1) = fromOf l k := by rw [fromOf, if_neg hb]
        rw [hf]
        exact inRoundA w l m (fromOf l k) k d rest s' (by omega) h2 h0 (by omega) (h5.trans (decide_eq_false hb)) e6
  · rw [if_pos rfl]
    obtain ⟨rest', s'', h1, h2⟩ := inEnd w l m (l.size + 1) (l.size + 1) d rest s' (by omega)
    refine ⟨fun i => (tmpsOf 31 (inLive w l ((l.size + 1 : Nat) : Int) ((l.size + 1 : Nat) : Int)) rest').getD i undef, s'', ?_, h2⟩
    rw [h1]
    congr 3

theorem in_false6 (w l : ByteArray) (hl : l.size < 900) (hn : NoneIs w l) (s : St) : ∃ s', callN EK 1000 (5 + 1) 13 [.string w, .string l] s = some (.ok (.bool false), s') ∧ After s s' [] [] := by
  obtain ⟨R, hR⟩ := inLoop w l hl hn 5 [] s
  exact fn_by (holds_nil s) [.loop 0 0 [] hR, .m 0 0] [] (by kernel_rfl)

end Go.Proofs.YtiabpbememhdeaaDoor
