/-
  The lexer's seat: what functions of one byte answer.
-/
import Derived.Test.YtiabpbememhdeaaDoorLexLives
set_option linter.unusedVariables false
set_option linter.unusedSimpArgs false
namespace Go.Proofs.YtiabpbememhdeaaDoor
open Go.Ai Go.RowKit

/-- What a function answers, whatever memory. -/
abbrev Answers (E : Ai.Env) (n : Nat) (g : FuncId) (args : List Value) (v : Value) : Prop := ∀ s, ∃ s', callN E 1000 n g args s = some (.ok v, s') ∧ After s s' [] []

set_option maxRecDepth 100000
theorem digit1 (c : Int) (h1 : 48 ≤ c) : Answers EL (4 + 1) 26 [.int .u8 c] (.bool (decide (c ≤ 57))) := by
  intro s
  exact fn_by (holds_nil s) [.yes 0 h1, .yes 0 h1, .yes 0 h1, .m 0 0] [] (by kernel_rfl)
theorem digit2 (c : Int) (h1 : ¬ 48 ≤ c) : Answers EL (4 + 1) 26 [.int .u8 c] (.bool false) := by
  intro s
  exact fn_by (holds_nil s) [.no 0 h1, .no 0 h1, .no 0 h1, .m 0 0] [] (by kernel_rfl)
theorem letter1 (c : Int) (h1 : 97 ≤ c) (h2 : c ≤ 122) : Answers EL (4 + 1) 24 [.int .u8 c] (.bool true) := by
  intro s
  exact fn_by (holds_nil s) [.yes 0 h1, .yes 0 h1, .yes 0 h1, .yes 0 h2, .yes 0 h2, .yes 0 h2, .yes 0 h2, .yes 0 h2, .m 0 0] [] (by kernel_rfl)
theorem letter2 (c : Int) (h1 : 97 ≤ c) (h2 : ¬ c ≤ 122) (h3 : 65 ≤ c) (h4 : ¬ c ≤ 90) : Answers EL (4 + 1) 24 [.int .u8 c] (.bool (c == 95)) := by
  intro s
  exact fn_by (holds_nil s) [.yes 0 h1, .yes 0 h1, .yes 0 h1, .no 0 h2, .no 0 h2, .no 0 h2, .yes 0 h3, .yes 0 h3, .no 0 h2, .yes 0 h3, .no 0 h2, .no 0 h4, .no 0 h4, .no 0 h4, .m 0 0] [] (by kernel_rfl)
theorem letter3 (c : Int) (h1 : ¬ 97 ≤ c) (h3 : 65 ≤ c) (h4 : c ≤ 90) : Answers EL (4 + 1) 24 [.int .u8 c] (.bool true) := by
  intro s
  exact fn_by (holds_nil s) [.no 0 h1, .no 0 h1, .no 0 h1, .yes 3 h3, .yes 0 h3, .yes 1 h3, .yes 1 h4, .yes 0 h4, .yes 0 h4, .m 0 0] [] (by kernel_rfl)
theorem letter4 (c : Int) (h1 : ¬ 97 ≤ c) (h3 : 65 ≤ c) (h4 : ¬ c ≤ 90) : Answers EL (4 + 1) 24 [.int .u8 c] (.bool (c == 95)) := by
  intro s
  exact fn_by (holds_nil s) [.no 0 h1, .no 0 h1, .no 0 h1, .yes 3 h3, .yes 0 h3, .yes 1 h3, .no 1 h4, .no 0 h4, .no 0 h4, .m 0 0] [] (by kernel_rfl)
theorem letter5 (c : Int) (h1 : ¬ 97 ≤ c) (h3 : ¬ 65 ≤ c) : Answers EL (4 + 1) 24 [.int .u8 c] (.bool (c == 95)) := by
  intro s
  exact fn_by (holds_nil s) [.no 0 h1, .no 0 h1, .no 0 h1, .no 3 h3, .no 0 h3, .no 1 h3, .m 0 0] [] (by kernel_rfl)
theorem notLine1 (c : Int) : Answers EL (4 + 1) 23 [.int .u8 c] (.bool (!(c == 10))) := by
  intro s
  exact fn_by (holds_nil s) [.m 0 0] [] (by kernel_rfl)
theorem blank1 (c : Int) (h1 : (c == 32) = true) : Answers EL (4 + 1) 21 [.int .u8 c] (.bool true) := by
  intro s
  exact fn_by (holds_nil s) [.is 0 h1, .is 0 h1, .is 0 h1, .m 0 0] [] (by kernel_rfl)
theorem blank2 (c : Int) (h1 : (c == 32) = false) (h2 : (c == 9) = true) : Answers EL (4 + 1) 21 [.int .u8 c] (.bool true) := by
  intro s
  exact fn_by (holds_nil s) [.is 0 h1, .is 0 h1, .is 0 h1, .is 0 h2, .is 0 h2, .is 0 h2, .m 0 0] [] (by kernel_rfl)
theorem blank3 (c : Int) (h1 : (c == 32) = false) (h2 : (c == 9) = false) (h3 : (c == 10) = true) : Answers EL (4 + 1) 21 [.int .u8 c] (.bool true) := by
  intro s
  exact fn_by (holds_nil s) [.is 0 h1, .is 0 h1, .is 0 h1, .is 0 h2, .is 0 h2, .is 0 h2, .is 0 h3, .is 0 h3, .is 0 h3, .m 0 0] [] (by kernel_rfl)
theorem blank4 (c : Int) (h1 : (c == 32) = false) (h2 : (c == 9) = false) (h3 : (c == 10) = false) : Answers EL (4 + 1) 21 [.int .u8 c] (.bool (c == 13)) := by
  intro s
  exact fn_by (holds_nil s) [.is 0 h1, .is 0 h1, .is 0 h1, .is 0 h2, .is 0 h2, .is 0 h2, .is 0 h3, .is 0 h3, .is 0 h3, .m 0 0] [] (by kernel_rfl)
theorem escaped1 (c : Int) (h1 : (c == 110) = true) : Answers EL (4 + 1) 33 [.int .u8 c] (.int .u8 10) := by
  intro s
  exact fn_by (holds_nil s) [.is 0 h1, .m 0 0] [] (by kernel_rfl)
theorem escaped2 (c : Int) (h1 : (c == 110) = false) (h2 : (c == 116) = true) : Answers EL (4 + 1) 33 [.int .u8 c] (.int .u8 9) := by
  intro s
  exact fn_by (holds_nil s) [.is 0 h1, .is 0 h2, .m 0 0] [] (by kernel_rfl)
theorem escaped3 (c : Int) (h1 : (c == 110) = false) (h2 : (c == 116) = false) (h3 : (c == 34) = true) : Answers EL (4 + 1) 33 [.int .u8 c] (.int .u8 c) := by
  intro s
  exact fn_by (holds_nil s) [.is 0 h1, .is 0 h2, .is 0 h3, .is 0 h3, .m 0 0] [] (by kernel_rfl)
theorem escaped4 (c : Int) (h1 : (c == 110) = false) (h2 : (c == 116) = false) (h3 : (c == 34) = false) (h4 : (c == 92) = true) : Answers EL (4 + 1) 33 [.int .u8 c] (.int .u8 c) := by
  intro s
  exact fn_by (holds_nil s) [.is 0 h1, .is 0 h2, .is 0 h3, .is 0 h4, .m 0 0] [] (by kernel_rfl)
theorem escaped5 (c : Int) (h1 : (c == 110) = false) (h2 : (c == 116) = false) (h3 : (c == 34) = false) (h4 : (c == 92) = false) : Answers EL (4 + 1) 33 [.int .u8 c] (.int .u8 0) := by
  intro s
  exact fn_by (holds_nil s) [.is 0 h1, .is 0 h2, .is 0 h3, .is 0 h4, .m 0 0] [] (by kernel_rfl)

end Go.Proofs.YtiabpbememhdeaaDoor
