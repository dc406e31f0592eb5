/-
  The lexer's seat, 1: the environment in which its laws are run: the list of signs in old memory, strings.Contains known by the shelf's contract, and the laws' own 'lives'.
-/
import Derived.Test.YtiabpbememhdeaaDoorLexShelf
import Derived.Test.YtiabpbememhdeaaDoorAjE
import Derived.Test.YtiabpbememhdeaaDoorRows
import Derived.Lib.IndexMore
import Derived.Lib.LaidTab
import Derived.WalkKit
import Derived.ProofKit
import Derived.OpenShut
import Derived.Deep.DeepHandedRow
set_option linter.unusedVariables false
set_option linter.unusedSimpArgs false
namespace Go.Proofs.YtiabpbememhdeaaDoor
open Go.Ai Go.RowKit

theorem funcs_ok : funcsOk Tryd.prog = true := by kernel_rfl

/-- The signs, in the order of the program's list. -/
def signs : List (List UInt8) := [[46, 46], [61, 61], [126, 61], [60, 61], [62, 61], [43], [45], [42], [47], [37], [61], [60], [62], [40], [41], [123], [125], [91], [93], [44], [59], [46], [35]]

/-- What old memory is known to hold. -/
def oldS : Addr → Option Value := fun a => if a.block = 0 ∧ a.spot = none then (signs[a.off]?).map fun l => .string ⟨l.toArray⟩ else none

/-- What strings.Contains and strings.HasPrefix answer. -/
def knownF : FuncId → Option (List Value → Option (Bool × Value)) := fun g =>
  if g = 19 then some fun l => match l with
    | [.string s, .string t] => some (decide (t.size = 1) || decide (s.size < 4294967281), .bool (Lib.contains s.data.toList t.data.toList))
    | _ => none
  else if g = 22 then some fun l => match l with
    | [.string s, .string t] => some (true, .bool (Lib.hasPrefix s.data.toList t.data.toList))
    | _ => none
  else none

noncomputable def EL : Ai.Env := envOf Tryd.prog oldS knownF

set_option maxRecDepth 100000 in
theorem lives_run : ∃ s', callN EL 1000 60 8 [] .empty = some (.ok (.bool true), s') := by
  obtain ⟨x, s', h1, h2⟩ := call_along (E := EL) (N := 1000) (n := 60) (g := 8) (args := []) (s := .empty) [] (fun r => r.1) (r := .ok (.bool true)) (by kernel_rfl)
  exact ⟨s', by rw [h1]; simp only at h2; rw [h2]⟩

end Go.Proofs.YtiabpbememhdeaaDoor
