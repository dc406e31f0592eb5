/-
  The lexer's seat: a world in which the list of signs is laid; what each row's frame needs.
-/
import Derived.Test.YtiabpbememhdeaaDoorLexBase
import Derived.LaidLaws
import Derived.LaidHandle
import Derived.Stop.Joined
import Derived.Lib.LaidTab
import Derived.Lib.LaidIn
import Derived.Deep.DeepWitnessRowRef
import Derived.SizedLaws
import Derived.Deep.DeepHandedRow
import Derived.ChangeSame
import Derived.ChangeVars
import Derived.RowKitTokens
set_option linter.unusedVariables false
namespace Go.Proofs.YtiabpbememhdeaaDoor
open Go.ChangeShapes Go.WideShapes Go.ChangeAt Go.RowKit Go.Lib
open Go.ChangeMaps (open_string shut_string)

theorem own : ownKnob Tryd.prog.godebug = none := by kernel_rfl

/-- The settled world, the list of signs as its initialiser lays it. -/
noncomputable def laidWorld (os : Os) : World :=
  let w0 := World.holding Tryd.prog os ⟨#[], #[], []⟩
  { w0 with heap := w0.heap.modify 0 fun
    | .cells _ t frozen => .cells (signs.map fun z => Value.string ⟨z.toArray⟩).toArray t frozen
    | o => o }

theorem laid_met (os : Os) (args : Array Value) : laidMet Tryd.prog [("minstrel/lex.signs", Rows.laid_minstrel_lex_signs)] ((laidWorld os).forCall (fun _ _ => 0) ⟨#[], args, []⟩).memory :=
  (LaidIn.of_run (l := [("minstrel/lex.signs", Rows.laid_minstrel_lex_signs)]) [0] 8 (by kernel_rfl) (by kernel_rfl) (by kernel_rfl) (by kernel_rfl)).met

end Go.Proofs.YtiabpbememhdeaaDoor
