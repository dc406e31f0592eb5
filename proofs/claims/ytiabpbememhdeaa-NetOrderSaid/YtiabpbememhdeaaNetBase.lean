/-
  THE NET's LAWS, 1: the program as the short run is told of it; the small living call.
-/
import Derived.Test.YtiabpbememhdeaaRows
import Derived.Test.YtiabpbememhdeaaAjE
import Derived.ProofKit
import Derived.OpenShut
set_option linter.unusedSimpArgs false
set_option linter.unusedVariables false
namespace Go.Proofs.Ytiabpbememhdeaa
open Go.Ai Go.RowKit Go.ChangeShapes Go.WideShapes Go.ChangeAt

theorem own : ownKnob Try.prog.godebug = none := by kernel_rfl
theorem laidOut : laidOutB Try.prog = true := by kernel_rfl

theorem funcs_ok : funcsOk Try.prog = true := by kernel_rfl

set_option maxRecDepth 100000 in
theorem lives_run : ∃ s', callN (envOf Try.prog (fun _ => none) (fun _ => none)) 100 30 10 [] .empty = some (.ok (.bool true), s') := by
  obtain ⟨x, s', h1, h2⟩ := call_along (E := envOf Try.prog (fun _ => none) (fun _ => none)) (N := 100) (n := 30) (g := 10) (args := []) (s := .empty) [] (fun r => r.1) (r := .ok (.bool true)) (os := []) (by kernel_rfl) (by simp)
  exact ⟨s', by rw [h1]; simp only at h2; rw [h2]⟩

def livesF : FuncId → Option (List Value → Option Value) := fun g =>
  if g = 10 then some fun l => match l with
    | [] => some (.bool true)
    | _ => none
  else none

noncomputable def netEnv : Ai.Env := envOf Try.prog (fun _ => none) livesF

theorem netFine (W : World) : netEnv.Fine W.heap.size W := by
  have ho : OldOk W.heap.size W (fun _ => none) := fun a v h => by simp at h
  refine envOf_fine funcs_ok (by kernel_rfl) (by rw [Try.globals_size]; exact Nat.zero_le _) ho ?_
  intro g F args v hg hF
  unfold livesF at hg
  split at hg
  next hgg =>
    subst hgg
    cases hg
    match args, hF with
    | [], hF =>
      cases hF
      refine ⟨rfl, rfl, fun w hw hs => ?_⟩
      obtain ⟨s', h⟩ := lives_run
      exact known_of_run funcs_ok (by kernel_rfl) (by rw [Try.globals_size]; exact Nat.zero_le _) ho rfl rfl h w hw hs
    | _ :: _, hF => simp at hF
  next => simp at hg

noncomputable def bodyOf (f : Func) : Code := f.body.getD .skip
def seqFst : Code → Code
  | .seq a _ => a
  | c => c
def seqSnd : Code → Code
  | .seq _ b => b
  | c => c
def loopOf : Code → Code
  | .block _ (.loop c) => c
  | _ => .skip

/-- A message from a to b of term t, with nothing else in it. -/
def msg (a b t : Int) : List Value :=
  [.int .i64 0, .int .i64 a, .int .i64 b, .int .u64 t, .int .u64 0, .int .u64 0, .slice none 0 0, .int .u64 0, .bool false, .int .u64 0, .int .u64 0, .slice none 0 0,
    .int .i64 0, .int .u64 0, .string ⟨#[]⟩, .slice none 0 0, .int .i64 0, .int .u64 0, .string ⟨#[]⟩, .slice none 0 0]

theorem msg_flat (a b t : Int) : flatL (msg a b t) = true := rfl
theorem msg_length (a b t : Int) : (msg a b t).length = 20 := rfl

end Go.Proofs.Ytiabpbememhdeaa
