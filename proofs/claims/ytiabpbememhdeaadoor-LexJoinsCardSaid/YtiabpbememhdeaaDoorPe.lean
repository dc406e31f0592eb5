/-
  The lexer's seat: signs.
-/
import Derived.Test.YtiabpbememhdeaaDoorPd
import Derived.LaidLaws
import Derived.LaidHandle
import Derived.Stop.Joined
import Derived.Lib.LaidTab
import Derived.Lib.LaidIn
import Derived.Deep.DeepWitnessRowRef
import Derived.SizedLaws
import Derived.Deep.DeepHandedRow
import Derived.ChangeSame
import Derived.ChangeVars
import Derived.RowKitTokens

set_option linter.unusedVariables false
set_option linter.unusedSimpArgs false
namespace Go.Proofs.YtiabpbememhdeaaDoor
open Go.Ai Go.RowKit
set_option maxRecDepth 100000

def fWord : FuncId := 16
noncomputable def signL : Code := loopAt Tryd.prog fWord 0
def signsV : Value := .agg (signs.map fun l => Value.string ⟨l.toArray⟩).toArray
abbrev sgLive (f c i : Nat) (k : Int) : List (Nat × Value) := [(0, pt f), (2, pt c), (3, .int .i64 (i : Int)), (54, signsV), (55, .int .i64 k)]
/-- A sign stands here. -/
abbrev sgAt (b : ByteArray) (i : Nat) (l : List UInt8) : Bool := Lib.hasPrefix (b.extract i b.size).data.toList l
theorem sign_no0 (q f c i : Nat) (b : ByteArray) (d : List Deferred) (rest : Nat → Value) (s : St) (hov : Holds s [(f, lx b i), (c, tokRow 0 0 noS 0)]) (h1 : i ≤ b.size) (h2 : b.size ≤ 65536) (h3 : sgAt b i [46, 46] = false) :
    ∃ rest' s', evalCode EW (callN EW NN (q + 1)) NN signL { tmps := tmpsOf 83 (sgLive f c i 0) rest, defers := d } s = some (.normal, { tmps := tmpsOf 83 (sgLive f c i 1) rest', defers := d }, s') ∧ After s s' [f, c] [(f, lx b i), (c, tokRow 0 0 noS 0)] := by
  exact roundj_by hov [.m 0 0, .yes 2 h1, .yes 0 (show ByteArray.size b ≤ ByteArray.size b from by omega), .is 1 h3, .m 0 0] [0, 1] (by kernel_rfl)
theorem sign_yes0 (q f c i : Nat) (b : ByteArray) (d : List Deferred) (rest : Nat → Value) (s : St) (hov : Holds s [(f, lx b i), (c, tokRow 0 0 noS 0)]) (h1 : i ≤ b.size) (h2 : b.size ≤ 65536) (h3 : sgAt b i [46, 46] = true) :
    ∃ rest' s', evalCode EW (callN EW NN (q + 1)) NN signL { tmps := tmpsOf 83 (sgLive f c i 0) rest, defers := d } s = some (.ret, { tmps := tmpsOf 83 [(2, pt c)] rest', defers := d }, s') ∧ After s s' [f, c] [(f, lx b (i + 2)), (c, tokRow 1 (i : Int) ⟨#[46, 46]⟩ 0)] := by
  exact roundj_by hov [.m 0 0, .yes 2 h1, .yes 0 (show ByteArray.size b ≤ ByteArray.size b from by omega), .is 1 h3, .m 0 0, .int 1 (wrap_i64 (n := (↑i : Int) + (2 : Int)) (by omega) (by omega)), .m 0 0, .m 0 0, .m 0 1, .m 0 1, .m 0 0] [0, 1] (by kernel_rfl)
theorem sign_no1 (q f c i : Nat) (b : ByteArray) (d : List Deferred) (rest : Nat → Value) (s : St) (hov : Holds s [(f, lx b i), (c, tokRow 0 0 noS 0)]) (h1 : i ≤ b.size) (h2 : b.size ≤ 65536) (h3 : sgAt b i [61, 61] = false) :
    ∃ rest' s', evalCode EW (callN EW NN (q + 1)) NN signL { tmps := tmpsOf 83 (sgLive f c i 1) rest, defers := d } s = some (.normal, { tmps := tmpsOf 83 (sgLive f c i 2) rest', defers := d }, s') ∧ After s s' [f, c] [(f, lx b i), (c, tokRow 0 0 noS 0)] := by
  exact roundj_by hov [.m 0 0, .yes 2 h1, .yes 0 (show ByteArray.size b ≤ ByteArray.size b from by omega), .is 1 h3, .m 0 0] [0, 1] (by kernel_rfl)
theorem sign_yes1 (q f c i : Nat) (b : ByteArray) (d : List Deferred) (rest : Nat → Value) (s : St) (hov : Holds s [(f, lx b i), (c, tokRow 0 0 noS 0)]) (h1 : i ≤ b.size) (h2 : b.size ≤ 65536) (h3 : sgAt b i [61, 61] = true) :
    ∃ rest' s', evalCode EW (callN EW NN (q + 1)) NN signL { tmps := tmpsOf 83 (sgLive f c i 1) rest, defers := d } s = some (.ret, { tmps := tmpsOf 83 [(2, pt c)] rest', defers := d }, s') ∧ After s s' [f, c] [(f, lx b (i + 2)), (c, tokRow 1 (i : Int) ⟨#[61, 61]⟩ 0)] := by
  exact roundj_by hov [.m 0 0, .yes 2 h1, .yes 0 (show ByteArray.size b ≤ ByteArray.size b from by omega), .is 1 h3, .m 0 0, .int 1 (wrap_i64 (n := (↑i : Int) + (2 : Int)) (by omega) (by omega)), .m 0 0, .m 0 0, .m 0 1, .m 0 1, .m 0 0] [0, 1] (by kernel_rfl)
theorem sign_no2 (q f c i : Nat) (b : ByteArray) (d : List Deferred) (rest : Nat → Value) (s : St) (hov : Holds s [(f, lx b i), (c, tokRow 0 0 noS 0)]) (h1 : i ≤ b.size) (h2 : b.size ≤ 65536) (h3 : sgAt b i [126, 61] = false) :
    ∃ rest' s', evalCode EW (callN EW NN (q + 1)) NN signL { tmps := tmpsOf 83 (sgLive f c i 2) rest, defers := d } s = some (.normal, { tmps := tmpsOf 83 (sgLive f c i 3) rest', defers := d }, s') ∧ After s s' [f, c] [(f, lx b i), (c, tokRow 0 0 noS 0)] := by
  exact roundj_by hov [.m 0 0, .yes 2 h1, .yes 0 (show ByteArray.size b ≤ ByteArray.size b from by omega), .is 1 h3, .m 0 0] [0, 1] (by kernel_rfl)
theorem sign_yes2 (q f c i : Nat) (b : ByteArray) (d : List Deferred) (rest : Nat → Value) (s : St) (hov : Holds s [(f, lx b i), (c, tokRow 0 0 noS 0)]) (h1 : i ≤ b.size) (h2 : b.size ≤ 65536) (h3 : sgAt b i [126, 61] = true) :
    ∃ rest' s', evalCode EW (callN EW NN (q + 1)) NN signL { tmps := tmpsOf 83 (sgLive f c i 2) rest, defers := d } s = some (.ret, { tmps := tmpsOf 83 [(2, pt c)] rest', defers := d }, s') ∧ After s s' [f, c] [(f, lx b (i + 2)), (c, tokRow 1 (i : Int) ⟨#[126, 61]⟩ 0)] := by
  exact roundj_by hov [.m 0 0, .yes 2 h1, .yes 0 (show ByteArray.size b ≤ ByteArray.size b from by omega), .is 1 h3, .m 0 0, .int 1 (wrap_i64 (n := (↑i : Int) + (2 : Int)) (by omega) (by omega)), .m 0 0, .m 0 0, .m 0 1, .m 0 1, .m 0 0] [0, 1] (by kernel_rfl)
theorem sign_no3 (q f c i : Nat) (b : ByteArray) (d : List Deferred) (rest : Nat → Value) (s : St) (hov : Holds s [(f, lx b i), (c, tokRow 0 0 noS 0)]) (h1 : i ≤ b.size) (h2 : b.size ≤ 65536) (h3 : sgAt b i [60, 61] = false) :
    ∃ rest' s', evalCode EW (callN EW NN (q + 1)) NN signL { tmps := tmpsOf 83 (sgLive f c i 3) rest, defers := d } s = some (.normal, { tmps := tmpsOf 83 (sgLive f c i 4) rest', defers := d }, s') ∧ After s s' [f, c] [(f, lx b i), (c, tokRow 0 0 noS 0)] := by
  exact roundj_by hov [.m 0 0, .yes 2 h1, .yes 0 (show ByteArray.size b ≤ ByteArray.size b from by omega), .is 1 h3, .m 0 0] [0, 1] (by kernel_rfl)
theorem sign_yes3 (q f c i : Nat) (b : ByteArray) (d : List Deferred) (rest : Nat → Value) (s : St) (hov : Holds s [(f, lx b i), (c, tokRow 0 0 noS 0)]) (h1 : i ≤ b.size) (h2 : b.size ≤ 65536) (h3 : sgAt b i [60, 61] = true) :
    ∃ rest' s', evalCode EW (callN EW NN (q + 1)) NN signL { tmps := tmpsOf 83 (sgLive f c i 3) rest, defers := d } s = some (.ret, { tmps := tmpsOf 83 [(2, pt c)] rest', defers := d }, s') ∧ After s s' [f, c] [(f, lx b (i + 2)), (c, tokRow 1 (i : Int) ⟨#[60, 61]⟩ 0)] := by
  exact roundj_by hov [.m 0 0, .yes 2 h1, .yes 0 (show ByteArray.size b ≤ ByteArray.size b from by omega), .is 1 h3, .m 0 0, .int 1 (wrap_i64 (n := (↑i : Int) + (2 : Int)) (by omega) (by omega)), .m 0 0, .m 0 0, .m 0 1, .m 0 1, .m 0 0] [0, 1] (by kernel_rfl)
theorem sign_no4 (q f c i : Nat) (b : ByteArray) (d : List Deferred) (rest : Nat → Value) (s : St) (hov : Holds s [(f, lx b i), (c, tokRow 0 0 noS 0)]) (h1 : i ≤ b.size) (h2 : b.size ≤ 65536) (h3 : sgAt b i [62, 61] = false) :
    ∃ rest' s', evalCode EW (callN EW NN (q + 1)) NN signL { tmps := tmpsOf 83 (sgLive f c i 4) rest, defers := d } s = some (.normal, { tmps := tmpsOf 83 (sgLive f c i 5) rest', defers := d }, s') ∧ After s s' [f, c] [(f, lx b i), (c, tokRow 0 0 noS 0)] := by
  exact roundj_by hov [.m 0 0, .yes 2 h1, .yes 0 (show ByteArray.size b ≤ ByteArray.size b from by omega), .is 1 h3, .m 0 0] [0, 1] (by kernel_rfl)
theorem sign_yes4 (q f c i : Nat) (b : ByteArray) (d : List Deferred) (rest : Nat → Value) (s : St) (hov : Holds s [(f, lx b i), (c, tokRow 0 0 noS 0)]) (h1 : i ≤ b.size) (h2 : b.size ≤ 65536) (h3 : sgAt b i [62, 61] = true) :
    ∃ rest' s', evalCode EW (callN EW NN (q + 1)) NN signL { tmps := tmpsOf 83 (sgLive f c i 4) rest, defers := d } s = some (.ret, { tmps := tmpsOf 83 [(2, pt c)] rest', defers := d }, s') ∧ After s s' [f, c] [(f, lx b (i + 2)), (c, tokRow 1 (i : Int) ⟨#[62, 61]⟩ 0)] := by
  exact roundj_by hov [.m 0 0, .yes 2 h1, .yes 0 (show ByteArray.size b ≤ ByteArray.size b from by omega), .is 1 h3, .m 0 0, .int 1 (wrap_i64 (n := (↑i : Int) + (2 : Int)) (by omega) (by omega)), .m 0 0, .m 0 0, .m 0 1, .m 0 1, .m 0 0] [0, 1] (by kernel_rfl)
theorem sign_no5 (q f c i : Nat) (b : ByteArray) (d : List Deferred) (rest : Nat → Value) (s : St) (hov : Holds s [(f, lx b i), (c, tokRow 0 0 noS 0)]) (h1 : i ≤ b.size) (h2 : b.size ≤ 65536) (h3 : sgAt b i [43] = false) :
    ∃ rest' s', evalCode EW (callN EW NN (q + 1)) NN signL { tmps := tmpsOf 83 (sgLive f c i 5) rest, defers := d } s = some (.normal, { tmps := tmpsOf 83 (sgLive f c i 6) rest', defers := d }, s') ∧ After s s' [f, c] [(f, lx b i), (c, tokRow 0 0 noS 0)] := by
  exact roundj_by hov [.m 0 0, .yes 2 h1, .yes 0 (show ByteArray.size b ≤ ByteArray.size b from by omega), .is 1 h3, .m 0 0] [0, 1] (by kernel_rfl)
theorem sign_yes5 (q f c i : Nat) (b : ByteArray) (d : List Deferred) (rest : Nat → Value) (s : St) (hov : Holds s [(f, lx b i), (c, tokRow 0 0 noS 0)]) (h1 : i ≤ b.size) (h2 : b.size ≤ 65536) (h3 : sgAt b i [43] = true) :
    ∃ rest' s', evalCode EW (callN EW NN (q + 1)) NN signL { tmps := tmpsOf 83 (sgLive f c i 5) rest, defers := d } s = some (.ret, { tmps := tmpsOf 83 [(2, pt c)] rest', defers := d }, s') ∧ After s s' [f, c] [(f, lx b (i + 1)), (c, tokRow 1 (i : Int) ⟨#[43]⟩ 0)] := by
  exact roundj_by hov [.m 0 0, .yes 2 h1, .yes 0 (show ByteArray.size b ≤ ByteArray.size b from by omega), .is 1 h3, .m 0 0, .int 1 (wrap_i64 (n := (↑i : Int) + (1 : Int)) (by omega) (by omega)), .m 0 0, .m 0 0, .m 0 1, .m 0 1, .m 0 0] [0, 1] (by kernel_rfl)
theorem sign_no6 (q f c i : Nat) (b : ByteArray) (d : List Deferred) (rest : Nat → Value) (s : St) (hov : Holds s [(f, lx b i), (c, tokRow 0 0 noS 0)]) (h1 : i ≤ b.size) (h2 : b.size ≤ 65536) (h3 : sgAt b i [45] = false) :
    ∃ rest' s', evalCode EW (callN EW NN (q + 1)) NN signL { tmps := tmpsOf 83 (sgLive f c i 6) rest, defers := d } s = some (.normal, { tmps := tmpsOf 83 (sgLive f c i 7) rest', defers := d }, s') ∧ After s s' [f, c] [(f, lx b i), (c, tokRow 0 0 noS 0)] := by
  exact roundj_by hov [.m 0 0, .yes 2 h1, .yes 0 (show ByteArray.size b ≤ ByteArray.size b from by omega), .is 1 h3, .m 0 0] [0, 1] (by kernel_rfl)
theorem sign_yes6 (q f c i : Nat) (b : ByteArray) (d : List Deferred) (rest : Nat → Value) (s : St) (hov : Holds s [(f, lx b i), (c, tokRow 0 0 noS 0)]) (h1 : i ≤ b.size) (h2 : b.size ≤ 65536) (h3 : sgAt b i [45] = true) :
    ∃ rest' s', evalCode EW (callN EW NN (q + 1)) NN signL { tmps := tmpsOf 83 (sgLive f c i 6) rest, defers := d } s = some (.ret, { tmps := tmpsOf 83 [(2, pt c)] rest', defers := d }, s') ∧ After s s' [f, c] [(f, lx b (i + 1)), (c, tokRow 1 (i : Int) ⟨#[45]⟩ 0)] := by
  exact roundj_by hov [.m 0 0, .yes 2 h1, .yes 0 (show ByteArray.size b ≤ ByteArray.size b from by omega), .is 1 h3, .m 0 0, .int 1 (wrap_i64 (n := (↑i : Int) + (1 : Int)) (by omega) (by omega)), .m 0 0, .m 0 0, .m 0 1, .m 0 1, .m 0 0] [0, 1] (by kernel_rfl)
theorem sign_no7 (q f c i : Nat) (b : ByteArray) (d : List Deferred) (rest : Nat → Value) (s : St) (hov : Holds s [(f, lx b i), (c, tokRow 0 0 noS 0)]) (h1 : i ≤ b.size) (h2 : b.size ≤ 65536) (h3 : sgAt b i [42] = false) :
    ∃ rest' s', evalCode EW (callN EW NN (q + 1)) NN signL { tmps := tmpsOf 83 (sgLive f c i 7) rest, defers := d } s = some (.normal, { tmps := tmpsOf 83 (sgLive f c i 8) rest', defers := d }, s') ∧ After s s' [f, c] [(f, lx b i), (c, tokRow 0 0 noS 0)] := by
  exact roundj_by hov [.m 0 0, .yes 2 h1, .yes 0 (show ByteArray.size b ≤ ByteArray.size b from by omega), .is 1 h3, .m 0 0] [0, 1] (by kernel_rfl)
theorem sign_yes7 (q f c i : Nat) (b : ByteArray) (d : List Deferred) (rest : Nat → Value) (s : St) (hov : Holds s [(f, lx b i), (c, tokRow 0 0 noS 0)]) (h1 : i ≤ b.size) (h2 : b.size ≤ 65536) (h3 : sgAt b i [42] = true) :
    ∃ rest' s', evalCode EW (callN EW NN (q + 1)) NN signL { tmps := tmpsOf 83 (sgLive f c i 7) rest, defers := d } s = some (.ret, { tmps := tmpsOf 83 [(2, pt c)] rest', defers := d }, s') ∧ After s s' [f, c] [(f, lx b (i + 1)), (c, tokRow 1 (i : Int) ⟨#[42]⟩ 0)] := by
  exact roundj_by hov [.m 0 0, .yes 2 h1, .yes 0 (show ByteArray.size b ≤ ByteArray.size b from by omega), .is 1 h3, .m 0 0, .int 1 (wrap_i64 (n := (↑i : Int) + (1 : Int)) (by omega) (by omega)), .m 0 0, .m 0 0, .m 0 1, .m 0 1, .m 0 0] [0, 1] (by kernel_rfl)
theorem sign_no8 (q f c i : Nat) (b : ByteArray) (d : List Deferred) (rest : Nat → Value) (s : St) (hov : Holds s [(f, lx b i), (c, tokRow 0 0 noS 0)]) (h1 : i ≤ b.size) (h2 : b.size ≤ 65536) (h3 : sgAt b i [47] = false) :
    ∃ rest' s', evalCode EW (callN EW NN (q + 1)) NN signL { tmps := tmpsOf 83 (sgLive f c i 8) rest, defers := d } s = some (.normal, { tmps := tmpsOf 83 (sgLive f c i 9) rest', defers := d }, s') ∧ After s s' [f, c] [(f, lx b i), (c, tokRow 0 0 noS 0)] := by
  exact roundj_by hov [.m 0 0, .yes 2 h1, .yes 0 (show ByteArray.size b ≤ ByteArray.size b from by omega), .is 1 h3, .m 0 0] [0, 1] (by kernel_rfl)
theorem sign_yes8 (q f c i : Nat) (b : ByteArray) (d : List Deferred) (rest : Nat → Value) (s : St) (hov : Holds s [(f, lx b i), (c, tokRow 0 0 noS 0)]) (h1 : i ≤ b.size) (h2 : b.size ≤ 65536) (h3 : sgAt b i [47] = true) :
    ∃ rest' s', evalCode EW (callN EW NN (q + 1)) NN signL { tmps := tmpsOf 83 (sgLive f c i 8) rest, defers := d } s = some (.ret, { tmps := tmpsOf 83 [(2, pt c)] rest', defers := d }, s') ∧ After s s' [f, c] [(f, lx b (i + 1)), (c, tokRow 1 (i : Int) ⟨#[47]⟩ 0)] := by
  exact roundj_by hov [.m 0 0, .yes 2 h1, .yes 0 (show ByteArray.size b ≤ ByteArray.size b from by omega), .is 1 h3, .m 0 0, .int 1 (wrap_i64 (n := (↑i : Int) + (1 : Int)) (by omega) (by omega)), .m 0 0, .m 0 0, .m 0 1, .m 0 1, .m 0 0] [0, 1] (by kernel_rfl)
theorem sign_no9 (q f c i : Nat) (b : ByteArray) (d : List Deferred) (rest : Nat → Value) (s : St) (hov : Holds s [(f, lx b i), (c, tokRow 0 0 noS 0)]) (h1 : i ≤ b.size) (h2 : b.size ≤ 65536) (h3 : sgAt b i [37] = false) :
    ∃ rest' s', evalCode EW (callN EW NN (q + 1)) NN signL { tmps := tmpsOf 83 (sgLive f c i 9) rest, defers := d } s = some (.normal, { tmps := tmpsOf 83 (sgLive f c i 10) rest', defers := d }, s') ∧ After s s' [f, c] [(f, lx b i), (c, tokRow 0 0 noS 0)] := by
  exact roundj_by hov [.m 0 0, .yes 2 h1, .yes 0 (show ByteArray.size b ≤ ByteArray.size b from by omega), .is 1 h3, .m 0 0] [0, 1] (by kernel_rfl)
theorem sign_yes9 (q f c i : Nat) (b : ByteArray) (d : List Deferred) (rest : Nat → Value) (s : St) (hov : Holds s [(f, lx b i), (c, tokRow 0 0 noS 0)]) (h1 : i ≤ b.size) (h2 : b.size ≤ 65536) (h3 : sgAt b i [37] = true) :
    ∃ rest' s', evalCode EW (callN EW NN (q + 1)) NN signL { tmps := tmpsOf 83 (sgLive f c i 9) rest, defers := d } s = some (.ret, { tmps := tmpsOf 83 [(2, pt c)] rest', defers := d }, s') ∧ After s s' [f, c] [(f, lx b (i + 1)), (c, tokRow 1 (i : Int) ⟨#[37]⟩ 0)] := by
  exact roundj_by hov [.m 0 0, .yes 2 h1, .yes 0 (show ByteArray.size b ≤ ByteArray.size b from by omega), .is 1 h3, .m 0 0, .int 1 (wrap_i64 (n := (↑i : Int) + (1 : Int)) (by omega) (by omega)), .m 0 0, .m 0 0, .m 0 1, .m 0 1, .m 0 0] [0, 1] (by kernel_rfl)
theorem sign_no10 (q f c i : Nat) (b : ByteArray) (d : List Deferred) (rest : Nat → Value) (s : St) (hov : Holds s [(f, lx b i), (c, tokRow 0 0 noS 0)]) (h1 : i ≤ b.size) (h2 : b.size ≤ 65536) (h3 : sgAt b i [61] = false) :
    ∃ rest' s', evalCode EW (callN EW NN (q + 1)) NN signL { tmps := tmpsOf 83 (sgLive f c i 10) rest, defers := d } s = some (.normal, { tmps := tmpsOf 83 (sgLive f c i 11) rest', defers := d }, s') ∧ After s s' [f, c] [(f, lx b i), (c, tokRow 0 0 noS 0)] := by
  exact roundj_by hov [.m 0 0, .yes 2 h1, .yes 0 (show ByteArray.size b ≤ ByteArray.size b from by omega), .is 1 h3, .m 0 0] [0, 1] (by kernel_rfl)
theorem sign_yes10 (q f c i : Nat) (b : ByteArray) (d : List Deferred) (rest : Nat → Value) (s : St) (hov : Holds s [(f, lx b i), (c, tokRow 0 0 noS 0)]) (h1 : i ≤ b.size) (h2 : b.size ≤ 65536) (h3 : sgAt b i [61] = true) :
    ∃ rest' s', evalCode EW (callN EW NN (q + 1)) NN signL { tmps := tmpsOf 83 (sgLive f c i 10) rest, defers := d } s = some (.ret, { tmps := tmpsOf 83 [(2, pt c)] rest', defers := d }, s') ∧ After s s' [f, c] [(f, lx b (i + 1)), (c, tokRow 1 (i : Int) ⟨#[61]⟩ 0)] := by
  exact roundj_by hov [.m 0 0, .yes 2 h1, .yes 0 (show ByteArray.size b ≤ ByteArray.size b from by omega), .is 1 h3, .m 0 0, .int 1 (wrap_i64 (n := (↑i : Int) + (1 : Int)) (by omega) (by omega)), .m 0 0, .m 0 0, .m 0 1, .m 0 1, .m 0 0] [0, 1] (by kernel_rfl)
theorem sign_no11 (q f c i : Nat) (b : ByteArray) (d : List Deferred) (rest : Nat → Value) (s : St) (hov : Holds s [(f, lx b i), (c, tokRow 0 0 noS 0)]) (h1 : i ≤ b.size) (h2 : b.size ≤ 65536) (h3 : sgAt b i [60] = false) :
    ∃ rest' s', evalCode EW (callN EW NN (q + 1)) NN signL { tmps := tmpsOf 83 (sgLive f c i 11) rest, defers := d } s = some (.normal, { tmps := tmpsOf 83 (sgLive f c i 12) rest', defers := d }, s') ∧ After s s' [f, c] [(f, lx b i), (c, tokRow 0 0 noS 0)] := by
  exact roundj_by hov [.m 0 0, .yes 2 h1, .yes 0 (show ByteArray.size b ≤ ByteArray.size b from by omega), .is 1 h3, .m 0 0] [0, 1] (by kernel_rfl)
theorem sign_yes11 (q f c i : Nat) (b : ByteArray) (d : List Deferred) (rest : Nat → Value) (s : St) (hov : Holds s [(f, lx b i), (c, tokRow 0 0 noS 0)]) (h1 : i ≤ b.size) (h2 : b.size ≤ 65536) (h3 : sgAt b i [60] = true) :
    ∃ rest' s', evalCode EW (callN EW NN (q + 1)) NN signL { tmps := tmpsOf 83 (sgLive f c i 11) rest, defers := d } s = some (.ret, { tmps := tmpsOf 83 [(2, pt c)] rest', defers := d }, s') ∧ After s s' [f, c] [(f, lx b (i + 1)), (c, tokRow 1 (i : Int) ⟨#[60]⟩ 0)] := by
  exact roundj_by hov [.m 0 0, .yes 2 h1, .yes 0 (show ByteArray.size b ≤ ByteArray.size b from by omega), .is 1 h3, .m 0 0, .int 1 (wrap_i64 (n := (↑i : Int) + (1 : Int)) (by omega) (by omega)), .m 0 0, .m 0 0, .m 0 1, .m 0 1, .m 0 0] [0, 1] (by kernel_rfl)
theorem sign_no12 (q f c i : Nat) (b : ByteArray) (d : List Deferred) (rest : Nat → Value) (s : St) (hov : Holds s [(f, lx b i), (c, tokRow 0 0 noS 0)]) (h1 : i ≤ b.size) (h2 : b.size ≤ 65536) (h3 : sgAt b i [62] = false) :
    ∃ rest' s', evalCode EW (callN EW NN (q + 1)) NN signL { tmps := tmpsOf 83 (sgLive f c i 12) rest, defers := d } s = some (.normal, { tmps := tmpsOf 83 (sgLive f c i 13) rest', defers := d }, s') ∧ After s s' [f, c] [(f, lx b i), (c, tokRow 0 0 noS 0)] := by
  exact roundj_by hov [.m 0 0, .yes 2 h1, .yes 0 (show ByteArray.size b ≤ ByteArray.size b from by omega), .is 1 h3, .m 0 0] [0, 1] (by kernel_rfl)
theorem sign_yes12 (q f c i : Nat) (b : ByteArray) (d : List Deferred) (rest : Nat → Value) (s : St) (hov : Holds s [(f, lx b i), (c, tokRow 0 0 noS 0)]) (h1 : i ≤ b.size) (h2 : b.size ≤ 65536) (h3 : sgAt b i [62] = true) :
    ∃ rest' s', evalCode EW (callN EW NN (q + 1)) NN signL { tmps := tmpsOf 83 (sgLive f c i 12) rest, defers := d } s = some (.ret, { tmps := tmpsOf 83 [(2, pt c)] rest', defers := d }, s') ∧ After s s' [f, c] [(f, lx b (i + 1)), (c, tokRow 1 (i : Int) ⟨#[62]⟩ 0)] := by
  exact roundj_by hov [.m 0 0, .yes 2 h1, .yes 0 (show ByteArray.size b ≤ ByteArray.size b from by omega), .is 1 h3, .m 0 0, .int 1 (wrap_i64 (n := (↑i : Int) + (1 : Int)) (by omega) (by omega)), .m 0 0, .m 0 0, .m 0 1, .m 0 1, .m 0 0] [0, 1] (by kernel_rfl)
theorem sign_no13 (q f c i : Nat) (b : ByteArray) (d : List Deferred) (rest : Nat → Value) (s : St) (hov : Holds s [(f, lx b i), (c, tokRow 0 0 noS 0)]) (h1 : i ≤ b.size) (h2 : b.size ≤ 65536) (h3 : sgAt b i [40] = false) :
    ∃ rest' s', evalCode EW (callN EW NN (q + 1)) NN signL { tmps := tmpsOf 83 (sgLive f c i 13) rest, defers := d } s = some (.normal, { tmps := tmpsOf 83 (sgLive f c i 14) rest', defers := d }, s') ∧ After s s' [f, c] [(f, lx b i), (c, tokRow 0 0 noS 0)] := by
  exact roundj_by hov [.m 0 0, .yes 2 h1, .yes 0 (show ByteArray.size b ≤ ByteArray.size b from by omega), .is 1 h3, .m 0 0] [0, 1] (by kernel_rfl)
theorem sign_yes13 (q f c i : Nat) (b : ByteArray) (d : List Deferred) (rest : Nat → Value) (s : St) (hov : Holds s [(f, lx b i), (c, tokRow 0 0 noS 0)]) (h1 : i ≤ b.size) (h2 : b.size ≤ 65536) (h3 : sgAt b i [40] = true) :
    ∃ rest' s', evalCode EW (callN EW NN (q + 1)) NN signL { tmps := tmpsOf 83 (sgLive f c i 13) rest, defers := d } s = some (.ret, { tmps := tmpsOf 83 [(2, pt c)] rest', defers := d }, s') ∧ After s s' [f, c] [(f, lx b (i + 1)), (c, tokRow 1 (i : Int) ⟨#[40]⟩ 0)] := by
  exact roundj_by hov [.m 0 0, .yes 2 h1, .yes 0 (show ByteArray.size b ≤ ByteArray.size b from by omega), .is 1 h3, .m 0 0, .int 1 (wrap_i64 (n := (↑i : Int) + (1 : Int)) (by omega) (by omega)), .m 0 0, .m 0 0, .m 0 1, .m 0 1, .m 0 0] [0, 1] (by kernel_rfl)
theorem sign_no14 (q f c i : Nat) (b : ByteArray) (d : List Deferred) (rest : Nat → Value) (s : St) (hov : Holds s [(f, lx b i), (c, tokRow 0 0 noS 0)]) (h1 : i ≤ b.size) (h2 : b.size ≤ 65536) (h3 : sgAt b i [41] = false) :
    ∃ rest' s', evalCode EW (callN EW NN (q + 1)) NN signL { tmps := tmpsOf 83 (sgLive f c i 14) rest, defers := d } s = some (.normal, { tmps := tmpsOf 83 (sgLive f c i 15) rest', defers := d }, s') ∧ After s s' [f, c] [(f, lx b i), (c, tokRow 0 0 noS 0)] := by
  exact roundj_by hov [.m 0 0, .yes 2 h1, .yes 0 (show ByteArray.size b ≤ ByteArray.size b from by omega), .is 1 h3, .m 0 0] [0, 1] (by kernel_rfl)
theorem sign_yes14 (q f c i : Nat) (b : ByteArray) (d : List Deferred) (rest : Nat → Value) (s : St) (hov : Holds s [(f, lx b i), (c, tokRow 0 0 noS 0)]) (h1 : i ≤ b.size) (h2 : b.size ≤ 65536) (h3 : sgAt b i [41] = true) :
    ∃ rest' s', evalCode EW (callN EW NN (q + 1)) NN signL { tmps := tmpsOf 83 (sgLive f c i 14) rest, defers := d } s = some (.ret, { tmps := tmpsOf 83 [(2, pt c)] rest', defers := d }, s') ∧ After s s' [f, c] [(f, lx b (i + 1)), (c, tokRow 1 (i : Int) ⟨#[41]⟩ 0)] := by
  exact roundj_by hov [.m 0 0, .yes 2 h1, .yes 0 (show ByteArray.size b ≤ ByteArray.size b from by omega), .is 1 h3, .m 0 0, .int 1 (wrap_i64 (n := (↑i : Int) + (1 : Int)) (by omega) (by omega)), .m 0 0, .m 0 0, .m 0 1, .m 0 1, .m 0 0] [0, 1] (by kernel_rfl)
theorem sign_no15 (q f c i : Nat) (b : ByteArray) (d : List Deferred) (rest : Nat → Value) (s : St) (hov : Holds s [(f, lx b i), (c, tokRow 0 0 noS 0)]) (h1 : i ≤ b.size) (h2 : b.size ≤ 65536) (h3 : sgAt b i [123] = false) :
    ∃ rest' s', evalCode EW (callN EW NN (q + 1)) NN signL { tmps := tmpsOf 83 (sgLive f c i 15) rest, defers := d } s = some (.normal, { tmps := tmpsOf 83 (sgLive f c i 16) rest', defers := d }, s') ∧ After s s' [f, c] [(f, lx b i), (c, tokRow 0 0 noS 0)] := by
  exact roundj_by hov [.m 0 0, .yes 2 h1, .yes 0 (show ByteArray.size b ≤ ByteArray.size b from by omega), .is 1 h3, .m 0 0] [0, 1] (by kernel_rfl)
theorem sign_yes15 (q f c i : Nat) (b : ByteArray) (d : List Deferred) (rest : Nat → Value) (s : St) (hov : Holds s [(f, lx b i), (c, tokRow 0 0 noS 0)]) (h1 : i ≤ b.size) (h2 : b.size ≤ 65536) (h3 : sgAt b i [123] = true) :
    ∃ rest' s', evalCode EW (callN EW NN (q + 1)) NN signL { tmps := tmpsOf 83 (sgLive f c i 15) rest, defers := d } s = some (.ret, { tmps := tmpsOf 83 [(2, pt c)] rest', defers := d }, s') ∧ After s s' [f, c] [(f, lx b (i + 1)), (c, tokRow 1 (i : Int) ⟨#[123]⟩ 0)] := by
  exact roundj_by hov [.m 0 0, .yes 2 h1, .yes 0 (show ByteArray.size b ≤ ByteArray.size b from by omega), .is 1 h3, .m 0 0, .int 1 (wrap_i64 (n := (↑i : Int) + (1 : Int)) (by omega) (by omega)), .m 0 0, .m 0 0, .m 0 1, .m 0 1, .m 0 0] [0, 1] (by kernel_rfl)
theorem sign_no16 (q f c i : Nat) (b : ByteArray) (d : List Deferred) (rest : Nat → Value) (s : St) (hov : Holds s [(f, lx b i), (c, tokRow 0 0 noS 0)]) (h1 : i ≤ b.size) (h2 : b.size ≤ 65536) (h3 : sgAt b i [125] = false) :
    ∃ rest' s', evalCode EW (callN EW NN (q + 1)) NN signL { tmps := tmpsOf 83 (sgLive f c i 16) rest, defers := d } s = some (.normal, { tmps := tmpsOf 83 (sgLive f c i 17) rest', defers := d }, s') ∧ After s s' [f, c] [(f, lx b i), (c, tokRow 0 0 noS 0)] := by
  exact roundj_by hov [.m 0 0, .yes 2 h1, .yes 0 (show ByteArray.size b ≤ ByteArray.size b from by omega), .is 1 h3, .m 0 0] [0, 1] (by kernel_rfl)
theorem sign_yes16 (q f c i : Nat) (b : ByteArray) (d : List Deferred) (rest : Nat → Value) (s : St) (hov : Holds s [(f, lx b i), (c, tokRow 0 0 noS 0)]) (h1 : i ≤ b.size) (h2 : b.size ≤ 65536) (h3 : sgAt b i [125] = true) :
    ∃ rest' s', evalCode EW (callN EW NN (q + 1)) NN signL { tmps := tmpsOf 83 (sgLive f c i 16) rest, defers := d } s = some (.ret, { tmps := tmpsOf 83 [(2, pt c)] rest', defers := d }, s') ∧ After s s' [f, c] [(f, lx b (i + 1)), (c, tokRow 1 (i : Int) ⟨#[125]⟩ 0)] := by
  exact roundj_by hov [.m 0 0, .yes 2 h1, .yes 0 (show ByteArray.size b ≤ ByteArray.size b from by omega), .is 1 h3, .m 0 0, .int 1 (wrap_i64 (n := (↑i : Int) + (1 : Int)) (by omega) (by omega)), .m 0 0, .m 0 0, .m 0 1, .m 0 1, .m 0 0] [0, 1] (by kernel_rfl)
theorem sign_no17 (q f c i : Nat) (b : ByteArray) (d : List Deferred) (rest : Nat → Value) (s : St) (hov : Holds s [(f, lx b i), (c, tokRow 0 0 noS 0)]) (h1 : i ≤ b.size) (h2 : b.size ≤ 65536) (h3 : sgAt b i [91] = false) :
    ∃ rest' s', evalCode EW (callN EW NN (q + 1)) NN signL { tmps := tmpsOf 83 (sgLive f c i 17) rest, defers := d } s = some (.normal, { tmps := tmpsOf 83 (sgLive f c i 18) rest', defers := d }, s') ∧ After s s' [f, c] [(f, lx b i), (c, tokRow 0 0 noS 0)] := by
  exact roundj_by hov [.m 0 0, .yes 2 h1, .yes 0 (show ByteArray.size b ≤ ByteArray.size b from by omega), .is 1 h3, .m 0 0] [0, 1] (by kernel_rfl)
theorem sign_yes17 (q f c i : Nat) (b : ByteArray) (d : List Deferred) (rest : Nat → Value) (s : St) (hov : Holds s [(f, lx b i), (c, tokRow 0 0 noS 0)]) (h1 : i ≤ b.size) (h2 : b.size ≤ 65536) (h3 : sgAt b i [91] = true) :
    ∃ rest' s', evalCode EW (callN EW NN (q + 1)) NN signL { tmps := tmpsOf 83 (sgLive f c i 17) rest, defers := d } s = some (.ret, { tmps := tmpsOf 83 [(2, pt c)] rest', defers := d }, s') ∧ After s s' [f, c] [(f, lx b (i + 1)), (c, tokRow 1 (i : Int) ⟨#[91]⟩ 0)] := by
  exact roundj_by hov [.m 0 0, .yes 2 h1, .yes 0 (show ByteArray.size b ≤ ByteArray.size b from by omega), .is 1 h3, .m 0 0, .int 1 (wrap_i64 (n := (↑i : Int) + (1 : Int)) (by omega) (by omega)), .m 0 0, .m 0 0, .m 0 1, .m 0 1, .m 0 0] [0, 1] (by kernel_rfl)
theorem sign_no18 (q f c i : Nat) (b : ByteArray) (d : List Deferred) (rest : Nat → Value) (s : St) (hov : Holds s [(f, lx b i), (c, tokRow 0 0 noS 0)]) (h1 : i ≤ b.size) (h2 : b.size ≤ 65536) (h3 : sgAt b i [93] = false) :
    ∃ rest' s', evalCode EW (callN EW NN (q + 1)) NN signL { tmps := tmpsOf 83 (sgLive f c i 18) rest, defers := d } s = some (.normal, { tmps := tmpsOf 83 (sgLive f c i 19) rest', defers := d }, s') ∧ After s s' [f, c] [(f, lx b i), (c, tokRow 0 0 noS 0)] := by
  exact roundj_by hov [.m 0 0, .yes 2 h1, .yes 0 (show ByteArray.size b ≤ ByteArray.size b from by omega), .is 1 h3, .m 0 0] [0, 1] (by kernel_rfl)
theorem sign_yes18 (q f c i : Nat) (b : ByteArray) (d : List Deferred) (rest : Nat → Value) (s : St) (hov : Holds s [(f, lx b i), (c, tokRow 0 0 noS 0)]) (h1 : i ≤ b.size) (h2 : b.size ≤ 65536) (h3 : sgAt b i [93] = true) :
    ∃ rest' s', evalCode EW (callN EW NN (q + 1)) NN signL { tmps := tmpsOf 83 (sgLive f c i 18) rest, defers := d } s = some (.ret, { tmps := tmpsOf 83 [(2, pt c)] rest', defers := d }, s') ∧ After s s' [f, c] [(f, lx b (i + 1)), (c, tokRow 1 (i : Int) ⟨#[93]⟩ 0)] := by
  exact roundj_by hov [.m 0 0, .yes 2 h1, .yes 0 (show ByteArray.size b ≤ ByteArray.size b from by omega), .is 1 h3, .m 0 0, .int 1 (wrap_i64 (n := (↑i : Int) + (1 : Int)) (by omega) (by omega)), .m 0 0, .m 0 0, .m 0 1, .m 0 1, .m 0 0] [0, 1] (by kernel_rfl)
theorem sign_no19 (q f c i : Nat) (b : ByteArray) (d : List Deferred) (rest : Nat → Value) (s : St) (hov : Holds s [(f, lx b i), (c, tokRow 0 0 noS 0)]) (h1 : i ≤ b.size) (h2 : b.size ≤ 65536) (h3 : sgAt b i [44] = false) :
    ∃ rest' s', evalCode EW (callN EW NN (q + 1)) NN signL { tmps := tmpsOf 83 (sgLive f c i 19) rest, defers := d } s = some (.normal, { tmps := tmpsOf 83 (sgLive f c i 20) rest', defers := d }, s') ∧ After s s' [f, c] [(f, lx b i), (c, tokRow 0 0 noS 0)] := by
  exact roundj_by hov [.m 0 0, .yes 2 h1, .yes 0 (show ByteArray.size b ≤ ByteArray.size b from by omega), .is 1 h3, .m 0 0] [0, 1] (by kernel_rfl)
theorem sign_yes19 (q f c i : Nat) (b : ByteArray) (d : List Deferred) (rest : Nat → Value) (s : St) (hov : Holds s [(f, lx b i), (c, tokRow 0 0 noS 0)]) (h1 : i ≤ b.size) (h2 : b.size ≤ 65536) (h3 : sgAt b i [44] = true) :
    ∃ rest' s', evalCode EW (callN EW NN (q + 1)) NN signL { tmps := tmpsOf 83 (sgLive f c i 19) rest, defers := d } s = some (.ret, { tmps := tmpsOf 83 [(2, pt c)] rest', defers := d }, s') ∧ After s s' [f, c] [(f, lx b (i + 1)), (c, tokRow 1 (i : Int) ⟨#[44]⟩ 0)] := by
  exact roundj_by hov [.m 0 0, .yes 2 h1, .yes 0 (show ByteArray.size b ≤ ByteArray.size b from by omega), .is 1 h3, .m 0 0, .int 1 (wrap_i64 (n := (↑i : Int) + (1 : Int)) (by omega) (by omega)), .m 0 0, .m 0 0, .m 0 1, .m 0 1, .m 0 0] [0, 1] (by kernel_rfl)
theorem sign_no20 (q f c i : Nat) (b : ByteArray) (d : List Deferred) (rest : Nat → Value) (s : St) (hov : Holds s [(f, lx b i), (c, tokRow 0 0 noS 0)]) (h1 : i ≤ b.size) (h2 : b.size ≤ 65536) (h3 : sgAt b i [59] = false) :
    ∃ rest' s', evalCode EW (callN EW NN (q + 1)) NN signL { tmps := tmpsOf 83 (sgLive f c i 20) rest, defers := d } s = some (.normal, { tmps := tmpsOf 83 (sgLive f c i 21) rest', defers := d }, s') ∧ After s s' [f, c] [(f, lx b i), (c, tokRow 0 0 noS 0)] := by
  exact roundj_by hov [.m 0 0, .yes 2 h1, .yes 0 (show ByteArray.size b ≤ ByteArray.size b from by omega), .is 1 h3, .m 0 0] [0, 1] (by kernel_rfl)
theorem sign_yes20 (q f c i : Nat) (b : ByteArray) (d : List Deferred) (rest : Nat → Value) (s : St) (hov : Holds s [(f, lx b i), (c, tokRow 0 0 noS 0)]) (h1 : i ≤ b.size) (h2 : b.size ≤ 65536) (h3 : sgAt b i [59] = true) :
    ∃ rest' s', evalCode EW (callN EW NN (q + 1)) NN signL { tmps := tmpsOf 83 (sgLive f c i 20) rest, defers := d } s = some (.ret, { tmps := tmpsOf 83 [(2, pt c)] rest', defers := d }, s') ∧ After s s' [f, c] [(f, lx b (i + 1)), (c, tokRow 1 (i : Int) ⟨#[59]⟩ 0)] := by
  exact roundj_by hov [.m 0 0, .yes 2 h1, .yes 0 (show ByteArray.size b ≤ ByteArray.size b from by omega), .is 1 h3, .m 0 0, .int 1 (wrap_i64 (n := (↑i : Int) + (1 : Int)) (by omega) (by omega)), .m 0 0, .m 0 0, .m 0 1, .m 0 1, .m 0 0] [0, 1] (by kernel_rfl)
theorem sign_no21 (q f c i : Nat) (b : ByteArray) (d : List Deferred) (rest : Nat → Value) (s : St) (hov : Holds s [(f, lx b i), (c, tokRow 0 0 noS 0)]) (h1 : i ≤ b.size) (h2 : b.size ≤ 65536) (h3 : sgAt b i [46] = false) :
    ∃ rest' s', evalCode EW (callN EW NN (q + 1)) NN signL { tmps := tmpsOf 83 (sgLive f c i 21) rest, defers := d } s = some (.normal, { tmps := tmpsOf 83 (sgLive f c i 22) rest', defers := d }, s') ∧ After s s' [f, c] [(f, lx b i), (c, tokRow 0 0 noS 0)] := by
  exact roundj_by hov [.m 0 0, .yes 2 h1, .yes 0 (show ByteArray.size b ≤ ByteArray.size b from by omega), .is 1 h3, .m 0 0] [0, 1] (by kernel_rfl)
theorem sign_yes21 (q f c i : Nat) (b : ByteArray) (d : List Deferred) (rest : Nat → Value) (s : St) (hov : Holds s [(f, lx b i), (c, tokRow 0 0 noS 0)]) (h1 : i ≤ b.size) (h2 : b.size ≤ 65536) (h3 : sgAt b i [46] = true) :
    ∃ rest' s', evalCode EW (callN EW NN (q + 1)) NN signL { tmps := tmpsOf 83 (sgLive f c i 21) rest, defers := d } s = some (.ret, { tmps := tmpsOf 83 [(2, pt c)] rest', defers := d }, s') ∧ After s s' [f, c] [(f, lx b (i + 1)), (c, tokRow 1 (i : Int) ⟨#[46]⟩ 0)] := by
  exact roundj_by hov [.m 0 0, .yes 2 h1, .yes 0 (show ByteArray.size b ≤ ByteArray.size b from by omega), .is 1 h3, .m 0 0, .int 1 (wrap_i64 (n := (↑i : Int) + (1 : Int)) (by omega) (by omega)), .m 0 0, .m 0 0, .m 0 1, .m 0 1, .m 0 0] [0, 1] (by kernel_rfl)
theorem sign_no22 (q f c i : Nat) (b : ByteArray) (d : List Deferred) (rest : Nat → Value) (s : St) (hov : Holds s [(f, lx b i), (c, tokRow 0 0 noS 0)]) (h1 : i ≤ b.size) (h2 : b.size ≤ 65536) (h3 : sgAt b i [35] = false) :
    ∃ rest' s', evalCode EW (callN EW NN (q + 1)) NN signL { tmps := tmpsOf 83 (sgLive f c i 22) rest, defers := d } s = some (.normal, { tmps := tmpsOf 83 (sgLive f c i 23) rest', defers := d }, s') ∧ After s s' [f, c] [(f, lx b i), (c, tokRow 0 0 noS 0)] := by
  exact roundj_by hov [.m 0 0, .yes 2 h1, .yes 0 (show ByteArray.size b ≤ ByteArray.size b from by omega), .is 1 h3, .m 0 0] [0, 1] (by kernel_rfl)
theorem sign_yes22 (q f c i : Nat) (b : ByteArray) (d : List Deferred) (rest : Nat → Value) (s : St) (hov : Holds s [(f, lx b i), (c, tokRow 0 0 noS 0)]) (h1 : i ≤ b.size) (h2 : b.size ≤ 65536) (h3 : sgAt b i [35] = true) :
    ∃ rest' s', evalCode EW (callN EW NN (q + 1)) NN signL { tmps := tmpsOf 83 (sgLive f c i 22) rest, defers := d } s = some (.ret, { tmps := tmpsOf 83 [(2, pt c)] rest', defers := d }, s') ∧ After s s' [f, c] [(f, lx b (i + 1)), (c, tokRow 1 (i : Int) ⟨#[35]⟩ 0)] := by
  exact roundj_by hov [.m 0 0, .yes 2 h1, .yes 0 (show ByteArray.size b ≤ ByteArray.size b from by omega), .is 1 h3, .m 0 0, .int 1 (wrap_i64 (n := (↑i : Int) + (1 : Int)) (by omega) (by omega)), .m 0 0, .m 0 0, .m 0 1, .m 0 1, .m 0 0] [0, 1] (by kernel_rfl)
theorem sign_end (q f c i : Nat) (b : ByteArray) (d : List Deferred) (rest : Nat → Value) (s : St) (hov : Holds s [(f, lx b i), (c, tokRow 0 0 noS 0)]) (h1 : i ≤ b.size) (h2 : b.size ≤ 65536) :
    ∃ rest' s', evalCode EW (callN EW NN (q + 1)) NN signL { tmps := tmpsOf 83 (sgLive f c i 23) rest, defers := d } s = some (.exit 1, { tmps := tmpsOf 83 (sgLive f c i 23) rest', defers := d }, s') ∧ After s s' [f, c] [(f, lx b i), (c, tokRow 0 0 noS 0)] := by
  exact roundj_by hov [.m 0 0] [0, 1] (by kernel_rfl)

/-- The sign that stands here, tried from the k-th on. -/
def signFrom (b : ByteArray) (i : Nat) (k : Nat) : Option (List UInt8) := (signs.drop k).find? fun l => sgAt b i l

set_option maxHeartbeats 4000000 in
theorem sign_round (q f c i : Nat) (b : ByteArray) (d : List Deferred) (rest : Nat → Value) (s : St) (hov : Holds s [(f, lx b i), (c, tokRow 0 0 noS 0)]) (h1 : i ≤ b.size) (h2 : b.size ≤ 65536) : ∀ k : Nat, k ≤ 23 →
    (k < 23 ∧ signFrom b i k = signFrom b i (k + 1) ∧ ∃ rest' s', evalCode EW (callN EW NN (q + 1)) NN signL { tmps := tmpsOf 83 (sgLive f c i (k : Int)) rest, defers := d } s = some (.normal, { tmps := tmpsOf 83 (sgLive f c i ((k + 1 : Nat) : Int)) rest', defers := d }, s') ∧ After s s' [f, c] [(f, lx b i), (c, tokRow 0 0 noS 0)]) ∨
    (∃ l : List UInt8, signFrom b i k = some l ∧ ∃ rest' s', evalCode EW (callN EW NN (q + 1)) NN signL { tmps := tmpsOf 83 (sgLive f c i (k : Int)) rest, defers := d } s = some (.ret, { tmps := tmpsOf 83 [(2, pt c)] rest', defers := d }, s') ∧ After s s' [f, c] [(f, lx b (i + l.length)), (c, tokRow 1 (i : Int) ⟨l.toArray⟩ 0)]) ∨
    (signFrom b i k = none ∧ ∃ rest' s', evalCode EW (callN EW NN (q + 1)) NN signL { tmps := tmpsOf 83 (sgLive f c i (k : Int)) rest, defers := d } s = some (.exit 1, { tmps := tmpsOf 83 (sgLive f c i 23) rest', defers := d }, s') ∧ After s s' [f, c] [(f, lx b i), (c, tokRow 0 0 noS 0)]) := by
  intro k hk
  match k, hk with
  | 0, _ =>
    cases h3 : sgAt b i [46, 46]
    · left
      obtain ⟨rest', s', g1, g2⟩ := sign_no0 q f c i b d rest s hov h1 h2 h3
      exact ⟨by show (0 : Nat) < 23; omega, by show signFrom b i 0 = signFrom b i 1; show (match sgAt b i [46, 46] with | true => some [46, 46] | false => signFrom b i 1) = _; rw [h3], rest', s', g1, g2⟩
    · right; left
      obtain ⟨rest', s', g1, g2⟩ := sign_yes0 q f c i b d rest s hov h1 h2 h3
      exact ⟨[46, 46], by show (match sgAt b i [46, 46] with | true => some [46, 46] | false => signFrom b i 1) = _; rw [h3], rest', s', g1, g2⟩
  | 1, _ =>
    cases h3 : sgAt b i [61, 61]
    · left
      obtain ⟨rest', s', g1, g2⟩ := sign_no1 q f c i b d rest s hov h1 h2 h3
      exact ⟨by show (1 : Nat) < 23; omega, by show signFrom b i 1 = signFrom b i 2; show (match sgAt b i [61, 61] with | true => some [61, 61] | false => signFrom b i 2) = _; rw [h3], rest', s', g1, g2⟩
    · right; left
      obtain ⟨rest', s', g1, g2⟩ := sign_yes1 q f c i b d rest s hov h1 h2 h3
      exact ⟨[61, 61], by show (match sgAt b i [61, 61] with | true => some [61, 61] | false => signFrom b i 2) = _; rw [h3], rest', s', g1, g2⟩
  | 2, _ =>
    cases h3 : sgAt b i [126, 61]
    · left
      obtain ⟨rest', s', g1, g2⟩ := sign_no2 q f c i b d rest s hov h1 h2 h3
      exact ⟨by show (2 : Nat) < 23; omega, by show signFrom b i 2 = signFrom b i 3; show (match sgAt b i [126, 61] with | true => some [126, 61] | false => signFrom b i 3) = _; rw [h3], rest', s', g1, g2⟩
    · right; left
      obtain ⟨rest', s', g1, g2⟩ := sign_yes2 q f c i b d rest s hov h1 h2 h3
      exact ⟨[126, 61], by show (match sgAt b i [126, 61] with | true => some [126, 61] | false => signFrom b i 3) = _; rw [h3], rest', s', g1, g2⟩
  | 3, _ =>
    cases h3 : sgAt b i [60, 61]
    · left
      obtain ⟨rest', s', g1, g2⟩ := sign_no3 q f c i b d rest s hov h1 h2 h3
      exact ⟨by show (3 : Nat) < 23; omega, by show signFrom b i 3 = signFrom b i 4; show (match sgAt b i [60, 61] with | true => some [60, 61] | false => signFrom b i 4) = _; rw [h3], rest', s', g1, g2⟩
    · right; left
      obtain ⟨rest', s', g1, g2⟩ := sign_yes3 q f c i b d rest s hov h1 h2 h3
      exact ⟨[60, 61], by show (match sgAt b i [60, 61] with | true => some [60, 61] | false => signFrom b i 4) = _; rw [h3], rest', s', g1, g2⟩
  | 4, _ =>
    cases h3 : sgAt b i [62, 61]
    · left
      obtain ⟨rest', s', g1, g2⟩ := sign_no4 q f c i b d rest s hov h1 h2 h3
      exact ⟨by show (4 : Nat) < 23; omega, by show signFrom b i 4 = signFrom b i 5; show (match sgAt b i [62, 61] with | true => some [62, 61] | false => signFrom b i 5) = _; rw [h3], rest', s', g1, g2⟩
    · right; left
      obtain ⟨rest', s', g1, g2⟩ := sign_yes4 q f c i b d rest s hov h1 h2 h3
      exact ⟨[62, 61], by show (match sgAt b i [62, 61] with | true => some [62, 61] | false => signFrom b i 5) = _; rw [h3], rest', s', g1, g2⟩
  | 5, _ =>
    cases h3 : sgAt b i [43]
    · left
      obtain ⟨rest', s', g1, g2⟩ := sign_no5 q f c i b d rest s hov h1 h2 h3
      exact ⟨by show (5 : Nat) < 23; omega, by show signFrom b i 5 = signFrom b i 6; show (match sgAt b i [43] with | true => some [43] | false => signFrom b i 6) = _; rw [h3], rest', s', g1, g2⟩
    · right; left
      obtain ⟨rest', s', g1, g2⟩ := sign_yes5 q f c i b d rest s hov h1 h2 h3
      exact ⟨[43], by show (match sgAt b i [43] with | true => some [43] | false => signFrom b i 6) = _; rw [h3], rest', s', g1, g2⟩
  | 6, _ =>
    cases h3 : sgAt b i [45]
    · left
      obtain ⟨rest', s', g1, g2⟩ := sign_no6 q f c i b d rest s hov h1 h2 h3
      exact ⟨by show (6 : Nat) < 23; omega, by show signFrom b i 6 = signFrom b i 7; show (match sgAt b i [45] with | true => some [45] | false => signFrom b i 7) = _; rw [h3], rest', s', g1, g2⟩
    · right; left
      obtain ⟨rest', s', g1, g2⟩ := sign_yes6 q f c i b d rest s hov h1 h2 h3
      exact ⟨[45], by show (match sgAt b i [45] with | true => some [45] | false => signFrom b i 7) = _; rw [h3], rest', s', g1, g2⟩
  | 7, _ =>
    cases h3 : sgAt b i [42]
    · left
      obtain ⟨rest', s', g1, g2⟩ := sign_no7 q f c i b d rest s hov h1 h2 h3
      exact ⟨by show (7 : Nat) < 23; omega, by show signFrom b i 7 = signFrom b i 8; show (match sgAt b i [42] with | true => some [42] | false => signFrom b i 8) = _; rw [h3], rest', s', g1, g2⟩
    · right; left
      obtain ⟨rest', s', g1, g2⟩ := sign_yes7 q f c i b d rest s hov h1 h2 h3
      exact ⟨[42], by show (match sgAt b i [42] with | true => some [42] | false => signFrom b i 8) = _; rw [h3], rest', s', g1, g2⟩
  | 8, _ =>
    cases h3 : sgAt b i [47]
    · left
      obtain ⟨rest', s', g1, g2⟩ := sign_no8 q f c i b d rest s hov h1 h2 h3
      exact ⟨by show (8 : Nat) < 23; omega, by show signFrom b i 8 = signFrom b i 9; show (match sgAt b i [47] with | true => some [47] | false => signFrom b i 9) = _; rw [h3], rest', s', g1, g2⟩
    · right; left
      obtain ⟨rest', s', g1, g2⟩ := sign_yes8 q f c i b d rest s hov h1 h2 h3
      exact ⟨[47], by show (match sgAt b i [47] with | true => some [47] | false => signFrom b i 9) = _; rw [h3], rest', s', g1, g2⟩
  | 9, _ =>
    cases h3 : sgAt b i [37]
    · left
      obtain ⟨rest', s', g1, g2⟩ := sign_no9 q f c i b d rest s hov h1 h2 h3
      exact ⟨by show (9 : Nat) < 23; omega, by show signFrom b i 9 = signFrom b i 10; show (match sgAt b i [37] with | true => some [37] | false => signFrom b i 10) = _; rw [h3], rest', s', g1, g2⟩
    · right; left
      obtain ⟨rest', s', g1, g2⟩ := sign_yes9 q f c i b d rest s hov h1 h2 h3
      exact ⟨[37], by show (match sgAt b i [37] with | true => some [37] | false => signFrom b i 10) = _; rw [h3], rest', s', g1, g2⟩
  | 10, _ =>
    cases h3 : sgAt b i [61]
    · left
      obtain ⟨rest', s', g1, g2⟩ := sign_no10 q f c i b d rest s hov h1 h2 h3
      exact ⟨by show (10 : Nat) < 23; omega, by show signFrom b i 10 = signFrom b i 11; show (match sgAt b i [61] with | true => some [61] | false => signFrom b i 11) = _; rw [h3], rest', s', g1, g2⟩
    · right; left
      obtain ⟨rest', s', g1, g2⟩ := sign_yes10 q f c i b d rest s hov h1 h2 h3
      exact ⟨[61], by show (match sgAt b i [61] with | true => some [61] | false => signFrom b i 11) = _; rw [h3], rest', s', g1, g2⟩
  | 11, _ =>
    cases h3 : sgAt b i [60]
    · left
      obtain ⟨rest', s', g1, g2⟩ := sign_no11 q f c i b d rest s hov h1 h2 h3
      exact ⟨by show (11 : Nat) < 23; omega, by show signFrom b i 11 = signFrom b i 12; show (match sgAt b i [60] with | true => some [60] | false => signFrom b i 12) = _; rw [h3], rest', s', g1, g2⟩
    · right; left
      obtain ⟨rest', s', g1, g2⟩ := sign_yes11 q f c i b d rest s hov h1 h2 h3
      exact ⟨[60], by show (match sgAt b i [60] with | true => some [60] | false => signFrom b i 12) = _; rw [h3], rest', s', g1, g2⟩
  | 12, _ =>
    cases h3 : sgAt b i [62]
    · left
      obtain ⟨rest', s', g1, g2⟩ := sign_no12 q f c i b d rest s hov h1 h2 h3
      exact ⟨by show (12 : Nat) < 23; omega, by show signFrom b i 12 = signFrom b i 13; show (match sgAt b i [62] with | true => some [62] | false => signFrom b i 13) = _; rw [h3], rest', s', g1, g2⟩
    · right; left
      obtain ⟨rest', s', g1, g2⟩ := sign_yes12 q f c i b d rest s hov h1 h2 h3
      exact ⟨[62], by show (match sgAt b i [62] with | true => some [62] | false => signFrom b i 13) = _; rw [h3], rest', s', g1, g2⟩
  | 13, _ =>
    cases h3 : sgAt b i [40]
    · left
      obtain ⟨rest', s', g1, g2⟩ := sign_no13 q f c i b d rest s hov h1 h2 h3
      exact ⟨by show (13 : Nat) < 23; omega, by show signFrom b i 13 = signFrom b i 14; show (match sgAt b i [40] with | true => some [40] | false => signFrom b i 14) = _; rw [h3], rest', s', g1, g2⟩
    · right; left
      obtain ⟨rest', s', g1, g2⟩ := sign_yes13 q f c i b d rest s hov h1 h2 h3
      exact ⟨[40], by show (match sgAt b i [40] with | true => some [40] | false => signFrom b i 14) = _; rw [h3], rest', s', g1, g2⟩
  | 14, _ =>
    cases h3 : sgAt b i [41]
    · left
      obtain ⟨rest', s', g1, g2⟩ := sign_no14 q f c i b d rest s hov h1 h2 h3
      exact ⟨by show (14 : Nat) < 23; omega, by show signFrom b i 14 = signFrom b i 15; show (match sgAt b i [41] with | true => some [41] | false => signFrom b i 15) = _; rw [h3], rest', s', g1, g2⟩
    · right; left
      obtain ⟨rest', s', g1, g2⟩ := sign_yes14 q f c i b d rest s hov h1 h2 h3
      exact ⟨[41], by show (match sgAt b i [41] with | true => some [41] | false => signFrom b i 15) = _; rw [h3], rest', s', g1, g2⟩
  | 15, _ =>
    cases h3 : sgAt b i [123]
    · left
      obtain ⟨rest', s', g1, g2⟩ := sign_no15 q f c i b d rest s hov h1 h2 h3
      exact ⟨by show (15 : Nat) < 23; omega, by show signFrom b i 15 = signFrom b i 16; show (match sgAt b i [123] with | true => some [123] | false => signFrom b i 16) = _; rw [h3], rest', s', g1, g2⟩
    · right; left
      obtain ⟨rest', s', g1, g2⟩ := sign_yes15 q f c i b d rest s hov h1 h2 h3
      exact ⟨[123], by show (match sgAt b i [123] with | true => some [123] | false => signFrom b i 16) = _; rw [h3], rest', s', g1, g2⟩
  | 16, _ =>
    cases h3 : sgAt b i [125]
    · left
      obtain ⟨rest', s', g1, g2⟩ := sign_no16 q f c i b d rest s hov h1 h2 h3
      exact ⟨by show (16 : Nat) < 23; omega, by show signFrom b i 16 = signFrom b i 17; show (match sgAt b i [125] with | true => some [125] | false => signFrom b i 17) = _; rw [h3], rest', s', g1, g2⟩
    · right; left
      obtain ⟨rest', s', g1, g2⟩ := sign_yes16 q f c i b d rest s hov h1 h2 h3
      exact ⟨[125], by show (match sgAt b i [125] with | true => some [125] | false => signFrom b i 17) = _; rw [h3], rest', s', g1, g2⟩
  | 17, _ =>
    cases h3 : sgAt b i [91]
    · left
      obtain ⟨rest', s', g1, g2⟩ := sign_no17 q f c i b d rest s hov h1 h2 h3
      exact ⟨by show (17 : Nat) < 23; omega, by show signFrom b i 17 = signFrom b i 18; show (match sgAt b i [91] with | true => some [91] | false => signFrom b i 18) = _; rw [h3], rest', s', g1, g2⟩
    · right; left
      obtain ⟨rest', s', g1, g2⟩ := sign_yes17 q f c i b d rest s hov h1 h2 h3
      exact ⟨[91], by show (match sgAt b i [91] with | true => some [91] | false => signFrom b i 18) = _; rw [h3], rest', s', g1, g2⟩
  | 18, _ =>
    cases h3 : sgAt b i [93]
    · left
      obtain ⟨rest', s', g1, g2⟩ := sign_no18 q f c i b d rest s hov h1 h2 h3
      exact ⟨by show (18 : Nat) < 23; omega, by show signFrom b i 18 = signFrom b i 19; show (match sgAt b i [93] with | true => some [93] | false => signFrom b i 19) = _; rw [h3], rest', s', g1, g2⟩
    · right; left
      obtain ⟨rest', s', g1, g2⟩ := sign_yes18 q f c i b d rest s hov h1 h2 h3
      exact ⟨[93], by show (match sgAt b i [93] with | true => some [93] | false => signFrom b i 19) = _; rw [h3], rest', s', g1, g2⟩
  | 19, _ =>
    cases h3 : sgAt b i [44]
    · left
      obtain ⟨rest', s', g1, g2⟩ := sign_no19 q f c i b d rest s hov h1 h2 h3
      exact ⟨by show (19 : Nat) < 23; omega, by show signFrom b i 19 = signFrom b i 20; show (match sgAt b i [44] with | true => some [44] | false => signFrom b i 20) = _; rw [h3], rest', s', g1, g2⟩
    · right; left
      obtain ⟨rest', s', g1, g2⟩ := sign_yes19 q f c i b d rest s hov h1 h2 h3
      exact ⟨[44], by show (match sgAt b i [44] with | true => some [44] | false => signFrom b i 20) = _; rw [h3], rest', s', g1, g2⟩
  | 20, _ =>
    cases h3 : sgAt b i [59]
    · left
      obtain ⟨rest', s', g1, g2⟩ := sign_no20 q f c i b d rest s hov h1 h2 h3
      exact ⟨by show (20 : Nat) < 23; omega, by show signFrom b i 20 = signFrom b i 21; show (match sgAt b i [59] with | true => some [59] | false => signFrom b i 21) = _; rw [h3], rest', s', g1, g2⟩
    · right; left
      obtain ⟨rest', s', g1, g2⟩ := sign_yes20 q f c i b d rest s hov h1 h2 h3
      exact ⟨[59], by show (match sgAt b i [59] with | true => some [59] | false => signFrom b i 21) = _; rw [h3], rest', s', g1, g2⟩
  | 21, _ =>
    cases h3 : sgAt b i [46]
    · left
      obtain ⟨rest', s', g1, g2⟩ := sign_no21 q f c i b d rest s hov h1 h2 h3
      exact ⟨by show (21 : Nat) < 23; omega, by show signFrom b i 21 = signFrom b i 22; show (match sgAt b i [46] with | true => some [46] | false => signFrom b i 22) = _; rw [h3], rest', s', g1, g2⟩
    · right; left
      obtain ⟨rest', s', g1, g2⟩ := sign_yes21 q f c i b d rest s hov h1 h2 h3
      exact ⟨[46], by show (match sgAt b i [46] with | true => some [46] | false => signFrom b i 22) = _; rw [h3], rest', s', g1, g2⟩
  | 22, _ =>
    cases h3 : sgAt b i [35]
    · left
      obtain ⟨rest', s', g1, g2⟩ := sign_no22 q f c i b d rest s hov h1 h2 h3
      exact ⟨by show (22 : Nat) < 23; omega, by show signFrom b i 22 = signFrom b i 23; show (match sgAt b i [35] with | true => some [35] | false => signFrom b i 23) = _; rw [h3], rest', s', g1, g2⟩
    · right; left
      obtain ⟨rest', s', g1, g2⟩ := sign_yes22 q f c i b d rest s hov h1 h2 h3
      exact ⟨[35], by show (match sgAt b i [35] with | true => some [35] | false => signFrom b i 23) = _; rw [h3], rest', s', g1, g2⟩
  | 23, _ =>
    right; right
    exact ⟨rfl, sign_end q f c i b d rest s hov h1 h2⟩
  | k + 24, h => exact absurd h (by omega)

theorem sign_found (q i : Nat) (b : ByteArray) (d : List Deferred) (h1 : i ≤ b.size) (h2 : b.size ≤ 65536) (l : List UInt8) (hl : signFrom b i 0 = some l) :
    Loops2 (lx b i) (tokRow 0 0 noS 0) (evalCode EW (callN EW NN (q + 1)) NN (.loop signL)) 83 d (fun f c => sgLive f c i 0) .ret (fun f c _ => [(2, pt c)]) (fun f c nk => [(f, lx b (i + l.length)), (c, tokRow 1 (i : Int) ⟨l.toArray⟩ 0)]) := by
  intro f c rest s hov
  refine loop_pi (x := .ret) (fun k : Nat => sgLive f c i (k : Int)) (fun _ => [(f, lx b i), (c, tokRow 0 0 noS 0)]) (fun k => 23 - k) (fun k => k ≤ 23 ∧ signFrom b i k = signFrom b i 0) (by simp) (fun k hk rest s' hA => ?_) 0 ⟨Nat.zero_le _, rfl⟩ (by show 23 - 0 < 1048576; omega) hov rest
  rcases sign_round q f c i b d rest s' hA.holds h1 h2 k hk.1 with ⟨g0, g1, rest', s'', g2, g3⟩ | ⟨l', g1, rest', s'', g2, g3⟩ | ⟨g1, _⟩
  · left; exact ⟨k + 1, rest', s'', ⟨by omega, by rw [← g1]; exact hk.2⟩, by omega, g2, g3⟩
  · right
    rw [hk.2, hl] at g1
    cases g1
    exact ⟨[], rest', s'', g2, g3⟩
  · rw [hk.2, hl] at g1; cases g1

theorem sign_none (q i : Nat) (b : ByteArray) (d : List Deferred) (h1 : i ≤ b.size) (h2 : b.size ≤ 65536) (hl : signFrom b i 0 = none) :
    Loops2 (lx b i) (tokRow 0 0 noS 0) (evalCode EW (callN EW NN (q + 1)) NN (.loop signL)) 83 d (fun f c => sgLive f c i 0) (.exit 1) (fun f c _ => sgLive f c i 23) (fun f c nk => [(f, lx b i), (c, tokRow 0 0 noS 0)]) := by
  intro f c rest s hov
  refine loop_pi (x := .exit 1) (fun k : Nat => sgLive f c i (k : Int)) (fun _ => [(f, lx b i), (c, tokRow 0 0 noS 0)]) (fun k => 23 - k) (fun k => k ≤ 23 ∧ signFrom b i k = signFrom b i 0) (by simp) (fun k hk rest s' hA => ?_) 0 ⟨Nat.zero_le _, rfl⟩ (by show 23 - 0 < 1048576; omega) hov rest
  rcases sign_round q f c i b d rest s' hA.holds h1 h2 k hk.1 with ⟨g0, g1, rest', s'', g2, g3⟩ | ⟨l', g1, rest', s'', g2, g3⟩ | ⟨g1, rest', s'', g2, g3⟩
  · left; exact ⟨k + 1, rest', s'', ⟨by omega, by rw [← g1]; exact hk.2⟩, by omega, g2, g3⟩
  · rw [hk.2, hl] at g1; cases g1
  · right; exact ⟨[], rest', s'', g2, g3⟩

end Go.Proofs.YtiabpbememhdeaaDoor

/-
  The lexer's seat: 'text', whole; 'key'.
-/
set_option linter.unusedVariables false
set_option linter.unusedSimpArgs false
namespace Go.Proofs.YtiabpbememhdeaaDoor
open Go.Ai Go.RowKit
set_option maxRecDepth 100000

/-- Cells as a string. -/
abbrev strOf (cs : List Value) : ByteArray := ⟨((bytesOf cs).getD []).toArray⟩

theorem load_all {cs : List Value} {ep : Nat} {hist : List Nat} : (if 0 ≤ ep ∧ 0 + cs.length ≤ ext cs ep hist ep ∧ 0 + cs.length ≤ cs.length then some ((cs.drop 0).take cs.length) else none) = some cs := by
  rw [if_pos ⟨Nat.zero_le _, by simp [ext], by omega⟩]
  simp

theorem textc_bad (q i : Nat) (b : ByteArray) (h1 : i < b.size) (h2 : b.size ≤ 65536) (a e : Int) (hb : textGo b i (i + 1) [] = .bad a e) :
    Calls1 (lx b i) (fun f => callN EW NN (q + 1 + 1) fText [pt f]) (fun _ _ => .pan (wrong a e)) (fun f nk => []) := by
  intro f s hov
  have l1 := (text_bad q i b [] h1 h2 a e hb).ev
  exact fnkj_by hov [.m 0 0, .m 0 0, .m 0 0, .int 0 (wrap_i64 (n := (↑i : Int) + (1 : Int)) (by omega) (by omega)), .m 0 0, .m 0 0, .loop 1 0 [0, 1] l1, .m 0 0] [] [] (by kernel_rfl) (by kernel_rfl)

theorem textc_empty (q i : Nat) (b : ByteArray) (h1 : i < b.size) (h2 : b.size ≤ 65536) (j : Nat) (hb : textGo b i (i + 1) [] = .done j []) (h3 : j < b.size) :
    Calls1 (lx b i) (fun f => callN EW NN (q + 1 + 1) fText [pt f]) (fun _ _ => .ok (.agg (tokC 3 (i : Int) noS 0).toArray)) (fun f nk => [(f, lx b (j + 1))]) := by
  intro f s hov
  have l1 := (text_done0 q i b [] h1 h2 j hb).ev
  exact fnkj_by hov [.m 0 0, .m 0 0, .m 0 0, .int 0 (wrap_i64 (n := (↑i : Int) + (1 : Int)) (by omega) (by omega)), .m 0 0, .m 0 0, .loop 1 0 [0, 1] l1, .m 0 0, .int 0 (wrap_i64 (n := (↑j : Int) + (1 : Int)) (by omega) (by omega)), .m 0 0, .m 0 0, .m 0 1, .m 0 1, .m 0 1, .m 0 0] [] [0] (by kernel_rfl) (by kernel_rfl)

theorem textc_long (q i : Nat) (b : ByteArray) (h1 : i < b.size) (h2 : b.size ≤ 65536) (j : Nat) (cs : List Value) (hne : cs ≠ []) (hb : textGo b i (i + 1) [] = .done j cs) (h3 : j < b.size) (h4 : cs.length ≤ j) (h5 : cs.length > 16384) :
    Calls1 (lx b i) (fun f => callN EW NN (q + 1 + 1) fText [pt f]) (fun _ _ => .pan (wrong (i : Int) 2)) (fun f nk => [(f, lx b (j + 1))]) := by
  intro f s hov
  have l1 := (text_done1 q i b [] h1 h2 j cs hne hb).ev
  have l2 := (give_ok (q + 0) f (i : Int) 2).ev
  exact fnkj_by hov [.m 0 0, .m 0 0, .m 0 0, .int 0 (wrap_i64 (n := (↑i : Int) + (1 : Int)) (by omega) (by omega)), .m 0 0, .m 0 0, .loop 1 0 [0, 1] l1, .m 0 0, .int 0 (wrap_i64 (n := (↑j : Int) + (1 : Int)) (by omega) (by omega)), .m 0 0, .m 0 0, .yes 0 (show (16384 : Int) < (↑(List.length cs) : Int) from by omega), .call 0 0 [] l2, .m 0 0] [] [0] (by kernel_rfl) (by kernel_rfl)

theorem textc_ok (q i : Nat) (b : ByteArray) (h1 : i < b.size) (h2 : b.size ≤ 65536) (j : Nat) (cs : List Value) (hne : cs ≠ []) (hb : textGo b i (i + 1) [] = .done j cs) (h3 : j < b.size) (h4 : cs.length ≤ j) (h5 : ¬ cs.length > 16384) (h6 : (bytesOf cs).isSome = true) :
    Calls1 (lx b i) (fun f => callN EW NN (q + 1 + 1) fText [pt f]) (fun _ _ => .ok (.agg (tokC 3 (i : Int) (strOf cs) 0).toArray)) (fun f nk => [(f, lx b (j + 1))]) := by
  intro f s hov
  have l1 := (text_done1 q i b [] h1 h2 j cs hne hb).ev
  have l2 := load_all (cs := cs) (ep := cs.length - 1) (hist := histOf (cs.length - 1))
  exact fnkj_by hov [.m 0 0, .m 0 0, .m 0 0, .int 0 (wrap_i64 (n := (↑i : Int) + (1 : Int)) (by omega) (by omega)), .m 0 0, .m 0 0, .loop 1 0 [0, 1] l1, .m 0 0, .int 0 (wrap_i64 (n := (↑j : Int) + (1 : Int)) (by omega) (by omega)), .m 0 0, .m 0 0, .no 0 (show ¬ ((16384 : Int) < (↑(List.length cs) : Int)) from by omega), .m 0 2, .list 0 l2, .is 0 h6, .m 0 1, .m 0 1, .m 0 1, .m 0 0] [] [0] (by kernel_rfl) (by kernel_rfl)

def fKeyG : FuncId := 12
abbrev sp : ByteArray := ⟨#[32]⟩
noncomputable abbrev keyIn (s : ByteArray) : Bool := Lib.contains keyList (sp ++ s ++ sp).data.toList
noncomputable def keyG (s : ByteArray) : Bool := if Lib.contains s.data.toList [32] = true then false else keyIn s

theorem keyG_ok (q : Nat) (s : ByteArray) (h1 : s.size ≤ 65536) : Calls0 (callN EW NN (q + 1) fKeyG [.string s]) (fun _ => .ok (.bool (keyG s))) (fun _ => []) := by
  intro st
  unfold keyG
  have h2 : (sp ++ s).size = 1 + s.size := by rw [ByteArray.size_append]; rfl
  have h5 : (sp ++ s).size + 1 ≤ 4611686018427387904 := by omega
  have h3 : (decide ((sp ++ s ++ sp).size = 1) || decide (92 < 4294967281)) = true := by simp
  cases h4 : Lib.contains s.data.toList [32]
  · simp only [Bool.false_eq_true, if_false]
    exact fnkj_by (holds_nil st) [.is 1 (congrArg not h4), .is 0 (congrArg not h4), .yes 0 (show (1 : Nat) + ByteArray.size s ≤ (4611686018427387904 : Nat) from by omega), .is 0 (congrArg not h4), .yes 0 h5, .is 0 (congrArg not h4), .is 0 h3, .is 0 (congrArg not h4), .m 0 0] [] [] (by kernel_rfl) (by kernel_rfl)
  · simp only [if_true]
    exact fnkj_by (holds_nil st) [.is 1 (congrArg not h4), .is 0 (congrArg not h4), .is 0 (congrArg not h4), .is 0 (congrArg not h4), .is 0 (congrArg not h4), .m 0 0] [] [] (by kernel_rfl) (by kernel_rfl)

end Go.Proofs.YtiabpbememhdeaaDoor

/-
  The lexer's seat: 'word'.
-/
set_option linter.unusedVariables false
set_option linter.unusedSimpArgs false
namespace Go.Proofs.YtiabpbememhdeaaDoor
open Go.Ai Go.RowKit
set_option maxRecDepth 100000

structure Tk where
  k : Int
  a : Int
  s : ByteArray
  n : Int

abbrev Tk.cells (t : Tk) : List Value := tokC t.k t.a t.s t.n

/-- What a word comes to. -/
inductive WR where
  | bad (a e : Int)
  | tok (t : Tk) (to : Nat)

noncomputable def nameR (b : ByteArray) (i : Nat) : WR := .tok ⟨if keyG (b.extract i (runTo isName b i)) = true then 1 else 0, (i : Int), b.extract i (runTo isName b i), 0⟩ (runTo isName b i)
noncomputable def numR (b : ByteArray) (i : Nat) : WR := match numBad b i (numEnd b i) with
  | some (a, e) => .bad a e
  | none => .tok ⟨2, (i : Int), noS, numN b i (numEnd b i)⟩ (numEnd b i)
def textR (b : ByteArray) (i : Nat) : WR := match textGo b i (i + 1) [] with
  | .bad a e => .bad a e
  | .done j cs => if cs.length > 16384 then .bad (i : Int) 2 else .tok ⟨3, (i : Int), strOf cs, 0⟩ (j + 1)
def signR (b : ByteArray) (i : Nat) : WR := match signFrom b i 0 with
  | some l => .tok ⟨1, (i : Int), ⟨l.toArray⟩, 0⟩ (i + l.length)
  | none => .bad (i : Int) 4
noncomputable def wordR (b : ByteArray) (i : Nat) : WR := if isLetter (byt b i) = true then nameR b i else if isDigit (byt b i) = true then numR b i else if (byt b i == 34) = true then textR b i else signR b i

abbrev WordOk (q i : Nat) (b : ByteArray) (r : WR) : Prop := match r with
  | .bad a e => Calls1 (lx b i) (fun f => callN EW NN (q + 3 + 1) fWord [pt f]) (fun _ _ => .pan (wrong a e)) (fun f nk => [])
  | .tok t to => Calls1 (lx b i) (fun f => callN EW NN (q + 3 + 1) fWord [pt f]) (fun _ _ => .ok (.agg t.cells.toArray)) (fun f nk => [(f, lx b to)])

theorem word_name (q i : Nat) (b : ByteArray) (h1 : i < b.size) (h2 : b.size ≤ 65536) (h3 : isLetter (byt b i) = true) : WordOk q i b (nameR b i) := by
  unfold nameR
  intro f s hov
  have h4 := runTo_ge isName b i
  have h5 := runTo_le isName b i (by omega)
  have e1 : (b.extract i (runTo isName b i)).size = runTo isName b i - i := by rw [ext_size _ h5]
  have l1 := (while_name (q + 2) b i (by omega) h2).ev
  have l2 := (keyG_ok (q + 2) (b.extract i (runTo isName b i)) (by omega)).ev
  cases h6 : keyG (b.extract i (runTo isName b i))
  · simp only [Bool.false_eq_true, if_false]
    exact fnkj_by hov [.m 0 0, .m 0 0, .m 0 0, .m 0 0, .yes 2 h1, .is 1 h3, .call 0 0 [0] l1, .m 0 1, .m 0 1, .yes 3 h4, .yes 0 h5, .call 0 0 [] l2, .is 0 h6, .m 0 0, .m 0 0, .m 0 0, .m 0 0] [] [1] (by kernel_rfl) (by kernel_rfl)
  · simp only [if_true]
    exact fnkj_by hov [.m 0 0, .m 0 0, .m 0 0, .m 0 0, .yes 2 h1, .is 1 h3, .call 0 0 [0] l1, .m 0 1, .m 0 1, .yes 3 h4, .yes 0 h5, .call 0 0 [] l2, .is 0 h6, .m 0 0, .m 0 0, .m 0 0, .m 0 0] [] [1] (by kernel_rfl) (by kernel_rfl)

theorem word_num (q i : Nat) (b : ByteArray) (h1 : i < b.size) (h2 : b.size ≤ 65536) (h3 : isLetter (byt b i) = false) (h4 : isDigit (byt b i) = true) : WordOk q i b (numR b i) := by
  unfold numR
  cases hb : numBad b i (numEnd b i) with
  | none =>
    have l1 := (number_good q i b (by omega) h2 hb).ev
    intro f s hov
    exact fnkj_by hov [.m 0 0, .m 0 0, .m 0 0, .m 0 0, .yes 2 h1, .is 1 h3, .is 1 h4, .call 0 0 [0] l1, .m 0 0, .m 0 0, .m 0 0, .m 0 0] [] [1] (by kernel_rfl) (by kernel_rfl)
  | some ae =>
    obtain ⟨a, e⟩ := ae
    have l1 := (number_bad q i b (by omega) h2 a e hb).ev
    intro f s hov
    exact fnkj_by hov [.m 0 0, .m 0 0, .m 0 0, .m 0 0, .yes 2 h1, .is 1 h3, .is 1 h4, .call 0 0 [0] l1, .m 0 0] [] [] (by kernel_rfl) (by kernel_rfl)

theorem word_text (q i : Nat) (b : ByteArray) (h1 : i < b.size) (h2 : b.size ≤ 65536) (h3 : isLetter (byt b i) = false) (h4 : isDigit (byt b i) = false) (h5 : (byt b i == 34) = true) : WordOk q i b (textR b i) := by
  unfold textR
  cases hb : textGo b i (i + 1) [] with
  | bad a e =>
    have l1 := (textc_bad (q + 1) i b h1 h2 a e hb).ev
    intro f s hov
    exact fnkj_by hov [.m 0 0, .m 0 0, .m 0 0, .m 0 0, .yes 2 h1, .is 1 h3, .is 1 h4, .is 0 h5, .call 0 0 [0] l1, .m 0 0] [] [] (by kernel_rfl) (by kernel_rfl)
  | done j cs =>
    obtain ⟨g1, g2, g3, g4⟩ := text_fine b i (i + 1) [] j cs hb rfl (Nat.zero_le _)
    by_cases hl : cs.length > 16384
    · simp only [hl, if_true]
      have hne : cs ≠ [] := by rintro rfl; simp at hl
      have l1 := (textc_long (q + 1) i b h1 h2 j cs hne hb g3 g4 hl).ev
      intro f s hov
      exact fnkj_by hov [.m 0 0, .m 0 0, .m 0 0, .m 0 0, .yes 2 h1, .is 1 h3, .is 1 h4, .is 0 h5, .call 0 0 [0] l1, .m 0 0] [] [] (by kernel_rfl) (by kernel_rfl)
    · simp only [hl, if_false]
      by_cases hne : cs = []
      · subst hne
        have l1 := (textc_empty (q + 1) i b h1 h2 j hb g3).ev
        intro f s hov
        exact fnkj_by hov [.m 0 0, .m 0 0, .m 0 0, .m 0 0, .yes 2 h1, .is 1 h3, .is 1 h4, .is 0 h5, .call 0 0 [0] l1, .m 0 0, .m 0 0, .m 0 0, .m 0 0] [] [1] (by kernel_rfl) (by kernel_rfl)
      · have l1 := (textc_ok (q + 1) i b h1 h2 j cs hne hb g3 g4 hl g1).ev
        intro f s hov
        exact fnkj_by hov [.m 0 0, .m 0 0, .m 0 0, .m 0 0, .yes 2 h1, .is 1 h3, .is 1 h4, .is 0 h5, .call 0 0 [0] l1, .m 0 0, .m 0 0, .m 0 0, .m 0 0] [] [1] (by kernel_rfl) (by kernel_rfl)

theorem word_sign (q i : Nat) (b : ByteArray) (h1 : i < b.size) (h2 : b.size ≤ 65536) (h3 : isLetter (byt b i) = false) (h4 : isDigit (byt b i) = false) (h5 : (byt b i == 34) = false) : WordOk q i b (signR b i) := by
  unfold signR
  cases hb : signFrom b i 0 with
  | some l =>
    have l1 := (sign_found (q + 2) i b [] (by omega) h2 l hb).ev
    intro f s hov
    exact fnkj_by hov [.m 0 0, .m 0 0, .m 0 0, .m 0 0, .yes 2 h1, .is 1 h3, .is 1 h4, .is 0 h5, .loop 3 0 [0, 1] l1, .m 0 1, .m 0 0] [] [0] (by kernel_rfl) (by kernel_rfl)
  | none =>
    have l1 := (sign_none (q + 2) i b [] (by omega) h2 hb).ev
    intro f s hov
    have l2 := (give_ok (q + 2) f (i : Int) 4).ev
    exact fnkj_by hov [.m 0 0, .m 0 0, .m 0 0, .m 0 0, .yes 2 h1, .is 1 h3, .is 1 h4, .is 0 h5, .loop 3 0 [0, 1] l1, .call 0 0 [] l2, .m 0 0] [] [] (by kernel_rfl) (by kernel_rfl)

theorem word_ok (q i : Nat) (b : ByteArray) (h1 : i < b.size) (h2 : b.size ≤ 65536) : WordOk q i b (wordR b i) := by
  unfold wordR
  cases h3 : isLetter (byt b i)
  · cases h4 : isDigit (byt b i)
    · cases h5 : byt b i == 34
      · exact word_sign q i b h1 h2 h3 h4 h5
      · exact word_text q i b h1 h2 h3 h4 h5
    · exact word_num q i b h1 h2 h3 h4
  · exact word_name q i b h1 h2 h3

end Go.Proofs.YtiabpbememhdeaaDoor

/-
  The lexer's seat: 'Words', its loop's rounds.
-/
set_option linter.unusedVariables false
set_option linter.unusedSimpArgs false
namespace Go.Proofs.YtiabpbememhdeaaDoor
open Go.Ai Go.RowKit
set_option maxRecDepth 100000

def fWords : FuncId := 9
noncomputable def wordsL : Code := loopAt Tryd.prog fWords 0
abbrev cell (v : Value) : AObj := .row [v] 1 0 0 []
abbrev wsLive (f c : Nat) (b : ByteArray) (v3 v4 : Value) : List (Nat × Value) := [(0, .string b), (2, pt c), (3, v3), (4, v4), (5, pt f)]

theorem wordsA_end (q f c i : Nat) (b : ByteArray) (v3 v4 : Value) (d : List Deferred) (rest : Nat → Value) (s : St) (hov : Holds s [(f, lx b i), (c, cell (.slice none 0 0))]) (h2 : b.size ≤ 65536) (h1 : ¬ i < b.size) (h3 : i ≤ b.size)  :
    ∃ rest' s', evalCode EW (callN EW NN (q + 3 + 1)) NN wordsL { tmps := tmpsOf 44 (wsLive f c b v3 v4) rest, defers := d } s = some (.exit 0, { tmps := tmpsOf 44 (wsLive f c b v3 v4) rest', defers := d }, s') ∧ After s s' [f, c] [(f, lx b i), (c, cell (.slice none 0 0))] := by
  exact roundj_by hov [.m 0 0, .no 1 (show ¬ ((↑i : Int) < (↑(ByteArray.size b) : Int)) from by omega), .m 0 0] [0, 1] (by kernel_rfl)

theorem wordsA_bad (q f c i : Nat) (b : ByteArray) (v3 v4 : Value) (d : List Deferred) (rest : Nat → Value) (s : St) (hov : Holds s [(f, lx b i), (c, cell (.slice none 0 0))]) (h2 : b.size ≤ 65536) (h1 : i < b.size) (a e : Int) (hr : wordR b i = .bad a e)  :
    ∃ rest' s', evalCode EW (callN EW NN (q + 3 + 1)) NN wordsL { tmps := tmpsOf 44 (wsLive f c b v3 v4) rest, defers := d } s = some (.panic (wrong a e), { tmps := tmpsOf 44 [(2, pt c), (3, v3), (4, v4)] rest', defers := d }, s') ∧ After s s' [f, c] [(c, cell (.slice none 0 0))] := by
  have l1 := word_ok q i b h1 h2
  rw [hr] at l1
  have l1 := Calls1.ev l1
  exact roundj_by hov [.m 0 0, .yes 1 (show (↑i : Int) < (↑(ByteArray.size b) : Int) from by omega), .call 0 0 [0] l1, .m 0 0] [0] (by kernel_rfl)

theorem wordsA_tok (q f c i : Nat) (b : ByteArray) (v3 v4 : Value) (d : List Deferred) (rest : Nat → Value) (s : St) (hov : Holds s [(f, lx b i), (c, cell (.slice none 0 0))]) (h2 : b.size ≤ 65536) (h1 : i < b.size) (t : Tk) (to : Nat) (hr : wordR b i = .tok t to) (h3 : to ≤ b.size)  :
    ∃ (nk : List Nat), ∃ rest' s', evalCode EW (callN EW NN (q + 3 + 1)) NN wordsL { tmps := tmpsOf 44 (wsLive f c b v3 v4) rest, defers := d } s = some (.normal, { tmps := tmpsOf 44 (wsLive f c b v3 v4) rest', defers := d }, s') ∧ After s s' [f, c] [(f, lx b (blanksG b to)), (c, cell (.slice (some ⟨nk.getD 0 0, 0, some 0⟩) 1 unc)), (nk.getD 0 0, .row t.cells 4 0 0 [])] := by
  have l1 := word_ok q i b h1 h2
  rw [hr] at l1
  have l1 := Calls1.ev l1
  have l2 := (blanks_ok (q + 2) b to h3 h2).ev
  exact roundkj_by hov [.m 0 0, .yes 1 (show (↑i : Int) < (↑(ByteArray.size b) : Int) from by omega), .call 0 0 [0] l1, .m 0 0, .m 0 2, .m 0 2, .m 0 0, .m 0 0, .m 0 2, .m 0 0, .m 0 3, .m 0 0, .m 0 0, .m 0 0, .call 0 0 [1] l2, .m 0 0] [3] [4, 0, 3] (by kernel_rfl) (by kernel_rfl)

theorem wordsB_end (q f c i : Nat) (r ep n : Nat) (hist : List Nat) (cs : List Value) (hc : cs.length = 4 * n) (hn : n ≤ 16384) (b : ByteArray) (v3 v4 : Value) (d : List Deferred) (rest : Nat → Value) (s : St) (hov : Holds s [(f, lx b i), (c, cell (.slice (some ⟨r, 0, some ep⟩) n unc)), (r, .row cs 4 ep 0 hist)]) (h2 : b.size ≤ 65536) (h1 : ¬ i < b.size) (h3 : i ≤ b.size)  :
    ∃ rest' s', evalCode EW (callN EW NN (q + 3 + 1)) NN wordsL { tmps := tmpsOf 44 (wsLive f c b v3 v4) rest, defers := d } s = some (.exit 0, { tmps := tmpsOf 44 (wsLive f c b v3 v4) rest', defers := d }, s') ∧ After s s' [f, c, r] [(f, lx b i), (c, cell (.slice (some ⟨r, 0, some ep⟩) n unc)), (r, .row cs 4 ep 0 hist)] := by
  exact roundj_by hov [.m 0 0, .no 1 (show ¬ ((↑i : Int) < (↑(ByteArray.size b) : Int)) from by omega), .m 0 0] [0, 1, 2] (by kernel_rfl)

theorem wordsB_bad (q f c i : Nat) (r ep n : Nat) (hist : List Nat) (cs : List Value) (hc : cs.length = 4 * n) (hn : n ≤ 16384) (b : ByteArray) (v3 v4 : Value) (d : List Deferred) (rest : Nat → Value) (s : St) (hov : Holds s [(f, lx b i), (c, cell (.slice (some ⟨r, 0, some ep⟩) n unc)), (r, .row cs 4 ep 0 hist)]) (h2 : b.size ≤ 65536) (h1 : i < b.size) (a e : Int) (hr : wordR b i = .bad a e)  :
    ∃ rest' s', evalCode EW (callN EW NN (q + 3 + 1)) NN wordsL { tmps := tmpsOf 44 (wsLive f c b v3 v4) rest, defers := d } s = some (.panic (wrong a e), { tmps := tmpsOf 44 [(2, pt c), (3, v3), (4, v4)] rest', defers := d }, s') ∧ After s s' [f, c, r] [(c, cell (.slice (some ⟨r, 0, some ep⟩) n unc))] := by
  have l1 := word_ok q i b h1 h2
  rw [hr] at l1
  have l1 := Calls1.ev l1
  exact roundj_by hov [.m 0 0, .yes 1 (show (↑i : Int) < (↑(ByteArray.size b) : Int) from by omega), .call 0 0 [0] l1, .m 0 0] [0] (by kernel_rfl)

theorem wordsB_tok (q f c i : Nat) (r ep n : Nat) (hist : List Nat) (cs : List Value) (hc : cs.length = 4 * n) (hn : n ≤ 16384) (b : ByteArray) (v3 v4 : Value) (d : List Deferred) (rest : Nat → Value) (s : St) (hov : Holds s [(f, lx b i), (c, cell (.slice (some ⟨r, 0, some ep⟩) n unc)), (r, .row cs 4 ep 0 hist)]) (h2 : b.size ≤ 65536) (h1 : i < b.size) (t : Tk) (to : Nat) (hr : wordR b i = .tok t to) (h3 : to ≤ b.size) (hm : ¬ n = 16384)  :
    ∃ rest' s', evalCode EW (callN EW NN (q + 3 + 1)) NN wordsL { tmps := tmpsOf 44 (wsLive f c b v3 v4) rest, defers := d } s = some (.normal, { tmps := tmpsOf 44 (wsLive f c b v3 v4) rest', defers := d }, s') ∧ After s s' [f, c, r] [(f, lx b (blanksG b to)), (c, cell (.slice (some ⟨r, 0, some (ep + 1)⟩) (n + 1) unc)), (r, .row (cs ++ t.cells) 4 (ep + 1) 0 (cs.length :: hist))] := by
  have l1 := word_ok q i b h1 h2
  rw [hr] at l1
  have l1 := Calls1.ev l1
  have l2 := (blanks_ok (q + 2) b to h3 h2).ev
  exact roundj_by hov [.m 0 0, .yes 1 (show (↑i : Int) < (↑(ByteArray.size b) : Int) from by omega), .call 0 0 [0] l1, .m 0 0, .m 0 3, .m 0 3, .m 0 0, .is 1 (show ((↑n : Int) == (16384 : Int)) = false from beq_eq_false_iff_ne.2 (by omega)), .m 0 0, .m 0 3, .m 0 0, .m 0 4, .yes 2 (show (n + (1 : Nat)) * (40 : Nat) ≤ (70368744177664 : Nat) ∧ n + (1 : Nat) < (4611686018427387904 : Nat) from by omega), .m 0 1, .yes 0 (show ep = ep ∧ (0 : Nat) ≤ ep ∧ (4 : Nat) = (4 : Nat) ∧ (0 : Nat) ≤ List.length cs from by omega), .no 1 (show ¬ ((0 : Nat) + (n + (1 : Nat)) * (4 : Nat) ≤ List.length cs) from by omega), .yes 0 (show (0 : Nat) + n * (4 : Nat) = List.length cs from by omega), .m 0 1, .m 0 0, .m 0 0, .call 0 0 [2] l2, .m 0 0] [4, 0, 1] (by kernel_rfl)

theorem wordsB_many (q f c i : Nat) (r ep n : Nat) (hist : List Nat) (cs : List Value) (hc : cs.length = 4 * n) (hn : n ≤ 16384) (b : ByteArray) (v3 v4 : Value) (d : List Deferred) (rest : Nat → Value) (s : St) (hov : Holds s [(f, lx b i), (c, cell (.slice (some ⟨r, 0, some ep⟩) n unc)), (r, .row cs 4 ep 0 hist)]) (h2 : b.size ≤ 65536) (h1 : i < b.size) (t : Tk) (to : Nat) (hr : wordR b i = .tok t to) (h3 : to ≤ b.size) (hm : n = 16384)  :
    ∃ rest' s', evalCode EW (callN EW NN (q + 3 + 1)) NN wordsL { tmps := tmpsOf 44 (wsLive f c b v3 v4) rest, defers := d } s = some (.panic (wrong t.a 2), { tmps := tmpsOf 44 [(2, pt c), (3, v3), (4, v4)] rest', defers := d }, s') ∧ After s s' [f, c, r] [(c, cell (.slice (some ⟨r, 0, some ep⟩) n unc))] := by
  have l1 := word_ok q i b h1 h2
  rw [hr] at l1
  have l1 := Calls1.ev l1
  have l3 := (give_ok (q + 3) f t.a 2).ev
  exact roundj_by hov [.m 0 0, .yes 1 (show (↑i : Int) < (↑(ByteArray.size b) : Int) from by omega), .call 0 0 [0] l1, .m 0 0, .m 0 3, .m 0 3, .m 0 0, .is 1 (show ((↑n : Int) == (16384 : Int)) = true from beq_iff_eq.2 (by omega)), .m 0 3, .call 0 0 [] l3, .m 0 0] [0] (by kernel_rfl)

end Go.Proofs.YtiabpbememhdeaaDoor

/-
  The lexer's seat: 'Words', whole.
-/
set_option linter.unusedVariables false
set_option linter.unusedSimpArgs false
namespace Go.Proofs.YtiabpbememhdeaaDoor
open Go.Ai Go.RowKit
set_option maxRecDepth 100000

theorem runTo_more {p : Int → Bool} {b : ByteArray} {i : Nat} (h : i < b.size) (hp : p (byt b i) = true) : i < runTo p b i := by
  rw [runTo, if_pos h, if_pos hp]
  exact runTo_ge p b (i + 1)

theorem sign_at {b : ByteArray} {i : Nat} {l : List UInt8} (h : signFrom b i 0 = some l) : l ∈ signs ∧ l <+: b.data.toList.drop i := by
  have h1 := List.mem_of_find?_eq_some h
  have h2 := List.find?_some h
  simp only [sgAt, bytes_rest] at h2
  unfold Lib.hasPrefix at h2
  exact ⟨h1, List.isPrefixOf_iff_prefix.1 h2⟩

theorem signs_len : ∀ l ∈ signs, 1 ≤ l.length := by decide

theorem word_more {b : ByteArray} {i : Nat} {t : Tk} {to : Nat} (hi : i < b.size) (h : wordR b i = .tok t to) : i < to ∧ to ≤ b.size ∧ t.a = (i : Int) := by
  unfold wordR at h
  split at h
  next h1 =>
    unfold nameR at h
    cases h
    exact ⟨runTo_more hi (by unfold isName; rw [h1]; rfl), runTo_le _ _ _ (by omega), rfl⟩
  next =>
    split at h
    next h1 =>
      unfold numR at h
      split at h
      · cases h
      · cases h
        obtain ⟨g1, g2, _⟩ := numEnd_le b i (by omega)
        have := runTo_more (p := isDigit) hi h1
        exact ⟨by omega, g2, rfl⟩
    next =>
      split at h
      next h1 =>
        unfold textR at h
        split at h
        · cases h
        next j cs hb =>
          split at h
          · cases h
          · cases h
            obtain ⟨g1, g2, g3, g4⟩ := text_fine b i (i + 1) [] j cs hb rfl (Nat.zero_le _)
            exact ⟨by omega, by omega, rfl⟩
      next =>
        unfold signR at h
        split at h
        next l hl =>
          cases h
          obtain ⟨g1, g2⟩ := sign_at hl
          have := signs_len l g1
          have h3 := g2.length_le
          rw [List.length_drop, bytes_length] at h3
          exact ⟨by omega, by omega, rfl⟩
        · cases h

/-- What a script's words come to. -/
inductive WsR where
  | bad (a e : Int)
  | done (l : List Tk)

theorem words_less {b : ByteArray} {i : Nat} {t : Tk} {to : Nat} (hi : i < b.size) (h : wordR b i = .tok t to) : b.size - blanksG b to < b.size - i := by
  obtain ⟨h1, h2, _⟩ := word_more hi h
  have := blanksG_le b to h2
  omega

noncomputable def wordsGo (b : ByteArray) (i : Nat) (acc : List Tk) : WsR :=
  if hi : i < b.size then
    match hr : wordR b i with
    | .bad a e => .bad a e
    | .tok t to => if acc.length = 16384 then .bad t.a 2 else wordsGo b (blanksG b to) (acc ++ [t])
  else .done acc
termination_by b.size - i
decreasing_by exact words_less hi hr

theorem wordsGo_end {b : ByteArray} {i : Nat} {acc : List Tk} (h : ¬ i < b.size) : wordsGo b i acc = .done acc := by rw [wordsGo, dif_neg h]
theorem wordsGo_bad {b : ByteArray} {i : Nat} {acc : List Tk} {a e : Int} (h : i < b.size) (hr : wordR b i = .bad a e) : wordsGo b i acc = .bad a e := by
  rw [wordsGo, dif_pos h]
  split
  next h' => rw [hr] at h'; cases h'; rfl
  next h' => rw [hr] at h'; cases h'
theorem wordsGo_tok {b : ByteArray} {i : Nat} {acc : List Tk} {t : Tk} {to : Nat} (h : i < b.size) (hr : wordR b i = .tok t to) : wordsGo b i acc = if acc.length = 16384 then .bad t.a 2 else wordsGo b (blanksG b to) (acc ++ [t]) := by
  rw [wordsGo, dif_pos h]
  split
  next h' => rw [hr] at h'; cases h'
  next h' => rw [hr] at h'; cases h'; rfl

noncomputable def wordsG (b : ByteArray) : WsR := wordsGo b (blanksG b 0) []

def cellsOf (l : List Tk) : List Value := l.flatMap Tk.cells
theorem cellsOf_more (l : List Tk) (t : Tk) : cellsOf (l ++ [t]) = cellsOf l ++ t.cells := by simp [cellsOf]
theorem cellsOf_length (l : List Tk) : (cellsOf l).length = 4 * l.length := by
  induction l with
  | nil => rfl
  | cons t l ih =>
    have : cellsOf (t :: l) = t.cells ++ cellsOf l := rfl
    rw [this, List.length_append, ih, List.length_cons]
    show 4 + 4 * l.length = 4 * (l.length + 1)
    omega

/-- How often a row of wider cells has grown. -/
def histE (e : Nat) : Nat → List Nat
  | 0 => []
  | n + 1 => (e * (n + 1)) :: histE e n

structure WsS where
  i : Nat
  l : List Tk
  m : Option Nat

def wsCells (p : WsS) (c : Nat) : Cache := match p.m with
  | none => [(c, cell (.slice none 0 0))]
  | some r => [(c, cell (.slice (some ⟨r, 0, some (p.l.length - 1)⟩) p.l.length unc)), (r, .row (cellsOf p.l) 4 (p.l.length - 1) 0 (histE 4 (p.l.length - 1)))]

def WsI (b : ByteArray) (p : WsS) : Prop := p.i ≤ b.size ∧ wordsGo b p.i p.l = wordsG b ∧ (p.m = none → p.l = []) ∧ (p.m ≠ none → p.l ≠ []) ∧ p.l.length ≤ 16384

def wsO : List Nat → Option Addr
  | [r, n] => some ⟨r, 0, some (n - 1)⟩
  | _ => none
def wsC : List Nat → Nat
  | [_, _] => unc
  | _ => 0
abbrev wsV (nk : List Nat) : Value := .slice (wsO nk) (nk.getD 1 0) (wsC nk)

/-- A round that ends it badly. -/
def WsBad (q f c : Nat) (b : ByteArray) (v3 v4 : Value) (d : List Deferred) (ks : List Nat) (rest : Nat → Value) (s : St) : Prop :=
  ∃ a e nk, wordsG b = .bad a e ∧ ∃ rest' s', evalCode EW (callN EW NN (q + 3 + 1)) NN wordsL { tmps := tmpsOf 44 (wsLive f c b v3 v4) rest, defers := d } s = some (.panic (wrong a e), { tmps := tmpsOf 44 [(2, pt c), (3, v3), (4, v4)] rest', defers := d }, s') ∧ After s s' ks [(c, cell (wsV nk))]

theorem words_round (q f c : Nat) (b : ByteArray) (v3 v4 : Value) (d : List Deferred) (h2 : b.size ≤ 65536) (p : WsS) (hp : WsI b p) (rest : Nat → Value) (s : St) (hov : Holds s ([(f, lx b p.i)] ++ wsCells p c)) :
    (∃ p' rest' s', WsI b p' ∧ b.size - p'.i < b.size - p.i ∧ evalCode EW (callN EW NN (q + 3 + 1)) NN wordsL { tmps := tmpsOf 44 (wsLive f c b v3 v4) rest, defers := d } s = some (.normal, { tmps := tmpsOf 44 (wsLive f c b v3 v4) rest', defers := d }, s') ∧
      After s s' (keysOf ([(f, lx b p.i)] ++ wsCells p c)) ([(f, lx b p'.i)] ++ wsCells p' c)) ∨
    WsBad q f c b v3 v4 d (keysOf ([(f, lx b p.i)] ++ wsCells p c)) rest s ∨
    (wordsG b = .done p.l ∧ ∃ rest' s', evalCode EW (callN EW NN (q + 3 + 1)) NN wordsL { tmps := tmpsOf 44 (wsLive f c b v3 v4) rest, defers := d } s = some (.exit 0, { tmps := tmpsOf 44 (wsLive f c b v3 v4) rest', defers := d }, s') ∧
      After s s' (keysOf ([(f, lx b p.i)] ++ wsCells p c)) ([(f, lx b p.i)] ++ wsCells p c)) := by
  obtain ⟨i, l, m⟩ := p
  obtain ⟨i1, i2, i3, i4, i5⟩ := hp
  simp only at i1 i2 i3 i4 i5 hov ⊢
  cases m with
  | none =>
    have i3 : l = [] := i3 rfl
    subst i3
    by_cases h1 : i < b.size
    · cases hr : wordR b i with
      | bad a e =>
        right; left
        exact ⟨a, e, [], by rw [← i2, wordsGo_bad h1 hr], wordsA_bad q f c i b v3 v4 d rest s hov h2 h1 a e hr⟩
      | tok t to =>
        left
        obtain ⟨g1, g2, _⟩ := word_more h1 hr
        have g3 := blanksG_le b to g2
        obtain ⟨nk, rest', s', e1, e2⟩ := wordsA_tok q f c i b v3 v4 d rest s hov h2 h1 t to hr g2
        exact ⟨⟨blanksG b to, [t], some (nk.getD 0 0)⟩, rest', s', ⟨g3.2, by rw [← i2, wordsGo_tok h1 hr]; rfl, by simp, by simp, by simp⟩, by show b.size - blanksG b to < b.size - i; omega, e1, e2⟩
    · right; right
      exact ⟨by rw [← i2, wordsGo_end h1], wordsA_end q f c i b v3 v4 d rest s hov h2 h1 i1⟩
  | some r =>
    have i4 : l ≠ [] := i4 (by simp)
    have i6 : 0 < l.length := List.length_pos_iff.2 i4
    have hc := cellsOf_length l
    by_cases h1 : i < b.size
    · cases hr : wordR b i with
      | bad a e =>
        right; left
        exact ⟨a, e, [r, l.length], by rw [← i2, wordsGo_bad h1 hr], wordsB_bad q f c i r (l.length - 1) l.length (histE 4 (l.length - 1)) (cellsOf l) hc i5 b v3 v4 d rest s hov h2 h1 a e hr⟩
      | tok t to =>
        obtain ⟨g1, g2, _⟩ := word_more h1 hr
        by_cases hm : l.length = 16384
        · right; left
          exact ⟨t.a, 2, [r, l.length], by rw [← i2, wordsGo_tok h1 hr, if_pos hm], wordsB_many q f c i r (l.length - 1) l.length (histE 4 (l.length - 1)) (cellsOf l) hc i5 b v3 v4 d rest s hov h2 h1 t to hr g2 hm⟩
        · left
          have g3 := blanksG_le b to g2
          obtain ⟨rest', s', e1, e2⟩ := wordsB_tok q f c i r (l.length - 1) l.length (histE 4 (l.length - 1)) (cellsOf l) hc i5 b v3 v4 d rest s hov h2 h1 t to hr g2 hm
          refine ⟨⟨blanksG b to, l ++ [t], some r⟩, rest', s', ⟨g3.2, by rw [← i2, wordsGo_tok h1 hr, if_neg hm], by simp, by simp, by simp; omega⟩, by show b.size - blanksG b to < b.size - i; omega, e1, ?_⟩
          have k1 : (l ++ [t]).length = l.length + 1 := by simp
          have k2 : l.length - 1 + 1 = l.length := by omega
          have k3 : histE 4 l.length = (cellsOf l).length :: histE 4 (l.length - 1) := by
            obtain ⟨n, hn⟩ : ∃ n, l.length = n + 1 := ⟨l.length - 1, by omega⟩
            rw [hc, hn]
            rfl
          have : wsCells ⟨blanksG b to, l ++ [t], some r⟩ c = [(c, cell (.slice (some ⟨r, 0, some (l.length - 1 + 1)⟩) (l.length + 1) unc)), (r, .row (cellsOf l ++ t.cells) 4 (l.length - 1 + 1) 0 ((cellsOf l).length :: histE 4 (l.length - 1)))] := by
            unfold wsCells
            simp only [k1, Nat.add_sub_cancel, k2, cellsOf_more, k3]
          rw [this]
          exact e2
    · right; right
      exact ⟨by rw [← i2, wordsGo_end h1], wordsB_end q f c i r (l.length - 1) l.length (histE 4 (l.length - 1)) (cellsOf l) hc i5 b v3 v4 d rest s hov h2 h1 i1⟩

def wsStart (b : ByteArray) : WsS := ⟨blanksG b 0, [], none⟩
theorem wsStart_ok (b : ByteArray) : WsI b (wsStart b) := ⟨(blanksG_le b 0 (Nat.zero_le _)).2, rfl, fun _ => rfl, fun h => (h rfl).elim, Nat.zero_le _⟩

theorem words_bad (q : Nat) (b : ByteArray) (v3 v4 : Value) (d : List Deferred) (h2 : b.size ≤ 65536) (a e : Int) (hb : wordsG b = .bad a e) :
    Loops2 (lx b (blanksG b 0)) (cell (.slice none 0 0)) (evalCode EW (callN EW NN (q + 3 + 1)) NN (.loop wordsL)) 44 d (fun f c => wsLive f c b v3 v4) (.panic (wrong a e)) (fun f c _ => [(2, pt c), (3, v3), (4, v4)]) (fun f c nk => [(c, cell (wsV nk))]) := by
  intro f c rest s hov
  refine loop_pi (x := .panic (wrong a e)) (fun _ => wsLive f c b v3 v4) (fun p => [(f, lx b p.i)] ++ wsCells p c) (fun p => b.size - p.i) (WsI b) (by simp) (fun p hp rest s' hA => ?_) (wsStart b) (wsStart_ok b) (by show b.size - _ < 1048576; omega) hov rest
  rcases words_round q f c b v3 v4 d h2 p hp rest s' hA.holds with h | ⟨a', e', nk, g0, rest', s'', g1, g2⟩ | ⟨g0, _⟩
  · exact .inl h
  · rw [hb] at g0
    cases g0
    exact .inr ⟨nk, rest', s'', g1, g2⟩
  · rw [hb] at g0; cases g0

theorem words_done0 (q : Nat) (b : ByteArray) (v3 v4 : Value) (d : List Deferred) (h2 : b.size ≤ 65536) (hb : wordsG b = .done []) :
    Loops2 (lx b (blanksG b 0)) (cell (.slice none 0 0)) (evalCode EW (callN EW NN (q + 3 + 1)) NN (.loop wordsL)) 44 d (fun f c => wsLive f c b v3 v4) (.exit 0) (fun f c _ => wsLive f c b v3 v4) (fun f c nk => [(c, cell (.slice none 0 0))]) := by
  intro f c rest s hov
  refine loop_pi (x := .exit 0) (fun _ => wsLive f c b v3 v4) (fun p => [(f, lx b p.i)] ++ wsCells p c) (fun p => b.size - p.i) (WsI b) (by simp) (fun p hp rest s' hA => ?_) (wsStart b) (wsStart_ok b) (by show b.size - _ < 1048576; omega) hov rest
  rcases words_round q f c b v3 v4 d h2 p hp rest s' hA.holds with h | ⟨a', e', nk, g0, rest', s'', g1, g2⟩ | ⟨g0, rest', s'', g1, g2⟩
  · exact .inl h
  · rw [hb] at g0; cases g0
  · rw [hb] at g0
    have e1 := WsR.done.inj g0
    have hm : p.m = none := by
      rcases hm : p.m with _ | m
      · rfl
      · exact absurd e1.symm (hp.2.2.2.1 (by simp [hm]))
    refine .inr ⟨[], rest', s'', g1, g2.sub ?_⟩
    unfold wsCells
    rw [hm]
    simp

theorem words_done1 (q : Nat) (b : ByteArray) (v3 v4 : Value) (d : List Deferred) (h2 : b.size ≤ 65536) (l : List Tk) (hne : l ≠ []) (hb : wordsG b = .done l) :
    Loops2 (lx b (blanksG b 0)) (cell (.slice none 0 0)) (evalCode EW (callN EW NN (q + 3 + 1)) NN (.loop wordsL)) 44 d (fun f c => wsLive f c b v3 v4) (.exit 0) (fun f c _ => wsLive f c b v3 v4)
      (fun f c nk => [(c, cell (.slice (some ⟨nk.getD 0 0, 0, some (l.length - 1)⟩) l.length unc)), (nk.getD 0 0, .row (cellsOf l) 4 (l.length - 1) 0 (histE 4 (l.length - 1)))]) := by
  intro f c rest s hov
  refine loop_pi (x := .exit 0) (fun _ => wsLive f c b v3 v4) (fun p => [(f, lx b p.i)] ++ wsCells p c) (fun p => b.size - p.i) (WsI b) (by simp) (fun p hp rest s' hA => ?_) (wsStart b) (wsStart_ok b) (by show b.size - _ < 1048576; omega) hov rest
  rcases words_round q f c b v3 v4 d h2 p hp rest s' hA.holds with h | ⟨a', e', nk, g0, rest', s'', g1, g2⟩ | ⟨g0, rest', s'', g1, g2⟩
  · exact .inl h
  · rw [hb] at g0; cases g0
  · rw [hb] at g0
    have e1 := WsR.done.inj g0
    rcases hm : p.m with _ | r
    · exact absurd (e1.trans (hp.2.2.1 hm)) hne
    · refine .inr ⟨[r], rest', s'', g1, g2.sub ?_⟩
      unfold wsCells
      rw [hm, e1]
      simp

end Go.Proofs.YtiabpbememhdeaaDoor

/-
  The lexer's seat: what 'Words' answers.
-/
set_option linter.unusedVariables false
set_option linter.unusedSimpArgs false
namespace Go.Proofs.YtiabpbememhdeaaDoor
open Go.Ai Go.RowKit
set_option maxRecDepth 100000

theorem wordsF_long (q : Nat) (b : ByteArray) (h1 : b.size > 65536) : Calls0 (callN EW NN (q + 3 + 1 + 1) fWords [.string b]) (fun _ => .ok (.tuple #[.slice none 0 0, .int .i64 0, .int .i64 2])) (fun _ => []) := by
  intro s
  exact fnkj_by (holds_nil s) [.m 0 0, .m 0 0, .m 0 0, .yes 0 (show (65536 : Int) < (↑(ByteArray.size b) : Int) from by omega), .m 0 0, .m 0 0, .m 0 1, .m 0 1, .m 0 2, .m 0 2, .m 0 0, .m 0 1, .m 0 2, .m 0 0] [] [] (by kernel_rfl) (by kernel_rfl)

abbrev dW (n : Nat) : List Deferred := [{ target := .fn (.func 14) #[pt n, pt (n + 1), pt (n + 2)], args := #[] }]

theorem wordsF_bad (q : Nat) (b : ByteArray) (h1 : b.size ≤ 65536) (a e : Int) (hb : wordsG b = .bad a e) : Calls0 (callN EW NN (q + 3 + 1 + 1) fWords [.string b]) (fun _ => .ok (.tuple #[.slice none 0 0, .int .i64 a, .int .i64 e])) (fun _ => []) := by
  intro s
  have h2 := (blanksG_le b 0 (Nat.zero_le _)).2
  have l1 := (blanks_ok (q + 2) b 0 (Nat.zero_le _) h1).ev
  have l2 := (words_bad q b (pt (s.next + 1)) (pt (s.next + 2)) (dW s.next) h1 a e hb).ev
  exact fnkj_by (holds_nil s) [.m 0 0, .m 0 0, .m 0 0, .no 0 (show ¬ ((65536 : Int) < (↑(ByteArray.size b) : Int)) from by omega), .m 0 0, .call 0 0 [3] l1, .loop 1 0 [3, 0] l2, .m 0 0, .m 0 3, .m 0 3, .m 0 3, .m 0 3, .m 0 2, .m 0 2, .m 0 0, .m 0 0, .m 0 1, .m 0 1, .m 3 3, .m 2 3, .m 3 3, .m 2 3, .m 1 3, .m 0 2, .m 0 0, .m 0 1, .m 0 0] [] [] (by kernel_rfl) (by kernel_rfl)

abbrev endT (b : ByteArray) : Tk := ⟨4, (b.size : Int), noS, 0⟩

theorem wordsF_none (q : Nat) (b : ByteArray) (h1 : b.size ≤ 65536) (hb : wordsG b = .done []) : Calls0 (callN EW NN (q + 3 + 1 + 1) fWords [.string b]) (fun nk => .ok (.tuple #[.slice (some ⟨nk.getD 0 0, 0, some 0⟩) 1 unc, .int .i64 0, .int .i64 0])) (fun nk => [(nk.getD 0 0, .row (endT b).cells 4 0 0 [])]) := by
  intro s
  have h2 := (blanksG_le b 0 (Nat.zero_le _)).2
  have l1 := (blanks_ok (q + 2) b 0 (Nat.zero_le _) h1).ev
  have l2 := (words_done0 q b (pt (s.next + 1)) (pt (s.next + 2)) (dW s.next) h1 hb).ev
  exact fnkj_by (holds_nil s) [.m 0 0, .m 0 0, .m 0 0, .no 0 (show ¬ ((65536 : Int) < (↑(ByteArray.size b) : Int)) from by omega), .m 0 0, .call 0 0 [3] l1, .loop 1 0 [3, 0] l2, .m 0 2, .m 0 0, .m 0 3, .m 0 0, .m 0 2, .m 0 2, .m 0 0, .m 0 0, .m 0 1, .m 0 1, .m 0 2, .m 0 0, .m 0 1, .m 0 0] [4] [4] (by kernel_rfl) (by kernel_rfl)

theorem wordsF_some (q : Nat) (b : ByteArray) (h1 : b.size ≤ 65536) (l : List Tk) (hne : l ≠ []) (hl : l.length ≤ 16384) (hb : wordsG b = .done l) : Calls0 (callN EW NN (q + 3 + 1 + 1) fWords [.string b])
    (fun nk => .ok (.tuple #[.slice (some ⟨nk.getD 0 0, 0, some (l.length - 1 + 1)⟩) (l.length + 1) unc, .int .i64 0, .int .i64 0])) (fun nk => [(nk.getD 0 0, .row (cellsOf l ++ (endT b).cells) 4 (l.length - 1 + 1) 0 ((cellsOf l).length :: histE 4 (l.length - 1)))]) := by
  intro s
  have h2 := (blanksG_le b 0 (Nat.zero_le _)).2
  have h3 := cellsOf_length l
  have l1 := (blanks_ok (q + 2) b 0 (Nat.zero_le _) h1).ev
  have l2 := (words_done1 q b (pt (s.next + 1)) (pt (s.next + 2)) (dW s.next) h1 l hne hb).ev
  exact fnkj_by (holds_nil s) [.m 0 0, .m 0 0, .m 0 0, .no 0 (show ¬ ((65536 : Int) < (↑(ByteArray.size b) : Int)) from by omega), .m 0 0, .call 0 0 [3] l1, .loop 1 0 [3, 0] l2, .m 0 2, .m 0 0, .m 0 4, .yes 2 (show (List.length l + (1 : Nat)) * (40 : Nat) ≤ (70368744177664 : Nat) ∧   List.length l + (1 : Nat) < (4611686018427387904 : Nat) from by omega), .m 0 3, .yes 0 (show List.length l - (1 : Nat) = List.length l - (1 : Nat) ∧   (0 : Nat) ≤ List.length l - (1 : Nat) ∧ (4 : Nat) = (4 : Nat) ∧ (0 : Nat) ≤ List.length (cellsOf l) from by omega), .no 1 (show ¬ ((0 : Nat) + (List.length l + (1 : Nat)) * (4 : Nat) ≤ List.length (cellsOf l)) from by omega), .yes 0 (show (0 : Nat) + List.length l * (4 : Nat) = List.length (cellsOf l) from by omega), .m 0 3, .m 0 2, .m 0 2, .m 0 0, .m 0 0, .m 0 1, .m 0 1, .m 0 2, .m 0 0, .m 0 1, .m 0 0] [3] [3] (by kernel_rfl) (by kernel_rfl)

end Go.Proofs.YtiabpbememhdeaaDoor

/-
  The lexer's seat: the reference's 'Skip' where words begin; words, told once for all.
-/
set_option linter.unusedVariables false
set_option linter.unusedSimpArgs false
namespace Go.Proofs.YtiabpbememhdeaaDoor
open Go.Ai Go.RowKit
set_option maxRecDepth 100000

def fKind : FuncId := 18
abbrev KindIs (q : Nat) (c r : Int) : Prop := Calls0 (callN EW NN (q + 1) fKind [.int .u8 c]) (fun _ => .ok (.int .i64 r)) (fun _ => [])
theorem kind_a (q : Nat) (c : Int) (h1 : c ≥ 123) : KindIs q c 0 := by
  intro s
  exact fnkj_by (holds_nil s) [.yes 0 (show (97 : Int) ≤ c from by omega), .yes 0 (show (97 : Int) ≤ c from by omega), .yes 0 (show (97 : Int) ≤ c from by omega), .no 0 (show ¬ (c ≤ (122 : Int)) from by omega), .no 0 (show ¬ (c ≤ (122 : Int)) from by omega), .no 0 (show ¬ (c ≤ (122 : Int)) from by omega), .yes 0 (show (65 : Int) ≤ c from by omega), .yes 0 (show (65 : Int) ≤ c from by omega), .no 0 (show ¬ (c ≤ (122 : Int)) from by omega), .yes 0 (show (65 : Int) ≤ c from by omega), .no 0 (show ¬ (c ≤ (122 : Int)) from by omega), .no 0 (show ¬ (c ≤ (90 : Int)) from by omega), .no 0 (show ¬ (c ≤ (90 : Int)) from by omega), .no 0 (show ¬ (c ≤ (90 : Int)) from by omega), .is 0 (show (c == (95 : Int)) = false from beq_eq_false_iff_ne.2 (by omega)), .yes 0 (show (48 : Int) ≤ c from by omega), .yes 0 (show (48 : Int) ≤ c from by omega), .yes 0 (show (48 : Int) ≤ c from by omega), .no 0 (show ¬ (c ≤ (57 : Int)) from by omega), .is 0 (show (c == (32 : Int)) = false from beq_eq_false_iff_ne.2 (by omega)), .is 0 (show (c == (32 : Int)) = false from beq_eq_false_iff_ne.2 (by omega)), .is 0 (show (c == (32 : Int)) = false from beq_eq_false_iff_ne.2 (by omega)), .is 0 (show (c == (9 : Int)) = false from beq_eq_false_iff_ne.2 (by omega)), .is 0 (show (c == (9 : Int)) = false from beq_eq_false_iff_ne.2 (by omega)), .is 0 (show (c == (9 : Int)) = false from beq_eq_false_iff_ne.2 (by omega)), .is 0 (show (c == (10 : Int)) = false from beq_eq_false_iff_ne.2 (by omega)), .is 0 (show (c == (10 : Int)) = false from beq_eq_false_iff_ne.2 (by omega)), .is 0 (show (c == (10 : Int)) = false from beq_eq_false_iff_ne.2 (by omega)), .is 0 (show (c == (13 : Int)) = false from beq_eq_false_iff_ne.2 (by omega)), .m 0 0] [] [] (by kernel_rfl) (by kernel_rfl)
theorem kind_b (q : Nat) (c : Int) (h1 : c ≥ 97) (h2 : c ≤ 122) : KindIs q c 1 := by
  intro s
  exact fnkj_by (holds_nil s) [.yes 0 h1, .yes 0 h1, .yes 0 h1, .yes 0 h2, .yes 0 h2, .yes 0 h2, .yes 0 h2, .yes 0 h2, .m 0 0] [] [] (by kernel_rfl) (by kernel_rfl)
theorem kind_c (q : Nat) (c : Int) (h1 : c = 96) : KindIs q c 0 := by
  intro s
  exact fnkj_by (holds_nil s) [.int 1 h1, .int 0 h1, .int 0 h1, .int 0 h1, .int 0 h1, .int 0 h1, .int 0 h1, .int 0 h1, .int 0 h1, .int 0 h1, .m 0 0] [] [] (by kernel_rfl) (by kernel_rfl)
theorem kind_d (q : Nat) (c : Int) (h1 : c = 95) : KindIs q c 1 := by
  intro s
  exact fnkj_by (holds_nil s) [.int 1 h1, .int 0 h1, .int 0 h1, .int 0 h1, .m 0 0] [] [] (by kernel_rfl) (by kernel_rfl)
theorem kind_e (q : Nat) (c : Int) (h1 : c ≥ 91) (h2 : c ≤ 94) : KindIs q c 0 := by
  intro s
  exact fnkj_by (holds_nil s) [.no 0 (show ¬ ((97 : Int) ≤ c) from by omega), .no 0 (show ¬ ((97 : Int) ≤ c) from by omega), .no 0 (show ¬ ((97 : Int) ≤ c) from by omega), .yes 3 (show (65 : Int) ≤ c from by omega), .yes 0 (show (65 : Int) ≤ c from by omega), .yes 1 (show (65 : Int) ≤ c from by omega), .no 1 (show ¬ (c ≤ (90 : Int)) from by omega), .no 0 (show ¬ (c ≤ (90 : Int)) from by omega), .no 0 (show ¬ (c ≤ (90 : Int)) from by omega), .is 0 (show (c == (95 : Int)) = false from beq_eq_false_iff_ne.2 (by omega)), .yes 0 (show (48 : Int) ≤ c from by omega), .yes 0 (show (48 : Int) ≤ c from by omega), .yes 0 (show (48 : Int) ≤ c from by omega), .no 0 (show ¬ (c ≤ (57 : Int)) from by omega), .is 0 (show (c == (32 : Int)) = false from beq_eq_false_iff_ne.2 (by omega)), .is 0 (show (c == (32 : Int)) = false from beq_eq_false_iff_ne.2 (by omega)), .is 0 (show (c == (32 : Int)) = false from beq_eq_false_iff_ne.2 (by omega)), .is 0 (show (c == (9 : Int)) = false from beq_eq_false_iff_ne.2 (by omega)), .is 0 (show (c == (9 : Int)) = false from beq_eq_false_iff_ne.2 (by omega)), .is 0 (show (c == (9 : Int)) = false from beq_eq_false_iff_ne.2 (by omega)), .is 0 (show (c == (10 : Int)) = false from beq_eq_false_iff_ne.2 (by omega)), .is 0 (show (c == (10 : Int)) = false from beq_eq_false_iff_ne.2 (by omega)), .is 0 (show (c == (10 : Int)) = false from beq_eq_false_iff_ne.2 (by omega)), .is 0 (show (c == (13 : Int)) = false from beq_eq_false_iff_ne.2 (by omega)), .m 0 0] [] [] (by kernel_rfl) (by kernel_rfl)
theorem kind_f (q : Nat) (c : Int) (h1 : c ≥ 65) (h2 : c ≤ 90) : KindIs q c 1 := by
  intro s
  exact fnkj_by (holds_nil s) [.no 0 (show ¬ ((97 : Int) ≤ c) from by omega), .no 0 (show ¬ ((97 : Int) ≤ c) from by omega), .no 0 (show ¬ ((97 : Int) ≤ c) from by omega), .yes 3 h1, .yes 0 h1, .yes 1 h1, .yes 1 h2, .yes 0 h2, .yes 0 h2, .m 0 0] [] [] (by kernel_rfl) (by kernel_rfl)
theorem kind_g (q : Nat) (c : Int) (h1 : c ≥ 58) (h2 : c ≤ 64) : KindIs q c 0 := by
  intro s
  exact fnkj_by (holds_nil s) [.no 0 (show ¬ ((97 : Int) ≤ c) from by omega), .no 0 (show ¬ ((97 : Int) ≤ c) from by omega), .no 0 (show ¬ ((97 : Int) ≤ c) from by omega), .no 3 (show ¬ ((65 : Int) ≤ c) from by omega), .no 0 (show ¬ ((65 : Int) ≤ c) from by omega), .no 1 (show ¬ ((65 : Int) ≤ c) from by omega), .is 4 (show (c == (95 : Int)) = false from beq_eq_false_iff_ne.2 (by omega)), .yes 0 (show (48 : Int) ≤ c from by omega), .yes 0 (show (48 : Int) ≤ c from by omega), .yes 0 (show (48 : Int) ≤ c from by omega), .no 0 (show ¬ (c ≤ (57 : Int)) from by omega), .is 0 (show (c == (32 : Int)) = false from beq_eq_false_iff_ne.2 (by omega)), .is 0 (show (c == (32 : Int)) = false from beq_eq_false_iff_ne.2 (by omega)), .is 0 (show (c == (32 : Int)) = false from beq_eq_false_iff_ne.2 (by omega)), .is 0 (show (c == (9 : Int)) = false from beq_eq_false_iff_ne.2 (by omega)), .is 0 (show (c == (9 : Int)) = false from beq_eq_false_iff_ne.2 (by omega)), .is 0 (show (c == (9 : Int)) = false from beq_eq_false_iff_ne.2 (by omega)), .is 0 (show (c == (10 : Int)) = false from beq_eq_false_iff_ne.2 (by omega)), .is 0 (show (c == (10 : Int)) = false from beq_eq_false_iff_ne.2 (by omega)), .is 0 (show (c == (10 : Int)) = false from beq_eq_false_iff_ne.2 (by omega)), .is 0 (show (c == (13 : Int)) = false from beq_eq_false_iff_ne.2 (by omega)), .m 0 0] [] [] (by kernel_rfl) (by kernel_rfl)
theorem kind_h (q : Nat) (c : Int) (h1 : c ≥ 48) (h2 : c ≤ 57) : KindIs q c 2 := by
  intro s
  exact fnkj_by (holds_nil s) [.no 0 (show ¬ ((97 : Int) ≤ c) from by omega), .no 0 (show ¬ ((97 : Int) ≤ c) from by omega), .no 0 (show ¬ ((97 : Int) ≤ c) from by omega), .no 3 (show ¬ ((65 : Int) ≤ c) from by omega), .no 0 (show ¬ ((65 : Int) ≤ c) from by omega), .no 1 (show ¬ ((65 : Int) ≤ c) from by omega), .is 4 (show (c == (95 : Int)) = false from beq_eq_false_iff_ne.2 (by omega)), .yes 0 h1, .yes 0 h1, .yes 0 h1, .yes 0 h2, .m 0 0] [] [] (by kernel_rfl) (by kernel_rfl)
theorem kind_i (q : Nat) (c : Int) (h1 : c ≤ 47) (h2 : ¬ c = 32) (h3 : ¬ c = 9) (h4 : ¬ c = 10) (h5 : ¬ c = 13) : KindIs q c 0 := by
  intro s
  exact fnkj_by (holds_nil s) [.no 0 (show ¬ ((97 : Int) ≤ c) from by omega), .no 0 (show ¬ ((97 : Int) ≤ c) from by omega), .no 0 (show ¬ ((97 : Int) ≤ c) from by omega), .no 3 (show ¬ ((65 : Int) ≤ c) from by omega), .no 0 (show ¬ ((65 : Int) ≤ c) from by omega), .no 1 (show ¬ ((65 : Int) ≤ c) from by omega), .is 4 (show (c == (95 : Int)) = false from beq_eq_false_iff_ne.2 (by omega)), .no 0 (show ¬ ((48 : Int) ≤ c) from by omega), .no 0 (show ¬ ((48 : Int) ≤ c) from by omega), .no 0 (show ¬ ((48 : Int) ≤ c) from by omega), .no 1 h2, .no 0 h2, .no 0 h2, .no 0 h3, .no 0 h3, .no 0 h3, .no 0 h4, .no 0 h4, .no 0 h4, .no 0 h5, .m 0 0] [] [] (by kernel_rfl) (by kernel_rfl)

theorem kind_no (q : Nat) (c : Int) (h : isBlank c = false) : ∃ r, r ≠ 3 ∧ KindIs q c r := by
  unfold isBlank at h
  simp only [Bool.or_eq_false_iff, beq_eq_false_iff_ne, ne_eq] at h
  obtain ⟨⟨⟨h1, h2⟩, h3⟩, h4⟩ := h
  by_cases g1 : c ≥ 123
  · exact ⟨_, by omega, kind_a q c g1⟩
  by_cases g2 : c ≥ 97
  · exact ⟨_, by omega, kind_b q c g2 (by omega)⟩
  by_cases g3 : c = 96
  · exact ⟨_, by omega, kind_c q c g3⟩
  by_cases g4 : c = 95
  · exact ⟨_, by omega, kind_d q c g4⟩
  by_cases g5 : c ≥ 91
  · exact ⟨_, by omega, kind_e q c g5 (by omega)⟩
  by_cases g6 : c ≥ 65
  · exact ⟨_, by omega, kind_f q c g6 (by omega)⟩
  by_cases g7 : c ≥ 58
  · exact ⟨_, by omega, kind_g q c g7 (by omega)⟩
  by_cases g8 : c ≥ 48
  · exact ⟨_, by omega, kind_h q c g8 (by omega)⟩
  exact ⟨_, by omega, kind_i q c (by omega) h1 h2 h3 h4⟩

def fSkip : FuncId := 10
abbrev SkipAt (q : Nat) (b : ByteArray) (p : Nat) : Prop := Calls0 (callN EW NN (q + 2) fSkip [.string b, .int .i64 (p : Int)]) (fun _ => .ok (.int .i64 (p : Int))) (fun _ => [])

theorem skip_end (q : Nat) (b : ByteArray) (p : Nat) (h : p = b.size) : SkipAt q b p := by
  intro s
  subst h
  exact fnkj_by (holds_nil s) [.no 0 (show ¬ ((↑(ByteArray.size b) : Int) < (↑(ByteArray.size b) : Int)) from by omega), .m 0 0] [] [] (by kernel_rfl) (by kernel_rfl)
theorem skip_a (q : Nat) (b : ByteArray) (p : Nat) (h : p < b.size) (hb : isBlank (byt b p) = false) (h1 : (byt b p == 45) = false) : SkipAt q b p := by
  intro s
  obtain ⟨r, hr, l⟩ := kind_no q (byt b p) hb
  have l1 := l.ev
  exact fnkj_by (holds_nil s) [.yes 0 (show (↑p : Int) < (↑(ByteArray.size b) : Int) from by omega), .yes 1 h, .call 0 0 [] l1, .is 0 (show (r == (3 : Int)) = false from beq_eq_false_iff_ne.2 (by omega)), .yes 1 h, .is 0 h1, .is 0 h1, .is 0 h1, .is 0 h1, .is 0 h1, .is 0 h1, .m 0 0] [] [] (by kernel_rfl) (by kernel_rfl)
theorem skip_b (q : Nat) (b : ByteArray) (p : Nat) (h : p < b.size) (h2 : b.size ≤ 65536) (hb : isBlank (byt b p) = false) (h1 : (byt b p == 45) = true) (h3 : ¬ p + 1 < b.size) : SkipAt q b p := by
  intro s
  obtain ⟨r, hr, l⟩ := kind_no q (byt b p) hb
  have l1 := l.ev
  exact fnkj_by (holds_nil s) [.yes 0 (show (↑p : Int) < (↑(ByteArray.size b) : Int) from by omega), .yes 1 h, .call 0 0 [] l1, .is 0 (show (r == (3 : Int)) = false from beq_eq_false_iff_ne.2 (by omega)), .yes 1 h, .is 0 h1, .is 0 h1, .int 0 (wrap_i64 (n := (↑p : Int) + (1 : Int)) (by omega) (by omega)), .is 0 h1, .is 0 h1, .is 0 h1, .is 0 h1, .no 0 (show ¬ ((↑p : Int) + (1 : Int) < (↑(ByteArray.size b) : Int)) from by omega), .no 0 (show ¬ ((↑p : Int) + (1 : Int) < (↑(ByteArray.size b) : Int)) from by omega), .no 0 (show ¬ ((↑p : Int) + (1 : Int) < (↑(ByteArray.size b) : Int)) from by omega), .no 0 (show ¬ ((↑p : Int) + (1 : Int) < (↑(ByteArray.size b) : Int)) from by omega), .no 0 (show ¬ ((↑p : Int) + (1 : Int) < (↑(ByteArray.size b) : Int)) from by omega), .no 0 (show ¬ ((↑p : Int) + (1 : Int) < (↑(ByteArray.size b) : Int)) from by omega), .m 0 0] [] [] (by kernel_rfl) (by kernel_rfl)
theorem skip_c (q : Nat) (b : ByteArray) (p : Nat) (h : p < b.size) (h2 : b.size ≤ 65536) (hb : isBlank (byt b p) = false) (h1 : (byt b p == 45) = true) (h3 : p + 1 < b.size) (h4 : (byt b (p + 1) == 45) = false) : SkipAt q b p := by
  intro s
  obtain ⟨r, hr, l⟩ := kind_no q (byt b p) hb
  have l1 := l.ev
  exact fnkj_by (holds_nil s) [.yes 0 (show (↑p : Int) < (↑(ByteArray.size b) : Int) from by omega), .yes 1 h, .call 0 0 [] l1, .is 0 (show (r == (3 : Int)) = false from beq_eq_false_iff_ne.2 (by omega)), .yes 1 h, .is 0 h1, .is 0 h1, .int 0 (wrap_i64 (n := (↑p : Int) + (1 : Int)) (by omega) (by omega)), .is 0 h1, .is 0 h1, .is 0 h1, .is 0 h1, .yes 0 (show (↑p : Int) + (1 : Int) < (↑(ByteArray.size b) : Int) from by omega), .yes 0 (show (↑p : Int) + (1 : Int) < (↑(ByteArray.size b) : Int) from by omega), .yes 0 (show (↑p : Int) + (1 : Int) < (↑(ByteArray.size b) : Int) from by omega), .int 0 (wrap_i64 (n := (↑p : Int) + (1 : Int)) (by omega) (by omega)), .yes 0 (show (↑p : Int) + (1 : Int) < (↑(ByteArray.size b) : Int) from by omega), .yes 1 h3, .yes 0 (show (↑p : Int) + (1 : Int) < (↑(ByteArray.size b) : Int) from by omega), .yes 0 (show (↑p : Int) + (1 : Int) < (↑(ByteArray.size b) : Int) from by omega), .is 0 h4, .m 0 0] [] [] (by kernel_rfl) (by kernel_rfl)

/-- A word may begin here. -/
def Starts (b : ByteArray) (p : Nat) : Prop := p ≤ b.size ∧ (p < b.size → isBlank (byt b p) = false ∧ dd b p = false)

theorem dd_no {b : ByteArray} {p : Nat} (h3 : p + 1 < b.size) (h : dd b p = false) (h1 : (byt b p == 45) = true) : (byt b (p + 1) == 45) = false := by
  rcases h4 : byt b (p + 1) == 45 with _ | _
  · rfl
  · exfalso
    obtain ⟨c, e1, e2⟩ := at_byt (show p < b.size by omega)
    obtain ⟨c', e3, e4⟩ := at_byt h3
    simp only [beq_iff_eq] at h1 h4
    have k1 : c = 45 := UInt8.toNat_inj.1 (by have : (c.toNat : Int) = 45 := by rw [← e2, h1]
                                              show c.toNat = 45; omega)
    have k2 : c' = 45 := UInt8.toNat_inj.1 (by have : (c'.toNat : Int) = 45 := by rw [← e4, h4]
                                               show c'.toNat = 45; omega)
    subst k1; subst k2
    unfold dd at h
    rw [bytes_rest, prefix2_of e1 e3] at h
    cases h

theorem skip_ok (q : Nat) (b : ByteArray) (p : Nat) (h2 : b.size ≤ 65536) (hs : Starts b p) : SkipAt q b p := by
  obtain ⟨h0, h⟩ := hs
  by_cases hp : p < b.size
  · obtain ⟨hb, hd⟩ := h hp
    cases h1 : byt b p == 45
    · exact skip_a q b p hp hb h1
    · by_cases h3 : p + 1 < b.size
      · exact skip_c q b p hp h2 hb h1 h3 (dd_no h3 hd h1)
      · exact skip_b q b p hp h2 hb h1 h3
  · exact skip_end q b p (by omega)

theorem runTo_stop (p : Int → Bool) (b : ByteArray) (i : Nat) (h : runTo p b i < b.size) : p (byt b (runTo p b i)) = false := by
  rw [runTo] at h ⊢
  split at h
  next h1 =>
    split at h
    next h2 =>
      simp only [h1, h2, if_true] at h ⊢
      exact runTo_stop p b (i + 1) h
    next h2 =>
      simp only [h1, h2, if_true, if_false] at h ⊢
      simpa using h2
  next h1 => omega
termination_by b.size - i

theorem blanks_starts (b : ByteArray) (i : Nat) (hi : i ≤ b.size) : Starts b (blanksG b i) := by
  rw [blanksG]
  split
  next h => exact blanks_starts b _ h.2.2
  next h =>
    have h1 := runTo_le isBlank b i hi
    refine ⟨h1, fun h2 => ⟨runTo_stop isBlank b i h2, ?_⟩⟩
    cases h3 : dd b (runTo isBlank b i)
    · rfl
    · have h4 := dd_more h3
      have h5 := runTo_ge isBlank b i
      exact absurd ⟨h3, by omega, h4.2⟩ h
termination_by b.size - i

/-- Tokens as they lie there. -/
abbrev tokRows (L : List Tk) : AObj := .row (cellsOf L) 4 (L.length - 1) 0 (histE 4 (L.length - 1))

theorem wordsF_ok (q : Nat) (b : ByteArray) (h1 : b.size ≤ 65536) (l : List Tk) (hl : l.length ≤ 16384) (hb : wordsG b = .done l) : Calls0 (callN EW NN (q + 3 + 1 + 1) fWords [.string b])
    (fun nk => .ok (.tuple #[.slice (some ⟨nk.getD 0 0, 0, some l.length⟩) (l.length + 1) unc, .int .i64 0, .int .i64 0])) (fun nk => [(nk.getD 0 0, tokRows (l ++ [endT b]))]) := by
  by_cases hne : l = []
  · subst hne
    exact wordsF_none q b h1 hb
  · have h0 := wordsF_some q b h1 l hne hl hb
    have h3 : 0 < l.length := List.length_pos_iff.2 hne
    have e1 : l.length - 1 + 1 = l.length := by omega
    have e2 : (l ++ [endT b]).length - 1 = l.length := by simp
    have e3 : histE 4 l.length = (cellsOf l).length :: histE 4 (l.length - 1) := by
      obtain ⟨n, hn⟩ : ∃ n, l.length = n + 1 := ⟨l.length - 1, by omega⟩
      rw [cellsOf_length, hn]
      rfl
    simp only [tokRows, e2, cellsOf_more, e3]
    simp only [e1] at h0
    exact h0

end Go.Proofs.YtiabpbememhdeaaDoor

/-
  The lexer's seat: 'LexBetween', walked.
-/
set_option linter.unusedVariables false
set_option linter.unusedSimpArgs false
namespace Go.Proofs.YtiabpbememhdeaaDoor
open Go.Ai Go.RowKit
set_option maxRecDepth 100000

theorem cellsOf_at {L : List Tk} {i : Nat} {t : Tk} (h : L[i]? = some t) (f : Nat) (hf : f < 4) : (cellsOf L)[i * 4 + f]? = t.cells[f]? := by
  induction L generalizing i with
  | nil => simp at h
  | cons x L ih =>
    have e : cellsOf (x :: L) = x.cells ++ cellsOf L := rfl
    have e4 : x.cells.length = 4 := rfl
    rw [e]
    cases i with
    | zero =>
      simp only [List.getElem?_cons_zero, Option.some.injEq] at h
      subst h
      rw [List.getElem?_append_left (by omega), Nat.zero_mul, Nat.zero_add]
    | succ i =>
      rw [List.getElem?_append_right (by omega), e4, show (i + 1) * 4 + f - 4 = i * 4 + f by omega]
      exact ih (by simpa using h)

theorem take_one {l : List Value} {i : Nat} {v : Value} (h : l[i]? = some v) : (l.drop i).take 1 = [v] := by
  obtain ⟨h1, h2⟩ := List.getElem?_eq_some_iff.1 h
  rw [List.drop_eq_getElem_cons h1, h2]
  rfl

/-- A field of a token is read. -/
theorem tok_read {L : List Tk} {i : Nat} {t : Tk} (h : L[i]? = some t) (f : Nat) (hf : f < 4) {v : Value} (hv : t.cells[f]? = some v) {o : Nat} (ho : o = i * 4 + f) :
    (if 0 ≤ L.length - 1 ∧ o + 1 ≤ ext (cellsOf L) (L.length - 1) (histE 4 (L.length - 1)) (L.length - 1) ∧ o + 1 ≤ (cellsOf L).length then some (((cellsOf L).drop o).take 1) else none) = some [v] := by
  subst ho
  have h1 := cellsOf_at h f hf
  rw [hv] at h1
  have h2 := (List.getElem?_eq_some_iff.1 h1).1
  rw [if_pos ⟨Nat.zero_le _, by simp only [ext, if_true]; omega, by omega⟩, take_one h1]

def fBetween : FuncId := 4
noncomputable def betL : Code := loopAt Tryd.prog fBetween 0
abbrev betLive (b : ByteArray) (r n : Nat) (i : Nat) : List (Nat × Value) := [(0, .string b), (3, .slice (some ⟨r, 0, some (n - 1)⟩) n unc), (6, .int .i64 (i : Int))]

theorem bet_zero (q : Nat) (b : ByteArray) (r : Nat) (L : List Tk) (k n : Int) (p : Nat) (ts : ByteArray) (d : List Deferred) (rest : Nat → Value) (s : St) (hov : Holds s [(r, tokRows L)]) (h2 : b.size ≤ 65536) (hL : L.length ≤ 16385) (ht : L[0]? = some ⟨k, (p : Int), ts, n⟩)
    (hs : Starts b p) (hk : k ≤ 1 → p + ts.size ≤ b.size ∧ ((b.extract p (p + ts.size)).data.toList == ts.data.toList) = true) :
    ∃ rest' s', evalCode EW (callN EW NN (q + 2)) NN betL { tmps := tmpsOf 150 (betLive b r L.length 0) rest, defers := d } s = some (.normal, { tmps := tmpsOf 150 (betLive b r L.length 1) rest', defers := d }, s') ∧ After s s' [r] [(r, tokRows L)] := by
  have l1 := (skip_ok q b p h2 hs).ev
  have h0 := hs.1
  have h3 := (List.getElem?_eq_some_iff.1 ht).1
  have r0 := tok_read ht 0 (by omega) rfl (o := 0 + 0 * 4 + 0) (by omega)
  have r1 := tok_read ht 1 (by omega) rfl (o := 0 + 0 * 4 + 1) (by omega)
  have r2 := tok_read ht 2 (by omega) rfl (o := 0 + 0 * 4 + 2) (by omega)
  by_cases hk1 : k ≤ 1
  · obtain ⟨g1, g2⟩ := hk hk1
    exact roundj_by hov [.yes 0 (show (0 : Int) < (↑(List.length L) : Int) from by omega), .yes 0 (show (0 : Int) ≤ (0 : Int) ∧ (0 : Int) < (↑(List.length L) : Int) from by omega), .m 0 0, .list 0 r1, .yes 3 (show (0 : Int) ≤ (0 : Int) ∧ (0 : Int) < (↑(List.length L) : Int) from by omega), .m 0 0, .list 0 r1, .no 4 (show ¬ ((↑(ByteArray.size b) : Int) < (↑p : Int)) from by omega), .no 0 (show ¬ ((↑(ByteArray.size b) : Int) < (↑p : Int)) from by omega), .no 0 (show ¬ ((↑(ByteArray.size b) : Int) < (↑p : Int)) from by omega), .no 12 (show ¬ ((↑(ByteArray.size b) : Int) < (↑p : Int)) from by omega), .no 1 (show ¬ ((↑(ByteArray.size b) : Int) < (↑p : Int)) from by omega), .no 6 (show ¬ ((↑(ByteArray.size b) : Int) < (↑p : Int)) from by omega), .no 1 (show ¬ ((↑(ByteArray.size b) : Int) < (↑p : Int)) from by omega), .yes 4 (show (0 : Int) ≤ (0 : Int) ∧ (0 : Int) < (↑(List.length L) : Int) from by omega), .m 0 0, .list 0 r1, .call 0 0 [] l1, .yes 3 (show (0 : Int) ≤ (0 : Int) ∧ (0 : Int) < (↑(List.length L) : Int) from by omega), .m 0 0, .list 0 r1, .m 1 0, .list 0 r1, .m 1 0, .list 0 r1, .m 1 0, .list 0 r1, .m 1 0, .list 0 r1, .m 0 0, .list 0 r1, .is 0 (congrArg not (show ((↑p : Int) == (↑p : Int)) = true from beq_iff_eq.2 (by omega))), .yes 0 (show (0 : Int) ≤ (0 : Int) ∧ (0 : Int) < (↑(List.length L) : Int) from by omega), .m 0 0, .list 0 r0, .yes 0 hk1, .yes 0 hk1, .yes 0 hk1, .yes 0 (show (0 : Int) ≤ (0 : Int) ∧ (0 : Int) < (↑(List.length L) : Int) from by omega), .yes 0 hk1, .yes 0 hk1, .m 0 0, .list 0 r1, .yes 0 hk1, .yes 0 hk1, .yes 0 hk1, .yes 0 (show (0 : Int) ≤ (0 : Int) ∧ (0 : Int) < (↑(List.length L) : Int) from by omega), .yes 0 hk1, .yes 0 hk1, .m 0 0, .list 0 r2, .yes 0 hk1, .yes 0 hk1, .int 0 (wrap_i64 (n := (↑p : Int) + (↑(ByteArray.size ts) : Int)) (by omega) (by omega)), .yes 0 hk1, .yes 0 hk1, .yes 0 hk1, .yes 0 hk1, .no 0 (show ¬ ((↑(ByteArray.size b) : Int) < (↑p : Int) + (↑(ByteArray.size ts) : Int)) from by omega), .no 0 (show ¬ ((↑(ByteArray.size b) : Int) < (↑p : Int) + (↑(ByteArray.size ts) : Int)) from by omega), .no 0 (show ¬ ((↑(ByteArray.size b) : Int) < (↑p : Int) + (↑(ByteArray.size ts) : Int)) from by omega), .no 0 (show ¬ ((↑(ByteArray.size b) : Int) < (↑p : Int) + (↑(ByteArray.size ts) : Int)) from by omega), .yes 0 (show (0 : Int) ≤ (0 : Int) ∧ (0 : Int) < (↑(List.length L) : Int) from by omega), .no 0 (show ¬ ((↑(ByteArray.size b) : Int) < (↑p : Int) + (↑(ByteArray.size ts) : Int)) from by omega), .no 0 (show ¬ ((↑(ByteArray.size b) : Int) < (↑p : Int) + (↑(ByteArray.size ts) : Int)) from by omega), .m 0 0, .list 0 r1, .no 0 (show ¬ ((↑(ByteArray.size b) : Int) < (↑p : Int) + (↑(ByteArray.size ts) : Int)) from by omega), .no 0 (show ¬ ((↑(ByteArray.size b) : Int) < (↑p : Int) + (↑(ByteArray.size ts) : Int)) from by omega), .no 0 (show ¬ ((↑(ByteArray.size b) : Int) < (↑p : Int) + (↑(ByteArray.size ts) : Int)) from by omega), .yes 0 (show (0 : Int) ≤ (0 : Int) ∧ (0 : Int) < (↑(List.length L) : Int) from by omega), .no 0 (show ¬ ((↑(ByteArray.size b) : Int) < (↑p : Int) + (↑(ByteArray.size ts) : Int)) from by omega), .no 0 (show ¬ ((↑(ByteArray.size b) : Int) < (↑p : Int) + (↑(ByteArray.size ts) : Int)) from by omega), .m 0 0, .list 0 r1, .no 0 (show ¬ ((↑(ByteArray.size b) : Int) < (↑p : Int) + (↑(ByteArray.size ts) : Int)) from by omega), .no 0 (show ¬ ((↑(ByteArray.size b) : Int) < (↑p : Int) + (↑(ByteArray.size ts) : Int)) from by omega), .no 0 (show ¬ ((↑(ByteArray.size b) : Int) < (↑p : Int) + (↑(ByteArray.size ts) : Int)) from by omega), .yes 0 (show (0 : Int) ≤ (0 : Int) ∧ (0 : Int) < (↑(List.length L) : Int) from by omega), .no 0 (show ¬ ((↑(ByteArray.size b) : Int) < (↑p : Int) + (↑(ByteArray.size ts) : Int)) from by omega), .no 0 (show ¬ ((↑(ByteArray.size b) : Int) < (↑p : Int) + (↑(ByteArray.size ts) : Int)) from by omega), .m 0 0, .list 0 r2, .no 0 (show ¬ ((↑(ByteArray.size b) : Int) < (↑p : Int) + (↑(ByteArray.size ts) : Int)) from by omega), .no 0 (show ¬ ((↑(ByteArray.size b) : Int) < (↑p : Int) + (↑(ByteArray.size ts) : Int)) from by omega), .int 0 (wrap_i64 (n := (↑p : Int) + (↑(ByteArray.size ts) : Int)) (by omega) (by omega)), .no 0 (show ¬ ((↑(ByteArray.size b) : Int) < (↑p : Int) + (↑(ByteArray.size ts) : Int)) from by omega), .yes 2 (show p ≤ p + ByteArray.size ts from by omega), .yes 0 g1, .no 0 (show ¬ ((↑(ByteArray.size b) : Int) < (↑p : Int) + (↑(ByteArray.size ts) : Int)) from by omega), .no 0 (show ¬ ((↑(ByteArray.size b) : Int) < (↑p : Int) + (↑(ByteArray.size ts) : Int)) from by omega), .no 0 (show ¬ ((↑(ByteArray.size b) : Int) < (↑p : Int) + (↑(ByteArray.size ts) : Int)) from by omega), .yes 0 (show (0 : Int) ≤ (0 : Int) ∧ (0 : Int) < (↑(List.length L) : Int) from by omega), .no 0 (show ¬ ((↑(ByteArray.size b) : Int) < (↑p : Int) + (↑(ByteArray.size ts) : Int)) from by omega), .no 0 (show ¬ ((↑(ByteArray.size b) : Int) < (↑p : Int) + (↑(ByteArray.size ts) : Int)) from by omega), .m 0 0, .list 0 r2, .no 0 (show ¬ ((↑(ByteArray.size b) : Int) < (↑p : Int) + (↑(ByteArray.size ts) : Int)) from by omega), .yes 0 hk1, .no 0 (show ¬ ((↑(ByteArray.size b) : Int) < (↑p : Int) + (↑(ByteArray.size ts) : Int)) from by omega), .yes 0 hk1, .is 0 (congrArg not g2), .m 0 0] [0] (by kernel_rfl)
  · exact roundj_by hov [.yes 0 (show (0 : Int) < (↑(List.length L) : Int) from by omega), .yes 0 (show (0 : Int) ≤ (0 : Int) ∧ (0 : Int) < (↑(List.length L) : Int) from by omega), .m 0 0, .list 0 r1, .yes 3 (show (0 : Int) ≤ (0 : Int) ∧ (0 : Int) < (↑(List.length L) : Int) from by omega), .m 0 0, .list 0 r1, .no 4 (show ¬ ((↑(ByteArray.size b) : Int) < (↑p : Int)) from by omega), .no 0 (show ¬ ((↑(ByteArray.size b) : Int) < (↑p : Int)) from by omega), .no 0 (show ¬ ((↑(ByteArray.size b) : Int) < (↑p : Int)) from by omega), .no 12 (show ¬ ((↑(ByteArray.size b) : Int) < (↑p : Int)) from by omega), .no 1 (show ¬ ((↑(ByteArray.size b) : Int) < (↑p : Int)) from by omega), .no 6 (show ¬ ((↑(ByteArray.size b) : Int) < (↑p : Int)) from by omega), .no 1 (show ¬ ((↑(ByteArray.size b) : Int) < (↑p : Int)) from by omega), .yes 4 (show (0 : Int) ≤ (0 : Int) ∧ (0 : Int) < (↑(List.length L) : Int) from by omega), .m 0 0, .list 0 r1, .call 0 0 [] l1, .yes 3 (show (0 : Int) ≤ (0 : Int) ∧ (0 : Int) < (↑(List.length L) : Int) from by omega), .m 0 0, .list 0 r1, .m 1 0, .list 0 r1, .m 1 0, .list 0 r1, .m 1 0, .list 0 r1, .m 1 0, .list 0 r1, .m 0 0, .list 0 r1, .is 0 (congrArg not (show ((↑p : Int) == (↑p : Int)) = true from beq_iff_eq.2 (by omega))), .yes 0 (show (0 : Int) ≤ (0 : Int) ∧ (0 : Int) < (↑(List.length L) : Int) from by omega), .m 0 0, .list 0 r0, .no 0 hk1, .no 0 hk1, .no 0 hk1, .no 0 hk1, .no 0 hk1, .no 0 hk1, .no 0 hk1, .no 0 hk1, .no 0 hk1, .no 0 hk1, .no 0 hk1, .no 0 hk1, .no 0 hk1, .no 0 hk1, .no 0 hk1, .no 0 hk1, .no 0 hk1, .no 0 hk1, .m 0 0] [0] (by kernel_rfl)

theorem bet_succ (q : Nat) (b : ByteArray) (r : Nat) (L : List Tk) (j : Nat) (k n : Int) (p : Nat) (ts : ByteArray) (k' n' : Int) (p' : Nat) (ts' : ByteArray) (d : List Deferred) (rest : Nat → Value) (s : St) (hov : Holds s [(r, tokRows L)]) (h2 : b.size ≤ 65536) (hL : L.length ≤ 16385) (ht : L[j + 1]? = some ⟨k, (p : Int), ts, n⟩)
    (ht' : L[j]? = some ⟨k', (p' : Int), ts', n'⟩) (hp : p' < p) (hs : Starts b p) (hk : k ≤ 1 → p + ts.size ≤ b.size ∧ ((b.extract p (p + ts.size)).data.toList == ts.data.toList) = true) :
    ∃ rest' s', evalCode EW (callN EW NN (q + 2)) NN betL { tmps := tmpsOf 150 (betLive b r L.length (j + 1)) rest, defers := d } s = some (.normal, { tmps := tmpsOf 150 (betLive b r L.length (j + 1 + 1)) rest', defers := d }, s') ∧ After s s' [r] [(r, tokRows L)] := by
  have l1 := (skip_ok q b p h2 hs).ev
  have h0 := hs.1
  have h3 := (List.getElem?_eq_some_iff.1 ht).1
  have i1 : IntKind.i64.wrap (((j + 1 : Nat) : Int) - 1) = (j : Int) := by rw [wrap_i64 (by omega) (by omega)]; omega
  have r0 := tok_read ht 0 (by omega) rfl (o := 0 + (j + 1) * 4 + 0) (by omega)
  have r1 := tok_read ht 1 (by omega) rfl (o := 0 + (j + 1) * 4 + 1) (by omega)
  have r2 := tok_read ht 2 (by omega) rfl (o := 0 + (j + 1) * 4 + 2) (by omega)
  have r3 := tok_read ht' 1 (by omega) rfl (o := 0 + j * 4 + 1) (by omega)
  by_cases hk1 : k ≤ 1
  · obtain ⟨g1, g2⟩ := hk hk1
    exact roundj_by hov [.yes 0 (show (↑(j + (1 : Nat)) : Int) < (↑(List.length L) : Int) from by omega), .yes 0 (show (0 : Int) ≤ (↑(j + (1 : Nat)) : Int) ∧ (↑(j + (1 : Nat)) : Int) < (↑(List.length L) : Int) from by omega), .m 0 0, .list 0 r1, .yes 3 (show (0 : Int) ≤ (↑(j + (1 : Nat)) : Int) ∧ (↑(j + (1 : Nat)) : Int) < (↑(List.length L) : Int) from by omega), .m 0 0, .list 0 r1, .no 4 (show ¬ ((↑(ByteArray.size b) : Int) < (↑p : Int)) from by omega), .no 0 (show ¬ ((↑(ByteArray.size b) : Int) < (↑p : Int)) from by omega), .no 0 (show ¬ ((↑(ByteArray.size b) : Int) < (↑p : Int)) from by omega), .yes 0 (show (0 : Int) < (↑(j + (1 : Nat)) : Int) from by omega), .yes 0 (show (0 : Int) < (↑(j + (1 : Nat)) : Int) from by omega), .yes 0 (show (0 : Int) < (↑(j + (1 : Nat)) : Int) from by omega), .yes 0 (show (0 : Int) ≤ (↑(j + (1 : Nat)) : Int) ∧ (↑(j + (1 : Nat)) : Int) < (↑(List.length L) : Int) from by omega), .yes 0 (show (0 : Int) < (↑(j + (1 : Nat)) : Int) from by omega), .yes 0 (show (0 : Int) < (↑(j + (1 : Nat)) : Int) from by omega), .m 0 0, .list 0 r1, .yes 0 (show (0 : Int) < (↑(j + (1 : Nat)) : Int) from by omega), .yes 0 (show (0 : Int) < (↑(j + (1 : Nat)) : Int) from by omega), .yes 0 (show (0 : Int) < (↑(j + (1 : Nat)) : Int) from by omega), .int 0 i1, .yes 0 (show (0 : Int) < (↑(j + (1 : Nat)) : Int) from by omega), .yes 0 (show (0 : Int) ≤ (↑j : Int) ∧ (↑j : Int) < (↑(List.length L) : Int) from by omega), .yes 0 (show (0 : Int) < (↑(j + (1 : Nat)) : Int) from by omega), .yes 0 (show (0 : Int) < (↑(j + (1 : Nat)) : Int) from by omega), .m 0 0, .list 0 r3, .yes 0 (show (0 : Int) < (↑(j + (1 : Nat)) : Int) from by omega), .no 0 (show ¬ ((↑(ByteArray.size b) : Int) < (↑p : Int)) from by omega), .yes 0 (show (0 : Int) < (↑(j + (1 : Nat)) : Int) from by omega), .no 0 (show ¬ ((↑(ByteArray.size b) : Int) < (↑p : Int)) from by omega), .no 0 (show ¬ ((↑p : Int) ≤ (↑p' : Int)) from by omega), .no 0 (show ¬ ((↑p : Int) ≤ (↑p' : Int)) from by omega), .no 0 (show ¬ ((↑p : Int) ≤ (↑p' : Int)) from by omega), .no 0 (show ¬ ((↑p : Int) ≤ (↑p' : Int)) from by omega), .no 0 (show ¬ ((↑p : Int) ≤ (↑p' : Int)) from by omega), .no 0 (show ¬ ((↑p : Int) ≤ (↑p' : Int)) from by omega), .no 0 (show ¬ ((↑(ByteArray.size b) : Int) < (↑p : Int)) from by omega), .no 0 (show ¬ ((↑p : Int) ≤ (↑p' : Int)) from by omega), .no 0 (show ¬ ((↑(ByteArray.size b) : Int) < (↑p : Int)) from by omega), .yes 4 (show (0 : Int) ≤ (↑(j + (1 : Nat)) : Int) ∧ (↑(j + (1 : Nat)) : Int) < (↑(List.length L) : Int) from by omega), .m 0 0, .list 0 r1, .call 0 0 [] l1, .yes 3 (show (0 : Int) ≤ (↑(j + (1 : Nat)) : Int) ∧ (↑(j + (1 : Nat)) : Int) < (↑(List.length L) : Int) from by omega), .m 0 0, .list 0 r1, .m 1 0, .list 0 r1, .m 1 0, .list 0 r1, .m 1 0, .list 0 r1, .m 1 0, .list 0 r3, .m 1 0, .list 0 r1, .m 1 0, .list 0 r1, .m 0 0, .list 0 r1, .is 0 (congrArg not (show ((↑p : Int) == (↑p : Int)) = true from beq_iff_eq.2 (by omega))), .yes 0 (show (0 : Int) ≤ (↑(j + (1 : Nat)) : Int) ∧ (↑(j + (1 : Nat)) : Int) < (↑(List.length L) : Int) from by omega), .m 0 0, .list 0 r0, .yes 0 hk1, .yes 0 hk1, .yes 0 hk1, .yes 0 (show (0 : Int) ≤ (↑(j + (1 : Nat)) : Int) ∧ (↑(j + (1 : Nat)) : Int) < (↑(List.length L) : Int) from by omega), .yes 0 hk1, .yes 0 hk1, .m 0 0, .list 0 r1, .yes 0 hk1, .yes 0 hk1, .yes 0 hk1, .yes 0 (show (0 : Int) ≤ (↑(j + (1 : Nat)) : Int) ∧ (↑(j + (1 : Nat)) : Int) < (↑(List.length L) : Int) from by omega), .yes 0 hk1, .yes 0 hk1, .m 0 0, .list 0 r2, .yes 0 hk1, .yes 0 hk1, .int 0 (wrap_i64 (n := (↑p : Int) + (↑(ByteArray.size ts) : Int)) (by omega) (by omega)), .yes 0 hk1, .yes 0 hk1, .yes 0 hk1, .yes 0 hk1, .no 0 (show ¬ ((↑(ByteArray.size b) : Int) < (↑p : Int) + (↑(ByteArray.size ts) : Int)) from by omega), .no 0 (show ¬ ((↑(ByteArray.size b) : Int) < (↑p : Int) + (↑(ByteArray.size ts) : Int)) from by omega), .no 0 (show ¬ ((↑(ByteArray.size b) : Int) < (↑p : Int) + (↑(ByteArray.size ts) : Int)) from by omega), .no 0 (show ¬ ((↑(ByteArray.size b) : Int) < (↑p : Int) + (↑(ByteArray.size ts) : Int)) from by omega), .yes 0 (show (0 : Int) ≤ (↑(j + (1 : Nat)) : Int) ∧ (↑(j + (1 : Nat)) : Int) < (↑(List.length L) : Int) from by omega), .no 0 (show ¬ ((↑(ByteArray.size b) : Int) < (↑p : Int) + (↑(ByteArray.size ts) : Int)) from by omega), .no 0 (show ¬ ((↑(ByteArray.size b) : Int) < (↑p : Int) + (↑(ByteArray.size ts) : Int)) from by omega), .m 0 0, .list 0 r1, .no 0 (show ¬ ((↑(ByteArray.size b) : Int) < (↑p : Int) + (↑(ByteArray.size ts) : Int)) from by omega), .no 0 (show ¬ ((↑(ByteArray.size b) : Int) < (↑p : Int) + (↑(ByteArray.size ts) : Int)) from by omega), .no 0 (show ¬ ((↑(ByteArray.size b) : Int) < (↑p : Int) + (↑(ByteArray.size ts) : Int)) from by omega), .yes 0 (show (0 : Int) ≤ (↑(j + (1 : Nat)) : Int) ∧ (↑(j + (1 : Nat)) : Int) < (↑(List.length L) : Int) from by omega), .no 0 (show ¬ ((↑(ByteArray.size b) : Int) < (↑p : Int) + (↑(ByteArray.size ts) : Int)) from by omega), .no 0 (show ¬ ((↑(ByteArray.size b) : Int) < (↑p : Int) + (↑(ByteArray.size ts) : Int)) from by omega), .m 0 0, .list 0 r1, .no 0 (show ¬ ((↑(ByteArray.size b) : Int) < (↑p : Int) + (↑(ByteArray.size ts) : Int)) from by omega), .no 0 (show ¬ ((↑(ByteArray.size b) : Int) < (↑p : Int) + (↑(ByteArray.size ts) : Int)) from by omega), .no 0 (show ¬ ((↑(ByteArray.size b) : Int) < (↑p : Int) + (↑(ByteArray.size ts) : Int)) from by omega), .yes 0 (show (0 : Int) ≤ (↑(j + (1 : Nat)) : Int) ∧ (↑(j + (1 : Nat)) : Int) < (↑(List.length L) : Int) from by omega), .no 0 (show ¬ ((↑(ByteArray.size b) : Int) < (↑p : Int) + (↑(ByteArray.size ts) : Int)) from by omega), .no 0 (show ¬ ((↑(ByteArray.size b) : Int) < (↑p : Int) + (↑(ByteArray.size ts) : Int)) from by omega), .m 0 0, .list 0 r2, .no 0 (show ¬ ((↑(ByteArray.size b) : Int) < (↑p : Int) + (↑(ByteArray.size ts) : Int)) from by omega), .no 0 (show ¬ ((↑(ByteArray.size b) : Int) < (↑p : Int) + (↑(ByteArray.size ts) : Int)) from by omega), .int 0 (wrap_i64 (n := (↑p : Int) + (↑(ByteArray.size ts) : Int)) (by omega) (by omega)), .no 0 (show ¬ ((↑(ByteArray.size b) : Int) < (↑p : Int) + (↑(ByteArray.size ts) : Int)) from by omega), .yes 2 (show p ≤ p + ByteArray.size ts from by omega), .yes 0 g1, .no 0 (show ¬ ((↑(ByteArray.size b) : Int) < (↑p : Int) + (↑(ByteArray.size ts) : Int)) from by omega), .no 0 (show ¬ ((↑(ByteArray.size b) : Int) < (↑p : Int) + (↑(ByteArray.size ts) : Int)) from by omega), .no 0 (show ¬ ((↑(ByteArray.size b) : Int) < (↑p : Int) + (↑(ByteArray.size ts) : Int)) from by omega), .yes 0 (show (0 : Int) ≤ (↑(j + (1 : Nat)) : Int) ∧ (↑(j + (1 : Nat)) : Int) < (↑(List.length L) : Int) from by omega), .no 0 (show ¬ ((↑(ByteArray.size b) : Int) < (↑p : Int) + (↑(ByteArray.size ts) : Int)) from by omega), .no 0 (show ¬ ((↑(ByteArray.size b) : Int) < (↑p : Int) + (↑(ByteArray.size ts) : Int)) from by omega), .m 0 0, .list 0 r2, .no 0 (show ¬ ((↑(ByteArray.size b) : Int) < (↑p : Int) + (↑(ByteArray.size ts) : Int)) from by omega), .yes 0 hk1, .no 0 (show ¬ ((↑(ByteArray.size b) : Int) < (↑p : Int) + (↑(ByteArray.size ts) : Int)) from by omega), .yes 0 hk1, .is 0 (congrArg not g2), .int 1 (wrap_i64 (n := (↑(j + (1 : Nat)) : Int) + (1 : Int)) (by omega) (by omega)), .m 0 0] [0] (by kernel_rfl)
  · exact roundj_by hov [.yes 0 (show (↑(j + (1 : Nat)) : Int) < (↑(List.length L) : Int) from by omega), .yes 0 (show (0 : Int) ≤ (↑(j + (1 : Nat)) : Int) ∧ (↑(j + (1 : Nat)) : Int) < (↑(List.length L) : Int) from by omega), .m 0 0, .list 0 r1, .yes 3 (show (0 : Int) ≤ (↑(j + (1 : Nat)) : Int) ∧ (↑(j + (1 : Nat)) : Int) < (↑(List.length L) : Int) from by omega), .m 0 0, .list 0 r1, .no 4 (show ¬ ((↑(ByteArray.size b) : Int) < (↑p : Int)) from by omega), .no 0 (show ¬ ((↑(ByteArray.size b) : Int) < (↑p : Int)) from by omega), .no 0 (show ¬ ((↑(ByteArray.size b) : Int) < (↑p : Int)) from by omega), .yes 0 (show (0 : Int) < (↑(j + (1 : Nat)) : Int) from by omega), .yes 0 (show (0 : Int) < (↑(j + (1 : Nat)) : Int) from by omega), .yes 0 (show (0 : Int) < (↑(j + (1 : Nat)) : Int) from by omega), .yes 0 (show (0 : Int) ≤ (↑(j + (1 : Nat)) : Int) ∧ (↑(j + (1 : Nat)) : Int) < (↑(List.length L) : Int) from by omega), .yes 0 (show (0 : Int) < (↑(j + (1 : Nat)) : Int) from by omega), .yes 0 (show (0 : Int) < (↑(j + (1 : Nat)) : Int) from by omega), .m 0 0, .list 0 r1, .yes 0 (show (0 : Int) < (↑(j + (1 : Nat)) : Int) from by omega), .yes 0 (show (0 : Int) < (↑(j + (1 : Nat)) : Int) from by omega), .yes 0 (show (0 : Int) < (↑(j + (1 : Nat)) : Int) from by omega), .int 0 i1, .yes 0 (show (0 : Int) < (↑(j + (1 : Nat)) : Int) from by omega), .yes 0 (show (0 : Int) ≤ (↑j : Int) ∧ (↑j : Int) < (↑(List.length L) : Int) from by omega), .yes 0 (show (0 : Int) < (↑(j + (1 : Nat)) : Int) from by omega), .yes 0 (show (0 : Int) < (↑(j + (1 : Nat)) : Int) from by omega), .m 0 0, .list 0 r3, .yes 0 (show (0 : Int) < (↑(j + (1 : Nat)) : Int) from by omega), .no 0 (show ¬ ((↑(ByteArray.size b) : Int) < (↑p : Int)) from by omega), .yes 0 (show (0 : Int) < (↑(j + (1 : Nat)) : Int) from by omega), .no 0 (show ¬ ((↑(ByteArray.size b) : Int) < (↑p : Int)) from by omega), .no 0 (show ¬ ((↑p : Int) ≤ (↑p' : Int)) from by omega), .no 0 (show ¬ ((↑p : Int) ≤ (↑p' : Int)) from by omega), .no 0 (show ¬ ((↑p : Int) ≤ (↑p' : Int)) from by omega), .no 0 (show ¬ ((↑p : Int) ≤ (↑p' : Int)) from by omega), .no 0 (show ¬ ((↑p : Int) ≤ (↑p' : Int)) from by omega), .no 0 (show ¬ ((↑p : Int) ≤ (↑p' : Int)) from by omega), .no 0 (show ¬ ((↑(ByteArray.size b) : Int) < (↑p : Int)) from by omega), .no 0 (show ¬ ((↑p : Int) ≤ (↑p' : Int)) from by omega), .no 0 (show ¬ ((↑(ByteArray.size b) : Int) < (↑p : Int)) from by omega), .yes 4 (show (0 : Int) ≤ (↑(j + (1 : Nat)) : Int) ∧ (↑(j + (1 : Nat)) : Int) < (↑(List.length L) : Int) from by omega), .m 0 0, .list 0 r1, .call 0 0 [] l1, .yes 3 (show (0 : Int) ≤ (↑(j + (1 : Nat)) : Int) ∧ (↑(j + (1 : Nat)) : Int) < (↑(List.length L) : Int) from by omega), .m 0 0, .list 0 r1, .m 1 0, .list 0 r1, .m 1 0, .list 0 r1, .m 1 0, .list 0 r1, .m 1 0, .list 0 r3, .m 1 0, .list 0 r1, .m 1 0, .list 0 r1, .m 0 0, .list 0 r1, .is 0 (congrArg not (show ((↑p : Int) == (↑p : Int)) = true from beq_iff_eq.2 (by omega))), .yes 0 (show (0 : Int) ≤ (↑(j + (1 : Nat)) : Int) ∧ (↑(j + (1 : Nat)) : Int) < (↑(List.length L) : Int) from by omega), .m 0 0, .list 0 r0, .no 0 hk1, .no 0 hk1, .no 0 hk1, .no 0 hk1, .no 0 hk1, .no 0 hk1, .no 0 hk1, .no 0 hk1, .no 0 hk1, .no 0 hk1, .no 0 hk1, .no 0 hk1, .no 0 hk1, .no 0 hk1, .no 0 hk1, .no 0 hk1, .no 0 hk1, .no 0 hk1, .int 1 (wrap_i64 (n := (↑(j + (1 : Nat)) : Int) + (1 : Int)) (by omega) (by omega)), .m 0 0] [0] (by kernel_rfl)

end Go.Proofs.YtiabpbememhdeaaDoor

/-
  The lexer's seat: 'LexBetween', what its words are; the walk's end.
-/
set_option linter.unusedVariables false
set_option linter.unusedSimpArgs false
namespace Go.Proofs.YtiabpbememhdeaaDoor
open Go.Ai Go.RowKit
set_option maxRecDepth 100000

/-- Words behind one another. -/
inductive Sq (b : ByteArray) : Nat → List Tk → Prop
  | nil (i : Nat) (h : ¬ i < b.size) : Sq b i []
  | cons (i : Nat) (t : Tk) (to : Nat) (l : List Tk) (h : i < b.size) (hr : wordR b i = .tok t to) (hl : Sq b (blanksG b to) l) : Sq b i (t :: l)

theorem numBad_ne {b : ByteArray} {i c : Nat} {a e : Int} (h : numBad b i c = some (a, e)) : e ≠ 0 := by
  unfold numBad at h
  split at h
  next h1 =>
    cases h
    simpa using h1
  · split at h
    · split at h
      · cases h; omega
      · split at h
        · cases h; omega
        · cases h
    · cases h

theorem textGo_ne (b : ByteArray) (i : Nat) : ∀ (j : Nat) (cs : List Value) (a e : Int), textGo b i j cs = .bad a e → e ≠ 0 := by
  intro j cs a e h
  rw [textGo] at h
  split at h
  · split at h
    · cases h; omega
    · split at h
      · cases h
      · split at h
        · split at h
          · split at h
            · cases h; omega
            · split at h
              · cases h; omega
              · exact textGo_ne b i _ _ a e h
          · cases h; omega
        · exact textGo_ne b i _ _ a e h
  · cases h; omega
termination_by j => b.size - j

theorem wordR_ne {b : ByteArray} {i : Nat} {a e : Int} (h : wordR b i = .bad a e) : e ≠ 0 := by
  unfold wordR at h
  split at h
  · unfold nameR at h; cases h
  · split at h
    · unfold numR at h
      split at h
      next hb => cases h; exact numBad_ne hb
      · cases h
    · split at h
      · unfold textR at h
        split at h
        next hb => cases h; exact textGo_ne b i _ _ _ _ hb
        · split at h
          · cases h; omega
          · cases h
      · unfold signR at h
        split at h
        · cases h
        · cases h; omega

theorem wordsGo_spec (b : ByteArray) : ∀ (i : Nat) (acc : List Tk), acc.length ≤ 16384 →
    (∀ a e, wordsGo b i acc = .bad a e → e ≠ 0) ∧ (∀ L, wordsGo b i acc = .done L → ∃ l, L = acc ++ l ∧ Sq b i l ∧ L.length ≤ 16384) := by
  intro i acc hacc
  by_cases hi : i < b.size
  · cases hr : wordR b i with
    | bad a e =>
      rw [wordsGo_bad hi hr]
      exact ⟨fun a' e' h => by cases h; exact wordR_ne hr, fun L h => by cases h⟩
    | tok t to =>
      rw [wordsGo_tok hi hr]
      split
      next hm => exact ⟨fun a' e' h => by cases h; omega, fun L h => by cases h⟩
      next hm =>
        have hless := words_less hi hr
        obtain ⟨h1, h2⟩ := wordsGo_spec b (blanksG b to) (acc ++ [t]) (by simp; omega)
        refine ⟨h1, fun L h => ?_⟩
        obtain ⟨l, rfl, hs, hl⟩ := h2 L h
        exact ⟨t :: l, by simp, .cons i t to l hi hr hs, hl⟩
  · rw [wordsGo_end hi]
    exact ⟨fun a e h => (by cases h), fun L h => by cases h; exact ⟨[], by simp, .nil i hi, hacc⟩⟩
termination_by i => b.size - i

theorem wordsG_ne {b : ByteArray} {a e : Int} (h : wordsG b = .bad a e) : e ≠ 0 := (wordsGo_spec b _ [] (Nat.zero_le _)).1 a e h
theorem wordsG_sq {b : ByteArray} {L : List Tk} (h : wordsG b = .done L) : Sq b (blanksG b 0) L ∧ L.length ≤ 16384 := by
  obtain ⟨l, h1, h2, h3⟩ := (wordsGo_spec b _ [] (Nat.zero_le _)).2 L h
  rw [List.nil_append] at h1
  subst h1
  exact ⟨h2, h3⟩

/-- A name, a key word or a sign stands where it is said to stand. -/
def Stands (b : ByteArray) (t : Tk) (p : Nat) : Prop := t.k ≤ 1 → p + t.s.size ≤ b.size ∧ ((b.extract p (p + t.s.size)).data.toList == t.s.data.toList) = true

theorem wordR_stands {b : ByteArray} {i : Nat} {t : Tk} {to : Nat} (hi : i < b.size) (h : wordR b i = .tok t to) : Stands b t i := by
  intro hk
  unfold wordR at h
  split at h
  next h1 =>
    unfold nameR at h
    cases h
    have h2 := runTo_le isName b i (by omega)
    have h3 := runTo_ge isName b i
    have e1 : (b.extract i (runTo isName b i)).size = runTo isName b i - i := ext_size _ h2
    refine ⟨by show i + (b.extract i (runTo isName b i)).size ≤ b.size; omega, ?_⟩
    show ((b.extract i (i + (b.extract i (runTo isName b i)).size)).data.toList == (b.extract i (runTo isName b i)).data.toList) = true
    rw [e1, show i + (runTo isName b i - i) = runTo isName b i by omega]
    simp
  · split at h
    · unfold numR at h
      split at h
      · cases h
      · cases h
        exact absurd hk (by show ¬ (2 : Int) ≤ 1; omega)
    · split at h
      · unfold textR at h
        split at h
        · cases h
        · split at h
          · cases h
          · cases h
            exact absurd hk (by show ¬ (3 : Int) ≤ 1; omega)
      · unfold signR at h
        split at h
        next l hl =>
          cases h
          obtain ⟨g1, g2⟩ := sign_at hl
          have h3 := g2.length_le
          rw [List.length_drop, bytes_length] at h3
          refine ⟨by show i + l.toArray.size ≤ b.size; rw [List.size_toArray]; omega, ?_⟩
          show ((b.extract i (i + l.toArray.size)).data.toList == l.toArray.toList) = true
          rw [List.size_toArray, bytes_extract, show i + l.length - i = l.length by omega, beq_iff_eq]
          exact (List.prefix_iff_eq_take.1 g2).symm
        · cases h

theorem Sq.starts {b : ByteArray} {i : Nat} {l : List Tk} (h : Sq b i l) : Starts b i → ∀ (j : Nat) (t : Tk), l[j]? = some t → ∃ p : Nat, t.a = (p : Int) ∧ i ≤ p ∧ p < b.size ∧ Starts b p ∧ Stands b t p ∧ ∀ t', l[j + 1]? = some t' → t.a < t'.a := by
  induction h with
  | nil i h => intro _ j t ht; simp at ht
  | cons i t to l h hr hl ih =>
    intro hs j t₁ ht
    obtain ⟨g1, g2, g3⟩ := word_more h hr
    have g4 := blanksG_le b to g2
    have ih := ih (blanks_starts b to g2)
    cases j with
    | zero =>
      simp only [List.getElem?_cons_zero, Option.some.injEq] at ht
      subst ht
      refine ⟨i, g3, Nat.le_refl _, h, hs, wordR_stands h hr, fun t' ht' => ?_⟩
      obtain ⟨p, k1, k2, _⟩ := ih 0 t' (by simpa using ht')
      rw [g3, k1]
      omega
    | succ j =>
      obtain ⟨p, k1, k2, k3, k4, k5, k6⟩ := ih j t₁ (by simpa using ht)
      exact ⟨p, k1, by omega, k3, k4, k5, fun t' ht' => k6 t' (by simpa using ht')⟩

/-- All of a script's words. -/
theorem all_words {b : ByteArray} {l : List Tk} (h : wordsG b = .done l) (j : Nat) (t : Tk) (ht : (l ++ [endT b])[j]? = some t) :
    ∃ p : Nat, t.a = (p : Int) ∧ Starts b p ∧ Stands b t p ∧ ∀ t', (l ++ [endT b])[j + 1]? = some t' → t.a < t'.a := by
  have hs := (wordsG_sq h).1.starts (blanks_starts b 0 (Nat.zero_le _))
  rcases Nat.lt_trichotomy j l.length with hj | hj | hj
  · rw [List.getElem?_append_left hj] at ht
    obtain ⟨p, k1, k2, k3, k4, k5, k6⟩ := hs j t ht
    refine ⟨p, k1, k4, k5, fun t' ht' => ?_⟩
    rcases Nat.lt_or_ge (j + 1) l.length with hj' | hj'
    · rw [List.getElem?_append_left hj'] at ht'
      exact k6 t' ht'
    · rw [List.getElem?_append_right hj', show j + 1 - l.length = 0 by omega] at ht'
      simp only [List.getElem?_cons_zero, Option.some.injEq] at ht'
      subst ht'
      rw [k1]
      show (p : Int) < (b.size : Int)
      omega
  · rw [List.getElem?_append_right (by omega), show j - l.length = 0 by omega] at ht
    simp only [List.getElem?_cons_zero, Option.some.injEq] at ht
    subst ht
    refine ⟨b.size, rfl, ⟨Nat.le_refl _, fun h => absurd h (by omega)⟩, fun hk => absurd hk (by show ¬ (4 : Int) ≤ 1; omega), fun t' ht' => ?_⟩
    rw [List.getElem?_eq_none (by simp; omega)] at ht'
    cases ht'
  · rw [List.getElem?_eq_none (by simp; omega)] at ht
    cases ht

theorem bet_end (q : Nat) (b : ByteArray) (r : Nat) (L : List Tk) (d : List Deferred) (rest : Nat → Value) (s : St) (hov : Holds s [(r, tokRows L)]) :
    ∃ rest' s', evalCode EW (callN EW NN (q + 2)) NN betL { tmps := tmpsOf 150 (betLive b r L.length L.length) rest, defers := d } s = some (.exit 0, { tmps := tmpsOf 150 (betLive b r L.length L.length) rest', defers := d }, s') ∧ After s s' [r] [(r, tokRows L)] := by
  exact roundj_by hov [.no 0 (show ¬ ((↑(List.length L) : Int) < (↑(List.length L) : Int)) from by omega), .m 0 0] [0] (by kernel_rfl)

theorem bet_loop (q : Nat) (b : ByteArray) (h2 : b.size ≤ 65536) (l L : List Tk) (hL : L = l ++ [endT b]) (h : wordsG b = .done l) (d : List Deferred) :
    Loops1 (tokRows L) (evalCode EW (callN EW NN (q + 2)) NN (.loop betL)) 150 d (fun r => betLive b r L.length 0) (.exit 0) (fun r _ => betLive b r L.length L.length) (fun r _ => [(r, tokRows L)]) := by
  intro r rest s hov
  have hlen : L.length ≤ 16385 := by
    have := (wordsG_sq h).2
    rw [hL]
    simp
    omega
  refine loop_pi (x := .exit 0) (fun i => betLive b r L.length i) (fun _ => [(r, tokRows L)]) (fun i => L.length - i) (fun i => i ≤ L.length) (by simp) (fun i hi rest s' hA => ?_) 0 (Nat.zero_le _) (by show L.length - 0 < 1048576; omega) hov rest
  by_cases hlt : i < L.length
  · left
    obtain ⟨t, ht⟩ : ∃ t, L[i]? = some t := ⟨_, List.getElem?_eq_getElem hlt⟩
    have ht0 := ht
    rw [hL] at ht
    obtain ⟨p, k1, k2, k3, k4⟩ := all_words h i t ht
    obtain ⟨k, a, ts, n⟩ := t
    simp only at k1
    subst k1
    cases i with
    | zero =>
      obtain ⟨rest', s'', g1, g2⟩ := bet_zero q b r L k n p ts d rest s' hA.holds h2 hlen ht0 k2 k3
      exact ⟨1, rest', s'', by show 1 ≤ L.length; omega, by show L.length - 1 < L.length - 0; omega, g1, g2⟩
    | succ j =>
      obtain ⟨t', ht'⟩ : ∃ t', L[j]? = some t' := ⟨_, List.getElem?_eq_getElem (by omega)⟩
      have ht0' := ht'
      rw [hL] at ht'
      obtain ⟨p', k1', _, _, k4'⟩ := all_words h j t' ht'
      have hp := k4' _ ht
      obtain ⟨kk, a', ts', n'⟩ := t'
      simp only at k1'
      subst k1'
      obtain ⟨rest', s'', g1, g2⟩ := bet_succ q b r L j k n p ts kk n' p' ts' d rest s' hA.holds h2 hlen ht0 ht0' (by simp only at hp; omega) k2 k3
      exact ⟨j + 1 + 1, rest', s'', by show j + 1 + 1 ≤ L.length; omega, by show L.length - (j + 1 + 1) < L.length - (j + 1); omega, g1, g2⟩
  · right
    obtain rfl : i = L.length := by omega
    obtain ⟨rest', s'', g1, g2⟩ := bet_end q b r L d rest s' hA.holds
    exact ⟨[], rest', s'', g1, g2⟩

theorem wordsF_L (q : Nat) (b : ByteArray) (h1 : b.size ≤ 65536) (l : List Tk) (hb : wordsG b = .done l) (L : List Tk) (hL : L = l ++ [endT b]) : Calls0 (callN EW NN (q + 3 + 1 + 1) fWords [.string b])
    (fun nk => .ok (.tuple #[.slice (some ⟨nk.getD 0 0, 0, some (L.length - 1)⟩) L.length unc, .int .i64 0, .int .i64 0])) (fun nk => [(nk.getD 0 0, tokRows L)]) := by
  have h0 := wordsF_ok q b h1 l (wordsG_sq hb).2 hb
  have e1 : (l ++ [endT b]).length - 1 = l.length := by simp
  have e2 : (l ++ [endT b]).length = l.length + 1 := by simp
  subst hL
  rw [e1, e2]
  exact h0

abbrev Between (q : Nat) (b : ByteArray) : Prop := Calls0 (callN EW NN (q + 3 + 1 + 1 + 1) fBetween [.string b]) (fun _ => .ok (.bool true)) (fun _ => [])

theorem between_long (q : Nat) (b : ByteArray) (h1 : b.size > 65536) : Between q b := by
  intro s
  have l1 := (wordsF_long q b h1).ev
  exact fnkj_by (holds_nil s) [.call 0 0 [] l1, .m 0 0] [] [] (by kernel_rfl) (by kernel_rfl)
theorem between_bad (q : Nat) (b : ByteArray) (h1 : b.size ≤ 65536) (a e : Int) (hb : wordsG b = .bad a e) (he : e ≠ 0) : Between q b := by
  intro s
  have l1 := (wordsF_bad q b h1 a e hb).ev
  exact fnkj_by (holds_nil s) [.call 0 0 [] l1, .is 0 (congrArg not (show (e == (0 : Int)) = false from beq_eq_false_iff_ne.2 (by omega))), .m 0 0] [] [] (by kernel_rfl) (by kernel_rfl)
theorem between_good (q : Nat) (b : ByteArray) (h1 : b.size ≤ 65536) (l : List Tk) (hb : wordsG b = .done l) (L : List Tk) (hL : L = l ++ [endT b]) (j : Nat) (hj : L.length = j + 1) (hlast : L[j]? = some (endT b)) : Between q b := by
  intro s
  have h0 := (wordsG_sq hb).2
  have h3 : j ≤ 16384 := by
    have : L.length = l.length + 1 := by rw [hL]; simp
    omega
  have l1 := (wordsF_L q b h1 l hb L hL).ev
  have l2 := (bet_loop (q + 3) b h1 l L hL hb []).ev
  have i1 : IntKind.i64.wrap ((L.length : Int) - 1) = (j : Int) := by rw [wrap_i64 (by omega) (by omega)]; omega
  have r0 := tok_read hlast 0 (by omega) rfl (o := 0 + j * 4 + 0) (by omega)
  exact fnkj_by (holds_nil s) [.call 0 0 [] l1, .loop 6 0 [0] l2, .yes 0 (show (0 : Int) < (↑(List.length L) : Int) from by omega), .yes 0 (show (0 : Int) < (↑(List.length L) : Int) from by omega), .yes 0 (show (0 : Int) < (↑(List.length L) : Int) from by omega), .yes 0 (show (0 : Int) < (↑(List.length L) : Int) from by omega), .int 0 i1, .yes 0 (show (0 : Int) < (↑(List.length L) : Int) from by omega), .yes 0 (show (0 : Int) ≤ (↑j : Int) ∧ (↑j : Int) < (↑(List.length L) : Int) from by omega), .yes 0 (show (0 : Int) < (↑(List.length L) : Int) from by omega), .yes 0 (show (0 : Int) < (↑(List.length L) : Int) from by omega), .m 0 0, .list 0 r0, .yes 0 (show (0 : Int) < (↑(List.length L) : Int) from by omega), .yes 0 (show (0 : Int) < (↑(List.length L) : Int) from by omega), .m 0 0] [] [] (by kernel_rfl) (by kernel_rfl)

theorem between_ok (q : Nat) (b : ByteArray) : Between q b := by
  by_cases h1 : b.size > 65536
  · exact between_long q b h1
  · have h1 : b.size ≤ 65536 := by omega
    cases hb : wordsG b with
    | bad a e => exact between_bad q b h1 a e hb (wordsG_ne hb)
    | done l => exact between_good q b h1 l hb _ rfl l.length (by simp) (by simp)

end Go.Proofs.YtiabpbememhdeaaDoor

/-
  The lexer's seat: 'LexJoins', plainly: the words of two scripts, one on the lines behind the other.
-/
set_option linter.unusedVariables false
set_option linter.unusedSimpArgs false
namespace Go.Proofs.YtiabpbememhdeaaDoor
open Go.Ai Go.RowKit

/-- Two scripts as one. -/
abbrev joined (a b : ByteArray) : ByteArray := a ++ ⟨#[10]⟩ ++ b

theorem joined_list (a b : ByteArray) : (joined a b).data.toList = a.data.toList ++ 10 :: b.data.toList := by
  unfold joined
  rw [ByteArray.data_append, ByteArray.data_append, Array.toList_append, Array.toList_append]
  simp

theorem joined_size (a b : ByteArray) : (joined a b).size = a.size + 1 + b.size := by
  show (joined a b).data.toList.length = _
  rw [joined_list, List.length_append, List.length_cons]
  show a.size + (b.size + 1) = _
  omega

theorem runTo_eq (p : Int → Bool) (s : ByteArray) (i : Nat) : runTo p s i = if i < s.size then (if p (byt s i) = true then runTo p s (i + 1) else i) else i := by rw [runTo]
theorem blanksG_eq (s : ByteArray) (i : Nat) : blanksG s i = if dd s (runTo isBlank s i) = true ∧ i < runTo notLine s (runTo isBlank s i) ∧ runTo notLine s (runTo isBlank s i) ≤ s.size then blanksG s (runTo notLine s (runTo isBlank s i)) else runTo isBlank s i := by rw [blanksG]

theorem byt_eq {s : ByteArray} {i : Nat} {c : UInt8} (h : s.data.toList[i]? = some c) : byt s i = (c.toNat : Int) := byt_of h

section
variable {a b : ByteArray}

theorem byt_left {i : Nat} (h : i < a.size) : byt (joined a b) i = byt a i := by
  obtain ⟨c, h1, h2⟩ := at_byt h
  rw [h2, byt_of (c := c)]
  rw [joined_list, List.getElem?_append_left (by exact h)]
  exact h1

theorem byt_mid : byt (joined a b) a.size = 10 := by
  rw [byt_of (c := 10)]
  · rfl
  · rw [joined_list, List.getElem?_append_right (by rw [bytes_length]; exact Nat.le_refl _), bytes_length, Nat.sub_self]
    rfl

theorem byt_right {i : Nat} (h : i < b.size) : byt (joined a b) (a.size + 1 + i) = byt b i := by
  obtain ⟨c, h1, h2⟩ := at_byt h
  rw [h2, byt_of (c := c)]
  rw [joined_list, List.getElem?_append_right (by rw [bytes_length]; omega), bytes_length, show a.size + 1 + i - a.size = i + 1 by omega, List.getElem?_cons_succ]
  exact h1

theorem extract_left {i j : Nat} (h : j ≤ a.size) : (joined a b).extract i j = a.extract i j := by
  apply ByteArray.ext
  apply Array.toList_inj.1
  rw [bytes_extract, bytes_extract, joined_list]
  rcases Nat.lt_or_ge i j with hi | hi
  · rw [List.drop_append_of_le_length (by rw [bytes_length]; omega), List.take_append_of_le_length (by rw [List.length_drop, bytes_length]; omega)]
  · rw [show j - i = 0 by omega, List.take_zero, List.take_zero]

theorem extract_right {i j : Nat} : (joined a b).extract (a.size + 1 + i) (a.size + 1 + j) = b.extract i j := by
  apply ByteArray.ext
  apply Array.toList_inj.1
  rw [bytes_extract, bytes_extract, joined_list, show a.size + 1 + j - (a.size + 1 + i) = j - i by omega]
  congr 1
  rw [List.drop_append, List.drop_eq_nil_of_le (by rw [bytes_length]; omega), List.nil_append, bytes_length, show a.size + 1 + i - a.size = i + 1 by omega, List.drop_succ_cons]

/-- Prefixes without a line feed. -/
theorem prefix_left {l r w : List UInt8} (hw : ∀ x ∈ w, x ≠ 10) : Lib.hasPrefix (l ++ 10 :: r) w = Lib.hasPrefix l w := by
  unfold Lib.hasPrefix
  induction w generalizing l with
  | nil => simp
  | cons x w ih =>
    cases l with
    | nil =>
      have : x ≠ 10 := hw x (by simp)
      simp [List.isPrefixOf, this]
    | cons y l =>
      rw [List.cons_append]
      simp only [List.isPrefixOf]
      rw [ih fun z hz => hw z (by simp [hz])]

theorem sg_left {i : Nat} (h : i ≤ a.size) {w : List UInt8} (hw : ∀ x ∈ w, x ≠ 10) : Lib.hasPrefix ((joined a b).extract i (joined a b).size).data.toList w = Lib.hasPrefix (a.extract i a.size).data.toList w := by
  rw [bytes_rest, bytes_rest, joined_list, List.drop_append_of_le_length (by rw [bytes_length]; exact h), prefix_left hw]

theorem sg_right {i : Nat} {w : List UInt8} : Lib.hasPrefix ((joined a b).extract (a.size + 1 + i) (joined a b).size).data.toList w = Lib.hasPrefix (b.extract i b.size).data.toList w := by
  rw [joined_size, extract_right]

/-! Runs of bytes. -/
theorem runTo_left {p : Int → Bool} (hp : p 10 = false) {i : Nat} (h : i ≤ a.size) : runTo p (joined a b) i = runTo p a i := by
  rw [runTo_eq _ (joined a b), runTo_eq _ a]
  by_cases hi : i < a.size
  · rw [if_pos (by rw [joined_size]; omega), if_pos hi, byt_left hi]
    cases p (byt a i)
    · simp
    · simp only [if_true]
      exact runTo_left hp (by omega)
  · obtain rfl : i = a.size := by omega
    rw [if_pos (by rw [joined_size]; omega), if_neg hi, byt_mid, hp]
    simp
termination_by a.size - i

theorem runTo_right {p : Int → Bool} {i : Nat} : runTo p (joined a b) (a.size + 1 + i) = a.size + 1 + runTo p b i := by
  rw [runTo_eq _ (joined a b), runTo_eq _ b]
  by_cases hi : i < b.size
  · rw [if_pos (by rw [joined_size]; omega), if_pos hi, byt_right hi]
    cases p (byt b i)
    · simp
    · simp only [if_true]
      exact runTo_right (i := i + 1)
  · rw [if_neg (by rw [joined_size]; omega), if_neg hi]
termination_by b.size - i

theorem runBlank_left {i : Nat} (h : i ≤ a.size) : runTo isBlank (joined a b) i = if runTo isBlank a i < a.size then runTo isBlank a i else a.size + 1 + runTo isBlank b 0 := by
  rw [runTo_eq _ (joined a b), runTo_eq _ a]
  by_cases hi : i < a.size
  · rw [if_pos (by rw [joined_size]; omega), if_pos hi, byt_left hi]
    cases isBlank (byt a i)
    · simp [hi]
    · simp only [if_true]
      exact runBlank_left (by omega)
  · obtain rfl : i = a.size := by omega
    rw [if_pos (by rw [joined_size]; omega), if_neg hi, byt_mid, if_neg hi]
    exact runTo_right (i := 0)
termination_by a.size - i

theorem dd_left {i : Nat} (h : i ≤ a.size) : dd (joined a b) i = dd a i := sg_left h (by intro x hx; simp at hx; rcases hx with rfl | rfl <;> decide)
theorem dd_right {i : Nat} : dd (joined a b) (a.size + 1 + i) = dd b i := sg_right

theorem blanksG_right {i : Nat} (h : i ≤ b.size) : blanksG (joined a b) (a.size + 1 + i) = a.size + 1 + blanksG b i := by
  rw [blanksG_eq (joined a b), blanksG_eq b]
  rw [runTo_right, dd_right, runTo_right, joined_size]
  by_cases hc : dd b (runTo isBlank b i) = true ∧ i < runTo notLine b (runTo isBlank b i) ∧ runTo notLine b (runTo isBlank b i) ≤ b.size
  · rw [if_pos ⟨hc.1, by omega, by omega⟩, if_pos hc]
    exact blanksG_right hc.2.2
  · rw [if_neg (fun h' => hc ⟨h'.1, by omega, by omega⟩), if_neg hc]
termination_by b.size - i

theorem dd_end : dd a a.size = false := by
  cases h : dd a a.size
  · rfl
  · have := (dd_at h).1
    omega

/-- Where one goes on in both. -/
def conv (a b : ByteArray) (i : Nat) : Nat := if i < a.size then i else a.size + 1 + blanksG b 0

theorem blanksG_left {i : Nat} (h : i ≤ a.size) : blanksG (joined a b) i = conv a b (blanksG a i) := by
  have h1 := runTo_le isBlank a i h
  have h1' := runTo_ge isBlank a i
  rw [blanksG_eq a]
  by_cases hr : runTo isBlank a i < a.size
  · have e1 : runTo isBlank (joined a b) i = runTo isBlank a i := by rw [runBlank_left h, if_pos hr]
    have h2 := runTo_le notLine a (runTo isBlank a i) h1
    rw [blanksG_eq (joined a b), e1, dd_left h1, runTo_left (p := notLine) rfl h1, joined_size]
    by_cases hc : dd a (runTo isBlank a i) = true ∧ i < runTo notLine a (runTo isBlank a i) ∧ runTo notLine a (runTo isBlank a i) ≤ a.size
    · rw [if_pos ⟨hc.1, hc.2.1, by omega⟩, if_pos hc]
      exact blanksG_left hc.2.2
    · rw [if_neg (fun h' => hc ⟨h'.1, h'.2.1, h2⟩), if_neg hc]
      unfold conv
      rw [if_pos hr]
  · have e0 : runTo isBlank a i = a.size := by omega
    have e1 : runTo isBlank (joined a b) i = a.size + 1 + runTo isBlank b 0 := by rw [runBlank_left h, if_neg hr]
    rw [e0, if_neg (by rw [dd_end]; simp)]
    unfold conv
    rw [if_neg (by omega), blanksG_eq (joined a b), e1, dd_right, runTo_right, joined_size, blanksG_eq b]
    by_cases hc : dd b (runTo isBlank b 0) = true ∧ 0 < runTo notLine b (runTo isBlank b 0) ∧ runTo notLine b (runTo isBlank b 0) ≤ b.size
    · rw [if_pos ⟨hc.1, by omega, by omega⟩, if_pos hc]
      exact blanksG_right hc.2.2
    · rw [if_neg, if_neg hc]
      intro h'
      have h3 := dd_more h'.1
      exact hc ⟨h'.1, by omega, h3.2⟩
termination_by a.size - i

/-! Words. -/
theorem dgAt_left {i : Nat} (h : i ≤ a.size) : dgAt (joined a b) i = dgAt a i := by
  unfold dgAt
  rw [joined_size]
  by_cases hi : i < a.size
  · rw [if_pos (by omega), if_pos hi, byt_left hi]
  · obtain rfl : i = a.size := by omega
    rw [if_pos (by omega), if_neg hi, byt_mid]
    rfl
theorem dgAt_right {i : Nat} : dgAt (joined a b) (a.size + 1 + i) = dgAt b i := by
  unfold dgAt
  rw [joined_size]
  by_cases hi : i < b.size
  · rw [if_pos (by omega), if_pos hi, byt_right hi]
  · rw [if_neg (by omega), if_neg hi]

theorem dot_left {i : Nat} (h : i ≤ a.size) : dot (joined a b) i = dot a i := sg_left h (by intro x hx; simp at hx; subst hx; decide)
theorem dot_right {i : Nat} : dot (joined a b) (a.size + 1 + i) = dot b i := sg_right

theorem dot_lt {s : ByteArray} {i : Nat} (h : dot s i = true) : i < s.size := by
  unfold dot at h
  rw [bytes_rest] at h
  have := (List.getElem?_eq_some_iff.1 (prefix1.1 h)).1
  exact this

theorem dotEnd_left {i : Nat} (h : i ≤ a.size) : dotEnd (joined a b) i = dotEnd a i := by
  unfold dotEnd
  rw [dot_left h]
  cases hd : dot a i
  · simp
  · have := dot_lt hd
    simp only [if_true]
    rw [dgAt_left (by omega), runTo_left (p := isDigit) rfl (by omega)]
theorem dotEnd_right {i : Nat} : dotEnd (joined a b) (a.size + 1 + i) = a.size + 1 + dotEnd b i := by
  unfold dotEnd
  rw [dot_right, show a.size + 1 + i + 1 = a.size + 1 + (i + 1) by omega, dgAt_right, runTo_right]
  split
  · split <;> rfl
  · rfl

theorem expFar_left {i : Nat} (h : i < a.size) : expFar (joined a b) i = expFar a i := by
  unfold expFar
  rw [joined_size]
  by_cases hi : i + 1 < a.size
  · rw [if_pos (by omega), if_pos hi, byt_left hi]
  · have e : i + 1 = a.size := by omega
    rw [if_pos (by omega), if_neg hi, e, byt_mid]
    rfl
theorem expFar_right {i : Nat} : expFar (joined a b) (a.size + 1 + i) = expFar b i := by
  unfold expFar
  rw [joined_size, show a.size + 1 + i + 1 = a.size + 1 + (i + 1) by omega]
  by_cases hi : i + 1 < b.size
  · rw [if_pos (by omega), if_pos hi, byt_right hi]
  · rw [if_neg (by omega), if_neg hi]

theorem expFar_in {s : ByteArray} {i : Nat} (h : i < s.size) : i + expFar s i ≤ s.size := by
  unfold expFar
  split
  · split
    · omega
    · split <;> omega
  · omega

theorem expTo_left {i : Nat} (h : i < a.size) : expTo (joined a b) i = expTo a i := by
  unfold expTo
  have := expFar_in h
  rw [expFar_left h, dgAt_left (by omega), runTo_left (p := isDigit) rfl (by omega)]
theorem expTo_right {i : Nat} : expTo (joined a b) (a.size + 1 + i) = a.size + 1 + expTo b i := by
  unfold expTo
  rw [expFar_right, show a.size + 1 + i + expFar b i = a.size + 1 + (i + expFar b i) by omega, dgAt_right, runTo_right]
  split <;> rfl

theorem expEnd_left {i : Nat} (h : i ≤ a.size) : expEnd (joined a b) i = expEnd a i := by
  unfold expEnd
  rw [joined_size]
  by_cases hi : i < a.size
  · rw [if_pos (by omega), if_pos hi, byt_left hi, expTo_left hi]
  · obtain rfl : i = a.size := by omega
    rw [if_pos (by omega), if_neg hi, byt_mid]
    rfl
theorem expEnd_right {i : Nat} : expEnd (joined a b) (a.size + 1 + i) = a.size + 1 + expEnd b i := by
  unfold expEnd
  rw [joined_size, expTo_right]
  by_cases hi : i < b.size
  · rw [if_pos (by omega), if_pos hi, byt_right hi]
    split
    · rfl
    · split <;> rfl
  · rw [if_neg (by omega), if_neg hi]

theorem numEnd_left {i : Nat} (h : i ≤ a.size) : numEnd (joined a b) i = numEnd a i := by
  obtain ⟨g1, g2, g3, g4, g5⟩ := numEnd_le a i h
  unfold numEnd
  rw [runTo_left (p := isDigit) rfl h, dotEnd_left g4, expEnd_left g3]
theorem numEnd_right {i : Nat} : numEnd (joined a b) (a.size + 1 + i) = a.size + 1 + numEnd b i := by
  unfold numEnd
  rw [runTo_right, dotEnd_right, expEnd_right]

theorem numBad_left {i k : Nat} (h : k ≤ a.size) : numBad (joined a b) i k = numBad a i k := by
  unfold numBad
  simp only [numE]
  rw [extract_left h, joined_size]
  by_cases hk : k < a.size
  · rw [if_pos (show k < a.size + 1 + b.size by omega), if_pos hk, byt_left hk]
  · obtain rfl : k = a.size := by omega
    rw [if_pos (show a.size < a.size + 1 + b.size by omega), if_neg hk, byt_mid]
    rfl

theorem textGo_left {i : Nat} : ∀ (j : Nat) (cs : List Value) (j' : Nat) (cs' : List Value), textGo a i j cs = .done j' cs' → textGo (joined a b) i j cs = .done j' cs' := by
  intro j cs j' cs' h
  rw [textGo] at h
  split at h
  next hj =>
    rw [textGo, if_pos (by rw [joined_size]; omega), byt_left hj]
    split at h
    · cases h
    next c1 =>
      rw [if_neg c1]
      split at h
      next c2 => rw [if_pos c2]; exact h
      next c2 =>
        rw [if_neg c2]
        split at h
        next c3 =>
          rw [if_pos c3]
          split at h
          next hj1 =>
            rw [if_pos (by rw [joined_size]; omega), byt_left hj1]
            split at h
            · cases h
            next c4 =>
              rw [if_neg c4]
              split at h
              · cases h
              next c5 => rw [if_neg c5]; exact textGo_left _ _ _ _ h
          · cases h
        next c3 => rw [if_neg c3]; exact textGo_left _ _ _ _ h
  · cases h
termination_by j => a.size - j

theorem textGo_right {i i' : Nat} : ∀ (j : Nat) (cs : List Value) (j' : Nat) (cs' : List Value), textGo b i j cs = .done j' cs' → textGo (joined a b) i' (a.size + 1 + j) cs = .done (a.size + 1 + j') cs' := by
  intro j cs j' cs' h
  rw [textGo] at h
  split at h
  next hj =>
    rw [textGo, if_pos (by rw [joined_size]; omega), byt_right hj]
    split at h
    · cases h
    next c1 =>
      rw [if_neg c1]
      split at h
      next c2 => rw [if_pos c2]; cases h; rfl
      next c2 =>
        rw [if_neg c2]
        split at h
        next c3 =>
          rw [if_pos c3]
          split at h
          next hj1 =>
            rw [if_pos (by rw [joined_size]; omega), show a.size + 1 + j + 1 = a.size + 1 + (j + 1) by omega, byt_right hj1]
            split at h
            · cases h
            next c4 =>
              rw [if_neg c4]
              split at h
              · cases h
              next c5 => rw [if_neg c5, show a.size + 1 + j + 2 = a.size + 1 + (j + 2) by omega]; exact textGo_right _ _ _ _ h
          · cases h
        next c3 => rw [if_neg c3, show a.size + 1 + j + 1 = a.size + 1 + (j + 1) by omega]; exact textGo_right _ _ _ _ h
  · cases h
termination_by j => b.size - j

theorem signs_line : ∀ l ∈ signs, ∀ x ∈ l, x ≠ 10 := by decide

theorem signFrom_left {i : Nat} (h : i ≤ a.size) : signFrom (joined a b) i 0 = signFrom a i 0 := by
  unfold signFrom
  rw [List.drop_zero]
  have : ∀ l ∈ signs, sgAt (joined a b) i l = sgAt a i l := fun l hl => sg_left h (signs_line l hl)
  generalize signs = L at this
  induction L with
  | nil => rfl
  | cons x L ih =>
    rw [List.find?_cons, List.find?_cons, this x (by simp), ih fun l hl => this l (by simp [hl])]
theorem signFrom_right {i : Nat} : signFrom (joined a b) (a.size + 1 + i) 0 = signFrom b i 0 := by
  unfold signFrom
  congr 1
  funext l
  exact sg_right

theorem wordR_left {i : Nat} (hi : i < a.size) {t : Tk} {to : Nat} (h : wordR a i = .tok t to) : wordR (joined a b) i = .tok t to := by
  unfold wordR at h ⊢
  rw [byt_left hi]
  split at h
  next h1 =>
    rw [if_pos h1]
    unfold nameR at h ⊢
    rw [runTo_left (p := isName) rfl (by omega), extract_left (runTo_le _ _ _ (by omega))]
    exact h
  next h1 =>
    rw [if_neg h1]
    split at h
    next h2 =>
      rw [if_pos h2]
      obtain ⟨g1, g2, g3, g4, g5⟩ := numEnd_le a i (by omega)
      unfold numR at h ⊢
      rw [numEnd_left (by omega), numBad_left g2]
      simp only [numN] at h ⊢
      rw [extract_left g2]
      exact h
    next h2 =>
      rw [if_neg h2]
      split at h
      next h3 =>
        rw [if_pos h3]
        unfold textR at h ⊢
        split at h
        · cases h
        next j cs hb =>
          rw [textGo_left _ _ _ _ hb]
          exact h
      next h3 =>
        rw [if_neg h3]
        unfold signR at h ⊢
        rw [signFrom_left (by omega)]
        exact h

/-- A token so far behind. -/
def Tk.by (t : Tk) (n : Nat) : Tk := { t with a := t.a + (n : Int) }

theorem numBad_right {i k : Nat} (h : numBad b i k = none) : numBad (joined a b) (a.size + 1 + i) (a.size + 1 + k) = none := by
  unfold numBad at h ⊢
  simp only [numE] at h ⊢
  rw [extract_right, joined_size]
  split at h
  · cases h
  next h1 =>
    rw [if_neg h1]
    by_cases hk : k < b.size
    · rw [if_pos hk] at h
      rw [if_pos (by omega), byt_right hk]
      split at h
      · cases h
      next h2 =>
        rw [if_neg h2]
        split at h
        · cases h
        next h3 => rw [if_neg h3]
    · rw [if_neg (by omega)]

theorem wordR_right {i : Nat} (hi : i < b.size) {t : Tk} {to : Nat} (h : wordR b i = .tok t to) : wordR (joined a b) (a.size + 1 + i) = .tok (t.by (a.size + 1)) (a.size + 1 + to) := by
  have ei : ((a.size + 1 + i : Nat) : Int) = (i : Int) + ((a.size + 1 : Nat) : Int) := by omega
  unfold wordR at h ⊢
  rw [byt_right hi]
  split at h
  next h1 =>
    rw [if_pos h1]
    unfold nameR at h ⊢
    cases h
    rw [runTo_right, extract_right, ei]
    rfl
  next h1 =>
    rw [if_neg h1]
    split at h
    next h2 =>
      rw [if_pos h2]
      unfold numR at h ⊢
      rw [numEnd_right]
      split at h
      · cases h
      next hb =>
        rw [numBad_right hb]
        cases h
        simp only [numN]
        rw [extract_right, ei]
        rfl
    next h2 =>
      rw [if_neg h2]
      split at h
      next h3 =>
        rw [if_pos h3]
        unfold textR at h ⊢
        split at h
        · cases h
        next j cs hb =>
          rw [show a.size + 1 + i + 1 = a.size + 1 + (i + 1) by omega, textGo_right _ _ _ _ hb]
          simp only
          split at h
          · cases h
          next hl =>
            rw [if_neg hl]
            cases h
            rw [ei]
            rfl
      next h3 =>
        rw [if_neg h3]
        unfold signR at h ⊢
        rw [signFrom_right]
        split at h
        next l hl =>
          cases h
          rw [ei]
          show WR.tok _ _ = WR.tok _ _
          congr 1
          omega
        · cases h

theorem sq_right {i : Nat} {l : List Tk} (h : Sq b i l) : Sq (joined a b) (a.size + 1 + i) (l.map (·.by (a.size + 1))) := by
  induction h with
  | nil i h => exact .nil _ (by rw [joined_size]; omega)
  | cons i t to l h hr hl ih =>
    have := word_more h hr
    refine .cons _ _ (a.size + 1 + to) _ (by rw [joined_size]; omega) (wordR_right h hr) ?_
    rw [blanksG_right this.2.1]
    exact ih

theorem sq_left {i : Nat} {l : List Tk} (h : Sq a i l) {l' : List Tk} (hl' : Sq b (blanksG b 0) l') : Sq (joined a b) (conv a b i) (l ++ l'.map (·.by (a.size + 1))) := by
  induction h with
  | nil i h =>
    unfold conv
    rw [if_neg h, List.nil_append]
    exact sq_right hl'
  | cons i t to l h hr hl ih =>
    have := word_more h hr
    unfold conv
    rw [if_pos h, List.cons_append]
    refine .cons _ _ to _ (by rw [joined_size]; omega) (wordR_left h hr) ?_
    rw [blanksG_left this.2.1]
    exact ih

end

theorem Sq.words {b : ByteArray} {i : Nat} {l : List Tk} (h : Sq b i l) : ∀ acc : List Tk, acc.length + l.length ≤ 16384 → wordsGo b i acc = .done (acc ++ l) := by
  induction h with
  | nil i h => intro acc _; rw [wordsGo_end h, List.append_nil]
  | cons i t to l h hr hl ih =>
    intro acc hlen
    rw [List.length_cons] at hlen
    rw [wordsGo_tok h hr, if_neg (by omega), ih (acc ++ [t]) (by rw [List.length_append]; simp; omega), List.append_assoc]
    rfl

/-- The words of both. -/
theorem joins_words {a b : ByteArray} {la lb : List Tk} (ha : wordsG a = .done la) (hb : wordsG b = .done lb) (hlen : la.length + lb.length ≤ 16384) : wordsG (joined a b) = .done (la ++ lb.map (·.by (a.size + 1))) := by
  have h1 := sq_left (wordsG_sq ha).1 (wordsG_sq hb).1
  unfold wordsG
  rw [blanksG_left (Nat.zero_le _)]
  exact h1.words [] (by simp; omega)

end Go.Proofs.YtiabpbememhdeaaDoor

/-
  The lexer's seat: 'same', 'LexJoins', walked.
-/
set_option linter.unusedVariables false
set_option linter.unusedSimpArgs false
namespace Go.Proofs.YtiabpbememhdeaaDoor
open Go.Ai Go.RowKit
set_option maxRecDepth 100000

/-- A whole token is read. -/
theorem tok_read4 {L : List Tk} {i : Nat} {t : Tk} (h : L[i]? = some t) {o : Nat} (ho : o = i * 4) :
    (if 0 ≤ L.length - 1 ∧ o + 4 ≤ ext (cellsOf L) (L.length - 1) (histE 4 (L.length - 1)) (L.length - 1) ∧ o + 4 ≤ (cellsOf L).length then some (((cellsOf L).drop o).take 4) else none) = some t.cells := by
  subst ho
  have h1 := (List.getElem?_eq_some_iff.1 h).1
  have h2 := cellsOf_length L
  have e : (cellsOf L).drop (i * 4) = t.cells ++ (cellsOf L).drop (i * 4 + 4) := by
    clear h2 h1
    induction L generalizing i with
    | nil => simp at h
    | cons x L ih =>
      have e : cellsOf (x :: L) = x.cells ++ cellsOf L := rfl
      have e4 : x.cells.length = 4 := rfl
      cases i with
      | zero =>
        simp only [List.getElem?_cons_zero, Option.some.injEq] at h
        subst h
        rw [e, Nat.zero_mul, Nat.zero_add, List.drop_zero, List.drop_append, List.drop_eq_nil_of_le (by omega), List.nil_append, e4, Nat.sub_self, List.drop_zero]
      | succ i =>
        have k1 : ∀ m, (x.cells ++ cellsOf L).drop (m + 4) = (cellsOf L).drop m := by
          intro m
          rw [List.drop_append, List.drop_eq_nil_of_le (by omega), List.nil_append, e4, Nat.add_sub_cancel]
        rw [e, show (i + 1) * 4 = i * 4 + 4 by omega, k1, k1]
        exact ih (by simpa using h)
  rw [if_pos ⟨Nat.zero_le _, by simp only [ext, if_true]; omega, by omega⟩, e]
  rfl

def fSame : FuncId := 11
noncomputable def sameL : Code := loopAt Tryd.prog fSame 0
abbrev slT (r : Nat) (L : List Tk) (n : Nat) : Value := .slice (some ⟨r, 0, some (L.length - 1)⟩) n unc

theorem tok_same (t : Tk) : ((t.k == t.k) && ((t.a == t.a) && ((t.s.data.toList == t.s.data.toList) && ((t.n == t.n) && true)))) = true := by simp

theorem same_go (q i n r1 r2 : Nat) (L1 L2 : List Tk) (t : Tk) (d : List Deferred) (rest : Nat → Value) (s : St) (hov : Holds s [(r1, tokRows L1), (r2, tokRows L2)]) (hi : i < n) (hn : n ≤ 100000) (h1 : L1[i]? = some t) (h2 : L2[i]? = some t) :
    ∃ rest' s', evalCode EW (callN EW NN q) NN sameL { tmps := tmpsOf 26 [(0, slT r1 L1 n), (1, slT r2 L2 n), (4, .bool false), (5, .int .i64 (i : Int))] rest, defers := d } s = some (.normal, { tmps := tmpsOf 26 [(0, slT r1 L1 n), (1, slT r2 L2 n), (4, .bool false), (5, .int .i64 ((i + 1 : Nat) : Int))] rest', defers := d }, s') ∧ After s s' [r1, r2] [(r1, tokRows L1), (r2, tokRows L2)] := by
  have f1 := tok_read4 h1 (o := 0 + i * 4) (by omega)
  have f2 := tok_read4 h2 (o := 0 + i * 4) (by omega)
  have f3 := tok_same t
  exact roundj_by hov [.yes 0 (show (↑i : Int) < (↑n : Int) from by omega), .yes 0 (show (0 : Int) ≤ (↑i : Int) ∧ (↑i : Int) < (↑n : Int) from by omega), .m 0 0, .list 0 f1, .yes 0 (show (0 : Int) ≤ (↑i : Int) ∧ (↑i : Int) < (↑n : Int) from by omega), .m 0 1, .list 0 f2, .is 0 (congrArg not f3), .int 1 (wrap_i64 (n := (↑i : Int) + (1 : Int)) (by omega) (by omega)), .m 0 0] [0, 1] (by kernel_rfl)

theorem same_end (q n r1 r2 : Nat) (L1 L2 : List Tk) (d : List Deferred) (rest : Nat → Value) (s : St) (hov : Holds s [(r1, tokRows L1), (r2, tokRows L2)]) :
    ∃ rest' s', evalCode EW (callN EW NN q) NN sameL { tmps := tmpsOf 26 [(0, slT r1 L1 n), (1, slT r2 L2 n), (4, .bool false), (5, .int .i64 (n : Int))] rest, defers := d } s = some (.exit 0, { tmps := tmpsOf 26 [] rest', defers := d }, s') ∧ After s s' [r1, r2] [(r1, tokRows L1), (r2, tokRows L2)] := by
  exact roundj_by hov [.no 0 (show ¬ ((↑n : Int) < (↑n : Int)) from by omega), .m 0 0] [0, 1] (by kernel_rfl)

theorem same_loop (q n : Nat) (L1 L2 : List Tk) (d : List Deferred) (hn : n ≤ 100000) (h : ∀ i, i < n → ∃ t, L1[i]? = some t ∧ L2[i]? = some t) :
    Loops2 (tokRows L1) (tokRows L2) (evalCode EW (callN EW NN q) NN (.loop sameL)) 26 d (fun r1 r2 => [(0, slT r1 L1 n), (1, slT r2 L2 n), (4, .bool false), (5, .int .i64 0)]) (.exit 0) (fun r1 r2 _ => []) (fun r1 r2 _ => [(r1, tokRows L1), (r2, tokRows L2)]) := by
  intro r1 r2 rest s hov
  refine loop_pi (x := .exit 0) (fun i : Nat => [(0, slT r1 L1 n), (1, slT r2 L2 n), (4, .bool false), (5, .int .i64 (i : Int))]) (fun _ => [(r1, tokRows L1), (r2, tokRows L2)]) (fun i => n - i) (fun i => i ≤ n) (by simp) (fun i hi rest s' hA => ?_) 0 (Nat.zero_le _) (by show n - 0 < 1048576; omega) hov rest
  by_cases hlt : i < n
  · obtain ⟨t, h1, h2⟩ := h i hlt
    obtain ⟨rest', s'', g1, g2⟩ := same_go q i n r1 r2 L1 L2 t d rest s' hA.holds hlt hn h1 h2
    exact .inl ⟨i + 1, rest', s'', by show i + 1 ≤ n; omega, by show n - (i + 1) < n - i; omega, g1, g2⟩
  · obtain rfl : i = n := by omega
    obtain ⟨rest', s'', g1, g2⟩ := same_end q i r1 r2 L1 L2 d rest s' hA.holds
    exact .inr ⟨[], rest', s'', g1, g2⟩

theorem same_ok (q n : Nat) (L1 L2 : List Tk) (hn : n ≤ 100000) (h : ∀ i, i < n → ∃ t, L1[i]? = some t ∧ L2[i]? = some t) :
    Calls2 (tokRows L1) (tokRows L2) (fun r1 r2 => callN EW NN (q + 1) fSame [slT r1 L1 n, slT r2 L2 n]) (fun _ _ _ => .ok (.bool true)) (fun r1 r2 _ => [(r1, tokRows L1), (r2, tokRows L2)]) := by
  intro r1 r2 s hov
  have l1 := (same_loop q n L1 L2 [] hn h).ev
  exact fnkj_by hov [.is 0 (congrArg not (show ((↑n : Int) == (↑n : Int)) = true from beq_iff_eq.2 (by omega))), .loop 3 0 [0, 1] l1, .m 0 0] [] [0, 1] (by kernel_rfl) (by kernel_rfl)

end Go.Proofs.YtiabpbememhdeaaDoor

/-
  The lexer's seat: 'LexJoins', walked.
-/
set_option linter.unusedVariables false
set_option linter.unusedSimpArgs false
namespace Go.Proofs.YtiabpbememhdeaaDoor
open Go.Ai Go.RowKit
set_option maxRecDepth 100000

def fJoins : FuncId := 5
noncomputable def joinL : Code := loopAt Tryd.prog fJoins 0
abbrev jLive (a b : ByteArray) (rx ry rz : Nat) (X Y Z : List Tk) (i : Int) : List (Nat × Value) := [(0, .string a), (1, .string b), (4, .bool false), (5, slT rx X X.length), (8, slT ry Y Y.length), (11, slT rz Z Z.length), (14, .int .i64 i)]

theorem by_same (t : Tk) (n : Nat) (z : Tk) (h : z = t.by n) : ((z.k == t.k) && ((z.a == t.a + (n : Int)) && ((z.s.data.toList == t.s.data.toList) && ((z.n == t.n) && true)))) = true := by
  subst h
  simp [Tk.by]

theorem join_go (q : Nat) (a b : ByteArray) (rx ry rz : Nat) (X Y Z : List Tk) (i n p : Nat) (k m : Int) (ts : ByteArray) (z : Tk) (d : List Deferred) (rest : Nat → Value) (s : St) (hov : Holds s [(rx, tokRows X), (ry, tokRows Y), (rz, tokRows Z)]) (hi : i < Y.length) (hX : X.length = n + 1) (hn : n ≤ 100000) (hY : Y.length ≤ 100000) (ha : a.size ≤ 100000) (hp : p ≤ 100000)
    (h1 : Y[i]? = some ⟨k, (p : Int), ts, m⟩) (h2 : Z[n + i]? = some z) (hz : z = Tk.by ⟨k, (p : Int), ts, m⟩ (a.size + 1)) (hZ : n + i < Z.length) :
    ∃ rest' s', evalCode EW (callN EW NN q) NN joinL { tmps := tmpsOf 116 (jLive a b rx ry rz X Y Z (i : Int)) rest, defers := d } s = some (.normal, { tmps := tmpsOf 116 (jLive a b rx ry rz X Y Z ((i + 1 : Nat) : Int)) rest', defers := d }, s') ∧ After s s' [rx, ry, rz] [(rx, tokRows X), (ry, tokRows Y), (rz, tokRows Z)] := by
  have f1 := tok_read4 h1 (o := 0 + i * 4) (by omega)
  have f2 := tok_read4 h2 (o := 0 + (n + i) * 4) (by omega)
  have f3 : ((z.k == k) && ((z.a == (p : Int) + (a.size : Int) + 1) && ((z.s.data.toList == ts.data.toList) && ((z.n == m) && true)))) = true := by
    subst hz
    simp [Tk.by]
    omega
  have i1 : IntKind.i64.wrap ((X.length : Int) - 1) = (n : Int) := by rw [wrap_i64 (by omega) (by omega)]; omega
  exact roundj_by hov [.yes 0 (show (↑i : Int) < (↑(List.length Y) : Int) from by omega), .yes 0 (show (0 : Int) ≤ (↑i : Int) ∧ (↑i : Int) < (↑(List.length Y) : Int) from by omega), .m 0 1, .list 0 f1, .m 0 0, .m 0 3, .m 0 3, .m 0 3, .int 1 (wrap_i64 (n := (↑p : Int) + (↑(ByteArray.size a) : Int)) (by omega) (by omega)), .int 0 (wrap_i64 (n := (↑p : Int) + (↑(ByteArray.size a) : Int) + (1 : Int)) (by omega) (by omega)), .m 0 3, .m 0 3, .int 1 i1, .int 1 (wrap_i64 (n := (↑n : Int) + (↑i : Int)) (by omega) (by omega)), .yes 0 (show (0 : Int) ≤ (↑n : Int) + (↑i : Int) ∧ (↑n : Int) + (↑i : Int) < (↑(List.length Z) : Int) from by omega), .m 0 2, .list 0 f2, .m 0 3, .is 1 (congrArg not f3), .int 1 (wrap_i64 (n := (↑i : Int) + (1 : Int)) (by omega) (by omega)), .m 0 0] [0, 1, 2] (by kernel_rfl)

theorem join_end (q : Nat) (a b : ByteArray) (rx ry rz : Nat) (X Y Z : List Tk) (d : List Deferred) (rest : Nat → Value) (s : St) (hov : Holds s [(rx, tokRows X), (ry, tokRows Y), (rz, tokRows Z)]) :
    ∃ rest' s', evalCode EW (callN EW NN q) NN joinL { tmps := tmpsOf 116 (jLive a b rx ry rz X Y Z (Y.length : Int)) rest, defers := d } s = some (.exit 0, { tmps := tmpsOf 116 [] rest', defers := d }, s') ∧ After s s' [rx, ry, rz] [] := by
  exact roundj_by hov [.no 0 (show ¬ ((↑(List.length Y) : Int) < (↑(List.length Y) : Int)) from by omega), .m 0 0] [] (by kernel_rfl)

/-- The end tokens fit, too. -/
theorem join_toks {a b : ByteArray} {la lb : List Tk} {i : Nat} {t : Tk} (h : (lb ++ [endT b])[i]? = some t) : ((la ++ lb.map (·.by (a.size + 1))) ++ [endT (joined a b)])[la.length + i]? = some (t.by (a.size + 1)) := by
  have e : (la ++ lb.map (·.by (a.size + 1))) ++ [endT (joined a b)] = la ++ (lb ++ [endT b]).map (·.by (a.size + 1)) := by
    rw [List.map_append, List.append_assoc]
    congr 2
    show [endT (joined a b)] = [(endT b).by (a.size + 1)]
    unfold endT Tk.by
    simp only [joined_size]
    congr 2
    omega
  rw [e, List.getElem?_append_right (by omega), show la.length + i - la.length = i by omega, List.getElem?_map, h]
  rfl

theorem join_loop (q : Nat) (a b : ByteArray) (la lb X Y Z : List Tk) (hX : X = la ++ [endT a]) (hY : Y = lb ++ [endT b]) (hZ : Z = (la ++ lb.map (·.by (a.size + 1))) ++ [endT (joined a b)]) (hb : wordsG b = .done lb) (hlen : la.length + lb.length ≤ 16384) (hs : a.size + b.size ≤ 65536) (d : List Deferred) :
    Loops3 (tokRows X) (tokRows Y) (tokRows Z) (evalCode EW (callN EW NN q) NN (.loop joinL)) 116 d (fun rx ry rz => jLive a b rx ry rz X Y Z 0) (.exit 0) (fun rx ry rz _ => []) (fun rx ry rz _ => []) := by
  intro rx ry rz rest s hov
  have lX : X.length = la.length + 1 := by rw [hX]; simp
  have lY : Y.length = lb.length + 1 := by rw [hY]; simp
  have lZ : Z.length = la.length + lb.length + 1 := by rw [hZ]; simp; omega
  refine loop_pi (x := .exit 0) (fun i : Nat => jLive a b rx ry rz X Y Z (i : Int)) (fun _ => [(rx, tokRows X), (ry, tokRows Y), (rz, tokRows Z)]) (fun i => Y.length - i) (fun i => i ≤ Y.length) (by simp) (fun i hi rest s' hA => ?_) 0 (Nat.zero_le _) (by show Y.length - 0 < 1048576; omega) hov rest
  by_cases hlt : i < Y.length
  · obtain ⟨t, ht⟩ : ∃ t, Y[i]? = some t := ⟨_, List.getElem?_eq_getElem hlt⟩
    have ht0 := ht
    rw [hY] at ht
    obtain ⟨p, k1, k2, k3, k4⟩ := all_words hb i t ht
    have hz := join_toks (a := a) (la := la) ht
    rw [← hZ] at hz
    obtain ⟨k, ta, ts, m⟩ := t
    simp only at k1
    subst k1
    have := k2.1
    obtain ⟨rest', s'', g1, g2⟩ := join_go q a b rx ry rz X Y Z i la.length p k m ts _ d rest s' hA.holds hlt lX (by omega) (by omega) (by omega) (by omega) ht0 hz rfl (by omega)
    exact .inl ⟨i + 1, rest', s'', by show i + 1 ≤ Y.length; omega, by show Y.length - (i + 1) < Y.length - i; omega, g1, g2⟩
  · obtain rfl : i = Y.length := by omega
    obtain ⟨rest', s'', g1, g2⟩ := join_end q a b rx ry rz X Y Z d rest s' hA.holds
    exact .inr ⟨[], rest', s'', g1, g2⟩

/-- A script that is refused. -/
theorem words_refused (q : Nat) (b : ByteArray) (h : ∀ l, b.size ≤ 65536 → wordsG b = .done l → False) : ∃ a e : Int, e ≠ 0 ∧ Calls0 (callN EW NN (q + 3 + 1 + 1) fWords [.string b]) (fun _ => .ok (.tuple #[.slice none 0 0, .int .i64 a, .int .i64 e])) (fun _ => []) := by
  by_cases h1 : b.size > 65536
  · exact ⟨0, 2, by omega, wordsF_long q b h1⟩
  · cases hb : wordsG b with
    | bad a e => exact ⟨a, e, wordsG_ne hb, wordsF_bad q b (by omega) a e hb⟩
    | done l => exact (h l (by omega) hb).elim

abbrev Joins (q : Nat) (a b : ByteArray) : Prop := Calls0 (callN EW NN (q + 3 + 1 + 1 + 1) fJoins [.string a, .string b]) (fun _ => .ok (.bool true)) (fun _ => [])

theorem joins_rr (q : Nat) (a b : ByteArray) (a1 e1 a2 e2 : Int) (h1 : e1 ≠ 0) (hx : Calls0 (callN EW NN (q + 3 + 1 + 1) fWords [.string a]) (fun _ => .ok (.tuple #[.slice none 0 0, .int .i64 a1, .int .i64 e1])) (fun _ => []))
    (hy : Calls0 (callN EW NN (q + 3 + 1 + 1) fWords [.string b]) (fun _ => .ok (.tuple #[.slice none 0 0, .int .i64 a2, .int .i64 e2])) (fun _ => [])) : Joins q a b := by
  intro s
  have l1 := hx.ev
  have l2 := hy.ev
  exact fnkj_by (holds_nil s) [.call 0 0 [] l1, .call 0 0 [] l2, .is 0 (congrArg not (show (e1 == (0 : Int)) = false from beq_eq_false_iff_ne.2 (by omega))), .is 0 (congrArg not (show (e1 == (0 : Int)) = false from beq_eq_false_iff_ne.2 (by omega))), .is 0 (congrArg not (show (e1 == (0 : Int)) = false from beq_eq_false_iff_ne.2 (by omega))), .m 0 0] [] [] (by kernel_rfl) (by kernel_rfl)
theorem joins_rd (q : Nat) (a b : ByteArray) (a1 e1 : Int) (h1 : e1 ≠ 0) (hx : Calls0 (callN EW NN (q + 3 + 1 + 1) fWords [.string a]) (fun _ => .ok (.tuple #[.slice none 0 0, .int .i64 a1, .int .i64 e1])) (fun _ => []))
    (Y : List Tk) (hy : Calls0 (callN EW NN (q + 3 + 1 + 1) fWords [.string b]) (fun nk => .ok (.tuple #[slT (nk.getD 0 0) Y Y.length, .int .i64 0, .int .i64 0])) (fun nk => [(nk.getD 0 0, tokRows Y)])) : Joins q a b := by
  intro s
  have l1 := hx.ev
  have l2 := hy.ev
  exact fnkj_by (holds_nil s) [.call 0 0 [] l1, .call 0 0 [] l2, .is 0 (congrArg not (show (e1 == (0 : Int)) = false from beq_eq_false_iff_ne.2 (by omega))), .is 0 (congrArg not (show (e1 == (0 : Int)) = false from beq_eq_false_iff_ne.2 (by omega))), .is 0 (congrArg not (show (e1 == (0 : Int)) = false from beq_eq_false_iff_ne.2 (by omega))), .m 0 0] [] [] (by kernel_rfl) (by kernel_rfl)
theorem joins_dr (q : Nat) (a b : ByteArray) (a1 e1 : Int) (h1 : e1 ≠ 0) (X : List Tk) (hx : Calls0 (callN EW NN (q + 3 + 1 + 1) fWords [.string a]) (fun nk => .ok (.tuple #[slT (nk.getD 0 0) X X.length, .int .i64 0, .int .i64 0])) (fun nk => [(nk.getD 0 0, tokRows X)]))
    (hy : Calls0 (callN EW NN (q + 3 + 1 + 1) fWords [.string b]) (fun _ => .ok (.tuple #[.slice none 0 0, .int .i64 a1, .int .i64 e1])) (fun _ => [])) : Joins q a b := by
  intro s
  have l1 := hx.ev
  have l2 := hy.ev
  exact fnkj_by (holds_nil s) [.call 0 0 [] l1, .call 0 0 [] l2, .is 3 (congrArg not (show (e1 == (0 : Int)) = false from beq_eq_false_iff_ne.2 (by omega))), .is 0 (congrArg not (show (e1 == (0 : Int)) = false from beq_eq_false_iff_ne.2 (by omega))), .is 0 (congrArg not (show (e1 == (0 : Int)) = false from beq_eq_false_iff_ne.2 (by omega))), .is 0 (congrArg not (show (e1 == (0 : Int)) = false from beq_eq_false_iff_ne.2 (by omega))), .is 0 (congrArg not (show (e1 == (0 : Int)) = false from beq_eq_false_iff_ne.2 (by omega))), .is 0 (congrArg not (show (e1 == (0 : Int)) = false from beq_eq_false_iff_ne.2 (by omega))), .is 0 (congrArg not (show (e1 == (0 : Int)) = false from beq_eq_false_iff_ne.2 (by omega))), .is 0 (congrArg not (show (e1 == (0 : Int)) = false from beq_eq_false_iff_ne.2 (by omega))), .m 0 0] [] [] (by kernel_rfl) (by kernel_rfl)
theorem joins_long (q : Nat) (a b : ByteArray) (X Y : List Tk) (hx : Calls0 (callN EW NN (q + 3 + 1 + 1) fWords [.string a]) (fun nk => .ok (.tuple #[slT (nk.getD 0 0) X X.length, .int .i64 0, .int .i64 0])) (fun nk => [(nk.getD 0 0, tokRows X)]))
    (hy : Calls0 (callN EW NN (q + 3 + 1 + 1) fWords [.string b]) (fun nk => .ok (.tuple #[slT (nk.getD 0 0) Y Y.length, .int .i64 0, .int .i64 0])) (fun nk => [(nk.getD 0 0, tokRows Y)])) (ha : a.size ≤ 65536) (hb : b.size ≤ 65536) (h : (a.size : Int) + (b.size : Int) + 1 > 65536) : Joins q a b := by
  intro s
  have l1 := hx.ev
  have l2 := hy.ev
  exact fnkj_by (holds_nil s) [.call 0 0 [] l1, .call 0 0 [] l2, .int 8 (wrap_i64 (n := (↑(ByteArray.size a) : Int) + (↑(ByteArray.size b) : Int)) (by omega) (by omega)), .int 0 (wrap_i64 (n := (↑(ByteArray.size a) : Int) + (↑(ByteArray.size b) : Int) + (1 : Int)) (by omega) (by omega)), .yes 2 h, .yes 0 h, .yes 0 h, .yes 0 h, .yes 0 h, .yes 0 h, .yes 0 h, .m 0 0] [] [] (by kernel_rfl) (by kernel_rfl)
theorem joins_many (q : Nat) (a b : ByteArray) (X Y : List Tk) (hx : Calls0 (callN EW NN (q + 3 + 1 + 1) fWords [.string a]) (fun nk => .ok (.tuple #[slT (nk.getD 0 0) X X.length, .int .i64 0, .int .i64 0])) (fun nk => [(nk.getD 0 0, tokRows X)]))
    (hy : Calls0 (callN EW NN (q + 3 + 1 + 1) fWords [.string b]) (fun nk => .ok (.tuple #[slT (nk.getD 0 0) Y Y.length, .int .i64 0, .int .i64 0])) (fun nk => [(nk.getD 0 0, tokRows Y)])) (h0 : ¬ (a.size : Int) + (b.size : Int) + 1 > 65536) (hX : X.length ≤ 100000) (hY : Y.length ≤ 100000) (h : (X.length : Int) + (Y.length : Int) > 16384) : Joins q a b := by
  intro s
  have l1 := hx.ev
  have l2 := hy.ev
  exact fnkj_by (holds_nil s) [.call 0 0 [] l1, .call 0 0 [] l2, .int 8 (wrap_i64 (n := (↑(ByteArray.size a) : Int) + (↑(ByteArray.size b) : Int)) (by omega) (by omega)), .int 0 (wrap_i64 (n := (↑(ByteArray.size a) : Int) + (↑(ByteArray.size b) : Int) + (1 : Int)) (by omega) (by omega)), .no 2 h0, .no 0 h0, .no 0 h0, .no 0 h0, .no 0 h0, .int 0 (wrap_i64 (n := (↑(List.length X) : Int) + (↑(List.length Y) : Int)) (by omega) (by omega)), .no 0 h0, .no 0 h0, .yes 0 h, .m 0 0] [] [] (by kernel_rfl) (by kernel_rfl)

theorem joins_good (q : Nat) (a b : ByteArray) (la lb X Y Z : List Tk) (eX : X = la ++ [endT a]) (eY : Y = lb ++ [endT b]) (eZ : Z = (la ++ lb.map (·.by (a.size + 1))) ++ [endT (joined a b)]) (hx : wordsG a = .done la) (hy : wordsG b = .done lb)
    (h0 : ¬ (a.size : Int) + (b.size : Int) + 1 > 65536) (n m : Nat) (hX : X.length = n + 1) (hY : Y.length = m + 1) (hZ : Z.length = n + m + 1) (h : ¬ (X.length : Int) + (Y.length : Int) > 16384) (hlen : la.length + lb.length ≤ 16384) (hn : n = la.length)
    (hsame : ∀ i, i < n → ∃ t, Z[i]? = some t ∧ X[i]? = some t) : Joins q a b := by
  intro s
  have l1 := (wordsF_L q a (by omega) la hx X eX).ev
  have l2 := (wordsF_L q b (by omega) lb hy Y eY).ev
  have hz := joins_words hx hy hlen
  have z1 : (a ++ ⟨#[10]⟩ : ByteArray).size = a.size + 1 := by rw [ByteArray.size_append]; rfl
  have l3 := (wordsF_L q (joined a b) (by rw [joined_size]; omega) _ hz Z eZ).ev
  have l4 := (same_ok (q + 4) n Z X (by omega) hsame).ev
  have l5 := (join_loop (q + 5) a b la lb X Y Z eX eY eZ hy hlen (by omega) []).ev
  have y1 : a.size + 1 ≤ 4611686018427387904 := by omega
  have y2 : (a ++ ⟨#[10]⟩ : ByteArray).size + b.size ≤ 4611686018427387904 := by omega
  have i1 : IntKind.i64.wrap ((X.length : Int) - 1) = (n : Int) := by rw [wrap_i64 (by omega) (by omega)]; omega
  have i2 : IntKind.i64.wrap ((X.length : Int) + (Y.length : Int) - 1) = (Z.length : Int) := by rw [wrap_i64 (by omega) (by omega)]; omega
  exact fnkj_by (holds_nil s) [.call 0 0 [] l1, .call 0 0 [] l2, .int 8 (wrap_i64 (n := (↑(ByteArray.size a) : Int) + (↑(ByteArray.size b) : Int)) (by omega) (by omega)), .int 0 (wrap_i64 (n := (↑(ByteArray.size a) : Int) + (↑(ByteArray.size b) : Int) + (1 : Int)) (by omega) (by omega)), .no 2 h0, .no 0 h0, .no 0 h0, .no 0 h0, .no 0 h0, .int 0 (wrap_i64 (n := (↑(List.length X) : Int) + (↑(List.length Y) : Int)) (by omega) (by omega)), .no 0 h0, .no 0 h0, .no 0 h, .yes 0 y1, .yes 0 y2, .call 0 0 [] l3, .int 8 (wrap_i64 (n := (↑(List.length X) : Int) + (↑(List.length Y) : Int)) (by omega) (by omega)), .int 0 i2, .is 2 (congrArg not (show ((↑(List.length Z) : Int) == (↑(List.length Z) : Int)) = true from beq_iff_eq.2 (by omega))), .is 0 (congrArg not (show ((↑(List.length Z) : Int) == (↑(List.length Z) : Int)) = true from beq_iff_eq.2 (by omega))), .is 0 (congrArg not (show ((↑(List.length Z) : Int) == (↑(List.length Z) : Int)) = true from beq_iff_eq.2 (by omega))), .is 0 (congrArg not (show ((↑(List.length Z) : Int) == (↑(List.length Z) : Int)) = true from beq_iff_eq.2 (by omega))), .int 0 i1, .is 0 (congrArg not (show ((↑(List.length Z) : Int) == (↑(List.length Z) : Int)) = true from beq_iff_eq.2 (by omega))), .m 0 2, .yes 1 (show n ≤ List.length Z from by omega), .is 0 (congrArg not (show ((↑(List.length Z) : Int) == (↑(List.length Z) : Int)) = true from beq_iff_eq.2 (by omega))), .is 0 (congrArg not (show ((↑(List.length Z) : Int) == (↑(List.length Z) : Int)) = true from beq_iff_eq.2 (by omega))), .is 0 (congrArg not (show ((↑(List.length Z) : Int) == (↑(List.length Z) : Int)) = true from beq_iff_eq.2 (by omega))), .is 0 (congrArg not (show ((↑(List.length Z) : Int) == (↑(List.length Z) : Int)) = true from beq_iff_eq.2 (by omega))), .int 0 i1, .is 0 (congrArg not (show ((↑(List.length Z) : Int) == (↑(List.length Z) : Int)) = true from beq_iff_eq.2 (by omega))), .m 0 0, .yes 1 (show n ≤ List.length X from by omega), .is 0 (congrArg not (show ((↑(List.length Z) : Int) == (↑(List.length Z) : Int)) = true from beq_iff_eq.2 (by omega))), .call 0 0 [2, 0] l4, .is 0 (congrArg not (show ((↑(List.length Z) : Int) == (↑(List.length Z) : Int)) = true from beq_iff_eq.2 (by omega))), .is 0 (congrArg not (show ((↑(List.length Z) : Int) == (↑(List.length Z) : Int)) = true from beq_iff_eq.2 (by omega))), .m 1 2, .yes 1 (show n ≤ List.length Z from by omega), .m 1 0, .yes 1 (show n ≤ List.length X from by omega), .loop 4 0 [2, 0, 1] l5, .m 0 0] [] [] (by kernel_rfl) (by kernel_rfl)

theorem joins_ok (q : Nat) (a b : ByteArray) : Joins q a b := by
  by_cases ha : ∃ l, a.size ≤ 65536 ∧ wordsG a = .done l
  · obtain ⟨la, a1, hx⟩ := ha
    by_cases hb : ∃ l, b.size ≤ 65536 ∧ wordsG b = .done l
    · obtain ⟨lb, b1, hy⟩ := hb
      by_cases h0 : (a.size : Int) + (b.size : Int) + 1 > 65536
      · exact joins_long q a b _ _ (wordsF_L q a a1 la hx _ rfl) (wordsF_L q b b1 lb hy _ rfl) a1 b1 h0
      · have g1 := (wordsG_sq hx).2
        have g2 := (wordsG_sq hy).2
        have k1 : (la ++ [endT a]).length = la.length + 1 := by simp
        have k2 : (lb ++ [endT b]).length = lb.length + 1 := by simp
        by_cases h : ((la ++ [endT a]).length : Int) + ((lb ++ [endT b]).length : Int) > 16384
        · exact joins_many q a b _ _ (wordsF_L q a a1 la hx _ rfl) (wordsF_L q b b1 lb hy _ rfl) h0 (by omega) (by omega) h
        · refine joins_good q a b la lb _ _ _ rfl rfl rfl hx hy h0 la.length lb.length k1 k2 (by simp; omega) h (by omega) rfl fun i hi => ?_
          refine ⟨la[i], ?_, ?_⟩
          · rw [List.append_assoc, List.getElem?_append_left hi, List.getElem?_eq_getElem hi]
          · rw [List.getElem?_append_left hi, List.getElem?_eq_getElem hi]
    · obtain ⟨a2, e2, h2, l2⟩ := words_refused q b (fun l h h' => hb ⟨l, h, h'⟩)
      exact joins_dr q a b a2 e2 h2 _ (wordsF_L q a a1 la hx _ rfl) l2
  · obtain ⟨a1, e1, h1, l1⟩ := words_refused q a (fun l h h' => ha ⟨l, h, h'⟩)
    by_cases hb : ∃ l, b.size ≤ 65536 ∧ wordsG b = .done l
    · obtain ⟨lb, b1, hy⟩ := hb
      exact joins_rd q a b a1 e1 h1 l1 _ (wordsF_L q b b1 lb hy _ rfl)
    · obtain ⟨a2, e2, h2, l2⟩ := words_refused q b (fun l h h' => hb ⟨l, h, h'⟩)
      exact joins_rr q a b a1 e1 a2 e2 h1 l1 l2

end Go.Proofs.YtiabpbememhdeaaDoor

/-
  The lexer's seat: a world in which the list of signs is laid; what each row's frame needs.
-/
set_option linter.unusedVariables false
set_option linter.unusedSimpArgs false
namespace Go.Proofs.YtiabpbememhdeaaDoor
open Go.ChangeShapes Go.WideShapes Go.ChangeAt Go.RowKit Go.Lib
open Go.ChangeMaps (open_string shut_string)

theorem own : ownKnob Tryd.prog.godebug = none := by kernel_rfl

/-- The settled world, the list of signs as its initialiser lays it. -/
noncomputable def laidWorld (os : Os) : World :=
  let w0 := World.holding Tryd.prog os ⟨#[], #[], []⟩
  { w0 with heap := w0.heap.modify 0 fun
    | .cells _ t frozen => .cells (signs.map fun z => Value.string ⟨z.toArray⟩).toArray t frozen
    | o => o }

theorem laid_met (os : Os) (args : Array Value) : laidMet Tryd.prog [("minstrel/lex.signs", Rows.laid_minstrel_lex_signs)] ((laidWorld os).forCall (fun _ _ => 0) ⟨#[], args, []⟩).memory :=
  (LaidIn.of_run (l := [("minstrel/lex.signs", Rows.laid_minstrel_lex_signs)]) [0] 8 (by kernel_rfl) (by kernel_rfl) (by kernel_rfl) (by kernel_rfl)).met

end Go.Proofs.YtiabpbememhdeaaDoor
