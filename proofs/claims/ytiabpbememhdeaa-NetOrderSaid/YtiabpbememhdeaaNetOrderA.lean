/-
  THE NET's LAWS, 3: messages of one to another one come in the order in which they were put: what each round of the two loops comes to.
-/
import Derived.Test.YtiabpbememhdeaaNetBase
set_option linter.unusedSimpArgs false
set_option linter.unusedVariables false
namespace Go.Proofs.Ytiabpbememhdeaa.netOrder
open Go.Ai Go.RowKit Go.ChangeShapes Go.WideShapes Go.ChangeAt

noncomputable def EO (old : Addr → Option Value) : Ai.Env := envOf Try.prog old livesF
noncomputable def F := postSeq 3 (bodyOf Try.f3)
noncomputable def L1 := loopOf (postSeq 1 (seqFst F))
noncomputable def G := seqSnd F
noncomputable def H := postSeq 1 G
noncomputable def L2 := loopOf (seqFst H)

theorem F_eq : F = .seq (seqFst F) G := by kernel_rfl
theorem L1_eq : postSeq 1 (seqFst F) = .block 0 (.loop L1) := by kernel_rfl
theorem H_eq : H = .seq (.block 2 (.loop L2)) (seqSnd H) := by kernel_rfl
theorem ok_all : codeOk Try.prog (bodyOf Try.f3) = true := by kernel_rfl
theorem ok_F1 : codeOk Try.prog (seqFst F) = true := by kernel_rfl
theorem ok_G : codeOk Try.prog G = true := by kernel_rfl
theorem ok_L1 : codeOk Try.prog L1 = true := by kernel_rfl
theorem ok_L2 : codeOk Try.prog L2 = true := by kernel_rfl
theorem ok_end : codeOk Try.prog (seqSnd H) = true := by kernel_rfl

/-- From whom, to whom, and of which term the k-th message is. -/
def fr (x : Int) : Int := IntKind.i64.wrap (1 + IntKind.i64.wrap (x.tmod 3))
def to (x : Int) : Int := IntKind.i64.wrap (1 + IntKind.i64.wrap ((IntKind.u8.wrap (x.tdiv 3)).tmod 3))
def tm (k : Nat) : Int := IntKind.u64.wrap (IntKind.i64.wrap ((k : Int) + 1))
/-- A pair's place. -/
def ix (a b : Int) : Int := IntKind.i64.wrap (IntKind.i64.wrap (4 * a.tmod 4) + b.tmod 4)

def whoOf (b off len cap : Nat) : Value := .slice (some ⟨b, off, none⟩) len cap
def live1 (who : Value) (k : Nat) : List (Nat × Value) := [(0, who), (3, .pointer (some ⟨0, 0, some 0⟩)), (5, .int .i64 k)]
def live2 : List (Nat × Value) := [(3, .pointer (some ⟨0, 0, some 0⟩)), (6, .pointer (some ⟨2, 0, some 0⟩))]

def memN : List AObj := [.row [.int .i64 3, .slice none 0 0, .map (some 1)] 3 0 0 [], .map []]
def memR (n : Nat) (cs : List Value) : List AObj := [.row [.int .i64 3, .slice (some ⟨2, 0, some 0⟩) n unc, .map (some 1)] 3 0 0 [], .map [], .row cs 20 0 0 []]
def memN2 (ls : List Value) : List AObj := [.row [.int .i64 3, .slice none 0 0, .map (some 1)] 3 0 0 [], .map [], .row ls 16 0 0 []]
def memR2 (n : Nat) (cs ls : List Value) : List AObj := [.row [.int .i64 3, .slice (some ⟨3, 0, some 0⟩) n unc, .map (some 1)] 3 0 0 [], .map [], .row ls 16 0 0 [], .row cs 20 0 0 []]

def zeros : List Value := [.int .u64 0, .int .u64 0, .int .u64 0, .int .u64 0, .int .u64 0, .int .u64 0, .int .u64 0, .int .u64 0, .int .u64 0, .int .u64 0, .int .u64 0, .int .u64 0, .int .u64 0, .int .u64 0, .int .u64 0, .int .u64 0]

def b0 (k len : Nat) (x : Bool) : Ob := .b (decide ((k : Int) < (len : Int))) x
def b1 (k : Nat) (x : Bool) : Ob := .b (decide ((k : Int) < 200)) x
def b2 (k len : Nat) : Ob := .b (decide (0 ≤ (k : Int) ∧ (k : Int) < (len : Int))) true
def b3 (old : Addr → Option Value) (b off k : Nat) (x : Int) : Ob := .l (readOld old ⟨b, off + (k : Int).toNat * 1, none⟩ 1) (some [.int .u8 x])
def b4 (x : Int) (y : Bool) : Ob := .b (fr x != to x) y
def b5 (x : Int) : Ob := .b (decide (1 ≤ if to x < fr x then to x else fr x)) true
def b6 (x : Int) : Ob := .b (decide ((if fr x < to x then to x else fr x) ≤ 3)) true

theorem b0_ok {k len : Nat} (h : k < len) : (b0 k len true).ok := by simp [b0, Ob.ok]; omega
theorem b0_no {k len : Nat} (h : ¬ k < len) : (b0 k len false).ok := by simp [b0, Ob.ok]; omega
theorem b1_ok {k : Nat} (h : k < 200) : (b1 k true).ok := by simp [b1, Ob.ok]; omega
theorem b1_no {k : Nat} (h : ¬ k < 200) : (b1 k false).ok := by simp [b1, Ob.ok]; omega
theorem b2_ok {k len : Nat} (h : k < len) : (b2 k len).ok := by simp [b2, Ob.ok]; omega
theorem b3_ok {old : Addr → Option Value} {b off k : Nat} {x : Int} (h : old ⟨b, off + k, none⟩ = some (.int .u8 x)) : (b3 old b off k x).ok := by
  simp only [b3, Ob.ok, readOld, Int.toNat_natCast, Nat.mul_one, h, Option.map_some]
theorem b4_ok {x : Int} (h : fr x ≠ to x) : (b4 x true).ok := by simp [b4, Ob.ok, h]
theorem b4_no {x : Int} (h : fr x = to x) : (b4 x false).ok := by simp [b4, Ob.ok, h]

theorem range_mod {x : Int} (h0 : 0 ≤ x) (h1 : x ≤ 255) : 1 ≤ fr x ∧ fr x ≤ 3 ∧ 1 ≤ to x ∧ to x ≤ 3 := by
  have e1 : x.tmod 3 = x % 3 := Int.tmod_eq_emod_of_nonneg h0
  have e2 : x.tdiv 3 = x / 3 := Int.tdiv_eq_ediv_of_nonneg h0
  have e3 : IntKind.u8.wrap (x / 3) = x / 3 := by
    unfold IntKind.wrap
    simp only [IntKind.signed, IntKind.bits, Bool.false_and]
    split
    next h => simp at h
    next h => omega
  have e4 : (x / 3).tmod 3 = (x / 3) % 3 := Int.tmod_eq_emod_of_nonneg (by omega)
  have f1 : fr x = 1 + x % 3 := by unfold fr; rw [e1, wrap_i64 (n := x % 3) (by omega) (by omega), wrap_i64 (by omega) (by omega)]
  have f2 : to x = 1 + (x / 3) % 3 := by unfold to; rw [e2, e3, e4, wrap_i64 (n := x / 3 % 3) (by omega) (by omega), wrap_i64 (by omega) (by omega)]
  omega

theorem b5_ok {x : Int} (h0 : 0 ≤ x) (h1 : x ≤ 255) : (b5 x).ok := by
  have := range_mod h0 h1
  simp only [b5, Ob.ok, decide_eq_true_eq]
  split <;> omega
theorem b6_ok {x : Int} (h0 : 0 ≤ x) (h1 : x ≤ 255) : (b6 x).ok := by
  have := range_mod h0 h1
  simp only [b6, Ob.ok, decide_eq_true_eq]
  split <;> omega

set_option maxRecDepth 100000 in
theorem first (old : Addr → Option Value) (rest : Nat → Value) (who : Value) : ∃ x a' s', evalCode (EO old) (callN (EO old) (2 ^ 64) 30) (2 ^ 64) (preSeq 3 (bodyOf Try.f3)) { tmps := tmpsOf 83 [(0, who)] rest, defers := [] } (memOf []) = some (x, a', s') ∧
      gaze isNormal [0, 3] [1, 0] (x, a', s') = (true, true, 83, [some who, some (.pointer (some ⟨1, 0, some 0⟩))], [some (.row [.int .i64 3, .slice none 0 0, .map (some 0)] 3 0 0 []), some (.map [])]) :=
  code_along [] (gaze isNormal [0, 3] [1, 0]) (os := []) (by kernel_rfl) (by simp)

set_option maxRecDepth 100000 in
theorem second (old : Addr → Option Value) (rest : Nat → Value) (who : Value) : ∃ x a' s', evalCode (EO old) (callN (EO old) (2 ^ 64) 30) (2 ^ 64) (preSeq 1 (seqFst F)) { tmps := tmpsOf 83 [(0, who), (3, .pointer (some ⟨0, 0, some 0⟩))] rest, defers := [] } (memOf memN) = some (x, a', s') ∧
      gaze isNormal [0, 3, 5] [0, 1] (x, a', s') = (true, true, 83, [some who, some (.pointer (some ⟨0, 0, some 0⟩)), some (.int .i64 0)], [some (.row [.int .i64 3, (.slice none 0 0), .map (some 1)] 3 0 0 []), some (.map [])]) :=
  code_along [] (gaze isNormal [0, 3, 5] [0, 1]) (os := []) (by kernel_rfl) (by simp)

set_option maxRecDepth 100000 in
theorem put0 (old : Addr → Option Value) (rest : Nat → Value) (b off len cap k : Nat) (x : Int) (hl : k < len) (h2 : k < 200) (hx : old ⟨b, off + k, none⟩ = some (.int .u8 x)) (hx0 : 0 ≤ x) (hx1 : x ≤ 255) (hne : fr x ≠ to x) : ∃ x' a' s', evalCode (EO old) (callN (EO old) (2 ^ 64) 30) (2 ^ 64) L1 { tmps := tmpsOf 83 (live1 (whoOf b off len cap) k) rest, defers := [] } (memOf memN) = some (x', a', s') ∧
      gaze isNormal [0, 3, 5] [0, 1, 13] (x', a', s') = (true, true, 83, [some (whoOf b off len cap), some (.pointer (some ⟨0, 0, some 0⟩)), some (.int .i64 (IntKind.i64.wrap ((k : Int) + 1)))], [some (.row [.int .i64 3, (.slice (some ⟨13, 0, some 0⟩) 1 unc), .map (some 1)] 3 0 0 []), some (.map []), some (.row (msg (fr x) (to x) (tm k)) 20 0 0 [])]) :=
  code_along ([(0, .b true), (0, .b true), (0, .b true), (0, .b true), (0, .b true), (0, .l [.int .u8 x]), (0, .b true), (0, .l [.int .u8 x]), (4, .b true), (0, .b true), (1, .b true), (0, .b true), (0, .b true), (0, .b true), (1, .b true), (0, .b true), (0, .b true), (0, .b true), (1, .b true), (0, .b true), (9, .b true), (0, .b true), (0, .b true), (0, .b true), (1, .b true), (1, .b true), (0, .b true), (0, .b true), (50, .l [.int .u8 x]), (0, .l [.int .u8 x])]) (gaze isNormal [0, 3, 5] [0, 1, 13])
    (os := b3 old b off k x :: b3 old b off k x :: (List.replicate 8 (b6 x) ++ (List.replicate 8 (b5 x) ++ (List.replicate 4 (b4 x true) ++ [b3 old b off k x, b2 k len, b3 old b off k x, b2 k len, b1 k true, b0 k len true, b0 k len true, b0 k len true])))) (by kernel_rfl) (oks_cons (b3_ok hx) (oks_cons (b3_ok hx) (oks_append (oks_replicate (b6_ok hx0 hx1)) (oks_append (oks_replicate (b5_ok hx0 hx1)) (oks_append (oks_replicate (b4_ok hne)) (oks_cons (b3_ok hx) (oks_cons (b2_ok hl) (oks_cons (b3_ok hx) (oks_cons (b2_ok hl) (oks_cons (b1_ok h2) (oks_cons (b0_ok hl) (oks_cons (b0_ok hl) (oks_cons (b0_ok hl) oks_nil)))))))))))))

set_option maxRecDepth 100000 in
theorem putR (old : Addr → Option Value) (rest : Nat → Value) (b off len cap k : Nat) (x : Int) (hl : k < len) (h2 : k < 200) (hx : old ⟨b, off + k, none⟩ = some (.int .u8 x)) (hx0 : 0 ≤ x) (hx1 : x ≤ 255) (hne : fr x ≠ to x) (n : Nat) (cs : List Value) (hn : n < 4096) (hc : cs.length = 20 * n) : ∃ x' a' s', evalCode (EO old) (callN (EO old) (2 ^ 64) 30) (2 ^ 64) L1 { tmps := tmpsOf 83 (live1 (whoOf b off len cap) k) rest, defers := [] } (memOf (memR n cs)) = some (x', a', s') ∧
      gaze isNormal [0, 3, 5] [0, 1, 2] (x', a', s') = (true, true, 83, [some (whoOf b off len cap), some (.pointer (some ⟨0, 0, some 0⟩)), some (.int .i64 (IntKind.i64.wrap ((k : Int) + 1)))], [some (.row [.int .i64 3, (.slice (some ⟨2, 0, some 1⟩) (n + 1) unc), .map (some 1)] 3 0 0 []), some (.map []), some (.row (cs ++ msg (fr x) (to x) (tm k)) 20 1 0 [cs.length])]) :=
  code_along ([(0, .b true), (0, .b true), (0, .b true), (0, .b true), (0, .b true), (0, .l [.int .u8 x]), (0, .b true), (0, .l [.int .u8 x]), (4, .b true), (0, .b true), (1, .b true), (0, .b true), (0, .b true), (0, .b true), (1, .b true), (0, .b true), (0, .b true), (0, .b true), (1, .b true), (0, .b true), (9, .b true), (0, .b true), (0, .b true), (0, .b true), (1, .b true), (1, .b true), (0, .b true), (0, .b true), (8, .b false), (35, .b true), (2, .b false), (0, .b true), (4, .l [.int .u8 x]), (0, .l [.int .u8 x])]) (gaze isNormal [0, 3, 5] [0, 1, 2])
    (os := b3 old b off k x :: b3 old b off k x :: .b (decide (0 + n * 20 = cs.length)) true :: .b (decide (0 + (n + 1) * 20 ≤ cs.length)) false :: .b (decide ((n + 1) * 240 ≤ 2 ^ 46 ∧ n + 1 < 2 ^ 62)) true :: .b (decide ((4096 : Int) ≤ (n : Int))) false :: (List.replicate 8 (b6 x) ++ (List.replicate 8 (b5 x) ++ (List.replicate 4 (b4 x true) ++ [b3 old b off k x, b2 k len, b3 old b off k x, b2 k len, b1 k true, b0 k len true, b0 k len true, b0 k len true]))))
    (by kernel_rfl) (oks_cons (b3_ok hx) (oks_cons (b3_ok hx) (oks_cons (by simp only [Ob.ok, decide_eq_true_eq]; omega) (oks_cons (by simp only [Ob.ok, decide_eq_false_iff_not]; omega) (oks_cons (by simp only [Ob.ok, decide_eq_true_eq]; omega)
      (oks_cons (by simp only [Ob.ok, decide_eq_false_iff_not]; omega) (oks_append (oks_replicate (b6_ok hx0 hx1)) (oks_append (oks_replicate (b5_ok hx0 hx1)) (oks_append (oks_replicate (b4_ok hne)) (oks_cons (b3_ok hx) (oks_cons (b2_ok hl) (oks_cons (b3_ok hx) (oks_cons (b2_ok hl) (oks_cons (b1_ok h2) (oks_cons (b0_ok hl) (oks_cons (b0_ok hl) (oks_cons (b0_ok hl) oks_nil)))))))))))))))))

set_option maxRecDepth 100000 in
theorem skip0 (old : Addr → Option Value) (rest : Nat → Value) (b off len cap k : Nat) (x : Int) (hl : k < len) (h2 : k < 200) (hx : old ⟨b, off + k, none⟩ = some (.int .u8 x)) (hx0 : 0 ≤ x) (hx1 : x ≤ 255) (hne : fr x = to x) : ∃ x' a' s', evalCode (EO old) (callN (EO old) (2 ^ 64) 30) (2 ^ 64) L1 { tmps := tmpsOf 83 (live1 (whoOf b off len cap) k) rest, defers := [] } (memOf memN) = some (x', a', s') ∧
      gaze isNormal [0, 3, 5] [0, 1] (x', a', s') = (true, true, 83, [some (whoOf b off len cap), some (.pointer (some ⟨0, 0, some 0⟩)), some (.int .i64 (IntKind.i64.wrap ((k : Int) + 1)))], [some (.row [.int .i64 3, (.slice none 0 0), .map (some 1)] 3 0 0 []), some (.map [])]) :=
  code_along [(0, .b true), (0, .b true), (0, .b true), (0, .b true), (0, .b true), (0, .l [.int .u8 x]), (0, .b true), (0, .l [.int .u8 x]), (4, .b false), (0, .b false), (0, .b false), (0, .b false), (27, .l [.int .u8 x]), (0, .l [.int .u8 x])] (gaze isNormal [0, 3, 5] [0, 1]) (os := b3 old b off k x :: b3 old b off k x :: (List.replicate 4 (b4 x false) ++ [b3 old b off k x, b2 k len, b3 old b off k x, b2 k len, b1 k true, b0 k len true, b0 k len true, b0 k len true])) (by kernel_rfl) (oks_cons (b3_ok hx) (oks_cons (b3_ok hx) (oks_append (oks_replicate (b4_no hne)) (oks_cons (b3_ok hx) (oks_cons (b2_ok hl) (oks_cons (b3_ok hx) (oks_cons (b2_ok hl) (oks_cons (b1_ok h2) (oks_cons (b0_ok hl) (oks_cons (b0_ok hl) (oks_cons (b0_ok hl) oks_nil)))))))))))

set_option maxRecDepth 100000 in
theorem outA0 (old : Addr → Option Value) (rest : Nat → Value) (b off len cap k : Nat) (hl : ¬ k < len) : ∃ x' a' s', evalCode (EO old) (callN (EO old) (2 ^ 64) 30) (2 ^ 64) L1 { tmps := tmpsOf 83 (live1 (whoOf b off len cap) k) rest, defers := [] } (memOf memN) = some (x', a', s') ∧
      gaze (isExit 0) [3] [0, 1] (x', a', s') = (true, true, 83, [some (.pointer (some ⟨0, 0, some 0⟩))], [some (.row [.int .i64 3, (.slice none 0 0), .map (some 1)] 3 0 0 []), some (.map [])]) :=
  code_along [(0, .b false), (0, .b false), (0, .b false)] (gaze (isExit 0) [3] [0, 1]) (os := [b0 k len false, b0 k len false, b0 k len false]) (by kernel_rfl) (oks_cons (b0_no hl) (oks_cons (b0_no hl) (oks_cons (b0_no hl) oks_nil)))

set_option maxRecDepth 100000 in
theorem outB0 (old : Addr → Option Value) (rest : Nat → Value) (b off len cap k : Nat) (hl : k < len) (h2 : ¬ k < 200) : ∃ x' a' s', evalCode (EO old) (callN (EO old) (2 ^ 64) 30) (2 ^ 64) L1 { tmps := tmpsOf 83 (live1 (whoOf b off len cap) k) rest, defers := [] } (memOf memN) = some (x', a', s') ∧
      gaze (isExit 0) [3] [0, 1] (x', a', s') = (true, true, 83, [some (.pointer (some ⟨0, 0, some 0⟩))], [some (.row [.int .i64 3, (.slice none 0 0), .map (some 1)] 3 0 0 []), some (.map [])]) :=
  code_along [(0, .b true), (0, .b true), (0, .b true), (0, .b false)] (gaze (isExit 0) [3] [0, 1]) (os := [b1 k false, b0 k len true, b0 k len true, b0 k len true]) (by kernel_rfl) (oks_cons (b1_no h2) (oks_cons (b0_ok hl) (oks_cons (b0_ok hl) (oks_cons (b0_ok hl) oks_nil))))

set_option maxRecDepth 100000 in
theorem skipR (old : Addr → Option Value) (rest : Nat → Value) (b off len cap k : Nat) (x : Int) (hl : k < len) (h2 : k < 200) (hx : old ⟨b, off + k, none⟩ = some (.int .u8 x)) (hx0 : 0 ≤ x) (hx1 : x ≤ 255) (hne : fr x = to x) (n : Nat) (cs : List Value) : ∃ x' a' s', evalCode (EO old) (callN (EO old) (2 ^ 64) 30) (2 ^ 64) L1 { tmps := tmpsOf 83 (live1 (whoOf b off len cap) k) rest, defers := [] } (memOf (memR n cs)) = some (x', a', s') ∧
      gaze isNormal [0, 3, 5] [0, 1, 2] (x', a', s') = (true, true, 83, [some (whoOf b off len cap), some (.pointer (some ⟨0, 0, some 0⟩)), some (.int .i64 (IntKind.i64.wrap ((k : Int) + 1)))], [some (.row [.int .i64 3, (.slice (some ⟨2, 0, some 0⟩) n unc), .map (some 1)] 3 0 0 []), some (.map []), some (.row cs 20 0 0 [])]) :=
  code_along [(0, .b true), (0, .b true), (0, .b true), (0, .b true), (0, .b true), (0, .l [.int .u8 x]), (0, .b true), (0, .l [.int .u8 x]), (4, .b false), (0, .b false), (0, .b false), (0, .b false), (27, .l [.int .u8 x]), (0, .l [.int .u8 x])] (gaze isNormal [0, 3, 5] [0, 1, 2]) (os := b3 old b off k x :: b3 old b off k x :: (List.replicate 4 (b4 x false) ++ [b3 old b off k x, b2 k len, b3 old b off k x, b2 k len, b1 k true, b0 k len true, b0 k len true, b0 k len true])) (by kernel_rfl) (oks_cons (b3_ok hx) (oks_cons (b3_ok hx) (oks_append (oks_replicate (b4_no hne)) (oks_cons (b3_ok hx) (oks_cons (b2_ok hl) (oks_cons (b3_ok hx) (oks_cons (b2_ok hl) (oks_cons (b1_ok h2) (oks_cons (b0_ok hl) (oks_cons (b0_ok hl) (oks_cons (b0_ok hl) oks_nil)))))))))))

set_option maxRecDepth 100000 in
theorem outAR (old : Addr → Option Value) (rest : Nat → Value) (b off len cap k : Nat) (hl : ¬ k < len) (n : Nat) (cs : List Value) : ∃ x' a' s', evalCode (EO old) (callN (EO old) (2 ^ 64) 30) (2 ^ 64) L1 { tmps := tmpsOf 83 (live1 (whoOf b off len cap) k) rest, defers := [] } (memOf (memR n cs)) = some (x', a', s') ∧
      gaze (isExit 0) [3] [0, 1, 2] (x', a', s') = (true, true, 83, [some (.pointer (some ⟨0, 0, some 0⟩))], [some (.row [.int .i64 3, (.slice (some ⟨2, 0, some 0⟩) n unc), .map (some 1)] 3 0 0 []), some (.map []), some (.row cs 20 0 0 [])]) :=
  code_along [(0, .b false), (0, .b false), (0, .b false)] (gaze (isExit 0) [3] [0, 1, 2]) (os := [b0 k len false, b0 k len false, b0 k len false]) (by kernel_rfl) (oks_cons (b0_no hl) (oks_cons (b0_no hl) (oks_cons (b0_no hl) oks_nil)))

set_option maxRecDepth 100000 in
theorem outBR (old : Addr → Option Value) (rest : Nat → Value) (b off len cap k : Nat) (hl : k < len) (h2 : ¬ k < 200) (n : Nat) (cs : List Value) : ∃ x' a' s', evalCode (EO old) (callN (EO old) (2 ^ 64) 30) (2 ^ 64) L1 { tmps := tmpsOf 83 (live1 (whoOf b off len cap) k) rest, defers := [] } (memOf (memR n cs)) = some (x', a', s') ∧
      gaze (isExit 0) [3] [0, 1, 2] (x', a', s') = (true, true, 83, [some (.pointer (some ⟨0, 0, some 0⟩))], [some (.row [.int .i64 3, (.slice (some ⟨2, 0, some 0⟩) n unc), .map (some 1)] 3 0 0 []), some (.map []), some (.row cs 20 0 0 [])]) :=
  code_along [(0, .b true), (0, .b true), (0, .b true), (0, .b false)] (gaze (isExit 0) [3] [0, 1, 2]) (os := [b1 k false, b0 k len true, b0 k len true, b0 k len true]) (by kernel_rfl) (oks_cons (b1_no h2) (oks_cons (b0_ok hl) (oks_cons (b0_ok hl) (oks_cons (b0_ok hl) oks_nil))))

set_option maxRecDepth 100000 in
theorem outNil (old : Addr → Option Value) (rest : Nat → Value) (c : Nat) : ∃ x' a' s', evalCode (EO old) (callN (EO old) (2 ^ 64) 30) (2 ^ 64) L1 { tmps := tmpsOf 83 (live1 (.slice none 0 c) 0) rest, defers := [] } (memOf memN) = some (x', a', s') ∧
      gaze (isExit 0) [3] [0, 1] (x', a', s') = (true, true, 83, [some (.pointer (some ⟨0, 0, some 0⟩))], [some (.row [.int .i64 3, (.slice none 0 0), .map (some 1)] 3 0 0 []), some (.map [])]) :=
  code_along [] (gaze (isExit 0) [3] [0, 1]) (os := []) (by kernel_rfl) (by simp)

set_option maxRecDepth 100000 in
theorem third0 (old : Addr → Option Value) (rest : Nat → Value) : ∃ x' a' s', evalCode (EO old) (callN (EO old) (2 ^ 64) 30) (2 ^ 64) (preSeq 1 G) { tmps := tmpsOf 83 [(3, .pointer (some ⟨0, 0, some 0⟩))] rest, defers := [] } (memOf memN) = some (x', a', s') ∧
      gaze isNormal [3, 6] [0, 1, 2] (x', a', s') = (true, true, 83, [some (.pointer (some ⟨0, 0, some 0⟩)), some (.pointer (some ⟨2, 0, some 0⟩))], [some (.row [.int .i64 3, (.slice none 0 0), .map (some 1)] 3 0 0 []), some (.map []), some (.row zeros 16 0 0 [])]) :=
  code_along [] (gaze isNormal [3, 6] [0, 1, 2]) (os := []) (by kernel_rfl) (by simp)

set_option maxRecDepth 100000 in
theorem thirdR (old : Addr → Option Value) (rest : Nat → Value) (n : Nat) (cs : List Value) : ∃ x' a' s', evalCode (EO old) (callN (EO old) (2 ^ 64) 30) (2 ^ 64) (preSeq 1 G) { tmps := tmpsOf 83 [(3, .pointer (some ⟨0, 0, some 0⟩))] rest, defers := [] } (memOf (memR n cs)) = some (x', a', s') ∧
      gaze isNormal [3, 6] [0, 1, 3, 2] (x', a', s') = (true, true, 83, [some (.pointer (some ⟨0, 0, some 0⟩)), some (.pointer (some ⟨3, 0, some 0⟩))], [some (.row [.int .i64 3, (.slice (some ⟨2, 0, some 0⟩) n unc), .map (some 1)] 3 0 0 []), some (.map []), some (.row zeros 16 0 0 []), some (.row cs 20 0 0 [])]) :=
  code_along [] (gaze isNormal [3, 6] [0, 1, 3, 2]) (os := []) (by kernel_rfl) (by simp)

set_option maxRecDepth 100000 in
theorem end0 (old : Addr → Option Value) (rest : Nat → Value) (ls : List Value) : ∃ x' a' s', evalCode (EO old) (callN (EO old) (2 ^ 64) 30) (2 ^ 64) L2 { tmps := tmpsOf 83 live2 rest, defers := [] } (memOf (memN2 ls)) = some (x', a', s') ∧
      gaze (isExit 2) [] [] (x', a', s') = (true, true, 83, [], []) :=
  code_along [] (gaze (isExit 2) [] []) (os := []) (by kernel_rfl) (by simp)

set_option maxRecDepth 100000 in
theorem endR (old : Addr → Option Value) (rest : Nat → Value) (cs : List Value) (ls : List Value) : ∃ x' a' s', evalCode (EO old) (callN (EO old) (2 ^ 64) 30) (2 ^ 64) L2 { tmps := tmpsOf 83 live2 rest, defers := [] } (memOf (memR2 0 cs ls)) = some (x', a', s') ∧
      gaze (isExit 2) [] [] (x', a', s') = (true, true, 83, [], []) :=
  code_along [] (gaze (isExit 2) [] []) (os := []) (by kernel_rfl) (by simp)

/-- The last term so far of a pair's messages. -/
def c20 (a b : Int) : Ob := .b (decide (0 ≤ ix a b ∧ ix a b < ((16 : Nat) : Int))) true
def c21 (a b v : Int) (ls : List Value) : Ob := .l (if 0 ≤ 0 ∧ 0 + (ix a b).toNat * 1 + 1 ≤ ext ls 0 [] 0 ∧ 0 + (ix a b).toNat * 1 + 1 ≤ ls.length then some ((ls.drop (0 + (ix a b).toNat * 1)).take 1) else none) (some [.int .u64 v])
def c22 (t v : Int) : Ob := .b (decide (t ≤ v)) false
def c23 (a b t : Int) (ls : List Value) : Ob := .b (decide (0 = 0 ∧ 0 ≤ 0 ∧ 0 + (ix a b).toNat * 1 + [Value.int .u64 t].length ≤ ls.length ∧ [Value.int .u64 t].all isCell = true)) true

theorem c20_ok {a b : Int} (h : 0 ≤ ix a b ∧ ix a b < 16) : (c20 a b).ok := by simp only [c20, Ob.ok, decide_eq_true_eq]; exact h
theorem c21_ok {a b v : Int} {ls : List Value} (h : 0 ≤ ix a b ∧ ix a b < 16) (hl : ls.length = 16) (hv : ls[(ix a b).toNat]? = some (.int .u64 v)) : (c21 a b v ls).ok := by
  have hlt : (ix a b).toNat < ls.length := by omega
  simp only [c21, Ob.ok, ext, if_true, Nat.mul_one, Nat.zero_add]
  rw [if_pos (by omega), List.drop_eq_getElem_cons hlt]
  rw [List.getElem?_eq_getElem hlt] at hv
  simp only [List.take_succ_cons, List.take_zero, Option.some.inj hv]
theorem c22_ok {t v : Int} (h : v < t) : (c22 t v).ok := by simp only [c22, Ob.ok, decide_eq_false_iff_not]; omega
theorem c23_ok {a b t : Int} {ls : List Value} (h : 0 ≤ ix a b ∧ ix a b < 16) (hl : ls.length = 16) : (c23 a b t ls).ok := by
  simp only [c23, Ob.ok, decide_eq_true_eq, List.length_cons, List.length_nil]
  exact ⟨by trivial, Nat.le_refl _, by omega, by rfl⟩

/-- The row behind a message that is taken from the front of n. -/
def shifted (row : List Value) (n : Nat) (cs : List Value) : List Value := splice (splice row (0 + 0 * 20) (cs.take ((n - 1) * 20))) (0 + (0 + (n - 1)) * 20) (aZeros (msg 0 0 0) (n - (0 + (n - 1))))

set_option maxRecDepth 100000 in
theorem takeR (old : Addr → Option Value) (rest : Nat → Value) (n : Nat) (a b t v : Int) (cs ls : List Value) (hn : 2 ≤ n) (hn2 : n ≤ 4096) (hc : (n - 1) * 20 ≤ cs.length) (hcell : (cs.take ((n - 1) * 20)).all isCell = true)
    (hix : 0 ≤ ix a b ∧ ix a b < 16) (hls : ls.length = 16) (hv : ls[(ix a b).toNat]? = some (.int .u64 v)) (htv : v < t) :
    ∃ x' a' s', evalCode (EO old) (callN (EO old) (2 ^ 64) 30) (2 ^ 64) L2 { tmps := tmpsOf 83 live2 rest, defers := [] } (memOf (memR2 n (msg a b t ++ cs) ls)) = some (x', a', s') ∧
      gaze isNormal [3, 6] [0, 1, 2, 3] (x', a', s') = (true, true, 83, [some (.pointer (some ⟨0, 0, some 0⟩)), some (.pointer (some ⟨2, 0, some 0⟩))], [some (.row [.int .i64 3, (.slice (some ⟨3, 0, some 0⟩) (0 + (n - 1)) unc), .map (some 1)] 3 0 0 []), some (.map []), some (.row (splice ls (0 + (ix a b).toNat * 1) [.int .u64 t]) 16 0 0 []), some (.row (shifted (msg a b t ++ cs) n cs) 20 0 0 [])]) := by
  have hlen : (msg a b t ++ cs).length = 20 + cs.length := by simp [msg_length]
  have htk : (cs.take ((n - 1) * 20)).length = (n - 1) * 20 := by rw [List.length_take]; omega
  have hsp : (splice (msg a b t ++ cs) (0 + 0 * 20) (cs.take ((n - 1) * 20))).length = 20 + cs.length := by
    rw [splice_length _ _ _ (by rw [htk, hlen]; omega), hlen]
  have hz : (aZeros (msg 0 0 0) (n - (0 + (n - 1)))) = msg 0 0 0 := by rw [show n - (0 + (n - 1)) = 1 by omega]; rfl
  have h0 : Ob.ok (.b (decide (0 < (n : Int))) true) := by simp only [Ob.ok, decide_eq_true_eq]; omega
  have hpos : (0 : Int) < (n : Int) := by omega
  have h1 : Ob.ok (.b (!decide (0 < (n : Int))) false) := by simp [Ob.ok]; omega
  have h2 : Ob.ok (.b (decide ((0 : Int) ≤ 0 ∧ 0 < (n : Int))) true) := by simp only [Ob.ok, decide_eq_true_eq]; omega
  have h3 : Ob.ok (.b (decide (1 ≤ n)) true) := by simp only [Ob.ok, decide_eq_true_eq]; omega
  have h5 : Ob.ok (.b (decide (n ≤ n)) true) := by simp only [Ob.ok, decide_eq_true_eq]; omega
  have h6 : Ob.ok (.b (decide (n - 0 < 2 ^ 64)) true) := by simp only [Ob.ok, decide_eq_true_eq]; omega
  have h7 : Ob.ok (.b (decide (0 < n)) true) := by simp only [Ob.ok, decide_eq_true_eq]; omega
  have h8 : Ob.ok (.b (decide (n = 0)) false) := by simp only [Ob.ok, decide_eq_false_iff_not]; omega
  have h10 : Ob.ok (.l (if 0 ≤ 0 ∧ 0 + 1 * 20 + (n - 1) * 20 ≤ ext (msg a b t ++ cs) 0 [] 0 ∧ 0 + 1 * 20 + (n - 1) * 20 ≤ (msg a b t ++ cs).length then some (((msg a b t ++ cs).drop (0 + 1 * 20)).take ((n - 1) * 20)) else none) (some (cs.take ((n - 1) * 20)))) := by
    simp only [Ob.ok, ext, if_true]
    rw [if_pos (by rw [hlen]; omega)]
    rfl
  have h11 : Ob.ok (.b (decide ((cs.take ((n - 1) * 20)).length = (n - 1) * 20 ∧ (cs.take ((n - 1) * 20)).all isCell = true)) true) := by simp only [Ob.ok, decide_eq_true_eq]; exact ⟨htk, hcell⟩
  have h12 : Ob.ok (.b (decide ((0 + (n - 1)) * 240 ≤ 2 ^ 46 ∧ 0 + (n - 1) < 2 ^ 62)) true) := by simp only [Ob.ok, decide_eq_true_eq]; omega
  have h13 : Ob.ok (.b (decide (n - 1 = 0)) false) := by simp only [Ob.ok, decide_eq_false_iff_not]; omega
  have h14 : Ob.ok (.b (decide (0 + (0 + (n - 1)) * 20 ≤ (msg a b t ++ cs).length)) true) := by simp only [Ob.ok, decide_eq_true_eq, hlen]; omega
  have h15 : Ob.ok (.b (decide (0 + (n - 1) ≤ n)) true) := by simp only [Ob.ok, decide_eq_true_eq]; omega
  have h16 : Ob.ok (.b (decide (n ≤ 0 + (n - 1))) false) := by simp only [Ob.ok, decide_eq_false_iff_not]; omega
  have h17 : Ob.ok (.b (decide (n ≤ ((splice (msg a b t ++ cs) (0 + 0 * 20) (cs.take ((n - 1) * 20))).length - 0) / 20)) true) := by simp only [Ob.ok, decide_eq_true_eq, hsp]; omega
  have h18 : Ob.ok (.b (decide (n - (0 + (n - 1)) = 0)) false) := by simp only [Ob.ok, decide_eq_false_iff_not]; omega
  have h19 : Ob.ok (.b (decide (0 = 0 ∧ 0 ≤ 0 ∧ 0 + (0 + (n - 1)) * 20 + (aZeros (msg 0 0 0) (n - (0 + (n - 1)))).length ≤ (splice (msg a b t ++ cs) (0 + 0 * 20) (cs.take ((n - 1) * 20))).length ∧ (aZeros (msg 0 0 0) (n - (0 + (n - 1)))).all isCell = true)) true) := by
    simp only [Ob.ok, decide_eq_true_eq, hsp, hz, msg_length]
    exact ⟨by trivial, Nat.le_refl _, by omega, by rfl⟩
  exact code_along [(1, .b true), (9, .b false), (1, .b true), (6, .b true), (1, .b true), (0, .b true), (0, .b true), (0, .b true), (0, .b false), (5, .b true), (0, .b true), (0, .l (cs.take ((n - 1) * 20))), (0, .b true), (0, .b true), (1, .b false), (0, .b true), (4, .b true), (0, .b true), (2, .b true), (0, .b false), (0, .b true), (0, .b false), (0, .b true), (12, .b true), (1, .l [.int .u64 v]), (2, .b false), (1, .b true), (0, .b true)] (gaze isNormal [3, 6] [0, 1, 2, 3]) (os := [c23 a b t ls, c20 a b, c22 t v, c21 a b v ls, c20 a b, .b (decide (0 = 0 ∧ 0 ≤ 0 ∧ 0 + (0 + (n - 1)) * 20 + (aZeros (msg 0 0 0) (n - (0 + (n - 1)))).length ≤ (splice (msg a b t ++ cs) (0 + 0 * 20) (cs.take ((n - 1) * 20))).length ∧ (aZeros (msg 0 0 0) (n - (0 + (n - 1)))).all isCell = true)) true, .b (decide (n - (0 + (n - 1)) = 0)) false, .b (decide (n ≤ ((splice (msg a b t ++ cs) (0 + 0 * 20) (cs.take ((n - 1) * 20))).length - 0) / 20)) true, .b (decide (n ≤ 0 + (n - 1))) false, .b (decide (0 + (n - 1) ≤ n)) true, .b (decide (n ≤ n)) true, .b (decide (1 ≤ n)) true, .b (decide (0 + (0 + (n - 1)) * 20 ≤ (msg a b t ++ cs).length)) true, .b (decide (n - 1 = 0)) false, .b (decide ((0 + (n - 1)) * 240 ≤ 2 ^ 46 ∧ 0 + (n - 1) < 2 ^ 62)) true, .b (decide ((cs.take ((n - 1) * 20)).length = (n - 1) * 20 ∧ (cs.take ((n - 1) * 20)).all isCell = true)) true, .l (if 0 ≤ 0 ∧ 0 + 1 * 20 + (n - 1) * 20 ≤ ext (msg a b t ++ cs) 0 [] 0 ∧ 0 + 1 * 20 + (n - 1) * 20 ≤ (msg a b t ++ cs).length then some (((msg a b t ++ cs).drop (0 + 1 * 20)).take ((n - 1) * 20)) else none) (some (cs.take ((n - 1) * 20))), .b (decide (n ≤ n)) true, .b (decide (1 ≤ n)) true, .b (decide (n = 0)) false, .b (decide (0 < n)) true, .b (decide (n - 0 < 2 ^ 64)) true, .b (decide (n ≤ n)) true, .b (decide (1 ≤ n)) true, .b (decide (1 ≤ n)) true, .b (decide ((0 : Int) ≤ 0 ∧ 0 < (n : Int))) true, .b (!decide (0 < (n : Int))) false, .b (decide (0 < (n : Int))) true]) (by kernel_rfl) (oks_cons (c23_ok hix hls) (oks_cons (c20_ok hix) (oks_cons (c22_ok htv) (oks_cons (c21_ok hix hls hv) (oks_cons (c20_ok hix) (oks_cons h19 (oks_cons h18 (oks_cons h17 (oks_cons h16 (oks_cons h15 (oks_cons h5 (oks_cons h3 (oks_cons h14 (oks_cons h13 (oks_cons h12 (oks_cons h11 (oks_cons h10 (oks_cons h5 (oks_cons h3 (oks_cons h8 (oks_cons h7 (oks_cons h6 (oks_cons h5 (oks_cons h3 (oks_cons h3 (oks_cons h2 (oks_cons h1 (oks_cons h0 (oks_nil)))))))))))))))))))))))))))))

set_option maxRecDepth 100000 in
theorem takeL (old : Addr → Option Value) (rest : Nat → Value) (a b t v : Int) (cs ls : List Value) (hix : 0 ≤ ix a b ∧ ix a b < 16) (hls : ls.length = 16) (hv : ls[(ix a b).toNat]? = some (.int .u64 v)) (htv : v < t) :
    ∃ x' a' s', evalCode (EO old) (callN (EO old) (2 ^ 64) 30) (2 ^ 64) L2 { tmps := tmpsOf 83 live2 rest, defers := [] } (memOf (memR2 1 (msg a b t ++ cs) ls)) = some (x', a', s') ∧
      gaze isNormal [3, 6] [0, 1, 2, 3] (x', a', s') = (true, true, 83, [some (.pointer (some ⟨0, 0, some 0⟩)), some (.pointer (some ⟨2, 0, some 0⟩))], [some (.row [.int .i64 3, (.slice (some ⟨3, 0, some 0⟩) 0 unc), .map (some 1)] 3 0 0 []), some (.map []), some (.row (splice ls (0 + (ix a b).toNat * 1) [.int .u64 t]) 16 0 0 []), some (.row (splice (msg a b t ++ cs) 0 (msg 0 0 0)) 20 0 0 [])]) :=
  code_along [(64, .b true), (1, .l [.int .u64 v]), (2, .b false), (1, .b true), (0, .b true)] (gaze isNormal [3, 6] [0, 1, 2, 3]) (os := [c23 a b t ls, c20 a b, c22 t v, c21 a b v ls, c20 a b]) (by kernel_rfl)
    (oks_cons (c23_ok hix hls) (oks_cons (c20_ok hix) (oks_cons (c22_ok htv) (oks_cons (c21_ok hix hls hv) (oks_cons (c20_ok hix) oks_nil)))))

set_option maxRecDepth 100000 in
theorem fin (old : Addr → Option Value) (rest : Nat → Value) : ∃ x' a' s', evalCode (EO old) (callN (EO old) (2 ^ 64) 30) (2 ^ 64) (seqSnd H) { tmps := tmpsOf 83 [] rest, defers := [] } (memOf []) = some (x', a', s') ∧ (isRet x', a'.defers.isEmpty, (a'.tmps[2]? : Option Value)) = (true, true, some (.bool true)) :=
  code_along [] (fun r => (isRet r.1, r.2.1.defers.isEmpty, (r.2.1.tmps[2]? : Option Value))) (os := []) (by kernel_rfl) (by simp)

end Go.Proofs.Ytiabpbememhdeaa.netOrder
