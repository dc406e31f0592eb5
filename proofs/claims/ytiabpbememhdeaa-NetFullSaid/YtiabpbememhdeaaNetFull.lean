/-
  THE NET's LAWS, 2: there are never more messages than the bound, and all of them come.
-/
import Derived.Test.YtiabpbememhdeaaNetBase
set_option linter.unusedSimpArgs false
set_option linter.unusedVariables false
namespace Go.Proofs.Ytiabpbememhdeaa.netFull
open Go.Ai Go.RowKit Go.ChangeShapes Go.WideShapes Go.ChangeAt

noncomputable def F := postSeq 3 (bodyOf Try.f4)
noncomputable def L := loopOf (postSeq 1 (seqFst F))

theorem F_eq : F = .seq (seqFst F) (seqSnd F) := by kernel_rfl
theorem L_eq : postSeq 1 (seqFst F) = .block 0 (.loop L) := by kernel_rfl
theorem ok_all : codeOk Try.prog (bodyOf Try.f4) = true := by kernel_rfl
theorem ok_F1 : codeOk Try.prog (seqFst F) = true := by kernel_rfl
theorem ok_F2 : codeOk Try.prog (seqSnd F) = true := by kernel_rfl
theorem ok_L : codeOk Try.prog L = true := by kernel_rfl

/-- The messages so far. -/
def cells (k : Nat) : List Value := ((List.range k).map (fun i : Nat => msg 1 2 (i : Int))).flatten

theorem cells_length (k : Nat) : (cells k).length = 20 * k := by
  unfold cells
  induction k with
  | zero => rfl
  | succ k ih => rw [List.range_succ, List.map_append, List.flatten_append, List.length_append, ih]; simp [msg_length]; omega

theorem cells_succ (k : Nat) : cells (k + 1) = cells k ++ msg 1 2 k := by
  unfold cells
  rw [List.range_succ, List.map_append, List.flatten_append]
  simp

theorem cells_flat (k : Nat) : flatL (cells k) = true := by
  induction k with
  | zero => rfl
  | succ k ih =>
    rw [cells_succ]
    have : ∀ a b : List Value, flatL a = true → flatL b = true → flatL (a ++ b) = true := by
      intro a
      induction a with
      | nil => intro b _ h; exact h
      | cons x a ih => intro b h1 h2; simp only [flatL, Bool.and_eq_true, List.cons_append] at h1 ⊢; exact ⟨h1.1, ih b h1.2 h2⟩
    exact this _ _ ih (msg_flat _ _ _)

theorem cells_last : ((cells 4096).drop (4095 * 20)).take 20 = msg 1 2 4095 := by
  rw [cells_succ 4095, List.drop_append, List.drop_of_length_le (by rw [cells_length]; omega), cells_length]
  rfl

def live (more : Int) (k : Nat) : List (Nat × Value) := [(0, .int .u8 more), (3, .pointer (some ⟨0, 0, some 0⟩)), (5, .int .i64 k)]

def mem0 : List AObj := [.row [.int .i64 2, .slice none 0 0, .map (some 1)] 3 0 0 [], .map []]
def mem (n : Nat) : List AObj := [.row [.int .i64 2, .slice (some ⟨2, 0, some 0⟩) n unc, .map (some 1)] 3 0 0 [], .map [], .row (cells n) 20 0 0 []]

def memAt (k : Nat) : List AObj := if k = 0 then mem0 else mem (min k 4096)

set_option maxRecDepth 100000 in
theorem first (more : Int) (rest : Nat → Value) :
    ∃ x a' s', evalCode netEnv (callN netEnv (2 ^ 64) 30) (2 ^ 64) (preSeq 3 (bodyOf Try.f4)) { tmps := tmpsOf 57 [(0, .int .u8 more)] rest, defers := [] } (memOf []) = some (x, a', s') ∧
      gaze isNormal [0, 3] [1, 0] (x, a', s') = (true, true, 57, [some (.int .u8 more), some (.pointer (some ⟨1, 0, some 0⟩))], [some (.row [.int .i64 2, .slice none 0 0, .map (some 0)] 3 0 0 []), some (.map [])]) :=
  code_along [] (gaze isNormal [0, 3] [1, 0]) (os := []) (by kernel_rfl) (by simp)

set_option maxRecDepth 100000 in
theorem second (more : Int) (rest : Nat → Value) :
    ∃ x a' s', evalCode netEnv (callN netEnv (2 ^ 64) 30) (2 ^ 64) (preSeq 1 (seqFst F)) { tmps := tmpsOf 57 [(0, .int .u8 more), (3, .pointer (some ⟨0, 0, some 0⟩))] rest, defers := [] } (memOf mem0) = some (x, a', s') ∧
      gaze isNormal [0, 3, 5] [0, 1] (x, a', s') = (true, true, 57, [some (.int .u8 more), some (.pointer (some ⟨0, 0, some 0⟩)), some (.int .i64 0)], [some (.row [.int .i64 2, .slice none 0 0, .map (some 1)] 3 0 0 []), some (.map [])]) :=
  code_along [] (gaze isNormal [0, 3, 5] [0, 1]) (os := []) (by kernel_rfl) (by simp)

set_option maxRecDepth 100000 in
theorem round0 (more : Int) (rest : Nat → Value) (h : (0 : Int) < IntKind.i64.wrap (4096 + IntKind.i64.wrap more)) :
    ∃ x a' s', evalCode netEnv (callN netEnv (2 ^ 64) 30) (2 ^ 64) L { tmps := tmpsOf 57 (live more 0) rest, defers := [] } (memOf mem0) = some (x, a', s') ∧
      gaze isNormal [0, 3, 5] [0, 1, 13] (x, a', s') = (true, true, 57, [some (.int .u8 more), some (.pointer (some ⟨0, 0, some 0⟩)), some (.int .i64 1)],
        [some (.row [.int .i64 2, .slice (some ⟨13, 0, some 0⟩) 1 unc, .map (some 1)] 3 0 0 []), some (.map []), some (.row (msg 1 2 0) 20 0 0 [])]) :=
  code_along [(0, .b true)] (gaze isNormal [0, 3, 5] [0, 1, 13]) (os := [.b (decide ((0 : Int) < IntKind.i64.wrap (4096 + IntKind.i64.wrap more))) true]) (by kernel_rfl) (by simp [Ob.ok, h])

set_option maxRecDepth 100000 in
theorem roundK (more : Int) (rest : Nat → Value) (k : Nat) (cs : List Value) (hl : cs.length = 20 * k) (h : (k : Int) < IntKind.i64.wrap (4096 + IntKind.i64.wrap more)) (hk : k < 4096) :
    ∃ x a' s', evalCode netEnv (callN netEnv (2 ^ 64) 30) (2 ^ 64) L { tmps := tmpsOf 57 (live more k) rest, defers := [] }
        (memOf [.row [.int .i64 2, .slice (some ⟨2, 0, some 0⟩) k unc, .map (some 1)] 3 0 0 [], .map [], .row cs 20 0 0 []]) = some (x, a', s') ∧
      gaze isNormal [0, 3, 5] [0, 1, 2] (x, a', s') = (true, true, 57, [some (.int .u8 more), some (.pointer (some ⟨0, 0, some 0⟩)), some (.int .i64 (IntKind.i64.wrap ((k : Int) + 1)))],
        [some (.row [.int .i64 2, .slice (some ⟨2, 0, some 1⟩) (k + 1) unc, .map (some 1)] 3 0 0 []), some (.map []), some (.row (cs ++ msg 1 2 (IntKind.u64.wrap (k : Int))) 20 1 0 [cs.length])]) :=
  code_along [(0, .b true), (46, .b false), (35, .b true), (2, .b false), (0, .b true), (4, .b false)] (gaze isNormal [0, 3, 5] [0, 1, 2])
    (os := [.b (!(true == decide ((k : Int) < 4096))) false, .b (decide (0 + k * 20 = cs.length)) true, .b (decide (0 + (k + 1) * 20 ≤ cs.length)) false, .b (decide ((k + 1) * 240 ≤ 2 ^ 46 ∧ k + 1 < 2 ^ 62)) true,
      .b (decide ((4096 : Int) ≤ (k : Int))) false, .b (decide ((k : Int) < IntKind.i64.wrap (4096 + IntKind.i64.wrap more))) true]) (by kernel_rfl) (by
      simp only [List.mem_cons, List.not_mem_nil, or_false, forall_eq_or_imp, forall_eq, Ob.ok, h, decide_true, decide_eq_true_eq, decide_eq_false_iff_not, and_true]
      refine ⟨?_, ?_, ?_, ?_, ?_⟩
      · have : (k : Int) < 4096 := by omega
        simp [this]
      · omega
      · omega
      · omega
      · omega)

set_option maxRecDepth 100000 in
theorem roundN (more : Int) (rest : Nat → Value) (k : Nat) (cs : List Value) (h : (k : Int) < IntKind.i64.wrap (4096 + IntKind.i64.wrap more)) (hk : 4096 ≤ k) :
    ∃ x a' s', evalCode netEnv (callN netEnv (2 ^ 64) 30) (2 ^ 64) L { tmps := tmpsOf 57 (live more k) rest, defers := [] }
        (memOf [.row [.int .i64 2, .slice (some ⟨2, 0, some 0⟩) 4096 unc, .map (some 1)] 3 0 0 [], .map [], .row cs 20 0 0 []]) = some (x, a', s') ∧
      gaze isNormal [0, 3, 5] [0, 1, 2] (x, a', s') = (true, true, 57, [some (.int .u8 more), some (.pointer (some ⟨0, 0, some 0⟩)), some (.int .i64 (IntKind.i64.wrap ((k : Int) + 1)))],
        [some (.row [.int .i64 2, .slice (some ⟨2, 0, some 0⟩) 4096 unc, .map (some 1)] 3 0 0 []), some (.map []), some (.row cs 20 0 0 [])]) :=
  code_along [(0, .b true), (47, .b false)] (gaze isNormal [0, 3, 5] [0, 1, 2])
    (os := [.b (!(false == decide ((k : Int) < 4096))) false, .b (decide ((k : Int) < IntKind.i64.wrap (4096 + IntKind.i64.wrap more))) true]) (by kernel_rfl) (by
      have : ¬ (k : Int) < 4096 := by omega
      simp [Ob.ok, h, this])

set_option maxRecDepth 100000 in
theorem out (more : Int) (rest : Nat → Value) (k : Nat) (cs : List Value) (h : ¬ (k : Int) < IntKind.i64.wrap (4096 + IntKind.i64.wrap more)) :
    ∃ x a' s', evalCode netEnv (callN netEnv (2 ^ 64) 30) (2 ^ 64) L { tmps := tmpsOf 57 (live more k) rest, defers := [] }
        (memOf [.row [.int .i64 2, .slice (some ⟨2, 0, some 0⟩) 4096 unc, .map (some 1)] 3 0 0 [], .map [], .row cs 20 0 0 []]) = some (x, a', s') ∧
      gaze (isExit 0) [3] [0, 1, 2] (x, a', s') = (true, true, 57, [some (.pointer (some ⟨0, 0, some 0⟩))],
        [some (.row [.int .i64 2, .slice (some ⟨2, 0, some 0⟩) 4096 unc, .map (some 1)] 3 0 0 []), some (.map []), some (.row cs 20 0 0 [])]) :=
  code_along [(0, .b false)] (gaze (isExit 0) [3] [0, 1, 2]) (os := [.b (decide ((k : Int) < IntKind.i64.wrap (4096 + IntKind.i64.wrap more))) false]) (by kernel_rfl) (by simp [Ob.ok, h])

set_option maxRecDepth 100000 in
theorem ending (rest : Nat → Value) (cs : List Value) (hl : cs.length = 20 * 4096) (hm : (cs.drop (4095 * 20)).take 20 = msg 1 2 4095) :
    ∃ x a' s', evalCode netEnv (callN netEnv (2 ^ 64) 30) (2 ^ 64) (seqSnd F) { tmps := tmpsOf 57 [(3, .pointer (some ⟨0, 0, some 0⟩))] rest, defers := [] }
        (memOf [.row [.int .i64 2, .slice (some ⟨2, 0, some 0⟩) 4096 unc, .map (some 1)] 3 0 0 [], .map [], .row cs 20 0 0 []]) = some (x, a', s') ∧
      (isRet x, a'.defers.isEmpty, (a'.tmps[2]? : Option Value)) = (true, true, some (.bool true)) :=
  code_along [(12, .l (msg 1 2 4095))] (fun r => (isRet r.1, r.2.1.defers.isEmpty, (r.2.1.tmps[2]? : Option Value)))
    (os := [.l (if 0 ≤ 0 ∧ 0 + Int.toNat 4095 * 20 + 20 ≤ ext cs 0 [] 0 ∧ 0 + Int.toNat 4095 * 20 + 20 ≤ cs.length then some ((cs.drop (0 + Int.toNat 4095 * 20)).take 20) else none) (some (msg 1 2 4095))]) (by kernel_rfl) (by
      simp only [List.mem_cons, List.not_mem_nil, or_false, forall_eq, Ob.ok, ext, if_true]
      rw [if_pos (by refine ⟨by omega, ?_, ?_⟩ <;> (rw [hl]; decide)), show 0 + Int.toNat 4095 * 20 = 4095 * 20 by decide, hm])

theorem walk (a0 : Int) (h0 : 0 ≤ a0 ∧ a0 ≤ 255) (W : World) : Calls Try.prog 4 #[.int .u8 a0] W fun e W' => e = .returned (.bool true) ∧ Below W.heap.size W W' := by
  have hE := netFine W
  have hw1 : IntKind.i64.wrap a0 = a0 := wrap_i64 (by omega) (by omega)
  have hw2 : IntKind.i64.wrap (4096 + IntKind.i64.wrap a0) = 4096 + a0 := by rw [hw1]; exact wrap_i64 (by omega) (by omega)
  refine calls_of_wp_defers Try.func4 (c := bodyOf Try.f4) (by kernel_rfl) ?_
  have hN := Near.enter (B := W.heap.size) (w := W) (Nat.le_refl _) (n := 57) (args := [.int .u8 a0]) (cargs := #[.int .u8 a0]) (VL.refl_of_flat' rfl) (by simp)
  rw [Try.ntmps4]
  refine Near.lead hE (N := 2 ^ 64) (m := 30) 3 ok_all hN (n' := 57) (live' := [(0, .int .u8 a0), (3, .pointer (some ⟨0, 0, some 0⟩))]) (l' := mem0) (fun rest _ => ?_) ?_
  · obtain ⟨x, a', s', h1, h2⟩ := first a0 rest
    exact ⟨x, a', s', h1, Tells.of_gaze [(1, 0), (0, 0)] _ _ h2 ⟨rfl, rfl, rfl, rfl, trivial⟩ ⟨⟨rfl, rfl, rfl, rfl, 0, [], rfl, Nat.le_refl _⟩, ⟨rfl, rfl, rfl⟩, trivial⟩ (by decide)⟩
  intro ca w hN
  rw [show postSeq 3 (bodyOf Try.f4) = F from rfl, F_eq]
  refine wp_seq ?_
  refine Near.lead hE (N := 2 ^ 64) (m := 30) 1 ok_F1 hN (n' := 57) (live' := live a0 0) (l' := mem0) (fun rest _ => ?_) ?_
  · obtain ⟨x, a', s', h1, h2⟩ := second a0 rest
    exact ⟨x, a', s', h1, Tells.of_gaze [(0, 0), (1, 0)] (live a0 0) _ h2 ⟨rfl, rfl, rfl, rfl, rfl, rfl, trivial⟩ ⟨⟨rfl, rfl, rfl, rfl, 0, [], rfl, Nat.le_refl _⟩, ⟨rfl, rfl, rfl⟩, trivial⟩ (by decide)⟩
  intro ca w hN
  rw [L_eq]
  refine wp_block ?_
  refine wp_loop_down (fun r ca w => ∃ k, k ≤ 4096 + a0.toNat ∧ r = 4096 + a0.toNat - k ∧ Near W.heap.size W 57 (live a0 k) (memAt k) ca w) ?_ ⟨0, Nat.zero_le _, rfl, hN⟩
  rintro r ca w ⟨k, hk, rfl, hN⟩
  by_cases hlt : k < 4096 + a0.toNat
  · have hc : (k : Int) < IntKind.i64.wrap (4096 + IntKind.i64.wrap a0) := by rw [hw2]; omega
    have hwk : IntKind.i64.wrap ((k : Int) + 1) = ((k + 1 : Nat) : Int) := by rw [wrap_i64 (by omega) (by omega)]; omega
    have hnext : ∀ ca' w', Near W.heap.size W 57 (live a0 (k + 1)) (memAt (k + 1)) ca' w' → ∃ r', r' < 4096 + a0.toNat - k ∧ ∃ k', k' ≤ 4096 + a0.toNat ∧ r' = 4096 + a0.toNat - k' ∧ Near W.heap.size W 57 (live a0 k') (memAt k') ca' w' :=
      fun ca' w' h => ⟨4096 + a0.toNat - (k + 1), by omega, k + 1, by omega, rfl, h⟩
    by_cases hk0 : k = 0
    · subst hk0
      refine Near.round hE (N := 2 ^ 64) (m := 30) ok_L hN fun rest _ => ?_
      obtain ⟨x, a', s', h1, h2⟩ := round0 a0 rest hc
      refine ⟨x, a', s', h1, .inl ⟨57, live a0 1, memAt 1, Tells.of_gaze [(0, 0), (1, 0), (13, 0)] (live a0 1) _ h2 ⟨rfl, rfl, rfl, rfl, rfl, rfl, trivial⟩
        ⟨⟨rfl, rfl, rfl, rfl, 0, [], rfl, Nat.le_refl _⟩, ⟨rfl, rfl, rfl⟩, ⟨rfl, rfl, rfl, rfl, 0, [], rfl, Nat.le_refl _⟩, trivial⟩ (by decide), hnext⟩⟩
    · by_cases hk4 : k < 4096
      · have hm : memAt k = [.row [.int .i64 2, .slice (some ⟨2, 0, some 0⟩) k unc, .map (some 1)] 3 0 0 [], .map [], .row (cells k) 20 0 0 []] := by
          unfold memAt mem
          rw [if_neg hk0, Nat.min_eq_left (by omega)]
        rw [hm] at hN
        refine Near.round hE (N := 2 ^ 64) (m := 30) ok_L hN fun rest _ => ?_
        obtain ⟨x, a', s', h1, h2⟩ := roundK a0 rest k (cells k) (cells_length k) hc hk4
        rw [hwk, wrap_u64 (by omega) (by omega), ← cells_succ] at h2
        refine ⟨x, a', s', h1, .inl ⟨57, live a0 (k + 1), memAt (k + 1), Tells.of_gaze [(0, 0), (1, 0), (2, 1)] (live a0 (k + 1)) _ h2 ⟨rfl, rfl, rfl, rfl, rfl, rfl, trivial⟩ ?_ (by decide), hnext⟩⟩
        have hm' : memAt (k + 1) = [.row [.int .i64 2, .slice (some ⟨2, 0, some 0⟩) (k + 1) unc, .map (some 1)] 3 0 0 [], .map [], .row (cells (k + 1)) 20 0 0 []] := by
          unfold memAt mem
          rw [if_neg (by omega), Nat.min_eq_left (by omega)]
        rw [hm']
        obtain ⟨f1, f2⟩ := oldL_flat [(0, 0), (1, 0), (2, 1)] _ (cells_flat (k + 1))
        exact ⟨⟨rfl, rfl, rfl, rfl, 0, [], rfl, Nat.le_refl _⟩, ⟨rfl, rfl, rfl⟩, ⟨rfl, rfl, rfl, f2, 0, [(cells k).length], by rw [f1], Nat.zero_le _⟩, trivial⟩
      · have hm : ∀ j, 4096 ≤ j → memAt j = [.row [.int .i64 2, .slice (some ⟨2, 0, some 0⟩) 4096 unc, .map (some 1)] 3 0 0 [], .map [], .row (cells 4096) 20 0 0 []] := by
          intro j hj
          unfold memAt mem
          rw [if_neg (by omega), Nat.min_eq_right hj]
        rw [hm k (by omega)] at hN
        refine Near.round hE (N := 2 ^ 64) (m := 30) ok_L hN fun rest _ => ?_
        obtain ⟨x, a', s', h1, h2⟩ := roundN a0 rest k (cells 4096) hc (by omega)
        rw [hwk] at h2
        refine ⟨x, a', s', h1, .inl ⟨57, live a0 (k + 1), memAt (k + 1), Tells.of_gaze [(0, 0), (1, 0), (2, 0)] (live a0 (k + 1)) _ h2 ⟨rfl, rfl, rfl, rfl, rfl, rfl, trivial⟩ ?_ (by decide), hnext⟩⟩
        rw [hm (k + 1) (by omega)]
        obtain ⟨f1, f2⟩ := oldL_flat [(0, 0), (1, 0), (2, 0)] _ (cells_flat 4096)
        exact ⟨⟨rfl, rfl, rfl, rfl, 0, [], rfl, Nat.le_refl _⟩, ⟨rfl, rfl, rfl⟩, ⟨rfl, rfl, rfl, f2, 0, [], by rw [f1], Nat.zero_le _⟩, trivial⟩
  · have hc : ¬ (k : Int) < IntKind.i64.wrap (4096 + IntKind.i64.wrap a0) := by rw [hw2]; omega
    have hm : memAt k = [.row [.int .i64 2, .slice (some ⟨2, 0, some 0⟩) 4096 unc, .map (some 1)] 3 0 0 [], .map [], .row (cells 4096) 20 0 0 []] := by
      unfold memAt mem
      rw [if_neg (by omega), Nat.min_eq_right (by omega)]
    rw [hm] at hN
    refine Near.round hE (N := 2 ^ 64) (m := 30) ok_L hN fun rest _ => ?_
    obtain ⟨x, a', s', h1, h2⟩ := out a0 rest k (cells 4096) hc
    obtain ⟨f1, f2⟩ := oldL_flat [(0, 0), (1, 0), (2, 0)] _ (cells_flat 4096)
    obtain ⟨h3, h4⟩ := Tells.of_gaze_exit [(0, 0), (1, 0), (2, 0)] [(3, .pointer (some ⟨0, 0, some 0⟩))] (mem 4096) h2 ⟨rfl, rfl, trivial⟩
      ⟨⟨rfl, rfl, rfl, rfl, 0, [], rfl, Nat.le_refl _⟩, ⟨rfl, rfl, rfl⟩, ⟨rfl, rfl, rfl, f2, 0, [], by rw [f1], Nat.zero_le _⟩, trivial⟩ (by decide)
    refine ⟨x, a', s', h1, .inr ⟨0, 57, _, _, h3, h4, fun ca' w' hN' => ?_⟩⟩
    show (seqSnd F).wp Try.prog _ ca' w'
    refine Near.leave hE (N := 2 ^ 64) (m := 30) ok_F2 (fn := Try.f4) (v := .bool true) rfl hN' (fun rest _ => ?_) (fun w' g1 g2 g3 g4 g5 => ⟨rfl, g1, g2, g3, g4, g5⟩)
    obtain ⟨x, a', s', h1, h2⟩ := ending rest (cells 4096) (cells_length 4096) cells_last
    simp only [Prod.mk.injEq] at h2
    obtain ⟨h3, h4, h5⟩ := h2
    refine ⟨x, a', s', h1, .inr ?_, by simpa using h4, ?_⟩
    · cases x <;> simp only [isRet, Bool.false_eq_true] at h3
      rfl
    · have hr : Try.f4.results.toList = [.tmp 2] := by kernel_rfl
      unfold aRet
      rw [hr]
      simp only [aResults, aResult, List.getD_eq_getElem?_getD, h5, Option.getD_some, isJunk, Bool.false_eq_true, if_false]

end Go.Proofs.Ytiabpbememhdeaa.netFull
