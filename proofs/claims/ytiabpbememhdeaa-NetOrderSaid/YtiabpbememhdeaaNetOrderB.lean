/-
  THE NET's LAWS, 4: messages of one to another one come in the order in which they were put: the whole walk.
-/
import Derived.Test.YtiabpbememhdeaaNetOrderA
import Derived.Carry
set_option linter.unusedSimpArgs false
set_option linter.unusedVariables false
namespace Go.Proofs.Ytiabpbememhdeaa.netOrder
open Go.Ai Go.RowKit Go.ChangeShapes Go.WideShapes Go.ChangeAt

abbrev Msg := Int × Int × Int

def flat1 (m : Msg) : List Value := msg m.1 m.2.1 m.2.2
def flatM (ms : List Msg) : List Value := (ms.map flat1).flatten

theorem flatM_nil : flatM [] = [] := rfl
theorem flatM_cons (m : Msg) (ms : List Msg) : flatM (m :: ms) = msg m.1 m.2.1 m.2.2 ++ flatM ms := rfl
theorem flatM_snoc (ms : List Msg) (m : Msg) : flatM (ms ++ [m]) = flatM ms ++ msg m.1 m.2.1 m.2.2 := by simp [flatM, flat1]
theorem flatM_length (ms : List Msg) : (flatM ms).length = 20 * ms.length := by
  induction ms with
  | nil => rfl
  | cons m ms ih => rw [flatM_cons, List.length_append, ih, msg_length]; simp; omega

theorem flatL_append {a b : List Value} (h1 : flatL a = true) (h2 : flatL b = true) : flatL (a ++ b) = true := by
  induction a with
  | nil => exact h2
  | cons x a ih => simp only [flatL, Bool.and_eq_true, List.cons_append] at h1 ⊢; exact ⟨h1.1, ih h1.2⟩

theorem flatL_iff (l : List Value) : flatL l = true ↔ ∀ x ∈ l, flat x = true := by
  induction l with
  | nil => simp [flatL]
  | cons v l ih => simp [flatL, ih]

theorem flatM_flat (ms : List Msg) : flatL (flatM ms) = true := by
  induction ms with
  | nil => rfl
  | cons m ms ih => rw [flatM_cons]; exact flatL_append (msg_flat _ _ _) ih

theorem flatM_cell (ms : List Msg) : (flatM ms).all isCell = true := by
  induction ms with
  | nil => rfl
  | cons m ms ih => rw [flatM_cons, List.all_append, ih]; rfl

theorem splice_flat {cs : List Value} {o : Nat} {vs : List Value} (h1 : flatL cs = true) (h2 : flatL vs = true) : flatL (splice cs o vs) = true := by
  rw [flatL_iff] at h1 h2 ⊢
  intro x hx
  unfold splice at hx
  simp only [List.mem_append] at hx
  rcases hx with hx | hx | hx
  · exact h1 x (List.mem_of_mem_take hx)
  · exact h2 x hx
  · exact h1 x (List.mem_of_mem_drop hx)

/-- What is told of the messages on their way. -/
structure Mail (k : Nat) (ms : List Msg) : Prop where
  count : ms.length ≤ k
  who : ∀ m ∈ ms, 1 ≤ m.1 ∧ m.1 ≤ 3 ∧ 1 ≤ m.2.1 ∧ m.2.1 ≤ 3 ∧ 1 ≤ m.2.2 ∧ m.2.2 ≤ k
  rows : ms.Pairwise fun a b => a.2.2 < b.2.2

theorem Mail.more {k : Nat} {ms : List Msg} (h : Mail k ms) : Mail (k + 1) ms :=
  ⟨Nat.le_succ_of_le h.count, fun m hm => by have := h.who m hm; omega, h.rows⟩

theorem Mail.snoc {k : Nat} {ms : List Msg} (h : Mail k ms) {a b : Int} (ha : 1 ≤ a ∧ a ≤ 3) (hb : 1 ≤ b ∧ b ≤ 3) : Mail (k + 1) (ms ++ [(a, b, ((k + 1 : Nat) : Int))]) := by
  refine ⟨by simp; exact h.count, fun m hm => ?_, ?_⟩
  · rcases List.mem_append.1 hm with hm | hm
    · have := h.who m hm; omega
    · simp only [List.mem_singleton] at hm
      subst hm
      simp only
      omega
  · rw [List.pairwise_append]
    refine ⟨h.rows, by simp, fun x hx y hy => ?_⟩
    simp only [List.mem_singleton] at hy
    subst hy
    have := h.who x hx
    simp only
    omega

theorem tm_eq {k : Nat} (h : k < 200) : tm k = ((k + 1 : Nat) : Int) := by
  unfold tm
  rw [wrap_i64 (n := (k : Int) + 1) (by omega) (by omega), wrap_u64 (by omega) (by omega)]
  omega

theorem ix_eq {a b : Int} (ha : 1 ≤ a ∧ a ≤ 3) (hb : 1 ≤ b ∧ b ≤ 3) : ix a b = 4 * a + b := by
  unfold ix
  have e1 : a.tmod 4 = a := by rw [Int.tmod_eq_emod_of_nonneg (by omega)]; omega
  have e2 : b.tmod 4 = b := by rw [Int.tmod_eq_emod_of_nonneg (by omega)]; omega
  rw [e1, e2, wrap_i64 (n := 4 * a) (by omega) (by omega), wrap_i64 (by omega) (by omega)]

/-- Memory in the first loop. -/
def memA (ms : List Msg) : List AObj := if ms = [] then memN else memR ms.length (flatM ms)

/-- The last terms. -/
structure Lasts (ls : List Value) (ms : List Msg) : Prop where
  len : ls.length = 16
  all : ∀ j, j < 16 → ∃ v, ls[j]? = some (.int .u64 v)
  less : ∀ m ∈ ms, ∀ v, ls[(ix m.1 m.2.1).toNat]? = some (.int .u64 v) → v < m.2.2

theorem Lasts.flat {ls : List Value} {ms : List Msg} (h : Lasts ls ms) : flatL ls = true := by
  rw [flatL_iff]
  intro x hx
  obtain ⟨j, hj⟩ := List.mem_iff_getElem?.1 hx
  have hlt := (List.getElem?_eq_some_iff.1 hj).1
  obtain ⟨v, hv⟩ := h.all j (by rw [← h.len]; exact hlt)
  rw [hj] at hv
  cases hv
  rfl

theorem Lasts.next {ls : List Value} {m : Msg} {ms : List Msg} (h : Lasts ls (m :: ms)) (hr : (m :: ms).Pairwise fun a b => a.2.2 < b.2.2) (hi : (ix m.1 m.2.1).toNat < 16) :
    Lasts (splice ls (0 + (ix m.1 m.2.1).toNat * 1) [.int .u64 m.2.2]) ms := by
  rw [Nat.mul_one, Nat.zero_add]
  have hl : (ix m.1 m.2.1).toNat + [Value.int .u64 m.2.2].length ≤ ls.length := by rw [h.len]; show (ix m.1 m.2.1).toNat + 1 ≤ 16; omega
  rw [List.pairwise_cons] at hr
  refine ⟨by rw [splice_length _ _ _ hl, h.len], fun j hj => ?_, fun m' hm' v hv => ?_⟩
  · rw [splice_get _ _ _ hl]
    simp only [List.length_cons, List.length_nil]
    split
    next hc => exact ⟨m.2.2, by rw [show j - (ix m.1 m.2.1).toNat = 0 by omega]; rfl⟩
    next => exact h.all j hj
  · rw [splice_get _ _ _ hl] at hv
    simp only [List.length_cons, List.length_nil] at hv
    split at hv
    next hc =>
      rw [show (ix m'.1 m'.2.1).toNat - (ix m.1 m.2.1).toNat = 0 by omega] at hv
      simp only [List.getElem?_cons_zero, Option.some.injEq, Value.int.injEq, true_and] at hv
      have := hr.1 m' hm'
      omega
    next => exact h.less m' (List.mem_cons_of_mem _ hm') v hv

theorem shifted_eq (m : Msg) (ms : List Msg) (zs : List Value) (hz : flatL zs = true) : ∃ zs', flatL zs' = true ∧ shifted (msg m.1 m.2.1 m.2.2 ++ (flatM ms ++ zs)) (ms.length + 1) (flatM ms ++ zs) = flatM ms ++ zs' := by
  have ht : (flatM ms ++ zs).take ((ms.length + 1 - 1) * 20) = flatM ms := by
    rw [List.take_append_of_le_length (by rw [flatM_length]; omega), List.take_of_length_le (by rw [flatM_length]; omega)]
  have hfl : flatL (shifted (msg m.1 m.2.1 m.2.2 ++ (flatM ms ++ zs)) (ms.length + 1) (flatM ms ++ zs)) = true := by
    unfold shifted
    rw [ht]
    refine splice_flat (splice_flat (flatL_append (msg_flat _ _ _) (flatL_append (flatM_flat _) hz)) (flatM_flat _)) ?_
    rw [show ms.length + 1 - (0 + (ms.length + 1 - 1)) = 1 by omega]
    rfl
  refine ⟨(shifted (msg m.1 m.2.1 m.2.2 ++ (flatM ms ++ zs)) (ms.length + 1) (flatM ms ++ zs)).drop (flatM ms).length, ?_, ?_⟩
  · rw [flatL_iff] at hfl ⊢
    exact fun x hx => hfl x (List.mem_of_mem_drop hx)
  · have hlen := flatM_length ms
    have h1 : (msg m.1 m.2.1 m.2.2 ++ (flatM ms ++ zs)).length = 20 + (flatM ms).length + zs.length := by simp [msg_length]; omega
    have htake : (shifted (msg m.1 m.2.1 m.2.2 ++ (flatM ms ++ zs)) (ms.length + 1) (flatM ms ++ zs)).take (flatM ms).length = flatM ms := by
      apply List.ext_getElem?
      intro i
      rw [List.getElem?_take]
      split
      next hi =>
        unfold shifted
        rw [ht, show ms.length + 1 - (0 + (ms.length + 1 - 1)) = 1 by omega]
        have hs1 : (splice (msg m.1 m.2.1 m.2.2 ++ (flatM ms ++ zs)) (0 + 0 * 20) (flatM ms)).length = 20 + (flatM ms).length + zs.length := by
          rw [splice_length _ _ _ (by rw [h1]; omega), h1]
        have hz1 : (aZeros (msg 0 0 0) 1).length = 20 := rfl
        rw [splice_get _ _ _ (by rw [hs1, hz1]; omega), if_neg (by omega), splice_get _ _ _ (by rw [h1]; omega), if_pos (by omega)]
        simp
      next hi => exact (List.getElem?_eq_none (by omega)).symm
    rw [← List.take_append_drop (flatM ms).length (shifted (msg m.1 m.2.1 m.2.2 ++ (flatM ms ++ zs)) (ms.length + 1) (flatM ms ++ zs)), htake]
    simp

theorem zeros_lasts (ms : List Msg) (h : Mail 200 ms) : Lasts zeros ms := by
  refine ⟨rfl, fun j hj => ⟨0, ?_⟩, fun m hm v hv => ?_⟩
  · have : ∀ j, j < 16 → zeros[j]? = some (.int .u64 0) := by
      intro j hj
      match j, hj with
      | 0, _ | 1, _ | 2, _ | 3, _ | 4, _ | 5, _ | 6, _ | 7, _ | 8, _ | 9, _ | 10, _ | 11, _ | 12, _ | 13, _ | 14, _ | 15, _ => rfl
      | j + 16, hj => omega
    exact this j hj
  · have hm' := h.who m hm
    have hix := ix_eq (a := m.1) (b := m.2.1) ⟨hm'.1, hm'.2.1⟩ ⟨hm'.2.2.1, hm'.2.2.2.1⟩
    have hmem := List.mem_of_getElem? hv
    have : v = 0 := by
      simp only [zeros, List.mem_cons, List.not_mem_nil, or_false, or_self, Value.int.injEq, true_and] at hmem
      exact hmem
    omega

/-- The argument: no slice, or one whose cells are known. -/
def Who (W : World) (old : Addr → Option Value) (v : Value) : Prop :=
  v = .slice none 0 0 ∨ ∃ b off len cap, v = whoOf b off len cap ∧ b < W.heap.size ∧ ∀ i, i < len → ∃ x, old ⟨b, off + i, none⟩ = some (.int .u8 x) ∧ 0 ≤ x ∧ x ≤ 255

theorem Who.fits {W : World} {old : Addr → Option Value} {v : Value} (h : Who W old v) (τ : Names) : oldV τ v = v ∧ fitsV τ v = true := by
  rcases h with rfl | ⟨b, off, len, cap, rfl, _⟩ <;> exact ⟨rfl, rfl⟩

section
variable {W : World} {old : Addr → Option Value} (hE : (EO old).Fine W.heap.size W)
include hE

/-- Behind the second loop. -/
theorem tail_wp {n : Nat} {live : List (Nat × Value)} {l : List AObj} {ca : Act} {w : World} (h : Near W.heap.size W 83 live l ca w) :
    (seqSnd H).wp Try.prog (bodyPostD Try.prog Try.f3 fun e W' => e = .returned (.bool true) ∧ Below W.heap.size W W') ca w := by
  obtain ⟨h1, h2, h3, rest, h4, φ, h5, h6⟩ := h
  have hN : Near W.heap.size W 83 [] [] ca w := Near.ren h1 h2 h3 h5 h6 rfl (tmpsOf_length _ _ _) [] [] [] trivial (by simp) (by simp)
  refine Near.leave hE (N := 2 ^ 64) (m := 30) ok_end (fn := Try.f3) (v := .bool true) rfl hN (fun rest _ => ?_) (fun w' g1 g2 g3 g4 g5 => ⟨rfl, g1, g2, g3, g4, g5⟩)
  obtain ⟨x, a', s', k1, k2⟩ := fin old rest
  simp only [Prod.mk.injEq] at k2
  obtain ⟨k3, k4, k5⟩ := k2
  refine ⟨x, a', s', k1, .inr ?_, by simpa using k4, ?_⟩
  · cases x <;> simp only [isRet, Bool.false_eq_true] at k3
    rfl
  · have hr : Try.f3.results.toList = [.tmp 2] := by kernel_rfl
    unfold aRet
    rw [hr]
    simp only [aResults, aResult, List.getD_eq_getElem?_getD, k5, Option.getD_some, isJunk, Bool.false_eq_true, if_false]

/-- The second loop, with messages on their way. -/
theorem loop2_wp {ms : List Msg} {ls zs : List Value} {ca : Act} {w : World} (hms : Mail 200 ms) (hls : Lasts ls ms) (hz : flatL zs = true) (h : Near W.heap.size W 83 live2 (memR2 ms.length (flatM ms ++ zs) ls) ca w) :
    H.wp Try.prog (bodyPostD Try.prog Try.f3 fun e W' => e = .returned (.bool true) ∧ Below W.heap.size W W') ca w := by
  rw [H_eq]
  refine wp_seq (wp_block ?_)
  refine wp_loop_down (fun r ca w => ∃ ms ls zs, r = ms.length ∧ Mail 200 ms ∧ Lasts ls ms ∧ flatL zs = true ∧ Near W.heap.size W 83 live2 (memR2 ms.length (flatM ms ++ zs) ls) ca w) ?_ ⟨ms, ls, zs, rfl, hms, hls, hz, h⟩
  rintro r ca w ⟨ms, ls, zs, rfl, hms, hls, hz, h⟩
  cases ms with
  | nil =>
    refine Near.round hE (N := 2 ^ 64) (m := 30) ok_L2 h fun rest _ => ?_
    obtain ⟨x, a', s', h1, h2⟩ := endR old rest (flatM [] ++ zs) ls
    obtain ⟨h3, h4⟩ := Tells.of_gaze_exit [] [] [] h2 trivial trivial (by simp)
    exact ⟨x, a', s', h1, .inr ⟨2, 83, _, _, h3, h4, fun ca' w' hN' => tail_wp hE (n := 0) hN'⟩⟩
  | cons m ms =>
    have hm := hms.who m (by simp)
    have hix := ix_eq (a := m.1) (b := m.2.1) ⟨hm.1, hm.2.1⟩ ⟨hm.2.2.1, hm.2.2.2.1⟩
    have hi : 0 ≤ ix m.1 m.2.1 ∧ ix m.1 m.2.1 < 16 := by omega
    have hin : (ix m.1 m.2.1).toNat < 16 := by omega
    obtain ⟨v, hv⟩ := hls.all _ hin
    have htv := hls.less m (by simp) v hv
    have hms' : Mail 200 ms := ⟨by have := hms.count; simp at this; omega, fun x hx => hms.who x (by simp [hx]), (List.pairwise_cons.1 hms.rows).2⟩
    have hls' := hls.next hms.rows hin
    have hN2 : ∀ zs', flatL zs' = true → ∀ ca' w', Near W.heap.size W 83 live2 (memR2 ms.length (flatM ms ++ zs') (splice ls (0 + (ix m.1 m.2.1).toNat * 1) [.int .u64 m.2.2])) ca' w' →
        ∃ r', r' < (m :: ms).length ∧ ∃ ms ls zs, r' = ms.length ∧ Mail 200 ms ∧ Lasts ls ms ∧ flatL zs = true ∧ Near W.heap.size W 83 live2 (memR2 ms.length (flatM ms ++ zs) ls) ca' w' :=
      fun zs' hz' ca' w' h => ⟨ms.length, by simp, ms, _, zs', rfl, hms', hls', hz', h⟩
    have hren : ∀ (row : List Value) (k : Nat), flatL row = true → RenL [(0, 0), (1, 0), (2, 0), (3, 0)] [(0, 0), (1, 0), (2, 0), (3, 0)]
        [some (.row [.int .i64 3, .slice (some ⟨3, 0, some 0⟩) k unc, .map (some 1)] 3 0 0 []), some (.map []), some (.row (splice ls (0 + (ix m.1 m.2.1).toNat * 1) [.int .u64 m.2.2]) 16 0 0 []), some (.row row 20 0 0 [])]
        (memR2 k row (splice ls (0 + (ix m.1 m.2.1).toNat * 1) [.int .u64 m.2.2])) := by
      intro row k hrow
      obtain ⟨f1, f2⟩ := oldL_flat [(0, 0), (1, 0), (2, 0), (3, 0)] _ hls'.flat
      obtain ⟨f3, f4⟩ := oldL_flat [(0, 0), (1, 0), (2, 0), (3, 0)] _ hrow
      exact ⟨⟨rfl, rfl, rfl, rfl, 0, [], rfl, Nat.le_refl _⟩, ⟨rfl, rfl, rfl⟩, ⟨rfl, rfl, rfl, f2, 0, [], by rw [f1], Nat.le_refl _⟩, ⟨rfl, rfl, rfl, f4, 0, [], by rw [f3], Nat.le_refl _⟩, trivial⟩
    refine Near.round hE (N := 2 ^ 64) (m := 30) ok_L2 h fun rest _ => ?_
    rw [flatM_cons, List.append_assoc]
    by_cases h0 : ms = []
    · subst h0
      obtain ⟨x, a', s', h1, h2⟩ := takeL old rest m.1 m.2.1 m.2.2 v (flatM [] ++ zs) ls hi hls.len hv htv
      have hrow : flatL (splice (msg m.1 m.2.1 m.2.2 ++ (flatM [] ++ zs)) 0 (msg 0 0 0)) = true := splice_flat (flatL_append (msg_flat _ _ _) hz) (msg_flat _ _ _)
      exact ⟨x, a', s', h1, .inl ⟨83, live2, _, Tells.of_gaze [(0, 0), (1, 0), (2, 0), (3, 0)] live2 (memR2 0 (splice (msg m.1 m.2.1 m.2.2 ++ (flatM [] ++ zs)) 0 (msg 0 0 0)) _) h2 ⟨rfl, rfl, rfl, rfl, trivial⟩ (hren _ _ hrow) (by decide), hN2 _ hrow⟩⟩
    · have hpos : 0 < ms.length := List.length_pos_iff.2 h0
      have hc := hms.count
      simp only [List.length_cons] at hc
      have hfl := flatM_length ms
      have htk : (flatM ms ++ zs).take ((ms.length + 1 - 1) * 20) = flatM ms := by
        rw [List.take_append_of_le_length (by omega), List.take_of_length_le (by omega)]
      obtain ⟨x, a', s', h1, h2⟩ := takeR old rest (ms.length + 1) m.1 m.2.1 m.2.2 v (flatM ms ++ zs) ls (by omega) (by omega) (by rw [List.length_append]; omega) (by rw [htk]; exact flatM_cell ms) hi hls.len hv htv
      obtain ⟨zs', hz', hsh⟩ := shifted_eq m ms zs hz
      rw [hsh, show 0 + (ms.length + 1 - 1) = ms.length by omega] at h2
      exact ⟨x, a', s', h1, .inl ⟨83, live2, _, Tells.of_gaze [(0, 0), (1, 0), (2, 0), (3, 0)] live2 (memR2 ms.length (flatM ms ++ zs') _) h2 ⟨rfl, rfl, rfl, rfl, trivial⟩ (hren _ _ (flatL_append (flatM_flat _) hz')) (by decide), hN2 _ hz'⟩⟩

/-- The second loop, with none. -/
theorem loop20_wp {ls : List Value} {ca : Act} {w : World} (h : Near W.heap.size W 83 live2 (memN2 ls) ca w) :
    H.wp Try.prog (bodyPostD Try.prog Try.f3 fun e W' => e = .returned (.bool true) ∧ Below W.heap.size W W') ca w := by
  rw [H_eq]
  refine wp_seq (wp_block ?_)
  refine wp_loop_down (fun r ca w => r = 0 ∧ Near W.heap.size W 83 live2 (memN2 ls) ca w) ?_ ⟨rfl, h⟩
  rintro r ca w ⟨rfl, h⟩
  refine Near.round hE (N := 2 ^ 64) (m := 30) ok_L2 h fun rest _ => ?_
  obtain ⟨x, a', s', h1, h2⟩ := end0 old rest ls
  obtain ⟨h3, h4⟩ := Tells.of_gaze_exit [] [] [] h2 trivial trivial (by simp)
  exact ⟨x, a', s', h1, .inr ⟨2, 83, _, _, h3, h4, fun ca' w' hN' => tail_wp hE (n := 0) hN'⟩⟩

/-- From the first loop's end on. -/
theorem mid_wp {ms : List Msg} {ca : Act} {w : World} (hms : Mail 200 ms) (h : Near W.heap.size W 83 [(3, .pointer (some ⟨0, 0, some 0⟩))] (memA ms) ca w) :
    G.wp Try.prog (bodyPostD Try.prog Try.f3 fun e W' => e = .returned (.bool true) ∧ Below W.heap.size W W') ca w := by
  by_cases h0 : ms = []
  · subst h0
    refine Near.lead hE (N := 2 ^ 64) (m := 30) 1 ok_G h (n' := 83) (live' := live2) (l' := memN2 zeros) (fun rest _ => ?_) (fun ca' w' h' => loop20_wp hE h')
    obtain ⟨x, a', s', h1, h2⟩ := third0 old rest
    exact ⟨x, a', s', h1, Tells.of_gaze [(0, 0), (1, 0), (2, 0)] live2 _ h2 ⟨rfl, rfl, rfl, rfl, trivial⟩
      ⟨⟨rfl, rfl, rfl, rfl, 0, [], rfl, Nat.le_refl _⟩, ⟨rfl, rfl, rfl⟩, ⟨rfl, rfl, rfl, rfl, 0, [], rfl, Nat.le_refl _⟩, trivial⟩ (by decide)⟩
  · have hm : memA ms = memR ms.length (flatM ms) := if_neg h0
    rw [hm] at h
    refine Near.lead hE (N := 2 ^ 64) (m := 30) 1 ok_G h (n' := 83) (live' := live2) (l' := memR2 ms.length (flatM ms ++ []) zeros) (fun rest _ => ?_) (fun ca' w' h' => loop2_wp hE hms (zeros_lasts ms hms) rfl h')
    obtain ⟨x, a', s', h1, h2⟩ := thirdR old rest ms.length (flatM ms)
    obtain ⟨f1, f2⟩ := oldL_flat [(0, 0), (1, 0), (3, 0), (2, 0)] _ (flatM_flat ms)
    rw [List.append_nil]
    exact ⟨x, a', s', h1, Tells.of_gaze [(0, 0), (1, 0), (3, 0), (2, 0)] live2 _ h2 ⟨rfl, rfl, rfl, rfl, trivial⟩
      ⟨⟨rfl, rfl, rfl, rfl, 0, [], rfl, Nat.le_refl _⟩, ⟨rfl, rfl, rfl⟩, ⟨rfl, rfl, rfl, rfl, 0, [], rfl, Nat.le_refl _⟩, ⟨rfl, rfl, rfl, f2, 0, [], by rw [f1], Nat.le_refl _⟩, trivial⟩ (by decide)⟩

theorem walk (v : Value) (hv : Who W old v) (hvv : V W.heap.size (fun _ _ => none) v v) : Calls Try.prog 3 #[v] W fun e W' => e = .returned (.bool true) ∧ Below W.heap.size W W' := by
  refine calls_of_wp_defers Try.func3 (c := bodyOf Try.f3) (by kernel_rfl) ?_
  have hN := Near.enter (B := W.heap.size) (w := W) (Nat.le_refl _) (n := 83) (args := [v]) (cargs := #[v]) ⟨rfl, fun i x y hx hy => by
    cases i with
    | zero => simp at hx hy; rw [← hx, ← hy]; exact hvv
    | succ i => simp at hx⟩ (by simp)
  have hren : ∀ τ : Names, LiveL τ [(0, v), (3, .pointer (some ⟨0, 0, some 0⟩))] [some v, some (oldV τ (.pointer (some ⟨0, 0, some 0⟩)))] ↔ fitsV τ (.pointer (some ⟨0, 0, some 0⟩)) = true := by
    intro τ
    obtain ⟨f1, f2⟩ := hv.fits τ
    simp only [LiveL, f1, f2, true_and, and_true]
  rw [Try.ntmps3]
  refine Near.lead hE (N := 2 ^ 64) (m := 30) 3 ok_all hN (n' := 83) (live' := [(0, v), (3, .pointer (some ⟨0, 0, some 0⟩))]) (l' := memN) (fun rest _ => ?_) ?_
  · obtain ⟨x, a', s', h1, h2⟩ := first old rest v
    exact ⟨x, a', s', h1, Tells.of_gaze [(1, 0), (0, 0)] [(0, v), (3, .pointer (some ⟨0, 0, some 0⟩))] _ h2 ((hren _).2 rfl) ⟨⟨rfl, rfl, rfl, rfl, 0, [], rfl, Nat.le_refl _⟩, ⟨rfl, rfl, rfl⟩, trivial⟩ (by decide)⟩
  intro ca w hN
  rw [show postSeq 3 (bodyOf Try.f3) = F from rfl, F_eq]
  refine wp_seq ?_
  have hlive : ∀ (τ : Names) (k : Nat) (t : Int), t = (k : Int) → fitsV τ (.pointer (some ⟨0, 0, some 0⟩)) = true → oldV τ (.pointer (some ⟨0, 0, some 0⟩)) = .pointer (some ⟨0, 0, some 0⟩) →
      LiveL τ (live1 v k) [some v, some (.pointer (some ⟨0, 0, some 0⟩)), some (.int .i64 t)] := by
    intro τ k t ht h1 h2
    obtain ⟨f1, f2⟩ := hv.fits τ
    subst ht
    exact ⟨by rw [f1], f2, by rw [h2], h1, rfl, rfl, trivial⟩
  refine Near.lead hE (N := 2 ^ 64) (m := 30) 1 ok_F1 hN (n' := 83) (live' := live1 v 0) (l' := memN) (fun rest _ => ?_) ?_
  · obtain ⟨x, a', s', h1, h2⟩ := second old rest v
    exact ⟨x, a', s', h1, Tells.of_gaze [(0, 0), (1, 0)] (live1 v 0) _ h2 (hlive _ 0 _ rfl rfl rfl) ⟨⟨rfl, rfl, rfl, rfl, 0, [], rfl, Nat.le_refl _⟩, ⟨rfl, rfl, rfl⟩, trivial⟩ (by decide)⟩
  intro ca w hN
  rw [L1_eq]
  refine wp_block ?_
  refine wp_loop_down (fun r ca w => ∃ k ms, k ≤ 200 ∧ r = 200 - k ∧ Mail k ms ∧ (v = .slice none 0 0 → k = 0) ∧ Near W.heap.size W 83 (live1 v k) (memA ms) ca w) ?_
    ⟨0, [], by omega, rfl, ⟨Nat.le_refl _, by simp, List.Pairwise.nil⟩, fun _ => rfl, hN⟩
  rintro r ca w ⟨k, ms, hk, rfl, hms, hv0, hN⟩
  have hms200 : ∀ ms, Mail k ms → Mail 200 ms := fun ms h => ⟨by have := h.count; omega, fun m hm => by have := h.who m hm; omega, h.rows⟩
  -- the loop's end
  have hdone : ∀ (x : X) (a' : AAct) (s' : St), ((ms = [] ∧ gaze (isExit 0) [3] [0, 1] (x, a', s') = (true, true, 83, [some (.pointer (some ⟨0, 0, some 0⟩))], [some (.row [.int .i64 3, .slice none 0 0, .map (some 1)] 3 0 0 []), some (.map [])])) ∨
      (ms ≠ [] ∧ gaze (isExit 0) [3] [0, 1, 2] (x, a', s') = (true, true, 83, [some (.pointer (some ⟨0, 0, some 0⟩))], [some (.row [.int .i64 3, .slice (some ⟨2, 0, some 0⟩) ms.length unc, .map (some 1)] 3 0 0 []), some (.map []), some (.row (flatM ms) 20 0 0 [])]))) →
      x = .exit 0 ∧ Tells .normal a' s' 83 [(3, .pointer (some ⟨0, 0, some 0⟩))] (memA ms) := by
    intro x a' s' h
    rcases h with ⟨rfl, h⟩ | ⟨h0, h⟩
    · exact Tells.of_gaze_exit [(0, 0), (1, 0)] [(3, .pointer (some ⟨0, 0, some 0⟩))] _ h ⟨rfl, rfl, trivial⟩ ⟨⟨rfl, rfl, rfl, rfl, 0, [], rfl, Nat.le_refl _⟩, ⟨rfl, rfl, rfl⟩, trivial⟩ (by decide)
    · have hm : memA ms = memR ms.length (flatM ms) := if_neg h0
      rw [hm]
      obtain ⟨f1, f2⟩ := oldL_flat [(0, 0), (1, 0), (2, 0)] _ (flatM_flat ms)
      exact Tells.of_gaze_exit [(0, 0), (1, 0), (2, 0)] [(3, .pointer (some ⟨0, 0, some 0⟩))] _ h ⟨rfl, rfl, trivial⟩
        ⟨⟨rfl, rfl, rfl, rfl, 0, [], rfl, Nat.le_refl _⟩, ⟨rfl, rfl, rfl⟩, ⟨rfl, rfl, rfl, f2, 0, [], by rw [f1], Nat.le_refl _⟩, trivial⟩ (by decide)
  rcases hv with rfl | ⟨b, off, len, cap, rfl, hb, hcells⟩
  · obtain rfl := hv0 rfl
    have h0 : ms = [] := by have := hms.count; exact List.length_eq_zero_iff.1 (by omega)
    subst h0
    refine Near.round hE (N := 2 ^ 64) (m := 30) ok_L1 hN fun rest _ => ?_
    obtain ⟨x, a', s', h1, h2⟩ := outNil old rest 0
    obtain ⟨h3, h4⟩ := hdone x a' s' (.inl ⟨rfl, h2⟩)
    exact ⟨x, a', s', h1, .inr ⟨0, 83, _, _, h3, h4, fun ca' w' hN' => mid_wp hE (hms200 _ hms) hN'⟩⟩
  by_cases hl : k < len
  · by_cases h2 : k < 200
    · -- a message more
      obtain ⟨x, hx, hx0, hx1⟩ := hcells k hl
      have hrange := range_mod hx0 hx1
      have hwk : IntKind.i64.wrap ((k : Int) + 1) = ((k + 1 : Nat) : Int) := by rw [wrap_i64 (by omega) (by omega)]; omega
      have hnext : ∀ ms', Mail (k + 1) ms' → ∀ ca' w', Near W.heap.size W 83 (live1 (whoOf b off len cap) (k + 1)) (memA ms') ca' w' →
          ∃ r', r' < 200 - k ∧ ∃ k ms, k ≤ 200 ∧ r' = 200 - k ∧ Mail k ms ∧ (whoOf b off len cap = .slice none 0 0 → k = 0) ∧ Near W.heap.size W 83 (live1 (whoOf b off len cap) k) (memA ms) ca' w' :=
        fun ms' hm' ca' w' h => ⟨200 - (k + 1), by omega, k + 1, ms', by omega, rfl, hm', fun h => by simp [whoOf] at h, h⟩
      have hwhoM : Who W old (whoOf b off len cap) := .inr ⟨b, off, len, cap, rfl, hb, hcells⟩
      by_cases hne : fr x = to x
      · by_cases h0 : ms = []
        · subst h0
          refine Near.round hE (N := 2 ^ 64) (m := 30) ok_L1 hN fun rest _ => ?_
          obtain ⟨x', a', s', g1, g2⟩ := skip0 old rest b off len cap k x hl h2 hx hx0 hx1 hne
          exact ⟨x', a', s', g1, .inl ⟨83, _, _, Tells.of_gaze [(0, 0), (1, 0)] (live1 (whoOf b off len cap) (k + 1)) (memA []) g2 (hlive _ (k + 1) _ hwk rfl rfl)
            ⟨⟨rfl, rfl, rfl, rfl, 0, [], rfl, Nat.le_refl _⟩, ⟨rfl, rfl, rfl⟩, trivial⟩ (by decide), hnext _ hms.more⟩⟩
        · have hm : memA ms = memR ms.length (flatM ms) := if_neg h0
          rw [hm] at hN
          refine Near.round hE (N := 2 ^ 64) (m := 30) ok_L1 hN fun rest _ => ?_
          obtain ⟨x', a', s', g1, g2⟩ := skipR old rest b off len cap k x hl h2 hx hx0 hx1 hne ms.length (flatM ms)
          obtain ⟨f1, f2⟩ := oldL_flat [(0, 0), (1, 0), (2, 0)] _ (flatM_flat ms)
          refine ⟨x', a', s', g1, .inl ⟨83, _, _, Tells.of_gaze [(0, 0), (1, 0), (2, 0)] (live1 (whoOf b off len cap) (k + 1)) (memA ms) g2 (hlive _ (k + 1) _ hwk rfl rfl) ?_ (by decide), hnext _ hms.more⟩⟩
          rw [hm]
          exact ⟨⟨rfl, rfl, rfl, rfl, 0, [], rfl, Nat.le_refl _⟩, ⟨rfl, rfl, rfl⟩, ⟨rfl, rfl, rfl, f2, 0, [], by rw [f1], Nat.le_refl _⟩, trivial⟩
      · have hsn := hms.snoc (a := fr x) (b := to x) ⟨hrange.1, hrange.2.1⟩ ⟨hrange.2.2.1, hrange.2.2.2⟩
        by_cases h0 : ms = []
        · subst h0
          refine Near.round hE (N := 2 ^ 64) (m := 30) ok_L1 hN fun rest _ => ?_
          obtain ⟨x', a', s', g1, g2⟩ := put0 old rest b off len cap k x hl h2 hx hx0 hx1 hne
          rw [tm_eq h2] at g2
          exact ⟨x', a', s', g1, .inl ⟨83, _, _, Tells.of_gaze [(0, 0), (1, 0), (13, 0)] (live1 (whoOf b off len cap) (k + 1)) (memA [(fr x, to x, ((k + 1 : Nat) : Int))]) g2 (hlive _ (k + 1) _ hwk rfl rfl)
            ⟨⟨rfl, rfl, rfl, rfl, 0, [], rfl, Nat.le_refl _⟩, ⟨rfl, rfl, rfl⟩, ⟨rfl, rfl, rfl, rfl, 0, [], rfl, Nat.le_refl _⟩, trivial⟩ (by decide), hnext _ hsn⟩⟩
        · have hm : memA ms = memR ms.length (flatM ms) := if_neg h0
          rw [hm] at hN
          refine Near.round hE (N := 2 ^ 64) (m := 30) ok_L1 hN fun rest _ => ?_
          obtain ⟨x', a', s', g1, g2⟩ := putR old rest b off len cap k x hl h2 hx hx0 hx1 hne ms.length (flatM ms) (by have := hms.count; omega) (flatM_length ms)
          rw [tm_eq h2, ← flatM_snoc ms (fr x, to x, ((k + 1 : Nat) : Int))] at g2
          obtain ⟨f1, f2⟩ := oldL_flat [(0, 0), (1, 0), (2, 1)] _ (flatM_flat (ms ++ [(fr x, to x, ((k + 1 : Nat) : Int))]))
          refine ⟨x', a', s', g1, .inl ⟨83, _, _, Tells.of_gaze [(0, 0), (1, 0), (2, 1)] (live1 (whoOf b off len cap) (k + 1)) (memA (ms ++ [(fr x, to x, ((k + 1 : Nat) : Int))])) g2 (hlive _ (k + 1) _ hwk rfl rfl) ?_ (by decide), hnext _ hsn⟩⟩
          have hm' : memA (ms ++ [(fr x, to x, ((k + 1 : Nat) : Int))]) = memR (ms.length + 1) (flatM (ms ++ [(fr x, to x, ((k + 1 : Nat) : Int))])) := by
            unfold memA
            rw [if_neg (by simp), List.length_append]
            rfl
          rw [hm']
          exact ⟨⟨rfl, rfl, rfl, rfl, 0, [], rfl, Nat.le_refl _⟩, ⟨rfl, rfl, rfl⟩, ⟨rfl, rfl, rfl, f2, 0, [(flatM ms).length], by rw [f1], Nat.zero_le _⟩, trivial⟩
    · by_cases h0 : ms = []
      · subst h0
        refine Near.round hE (N := 2 ^ 64) (m := 30) ok_L1 hN fun rest _ => ?_
        obtain ⟨x, a', s', g1, g2⟩ := outB0 old rest b off len cap k hl h2
        obtain ⟨h3, h4⟩ := hdone x a' s' (.inl ⟨rfl, g2⟩)
        exact ⟨x, a', s', g1, .inr ⟨0, 83, _, _, h3, h4, fun ca' w' hN' => mid_wp hE (hms200 _ hms) hN'⟩⟩
      · have hm : memA ms = memR ms.length (flatM ms) := if_neg h0
        rw [hm] at hN
        refine Near.round hE (N := 2 ^ 64) (m := 30) ok_L1 hN fun rest _ => ?_
        obtain ⟨x, a', s', g1, g2⟩ := outBR old rest b off len cap k hl h2 ms.length (flatM ms)
        obtain ⟨h3, h4⟩ := hdone x a' s' (.inr ⟨h0, g2⟩)
        exact ⟨x, a', s', g1, .inr ⟨0, 83, _, _, h3, h4, fun ca' w' hN' => mid_wp hE (hms200 _ hms) hN'⟩⟩
  · by_cases h0 : ms = []
    · subst h0
      refine Near.round hE (N := 2 ^ 64) (m := 30) ok_L1 hN fun rest _ => ?_
      obtain ⟨x, a', s', g1, g2⟩ := outA0 old rest b off len cap k hl
      obtain ⟨h3, h4⟩ := hdone x a' s' (.inl ⟨rfl, g2⟩)
      exact ⟨x, a', s', g1, .inr ⟨0, 83, _, _, h3, h4, fun ca' w' hN' => mid_wp hE (hms200 _ hms) hN'⟩⟩
    · have hm : memA ms = memR ms.length (flatM ms) := if_neg h0
      rw [hm] at hN
      refine Near.round hE (N := 2 ^ 64) (m := 30) ok_L1 hN fun rest _ => ?_
      obtain ⟨x, a', s', g1, g2⟩ := outAR old rest b off len cap k hl ms.length (flatM ms)
      obtain ⟨h3, h4⟩ := hdone x a' s' (.inr ⟨h0, g2⟩)
      exact ⟨x, a', s', g1, .inr ⟨0, 83, _, _, h3, h4, fun ca' w' hN' => mid_wp hE (hms200 _ hms) hN'⟩⟩

end

end Go.Proofs.Ytiabpbememhdeaa.netOrder
