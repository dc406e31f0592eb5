/-
  Numbers as decimal texts, walked, 6: 'up'.
-/
import Derived.Test.YtiabpbememhdeaaDoorPc
import Derived.Lib.IndexMore
import Derived.Lib.IndexLaws
import Derived.Lib.IndexBytes
import Derived.KernelRfl

set_option linter.unusedVariables false
namespace Go.Proofs.YtiabpbememhdeaaDoor
open Go.Ai Go.RowKit
set_option maxRecDepth 100000

def fUp : FuncId := 46

abbrev upRow (cells : List Value) (w k : Nat) : List Value := splice (aZeros [.int .u32 0] (w + k + 1)) (0 + w * 1) ((cells.drop 0).take (k * 1))

abbrev upMid (cells : List Value) (w k kk : Nat) : List Value := splice (aZeros [.int .u32 0] (w + kk)) (0 + 0 * 1) (((upRow cells w k).drop 0).take ((w - 0) * 1))

theorem up_way (q : Nat) (cells : List Value) (k i w : Nat) (h1 : IntKind.i64.wrap (Int.tdiv (i : Int) 32) = (w : Int)) (h2 : IntKind.i64.wrap ((w : Int) + (k : Int)) = ((w + k : Nat) : Int)) (h3 : IntKind.i64.wrap (((w + k : Nat) : Int) + 1) = ((w + k + 1 : Nat) : Int)) (h4 : w ≤ w + k + 1 ∧ w + k + 1 < 2 ^ 62 ∧ 4 * (w + k + 1) ≤ 2 ^ 48)
    (h5 : (if 0 ≤ 0 ∧ 0 + k * 1 ≤ ext cells 0 [] 0 ∧ 0 + k * 1 ≤ cells.length then some ((cells.drop 0).take (k * 1)) else none) = some ((cells.drop 0).take (k * 1))) (h6 : ((cells.drop 0).take (k * 1)).length = k * 1 ∧ ((cells.drop 0).take (k * 1)).all isCell = true) (h7 : (w + k) * 4 ≤ 2 ^ 46 ∧ w + k < 2 ^ 62) (h8 : ¬ k = 0) (h9 : 0 + (w + k) * 1 ≤ (aZeros [.int .u32 0] (w + k + 1)).length)
    (h10 : w ≤ w + k) (h11 : (0 : Nat) ≤ w) (h12 : w + k ≤ w + k) (sh : Int) (h13 : IntKind.u32.wrap (1 * 2 ^ min (Int.tmod (i : Int) 32).toNat 32) = sh)
    (hu : AllU (upRow cells w k)) (hk : (0 + w * 1) + (w + k - w) ≤ (upRow cells w k).length) (hn : w + k - w < 1000000)
    (kk : Nat) (R : List Value) (hR : R = timesR (upRow cells w k) (0 + w * 1) (w + k - w) sh 0) (hkk : kk = trimTo R (w + k - w + 1))
    (s1 : IntKind.i64.wrap (0 + ((w - 0 : Nat) : Int)) = (w : Int)) (s2 : ¬ (w : Int) < 0) (s3 : IntKind.i64.wrap ((w : Int) + (kk : Int)) = ((w + kk : Nat) : Int)) (s4 : ¬ ((w + kk : Nat) : Int) < 0) (s5 : IntKind.i64.wrap (((w + kk : Nat) : Int) - 0) = ((w + kk : Nat) : Int)) (s6 : ((w + kk : Nat) : Int) > 0)
    (s7 : w + kk < 2 ^ 62 ∧ (w + kk) * 4 ≤ 2 ^ 46) (s8 : ¬ w + kk = 0) (s9 : (aZeros [.int .u32 0] (w + kk)).length = (w + kk) * 1 ∧ (aZeros [.int .u32 0] (w + kk)).all isCell = true) (s10 : (w + kk) * 4 ≤ 2 ^ 46 ∧ w + kk < 2 ^ 62)
    (s11 : (if 0 ≤ 0 ∧ 0 + (w - 0) * 1 ≤ ext (upRow cells w k) 0 [] 0 ∧ 0 + (w - 0) * 1 ≤ (upRow cells w k).length then some (((upRow cells w k).drop 0).take ((w - 0) * 1)) else none) = some (((upRow cells w k).drop 0).take ((w - 0) * 1)))
    (s12 : (((upRow cells w k).drop 0).take ((w - 0) * 1)).length = (w - 0) * 1 ∧ (((upRow cells w k).drop 0).take ((w - 0) * 1)).all isCell = true)
    (s13 : (0 + (w - 0)) * 4 ≤ 2 ^ 46 ∧ 0 + (w - 0) < 2 ^ 62) (s14 : ¬ w - 0 = 0) (s15 : 0 + (0 + (w - 0)) * 1 ≤ (aZeros [.int .u32 0] (w + kk)).length)
    (s16 : (if 0 ≤ 0 ∧ 0 + kk * 1 ≤ ext R 0 [] 0 ∧ 0 + kk * 1 ≤ R.length then some ((R.drop 0).take (kk * 1)) else none) = some ((R.drop 0).take (kk * 1))) (s17 : ((R.drop 0).take (kk * 1)).length = kk * 1 ∧ ((R.drop 0).take (kk * 1)).all isCell = true)
    (s18 : ((0 + (w - 0)) + kk) * 4 ≤ 2 ^ 46 ∧ (0 + (w - 0)) + kk < 2 ^ 62) (s19 : ¬ kk = 0) (s20 : 0 + ((0 + (w - 0)) + kk) * 1 ≤ (upMid cells w k kk).length) :
    Calls1 (rowU cells) (fun f => callN EL NN (q + 3) fUp [sl f 0 k, .int .i64 (i : Int)]) (fun f nk => .ok (sl (nk.getD 0 0) 0 ((0 + (w - 0)) + kk))) (fun f nk => [(f, rowU cells), (nk.getD 0 0, rowU (splice (upMid cells w k kk) (0 + (0 + (w - 0)) * 1) ((R.drop 0).take (kk * 1))))]) := by
  subst hR
  subst hkk
  intro f s hov
  have l1 := (times_ok (q + 0) (0 + w * 1) (w + k - w) _ sh 0 hu hk hn rfl).ev
  exact fnk_by hov [.int 1 h1, .int 1 h1, .int 1 h2, .int 0 h3, .yes 2 h4, .m 0 0, .m 0 0, .list 0 h5, .yes 0 h6, .yes 0 h7, .m 0 1, .no 1 h8, .yes 0 h9, .m 0 1, .int 1 h1, .m 0 1, .yes 1 h10, .int 1 h1, .m 0 1, .yes 0 h10, .yes 0 h12, .int 2 h13, .call 0 0 [1] l1, .m 0 0, .m 0 3, .int 2 s1, .m 0 3, .int 2 s3, .int 10 s3, .yes 0 s6, .yes 1 s7, .yes 0 s9, .no 0 s8, .yes 0 s10, .m 0 0, .m 0 4, .m 0 3, .m 0 1, .list 0 s11, .yes 0 s12, .yes 0 s13, .m 0 4, .no 1 s14, .yes 0 s15, .m 0 4, .m 0 3, .m 0 2, .list 0 s16, .yes 0 s17, .yes 0 s18, .m 0 4, .no 1 s19, .yes 0 s20, .m 0 4, .m 3 3, .f 5 5 4, .m 0 1, .yes 1 h10, .m 4 1, .yes 1 h10, .m 4 3, .f 6 6 5, .m 0 1, .yes 0 h10, .yes 0 h12, .m 2 0] [4] [0, 4] (by kernel_rfl) (by kernel_rfl)

theorem up_way0 (q : Nat) (cells : List Value) (k i w : Nat) (h1 : IntKind.i64.wrap (Int.tdiv (i : Int) 32) = (w : Int)) (h2 : IntKind.i64.wrap ((w : Int) + (k : Int)) = ((w + k : Nat) : Int)) (h3 : IntKind.i64.wrap (((w + k : Nat) : Int) + 1) = ((w + k + 1 : Nat) : Int)) (h4 : w ≤ w + k + 1 ∧ w + k + 1 < 2 ^ 62 ∧ 4 * (w + k + 1) ≤ 2 ^ 48)
    (h5 : (if 0 ≤ 0 ∧ 0 + k * 1 ≤ ext cells 0 [] 0 ∧ 0 + k * 1 ≤ cells.length then some ((cells.drop 0).take (k * 1)) else none) = some ((cells.drop 0).take (k * 1))) (h6 : ((cells.drop 0).take (k * 1)).length = k * 1 ∧ ((cells.drop 0).take (k * 1)).all isCell = true) (h7 : (w + k) * 4 ≤ 2 ^ 46 ∧ w + k < 2 ^ 62) (h8 : ¬ k = 0) (h9 : 0 + (w + k) * 1 ≤ (aZeros [.int .u32 0] (w + k + 1)).length)
    (h10 : w ≤ w + k) (h11 : (0 : Nat) ≤ w) (h12 : w + k ≤ w + k) (sh : Int) (h13 : IntKind.u32.wrap (1 * 2 ^ min (Int.tmod (i : Int) 32).toNat 32) = sh)
    (hu : AllU (upRow cells w k)) (hk : (0 + w * 1) + (w + k - w) ≤ (upRow cells w k).length) (hn : w + k - w < 1000000)
    (kk : Nat) (R : List Value) (hR : R = timesR (upRow cells w k) (0 + w * 1) (w + k - w) sh 0) (hkk : kk = trimTo R (w + k - w + 1))
    (s1 : IntKind.i64.wrap (0 + ((w - 0 : Nat) : Int)) = (w : Int)) (s2 : ¬ (w : Int) < 0) (s3 : IntKind.i64.wrap ((w : Int) + (kk : Int)) = ((w + kk : Nat) : Int)) (s4 : ¬ ((w + kk : Nat) : Int) < 0) (s5 : IntKind.i64.wrap (((w + kk : Nat) : Int) - 0) = ((w + kk : Nat) : Int)) (s6 : ((w + kk : Nat) : Int) > 0)
    (s7 : w + kk < 2 ^ 62 ∧ (w + kk) * 4 ≤ 2 ^ 46) (s8 : ¬ w + kk = 0) (s9 : (aZeros [.int .u32 0] (w + kk)).length = (w + kk) * 1 ∧ (aZeros [.int .u32 0] (w + kk)).all isCell = true) (s10 : (w + kk) * 4 ≤ 2 ^ 46 ∧ w + kk < 2 ^ 62)
    (s11 : (if 0 ≤ 0 ∧ 0 + (w - 0) * 1 ≤ ext (upRow cells w k) 0 [] 0 ∧ 0 + (w - 0) * 1 ≤ (upRow cells w k).length then some (((upRow cells w k).drop 0).take ((w - 0) * 1)) else none) = some (((upRow cells w k).drop 0).take ((w - 0) * 1)))
    (s12 : (((upRow cells w k).drop 0).take ((w - 0) * 1)).length = (w - 0) * 1 ∧ (((upRow cells w k).drop 0).take ((w - 0) * 1)).all isCell = true)
    (s13 : (0 + (w - 0)) * 4 ≤ 2 ^ 46 ∧ 0 + (w - 0) < 2 ^ 62) (s14 : w - 0 = 0)
    (s16 : (if 0 ≤ 0 ∧ 0 + kk * 1 ≤ ext R 0 [] 0 ∧ 0 + kk * 1 ≤ R.length then some ((R.drop 0).take (kk * 1)) else none) = some ((R.drop 0).take (kk * 1))) (s17 : ((R.drop 0).take (kk * 1)).length = kk * 1 ∧ ((R.drop 0).take (kk * 1)).all isCell = true)
    (s18 : (0 + kk) * 4 ≤ 2 ^ 46 ∧ 0 + kk < 2 ^ 62) (s19 : ¬ kk = 0) (s20 : 0 + (0 + kk) * 1 ≤ (aZeros [.int .u32 0] (w + kk)).length) :
    Calls1 (rowU cells) (fun f => callN EL NN (q + 3) fUp [sl f 0 k, .int .i64 (i : Int)]) (fun f nk => .ok (sl (nk.getD 0 0) 0 (0 + kk))) (fun f nk => [(f, rowU cells), (nk.getD 0 0, rowU (splice (aZeros [.int .u32 0] (w + kk)) (0 + 0 * 1) ((R.drop 0).take (kk * 1))))]) := by
  subst hR
  subst hkk
  intro f s hov
  have l1 := (times_ok (q + 0) (0 + w * 1) (w + k - w) _ sh 0 hu hk hn rfl).ev
  exact fnk_by hov [.int 1 h1, .int 1 h1, .int 1 h2, .int 0 h3, .yes 2 h4, .m 0 0, .m 0 0, .list 0 h5, .yes 0 h6, .yes 0 h7, .m 0 1, .no 1 h8, .yes 0 h9, .m 0 1, .int 1 h1, .m 0 1, .yes 1 h10, .int 1 h1, .m 0 1, .yes 0 h10, .yes 0 h12, .int 2 h13, .call 0 0 [1] l1, .m 0 0, .m 0 3, .int 2 s1, .m 0 3, .int 2 s3, .int 10 s3, .yes 0 s6, .yes 1 s7, .yes 0 s9, .no 0 s8, .yes 0 s10, .m 0 0, .m 0 4, .m 0 3, .m 0 1, .list 0 s11, .yes 0 s12, .yes 0 s13, .m 0 4, .yes 1 s14, .m 0 3, .m 0 2, .list 0 s16, .yes 0 s17, .yes 0 s18, .m 0 4, .no 1 s19, .yes 0 s20, .m 0 4, .m 2 3, .f 4 4 3, .m 0 1, .yes 1 h10, .m 3 1, .yes 1 h10, .m 3 3, .f 5 5 4, .m 0 1, .yes 0 h10, .yes 0 h12, .m 2 0] [4] [0, 4] (by kernel_rfl) (by kernel_rfl)

end Go.Proofs.YtiabpbememhdeaaDoor

/-
  Numbers as decimal texts, walked, 7: 'up', told.
-/
set_option linter.unusedVariables false
set_option linter.unusedSimpArgs false
namespace Go.Proofs.YtiabpbememhdeaaDoor
open Go.Ai Go.RowKit
set_option maxRecDepth 100000

theorem allU_zeros (n : Nat) : AllU (aZeros [.int .u32 0] n) := by
  intro x hx
  have hx : x = .int .u32 0 := by simp [aZeros] at hx; exact hx.2
  rw [hx]
  exact ⟨by omega, by omega⟩

theorem zeros_len (n : Nat) : (aZeros [.int .u32 0] n).length = n := by simp [aZeros]

theorem allU_splice {l vs : List Value} {off : Nat} (h : AllU l) (hv : AllU vs) : AllU (splice l off vs) := by
  intro x hx
  unfold Ai.splice at hx
  rcases List.mem_append.1 hx with hx | hx
  · exact h x (List.mem_of_mem_take hx)
  · rcases List.mem_append.1 hx with hx | hx
    · exact hv x hx
    · exact h x (List.mem_of_mem_drop hx)

theorem allU_part {l : List Value} (h : AllU l) (n : Nat) : AllU ((l.drop 0).take n) := fun x hx => h x (List.mem_of_mem_drop (List.mem_of_mem_take hx))

theorem allU_cells {l : List Value} (h : AllU l) : l.all isCell = true := by
  rw [List.all_eq_true]
  intro x hx
  have := h x hx
  unfold isU at this
  split at this
  · rfl
  · exact this.elim

theorem valAt_part (l : List Value) {n i : Nat} (hi : i < n) : valAt ((l.drop 0).take n) i = valAt l i := by
  unfold valAt
  rw [List.drop_zero, List.getElem?_take_of_lt hi]

theorem valAt_splice_in {l vs : List Value} {off i : Nat} (hi : i < vs.length) (hl : off + vs.length ≤ l.length) : valAt (splice l off vs) (off + i) = valAt vs i := by
  unfold valAt splice
  rw [List.getElem?_append_right (by simp; omega), List.getElem?_append_left (by simp [Nat.min_eq_left (show off ≤ l.length by omega)]; omega)]
  simp [Nat.min_eq_left (show off ≤ l.length by omega)]

theorem readU {cells : List Value} {k : Nat} (h : k ≤ cells.length) : (if 0 ≤ 0 ∧ 0 + k * 1 ≤ ext cells 0 [] 0 ∧ 0 + k * 1 ≤ cells.length then some ((cells.drop 0).take (k * 1)) else none) = some ((cells.drop 0).take (k * 1)) := by
  rw [if_pos ⟨Nat.le_refl _, by simp [ext]; omega, by omega⟩]

theorem partU {cells : List Value} (hu : AllU cells) {k : Nat} (h : k ≤ cells.length) : ((cells.drop 0).take (k * 1)).length = k * 1 ∧ ((cells.drop 0).take (k * 1)).all isCell = true :=
  ⟨by simp; omega, allU_cells (allU_part hu _)⟩

def shOf (i : Nat) : Int := IntKind.u32.wrap (1 * 2 ^ min (Int.tmod (i : Int) 32).toNat 32)

theorem shOf_range (i : Nat) : 1 ≤ shOf i ∧ shOf i < 2 ^ 32 := by
  have h1 : (Int.tmod (i : Int) 32).toNat = i % 32 := by
    rw [Int.tmod_eq_emod_of_nonneg (by omega)]
    omega
  have h2 : min (Int.tmod (i : Int) 32).toNat 32 = i % 32 := by rw [h1]; omega
  unfold shOf
  rw [h2]
  have h3 : i % 32 < 32 := Nat.mod_lt _ (by omega)
  generalize i % 32 = r at h3
  have h4 : (2 ^ r : Int) = ((2 ^ r : Nat) : Int) := by simp
  have h5 : 2 ^ r ≤ 2 ^ 31 := Nat.pow_le_pow_right (by omega) (by omega)
  have h6 : 0 < 2 ^ r := Nat.pow_pos (by omega)
  rw [h4, wrap_u32 (by omega) (by omega)]
  omega

def Bg.upR (b : Bg) (i : Nat) : List Value := timesR (upRow b.cells (i / 32) b.k) (0 + (i / 32) * 1) (i / 32 + b.k - i / 32) (shOf i) 0
def Bg.upK (b : Bg) (i : Nat) : Nat := trimTo (b.upR i) (i / 32 + b.k - i / 32 + 1)

/-- A number times two to a power. -/
def Bg.up (b : Bg) (i : Nat) : Bg :=
  if i / 32 - 0 = 0 then ⟨splice (aZeros [.int .u32 0] (i / 32 + b.upK i)) (0 + 0 * 1) (((b.upR i).drop 0).take (b.upK i * 1)), 0 + b.upK i⟩
  else ⟨splice (upMid b.cells (i / 32) b.k (b.upK i)) (0 + (0 + (i / 32 - 0)) * 1) (((b.upR i).drop 0).take (b.upK i * 1)), (0 + (i / 32 - 0)) + b.upK i⟩

theorem up_parts {b : Bg} {r : Nat} (h : b.ok r) (hk : 0 < b.k) (i : Nat) : AllU (upRow b.cells (i / 32) b.k) ∧ (upRow b.cells (i / 32) b.k).length = i / 32 + b.k + 1 ∧ AllU (b.upR i) ∧ (b.upR i).length = i / 32 + b.k - i / 32 + 1 ∧ 0 < b.upK i ∧ b.upK i ≤ b.k + 1 ∧ valAt (b.upR i) (b.upK i - 1) ≠ 0 := by
  obtain ⟨h1, h2, h3, h4⟩ := h
  have hp := partU h1 h2
  have g1 : AllU (upRow b.cells (i / 32) b.k) := allU_splice (allU_zeros _) (allU_part h1 _)
  have g2 : (upRow b.cells (i / 32) b.k).length = i / 32 + b.k + 1 := by
    unfold upRow
    rw [splice_len (by rw [hp.1, zeros_len]; omega), zeros_len]
  obtain ⟨g3, g4⟩ := timesR_ok (upRow b.cells (i / 32) b.k) (0 + (i / 32) * 1) (i / 32 + b.k - i / 32) (shOf i) 0
  have g5 : 0 < b.upK i := by
    refine timesR_pos g1 _ _ (shOf_range i) ⟨by omega, by omega⟩ (i := b.k - 1) (by omega) ?_
    have e : valAt (upRow b.cells (i / 32) b.k) (0 + (i / 32) * 1 + (b.k - 1)) = valAt b.cells (b.k - 1) := by
      unfold upRow
      rw [valAt_splice_in (by rw [hp.1]; omega) (by rw [hp.1, zeros_len]; omega), valAt_part _ (by omega)]
    rw [e]
    exact h4.resolve_left (by omega)
  refine ⟨g1, g2, g4, g3, g5, ?_, ?_⟩
  · have := trimTo_le (b.upR i) (i / 32 + b.k - i / 32 + 1)
    unfold Bg.upK
    omega
  · have hn := trimTo_norm (cells := b.upR i) g4 (k := i / 32 + b.k - i / 32 + 1) (by unfold Bg.upR; rw [g3]; exact Nat.le_refl _)
    exact hn.resolve_left (by have h5 : 0 < trimTo (b.upR i) (i / 32 + b.k - i / 32 + 1) := g5; omega)

theorem up_ok' {b : Bg} {r : Nat} (h : b.ok r) (hk : 0 < b.k) (i : Nat) : (b.up i).ok (r + i + 1) ∧ 0 < (b.up i).k := by
  obtain ⟨g1, g2, g3, g4, g5, g6, g7⟩ := up_parts h hk i
  have h3 := h.2.2.1
  have hp := partU g3 (show b.upK i ≤ (b.upR i).length by omega)
  unfold Bg.up
  split
  next hw =>
    refine ⟨⟨allU_splice (allU_zeros _) (allU_part g3 _), ?_, by simp only; omega, .inr ?_⟩, by simp only; omega⟩
    · simp only
      rw [splice_len (by rw [hp.1, zeros_len]; omega), zeros_len]
      omega
    · simp only
      rw [show 0 + b.upK i - 1 = (0 + 0 * 1) + (b.upK i - 1) by omega, valAt_splice_in (by rw [hp.1]; omega) (by rw [hp.1, zeros_len]; omega), valAt_part _ (by omega)]
      exact g7
  next hw =>
    have hq := partU g1 (show i / 32 - 0 ≤ (upRow b.cells (i / 32) b.k).length by omega)
    have hm : (upMid b.cells (i / 32) b.k (b.upK i)).length = i / 32 + b.upK i := by
      unfold upMid
      rw [splice_len (by rw [hq.1, zeros_len]; omega), zeros_len]
    refine ⟨⟨allU_splice (allU_splice (allU_zeros _) (allU_part g1 _)) (allU_part g3 _), ?_, by simp only; omega, .inr ?_⟩, by simp only; omega⟩
    · simp only
      rw [splice_len (by rw [hp.1, hm]; omega), hm]
      omega
    · simp only
      rw [show (0 + (i / 32 - 0)) + b.upK i - 1 = (0 + (0 + (i / 32 - 0)) * 1) + (b.upK i - 1) by omega, valAt_splice_in (by rw [hp.1]; omega) (by rw [hp.1, hm]; omega), valAt_part _ (by omega)]
      exact g7

theorem up_ok (q : Nat) (b : Bg) (r i : Nat) (h : b.ok r) (hk : 0 < b.k) (hr : r + i < 500000) :
    Calls1 (rowU b.cells) (fun f => callN EL NN (q + 3) fUp [sl f 0 b.k, .int .i64 (i : Int)]) (fun f nk => .ok (sl (nk.getD 0 0) 0 (b.up i).k)) (fun f nk => [(f, rowU b.cells), (nk.getD 0 0, rowU (b.up i).cells)]) := by
  obtain ⟨g1, g2, g3, g4, g5, g6, g7⟩ := up_parts h hk i
  have h3 := h.2.2.1
  have hp := partU h.1 h.2.1
  have hR := partU g3 (show b.upK i ≤ (b.upR i).length by omega)
  have hq := partU g1 (show i / 32 - 0 ≤ (upRow b.cells (i / 32) b.k).length by omega)
  have a1 : IntKind.i64.wrap (Int.tdiv (i : Int) 32) = ((i / 32 : Nat) : Int) := by
    rw [Int.tdiv_eq_ediv_of_nonneg (by omega), wrap_i64 (by omega) (by omega)]
    omega
  have hm : (upMid b.cells (i / 32) b.k (b.upK i)).length = i / 32 + b.upK i := by
    unfold upMid
    rw [splice_len (by rw [hq.1, zeros_len]; omega), zeros_len]
  unfold Bg.up
  split
  next hw =>
    exact up_way0 q b.cells b.k i (i / 32) a1 (by rw [wrap_i64 (by omega) (by omega)]; omega) (by rw [wrap_i64 (by omega) (by omega)]; omega) (by omega) (readU h.2.1) hp (by omega) (by omega) (by rw [zeros_len]; omega) (by omega) (by omega) (by omega) (shOf i) rfl g1 (by omega) (by omega) (b.upK i) (b.upR i) rfl rfl
      (by rw [wrap_i64 (by omega) (by omega)]; omega) (by omega) (by rw [wrap_i64 (by omega) (by omega)]; omega) (by omega) (by rw [wrap_i64 (by omega) (by omega)]; omega) (by omega) (by omega) (by omega) ⟨by rw [zeros_len]; omega, allU_cells (allU_zeros _)⟩ (by omega) (readU (by omega)) hq (by omega) hw
      (readU (by omega)) hR (by omega) (by omega) (by rw [zeros_len]; omega)
  next hw =>
    exact up_way q b.cells b.k i (i / 32) a1 (by rw [wrap_i64 (by omega) (by omega)]; omega) (by rw [wrap_i64 (by omega) (by omega)]; omega) (by omega) (readU h.2.1) hp (by omega) (by omega) (by rw [zeros_len]; omega) (by omega) (by omega) (by omega) (shOf i) rfl g1 (by omega) (by omega) (b.upK i) (b.upR i) rfl rfl
      (by rw [wrap_i64 (by omega) (by omega)]; omega) (by omega) (by rw [wrap_i64 (by omega) (by omega)]; omega) (by omega) (by rw [wrap_i64 (by omega) (by omega)]; omega) (by omega) (by omega) (by omega) ⟨by rw [zeros_len]; omega, allU_cells (allU_zeros _)⟩ (by omega) (readU (by omega)) hq (by omega) hw (by rw [zeros_len]; omega)
      (readU (by omega)) hR (by omega) (by omega) (by rw [hm]; omega)

end Go.Proofs.YtiabpbememhdeaaDoor

/-
  Numbers as decimal texts, walked, 8: 'by'.
-/
set_option linter.unusedVariables false
set_option linter.unusedSimpArgs false
namespace Go.Proofs.YtiabpbememhdeaaDoor
open Go.Ai Go.RowKit
set_option maxRecDepth 100000

def fBy : FuncId := 47
noncomputable def byL : Code := loopAt Tryd.prog fBy 0

def orBit (w : Int) (n : Nat) : Int := IntKind.u64.wrap (((BitVec.ofInt 64 w ||| BitVec.ofInt 64 (IntKind.u64.wrap (1 * 2 ^ min (n : Int).toNat 64))).toNat : Nat) : Int)

abbrev byLive (a b : Value) (w : Int) (n : Nat) : List (Nat × Value) := [(0, a), (1, b), (6, .int .u64 w), (7, .int .i64 (below n))]

theorem byLess (f g n : Nat) (a b : Bg) (r t : Nat) (ha : a.ok r) (hb : b.ok t) (hr : r < 100000) (ht : t < 100000) (w : Int) (q : Nat) (d : List Deferred) (rest : Nat → Value) (s : St) (hov : Holds s [(f, rowU a.cells), (g, rowU b.cells)]) (h1 : (n : Int) ≥ 0) (h2 : IntKind.i64.wrap ((b.len : Int) + (n : Int)) = ((b.len + n : Nat) : Int)) (h3 : (a.len : Int) < ((b.len + n : Nat) : Int)) (h4 : IntKind.i64.wrap ((n : Int) - 1) = below n) :
    ∃ rest' s', evalCode EL (callN EL NN (q + 3)) NN byL { tmps := tmpsOf 38 (byLive (sl f 0 a.k) (sl g 0 b.k) w (n + 1)) rest, defers := d } s = some (.normal, { tmps := tmpsOf 38 (byLive (sl f 0 a.k) (sl g 0 b.k) w n) rest', defers := d }, s') ∧ After s s' [f, g] [(f, rowU a.cells), (g, rowU b.cells)] := by
  have l1 := (len_ok (q + 2) a r ha (by omega)).ev
  have l2 := (len_ok (q + 2) b t hb (by omega)).ev
  exact round_by hov [.call 0 0 [0] l1, .call 0 0 [0] l2, .int 1 h2, .yes 0 h3, .int 1 h4, .m 0 0] [0, 1] (by kernel_rfl)
theorem byMore (f g n : Nat) (a b : Bg) (r t : Nat) (ha : a.ok r) (hb : b.ok t) (hk : 0 < b.k) (hr : r < 100000) (ht : t < 100000) (hn : n < 64) (w : Int) (q : Nat) (d : List Deferred) (rest : Nat → Value) (s : St) (hov : Holds s [(f, rowU a.cells), (g, rowU b.cells)]) (h1 : (n : Int) ≥ 0) (h2 : IntKind.i64.wrap ((b.len : Int) + (n : Int)) = ((b.len + n : Nat) : Int)) (h3 : ¬ (a.len : Int) < ((b.len + n : Nat) : Int)) (h4 : IntKind.i64.wrap ((n : Int) - 1) = below n)
    (h5 : a.cmp (b.up n) ≥ 0) :
    ∃ nk : List Nat, ∃ rest' s', evalCode EL (callN EL NN (q + 3)) NN byL { tmps := tmpsOf 38 (byLive (sl f 0 a.k) (sl g 0 b.k) w (n + 1)) rest, defers := d } s = some (.normal, { tmps := tmpsOf 38 (byLive (sl (nk.getD 0 0) 0 (a.minus (b.up n)).k) (sl g 0 b.k) (orBit w n) n) rest', defers := d }, s') ∧ After s s' [f, g] [(nk.getD 0 0, rowU (a.minus (b.up n)).cells), (g, rowU b.cells)] := by
  have l1 := (len_ok (q + 2) a r ha (by omega)).ev
  have l2 := (len_ok (q + 2) b t hb (by omega)).ev
  have l3 := (up_ok q b t n hb hk (by omega)).ev
  have hx := (up_ok' hb hk n).1
  have l4 := (cmp_ok (q + 2) a (b.up n) r (t + n + 1) ha hx (by omega) (by omega)).ev
  have l5 := (minus_ok (q + 1) a (b.up n) r (t + n + 1) ha hx (by omega)).ev
  exact roundk_by hov [.call 0 0 [0] l1, .call 0 0 [0] l2, .int 1 h2, .no 0 h3, .call 0 0 [1] l3, .call 0 0 [0, 2] l4, .yes 0 h5, .call 0 0 [1, 2] l5, .int 6 h4, .m 0 0] [3] [3, 0] (by kernel_rfl) (by kernel_rfl)

theorem byElse (f g n : Nat) (a b : Bg) (r t : Nat) (ha : a.ok r) (hb : b.ok t) (hk : 0 < b.k) (hr : r < 100000) (ht : t < 100000) (hn : n < 64) (w : Int) (q : Nat) (d : List Deferred) (rest : Nat → Value) (s : St) (hov : Holds s [(f, rowU a.cells), (g, rowU b.cells)]) (h1 : (n : Int) ≥ 0) (h2 : IntKind.i64.wrap ((b.len : Int) + (n : Int)) = ((b.len + n : Nat) : Int)) (h3 : ¬ (a.len : Int) < ((b.len + n : Nat) : Int)) (h4 : IntKind.i64.wrap ((n : Int) - 1) = below n)
    (h5 : ¬ a.cmp (b.up n) ≥ 0) :
    ∃ rest' s', evalCode EL (callN EL NN (q + 3)) NN byL { tmps := tmpsOf 38 (byLive (sl f 0 a.k) (sl g 0 b.k) w (n + 1)) rest, defers := d } s = some (.normal, { tmps := tmpsOf 38 (byLive (sl f 0 a.k) (sl g 0 b.k) w n) rest', defers := d }, s') ∧ After s s' [f, g] [(f, rowU a.cells), (g, rowU b.cells)] := by
  have l1 := (len_ok (q + 2) a r ha (by omega)).ev
  have l2 := (len_ok (q + 2) b t hb (by omega)).ev
  have l3 := (up_ok q b t n hb hk (by omega)).ev
  have hx := (up_ok' hb hk n).1
  have l4 := (cmp_ok (q + 2) a (b.up n) r (t + n + 1) ha hx (by omega) (by omega)).ev
  exact round_by hov [.call 0 0 [0] l1, .call 0 0 [0] l2, .int 1 h2, .no 0 h3, .call 0 0 [1] l3, .call 0 0 [0, 2] l4, .no 0 h5, .int 1 h4, .m 0 0] [1, 0] (by kernel_rfl)
theorem byStop (f g : Nat) (a b : Bg) (w : Int) (m : Nat) (d : List Deferred) (rest : Nat → Value) (s : St) (hov : Holds s [(f, rowU a.cells), (g, rowU b.cells)]) :
    ∃ rest' s', evalCode EL (callN EL NN m) NN byL { tmps := tmpsOf 38 (byLive (sl f 0 a.k) (sl g 0 b.k) w 0) rest, defers := d } s = some (.exit 0, { tmps := tmpsOf 38 [(0, sl f 0 a.k), (6, .int .u64 w)] rest', defers := d }, s') ∧ After s s' [f, g] [(f, rowU a.cells), (g, rowU b.cells)] := by
  exact round_by hov [.m 0 0] [0, 1] (by kernel_rfl)

/-- One round of the division, all of the rounds. -/
def byStep (b : Bg) (n : Nat) (p : Bg × Int) : Bg × Int :=
  if p.1.len < b.len + n then p else if p.1.cmp (b.up n) ≥ 0 then (p.1.minus (b.up n), orBit p.2 n) else p
def byGo (b : Bg) : Nat → Bg × Int → Bg × Int
  | 0, p => p
  | n + 1, p => byGo b n (byStep b n p)

theorem by_loop (a b : Bg) (r t : Nat) (ha : a.ok r) (hb : b.ok t) (hk : 0 < b.k) (hr : r < 100000) (ht : t < 100000) (q : Nat) (d : List Deferred) :
    Loops2 (rowU a.cells) (rowU b.cells) (evalCode EL (callN EL NN (q + 3)) NN (.loop byL)) 38 d (fun f g => byLive (sl f 0 a.k) (sl g 0 b.k) 0 64) (.exit 0) (fun f g nk => [(0, sl (nk.getD 0 0) 0 (byGo b 64 (a, 0)).1.k), (6, .int .u64 (byGo b 64 (a, 0)).2)]) (fun f g nk => []) := by
  intro f g rest s hov
  refine loop_pi (π := Nat × Bg × Int × Nat) (fun p => byLive (sl p.1 0 p.2.1.k) (sl g 0 b.k) p.2.2.1 p.2.2.2) (fun p => [(p.1, rowU p.2.1.cells), (g, rowU b.cells)]) (fun p => p.2.2.2)
    (fun p => p.2.1.ok r ∧ p.2.2.2 ≤ 64 ∧ byGo b p.2.2.2 (p.2.1, p.2.2.1) = byGo b 64 (a, 0)) (by simp) (fun p hp rest s' hA => ?_) (f, a, 0, 64) ⟨ha, Nat.le_refl _, rfl⟩ (by show 64 < 1048576; omega) hov rest
  obtain ⟨f, a', w, n⟩ := p
  obtain ⟨p1, p2, p3⟩ := hp
  simp only at p1 p2 p3
  have hov' := hA.holds
  cases n with
  | zero =>
    right
    obtain ⟨rest', s'', g1, g2⟩ := byStop f g a' b w (q + 3) d rest s' hov'
    refine ⟨[f], rest', s'', ?_, g2.sub (List.nil_sublist _)⟩
    rw [← p3]
    exact g1
  | succ n =>
    left
    have hl1 := Bg.len_le p1
    have hl2 := Bg.len_le hb
    have e1 : IntKind.i64.wrap ((b.len : Int) + (n : Int)) = ((b.len + n : Nat) : Int) := by rw [wrap_i64 (by omega) (by omega)]; omega
    have e2 := below_wrap n (by omega)
    by_cases hlt : a'.len < b.len + n
    · obtain ⟨rest', s'', g1, g2⟩ := byLess f g n a' b r t p1 hb hr ht w q d rest s' hov' (by omega) e1 (by omega) e2
      refine ⟨(f, a', w, n), rest', s'', ⟨p1, by simp only; omega, ?_⟩, by simp only; omega, g1, g2⟩
      rw [← p3]
      simp only [byGo, byStep, if_pos hlt]
    · by_cases hc : a'.cmp (b.up n) ≥ 0
      · obtain ⟨nk, rest', s'', g1, g2⟩ := byMore f g n a' b r t p1 hb hk hr ht (by omega) w q d rest s' hov' (by omega) e1 (by omega) e2 hc
        refine ⟨(nk.getD 0 0, a'.minus (b.up n), orBit w n, n), rest', s'', ⟨minus_ok' p1, by simp only; omega, ?_⟩, by simp only; omega, g1, g2⟩
        rw [← p3]
        simp only [byGo, byStep, if_neg hlt, if_pos hc]
      · obtain ⟨rest', s'', g1, g2⟩ := byElse f g n a' b r t p1 hb hk hr ht (by omega) w q d rest s' hov' (by omega) e1 (by omega) e2 hc
        refine ⟨(f, a', w, n), rest', s'', ⟨p1, by simp only; omega, ?_⟩, by simp only; omega, g1, g2⟩
        rw [← p3]
        simp only [byGo, byStep, if_neg hlt, if_neg hc]

theorem by_ok (q : Nat) (a b : Bg) (r t : Nat) (ha : a.ok r) (hb : b.ok t) (hk : 0 < b.k) (hr : r < 100000) (ht : t < 100000) :
    Calls2 (rowU a.cells) (rowU b.cells) (fun f g => callN EL NN (q + 4) fBy [sl f 0 a.k, sl g 0 b.k]) (fun f g _ => .ok (.tuple #[.int .u64 (byGo b 64 (a, 0)).2, .bool (decide (((byGo b 64 (a, 0)).1.k : Int) > 0))])) (fun f g _ => []) := by
  intro f g s hov
  have l1 := (by_loop a b r t ha hb hk hr ht q []).ev
  exact fnk_by hov [.loop 0 0 [0, 1] l1, .m 0 0] [] [] (by kernel_rfl) (by kernel_rfl)

end Go.Proofs.YtiabpbememhdeaaDoor

/-
  Numbers as decimal texts, walked, 9: 'nearest'.
-/
set_option linter.unusedVariables false
set_option linter.unusedSimpArgs false
namespace Go.Proofs.YtiabpbememhdeaaDoor
open Go.Ai Go.RowKit
set_option maxRecDepth 100000

def fNearest : FuncId := 36
noncomputable def nearL : Code := loopAt Tryd.prog fNearest 0

/-- A numeral: its digits, times which power of ten. -/
abbrev numeral (b : ByteArray) (x : Int) : AObj := .row [.string b, .int .i64 x] 2 0 0 []

def digitOf (b : ByteArray) (j : Nat) : Int := IntKind.u32.wrap (IntKind.u8.wrap (((b.get! j).toNat : Int) - 48))

abbrev nearLive (p a : Value) (n j : Nat) : List (Nat × Value) := [(1, p), (3, a), (11, .int .i64 (n : Int)), (12, .int .i64 (j : Int))]

theorem nearFirst (f n : Nat) (b : ByteArray) (x : Int) (q : Nat) (d : List Deferred) (rest : Nat → Value) (s : St) (hov : Holds s [(f, numeral b x)]) (h1 : (0 : Int) < (n : Int)) (h2 : (0 : Nat) < b.size) (h3 : IntKind.u64.wrap (digitOf b 0) = digitOf b 0) :
    ∃ nk : List Nat, ∃ rest' s', evalCode EL (callN EL NN (q + 2)) NN nearL { tmps := tmpsOf 79 (nearLive (.pointer (some ⟨f, 0, some 0⟩)) (.slice none 0 0) n 0) rest, defers := d } s = some (.normal, { tmps := tmpsOf 79 (nearLive (.pointer (some ⟨f, 0, some 0⟩)) (sl (nk.getD 0 0) 0 (Bg.first (digitOf b 0)).k) n 1) rest', defers := d }, s') ∧ After s s' [f] [(f, numeral b x), (nk.getD 0 0, rowU (Bg.first (digitOf b 0)).cells)] := by
  have l1 := (times_nil q 10 (digitOf b 0) h3).ev
  exact roundk_by hov [.yes 0 h1, .m 0 0, .yes 2 h2, .call 0 0 [] l1, .m 0 0] [1] [0, 1] (by kernel_rfl) (by kernel_rfl)
theorem nearRound (f g n j : Nat) (b : ByteArray) (x : Int) (a : Bg) (r : Nat) (ha : a.ok r) (hr : r < 1000000) (q : Nat) (d : List Deferred) (rest : Nat → Value) (s : St) (hov : Holds s [(f, numeral b x), (g, rowU a.cells)]) (h1 : (j : Int) < (n : Int)) (h2 : j < b.size) (h3 : IntKind.u64.wrap (digitOf b j) = digitOf b j) (h4 : IntKind.i64.wrap ((j : Int) + 1) = ((j + 1 : Nat) : Int)) (h5 : 0 ≤ (j : Int)) :
    ∃ nk : List Nat, ∃ rest' s', evalCode EL (callN EL NN (q + 2)) NN nearL { tmps := tmpsOf 79 (nearLive (.pointer (some ⟨f, 0, some 0⟩)) (sl g 0 a.k) n j) rest, defers := d } s = some (.normal, { tmps := tmpsOf 79 (nearLive (.pointer (some ⟨f, 0, some 0⟩)) (sl (nk.getD 0 0) 0 (a.times 10 (digitOf b j)).k) n (j + 1)) rest', defers := d }, s') ∧ After s s' [f, g] [(f, numeral b x), (nk.getD 0 0, rowU (a.times 10 (digitOf b j)).cells)] := by
  have l1 := (times_bg q ha hr 10 (digitOf b j) h3).ev
  exact roundk_by hov [.yes 0 h1, .m 0 0, .yes 2 h2, .call 0 0 [1] l1, .int 0 h4, .m 0 0] [2] [0, 2] (by kernel_rfl) (by kernel_rfl)
theorem nearStop (f g n j : Nat) (b : ByteArray) (x : Int) (a : Bg) (m : Nat) (d : List Deferred) (rest : Nat → Value) (s : St) (hov : Holds s [(f, numeral b x), (g, rowU a.cells)]) (h1 : ¬ (j : Int) < (n : Int)) :
    ∃ rest' s', evalCode EL (callN EL NN m) NN nearL { tmps := tmpsOf 79 (nearLive (.pointer (some ⟨f, 0, some 0⟩)) (sl g 0 a.k) n j) rest, defers := d } s = some (.exit 0, { tmps := tmpsOf 79 [(1, .pointer (some ⟨f, 0, some 0⟩)), (3, sl g 0 a.k)] rest', defers := d }, s') ∧ After s s' [f, g] [(f, numeral b x), (g, rowU a.cells)] := by
  exact round_by hov [.no 0 h1, .m 0 0] [0, 1] (by kernel_rfl)
theorem nearNone (f n : Nat) (b : ByteArray) (x : Int) (m : Nat) (d : List Deferred) (rest : Nat → Value) (s : St) (hov : Holds s [(f, numeral b x)]) (h1 : ¬ (0 : Int) < (n : Int)) :
    ∃ rest' s', evalCode EL (callN EL NN m) NN nearL { tmps := tmpsOf 79 (nearLive (.pointer (some ⟨f, 0, some 0⟩)) (.slice none 0 0) n 0) rest, defers := d } s = some (.exit 0, { tmps := tmpsOf 79 [(1, .pointer (some ⟨f, 0, some 0⟩)), (3, .slice none 0 0)] rest', defers := d }, s') ∧ After s s' [f] [(f, numeral b x)] := by
  exact round_by hov [.no 0 h1, .m 0 0] [0] (by kernel_rfl)

/-- What the first digits come to. -/
def digB (b : ByteArray) : Nat → Bg
  | 0 => Bg.first 0
  | 1 => Bg.first (digitOf b 0)
  | j + 2 => (digB b (j + 1)).times 10 (digitOf b (j + 1))

theorem digB_ok (b : ByteArray) : ∀ j, (digB b (j + 1)).ok (j + 1)
  | 0 => first_ok _
  | j + 1 => Bg.times_ok' (digB_ok b j) _ _

def accV (b : ByteArray) (g : Nat) : Nat → Value
  | 0 => .slice none 0 0
  | j + 1 => sl g 0 (digB b (j + 1)).k
def accN (b : ByteArray) (f : Nat) (x : Int) (g : Nat) : Nat → Cache
  | 0 => [(f, numeral b x)]
  | j + 1 => [(f, numeral b x), (g, rowU (digB b (j + 1)).cells)]

theorem digitOf_wrap (b : ByteArray) (j : Nat) : IntKind.u64.wrap (digitOf b j) = digitOf b j := by
  have := wrap_u32_range (IntKind.u8.wrap (((b.get! j).toNat : Int) - 48))
  unfold digitOf
  exact wrap_u64 (by omega) (by omega)

theorem near_loop (b : ByteArray) (x : Int) (hs : 0 < b.size) (hb : b.size ≤ 500) (q : Nat) (d : List Deferred) :
    Loops1 (numeral b x) (evalCode EL (callN EL NN (q + 2)) NN (.loop nearL)) 79 d (fun f => nearLive (.pointer (some ⟨f, 0, some 0⟩)) (.slice none 0 0) b.size 0) (.exit 0)
      (fun f nk => [(1, .pointer (some ⟨f, 0, some 0⟩)), (3, sl (nk.getD 0 0) 0 (digB b b.size).k)]) (fun f nk => [(f, numeral b x), (nk.getD 0 0, rowU (digB b b.size).cells)]) := by
  intro f rest s hov
  refine loop_pi (π := Nat × Nat) (fun p => nearLive (.pointer (some ⟨f, 0, some 0⟩)) (accV b p.1 p.2) b.size p.2) (fun p => accN b f x p.1 p.2) (fun p => b.size - p.2) (fun p => p.2 ≤ b.size) (by simp) (fun p hp rest s' hA => ?_) (0, 0) (Nat.zero_le _) (by show b.size - 0 < 1048576; omega) hov rest
  obtain ⟨g, j⟩ := p
  simp only at hp
  have hov' := hA.holds
  cases j with
  | zero =>
    left
    obtain ⟨nk, rest', s'', g1, g2⟩ := nearFirst f b.size b x q d rest s' hov' (by omega) hs (digitOf_wrap b 0)
    exact ⟨(nk.getD 0 0, 1), rest', s'', by simp only; omega, by simp only; omega, g1, g2⟩
  | succ j =>
    by_cases hlt : j + 1 < b.size
    · left
      obtain ⟨nk, rest', s'', g1, g2⟩ := nearRound f g b.size (j + 1) b x (digB b (j + 1)) (j + 1) (digB_ok b j) (by omega) q d rest s' hov' (by omega) hlt (digitOf_wrap b _) (by rw [wrap_i64 (by omega) (by omega)]; omega) (by omega)
      exact ⟨(nk.getD 0 0, j + 2), rest', s'', by simp only; omega, by simp only; omega, g1, g2⟩
    · right
      obtain ⟨rest', s'', g1, g2⟩ := nearStop f g b.size (j + 1) b x (digB b (j + 1)) (q + 2) d rest s' hov' (by omega)
      have e : b.size = j + 1 := by omega
      refine ⟨[g], rest', s'', ?_, ?_⟩
      · rw [show digB b b.size = digB b (j + 1) by rw [e]]; exact g1
      · rw [show digB b b.size = digB b (j + 1) by rw [e]]; exact g2

abbrev NearU (q : Nat) (b : ByteArray) (x : Int) : Prop := ∀ s, ∃ r s', callN EL NN (q + 5) fNearest [.agg #[.string b, .int .i64 x]] s = some (r, s') ∧ isInt .u64 r = true ∧ After s s' [] []

theorem near_empty (q : Nat) (b : ByteArray) (x : Int) (h1 : ¬ (0 : Int) < (b.size : Int)) : NearU q b x := by
  intro s
  exact fnv_by (holds_nil s) [.m 0 0, .m 0 0, .no 1 h1, .m 0 0] [] _ (by kernel_rfl) (by kernel_rfl)
theorem near_nought (q : Nat) (b : ByteArray) (x : Int) (hs : 0 < b.size) (hb : b.size ≤ 500) (h1 : ((((digB b b.size).k : Nat) : Int) == 0) = true) : NearU q b x := by
  intro s
  have l1 := (near_loop b x hs hb (q + 2) []).ev
  exact fnv_by (holds_nil s) [.m 0 0, .m 0 0, .loop 0 0 [0] l1, .is 0 h1, .is 0 h1, .is 0 h1, .is 0 h1, .m 0 0] [] _ (by kernel_rfl) (by kernel_rfl)
theorem near_tiny (q : Nat) (b : ByteArray) (x : Int) (hs : 0 < b.size) (hb : b.size ≤ 500) (h1 : ((((digB b b.size).k : Nat) : Int) == 0) = false) (h2 : x < -1000) : NearU q b x := by
  intro s
  have l1 := (near_loop b x hs hb (q + 2) []).ev
  exact fnv_by (holds_nil s) [.m 0 0, .m 0 0, .loop 0 0 [0] l1, .is 0 h1, .is 0 h1, .m 0 0, .is 1 h1, .is 0 h1, .yes 0 h2, .m 0 0] [] _ (by kernel_rfl) (by kernel_rfl)
theorem near_great (q : Nat) (b : ByteArray) (x : Int) (hs : 0 < b.size) (hb : b.size ≤ 500) (h1 : ((((digB b b.size).k : Nat) : Int) == 0) = false) (h2 : ¬ x < -1000) (h3 : x > 400) : NearU q b x := by
  intro s
  have l1 := (near_loop b x hs hb (q + 2) []).ev
  exact fnv_by (holds_nil s) [.m 0 0, .m 0 0, .loop 0 0 [0] l1, .is 0 h1, .is 0 h1, .m 0 0, .is 1 h1, .is 0 h1, .no 0 h2, .m 0 0, .yes 1 h3, .m 0 0] [] _ (by kernel_rfl) (by kernel_rfl)

def Bg.one : Bg := ⟨[.int .u32 1], 1⟩
theorem one_ok : Bg.one.ok 1 := by
  refine ⟨?_, Nat.le_refl _, Nat.le_refl _, .inr (by decide)⟩
  intro x hx
  rw [List.mem_singleton.1 hx]
  exact ⟨by omega, by omega⟩

theorem byGo_range (b : Bg) : ∀ (n : Nat) (p : Bg × Int), 0 ≤ p.2 ∧ p.2 ≤ 18446744073709551615 → 0 ≤ (byGo b n p).2 ∧ (byGo b n p).2 ≤ 18446744073709551615
  | 0, p, h => h
  | n + 1, p, h => by
      unfold byGo
      refine byGo_range b n _ ?_
      unfold byStep
      split
      · exact h
      · split
        · have := wrap_u64_range (((BitVec.ofInt 64 p.2 ||| BitVec.ofInt 64 (IntKind.u64.wrap (1 * 2 ^ min (n : Int).toNat 64))).toNat : Nat) : Int)
          simp only [orBit]
          omega
        · exact h

def orOne (w : Int) : Int := IntKind.u64.wrap (((BitVec.ofInt 64 w ||| BitVec.ofInt 64 1).toNat : Nat) : Int)

end Go.Proofs.YtiabpbememhdeaaDoor

/-
  Numbers as decimal texts, walked, 10: 'nearest' comes to an end.
-/
set_option linter.unusedVariables false
set_option linter.unusedSimpArgs false
namespace Go.Proofs.YtiabpbememhdeaaDoor
open Go.Ai Go.RowKit
set_option maxRecDepth 100000

theorem near_aur (q : Nat) (b : ByteArray) (i j : Nat) (hs : 0 < b.size) (hb : b.size ≤ 500) (hi : i ≤ 1000) (hj : j ≤ 60000) (h1 : ((((digB b b.size).k : Nat) : Int) == 0) = false) (h2 : ¬ (i : Int) < -1000) (h3 : ¬ (i : Int) > 400) (h4 : (i : Int) ≥ 0) (dd u e : Int) (h6 : IntKind.i64.wrap ((((digB b b.size).tens i).len : Int) - (Bg.one.len : Int)) = dd) (h7 : IntKind.i64.wrap (63 - dd) = u) (hu : u = (j : Int)) (h8 : (j : Int) ≥ 0) (h9 : IntKind.i64.wrap (0 - (j : Int)) = e) (h10 : decide ((((byGo Bg.one 64 ((((digB b b.size).tens i).up j), 0)).1.k : Nat) : Int) > 0) = true) (h11 : (0 ≤ (orOne (byGo Bg.one 64 ((((digB b b.size).tens i).up j), 0)).2) ∧ (orOne (byGo Bg.one 64 ((((digB b b.size).tens i).up j), 0)).2) ≤ 18446744073709551615) ∧ -(2 ^ 62) ≤ e ∧ e ≤ 2 ^ 62) : NearU q b (i : Int) := by
  subst hu
  intro s
  have d0 := digB_ok b (b.size - 1)
  rw [show b.size - 1 + 1 = b.size by omega] at d0
  have hk0 : 0 < (digB b b.size).k := by
    rcases Nat.eq_zero_or_pos (digB b b.size).k with h | h
    · rw [h] at h1; simp at h1
    · exact h
  have l1 := (near_loop b ((i : Int)) hs hb (q + 2) []).ev
  have l2 := (tens_ok (digB b b.size) _ d0 i (by omega) (q + 1)).ev
  have d1 := tens_ok' d0 i
  have d2 := one_ok
  have k1 := tens_pos d0 hk0 i
  have k2 : 0 < Bg.one.k := by decide
  have l3 := (len_ok (q + 3) ((digB b b.size).tens i) _ d1 (by omega)).ev
  have l4 := (len_ok (q + 3) Bg.one _ d2 (by omega)).ev
  have l5 := (up_ok (q + 1) ((digB b b.size).tens i) _ j d1 k1 (by omega)).ev
  have d3 := (up_ok' d1 k1 j).1
  have d4 := d2
  have k4 := k2
  have l6 := (by_ok q (((digB b b.size).tens i).up j) Bg.one _ _ d3 d4 k4 (by omega) (by omega)).ev
  exact fnv_by (holds_nil s) [.m 0 0, .m 0 0, .loop 0 0 [0] l1, .is 0 h1, .is 0 h1, .m 0 0, .is 1 h1, .is 0 h1, .m 0 0, .no 1 h3, .m 0 0, .m 0 0, .m 0 0, .call 0 0 [1] l2, .call 0 0 [2] l3, .call 0 0 [1] l4, .int 0 h6, .int 0 h7, .call 0 0 [1] l5, .call 0 0 [3, 1] l6, .is 0 h10, .int 4 h9, .yes 0 h11, .m 0 0] [] _ (by kernel_rfl) (by kernel_rfl)
theorem near_aun (q : Nat) (b : ByteArray) (i j : Nat) (hs : 0 < b.size) (hb : b.size ≤ 500) (hi : i ≤ 1000) (hj : j ≤ 60000) (h1 : ((((digB b b.size).k : Nat) : Int) == 0) = false) (h2 : ¬ (i : Int) < -1000) (h3 : ¬ (i : Int) > 400) (h4 : (i : Int) ≥ 0) (dd u e : Int) (h6 : IntKind.i64.wrap ((((digB b b.size).tens i).len : Int) - (Bg.one.len : Int)) = dd) (h7 : IntKind.i64.wrap (63 - dd) = u) (hu : u = (j : Int)) (h8 : (j : Int) ≥ 0) (h9 : IntKind.i64.wrap (0 - (j : Int)) = e) (h10 : decide ((((byGo Bg.one 64 ((((digB b b.size).tens i).up j), 0)).1.k : Nat) : Int) > 0) = false) (h11 : (0 ≤ (byGo Bg.one 64 ((((digB b b.size).tens i).up j), 0)).2 ∧ (byGo Bg.one 64 ((((digB b b.size).tens i).up j), 0)).2 ≤ 18446744073709551615) ∧ -(2 ^ 62) ≤ e ∧ e ≤ 2 ^ 62) : NearU q b (i : Int) := by
  subst hu
  intro s
  have d0 := digB_ok b (b.size - 1)
  rw [show b.size - 1 + 1 = b.size by omega] at d0
  have hk0 : 0 < (digB b b.size).k := by
    rcases Nat.eq_zero_or_pos (digB b b.size).k with h | h
    · rw [h] at h1; simp at h1
    · exact h
  have l1 := (near_loop b ((i : Int)) hs hb (q + 2) []).ev
  have l2 := (tens_ok (digB b b.size) _ d0 i (by omega) (q + 1)).ev
  have d1 := tens_ok' d0 i
  have d2 := one_ok
  have k1 := tens_pos d0 hk0 i
  have k2 : 0 < Bg.one.k := by decide
  have l3 := (len_ok (q + 3) ((digB b b.size).tens i) _ d1 (by omega)).ev
  have l4 := (len_ok (q + 3) Bg.one _ d2 (by omega)).ev
  have l5 := (up_ok (q + 1) ((digB b b.size).tens i) _ j d1 k1 (by omega)).ev
  have d3 := (up_ok' d1 k1 j).1
  have d4 := d2
  have k4 := k2
  have l6 := (by_ok q (((digB b b.size).tens i).up j) Bg.one _ _ d3 d4 k4 (by omega) (by omega)).ev
  exact fnv_by (holds_nil s) [.m 0 0, .m 0 0, .loop 0 0 [0] l1, .is 0 h1, .is 0 h1, .m 0 0, .is 1 h1, .is 0 h1, .m 0 0, .no 1 h3, .m 0 0, .m 0 0, .m 0 0, .call 0 0 [1] l2, .call 0 0 [2] l3, .call 0 0 [1] l4, .int 0 h6, .int 0 h7, .call 0 0 [1] l5, .call 0 0 [3, 1] l6, .is 0 h10, .int 1 h9, .yes 0 h11, .m 0 0] [] _ (by kernel_rfl) (by kernel_rfl)
theorem near_adr (q : Nat) (b : ByteArray) (i j : Nat) (hs : 0 < b.size) (hb : b.size ≤ 500) (hi : i ≤ 1000) (hj : j ≤ 60000) (h1 : ((((digB b b.size).k : Nat) : Int) == 0) = false) (h2 : ¬ (i : Int) < -1000) (h3 : ¬ (i : Int) > 400) (h4 : (i : Int) ≥ 0) (dd u e : Int) (h6 : IntKind.i64.wrap ((((digB b b.size).tens i).len : Int) - (Bg.one.len : Int)) = dd) (h7 : IntKind.i64.wrap (63 - dd) = u) (h8 : ¬ u ≥ 0) (h9' : IntKind.i64.wrap (0 - u) = (j : Int)) (he : e = (j : Int)) (h10 : decide ((((byGo (Bg.one.up j) 64 (((digB b b.size).tens i), 0)).1.k : Nat) : Int) > 0) = true) (h11 : (0 ≤ (orOne (byGo (Bg.one.up j) 64 (((digB b b.size).tens i), 0)).2) ∧ (orOne (byGo (Bg.one.up j) 64 (((digB b b.size).tens i), 0)).2) ≤ 18446744073709551615) ∧ -(2 ^ 62) ≤ e ∧ e ≤ 2 ^ 62) : NearU q b (i : Int) := by
  subst he
  intro s
  have d0 := digB_ok b (b.size - 1)
  rw [show b.size - 1 + 1 = b.size by omega] at d0
  have hk0 : 0 < (digB b b.size).k := by
    rcases Nat.eq_zero_or_pos (digB b b.size).k with h | h
    · rw [h] at h1; simp at h1
    · exact h
  have l1 := (near_loop b ((i : Int)) hs hb (q + 2) []).ev
  have l2 := (tens_ok (digB b b.size) _ d0 i (by omega) (q + 1)).ev
  have d1 := tens_ok' d0 i
  have d2 := one_ok
  have k1 := tens_pos d0 hk0 i
  have k2 : 0 < Bg.one.k := by decide
  have l3 := (len_ok (q + 3) ((digB b b.size).tens i) _ d1 (by omega)).ev
  have l4 := (len_ok (q + 3) Bg.one _ d2 (by omega)).ev
  have l5 := (up_ok (q + 1) Bg.one _ j d2 k2 (by omega)).ev
  have d3 := d1
  have d4 := (up_ok' d2 k2 j).1
  have k4 := (up_ok' d2 k2 j).2
  have l6 := (by_ok q ((digB b b.size).tens i) (Bg.one.up j) _ _ d3 d4 k4 (by omega) (by omega)).ev
  exact fnv_by (holds_nil s) [.m 0 0, .m 0 0, .loop 0 0 [0] l1, .is 0 h1, .is 0 h1, .m 0 0, .is 1 h1, .is 0 h1, .m 0 0, .no 1 h3, .m 0 0, .m 0 0, .m 0 0, .call 0 0 [1] l2, .call 0 0 [2] l3, .call 0 0 [1] l4, .int 0 h6, .int 0 h7, .no 0 h8, .int 1 h9', .call 0 0 [2] l5, .call 0 0 [1, 3] l6, .is 0 h10, .int 4 h9', .yes 0 h11, .m 0 0] [] _ (by kernel_rfl) (by kernel_rfl)
theorem near_adn (q : Nat) (b : ByteArray) (i j : Nat) (hs : 0 < b.size) (hb : b.size ≤ 500) (hi : i ≤ 1000) (hj : j ≤ 60000) (h1 : ((((digB b b.size).k : Nat) : Int) == 0) = false) (h2 : ¬ (i : Int) < -1000) (h3 : ¬ (i : Int) > 400) (h4 : (i : Int) ≥ 0) (dd u e : Int) (h6 : IntKind.i64.wrap ((((digB b b.size).tens i).len : Int) - (Bg.one.len : Int)) = dd) (h7 : IntKind.i64.wrap (63 - dd) = u) (h8 : ¬ u ≥ 0) (h9' : IntKind.i64.wrap (0 - u) = (j : Int)) (he : e = (j : Int)) (h10 : decide ((((byGo (Bg.one.up j) 64 (((digB b b.size).tens i), 0)).1.k : Nat) : Int) > 0) = false) (h11 : (0 ≤ (byGo (Bg.one.up j) 64 (((digB b b.size).tens i), 0)).2 ∧ (byGo (Bg.one.up j) 64 (((digB b b.size).tens i), 0)).2 ≤ 18446744073709551615) ∧ -(2 ^ 62) ≤ e ∧ e ≤ 2 ^ 62) : NearU q b (i : Int) := by
  subst he
  intro s
  have d0 := digB_ok b (b.size - 1)
  rw [show b.size - 1 + 1 = b.size by omega] at d0
  have hk0 : 0 < (digB b b.size).k := by
    rcases Nat.eq_zero_or_pos (digB b b.size).k with h | h
    · rw [h] at h1; simp at h1
    · exact h
  have l1 := (near_loop b ((i : Int)) hs hb (q + 2) []).ev
  have l2 := (tens_ok (digB b b.size) _ d0 i (by omega) (q + 1)).ev
  have d1 := tens_ok' d0 i
  have d2 := one_ok
  have k1 := tens_pos d0 hk0 i
  have k2 : 0 < Bg.one.k := by decide
  have l3 := (len_ok (q + 3) ((digB b b.size).tens i) _ d1 (by omega)).ev
  have l4 := (len_ok (q + 3) Bg.one _ d2 (by omega)).ev
  have l5 := (up_ok (q + 1) Bg.one _ j d2 k2 (by omega)).ev
  have d3 := d1
  have d4 := (up_ok' d2 k2 j).1
  have k4 := (up_ok' d2 k2 j).2
  have l6 := (by_ok q ((digB b b.size).tens i) (Bg.one.up j) _ _ d3 d4 k4 (by omega) (by omega)).ev
  exact fnv_by (holds_nil s) [.m 0 0, .m 0 0, .loop 0 0 [0] l1, .is 0 h1, .is 0 h1, .m 0 0, .is 1 h1, .is 0 h1, .m 0 0, .no 1 h3, .m 0 0, .m 0 0, .m 0 0, .call 0 0 [1] l2, .call 0 0 [2] l3, .call 0 0 [1] l4, .int 0 h6, .int 0 h7, .no 0 h8, .int 1 h9', .call 0 0 [2] l5, .call 0 0 [1, 3] l6, .is 0 h10, .int 1 h9', .yes 0 h11, .m 0 0] [] _ (by kernel_rfl) (by kernel_rfl)
theorem near_bur (q : Nat) (b : ByteArray) (i j : Nat) (x : Int) (hs : 0 < b.size) (hb : b.size ≤ 500) (hi : i ≤ 1000) (hj : j ≤ 60000) (h1 : ((((digB b b.size).k : Nat) : Int) == 0) = false) (h2 : ¬ x < -1000) (h3 : ¬ x > 400) (h4 : ¬ x ≥ 0) (h5 : IntKind.i64.wrap (0 - x) = (i : Int)) (dd u e : Int) (h6 : IntKind.i64.wrap (((digB b b.size).len : Int) - ((Bg.one.tens i).len : Int)) = dd) (h7 : IntKind.i64.wrap (63 - dd) = u) (hu : u = (j : Int)) (h8 : (j : Int) ≥ 0) (h9 : IntKind.i64.wrap (0 - (j : Int)) = e) (h10 : decide ((((byGo (Bg.one.tens i) 64 (((digB b b.size).up j), 0)).1.k : Nat) : Int) > 0) = true) (h11 : (0 ≤ (orOne (byGo (Bg.one.tens i) 64 (((digB b b.size).up j), 0)).2) ∧ (orOne (byGo (Bg.one.tens i) 64 (((digB b b.size).up j), 0)).2) ≤ 18446744073709551615) ∧ -(2 ^ 62) ≤ e ∧ e ≤ 2 ^ 62) : NearU q b x := by
  subst hu
  intro s
  have d0 := digB_ok b (b.size - 1)
  rw [show b.size - 1 + 1 = b.size by omega] at d0
  have hk0 : 0 < (digB b b.size).k := by
    rcases Nat.eq_zero_or_pos (digB b b.size).k with h | h
    · rw [h] at h1; simp at h1
    · exact h
  have l1 := (near_loop b (x) hs hb (q + 2) []).ev
  have l2 := (tens_ok Bg.one _ one_ok i (by omega) (q + 1)).ev
  have d2 := tens_ok' one_ok i
  have d1 := d0
  have k1 := hk0
  have k2 := tens_pos one_ok (by decide) i
  have l3 := (len_ok (q + 3) (digB b b.size) _ d1 (by omega)).ev
  have l4 := (len_ok (q + 3) (Bg.one.tens i) _ d2 (by omega)).ev
  have l5 := (up_ok (q + 1) (digB b b.size) _ j d1 k1 (by omega)).ev
  have d3 := (up_ok' d1 k1 j).1
  have d4 := d2
  have k4 := k2
  have l6 := (by_ok q ((digB b b.size).up j) (Bg.one.tens i) _ _ d3 d4 k4 (by omega) (by omega)).ev
  exact fnv_by (holds_nil s) [.m 0 0, .m 0 0, .loop 0 0 [0] l1, .is 0 h1, .is 0 h1, .m 0 0, .is 1 h1, .is 0 h1, .no 0 h2, .m 0 0, .no 1 h3, .m 0 0, .m 0 0, .no 1 h4, .m 0 0, .int 0 h5, .call 0 0 [2] l2, .call 0 0 [1] l3, .call 0 0 [1] l4, .int 0 h6, .int 0 h7, .call 0 0 [1] l5, .call 0 0 [3, 1] l6, .is 0 h10, .int 4 h9, .yes 0 h11, .m 0 0] [] _ (by kernel_rfl) (by kernel_rfl)
theorem near_bun (q : Nat) (b : ByteArray) (i j : Nat) (x : Int) (hs : 0 < b.size) (hb : b.size ≤ 500) (hi : i ≤ 1000) (hj : j ≤ 60000) (h1 : ((((digB b b.size).k : Nat) : Int) == 0) = false) (h2 : ¬ x < -1000) (h3 : ¬ x > 400) (h4 : ¬ x ≥ 0) (h5 : IntKind.i64.wrap (0 - x) = (i : Int)) (dd u e : Int) (h6 : IntKind.i64.wrap (((digB b b.size).len : Int) - ((Bg.one.tens i).len : Int)) = dd) (h7 : IntKind.i64.wrap (63 - dd) = u) (hu : u = (j : Int)) (h8 : (j : Int) ≥ 0) (h9 : IntKind.i64.wrap (0 - (j : Int)) = e) (h10 : decide ((((byGo (Bg.one.tens i) 64 (((digB b b.size).up j), 0)).1.k : Nat) : Int) > 0) = false) (h11 : (0 ≤ (byGo (Bg.one.tens i) 64 (((digB b b.size).up j), 0)).2 ∧ (byGo (Bg.one.tens i) 64 (((digB b b.size).up j), 0)).2 ≤ 18446744073709551615) ∧ -(2 ^ 62) ≤ e ∧ e ≤ 2 ^ 62) : NearU q b x := by
  subst hu
  intro s
  have d0 := digB_ok b (b.size - 1)
  rw [show b.size - 1 + 1 = b.size by omega] at d0
  have hk0 : 0 < (digB b b.size).k := by
    rcases Nat.eq_zero_or_pos (digB b b.size).k with h | h
    · rw [h] at h1; simp at h1
    · exact h
  have l1 := (near_loop b (x) hs hb (q + 2) []).ev
  have l2 := (tens_ok Bg.one _ one_ok i (by omega) (q + 1)).ev
  have d2 := tens_ok' one_ok i
  have d1 := d0
  have k1 := hk0
  have k2 := tens_pos one_ok (by decide) i
  have l3 := (len_ok (q + 3) (digB b b.size) _ d1 (by omega)).ev
  have l4 := (len_ok (q + 3) (Bg.one.tens i) _ d2 (by omega)).ev
  have l5 := (up_ok (q + 1) (digB b b.size) _ j d1 k1 (by omega)).ev
  have d3 := (up_ok' d1 k1 j).1
  have d4 := d2
  have k4 := k2
  have l6 := (by_ok q ((digB b b.size).up j) (Bg.one.tens i) _ _ d3 d4 k4 (by omega) (by omega)).ev
  exact fnv_by (holds_nil s) [.m 0 0, .m 0 0, .loop 0 0 [0] l1, .is 0 h1, .is 0 h1, .m 0 0, .is 1 h1, .is 0 h1, .no 0 h2, .m 0 0, .no 1 h3, .m 0 0, .m 0 0, .no 1 h4, .m 0 0, .int 0 h5, .call 0 0 [2] l2, .call 0 0 [1] l3, .call 0 0 [1] l4, .int 0 h6, .int 0 h7, .call 0 0 [1] l5, .call 0 0 [3, 1] l6, .is 0 h10, .int 1 h9, .yes 0 h11, .m 0 0] [] _ (by kernel_rfl) (by kernel_rfl)
theorem near_bdr (q : Nat) (b : ByteArray) (i j : Nat) (x : Int) (hs : 0 < b.size) (hb : b.size ≤ 500) (hi : i ≤ 1000) (hj : j ≤ 60000) (h1 : ((((digB b b.size).k : Nat) : Int) == 0) = false) (h2 : ¬ x < -1000) (h3 : ¬ x > 400) (h4 : ¬ x ≥ 0) (h5 : IntKind.i64.wrap (0 - x) = (i : Int)) (dd u e : Int) (h6 : IntKind.i64.wrap (((digB b b.size).len : Int) - ((Bg.one.tens i).len : Int)) = dd) (h7 : IntKind.i64.wrap (63 - dd) = u) (h8 : ¬ u ≥ 0) (h9' : IntKind.i64.wrap (0 - u) = (j : Int)) (he : e = (j : Int)) (h10 : decide ((((byGo ((Bg.one.tens i).up j) 64 ((digB b b.size), 0)).1.k : Nat) : Int) > 0) = true) (h11 : (0 ≤ (orOne (byGo ((Bg.one.tens i).up j) 64 ((digB b b.size), 0)).2) ∧ (orOne (byGo ((Bg.one.tens i).up j) 64 ((digB b b.size), 0)).2) ≤ 18446744073709551615) ∧ -(2 ^ 62) ≤ e ∧ e ≤ 2 ^ 62) : NearU q b x := by
  subst he
  intro s
  have d0 := digB_ok b (b.size - 1)
  rw [show b.size - 1 + 1 = b.size by omega] at d0
  have hk0 : 0 < (digB b b.size).k := by
    rcases Nat.eq_zero_or_pos (digB b b.size).k with h | h
    · rw [h] at h1; simp at h1
    · exact h
  have l1 := (near_loop b (x) hs hb (q + 2) []).ev
  have l2 := (tens_ok Bg.one _ one_ok i (by omega) (q + 1)).ev
  have d2 := tens_ok' one_ok i
  have d1 := d0
  have k1 := hk0
  have k2 := tens_pos one_ok (by decide) i
  have l3 := (len_ok (q + 3) (digB b b.size) _ d1 (by omega)).ev
  have l4 := (len_ok (q + 3) (Bg.one.tens i) _ d2 (by omega)).ev
  have l5 := (up_ok (q + 1) (Bg.one.tens i) _ j d2 k2 (by omega)).ev
  have d3 := d1
  have d4 := (up_ok' d2 k2 j).1
  have k4 := (up_ok' d2 k2 j).2
  have l6 := (by_ok q (digB b b.size) ((Bg.one.tens i).up j) _ _ d3 d4 k4 (by omega) (by omega)).ev
  exact fnv_by (holds_nil s) [.m 0 0, .m 0 0, .loop 0 0 [0] l1, .is 0 h1, .is 0 h1, .m 0 0, .is 1 h1, .is 0 h1, .no 0 h2, .m 0 0, .no 1 h3, .m 0 0, .m 0 0, .no 1 h4, .m 0 0, .int 0 h5, .call 0 0 [2] l2, .call 0 0 [1] l3, .call 0 0 [1] l4, .int 0 h6, .int 0 h7, .no 0 h8, .int 1 h9', .call 0 0 [2] l5, .call 0 0 [1, 3] l6, .is 0 h10, .int 4 h9', .yes 0 h11, .m 0 0] [] _ (by kernel_rfl) (by kernel_rfl)
theorem near_bdn (q : Nat) (b : ByteArray) (i j : Nat) (x : Int) (hs : 0 < b.size) (hb : b.size ≤ 500) (hi : i ≤ 1000) (hj : j ≤ 60000) (h1 : ((((digB b b.size).k : Nat) : Int) == 0) = false) (h2 : ¬ x < -1000) (h3 : ¬ x > 400) (h4 : ¬ x ≥ 0) (h5 : IntKind.i64.wrap (0 - x) = (i : Int)) (dd u e : Int) (h6 : IntKind.i64.wrap (((digB b b.size).len : Int) - ((Bg.one.tens i).len : Int)) = dd) (h7 : IntKind.i64.wrap (63 - dd) = u) (h8 : ¬ u ≥ 0) (h9' : IntKind.i64.wrap (0 - u) = (j : Int)) (he : e = (j : Int)) (h10 : decide ((((byGo ((Bg.one.tens i).up j) 64 ((digB b b.size), 0)).1.k : Nat) : Int) > 0) = false) (h11 : (0 ≤ (byGo ((Bg.one.tens i).up j) 64 ((digB b b.size), 0)).2 ∧ (byGo ((Bg.one.tens i).up j) 64 ((digB b b.size), 0)).2 ≤ 18446744073709551615) ∧ -(2 ^ 62) ≤ e ∧ e ≤ 2 ^ 62) : NearU q b x := by
  subst he
  intro s
  have d0 := digB_ok b (b.size - 1)
  rw [show b.size - 1 + 1 = b.size by omega] at d0
  have hk0 : 0 < (digB b b.size).k := by
    rcases Nat.eq_zero_or_pos (digB b b.size).k with h | h
    · rw [h] at h1; simp at h1
    · exact h
  have l1 := (near_loop b (x) hs hb (q + 2) []).ev
  have l2 := (tens_ok Bg.one _ one_ok i (by omega) (q + 1)).ev
  have d2 := tens_ok' one_ok i
  have d1 := d0
  have k1 := hk0
  have k2 := tens_pos one_ok (by decide) i
  have l3 := (len_ok (q + 3) (digB b b.size) _ d1 (by omega)).ev
  have l4 := (len_ok (q + 3) (Bg.one.tens i) _ d2 (by omega)).ev
  have l5 := (up_ok (q + 1) (Bg.one.tens i) _ j d2 k2 (by omega)).ev
  have d3 := d1
  have d4 := (up_ok' d2 k2 j).1
  have k4 := (up_ok' d2 k2 j).2
  have l6 := (by_ok q (digB b b.size) ((Bg.one.tens i).up j) _ _ d3 d4 k4 (by omega) (by omega)).ev
  exact fnv_by (holds_nil s) [.m 0 0, .m 0 0, .loop 0 0 [0] l1, .is 0 h1, .is 0 h1, .m 0 0, .is 1 h1, .is 0 h1, .no 0 h2, .m 0 0, .no 1 h3, .m 0 0, .m 0 0, .no 1 h4, .m 0 0, .int 0 h5, .call 0 0 [2] l2, .call 0 0 [1] l3, .call 0 0 [1] l4, .int 0 h6, .int 0 h7, .no 0 h8, .int 1 h9', .call 0 0 [2] l5, .call 0 0 [1, 3] l6, .is 0 h10, .int 1 h9', .yes 0 h11, .m 0 0] [] _ (by kernel_rfl) (by kernel_rfl)

end Go.Proofs.YtiabpbememhdeaaDoor

/-
  Numbers as decimal texts, walked, 11: 'nearest' told; 'digits'.
-/
set_option linter.unusedVariables false
set_option linter.unusedSimpArgs false
namespace Go.Proofs.YtiabpbememhdeaaDoor
open Go.Ai Go.RowKit
set_option maxRecDepth 100000

theorem orOne_range (w : Int) : 0 ≤ orOne w ∧ orOne w ≤ 18446744073709551615 := by
  have := wrap_u64_range (((BitVec.ofInt 64 w ||| BitVec.ofInt 64 1).toNat : Nat) : Int)
  unfold orOne
  omega

theorem nearest_ok (q : Nat) (b : ByteArray) (x : Int) (hb : b.size ≤ 500) : NearU q b x := by
  by_cases hs : 0 < b.size
  case neg => exact near_empty q b x (by omega)
  cases h1 : ((((digB b b.size).k : Nat) : Int) == 0)
  case true => exact near_nought q b x hs hb h1
  by_cases h2 : x < -1000
  · exact near_tiny q b x hs hb h1 h2
  by_cases h3 : x > 400
  · exact near_great q b x hs hb h1 h2 h3
  have d0 := digB_ok b (b.size - 1)
  rw [show b.size - 1 + 1 = b.size by omega] at d0
  have rng : ∀ (c a : Bg), (0 ≤ (byGo c 64 (a, 0)).2 ∧ (byGo c 64 (a, 0)).2 ≤ 18446744073709551615) := fun c a => byGo_range c 64 (a, 0) ⟨by simp, by simp⟩
  by_cases h4 : x ≥ 0
  · obtain ⟨i, rfl⟩ : ∃ i : Nat, x = (i : Int) := ⟨x.toNat, by omega⟩
    have l1 := Bg.len_le (tens_ok' d0 i)
    have l2 := Bg.len_le one_ok
    have k6 : IntKind.i64.wrap ((((digB b b.size).tens i).len : Int) - (Bg.one.len : Int)) = (((digB b b.size).tens i).len : Int) - (Bg.one.len : Int) := wrap_i64 (by omega) (by omega)
    obtain ⟨u, hu⟩ : ∃ u : Int, 63 - ((((digB b b.size).tens i).len : Int) - (Bg.one.len : Int)) = u := ⟨_, rfl⟩
    have k7 : IntKind.i64.wrap (63 - ((((digB b b.size).tens i).len : Int) - (Bg.one.len : Int))) = u := by rw [wrap_i64 (by omega) (by omega)]; exact hu
    by_cases h8 : u ≥ 0
    · obtain ⟨j, rfl⟩ : ∃ j : Nat, u = (j : Int) := ⟨u.toNat, by omega⟩
      have k9 : IntKind.i64.wrap (0 - (j : Int)) = -(j : Int) := by rw [wrap_i64 (by omega) (by omega)]; omega
      have rg := rng Bg.one (((digB b b.size).tens i).up j)
      have ro := orOne_range (byGo Bg.one 64 (((digB b b.size).tens i).up j, 0)).2
      cases h10 : decide ((((byGo Bg.one 64 (((digB b b.size).tens i).up j, 0)).1.k : Nat) : Int) > 0)
      · exact near_aun q b i j hs hb (by omega) (by omega) h1 h2 h3 h4 _ _ _ k6 k7 rfl (by omega) k9 h10 ⟨rg, by omega, by omega⟩
      · exact near_aur q b i j hs hb (by omega) (by omega) h1 h2 h3 h4 _ _ _ k6 k7 rfl (by omega) k9 h10 ⟨ro, by omega, by omega⟩
    · obtain ⟨j, hj⟩ : ∃ j : Nat, -u = (j : Int) := ⟨(-u).toNat, by omega⟩
      have k9 : IntKind.i64.wrap (0 - u) = (j : Int) := by rw [wrap_i64 (by omega) (by omega)]; omega
      have rg := rng (Bg.one.up j) ((digB b b.size).tens i)
      have ro := orOne_range (byGo (Bg.one.up j) 64 ((digB b b.size).tens i, 0)).2
      cases h10 : decide ((((byGo (Bg.one.up j) 64 ((digB b b.size).tens i, 0)).1.k : Nat) : Int) > 0)
      · exact near_adn q b i j hs hb (by omega) (by omega) h1 h2 h3 h4 _ _ _ k6 k7 h8 k9 rfl h10 ⟨rg, by omega, by omega⟩
      · exact near_adr q b i j hs hb (by omega) (by omega) h1 h2 h3 h4 _ _ _ k6 k7 h8 k9 rfl h10 ⟨ro, by omega, by omega⟩
  · obtain ⟨i, hi⟩ : ∃ i : Nat, -x = (i : Int) := ⟨(-x).toNat, by omega⟩
    have k5 : IntKind.i64.wrap (0 - x) = (i : Int) := by rw [wrap_i64 (by omega) (by omega)]; omega
    have l1 := Bg.len_le d0
    have l2 := Bg.len_le (tens_ok' one_ok i)
    have k6 : IntKind.i64.wrap (((digB b b.size).len : Int) - ((Bg.one.tens i).len : Int)) = ((digB b b.size).len : Int) - ((Bg.one.tens i).len : Int) := wrap_i64 (by omega) (by omega)
    obtain ⟨u, hu⟩ : ∃ u : Int, 63 - (((digB b b.size).len : Int) - ((Bg.one.tens i).len : Int)) = u := ⟨_, rfl⟩
    have k7 : IntKind.i64.wrap (63 - (((digB b b.size).len : Int) - ((Bg.one.tens i).len : Int))) = u := by rw [wrap_i64 (by omega) (by omega)]; exact hu
    by_cases h8 : u ≥ 0
    · obtain ⟨j, rfl⟩ : ∃ j : Nat, u = (j : Int) := ⟨u.toNat, by omega⟩
      have k9 : IntKind.i64.wrap (0 - (j : Int)) = -(j : Int) := by rw [wrap_i64 (by omega) (by omega)]; omega
      have rg := rng (Bg.one.tens i) ((digB b b.size).up j)
      have ro := orOne_range (byGo (Bg.one.tens i) 64 ((digB b b.size).up j, 0)).2
      cases h10 : decide ((((byGo (Bg.one.tens i) 64 ((digB b b.size).up j, 0)).1.k : Nat) : Int) > 0)
      · exact near_bun q b i j x hs hb (by omega) (by omega) h1 h2 h3 h4 k5 _ _ _ k6 k7 rfl (by omega) k9 h10 ⟨rg, by omega, by omega⟩
      · exact near_bur q b i j x hs hb (by omega) (by omega) h1 h2 h3 h4 k5 _ _ _ k6 k7 rfl (by omega) k9 h10 ⟨ro, by omega, by omega⟩
    · obtain ⟨j, hj⟩ : ∃ j : Nat, -u = (j : Int) := ⟨(-u).toNat, by omega⟩
      have k9 : IntKind.i64.wrap (0 - u) = (j : Int) := by rw [wrap_i64 (by omega) (by omega)]; omega
      have rg := rng ((Bg.one.tens i).up j) (digB b b.size)
      have ro := orOne_range (byGo ((Bg.one.tens i).up j) 64 (digB b b.size, 0)).2
      cases h10 : decide ((((byGo ((Bg.one.tens i).up j) 64 (digB b b.size, 0)).1.k : Nat) : Int) > 0)
      · exact near_bdn q b i j x hs hb (by omega) (by omega) h1 h2 h3 h4 k5 _ _ _ k6 k7 h8 k9 rfl h10 ⟨rg, by omega, by omega⟩
      · exact near_bdr q b i j x hs hb (by omega) (by omega) h1 h2 h3 h4 k5 _ _ _ k6 k7 h8 k9 rfl h10 ⟨ro, by omega, by omega⟩

def fDigits : FuncId := 41
noncomputable def digitsL : Code := loopAt Tryd.prog fDigits 0

abbrev byt (b : ByteArray) (j : Nat) : Int := ((b.get! j).toNat : Int)
abbrev digitsLive (b : ByteArray) (j : Nat) : List (Nat × Value) := [(0, .string b), (5, .int .i64 (b.size : Int)), (6, .int .i64 (j : Int))]

theorem digitsRound (b : ByteArray) (j : Nat) (m : Nat) (d : List Deferred) (rest : Nat → Value) (s : St) (h1 : (j : Int) < (b.size : Int)) (h2 : 0 ≤ (j : Int)) (h3 : j < b.size) (h4 : ¬ byt b j < 48) (h5 : ¬ byt b j > 57) (h6 : IntKind.i64.wrap ((j : Int) + 1) = ((j + 1 : Nat) : Int)) :
    ∃ rest' s', evalCode EL (callN EL NN m) NN digitsL { tmps := tmpsOf 23 (digitsLive b j) rest, defers := d } s = some (.normal, { tmps := tmpsOf 23 (digitsLive b (j + 1)) rest', defers := d }, s') ∧ After s s' [] [] := by
  exact round_by (holds_nil s) [.yes 0 h1, .yes 1 h3, .no 0 h4, .no 0 h4, .no 0 h4, .yes 1 h3, .no 0 h4, .no 0 h4, .no 0 h5, .int 0 h6, .m 0 0] [] (by kernel_rfl)
theorem digitsLow (b : ByteArray) (j : Nat) (m : Nat) (d : List Deferred) (rest : Nat → Value) (s : St) (h1 : (j : Int) < (b.size : Int)) (h2 : 0 ≤ (j : Int)) (h3 : j < b.size) (h4 : byt b j < 48) :
    ∃ rest' s', evalCode EL (callN EL NN m) NN digitsL { tmps := tmpsOf 23 (digitsLive b j) rest, defers := d } s = some (.ret, { tmps := tmpsOf 23 [(2, .int .i64 (j : Int))] rest', defers := d }, s') ∧ After s s' [] [] := by
  exact round_by (holds_nil s) [.yes 0 h1, .yes 1 h3, .yes 0 h4, .yes 0 h4, .yes 0 h4, .yes 0 h4, .yes 0 h4, .m 0 0] [] (by kernel_rfl)
theorem digitsHigh (b : ByteArray) (j : Nat) (m : Nat) (d : List Deferred) (rest : Nat → Value) (s : St) (h1 : (j : Int) < (b.size : Int)) (h2 : 0 ≤ (j : Int)) (h3 : j < b.size) (h4 : ¬ byt b j < 48) (h5 : byt b j > 57) :
    ∃ rest' s', evalCode EL (callN EL NN m) NN digitsL { tmps := tmpsOf 23 (digitsLive b j) rest, defers := d } s = some (.ret, { tmps := tmpsOf 23 [(2, .int .i64 (j : Int))] rest', defers := d }, s') ∧ After s s' [] [] := by
  exact round_by (holds_nil s) [.yes 0 h1, .yes 1 h3, .no 0 h4, .no 0 h4, .no 0 h4, .yes 1 h3, .no 0 h4, .no 0 h4, .yes 0 h5, .m 0 0] [] (by kernel_rfl)
theorem digitsStop (b : ByteArray) (j : Nat) (m : Nat) (d : List Deferred) (rest : Nat → Value) (s : St) (h1 : ¬ (j : Int) < (b.size : Int)) :
    ∃ rest' s', evalCode EL (callN EL NN m) NN digitsL { tmps := tmpsOf 23 (digitsLive b j) rest, defers := d } s = some (.exit 0, { tmps := tmpsOf 23 [(0, .string b)] rest', defers := d }, s') ∧ After s s' [] [] := by
  exact round_by (holds_nil s) [.no 0 h1, .m 0 0] [] (by kernel_rfl)

/-- How far digits go from a place on. -/
def digGo (b : ByteArray) : Nat → Nat → Nat
  | 0, j => j
  | r + 1, j => if byt b j < 48 ∨ byt b j > 57 then j else digGo b r (j + 1)
def digN (b : ByteArray) : Nat := digGo b b.size 0

theorem digGo_le (b : ByteArray) : ∀ r j, j ≤ digGo b r j ∧ digGo b r j ≤ j + r
  | 0, j => ⟨Nat.le_refl _, Nat.le_refl _⟩
  | r + 1, j => by
      unfold digGo
      split
      · omega
      · have := digGo_le b r (j + 1); omega

theorem digN_le (b : ByteArray) : digN b ≤ b.size := by
  have := digGo_le b b.size 0
  unfold digN
  omega

theorem digits_all (b : ByteArray) (hb : b.size < 1000000) (h : digN b = b.size) (m : Nat) (d : List Deferred) :
    Loops0 (evalCode EL (callN EL NN m) NN (.loop digitsL)) 23 d (digitsLive b 0) (.exit 0) (fun _ => [(0, .string b)]) (fun _ => []) := by
  intro rest s
  refine loop_pi (fun j => digitsLive b j) (fun _ => []) (fun j => b.size - j) (fun j => j ≤ b.size ∧ digGo b (b.size - j) j = b.size) (by simp) (fun j hj rest s' hA => ?_) 0 ⟨Nat.zero_le _, h⟩ (by show b.size - 0 < 1048576; omega) (holds_nil s) rest
  obtain ⟨h1, h2⟩ := hj
  by_cases hlt : j < b.size
  · left
    rw [show b.size - j = (b.size - (j + 1)) + 1 by omega] at h2
    unfold digGo at h2
    split at h2
    next => omega
    next hd =>
      obtain ⟨rest', s'', g1, g2⟩ := digitsRound b j m d rest s' (by omega) (by omega) hlt (by omega) (by omega) (by rw [wrap_i64 (by omega) (by omega)]; omega)
      exact ⟨j + 1, rest', s'', ⟨by omega, h2⟩, by omega, g1, g2⟩
  · right
    exact ⟨[], digitsStop b j m d rest s' (by omega)⟩

theorem digits_part (b : ByteArray) (hb : b.size < 1000000) (h : digN b < b.size) (m : Nat) (d : List Deferred) :
    Loops0 (evalCode EL (callN EL NN m) NN (.loop digitsL)) 23 d (digitsLive b 0) .ret (fun _ => [(2, .int .i64 (digN b : Int))]) (fun _ => []) := by
  intro rest s
  refine loop_pi (fun j => digitsLive b j) (fun _ => []) (fun j => b.size - j) (fun j => j ≤ b.size ∧ digGo b (b.size - j) j = digN b) (by simp) (fun j hj rest s' hA => ?_) 0 ⟨Nat.zero_le _, rfl⟩ (by show b.size - 0 < 1048576; omega) (holds_nil s) rest
  obtain ⟨h1, h2⟩ := hj
  by_cases hlt : j < b.size
  · rw [show b.size - j = (b.size - (j + 1)) + 1 by omega] at h2
    unfold digGo at h2
    split at h2
    next hd =>
      right
      rw [← h2]
      by_cases h4 : byt b j < 48
      · exact ⟨[], digitsLow b j m d rest s' (by omega) (by omega) hlt h4⟩
      · exact ⟨[], digitsHigh b j m d rest s' (by omega) (by omega) hlt h4 (by omega)⟩
    next hd =>
      left
      obtain ⟨rest', s'', g1, g2⟩ := digitsRound b j m d rest s' (by omega) (by omega) hlt (by omega) (by omega) (by rw [wrap_i64 (by omega) (by omega)]; omega)
      exact ⟨j + 1, rest', s'', ⟨by omega, h2⟩, by omega, g1, g2⟩
  · exfalso
    rw [show b.size - j = 0 by omega] at h2
    simp only [digGo] at h2
    omega

theorem digits_ok1 (q : Nat) (b : ByteArray) (hb : b.size < 1000000) (h : digN b = b.size) : Calls0 (callN EL NN (q + 1) fDigits [.string b]) (fun _ => .ok (.int .i64 (b.size : Int))) (fun _ => []) := by
  intro s
  have l1 := (digits_all b hb h q []).ev
  exact fnk_by (holds_nil s) [.loop 0 0 [] l1, .m 0 0] [] [] (by kernel_rfl) (by kernel_rfl)
theorem digits_ok2 (q : Nat) (b : ByteArray) (hb : b.size < 1000000) (h : digN b < b.size) : Calls0 (callN EL NN (q + 1) fDigits [.string b]) (fun _ => .ok (.int .i64 (digN b : Int))) (fun _ => []) := by
  intro s
  have l1 := (digits_part b hb h q []).ev
  exact fnk_by (holds_nil s) [.loop 0 0 [] l1, .m 0 0] [] [] (by kernel_rfl) (by kernel_rfl)

theorem digits_ok (q : Nat) (b : ByteArray) (hb : b.size < 1000000) : Calls0 (callN EL NN (q + 1) fDigits [.string b]) (fun _ => .ok (.int .i64 (digN b : Int))) (fun _ => []) := by
  have := digN_le b
  by_cases h : digN b = b.size
  · rw [h]; exact digits_ok1 q b hb h
  · exact digits_ok2 q b hb (by omega)

end Go.Proofs.YtiabpbememhdeaaDoor

/-
  Numbers as decimal texts, walked, 12: an exponent's digits.
-/
set_option linter.unusedVariables false
set_option linter.unusedSimpArgs false
namespace Go.Proofs.YtiabpbememhdeaaDoor
open Go.Ai Go.RowKit
set_option maxRecDepth 100000

def fCut : FuncId := 35
noncomputable def cutL : Code := loopAt Tryd.prog fCut 0

def eStep (e c : Int) : Int := if 9999 < IntKind.i64.wrap (IntKind.i64.wrap (10 * e) + IntKind.i64.wrap (IntKind.u8.wrap (c - 48))) then 9999 else IntKind.i64.wrap (IntKind.i64.wrap (10 * e) + IntKind.i64.wrap (IntKind.u8.wrap (c - 48)))
def eGo (r : ByteArray) : Nat → Int
  | 0 => 0
  | j + 1 => eStep (eGo r j) (byt r j)

abbrev cutLive (f : Nat) (sg : Int) (r : ByteArray) (t2 : Value) (j : Nat) : List (Nat × Value) := [(2, t2), (5, .pointer (some ⟨f, 0, some 0⟩)), (6, .string r), (8, .int .i64 sg), (9, .int .i64 (eGo r j)), (88, .int .i64 (r.size : Int)), (89, .int .i64 (j : Int))]

theorem cutRound (f : Nat) (sg : Int) (r : ByteArray) (t2 : Value) (j : Nat) (m : Nat) (d : List Deferred) (rest : Nat → Value) (s : St) (h1 : (j : Int) < (r.size : Int)) (h2 : 0 ≤ (j : Int)) (h3 : j < r.size) (h4 : IntKind.i64.wrap ((j : Int) + 1) = ((j + 1 : Nat) : Int)) :
    ∃ rest' s', evalCode EL (callN EL NN m) NN cutL { tmps := tmpsOf 110 (cutLive f sg r t2 j) rest, defers := d } s = some (.normal, { tmps := tmpsOf 110 (cutLive f sg r t2 (j + 1)) rest', defers := d }, s') ∧ After s s' [] [] := by
  exact round_by (holds_nil s) [.yes 0 h1, .yes 1 h3, .int 6 h4, .m 0 0] [] (by kernel_rfl)
theorem cutStop (f : Nat) (sg : Int) (r : ByteArray) (t2 : Value) (j : Nat) (m : Nat) (d : List Deferred) (rest : Nat → Value) (s : St) (h1 : ¬ (j : Int) < (r.size : Int)) :
    ∃ rest' s', evalCode EL (callN EL NN m) NN cutL { tmps := tmpsOf 110 (cutLive f sg r t2 j) rest, defers := d } s = some (.exit 0, { tmps := tmpsOf 110 [(2, t2), (5, .pointer (some ⟨f, 0, some 0⟩)), (8, .int .i64 sg), (9, .int .i64 (eGo r j))] rest', defers := d }, s') ∧ After s s' [] [] := by
  exact round_by (holds_nil s) [.no 0 h1, .m 0 0] [] (by kernel_rfl)

theorem cut_loop (g : Nat) (dd : ByteArray) (x : Int) (sg : Int) (r : ByteArray) (hr : r.size < 1000000) (m : Nat) (d : List Deferred) :
    Loops2 (numeral dd x) (.row [.string ⟨#[]⟩, .int .i64 0] 2 0 0 []) (evalCode EL (callN EL NN m) NN (.loop cutL)) 110 d (fun f t => cutLive f sg r (.pointer (some ⟨t, 0, some 0⟩)) 0) (.exit 0)
      (fun f t _ => [(2, .pointer (some ⟨t, 0, some 0⟩)), (5, .pointer (some ⟨f, 0, some 0⟩)), (8, .int .i64 sg), (9, .int .i64 (eGo r r.size))]) (fun f t _ => [(f, numeral dd x), (t, .row [.string ⟨#[]⟩, .int .i64 0] 2 0 0 [])]) := by
  intro f t rest s hov
  obtain ⟨nk, rest', s', h1, h2⟩ := loop_pi (E := EL) (call := callN EL NN m) (N := NN) (c := cutL) (m := 110) (d := d) (s₀ := s) (old := []) (fun j => cutLive f sg r (.pointer (some ⟨t, 0, some 0⟩)) j) (fun _ => []) (fun j => r.size - j) (fun j => j ≤ r.size) (x := .exit 0) (by simp) (live' := fun _ => [(2, .pointer (some ⟨t, 0, some 0⟩)), (5, .pointer (some ⟨f, 0, some 0⟩)), (8, .int .i64 sg), (9, .int .i64 (eGo r r.size))]) (now' := fun _ => []) (fun j hj rest s' hA => by
    by_cases hlt : j < r.size
    · left
      obtain ⟨rest', s'', g1, g2⟩ := cutRound f sg r (.pointer (some ⟨t, 0, some 0⟩)) j m d rest s' (by omega) (by omega) hlt (by rw [wrap_i64 (by omega) (by omega)]; omega)
      exact ⟨j + 1, rest', s'', by omega, by omega, g1, g2⟩
    · right
      obtain rfl : j = r.size := by omega
      exact ⟨[], cutStop f sg r (.pointer (some ⟨t, 0, some 0⟩)) r.size m d rest s' (by omega)⟩) 0 (Nat.zero_le _) (by show r.size - 0 < 1048576; omega) (holds_nil s) rest
  refine ⟨nk, rest', s', h1, ?_⟩
  have := hov.step h2 (is := []) rfl
  exact this.sub (by simp [without])

end Go.Proofs.YtiabpbememhdeaaDoor

/-
  Numbers as decimal texts, walked, 13: 'cut' comes to an end.
-/
set_option linter.unusedVariables false
set_option linter.unusedSimpArgs false
namespace Go.Proofs.YtiabpbememhdeaaDoor
open Go.Ai Go.RowKit
set_option maxRecDepth 100000

abbrev CutIs (q : Nat) (b d : ByteArray) (x : Int) (ok : Bool) : Prop := Calls0 (callN EL NN (q + 2) fCut [.string b]) (fun _ => .ok (.tuple #[.agg #[.string d, .int .i64 x], .bool ok])) (fun _ => [])

abbrev tl (r : ByteArray) : ByteArray := r.extract 1 r.size
noncomputable abbrev cutP (k : Nat) : Code := pieceAt Tryd.prog fCut k
abbrev noNum : AObj := .row [.string ⟨#[]⟩, .int .i64 0] 2 0 0 []

theorem ext_size (b : ByteArray) {l h : Nat} (hh : h ≤ b.size) : (b.extract l h).size = h - l := by
  rw [ByteArray.size_extract]
  omega
theorem tl_size (b : ByteArray) : (tl b).size = b.size - 1 := ext_size b (Nat.le_refl _)

theorem pos_of_ne {b : ByteArray} (h : (b.data.toList == []) = false) : 0 < b.size := by
  rcases Nat.eq_zero_or_pos b.size with h0 | h0
  · exfalso
    have h1 : b.data.toList.length = 0 := h0
    rw [List.length_eq_zero_iff] at h1
    rw [h1] at h
    simp at h
  · exact h0

theorem pos_of_prefix {b : ByteArray} {c : UInt8} (h : Lib.hasPrefix b.data.toList [c] = true) : 1 ≤ b.size := by
  rcases Nat.eq_zero_or_pos b.size with h0 | h0
  · exfalso
    have h1 : b.data.toList.length = 0 := h0
    rw [List.length_eq_zero_iff] at h1
    rw [h1] at h
    simp [Lib.hasPrefix] at h
  · exact h0

/-- What a tail of it comes to. -/
abbrev CutEnds (q : Nat) (k : Nat) (dd : ByteArray) (x : Int) (live : Nat → Nat → List (Nat × Value)) (d' : ByteArray) (x' : Int) (ok : Bool) : Prop :=
  Loops2 (numeral dd x) noNum (evalCode EL (callN EL NN (q + 1)) NN (cutP k)) 110 [] live .ret (fun f t _ => [(2, .pointer (some ⟨t, 0, some 0⟩)), (3, .bool ok)]) (fun f t _ => [(t, numeral d' x')])

theorem cut_20 (q : Nat) (dd : ByteArray) (x sg : Int) (r : ByteArray) (hr : r.size ≤ 500) :
    ∃ x' ok, CutEnds q 31 dd x (fun f t => [(2, .pointer (some ⟨t, 0, some 0⟩)), (5, .pointer (some ⟨f, 0, some 0⟩)), (6, .string r), (8, .int .i64 sg)]) dd x' ok := by
  have l1 := (digits_ok q r (by omega)).ev
  have l2 := (cut_loop 0 dd x sg r (by omega) (q + 1) []).ev
  cases h1 : (r.data.toList == [])
  · cases h2 : (!((digN r : Int) == (r.size : Int)))
    · refine ⟨IntKind.i64.wrap (x + IntKind.i64.wrap (sg * eGo r r.size)), true, ?_⟩
      intro f t rest s hov
      exact roundkj_by hov [.is 0 h1, .is 0 h1, .call 0 0 [] l1, .is 0 h1, .is 0 h1, .is 0 h1, .is 0 h1, .is 0 h2, .loop 4 0 [0, 1] l2, .m 0 0, .m 0 0, .m 0 0, .m 0 0, .m 0 1, .m 0 1, .m 0 0] [] [1] (by kernel_rfl) (by kernel_rfl)
    · refine ⟨x, false, ?_⟩
      intro f t rest s hov
      exact roundkj_by hov [.is 0 h1, .is 0 h1, .call 0 0 [] l1, .is 0 h1, .is 0 h1, .is 0 h1, .is 0 h1, .is 0 h2, .m 0 0, .m 0 1, .m 0 1, .m 0 0] [] [1] (by kernel_rfl) (by kernel_rfl)
  · refine ⟨x, false, ?_⟩
    intro f t rest s hov
    exact roundkj_by hov [.is 0 h1, .is 0 h1, .is 0 h1, .is 0 h1, .is 0 h1, .is 0 h1, .m 0 0, .m 0 1, .m 0 1, .m 0 0] [] [1] (by kernel_rfl) (by kernel_rfl)

theorem cut_14 (q : Nat) (dd : ByteArray) (x : Int) (r : ByteArray) (hr : r.size ≤ 500) (h0 : 0 < r.size) :
    ∃ x' ok, CutEnds q 23 dd x (fun f t => [(2, .pointer (some ⟨t, 0, some 0⟩)), (5, .pointer (some ⟨f, 0, some 0⟩)), (6, .string r)]) dd x' ok := by
  have e1 : (r.extract 1 r.size).size = r.size - 1 := tl_size r
  have e2 : ((r.extract 1 r.size).extract 1 (r.extract 1 r.size).size).size = (r.extract 1 r.size).size - 1 := tl_size _
  cases h1 : (!((r.extract 1 r.size).data.toList == []))
  · obtain ⟨x', ok, l⟩ := cut_20 q dd x 1 (r.extract 1 r.size) (by omega)
    have l1 := l.ev
    refine ⟨x', ok, ?_⟩
    intro f t rest s hov
    exact roundkj_by hov [.yes 1 h0, .yes 0 (show ByteArray.size r ≤ ByteArray.size r from by omega), .is 0 h1, .is 0 h1, .is 0 h1, .is 0 h1, .is 0 h1, .is 0 h1, .loop 1 0 [0, 1] l1, .m 0 0] [] [0] (by kernel_rfl) (by kernel_rfl)
  · have h2 := pos_of_ne (show ((r.extract 1 r.size).data.toList == []) = false by simpa using h1)
    cases h3 : byt (r.extract 1 r.size) 0 == 43
    · cases h4 : byt (r.extract 1 r.size) 0 == 45
      · obtain ⟨x', ok, l⟩ := cut_20 q dd x 1 (r.extract 1 r.size) (by omega)
        have l1 := l.ev
        refine ⟨x', ok, ?_⟩
        intro f t rest s hov
        exact roundkj_by hov [.yes 1 h0, .yes 0 (show ByteArray.size r ≤ ByteArray.size r from by omega), .is 0 h1, .is 0 h1, .yes 1 h2, .is 0 h1, .is 0 h1, .is 0 h3, .is 0 h3, .yes 1 h2, .is 0 h3, .is 0 h1, .is 0 h3, .is 0 h1, .is 0 h4, .loop 0 0 [0, 1] l1, .m 0 0] [] [0] (by kernel_rfl) (by kernel_rfl)
      · obtain ⟨x', ok, l⟩ := cut_20 q dd x (-1) ((r.extract 1 r.size).extract 1 (r.extract 1 r.size).size) (by omega)
        have l1 := l.ev
        refine ⟨x', ok, ?_⟩
        intro f t rest s hov
        exact roundkj_by hov [.yes 1 h0, .yes 0 (show ByteArray.size r ≤ ByteArray.size r from by omega), .is 0 h1, .is 0 h1, .yes 1 h2, .is 0 h1, .is 0 h1, .is 0 h3, .is 0 h3, .yes 1 h2, .is 0 h3, .is 0 h1, .is 0 h3, .is 0 h1, .is 0 h4, .yes 1 h2, .is 0 h4, .yes 1 (show (1 : Nat) ≤ ByteArray.size (ByteArray.extract r (1 : Nat) (ByteArray.size r)) from by omega), .yes 0 (show ByteArray.size (ByteArray.extract r (1 : Nat) (ByteArray.size r)) ≤   ByteArray.size (ByteArray.extract r (1 : Nat) (ByteArray.size r)) from by omega), .loop 0 0 [0, 1] l1, .m 0 0] [] [0] (by kernel_rfl) (by kernel_rfl)
    · cases h4 : byt (r.extract 1 r.size) 0 == 45
      · obtain ⟨x', ok, l⟩ := cut_20 q dd x 1 ((r.extract 1 r.size).extract 1 (r.extract 1 r.size).size) (by omega)
        have l1 := l.ev
        refine ⟨x', ok, ?_⟩
        intro f t rest s hov
        exact roundkj_by hov [.yes 1 h0, .yes 0 (show ByteArray.size r ≤ ByteArray.size r from by omega), .is 0 h1, .is 0 h1, .yes 1 h2, .is 0 h1, .is 0 h1, .is 0 h3, .is 0 h3, .is 0 h3, .is 0 h1, .is 0 h3, .is 0 h1, .yes 2 h2, .is 0 h4, .yes 1 (show (1 : Nat) ≤ ByteArray.size (ByteArray.extract r (1 : Nat) (ByteArray.size r)) from by omega), .yes 0 (show ByteArray.size (ByteArray.extract r (1 : Nat) (ByteArray.size r)) ≤   ByteArray.size (ByteArray.extract r (1 : Nat) (ByteArray.size r)) from by omega), .loop 0 0 [0, 1] l1, .m 0 0] [] [0] (by kernel_rfl) (by kernel_rfl)
      · exfalso
        simp only [beq_iff_eq] at h3 h4
        omega

theorem cut_10 (q : Nat) (dd : ByteArray) (x : Int) (r : ByteArray) (hr : r.size ≤ 500) :
    ∃ x' ok, CutEnds q 15 dd x (fun f t => [(2, .pointer (some ⟨t, 0, some 0⟩)), (5, .pointer (some ⟨f, 0, some 0⟩)), (6, .string r)]) dd x' ok := by
  cases h1 : (r.data.toList == [])
  · have h2 := pos_of_ne h1
    obtain ⟨x', ok, l⟩ := cut_14 q dd x r hr h2
    have l1 := l.ev
    cases h3 : (!(byt r 0 == 101))
    · refine ⟨x', ok, ?_⟩
      intro f t rest s hov
      exact roundkj_by hov [.is 0 h1, .yes 1 h2, .is 0 h3, .is 0 h3, .is 0 h3, .is 0 h3, .loop 1 0 [0, 1] l1, .m 0 0] [] [0] (by kernel_rfl) (by kernel_rfl)
    · cases h4 : (!(byt r 0 == 69))
      · refine ⟨x', ok, ?_⟩
        intro f t rest s hov
        exact roundkj_by hov [.is 0 h1, .yes 1 h2, .is 0 h3, .is 0 h3, .yes 1 h2, .is 0 h3, .is 0 h3, .is 0 h4, .loop 0 0 [0, 1] l1, .m 0 0] [] [0] (by kernel_rfl) (by kernel_rfl)
      · refine ⟨x, false, ?_⟩
        intro f t rest s hov
        exact roundkj_by hov [.is 0 h1, .yes 1 h2, .is 0 h3, .is 0 h3, .yes 1 h2, .is 0 h3, .is 0 h3, .is 0 h4, .m 0 0, .m 0 1, .m 0 1, .m 0 0] [] [1] (by kernel_rfl) (by kernel_rfl)
  · refine ⟨x, true, ?_⟩
    intro f t rest s hov
    exact roundkj_by hov [.is 0 h1, .m 0 0, .m 0 1, .m 0 1, .m 0 0] [] [1] (by kernel_rfl) (by kernel_rfl)

theorem cut_5 (q : Nat) (dd : ByteArray) (r : ByteArray) (hd : dd.size ≤ 500) (hr : r.size ≤ 500) :
    ∃ d' x' ok, d'.size ≤ dd.size + r.size ∧ CutEnds q 7 dd 0 (fun f t => [(2, .pointer (some ⟨t, 0, some 0⟩)), (5, .pointer (some ⟨f, 0, some 0⟩)), (6, .string r)]) d' x' ok := by
  cases h1 : Lib.hasPrefix r.data.toList [46]
  · obtain ⟨x', ok, l⟩ := cut_10 q dd 0 r hr
    have l1 := l.ev
    refine ⟨dd, x', ok, by omega, ?_⟩
    intro f t rest s hov
    exact roundkj_by hov [.is 1 h1, .loop 0 0 [0, 1] l1, .m 0 0] [] [0] (by kernel_rfl) (by kernel_rfl)
  · have h2 := pos_of_prefix h1
    have e1 : (r.extract 1 r.size).size = r.size - 1 := tl_size r
    have l1 := (digits_ok q (r.extract 1 r.size) (by omega)).ev
    have h3 := digN_le (r.extract 1 r.size)
    cases h4 : ((digN (r.extract 1 r.size) : Int) == 0)
    · have e2 : (r.extract 1 (1 + digN (r.extract 1 r.size))).size = digN (r.extract 1 r.size) := by rw [ext_size _ (by omega)]; omega
      have e3 : (r.extract (1 + digN (r.extract 1 r.size)) r.size).size = r.size - (1 + digN (r.extract 1 r.size)) := ext_size _ (Nat.le_refl _)
      have e4 : (dd ++ r.extract 1 (1 + digN (r.extract 1 r.size))).size = dd.size + digN (r.extract 1 r.size) := by rw [ByteArray.size_append, e2]
      obtain ⟨x', ok, l⟩ := cut_10 q (dd ++ r.extract 1 (1 + digN (r.extract 1 r.size))) (0 - (digN (r.extract 1 r.size) : Int)) (r.extract (1 + digN (r.extract 1 r.size)) r.size) (by omega)
      have l2 := l.ev
      refine ⟨_, x', ok, by rw [e4]; omega, ?_⟩
      intro f t rest s hov
      exact roundkj_by hov [.is 1 h1, .yes 1 h2, .yes 0 (show ByteArray.size r ≤ ByteArray.size r from by omega), .call 0 0 [] l1, .is 0 h4, .m 0 0, .int 1 (wrap_i64 (n := (1 : Int) + (↑(digN (ByteArray.extract r (1 : Nat) (ByteArray.size r))) : Int)) (by omega) (by omega)), .yes 2 (show (1 : Nat) ≤ (1 : Nat) + digN (ByteArray.extract r (1 : Nat) (ByteArray.size r)) from by omega), .yes 0 (show (1 : Nat) + digN (ByteArray.extract r (1 : Nat) (ByteArray.size r)) ≤ ByteArray.size r from by omega), .yes 0 (show ByteArray.size dd +     ByteArray.size       (ByteArray.extract r (1 : Nat) ((1 : Nat) + digN (ByteArray.extract r (1 : Nat) (ByteArray.size r)))) ≤   (4611686018427387904 : Nat) from by omega), .int 1 (wrap_i64 (n := (0 : Int) - (↑(digN (ByteArray.extract r (1 : Nat) (ByteArray.size r))) : Int)) (by omega) (by omega)), .int 1 (wrap_i64 (n := (1 : Int) + (↑(digN (ByteArray.extract r (1 : Nat) (ByteArray.size r))) : Int)) (by omega) (by omega)), .yes 1 (show (1 : Nat) + digN (ByteArray.extract r (1 : Nat) (ByteArray.size r)) ≤ ByteArray.size r from by omega), .yes 0 (show ByteArray.size r ≤ ByteArray.size r from by omega), .m 0 0, .m 0 0, .m 0 0, .m 0 0, .m 2 0, .yes 3 (show (1 : Nat) ≤ (1 : Nat) + digN (ByteArray.extract r (1 : Nat) (ByteArray.size r)) from by omega), .yes 0 (show (1 : Nat) + digN (ByteArray.extract r (1 : Nat) (ByteArray.size r)) ≤ ByteArray.size r from by omega), .yes 1 (show (1 : Nat) + digN (ByteArray.extract r (1 : Nat) (ByteArray.size r)) ≤ ByteArray.size r from by omega), .yes 0 (show ByteArray.size r ≤ ByteArray.size r from by omega), .yes 1 (show (1 : Nat) + digN (ByteArray.extract r (1 : Nat) (ByteArray.size r)) ≤ ByteArray.size r from by omega), .yes 0 (show ByteArray.size r ≤ ByteArray.size r from by omega), .yes 1 (show (1 : Nat) + digN (ByteArray.extract r (1 : Nat) (ByteArray.size r)) ≤ ByteArray.size r from by omega), .yes 0 (show ByteArray.size r ≤ ByteArray.size r from by omega), .loop 0 0 [0, 1] l2, .m 0 0] [] [0] (by kernel_rfl) (by kernel_rfl)
    · refine ⟨dd, 0, false, by omega, ?_⟩
      intro f t rest s hov
      exact roundkj_by hov [.is 1 h1, .yes 1 h2, .yes 0 (show ByteArray.size r ≤ ByteArray.size r from by omega), .call 0 0 [] l1, .is 0 h4, .m 0 0, .m 0 1, .m 0 1, .m 0 0] [] [1] (by kernel_rfl) (by kernel_rfl)

theorem cut_total (q : Nat) (b : ByteArray) (hb : b.size ≤ 400) : ∃ d x ok, d.size ≤ 500 ∧ CutIs q b d x ok := by
  have l1 := (digits_ok q b (by omega)).ev
  have h1 := digN_le b
  have e1 : (b.extract 0 (digN b)).size = digN b := by rw [ext_size _ h1]; omega
  have e2 : (b.extract (digN b) b.size).size = b.size - digN b := ext_size _ (Nat.le_refl _)
  cases h4 : ((digN b : Int) == 0)
  · obtain ⟨d', x', ok, h5, l⟩ := cut_5 q (b.extract 0 (digN b)) (b.extract (digN b) b.size) (by omega) (by omega)
    have l2 := l.ev
    refine ⟨d', x', ok, by omega, ?_⟩
    intro s
    exact fnkj_by (holds_nil s) [.m 0 0, .call 0 0 [] l1, .yes 2 h1, .yes 1 h1, .yes 0 (show ByteArray.size b ≤ ByteArray.size b from by omega), .m 0 0, .m 0 1, .m 0 1, .yes 2 h1, .yes 1 h1, .yes 0 (show ByteArray.size b ≤ ByteArray.size b from by omega), .yes 1 h1, .yes 0 (show ByteArray.size b ≤ ByteArray.size b from by omega), .is 0 h4, .loop 0 0 [1, 0] l2, .m 0 0, .m 0 0] [] [] (by kernel_rfl) (by kernel_rfl)
  · refine ⟨b.extract 0 (digN b), 0, false, by omega, ?_⟩
    intro s
    exact fnkj_by (holds_nil s) [.m 0 0, .call 0 0 [] l1, .yes 2 h1, .yes 1 h1, .yes 0 (show ByteArray.size b ≤ ByteArray.size b from by omega), .m 0 0, .m 0 1, .m 0 1, .yes 2 h1, .yes 1 h1, .yes 0 (show ByteArray.size b ≤ ByteArray.size b from by omega), .yes 1 h1, .yes 0 (show ByteArray.size b ≤ ByteArray.size b from by omega), .is 0 h4, .m 0 1, .m 0 0, .m 0 0, .m 0 0, .m 0 0] [] [] (by kernel_rfl) (by kernel_rfl)

end Go.Proofs.YtiabpbememhdeaaDoor

/-
  Numbers as decimal texts, walked, 14: 'Parse' comes to an end.
-/
set_option linter.unusedVariables false
set_option linter.unusedSimpArgs false
namespace Go.Proofs.YtiabpbememhdeaaDoor
open Go.Ai Go.RowKit
set_option maxRecDepth 100000

def fParse : FuncId := 32

/-- A whole number, told by two natural ones. -/
def twoI (nk : List Nat) : Int := (nk.getD 0 0 : Int) - (nk.getD 1 0 : Int)

theorem nearest_call (q : Nat) (b : ByteArray) (x : Int) (hb : b.size ≤ 500) : Calls0 (callN EL NN (q + 5) fNearest [.agg #[.string b, .int .i64 x]]) (fun nk => .ok (.int .u64 (twoI nk))) (fun _ => []) := by
  intro s
  obtain ⟨r, s', h1, h2, h3⟩ := nearest_ok q b x hb s
  obtain ⟨v, rfl⟩ := isInt_ok h2
  refine ⟨[v.toNat, (-v).toNat], s', ?_, h3⟩
  have : twoI [v.toNat, (-v).toNat] = v := by
    show ((v.toNat : Nat) : Int) - (((-v).toNat : Nat) : Int) = v
    omega
  show callN EL NN (q + 5) fNearest [.agg #[.string b, .int .i64 x]] s = some (.ok (.int .u64 (twoI [v.toNat, (-v).toNat])), s')
  rw [this, h1]

/-- A number and an error are answered. -/
def isPair : Ret → Bool
  | .ok (.tuple ⟨[.int .u64 _, .int .i64 _]⟩) => true
  | _ => false

theorem isPair_ok {x : Ret} (h : isPair x = true) : ∃ v e, x = .ok (.tuple #[.int .u64 v, .int .i64 e]) := by
  unfold isPair at h
  split at h
  · exact ⟨_, _, rfl⟩
  · simp at h

abbrev ParseEnds (q : Nat) (b : ByteArray) : Prop := ∀ s, ∃ r s', callN EL NN (q + 6) fParse [.string b] s = some (r, s') ∧ isPair r = true ∧ After s s' [] []

theorem parse_long (q : Nat) (b : ByteArray) (h1 : (b.size : Int) > 400) : ParseEnds q b := by
  intro s
  exact fnvj_by (holds_nil s) [.yes 0 h1, .m 0 0] [] _ (by kernel_rfl) (by kernel_rfl)
theorem parse_bad (q : Nat) (b d : ByteArray) (x : Int) (h1 : ¬ (b.size : Int) > 400) (hc : CutIs (q + 3) b d x false) : ParseEnds q b := by
  intro s
  have l1 := hc.ev
  exact fnvj_by (holds_nil s) [.no 0 h1, .call 0 0 [] l1, .m 0 0, .m 0 0, .m 0 0, .m 0 0] [] _ (by kernel_rfl) (by kernel_rfl)
theorem parse_good (q : Nat) (b d : ByteArray) (x : Int) (h1 : ¬ (b.size : Int) > 400) (hc : CutIs (q + 3) b d x true) (hd : d.size ≤ 500) : ParseEnds q b := by
  intro s
  have l1 := hc.ev
  have l2 := (nearest_call q d x hd).ev
  exact fnvj_by (holds_nil s) [.no 0 h1, .call 0 0 [] l1, .m 0 0, .m 0 0, .m 0 0, .m 0 0, .call 0 0 [] l2, .m 0 0] [] _ (by kernel_rfl) (by kernel_rfl)

theorem parse_ok (q : Nat) (b : ByteArray) : ParseEnds q b := by
  by_cases h1 : (b.size : Int) > 400
  · exact parse_long q b h1
  · obtain ⟨d, x, ok, h2, h3⟩ := cut_total (q + 3) b (by omega)
    cases ok
    · exact parse_bad q b d x h1 h3
    · exact parse_good q b d x h1 h3 h2

/-- What dec.Parse answers. -/
noncomputable def parseF (b : ByteArray) : Int × Int := by
  classical
  exact if h : ∃ v : Int × Int, ∃ s', callN EL NN 6 fParse [.string b] .empty = some (.ok (.tuple #[.int .u64 v.1, .int .i64 v.2]), s') then Classical.choose h else (0, 0)

theorem parseF_ok (b : ByteArray) : ∃ s', callN EL NN 6 fParse [.string b] .empty = some (.ok (.tuple #[.int .u64 (parseF b).1, .int .i64 (parseF b).2]), s') := by
  have h : ∃ v : Int × Int, ∃ s', callN EL NN 6 fParse [.string b] .empty = some (.ok (.tuple #[.int .u64 v.1, .int .i64 v.2]), s') := by
    obtain ⟨x, s', h1, h2, _⟩ := parse_ok 0 b .empty
    obtain ⟨v, e, rfl⟩ := isPair_ok h2
    exact ⟨(v, e), s', h1⟩
  unfold parseF
  rw [dif_pos h]
  exact Classical.choose_spec h

end Go.Proofs.YtiabpbememhdeaaDoor

/-
  The lexer's seat: the small living call.
-/
set_option linter.unusedVariables false
namespace Go.Proofs.YtiabpbememhdeaaDoor
open Go.Ai Go.RowKit

set_option maxRecDepth 100000 in
theorem lives_run : ∃ s', callN EL0 1000 60 8 [] .empty = some (.ok (.bool true), s') := by
  obtain ⟨x, s', h1, h2⟩ := call_along (E := EL0) (N := 1000) (n := 60) (g := 8) (args := []) (s := .empty) [] (fun r => r.1) (r := .ok (.bool true)) (by kernel_rfl)
  exact ⟨s', by rw [h1]; simp only at h2; rw [h2]⟩

end Go.Proofs.YtiabpbememhdeaaDoor

/-
  The lexer's seat: what functions of one byte answer.
-/
set_option linter.unusedVariables false
set_option linter.unusedSimpArgs false
set_option linter.unusedSimpArgs false
namespace Go.Proofs.YtiabpbememhdeaaDoor
open Go.Ai Go.RowKit

/-- What a function answers, whatever memory. -/
abbrev Answers (E : Ai.Env) (n : Nat) (g : FuncId) (args : List Value) (v : Value) : Prop := ∀ s, ∃ s', callN E 1000 n g args s = some (.ok v, s') ∧ After s s' [] []

set_option maxRecDepth 100000
theorem digit1 (c : Int) (h1 : 48 ≤ c) : Answers EL (4 + 1) 26 [.int .u8 c] (.bool (decide (c ≤ 57))) := by
  intro s
  exact fn_by (holds_nil s) [.yes 0 h1, .yes 0 h1, .yes 0 h1, .m 0 0] [] (by kernel_rfl)
theorem digit2 (c : Int) (h1 : ¬ 48 ≤ c) : Answers EL (4 + 1) 26 [.int .u8 c] (.bool false) := by
  intro s
  exact fn_by (holds_nil s) [.no 0 h1, .no 0 h1, .no 0 h1, .m 0 0] [] (by kernel_rfl)
theorem letter1 (c : Int) (h1 : 97 ≤ c) (h2 : c ≤ 122) : Answers EL (4 + 1) 24 [.int .u8 c] (.bool true) := by
  intro s
  exact fn_by (holds_nil s) [.yes 0 h1, .yes 0 h1, .yes 0 h1, .yes 0 h2, .yes 0 h2, .yes 0 h2, .yes 0 h2, .yes 0 h2, .m 0 0] [] (by kernel_rfl)
theorem letter2 (c : Int) (h1 : 97 ≤ c) (h2 : ¬ c ≤ 122) (h3 : 65 ≤ c) (h4 : ¬ c ≤ 90) : Answers EL (4 + 1) 24 [.int .u8 c] (.bool (c == 95)) := by
  intro s
  exact fn_by (holds_nil s) [.yes 0 h1, .yes 0 h1, .yes 0 h1, .no 0 h2, .no 0 h2, .no 0 h2, .yes 0 h3, .yes 0 h3, .no 0 h2, .yes 0 h3, .no 0 h2, .no 0 h4, .no 0 h4, .no 0 h4, .m 0 0] [] (by kernel_rfl)
theorem letter3 (c : Int) (h1 : ¬ 97 ≤ c) (h3 : 65 ≤ c) (h4 : c ≤ 90) : Answers EL (4 + 1) 24 [.int .u8 c] (.bool true) := by
  intro s
  exact fn_by (holds_nil s) [.no 0 h1, .no 0 h1, .no 0 h1, .yes 3 h3, .yes 0 h3, .yes 1 h3, .yes 1 h4, .yes 0 h4, .yes 0 h4, .m 0 0] [] (by kernel_rfl)
theorem letter4 (c : Int) (h1 : ¬ 97 ≤ c) (h3 : 65 ≤ c) (h4 : ¬ c ≤ 90) : Answers EL (4 + 1) 24 [.int .u8 c] (.bool (c == 95)) := by
  intro s
  exact fn_by (holds_nil s) [.no 0 h1, .no 0 h1, .no 0 h1, .yes 3 h3, .yes 0 h3, .yes 1 h3, .no 1 h4, .no 0 h4, .no 0 h4, .m 0 0] [] (by kernel_rfl)
theorem letter5 (c : Int) (h1 : ¬ 97 ≤ c) (h3 : ¬ 65 ≤ c) : Answers EL (4 + 1) 24 [.int .u8 c] (.bool (c == 95)) := by
  intro s
  exact fn_by (holds_nil s) [.no 0 h1, .no 0 h1, .no 0 h1, .no 3 h3, .no 0 h3, .no 1 h3, .m 0 0] [] (by kernel_rfl)
theorem notLine1 (c : Int) : Answers EL (4 + 1) 23 [.int .u8 c] (.bool (!(c == 10))) := by
  intro s
  exact fn_by (holds_nil s) [.m 0 0] [] (by kernel_rfl)
theorem blank1 (c : Int) (h1 : (c == 32) = true) : Answers EL (4 + 1) 21 [.int .u8 c] (.bool true) := by
  intro s
  exact fn_by (holds_nil s) [.is 0 h1, .is 0 h1, .is 0 h1, .m 0 0] [] (by kernel_rfl)
theorem blank2 (c : Int) (h1 : (c == 32) = false) (h2 : (c == 9) = true) : Answers EL (4 + 1) 21 [.int .u8 c] (.bool true) := by
  intro s
  exact fn_by (holds_nil s) [.is 0 h1, .is 0 h1, .is 0 h1, .is 0 h2, .is 0 h2, .is 0 h2, .m 0 0] [] (by kernel_rfl)
theorem blank3 (c : Int) (h1 : (c == 32) = false) (h2 : (c == 9) = false) (h3 : (c == 10) = true) : Answers EL (4 + 1) 21 [.int .u8 c] (.bool true) := by
  intro s
  exact fn_by (holds_nil s) [.is 0 h1, .is 0 h1, .is 0 h1, .is 0 h2, .is 0 h2, .is 0 h2, .is 0 h3, .is 0 h3, .is 0 h3, .m 0 0] [] (by kernel_rfl)
theorem blank4 (c : Int) (h1 : (c == 32) = false) (h2 : (c == 9) = false) (h3 : (c == 10) = false) : Answers EL (4 + 1) 21 [.int .u8 c] (.bool (c == 13)) := by
  intro s
  exact fn_by (holds_nil s) [.is 0 h1, .is 0 h1, .is 0 h1, .is 0 h2, .is 0 h2, .is 0 h2, .is 0 h3, .is 0 h3, .is 0 h3, .m 0 0] [] (by kernel_rfl)
theorem escaped1 (c : Int) (h1 : (c == 110) = true) : Answers EL (4 + 1) 33 [.int .u8 c] (.int .u8 10) := by
  intro s
  exact fn_by (holds_nil s) [.is 0 h1, .m 0 0] [] (by kernel_rfl)
theorem escaped2 (c : Int) (h1 : (c == 110) = false) (h2 : (c == 116) = true) : Answers EL (4 + 1) 33 [.int .u8 c] (.int .u8 9) := by
  intro s
  exact fn_by (holds_nil s) [.is 0 h1, .is 0 h2, .m 0 0] [] (by kernel_rfl)
theorem escaped3 (c : Int) (h1 : (c == 110) = false) (h2 : (c == 116) = false) (h3 : (c == 34) = true) : Answers EL (4 + 1) 33 [.int .u8 c] (.int .u8 c) := by
  intro s
  exact fn_by (holds_nil s) [.is 0 h1, .is 0 h2, .is 0 h3, .is 0 h3, .m 0 0] [] (by kernel_rfl)
theorem escaped4 (c : Int) (h1 : (c == 110) = false) (h2 : (c == 116) = false) (h3 : (c == 34) = false) (h4 : (c == 92) = true) : Answers EL (4 + 1) 33 [.int .u8 c] (.int .u8 c) := by
  intro s
  exact fn_by (holds_nil s) [.is 0 h1, .is 0 h2, .is 0 h3, .is 0 h4, .m 0 0] [] (by kernel_rfl)
theorem escaped5 (c : Int) (h1 : (c == 110) = false) (h2 : (c == 116) = false) (h3 : (c == 34) = false) (h4 : (c == 92) = false) : Answers EL (4 + 1) 33 [.int .u8 c] (.int .u8 0) := by
  intro s
  exact fn_by (holds_nil s) [.is 0 h1, .is 0 h2, .is 0 h3, .is 0 h4, .m 0 0] [] (by kernel_rfl)

end Go.Proofs.YtiabpbememhdeaaDoor

/-
  The lexer's seat, 2: its known calls hold, the list of signs from what a row lays.
-/
set_option linter.unusedVariables false
set_option linter.unusedSimpArgs false
namespace Go.Proofs.YtiabpbememhdeaaDoor
open Go.Ai Go.RowKit

theorem enter19 (s t : ByteArray) (w : World) : (callFunc 19 #[.string s, .string t]).run Tryd.prog w = .ok (.enter 19 #[.string s, .string t]) w := by
  unfold callFunc
  rfl

theorem enter22 (s t : ByteArray) (w : World) : (callFunc 22 #[.string s, .string t]).run Tryd.prog w = .ok (.enter 22 #[.string s, .string t]) w := by
  unfold callFunc
  rfl

theorem enter53 (x : Int) (w : World) : (callFunc 53 #[.int .u32 x]).run Tryd.prog w = .ok (.enter 53 #[.int .u32 x]) w := by
  unfold callFunc
  rfl

theorem enter51 (x : Int) (w : World) : (callFunc 51 #[.int .u64 x]).run Tryd.prog w = .ok (.enter 51 #[.int .u64 x]) w := by
  unfold callFunc
  rfl

theorem knownS_ok {W : World} (hsh : W.ShapedOpen Tryd.prog) (hB : 2 ≤ W.heap.size) (g : FuncId) (F : List Value → Option (Bool × Value)) (args : List Value) (v : Value) (hg : knownF g = some F) (hF : F args = some (true, v)) :
    flatL args = true ∧ flat v = true ∧ ∀ w, (∀ b, b < W.heap.size → w.heap[b]? = W.heap[b]?) → W.heap.size ≤ w.heap.size → KnownOk Tryd.prog g args v w := by
  have fin : ∀ (w : World) (b c : Bool), b = c → ∀ (e : Ending) w', e = .returned (.bool b) ∧ w' = w → e = .returned (.bool c) ∧ Grew w w' := by
    rintro w b _ rfl e w' ⟨rfl, rfl⟩
    exact ⟨rfl, Grew.refl _⟩
  unfold knownF at hg
  split at hg
  next hgg =>
    subst hgg
    cases hg
    match args, hF with
    | [.string s, .string t], hF =>
      simp only [Option.some.injEq, Prod.mk.injEq] at hF
      obtain ⟨hc, rfl⟩ := hF
      refine ⟨rfl, rfl, fun w hw hs => .inr ⟨enter19 s t w, ?_⟩⟩
      rw [Bool.or_eq_true, decide_eq_true_eq, decide_eq_true_eq] at hc
      rcases hc with hc | hc
      · obtain ⟨d⟩ := t
        obtain ⟨l⟩ := d
        match l, hc with
        | [c], _ =>
          refine (Tryd.strings_Contains_one s c w).mono (fun e w' h => fin w _ _ ?_ e w' h)
          unfold Lib.contains
          rw [Lib.index_one]
      · obtain ⟨m, hm⟩ := Tryd.laysM144.s1_3 W hsh
        refine (Tryd.strings_Contains s t m w hc ?_).mono (fun e w' h => fin w _ _ rfl e w' h)
        rw [← hm]
        exact cell_of_block (hw 1 (by omega))
  next =>
    split at hg
    next hgg =>
      subst hgg
      cases hg
      match args, hF with
      | [.string s, .string t], hF =>
        simp only [Option.some.injEq, Prod.mk.injEq, true_and] at hF
        subst hF
        exact ⟨rfl, rfl, fun w hw hs => .inr ⟨enter22 s t w, (Tryd.strings_HasPrefix s t w).mono (fun e w' h => fin w _ _ rfl e w' h)⟩⟩
    next =>
      have fin' : ∀ (w : World) (v : Value) (e : Ending) w', e = .returned v ∧ w' = w → e = .returned v ∧ Grew w w' := by
        rintro w v e w' ⟨rfl, rfl⟩
        exact ⟨rfl, Grew.refl _⟩
      split at hg
      next hgg =>
        subst hgg
        cases hg
        match args, hF with
        | [.int .u32 x], hF =>
          simp only [Option.some.injEq, Prod.mk.injEq] at hF
          obtain ⟨hc, rfl⟩ := hF
          have hc := of_decide_eq_true hc
          exact ⟨rfl, rfl, fun w hw hs => .inr ⟨enter53 x w, (Tryd.bits_Len32 x w hc.1 hc.2).mono (fun e w' h => fin' w _ e w' h)⟩⟩
      next =>
        split at hg
        next hgg =>
          subst hgg
          cases hg
          match args, hF with
          | [.int .u64 x], hF =>
            simp only [Option.some.injEq, Prod.mk.injEq] at hF
            obtain ⟨hc, rfl⟩ := hF
            have hc := of_decide_eq_true hc
            exact ⟨rfl, rfl, fun w hw hs => .inr ⟨enter51 x w, (Tryd.bits_Len64 x w hc.1 hc.2).mono (fun e w' h => fin' w _ e w' h)⟩⟩
        next => simp at hg

/-! The layers of what is known. -/
theorem known_layer {W : World} (hB : 2 ≤ W.heap.size) (ho : OldOk W.heap.size W oldS) {known : FuncId → Option (List Value → Option (Bool × Value))}
    (hk : ∀ g F args v, known g = some F → F args = some (true, v) → flatL args = true ∧ flat v = true ∧ ∀ w, (∀ b, b < W.heap.size → w.heap[b]? = W.heap[b]?) → W.heap.size ≤ w.heap.size → KnownOk Tryd.prog g args v w)
    {N n : Nat} {g : FuncId} {args : List Value} {v : Value} (hfa : flatL args = true) (hfv : flat v = true) (h : ∃ s', callN (envOf Tryd.prog oldS known) N n g args .empty = some (.ok v, s')) (w : World) (hw : ∀ b, b < W.heap.size → w.heap[b]? = W.heap[b]?) (hs : W.heap.size ≤ w.heap.size) : KnownOk Tryd.prog g args v w := by
  obtain ⟨s', h⟩ := h
  exact .inr (calls_of_run funcs_ok (by kernel_rfl) (show Tryd.prog.globals.size ≤ W.heap.size by rw [Tryd.globals_size]; exact hB) ho hk hfa hfv h w hw hs)

theorem knownS1_ok {W : World} (hsh : W.ShapedOpen Tryd.prog) (hB : 2 ≤ W.heap.size) (ho : OldOk W.heap.size W oldS) (g : FuncId) (F : List Value → Option (Bool × Value)) (args : List Value) (v : Value) (hg : knownS1 g = some F) (hF : F args = some (true, v)) :
    flatL args = true ∧ flat v = true ∧ ∀ w, (∀ b, b < W.heap.size → w.heap[b]? = W.heap[b]?) → W.heap.size ≤ w.heap.size → KnownOk Tryd.prog g args v w := by
  unfold knownS1 at hg
  split at hg
  next hgg =>
    subst hgg; cases hg
    match args, hF with
    | [.int .u64 z, .bool false, .int .i64 n], hF =>
      simp only [Option.some.injEq, Prod.mk.injEq] at hF
      obtain ⟨hc, rfl⟩ := hF
      have hc := of_decide_eq_true hc
      exact ⟨rfl, rfl, known_layer hB ho (knownS_ok hsh hB) rfl rfl (shiftedF_ok z n hc.1 hc.2)⟩
  next => exact knownS_ok hsh hB g F args v hg hF

theorem knownM_ok {W : World} (hsh : W.ShapedOpen Tryd.prog) (hB : 2 ≤ W.heap.size) (ho : OldOk W.heap.size W oldS) (g : FuncId) (F : List Value → Option (Bool × Value)) (args : List Value) (v : Value) (hg : knownM g = some F) (hF : F args = some (true, v)) :
    flatL args = true ∧ flat v = true ∧ ∀ w, (∀ b, b < W.heap.size → w.heap[b]? = W.heap[b]?) → W.heap.size ≤ w.heap.size → KnownOk Tryd.prog g args v w := by
  unfold knownM at hg
  split at hg
  next hgg =>
    subst hgg; cases hg
    match args, hF with
    | [.bool false, .int .i64 e, .int .u64 m, .bool false], hF =>
      simp only [Option.some.injEq, Prod.mk.injEq] at hF
      obtain ⟨hc, rfl⟩ := hF
      have hc := of_decide_eq_true hc
      exact ⟨rfl, rfl, known_layer hB ho (knownS1_ok hsh hB ho) rfl rfl (makeF_ok e m hc.1 hc.2)⟩
  next => exact knownS1_ok hsh hB ho g F args v hg hF

/-! Functions of one byte. -/
def isLetter (c : Int) : Bool := if 97 ≤ c then (if c ≤ 122 then true else c == 95) else if 65 ≤ c then (if c ≤ 90 then true else c == 95) else c == 95
def isDigit (c : Int) : Bool := if 48 ≤ c then decide (c ≤ 57) else false
def isBlank (c : Int) : Bool := c == 32 || c == 9 || c == 10 || c == 13
def notLine (c : Int) : Bool := !(c == 10)
def escapedOf (c : Int) : Int := if c == 110 then 10 else if c == 116 then 9 else if c == 34 then c else if c == 92 then c else 0

theorem digit_ok (c : Int) : Answers EL (4 + 1) 26 [.int .u8 c] (.bool (isDigit c)) := by
  unfold isDigit
  split
  next h => exact digit1 c h
  next h => exact digit2 c h

theorem letter_ok (c : Int) : Answers EL (4 + 1) 24 [.int .u8 c] (.bool (isLetter c)) := by
  unfold isLetter
  split
  next h1 =>
    split
    next h2 => exact letter1 c h1 h2
    next h2 => exact letter2 c h1 h2 (by omega) (by omega)
  next h1 =>
    split
    next h2 =>
      split
      next h3 => exact letter3 c h1 h2 h3
      next h3 => exact letter4 c h1 h2 h3
    next h2 => exact letter5 c h1 h2

theorem blank_ok (c : Int) : Answers EL (4 + 1) 21 [.int .u8 c] (.bool (isBlank c)) := by
  unfold isBlank
  cases h1 : c == 32
  · cases h2 : c == 9
    · cases h3 : c == 10
      · exact blank4 c h1 h2 h3
      · exact blank3 c h1 h2 h3
    · exact blank2 c h1 h2
  · exact blank1 c h1

theorem escaped_ok (c : Int) : Answers EL (4 + 1) 33 [.int .u8 c] (.int .u8 (escapedOf c)) := by
  unfold escapedOf
  cases h1 : c == 110
  · cases h2 : c == 116
    · cases h3 : c == 34
      · cases h4 : c == 92
        · exact escaped5 c h1 h2 h3 h4
        · exact escaped4 c h1 h2 h3 h4
      · exact escaped3 c h1 h2 h3
    · exact escaped2 c h1 h2
  · exact escaped1 c h1

/-- What more is known: 'lives', functions of one byte. -/
noncomputable def knownB : FuncId → Option (List Value → Option (Bool × Value)) := fun g =>
  if g = 8 then some fun l => match l with
    | [] => some (true, .bool true)
    | _ => none
  else if g = 21 then some fun l => match l with
    | [.int .u8 c] => some (true, .bool (isBlank c))
    | _ => none
  else if g = 23 then some fun l => match l with
    | [.int .u8 c] => some (true, .bool (notLine c))
    | _ => none
  else if g = 24 then some fun l => match l with
    | [.int .u8 c] => some (true, .bool (isLetter c))
    | _ => none
  else if g = 26 then some fun l => match l with
    | [.int .u8 c] => some (true, .bool (isDigit c))
    | _ => none
  else if g = 33 then some fun l => match l with
    | [.int .u8 c] => some (true, .int .u8 (escapedOf c))
    | _ => none
  else if g = 32 then some fun l => match l with
    | [.string b] => some (true, .tuple #[.int .u64 (parseF b).1, .int .i64 (parseF b).2])
    | _ => none
  else none

theorem Answers.empty {E : Ai.Env} {n : Nat} {g : FuncId} {args : List Value} {v : Value} (h : Answers E n g args v) : ∃ s', callN E 1000 n g args .empty = some (.ok v, s') := by
  obtain ⟨s', h1, _⟩ := h .empty
  exact ⟨s', h1⟩

theorem knownB_ok {W : World} (hsh : W.ShapedOpen Tryd.prog) (hB : 2 ≤ W.heap.size) (ho : OldOk W.heap.size W oldS) (g : FuncId) (F : List Value → Option (Bool × Value)) (args : List Value) (v : Value) (hg : knownB g = some F) (hF : F args = some (true, v)) :
    flatL args = true ∧ flat v = true ∧ ∀ w, (∀ b, b < W.heap.size → w.heap[b]? = W.heap[b]?) → W.heap.size ≤ w.heap.size → KnownOk Tryd.prog g args v w := by
  unfold knownB at hg
  split at hg
  next hgg =>
    subst hgg; cases hg
    match args, hF with
    | [], hF => cases hF; exact ⟨rfl, rfl, known_layer hB ho (knownS_ok hsh hB) rfl rfl lives_run⟩
  split at hg
  next hgg =>
    subst hgg; cases hg
    match args, hF with
    | [.int .u8 c], hF => cases hF; exact ⟨rfl, rfl, known_layer hB ho (knownM_ok hsh hB ho) rfl rfl (blank_ok c).empty⟩
  split at hg
  next hgg =>
    subst hgg; cases hg
    match args, hF with
    | [.int .u8 c], hF => cases hF; exact ⟨rfl, rfl, known_layer hB ho (knownM_ok hsh hB ho) rfl rfl (notLine1 c).empty⟩
  split at hg
  next hgg =>
    subst hgg; cases hg
    match args, hF with
    | [.int .u8 c], hF => cases hF; exact ⟨rfl, rfl, known_layer hB ho (knownM_ok hsh hB ho) rfl rfl (letter_ok c).empty⟩
  split at hg
  next hgg =>
    subst hgg; cases hg
    match args, hF with
    | [.int .u8 c], hF => cases hF; exact ⟨rfl, rfl, known_layer hB ho (knownM_ok hsh hB ho) rfl rfl (digit_ok c).empty⟩
  split at hg
  next hgg =>
    subst hgg; cases hg
    match args, hF with
    | [.int .u8 c], hF => cases hF; exact ⟨rfl, rfl, known_layer hB ho (knownM_ok hsh hB ho) rfl rfl (escaped_ok c).empty⟩
  split at hg
  next hgg =>
    subst hgg; cases hg
    match args, hF with
    | [.string b], hF => cases hF; exact ⟨rfl, rfl, known_layer hB ho (knownM_ok hsh hB ho) rfl rfl (parseF_ok b)⟩
  next => simp at hg

noncomputable def knownL : FuncId → Option (List Value → Option (Bool × Value)) := fun g => match knownB g with
  | some F => some F
  | none => knownM g

noncomputable def EK : Ai.Env := envOf Tryd.prog oldS knownL

theorem knownL_ok {W : World} (hsh : W.ShapedOpen Tryd.prog) (hB : 2 ≤ W.heap.size) (ho : OldOk W.heap.size W oldS) (g : FuncId) (F : List Value → Option (Bool × Value)) (args : List Value) (v : Value) (hg : knownL g = some F) (hF : F args = some (true, v)) :
    flatL args = true ∧ flat v = true ∧ ∀ w, (∀ b, b < W.heap.size → w.heap[b]? = W.heap[b]?) → W.heap.size ≤ w.heap.size → KnownOk Tryd.prog g args v w := by
  unfold knownL at hg
  split at hg
  next G hG => cases hg; exact knownB_ok hsh hB ho g F args v hG hF
  next => exact knownM_ok hsh hB ho g F args v hg hF

theorem lexFine {W : World} (hsh : W.ShapedOpen Tryd.prog) (hB : 2 ≤ W.heap.size) (ho : OldOk W.heap.size W oldS) : EK.Fine W.heap.size W :=
  envOf_fine funcs_ok (by kernel_rfl) (show Tryd.prog.globals.size ≤ W.heap.size by rw [Tryd.globals_size]; exact hB) ho (knownL_ok hsh hB ho)

/-- The list of signs, from what the row lays. -/
theorem cells_of_strings {H : Type} {enc : TypeId × Value → H} {P : Program} {w : World} {base : Nat} {sp : Nat → Bool} {held : Bool} {fuel : Nat} {t e : TypeId} {n : Nat} {cs : List Value} {zs : List (List UInt8)} {p : List MemPlace}
    (ht : P.underlying t = some (.array n e)) (he : P.underlying e = some .string) (hce : P.cellsOf e = 1) (hct : P.cellsOf t = n)
    (h : DataW.trod enc P w base sp held fuel t cs = some (.agg (zs.map fun z => .lit (.string z)), p)) : cs = zs.map fun z => Value.string ⟨z.toArray⟩ := by
  cases fuel with
  | zero => simp [DataW.trod] at h
  | succ fuel =>
    simp only [DataW.trod, ht, hce, hct, Nat.mul_one] at h
    split at h
    · rename_i hl
      obtain ⟨xs, hm, hx⟩ := Option.map_eq_some_iff.1 h
      have hxs : xs.map (·.1) = zs.map fun z => (DataW.lit (.string z) : DataW H) := by
        have := congrArg Prod.fst hx
        simpa using this
      have hxl : xs.length = n := by simpa using Lib.mapM_length hm
      have hzl : zs.length = n := by
        have := congrArg List.length hxs
        simp at this
        omega
      apply List.ext_getElem?
      intro i
      by_cases hi : i < n
      · obtain ⟨b, hb, hf⟩ := Lib.mapM_at hm i i (by simp [hi])
        obtain ⟨z, hc, rfl, _⟩ := Go.DataW.trod_string he hf
        have h1 : cs[i]? = some (.string z) := by
          have := congrArg (·[0]?) hc
          simpa [List.getElem?_take, List.getElem?_drop] using this
        have h2 : (xs.map (·.1))[i]? = some (DataW.lit (.string z.data.toList) : DataW H) := by simp [hb]
        rw [hxs] at h2
        simp only [List.getElem?_map, Option.map_eq_some_iff, DataW.lit.injEq, Lit.string.injEq] at h2
        obtain ⟨z', hz', rfl⟩ := h2
        rw [h1]
        simp [hz']
      · rw [List.getElem?_eq_none (by omega), List.getElem?_eq_none (by simp; omega)]
    · cases h

theorem gSigns : Tryd.prog.globalNamed "minstrel/lex.signs" = some 0 := by kernel_rfl
theorem gSignsType : (Tryd.prog.globals[0]?).map (·.type) = some 46 := by kernel_rfl
theorem cells46 : Tryd.prog.cellsOf 46 = 23 := by kernel_rfl
theorem cells9 : Tryd.prog.cellsOf 9 = 1 := by kernel_rfl

theorem oldS_ok {W : World} (hsh : W.ShapedOpen Tryd.prog) (h : laidMetH Tryd.prog [("minstrel/lex.signs", Rows.laid_minstrel_lex_signs)] W) : 2 ≤ W.heap.size ∧ OldOk W.heap.size W oldS := by
  have hB : 2 ≤ W.heap.size := by
    obtain ⟨m, hm⟩ := Tryd.laysM144.s1_3 W hsh
    rcases Nat.lt_or_ge 1 W.heap.size with h1 | h1
    · exact h1
    · exfalso
      unfold World.cell? at hm
      rw [show W.heap[Tryd.laysM144_ren.g 1]? = none from Array.getElem?_eq_none h1] at hm
      simp at hm
  refine ⟨hB, ?_⟩
  obtain ⟨ps, ⟨g', t', cs, fuel, p, q, hg', ht', hvar, hd, _, _⟩, _⟩ := h
  obtain rfl := Option.some.inj (gSigns.symm.trans hg')
  obtain rfl := Option.some.inj (gSignsType.symm.trans ht')
  have hcs := cells_of_strings (zs := signs) Tryd.underlying46 Tryd.underlying9 cells9 cells46 hd
  intro a v hv
  unfold oldS at hv
  split at hv
  next ha =>
    obtain ⟨b, off, spot⟩ := a
    obtain ⟨rfl, rfl⟩ := ha
    rw [Option.map_eq_some_iff] at hv
    obtain ⟨z, hz, rfl⟩ := hv
    refine ⟨by show 0 < W.heap.size; omega, ?_, fun φ => V.refl_of_flat _ φ _ rfl⟩
    rw [World.var?_cell gSigns hvar off, ← Array.getElem?_toList, hcs, List.getElem?_map]
    rw [show signs[off]? = some z from hz]
    rfl
  next => simp at hv

end Go.Proofs.YtiabpbememhdeaaDoor

/-
  Bytes as lists, plainly.
-/
set_option linter.unusedVariables false
namespace Go.Proofs.YtiabpbememhdeaaDoor
open Go Go.Ai Go.RowKit

theorem bytes_extract (s : ByteArray) (i j : Nat) : (s.extract i j).data.toList = (s.data.toList.drop i).take (j - i) := by
  rw [ByteArray.data_extract, Array.toList_extract]

theorem bytes_rest (s : ByteArray) (i : Nat) : (s.extract i s.size).data.toList = s.data.toList.drop i := by
  rw [bytes_extract, List.take_of_length_le]
  rw [List.length_drop]
  exact Nat.le_refl _

theorem bytes_length (s : ByteArray) : s.data.toList.length = s.size := rfl

theorem byt_of {s : ByteArray} {i : Nat} {c : UInt8} (h : s.data.toList[i]? = some c) : byt s i = (c.toNat : Int) := by
  have hi := (List.getElem?_eq_some_iff.1 h).1
  have h1 : s[i]? = some (s.get! i) := get_bytes (by simpa using hi)
  have h2 : s[i]? = s.data.toList[i]? := by
    rw [Array.getElem?_toList]
    rfl
  rw [h2, h] at h1
  unfold byt
  rw [← Option.some.inj h1]

theorem at_byt {s : ByteArray} {i : Nat} (h : i < s.size) : ∃ c, s.data.toList[i]? = some c ∧ byt s i = (c.toNat : Int) := by
  have : i < s.data.toList.length := h
  exact ⟨_, List.getElem?_eq_getElem this, byt_of (List.getElem?_eq_getElem this)⟩

/-- Two bytes ahead. -/
theorem prefix2 {l : List UInt8} {i : Nat} {a b : UInt8} (h : Lib.hasPrefix (l.drop i) [a, b] = true) : l[i]? = some a ∧ l[i + 1]? = some b := by
  unfold Lib.hasPrefix at h
  obtain ⟨t, ht⟩ := List.isPrefixOf_iff_prefix.1 h
  have h1 : (l.drop i)[0]? = some a := by rw [← ht]; rfl
  have h2 : (l.drop i)[1]? = some b := by rw [← ht]; rfl
  rw [List.getElem?_drop] at h1 h2
  exact ⟨h1, h2⟩

theorem prefix2_of {l : List UInt8} {i : Nat} {a b : UInt8} (h1 : l[i]? = some a) (h2 : l[i + 1]? = some b) : Lib.hasPrefix (l.drop i) [a, b] = true := by
  obtain ⟨hi, e1⟩ := List.getElem?_eq_some_iff.1 h1
  obtain ⟨hi', e2⟩ := List.getElem?_eq_some_iff.1 h2
  rw [List.drop_eq_getElem_cons hi, List.drop_eq_getElem_cons hi', e1, e2]
  simp [Lib.hasPrefix]

theorem prefix1 {l : List UInt8} {i : Nat} {a : UInt8} : Lib.hasPrefix (l.drop i) [a] = true ↔ l[i]? = some a := by
  constructor
  · intro h
    unfold Lib.hasPrefix at h
    obtain ⟨t, ht⟩ := List.isPrefixOf_iff_prefix.1 h
    have h1 : (l.drop i)[0]? = some a := by rw [← ht]; rfl
    rwa [List.getElem?_drop] at h1
  · intro h1
    obtain ⟨hi, e1⟩ := List.getElem?_eq_some_iff.1 h1
    rw [List.drop_eq_getElem_cons hi, e1]
    simp [Lib.hasPrefix]

end Go.Proofs.YtiabpbememhdeaaDoor

/-
  The key words, plainly: what stands between blanks in the list of key words, and has no blank, is a key word.
-/
namespace Go.Proofs.YtiabpbememhdeaaDoor
open Go

def keyWords : List (List UInt8) := [[97, 110, 100], [98, 114, 101, 97, 107], [100, 111], [101, 108, 115, 101], [101, 108, 115, 101, 105, 102], [101, 110, 100], [102, 97, 108, 115, 101], [102, 111, 114], [102, 117, 110, 99, 116, 105, 111, 110], [105, 102], [108, 111, 99, 97, 108], [110, 105, 108], [110, 111, 116], [111, 114], [114, 101, 116, 117, 114, 110], [116, 104, 101, 110], [116, 114, 117, 101], [119, 104, 105, 108, 101]]
def keyList : List UInt8 := [32, 97, 110, 100, 32, 98, 114, 101, 97, 107, 32, 100, 111, 32, 101, 108, 115, 101, 32, 101, 108, 115, 101, 105, 102, 32, 101, 110, 100, 32, 102, 97, 108, 115, 101, 32, 102, 111, 114, 32, 102, 117, 110, 99, 116, 105, 111, 110, 32, 105, 102, 32, 108, 111, 99, 97, 108, 32, 110, 105, 108, 32, 110, 111, 116, 32, 111, 114, 32, 114, 101, 116, 117, 114, 110, 32, 116, 104, 101, 110, 32, 116, 114, 117, 101, 32, 119, 104, 105, 108, 101, 32]

theorem keys_checked : ((List.range 93).all fun i => !((keyList.drop i).head? == some 32) || ((keyList.drop (i + 1)).takeWhile (· != 32) == [] || keyWords.contains ((keyList.drop (i + 1)).takeWhile (· != 32)))) = true := by kernel_rfl

theorem takeWhile_word : ∀ {s : List UInt8} {t : List UInt8}, (∀ x ∈ s, x ≠ 32) → (s ++ 32 :: t).takeWhile (· != 32) = s
  | [], t, _ => rfl
  | x :: s, t, h => by
      have hx : (x != 32) = true := by simp [h x (by simp)]
      rw [List.cons_append, List.takeWhile_cons, if_pos hx, takeWhile_word fun y hy => h y (by simp [hy])]

theorem key_of_contains {s : List UInt8} (hb : ∀ x ∈ s, x ≠ 32) (hne : s ≠ []) (h : Lib.contains keyList (32 :: s ++ [32]) = true) : keyWords.contains s = true := by
  unfold Lib.contains at h
  have h0 := of_decide_eq_true h
  rcases Lib.index_spec keyList (32 :: s ++ [32]) with ⟨h1, _⟩ | ⟨i, h1, h2, h3, _⟩
  · omega
  · have hp : (32 :: s ++ [32]) <+: keyList.drop i := by
      unfold Lib.occAt at h3
      exact List.isPrefixOf_iff_prefix.1 h3
    obtain ⟨t, ht⟩ := hp
    have e1 : keyList.drop i = 32 :: (s ++ 32 :: t) := by rw [← ht]; simp
    have e2 : keyList.drop (i + 1) = s ++ 32 :: t := by
      have : keyList.drop (i + 1) = (keyList.drop i).drop 1 := by rw [List.drop_drop]
      rw [this, e1]
      rfl
    have hl : i < 93 := by
      have : keyList.length = 92 := by kernel_rfl
      omega
    have hc := List.all_eq_true.1 keys_checked i (List.mem_range.2 hl)
    rw [e1, e2, takeWhile_word hb] at hc
    simp only [List.head?_cons, beq_self_eq_true, Bool.not_true, Bool.false_or, Bool.or_eq_true, beq_iff_eq] at hc
    exact hc.resolve_left hne

theorem no_blank {s : List UInt8} (h : ¬ 0 ≤ Lib.index s [32]) : ∀ x ∈ s, x ≠ 32 := by
  rw [Lib.index_one] at h
  have h1 : Lib.indexByte s 32 = -1 := by
    have := Lib.indexByte_ge s 32
    omega
  intro x hx he
  subst he
  obtain ⟨k, hk, hk'⟩ := List.getElem_of_mem hx
  exact Lib.indexByte_none h1 k (by rw [List.getElem?_eq_getElem hk, hk'])

end Go.Proofs.YtiabpbememhdeaaDoor

/-
  The lexer's seat: a name's bytes; what more is known by then.
-/
set_option linter.unusedVariables false
set_option linter.unusedSimpArgs false
namespace Go.Proofs.YtiabpbememhdeaaDoor
open Go.Ai Go.RowKit
set_option maxRecDepth 100000

def isName (c : Int) : Bool := isLetter c || isDigit c

theorem name1 (c : Int) (h1 : isLetter c = true) : Answers EK (4 + 1) 25 [.int .u8 c] (.bool true) := by
  intro s
  exact fn_by (holds_nil s) [.is 1 h1, .is 0 h1, .is 0 h1, .m 0 0] [] (by kernel_rfl)
theorem name2 (c : Int) (h1 : isLetter c = false) : Answers EK (4 + 1) 25 [.int .u8 c] (.bool (isDigit c)) := by
  intro s
  exact fn_by (holds_nil s) [.is 1 h1, .is 0 h1, .is 1 h1, .m 0 0] [] (by kernel_rfl)

theorem name_ok (c : Int) : Answers EK (4 + 1) 25 [.int .u8 c] (.bool (isName c)) := by
  unfold isName
  cases h1 : isLetter c
  · exact name2 c h1
  · exact name1 c h1

noncomputable def knownW : FuncId → Option (List Value → Option (Bool × Value)) := fun g =>
  if g = 25 then some fun l => match l with
    | [.int .u8 c] => some (true, .bool (isName c))
    | _ => none
  else knownL g

noncomputable def EW : Ai.Env := envOf Tryd.prog oldS knownW

theorem knownW_ok {W : World} (hsh : W.ShapedOpen Tryd.prog) (hB : 2 ≤ W.heap.size) (ho : OldOk W.heap.size W oldS) (g : FuncId) (F : List Value → Option (Bool × Value)) (args : List Value) (v : Value) (hg : knownW g = some F) (hF : F args = some (true, v)) :
    flatL args = true ∧ flat v = true ∧ ∀ w, (∀ b, b < W.heap.size → w.heap[b]? = W.heap[b]?) → W.heap.size ≤ w.heap.size → KnownOk Tryd.prog g args v w := by
  unfold knownW at hg
  split at hg
  next hgg =>
    subst hgg; cases hg
    match args, hF with
    | [.int .u8 c], hF => cases hF; exact ⟨rfl, rfl, known_layer hB ho (knownL_ok hsh hB ho) rfl rfl (name_ok c).empty⟩
  next => exact knownL_ok hsh hB ho g F args v hg hF

end Go.Proofs.YtiabpbememhdeaaDoor

/-
  The lexer's seat: 'while', with each of the functions that are handed to it.
-/
set_option linter.unusedVariables false
set_option linter.unusedSimpArgs false
namespace Go.Proofs.YtiabpbememhdeaaDoor
open Go.Ai Go.RowKit
set_option maxRecDepth 100000

/-- The lexer's object. -/
abbrev lx (s : ByteArray) (i : Nat) : AObj := .row [.string s, .int .i64 (i : Int)] 2 0 0 []
abbrev pt (f : Nat) : Value := .pointer (some ⟨f, 0, some 0⟩)
def fWhile : FuncId := 20
noncomputable def whileL : Code := loopAt Tryd.prog fWhile 0
abbrev fv (g : Nat) : Value := .func (.func g) #[] #[]

/-- How far bytes are such. -/
def runTo (p : Int → Bool) (s : ByteArray) (i : Nat) : Nat := if i < s.size then (if p (byt s i) = true then runTo p s (i + 1) else i) else i
termination_by s.size - i

theorem runTo_ge (p : Int → Bool) (s : ByteArray) (i : Nat) : i ≤ runTo p s i := by
  unfold runTo
  split
  · split
    · have := runTo_ge p s (i + 1); omega
    · exact Nat.le_refl _
  · exact Nat.le_refl _
termination_by s.size - i

theorem runTo_le (p : Int → Bool) (s : ByteArray) (i : Nat) (hi : i ≤ s.size) : runTo p s i ≤ s.size := by
  unfold runTo
  split
  · split
    · exact runTo_le p s (i + 1) (by omega)
    · exact hi
  · exact hi
termination_by s.size - i

abbrev Whiles (q g : Nat) (p : Int → Bool) : Prop := ∀ (s : ByteArray) (i : Nat), i ≤ s.size → s.size ≤ 65536 → Calls1 (lx s i) (fun f => callN EW NN (q + 1) fWhile [pt f, fv g]) (fun _ _ => .ok (.tuple #[])) (fun f _ => [(f, lx s (runTo p s i))])

theorem while_blank_go (q f i : Nat) (b : ByteArray) (d : List Deferred) (rest : Nat → Value) (s : St) (hov : Holds s [(f, lx b i)]) (h1 : i < b.size) (h2 : b.size ≤ 65536) (h3 : isBlank (byt b i) = true) :
    ∃ rest' s', evalCode EW (callN EW NN q) NN whileL { tmps := tmpsOf 34 [(0, pt f), (1, fv 21)] rest, defers := d } s = some (.normal, { tmps := tmpsOf 34 [(0, pt f), (1, fv 21)] rest', defers := d }, s') ∧ After s s' [f] [(f, lx b (i + 1))] := by
  exact round_by hov [.m 0 0, .m 0 0, .yes 1 (show (↑i : Int) < (↑(ByteArray.size b) : Int) from by omega), .yes 0 (show (↑i : Int) < (↑(ByteArray.size b) : Int) from by omega), .yes 0 (show (↑i : Int) < (↑(ByteArray.size b) : Int) from by omega), .yes 0 (show (↑i : Int) < (↑(ByteArray.size b) : Int) from by omega), .yes 0 (show (↑i : Int) < (↑(ByteArray.size b) : Int) from by omega), .m 0 0, .yes 1 (show (↑i : Int) < (↑(ByteArray.size b) : Int) from by omega), .yes 0 (show (↑i : Int) < (↑(ByteArray.size b) : Int) from by omega), .yes 0 (show (↑i : Int) < (↑(ByteArray.size b) : Int) from by omega), .yes 0 (show (↑i : Int) < (↑(ByteArray.size b) : Int) from by omega), .m 0 0, .yes 1 (show (↑i : Int) < (↑(ByteArray.size b) : Int) from by omega), .yes 1 h1, .yes 0 (show (↑i : Int) < (↑(ByteArray.size b) : Int) from by omega), .yes 1 (show (↑i : Int) < (↑(ByteArray.size b) : Int) from by omega), .is 0 h3, .m 0 0, .int 0 (wrap_i64 (n := (↑i : Int) + (1 : Int)) (by omega) (by omega)), .m 0 0, .m 0 0, .m 0 0] [0] (by kernel_rfl)
theorem while_blank_stop (q f i : Nat) (b : ByteArray) (d : List Deferred) (rest : Nat → Value) (s : St) (hov : Holds s [(f, lx b i)]) (h1 : i < b.size) (h2 : b.size ≤ 65536) (h3 : isBlank (byt b i) = false) :
    ∃ rest' s', evalCode EW (callN EW NN q) NN whileL { tmps := tmpsOf 34 [(0, pt f), (1, fv 21)] rest, defers := d } s = some (.exit 0, { tmps := tmpsOf 34 [(0, pt f), (1, fv 21)] rest', defers := d }, s') ∧ After s s' [f] [(f, lx b i)] := by
  exact round_by hov [.m 0 0, .m 0 0, .yes 1 (show (↑i : Int) < (↑(ByteArray.size b) : Int) from by omega), .yes 0 (show (↑i : Int) < (↑(ByteArray.size b) : Int) from by omega), .yes 0 (show (↑i : Int) < (↑(ByteArray.size b) : Int) from by omega), .yes 0 (show (↑i : Int) < (↑(ByteArray.size b) : Int) from by omega), .yes 0 (show (↑i : Int) < (↑(ByteArray.size b) : Int) from by omega), .m 0 0, .yes 1 (show (↑i : Int) < (↑(ByteArray.size b) : Int) from by omega), .yes 0 (show (↑i : Int) < (↑(ByteArray.size b) : Int) from by omega), .yes 0 (show (↑i : Int) < (↑(ByteArray.size b) : Int) from by omega), .yes 0 (show (↑i : Int) < (↑(ByteArray.size b) : Int) from by omega), .m 0 0, .yes 1 (show (↑i : Int) < (↑(ByteArray.size b) : Int) from by omega), .yes 1 h1, .yes 0 (show (↑i : Int) < (↑(ByteArray.size b) : Int) from by omega), .yes 1 (show (↑i : Int) < (↑(ByteArray.size b) : Int) from by omega), .is 0 h3, .m 0 0] [0] (by kernel_rfl)
theorem while_blank_end (q f i : Nat) (b : ByteArray) (d : List Deferred) (rest : Nat → Value) (s : St) (hov : Holds s [(f, lx b i)]) (h1 : ¬ i < b.size) (h2 : b.size ≤ 65536) :
    ∃ rest' s', evalCode EW (callN EW NN q) NN whileL { tmps := tmpsOf 34 [(0, pt f), (1, fv 21)] rest, defers := d } s = some (.exit 0, { tmps := tmpsOf 34 [(0, pt f), (1, fv 21)] rest', defers := d }, s') ∧ After s s' [f] [(f, lx b i)] := by
  exact round_by hov [.m 0 0, .m 0 0, .no 1 (show ¬ ((↑i : Int) < (↑(ByteArray.size b) : Int)) from by omega), .no 0 (show ¬ ((↑i : Int) < (↑(ByteArray.size b) : Int)) from by omega), .no 0 (show ¬ ((↑i : Int) < (↑(ByteArray.size b) : Int)) from by omega), .no 0 (show ¬ ((↑i : Int) < (↑(ByteArray.size b) : Int)) from by omega), .no 0 (show ¬ ((↑i : Int) < (↑(ByteArray.size b) : Int)) from by omega), .no 0 (show ¬ ((↑i : Int) < (↑(ByteArray.size b) : Int)) from by omega), .no 0 (show ¬ ((↑i : Int) < (↑(ByteArray.size b) : Int)) from by omega), .no 0 (show ¬ ((↑i : Int) < (↑(ByteArray.size b) : Int)) from by omega), .no 0 (show ¬ ((↑i : Int) < (↑(ByteArray.size b) : Int)) from by omega), .no 0 (show ¬ ((↑i : Int) < (↑(ByteArray.size b) : Int)) from by omega), .no 0 (show ¬ ((↑i : Int) < (↑(ByteArray.size b) : Int)) from by omega), .no 0 (show ¬ ((↑i : Int) < (↑(ByteArray.size b) : Int)) from by omega), .m 0 0] [0] (by kernel_rfl)
theorem while_blank_loop (q i : Nat) (b : ByteArray) (d : List Deferred) (h1 : i ≤ b.size) (h2 : b.size ≤ 65536) :
    Loops1 (lx b i) (evalCode EW (callN EW NN q) NN (.loop whileL)) 34 d (fun f => [(0, pt f), (1, fv 21)]) (.exit 0) (fun f _ => [(0, pt f), (1, fv 21)]) (fun f _ => [(f, lx b (runTo isBlank b i))]) := by
  intro f rest s hov
  refine loop_pi (fun j => [(0, pt f), (1, fv 21)]) (fun j => [(f, lx b j)]) (fun j => b.size - j) (fun j => j ≤ b.size ∧ runTo isBlank b j = runTo isBlank b i) (by simp) (fun j hj rest s' hA => ?_) i ⟨h1, rfl⟩ (by show b.size - i < 1048576; omega) hov rest
  obtain ⟨hj, ht⟩ := hj
  have hov' := hA.holds
  by_cases hlt : j < b.size
  · have hu : runTo isBlank b j = if isBlank (byt b j) = true then runTo isBlank b (j + 1) else j := by
      rw [runTo, if_pos hlt]
    cases h3 : isBlank (byt b j)
    · right
      rw [h3] at hu
      refine ⟨[], ?_⟩
      rw [← ht, hu]
      exact while_blank_stop q f j b d rest s' hov' hlt h2 h3
    · left
      rw [h3] at hu
      obtain ⟨rest', s'', g1, g2⟩ := while_blank_go q f j b d rest s' hov' hlt h2 h3
      exact ⟨j + 1, rest', s'', ⟨by omega, by rw [← ht, hu]; simp⟩, by omega, g1, g2⟩
  · right
    have hu : runTo isBlank b j = j := by rw [runTo, if_neg hlt]
    refine ⟨[], ?_⟩
    rw [← ht, hu]
    exact while_blank_end q f j b d rest s' hov' hlt h2
theorem while_blank (q : Nat) : Whiles q 21 isBlank := by
  intro b i h1 h2 f s hov
  have l1 := (while_blank_loop q i b [] h1 h2).ev
  exact fnk_by hov [.loop 0 0 [0] l1, .m 0 0] [] [0] (by kernel_rfl) (by kernel_rfl)

theorem while_line_go (q f i : Nat) (b : ByteArray) (d : List Deferred) (rest : Nat → Value) (s : St) (hov : Holds s [(f, lx b i)]) (h1 : i < b.size) (h2 : b.size ≤ 65536) (h3 : notLine (byt b i) = true) :
    ∃ rest' s', evalCode EW (callN EW NN q) NN whileL { tmps := tmpsOf 34 [(0, pt f), (1, fv 23)] rest, defers := d } s = some (.normal, { tmps := tmpsOf 34 [(0, pt f), (1, fv 23)] rest', defers := d }, s') ∧ After s s' [f] [(f, lx b (i + 1))] := by
  exact round_by hov [.m 0 0, .m 0 0, .yes 1 (show (↑i : Int) < (↑(ByteArray.size b) : Int) from by omega), .yes 0 (show (↑i : Int) < (↑(ByteArray.size b) : Int) from by omega), .yes 0 (show (↑i : Int) < (↑(ByteArray.size b) : Int) from by omega), .yes 0 (show (↑i : Int) < (↑(ByteArray.size b) : Int) from by omega), .yes 0 (show (↑i : Int) < (↑(ByteArray.size b) : Int) from by omega), .m 0 0, .yes 1 (show (↑i : Int) < (↑(ByteArray.size b) : Int) from by omega), .yes 0 (show (↑i : Int) < (↑(ByteArray.size b) : Int) from by omega), .yes 0 (show (↑i : Int) < (↑(ByteArray.size b) : Int) from by omega), .yes 0 (show (↑i : Int) < (↑(ByteArray.size b) : Int) from by omega), .m 0 0, .yes 1 (show (↑i : Int) < (↑(ByteArray.size b) : Int) from by omega), .yes 1 h1, .yes 0 (show (↑i : Int) < (↑(ByteArray.size b) : Int) from by omega), .yes 1 (show (↑i : Int) < (↑(ByteArray.size b) : Int) from by omega), .is 0 h3, .m 0 0, .int 0 (wrap_i64 (n := (↑i : Int) + (1 : Int)) (by omega) (by omega)), .m 0 0, .m 0 0, .m 0 0] [0] (by kernel_rfl)
theorem while_line_stop (q f i : Nat) (b : ByteArray) (d : List Deferred) (rest : Nat → Value) (s : St) (hov : Holds s [(f, lx b i)]) (h1 : i < b.size) (h2 : b.size ≤ 65536) (h3 : notLine (byt b i) = false) :
    ∃ rest' s', evalCode EW (callN EW NN q) NN whileL { tmps := tmpsOf 34 [(0, pt f), (1, fv 23)] rest, defers := d } s = some (.exit 0, { tmps := tmpsOf 34 [(0, pt f), (1, fv 23)] rest', defers := d }, s') ∧ After s s' [f] [(f, lx b i)] := by
  exact round_by hov [.m 0 0, .m 0 0, .yes 1 (show (↑i : Int) < (↑(ByteArray.size b) : Int) from by omega), .yes 0 (show (↑i : Int) < (↑(ByteArray.size b) : Int) from by omega), .yes 0 (show (↑i : Int) < (↑(ByteArray.size b) : Int) from by omega), .yes 0 (show (↑i : Int) < (↑(ByteArray.size b) : Int) from by omega), .yes 0 (show (↑i : Int) < (↑(ByteArray.size b) : Int) from by omega), .m 0 0, .yes 1 (show (↑i : Int) < (↑(ByteArray.size b) : Int) from by omega), .yes 0 (show (↑i : Int) < (↑(ByteArray.size b) : Int) from by omega), .yes 0 (show (↑i : Int) < (↑(ByteArray.size b) : Int) from by omega), .yes 0 (show (↑i : Int) < (↑(ByteArray.size b) : Int) from by omega), .m 0 0, .yes 1 (show (↑i : Int) < (↑(ByteArray.size b) : Int) from by omega), .yes 1 h1, .yes 0 (show (↑i : Int) < (↑(ByteArray.size b) : Int) from by omega), .yes 1 (show (↑i : Int) < (↑(ByteArray.size b) : Int) from by omega), .is 0 h3, .m 0 0] [0] (by kernel_rfl)
theorem while_line_end (q f i : Nat) (b : ByteArray) (d : List Deferred) (rest : Nat → Value) (s : St) (hov : Holds s [(f, lx b i)]) (h1 : ¬ i < b.size) (h2 : b.size ≤ 65536) :
    ∃ rest' s', evalCode EW (callN EW NN q) NN whileL { tmps := tmpsOf 34 [(0, pt f), (1, fv 23)] rest, defers := d } s = some (.exit 0, { tmps := tmpsOf 34 [(0, pt f), (1, fv 23)] rest', defers := d }, s') ∧ After s s' [f] [(f, lx b i)] := by
  exact round_by hov [.m 0 0, .m 0 0, .no 1 (show ¬ ((↑i : Int) < (↑(ByteArray.size b) : Int)) from by omega), .no 0 (show ¬ ((↑i : Int) < (↑(ByteArray.size b) : Int)) from by omega), .no 0 (show ¬ ((↑i : Int) < (↑(ByteArray.size b) : Int)) from by omega), .no 0 (show ¬ ((↑i : Int) < (↑(ByteArray.size b) : Int)) from by omega), .no 0 (show ¬ ((↑i : Int) < (↑(ByteArray.size b) : Int)) from by omega), .no 0 (show ¬ ((↑i : Int) < (↑(ByteArray.size b) : Int)) from by omega), .no 0 (show ¬ ((↑i : Int) < (↑(ByteArray.size b) : Int)) from by omega), .no 0 (show ¬ ((↑i : Int) < (↑(ByteArray.size b) : Int)) from by omega), .no 0 (show ¬ ((↑i : Int) < (↑(ByteArray.size b) : Int)) from by omega), .no 0 (show ¬ ((↑i : Int) < (↑(ByteArray.size b) : Int)) from by omega), .no 0 (show ¬ ((↑i : Int) < (↑(ByteArray.size b) : Int)) from by omega), .no 0 (show ¬ ((↑i : Int) < (↑(ByteArray.size b) : Int)) from by omega), .m 0 0] [0] (by kernel_rfl)
theorem while_line_loop (q i : Nat) (b : ByteArray) (d : List Deferred) (h1 : i ≤ b.size) (h2 : b.size ≤ 65536) :
    Loops1 (lx b i) (evalCode EW (callN EW NN q) NN (.loop whileL)) 34 d (fun f => [(0, pt f), (1, fv 23)]) (.exit 0) (fun f _ => [(0, pt f), (1, fv 23)]) (fun f _ => [(f, lx b (runTo notLine b i))]) := by
  intro f rest s hov
  refine loop_pi (fun j => [(0, pt f), (1, fv 23)]) (fun j => [(f, lx b j)]) (fun j => b.size - j) (fun j => j ≤ b.size ∧ runTo notLine b j = runTo notLine b i) (by simp) (fun j hj rest s' hA => ?_) i ⟨h1, rfl⟩ (by show b.size - i < 1048576; omega) hov rest
  obtain ⟨hj, ht⟩ := hj
  have hov' := hA.holds
  by_cases hlt : j < b.size
  · have hu : runTo notLine b j = if notLine (byt b j) = true then runTo notLine b (j + 1) else j := by
      rw [runTo, if_pos hlt]
    cases h3 : notLine (byt b j)
    · right
      rw [h3] at hu
      refine ⟨[], ?_⟩
      rw [← ht, hu]
      exact while_line_stop q f j b d rest s' hov' hlt h2 h3
    · left
      rw [h3] at hu
      obtain ⟨rest', s'', g1, g2⟩ := while_line_go q f j b d rest s' hov' hlt h2 h3
      exact ⟨j + 1, rest', s'', ⟨by omega, by rw [← ht, hu]; simp⟩, by omega, g1, g2⟩
  · right
    have hu : runTo notLine b j = j := by rw [runTo, if_neg hlt]
    refine ⟨[], ?_⟩
    rw [← ht, hu]
    exact while_line_end q f j b d rest s' hov' hlt h2
theorem while_line (q : Nat) : Whiles q 23 notLine := by
  intro b i h1 h2 f s hov
  have l1 := (while_line_loop q i b [] h1 h2).ev
  exact fnk_by hov [.loop 0 0 [0] l1, .m 0 0] [] [0] (by kernel_rfl) (by kernel_rfl)

theorem while_name_go (q f i : Nat) (b : ByteArray) (d : List Deferred) (rest : Nat → Value) (s : St) (hov : Holds s [(f, lx b i)]) (h1 : i < b.size) (h2 : b.size ≤ 65536) (h3 : isName (byt b i) = true) :
    ∃ rest' s', evalCode EW (callN EW NN q) NN whileL { tmps := tmpsOf 34 [(0, pt f), (1, fv 25)] rest, defers := d } s = some (.normal, { tmps := tmpsOf 34 [(0, pt f), (1, fv 25)] rest', defers := d }, s') ∧ After s s' [f] [(f, lx b (i + 1))] := by
  exact round_by hov [.m 0 0, .m 0 0, .yes 1 (show (↑i : Int) < (↑(ByteArray.size b) : Int) from by omega), .yes 0 (show (↑i : Int) < (↑(ByteArray.size b) : Int) from by omega), .yes 0 (show (↑i : Int) < (↑(ByteArray.size b) : Int) from by omega), .yes 0 (show (↑i : Int) < (↑(ByteArray.size b) : Int) from by omega), .yes 0 (show (↑i : Int) < (↑(ByteArray.size b) : Int) from by omega), .m 0 0, .yes 1 (show (↑i : Int) < (↑(ByteArray.size b) : Int) from by omega), .yes 0 (show (↑i : Int) < (↑(ByteArray.size b) : Int) from by omega), .yes 0 (show (↑i : Int) < (↑(ByteArray.size b) : Int) from by omega), .yes 0 (show (↑i : Int) < (↑(ByteArray.size b) : Int) from by omega), .m 0 0, .yes 1 (show (↑i : Int) < (↑(ByteArray.size b) : Int) from by omega), .yes 1 h1, .yes 0 (show (↑i : Int) < (↑(ByteArray.size b) : Int) from by omega), .yes 1 (show (↑i : Int) < (↑(ByteArray.size b) : Int) from by omega), .is 0 h3, .m 0 0, .int 0 (wrap_i64 (n := (↑i : Int) + (1 : Int)) (by omega) (by omega)), .m 0 0, .m 0 0, .m 0 0] [0] (by kernel_rfl)
theorem while_name_stop (q f i : Nat) (b : ByteArray) (d : List Deferred) (rest : Nat → Value) (s : St) (hov : Holds s [(f, lx b i)]) (h1 : i < b.size) (h2 : b.size ≤ 65536) (h3 : isName (byt b i) = false) :
    ∃ rest' s', evalCode EW (callN EW NN q) NN whileL { tmps := tmpsOf 34 [(0, pt f), (1, fv 25)] rest, defers := d } s = some (.exit 0, { tmps := tmpsOf 34 [(0, pt f), (1, fv 25)] rest', defers := d }, s') ∧ After s s' [f] [(f, lx b i)] := by
  exact round_by hov [.m 0 0, .m 0 0, .yes 1 (show (↑i : Int) < (↑(ByteArray.size b) : Int) from by omega), .yes 0 (show (↑i : Int) < (↑(ByteArray.size b) : Int) from by omega), .yes 0 (show (↑i : Int) < (↑(ByteArray.size b) : Int) from by omega), .yes 0 (show (↑i : Int) < (↑(ByteArray.size b) : Int) from by omega), .yes 0 (show (↑i : Int) < (↑(ByteArray.size b) : Int) from by omega), .m 0 0, .yes 1 (show (↑i : Int) < (↑(ByteArray.size b) : Int) from by omega), .yes 0 (show (↑i : Int) < (↑(ByteArray.size b) : Int) from by omega), .yes 0 (show (↑i : Int) < (↑(ByteArray.size b) : Int) from by omega), .yes 0 (show (↑i : Int) < (↑(ByteArray.size b) : Int) from by omega), .m 0 0, .yes 1 (show (↑i : Int) < (↑(ByteArray.size b) : Int) from by omega), .yes 1 h1, .yes 0 (show (↑i : Int) < (↑(ByteArray.size b) : Int) from by omega), .yes 1 (show (↑i : Int) < (↑(ByteArray.size b) : Int) from by omega), .is 0 h3, .m 0 0] [0] (by kernel_rfl)
theorem while_name_end (q f i : Nat) (b : ByteArray) (d : List Deferred) (rest : Nat → Value) (s : St) (hov : Holds s [(f, lx b i)]) (h1 : ¬ i < b.size) (h2 : b.size ≤ 65536) :
    ∃ rest' s', evalCode EW (callN EW NN q) NN whileL { tmps := tmpsOf 34 [(0, pt f), (1, fv 25)] rest, defers := d } s = some (.exit 0, { tmps := tmpsOf 34 [(0, pt f), (1, fv 25)] rest', defers := d }, s') ∧ After s s' [f] [(f, lx b i)] := by
  exact round_by hov [.m 0 0, .m 0 0, .no 1 (show ¬ ((↑i : Int) < (↑(ByteArray.size b) : Int)) from by omega), .no 0 (show ¬ ((↑i : Int) < (↑(ByteArray.size b) : Int)) from by omega), .no 0 (show ¬ ((↑i : Int) < (↑(ByteArray.size b) : Int)) from by omega), .no 0 (show ¬ ((↑i : Int) < (↑(ByteArray.size b) : Int)) from by omega), .no 0 (show ¬ ((↑i : Int) < (↑(ByteArray.size b) : Int)) from by omega), .no 0 (show ¬ ((↑i : Int) < (↑(ByteArray.size b) : Int)) from by omega), .no 0 (show ¬ ((↑i : Int) < (↑(ByteArray.size b) : Int)) from by omega), .no 0 (show ¬ ((↑i : Int) < (↑(ByteArray.size b) : Int)) from by omega), .no 0 (show ¬ ((↑i : Int) < (↑(ByteArray.size b) : Int)) from by omega), .no 0 (show ¬ ((↑i : Int) < (↑(ByteArray.size b) : Int)) from by omega), .no 0 (show ¬ ((↑i : Int) < (↑(ByteArray.size b) : Int)) from by omega), .no 0 (show ¬ ((↑i : Int) < (↑(ByteArray.size b) : Int)) from by omega), .m 0 0] [0] (by kernel_rfl)
theorem while_name_loop (q i : Nat) (b : ByteArray) (d : List Deferred) (h1 : i ≤ b.size) (h2 : b.size ≤ 65536) :
    Loops1 (lx b i) (evalCode EW (callN EW NN q) NN (.loop whileL)) 34 d (fun f => [(0, pt f), (1, fv 25)]) (.exit 0) (fun f _ => [(0, pt f), (1, fv 25)]) (fun f _ => [(f, lx b (runTo isName b i))]) := by
  intro f rest s hov
  refine loop_pi (fun j => [(0, pt f), (1, fv 25)]) (fun j => [(f, lx b j)]) (fun j => b.size - j) (fun j => j ≤ b.size ∧ runTo isName b j = runTo isName b i) (by simp) (fun j hj rest s' hA => ?_) i ⟨h1, rfl⟩ (by show b.size - i < 1048576; omega) hov rest
  obtain ⟨hj, ht⟩ := hj
  have hov' := hA.holds
  by_cases hlt : j < b.size
  · have hu : runTo isName b j = if isName (byt b j) = true then runTo isName b (j + 1) else j := by
      rw [runTo, if_pos hlt]
    cases h3 : isName (byt b j)
    · right
      rw [h3] at hu
      refine ⟨[], ?_⟩
      rw [← ht, hu]
      exact while_name_stop q f j b d rest s' hov' hlt h2 h3
    · left
      rw [h3] at hu
      obtain ⟨rest', s'', g1, g2⟩ := while_name_go q f j b d rest s' hov' hlt h2 h3
      exact ⟨j + 1, rest', s'', ⟨by omega, by rw [← ht, hu]; simp⟩, by omega, g1, g2⟩
  · right
    have hu : runTo isName b j = j := by rw [runTo, if_neg hlt]
    refine ⟨[], ?_⟩
    rw [← ht, hu]
    exact while_name_end q f j b d rest s' hov' hlt h2
theorem while_name (q : Nat) : Whiles q 25 isName := by
  intro b i h1 h2 f s hov
  have l1 := (while_name_loop q i b [] h1 h2).ev
  exact fnk_by hov [.loop 0 0 [0] l1, .m 0 0] [] [0] (by kernel_rfl) (by kernel_rfl)

theorem while_digit_go (q f i : Nat) (b : ByteArray) (d : List Deferred) (rest : Nat → Value) (s : St) (hov : Holds s [(f, lx b i)]) (h1 : i < b.size) (h2 : b.size ≤ 65536) (h3 : isDigit (byt b i) = true) :
    ∃ rest' s', evalCode EW (callN EW NN q) NN whileL { tmps := tmpsOf 34 [(0, pt f), (1, fv 26)] rest, defers := d } s = some (.normal, { tmps := tmpsOf 34 [(0, pt f), (1, fv 26)] rest', defers := d }, s') ∧ After s s' [f] [(f, lx b (i + 1))] := by
  exact round_by hov [.m 0 0, .m 0 0, .yes 1 (show (↑i : Int) < (↑(ByteArray.size b) : Int) from by omega), .yes 0 (show (↑i : Int) < (↑(ByteArray.size b) : Int) from by omega), .yes 0 (show (↑i : Int) < (↑(ByteArray.size b) : Int) from by omega), .yes 0 (show (↑i : Int) < (↑(ByteArray.size b) : Int) from by omega), .yes 0 (show (↑i : Int) < (↑(ByteArray.size b) : Int) from by omega), .m 0 0, .yes 1 (show (↑i : Int) < (↑(ByteArray.size b) : Int) from by omega), .yes 0 (show (↑i : Int) < (↑(ByteArray.size b) : Int) from by omega), .yes 0 (show (↑i : Int) < (↑(ByteArray.size b) : Int) from by omega), .yes 0 (show (↑i : Int) < (↑(ByteArray.size b) : Int) from by omega), .m 0 0, .yes 1 (show (↑i : Int) < (↑(ByteArray.size b) : Int) from by omega), .yes 1 h1, .yes 0 (show (↑i : Int) < (↑(ByteArray.size b) : Int) from by omega), .yes 1 (show (↑i : Int) < (↑(ByteArray.size b) : Int) from by omega), .is 0 h3, .m 0 0, .int 0 (wrap_i64 (n := (↑i : Int) + (1 : Int)) (by omega) (by omega)), .m 0 0, .m 0 0, .m 0 0] [0] (by kernel_rfl)
theorem while_digit_stop (q f i : Nat) (b : ByteArray) (d : List Deferred) (rest : Nat → Value) (s : St) (hov : Holds s [(f, lx b i)]) (h1 : i < b.size) (h2 : b.size ≤ 65536) (h3 : isDigit (byt b i) = false) :
    ∃ rest' s', evalCode EW (callN EW NN q) NN whileL { tmps := tmpsOf 34 [(0, pt f), (1, fv 26)] rest, defers := d } s = some (.exit 0, { tmps := tmpsOf 34 [(0, pt f), (1, fv 26)] rest', defers := d }, s') ∧ After s s' [f] [(f, lx b i)] := by
  exact round_by hov [.m 0 0, .m 0 0, .yes 1 (show (↑i : Int) < (↑(ByteArray.size b) : Int) from by omega), .yes 0 (show (↑i : Int) < (↑(ByteArray.size b) : Int) from by omega), .yes 0 (show (↑i : Int) < (↑(ByteArray.size b) : Int) from by omega), .yes 0 (show (↑i : Int) < (↑(ByteArray.size b) : Int) from by omega), .yes 0 (show (↑i : Int) < (↑(ByteArray.size b) : Int) from by omega), .m 0 0, .yes 1 (show (↑i : Int) < (↑(ByteArray.size b) : Int) from by omega), .yes 0 (show (↑i : Int) < (↑(ByteArray.size b) : Int) from by omega), .yes 0 (show (↑i : Int) < (↑(ByteArray.size b) : Int) from by omega), .yes 0 (show (↑i : Int) < (↑(ByteArray.size b) : Int) from by omega), .m 0 0, .yes 1 (show (↑i : Int) < (↑(ByteArray.size b) : Int) from by omega), .yes 1 h1, .yes 0 (show (↑i : Int) < (↑(ByteArray.size b) : Int) from by omega), .yes 1 (show (↑i : Int) < (↑(ByteArray.size b) : Int) from by omega), .is 0 h3, .m 0 0] [0] (by kernel_rfl)
theorem while_digit_end (q f i : Nat) (b : ByteArray) (d : List Deferred) (rest : Nat → Value) (s : St) (hov : Holds s [(f, lx b i)]) (h1 : ¬ i < b.size) (h2 : b.size ≤ 65536) :
    ∃ rest' s', evalCode EW (callN EW NN q) NN whileL { tmps := tmpsOf 34 [(0, pt f), (1, fv 26)] rest, defers := d } s = some (.exit 0, { tmps := tmpsOf 34 [(0, pt f), (1, fv 26)] rest', defers := d }, s') ∧ After s s' [f] [(f, lx b i)] := by
  exact round_by hov [.m 0 0, .m 0 0, .no 1 (show ¬ ((↑i : Int) < (↑(ByteArray.size b) : Int)) from by omega), .no 0 (show ¬ ((↑i : Int) < (↑(ByteArray.size b) : Int)) from by omega), .no 0 (show ¬ ((↑i : Int) < (↑(ByteArray.size b) : Int)) from by omega), .no 0 (show ¬ ((↑i : Int) < (↑(ByteArray.size b) : Int)) from by omega), .no 0 (show ¬ ((↑i : Int) < (↑(ByteArray.size b) : Int)) from by omega), .no 0 (show ¬ ((↑i : Int) < (↑(ByteArray.size b) : Int)) from by omega), .no 0 (show ¬ ((↑i : Int) < (↑(ByteArray.size b) : Int)) from by omega), .no 0 (show ¬ ((↑i : Int) < (↑(ByteArray.size b) : Int)) from by omega), .no 0 (show ¬ ((↑i : Int) < (↑(ByteArray.size b) : Int)) from by omega), .no 0 (show ¬ ((↑i : Int) < (↑(ByteArray.size b) : Int)) from by omega), .no 0 (show ¬ ((↑i : Int) < (↑(ByteArray.size b) : Int)) from by omega), .no 0 (show ¬ ((↑i : Int) < (↑(ByteArray.size b) : Int)) from by omega), .m 0 0] [0] (by kernel_rfl)
theorem while_digit_loop (q i : Nat) (b : ByteArray) (d : List Deferred) (h1 : i ≤ b.size) (h2 : b.size ≤ 65536) :
    Loops1 (lx b i) (evalCode EW (callN EW NN q) NN (.loop whileL)) 34 d (fun f => [(0, pt f), (1, fv 26)]) (.exit 0) (fun f _ => [(0, pt f), (1, fv 26)]) (fun f _ => [(f, lx b (runTo isDigit b i))]) := by
  intro f rest s hov
  refine loop_pi (fun j => [(0, pt f), (1, fv 26)]) (fun j => [(f, lx b j)]) (fun j => b.size - j) (fun j => j ≤ b.size ∧ runTo isDigit b j = runTo isDigit b i) (by simp) (fun j hj rest s' hA => ?_) i ⟨h1, rfl⟩ (by show b.size - i < 1048576; omega) hov rest
  obtain ⟨hj, ht⟩ := hj
  have hov' := hA.holds
  by_cases hlt : j < b.size
  · have hu : runTo isDigit b j = if isDigit (byt b j) = true then runTo isDigit b (j + 1) else j := by
      rw [runTo, if_pos hlt]
    cases h3 : isDigit (byt b j)
    · right
      rw [h3] at hu
      refine ⟨[], ?_⟩
      rw [← ht, hu]
      exact while_digit_stop q f j b d rest s' hov' hlt h2 h3
    · left
      rw [h3] at hu
      obtain ⟨rest', s'', g1, g2⟩ := while_digit_go q f j b d rest s' hov' hlt h2 h3
      exact ⟨j + 1, rest', s'', ⟨by omega, by rw [← ht, hu]; simp⟩, by omega, g1, g2⟩
  · right
    have hu : runTo isDigit b j = j := by rw [runTo, if_neg hlt]
    refine ⟨[], ?_⟩
    rw [← ht, hu]
    exact while_digit_end q f j b d rest s' hov' hlt h2
theorem while_digit (q : Nat) : Whiles q 26 isDigit := by
  intro b i h1 h2 f s hov
  have l1 := (while_digit_loop q i b [] h1 h2).ev
  exact fnk_by hov [.loop 0 0 [0] l1, .m 0 0] [] [0] (by kernel_rfl) (by kernel_rfl)

end Go.Proofs.YtiabpbememhdeaaDoor

/-
  The lexer's seat: 'blanks', 'digitAt', 'give'.
-/
set_option linter.unusedVariables false
set_option linter.unusedSimpArgs false
namespace Go.Proofs.YtiabpbememhdeaaDoor
open Go.Ai Go.RowKit
set_option maxRecDepth 100000

def fBlanks : FuncId := 15
noncomputable def blanksL : Code := loopAt Tryd.prog fBlanks 0

/-- Two strokes stand here. -/
abbrev dd (s : ByteArray) (j : Nat) : Bool := Lib.hasPrefix (s.extract j s.size).data.toList [45, 45]

/-- Where blanks and comments end. -/
def blanksG (s : ByteArray) (i : Nat) : Nat :=
  if dd s (runTo isBlank s i) = true ∧ i < runTo notLine s (runTo isBlank s i) ∧ runTo notLine s (runTo isBlank s i) ≤ s.size then blanksG s (runTo notLine s (runTo isBlank s i)) else runTo isBlank s i
termination_by s.size - i

theorem dd_at {s : ByteArray} {j : Nat} (h : dd s j = true) : j + 1 < s.size ∧ byt s j = 45 ∧ byt s (j + 1) = 45 := by
  unfold dd at h
  rw [bytes_rest] at h
  obtain ⟨h1, h2⟩ := prefix2 h
  have := (List.getElem?_eq_some_iff.1 h2).1
  exact ⟨this, by rw [byt_of h1]; rfl, by rw [byt_of h2]; rfl⟩

theorem dd_more {s : ByteArray} {j : Nat} (h : dd s j = true) : j < runTo notLine s j ∧ runTo notLine s j ≤ s.size := by
  obtain ⟨h1, h2, _⟩ := dd_at h
  have hj : j < s.size := by omega
  refine ⟨?_, runTo_le _ _ _ (by omega)⟩
  rw [runTo, if_pos hj, if_pos (by rw [h2]; rfl)]
  have := runTo_ge notLine s (j + 1)
  omega

theorem blanks_more (q f i : Nat) (b : ByteArray) (d : List Deferred) (rest : Nat → Value) (s : St) (hov : Holds s [(f, lx b i)]) (h1 : i ≤ b.size) (h2 : b.size ≤ 65536) (h3 : dd b (runTo isBlank b i) = true) (h4 : runTo isBlank b i ≤ b.size) (h5 : i ≤ runTo isBlank b i) :
    ∃ rest' s', evalCode EW (callN EW NN (q + 1)) NN blanksL { tmps := tmpsOf 17 [(0, pt f)] rest, defers := d } s = some (.normal, { tmps := tmpsOf 17 [(0, pt f)] rest', defers := d }, s') ∧ After s s' [f] [(f, lx b (runTo notLine b (runTo isBlank b i)))] := by
  have l1 := (while_blank q b i h1 h2).ev
  have l2 := (while_line q b (runTo isBlank b i) h4 h2).ev
  exact round_by hov [.call 0 0 [0] l1, .m 0 0, .m 0 0, .yes 2 h4, .yes 0 (show ByteArray.size b ≤ ByteArray.size b from by omega), .is 1 (congrArg not h3), .call 0 0 [0] l2, .m 0 0] [0] (by kernel_rfl)
theorem blanks_stop (q f i : Nat) (b : ByteArray) (d : List Deferred) (rest : Nat → Value) (s : St) (hov : Holds s [(f, lx b i)]) (h1 : i ≤ b.size) (h2 : b.size ≤ 65536) (h3 : dd b (runTo isBlank b i) = false) (h4 : runTo isBlank b i ≤ b.size) (h5 : i ≤ runTo isBlank b i) :
    ∃ rest' s', evalCode EW (callN EW NN (q + 1)) NN blanksL { tmps := tmpsOf 17 [(0, pt f)] rest, defers := d } s = some (.ret, { tmps := tmpsOf 17 [(0, pt f)] rest', defers := d }, s') ∧ After s s' [f] [(f, lx b (runTo isBlank b i))] := by
  have l1 := (while_blank q b i h1 h2).ev
  exact round_by hov [.call 0 0 [0] l1, .m 0 0, .m 0 0, .yes 2 h4, .yes 0 (show ByteArray.size b ≤ ByteArray.size b from by omega), .is 1 (congrArg not h3), .m 0 0] [0] (by kernel_rfl)

theorem blanks_loop (q i : Nat) (b : ByteArray) (d : List Deferred) (h1 : i ≤ b.size) (h2 : b.size ≤ 65536) :
    Loops1 (lx b i) (evalCode EW (callN EW NN (q + 1)) NN (.loop blanksL)) 17 d (fun f => [(0, pt f)]) .ret (fun f _ => [(0, pt f)]) (fun f _ => [(f, lx b (blanksG b i))]) := by
  intro f rest s hov
  refine loop_pi (fun j => [(0, pt f)]) (fun j => [(f, lx b j)]) (fun j => b.size - j) (fun j => j ≤ b.size ∧ blanksG b j = blanksG b i) (by simp) (fun j hj rest s' hA => ?_) i ⟨h1, rfl⟩ (by show b.size - i < 1048576; omega) hov rest
  obtain ⟨hj, ht⟩ := hj
  have hov' := hA.holds
  have g4 := runTo_le isBlank b j hj
  have g5 := runTo_ge isBlank b j
  cases h3 : dd b (runTo isBlank b j)
  · right
    have hu : blanksG b j = runTo isBlank b j := by rw [blanksG, if_neg (by rw [h3]; simp)]
    refine ⟨[], ?_⟩
    rw [← ht, hu]
    exact blanks_stop q f j b d rest s' hov' hj h2 h3 g4 g5
  · left
    obtain ⟨g6, g7⟩ := dd_more h3
    have hu : blanksG b j = blanksG b (runTo notLine b (runTo isBlank b j)) := by rw [blanksG, if_pos ⟨h3, by omega, g7⟩]
    obtain ⟨rest', s'', e1, e2⟩ := blanks_more q f j b d rest s' hov' hj h2 h3 g4 g5
    exact ⟨_, rest', s'', ⟨g7, by rw [← ht, hu]⟩, by omega, e1, e2⟩

theorem blanks_ok (q : Nat) (b : ByteArray) (i : Nat) (h1 : i ≤ b.size) (h2 : b.size ≤ 65536) : Calls1 (lx b i) (fun f => callN EW NN (q + 2) fBlanks [pt f]) (fun _ _ => .ok (.tuple #[])) (fun f _ => [(f, lx b (blanksG b i))]) := by
  intro f s hov
  have l1 := (blanks_loop q i b [] h1 h2).ev
  exact fnk_by hov [.loop 0 0 [0] l1, .m 0 0] [] [0] (by kernel_rfl) (by kernel_rfl)

theorem blanksG_le (s : ByteArray) (i : Nat) (hi : i ≤ s.size) : i ≤ blanksG s i ∧ blanksG s i ≤ s.size := by
  have h1 := runTo_ge isBlank s i
  have h2 := runTo_le isBlank s i hi
  unfold blanksG
  split
  next h =>
    have := blanksG_le s _ h.2.2
    omega
  next h => exact ⟨h1, h2⟩
termination_by s.size - i

end Go.Proofs.YtiabpbememhdeaaDoor

/-
  The lexer's seat: 'digitAt', 'give', 'number'.
-/
set_option linter.unusedVariables false
set_option linter.unusedSimpArgs false
namespace Go.Proofs.YtiabpbememhdeaaDoor
open Go.Ai Go.RowKit
set_option maxRecDepth 100000

def dgAt (b : ByteArray) (j : Nat) : Bool := if j < b.size then isDigit (byt b j) else false

def fDigitAt : FuncId := 31
def fGive : FuncId := 17
def fNumber : FuncId := 27

theorem digitAt_in (q : Nat) (b : ByteArray) (i k : Nat) (h1 : i + k < b.size) (h2 : b.size ≤ 65536) : Calls1 (lx b i) (fun f => callN EW NN (q + 1) fDigitAt [pt f, .int .i64 (k : Int)]) (fun _ _ => .ok (.bool (isDigit (byt b (i + k))))) (fun f _ => [(f, lx b i)]) := by
  intro f s hov
  exact fnkj_by hov [.m 0 0, .int 1 (wrap_i64 (n := (↑i : Int) + (↑k : Int)) (by omega) (by omega)), .m 0 0, .yes 1 (show (↑i : Int) + (↑k : Int) < (↑(ByteArray.size b) : Int) from by omega), .yes 0 (show (↑i : Int) + (↑k : Int) < (↑(ByteArray.size b) : Int) from by omega), .yes 0 (show (↑i : Int) + (↑k : Int) < (↑(ByteArray.size b) : Int) from by omega), .yes 0 (show (↑i : Int) + (↑k : Int) < (↑(ByteArray.size b) : Int) from by omega), .m 0 0, .yes 1 (show (↑i : Int) + (↑k : Int) < (↑(ByteArray.size b) : Int) from by omega), .yes 0 (show (↑i : Int) + (↑k : Int) < (↑(ByteArray.size b) : Int) from by omega), .yes 0 (show (↑i : Int) + (↑k : Int) < (↑(ByteArray.size b) : Int) from by omega), .yes 0 (show (↑i : Int) + (↑k : Int) < (↑(ByteArray.size b) : Int) from by omega), .m 0 0, .yes 1 (show (↑i : Int) + (↑k : Int) < (↑(ByteArray.size b) : Int) from by omega), .yes 0 (show (↑i : Int) + (↑k : Int) < (↑(ByteArray.size b) : Int) from by omega), .int 0 (wrap_i64 (n := (↑i : Int) + (↑k : Int)) (by omega) (by omega)), .yes 0 (show (↑i : Int) + (↑k : Int) < (↑(ByteArray.size b) : Int) from by omega), .yes 1 h1, .yes 0 (show (↑i : Int) + (↑k : Int) < (↑(ByteArray.size b) : Int) from by omega), .yes 1 (show (↑i : Int) + (↑k : Int) < (↑(ByteArray.size b) : Int) from by omega), .m 0 0] [] [0] (by kernel_rfl) (by kernel_rfl)
theorem digitAt_out (q : Nat) (b : ByteArray) (i k : Nat) (h1 : ¬ i + k < b.size) (h2 : b.size ≤ 65536) (h3 : i ≤ 65536) (h4 : k < 100) : Calls1 (lx b i) (fun f => callN EW NN (q + 1) fDigitAt [pt f, .int .i64 (k : Int)]) (fun _ _ => .ok (.bool false)) (fun f _ => [(f, lx b i)]) := by
  intro f s hov
  exact fnkj_by hov [.m 0 0, .int 1 (wrap_i64 (n := (↑i : Int) + (↑k : Int)) (by omega) (by omega)), .m 0 0, .no 1 (show ¬ ((↑i : Int) + (↑k : Int) < (↑(ByteArray.size b) : Int)) from by omega), .no 0 (show ¬ ((↑i : Int) + (↑k : Int) < (↑(ByteArray.size b) : Int)) from by omega), .no 0 (show ¬ ((↑i : Int) + (↑k : Int) < (↑(ByteArray.size b) : Int)) from by omega), .no 0 (show ¬ ((↑i : Int) + (↑k : Int) < (↑(ByteArray.size b) : Int)) from by omega), .no 0 (show ¬ ((↑i : Int) + (↑k : Int) < (↑(ByteArray.size b) : Int)) from by omega), .no 0 (show ¬ ((↑i : Int) + (↑k : Int) < (↑(ByteArray.size b) : Int)) from by omega), .no 0 (show ¬ ((↑i : Int) + (↑k : Int) < (↑(ByteArray.size b) : Int)) from by omega), .no 0 (show ¬ ((↑i : Int) + (↑k : Int) < (↑(ByteArray.size b) : Int)) from by omega), .no 0 (show ¬ ((↑i : Int) + (↑k : Int) < (↑(ByteArray.size b) : Int)) from by omega), .no 0 (show ¬ ((↑i : Int) + (↑k : Int) < (↑(ByteArray.size b) : Int)) from by omega), .no 0 (show ¬ ((↑i : Int) + (↑k : Int) < (↑(ByteArray.size b) : Int)) from by omega), .no 0 (show ¬ ((↑i : Int) + (↑k : Int) < (↑(ByteArray.size b) : Int)) from by omega), .no 0 (show ¬ ((↑i : Int) + (↑k : Int) < (↑(ByteArray.size b) : Int)) from by omega), .m 0 0] [] [0] (by kernel_rfl) (by kernel_rfl)
theorem digitAt_ok (q : Nat) (b : ByteArray) (i k : Nat) (h2 : b.size ≤ 65536) (h3 : i ≤ 65536) (h4 : k < 100) : Calls1 (lx b i) (fun f => callN EW NN (q + 1) fDigitAt [pt f, .int .i64 (k : Int)]) (fun _ _ => .ok (.bool (dgAt b (i + k)))) (fun f _ => [(f, lx b i)]) := by
  unfold dgAt
  split
  next h1 => exact digitAt_in q b i k h1 h2
  next h1 => exact digitAt_out q b i k h1 h2 h3 h4

theorem dgAt_lt {b : ByteArray} {j : Nat} (h : dgAt b j = true) : j < b.size := by
  unfold dgAt at h
  split at h
  · assumption
  · cases h

abbrev wrong (at_ e : Int) : Value := .iface 36 (.agg #[.int .i64 at_, .int .i64 e])

theorem give_ok (q : Nat) (f : Nat) (at_ e : Int) : Calls0 (callN EW NN (q + 1) fGive [pt f, .int .i64 at_, .int .i64 e]) (fun _ => .pan (wrong at_ e)) (fun _ => []) := by
  intro s
  exact fnkj_by (holds_nil s) [.m 0 0] [] [] (by kernel_rfl) (by kernel_rfl)

/-- A dot stands here. -/
abbrev dot (b : ByteArray) (j : Nat) : Bool := Lib.hasPrefix (b.extract j b.size).data.toList [46]
def dotEnd (b : ByteArray) (j : Nat) : Nat := if dot b j = true then (if dgAt b (j + 1) = true then runTo isDigit b (j + 1) else j) else j

noncomputable abbrev numP (k : Nat) : Code := pieceAt Tryd.prog fNumber k
abbrev numLive (f c i : Nat) : List (Nat × Value) := [(0, pt f), (2, pt c), (3, .int .i64 (i : Int))]

theorem dot_piece (q i j c : Nat) (b : ByteArray) (d : List Deferred) (h1 : j ≤ b.size) (h2 : b.size ≤ 65536) :
    Loops1 (lx b j) (evalCode EW (callN EW NN (q + 1)) NN (numP 4)) 185 d (fun f => numLive f c i) .normal (fun f _ => numLive f c i) (fun f _ => [(f, lx b (dotEnd b j))]) := by
  intro f rest s hov
  unfold dotEnd
  have l1 := (digitAt_ok q b j 1 h2 (by omega) (by omega)).ev
  cases h3 : dot b j
  · simp only [Bool.false_eq_true, if_false]
    exact roundkj_by hov [.m 0 0, .m 0 0, .yes 2 h1, .yes 0 (show ByteArray.size b ≤ ByteArray.size b from by omega), .is 1 h3, .is 0 h3, .is 0 h3, .m 0 0] [] [0] (by kernel_rfl) (by kernel_rfl)
  · cases h4 : dgAt b (j + 1)
    · simp only [Bool.false_eq_true, if_false, if_true]
      exact roundkj_by hov [.m 0 0, .m 0 0, .yes 2 h1, .yes 0 (show ByteArray.size b ≤ ByteArray.size b from by omega), .is 1 h3, .is 0 h3, .call 0 0 [0] l1, .is 0 h3, .m 1 0, .m 1 0, .yes 2 h1, .yes 0 (show ByteArray.size b ≤ ByteArray.size b from by omega), .is 0 h4, .m 0 0] [] [0] (by kernel_rfl) (by kernel_rfl)
    · simp only [if_true]
      have h5 := dgAt_lt h4
      have l2 := (while_digit q b (j + 1) (by omega) h2).ev
      exact roundkj_by hov [.m 0 0, .m 0 0, .yes 2 h1, .yes 0 (show ByteArray.size b ≤ ByteArray.size b from by omega), .is 1 h3, .is 0 h3, .call 0 0 [0] l1, .is 0 h3, .m 1 0, .m 1 0, .yes 2 h1, .yes 0 (show ByteArray.size b ≤ ByteArray.size b from by omega), .is 0 h4, .m 0 0, .int 0 (wrap_i64 (n := (↑j : Int) + (1 : Int)) (by omega) (by omega)), .m 0 0, .m 0 0, .call 0 0 [0] l2, .m 0 0] [] [0] (by kernel_rfl) (by kernel_rfl)


/-- How far ahead an exponent's digits stand. -/
def expFar (b : ByteArray) (j : Nat) : Nat := if j + 1 < b.size then (if (byt b (j + 1) == 43) = true then 2 else if (byt b (j + 1) == 45) = true then 2 else 1) else 1
def expTo (b : ByteArray) (j : Nat) : Nat := if dgAt b (j + expFar b j) = true then runTo isDigit b (j + expFar b j) else j
def expEnd (b : ByteArray) (j : Nat) : Nat := if j < b.size then (if (byt b j == 101) = true then expTo b j else if (byt b j == 69) = true then expTo b j else j) else j

theorem exp_far (q j c i : Nat) (b : ByteArray) (d : List Deferred) (h1 : j < b.size) (h2 : b.size ≤ 65536) :
    Loops1 (lx b j) (evalCode EW (callN EW NN (q + 1)) NN (numP 12)) 185 d (fun f => numLive f c i ++ [(4, .int .i64 1)]) .normal (fun f _ => numLive f c i ++ [(4, .int .i64 (expFar b j : Int))]) (fun f _ => [(f, lx b j)]) := by
  intro f rest s hov
  unfold expFar
  by_cases h3 : j + 1 < b.size
  · simp only [h3, if_true]
    cases h4 : byt b (j + 1) == 43
    · cases h5 : byt b (j + 1) == 45
      · simp only [Bool.false_eq_true, if_false]
        exact roundkj_by hov [.m 0 0, .int 0 (wrap_i64 (n := (↑j : Int) + (1 : Int)) (by omega) (by omega)), .m 0 0, .yes 1 (show (↑j : Int) + (1 : Int) < (↑(ByteArray.size b) : Int) from by omega), .yes 0 (show (↑j : Int) + (1 : Int) < (↑(ByteArray.size b) : Int) from by omega), .yes 0 (show (↑j : Int) + (1 : Int) < (↑(ByteArray.size b) : Int) from by omega), .yes 0 (show (↑j : Int) + (1 : Int) < (↑(ByteArray.size b) : Int) from by omega), .m 0 0, .yes 1 (show (↑j : Int) + (1 : Int) < (↑(ByteArray.size b) : Int) from by omega), .yes 0 (show (↑j : Int) + (1 : Int) < (↑(ByteArray.size b) : Int) from by omega), .yes 0 (show (↑j : Int) + (1 : Int) < (↑(ByteArray.size b) : Int) from by omega), .yes 0 (show (↑j : Int) + (1 : Int) < (↑(ByteArray.size b) : Int) from by omega), .m 0 0, .yes 1 (show (↑j : Int) + (1 : Int) < (↑(ByteArray.size b) : Int) from by omega), .int 0 (wrap_i64 (n := (↑j : Int) + (1 : Int)) (by omega) (by omega)), .yes 0 (show (↑j : Int) + (1 : Int) < (↑(ByteArray.size b) : Int) from by omega), .yes 1 h3, .yes 0 (show (↑j : Int) + (1 : Int) < (↑(ByteArray.size b) : Int) from by omega), .yes 0 (show (↑j : Int) + (1 : Int) < (↑(ByteArray.size b) : Int) from by omega), .is 0 h4, .is 0 h4, .is 0 h4, .is 0 h4, .m 0 0, .is 1 h4, .is 0 h4, .is 0 h4, .is 0 h4, .m 0 0, .is 1 h4, .int 0 (wrap_i64 (n := (↑j : Int) + (1 : Int)) (by omega) (by omega)), .is 0 h4, .yes 1 h3, .is 0 h4, .yes 0 (show (↑j : Int) + (1 : Int) < (↑(ByteArray.size b) : Int) from by omega), .is 0 h4, .yes 0 (show (↑j : Int) + (1 : Int) < (↑(ByteArray.size b) : Int) from by omega), .is 0 h5, .m 0 0] [] [0] (by kernel_rfl) (by kernel_rfl)
      · simp only [Bool.false_eq_true, if_false, if_true]
        exact roundkj_by hov [.m 0 0, .int 0 (wrap_i64 (n := (↑j : Int) + (1 : Int)) (by omega) (by omega)), .m 0 0, .yes 1 (show (↑j : Int) + (1 : Int) < (↑(ByteArray.size b) : Int) from by omega), .yes 0 (show (↑j : Int) + (1 : Int) < (↑(ByteArray.size b) : Int) from by omega), .yes 0 (show (↑j : Int) + (1 : Int) < (↑(ByteArray.size b) : Int) from by omega), .yes 0 (show (↑j : Int) + (1 : Int) < (↑(ByteArray.size b) : Int) from by omega), .m 0 0, .yes 1 (show (↑j : Int) + (1 : Int) < (↑(ByteArray.size b) : Int) from by omega), .yes 0 (show (↑j : Int) + (1 : Int) < (↑(ByteArray.size b) : Int) from by omega), .yes 0 (show (↑j : Int) + (1 : Int) < (↑(ByteArray.size b) : Int) from by omega), .yes 0 (show (↑j : Int) + (1 : Int) < (↑(ByteArray.size b) : Int) from by omega), .m 0 0, .yes 1 (show (↑j : Int) + (1 : Int) < (↑(ByteArray.size b) : Int) from by omega), .int 0 (wrap_i64 (n := (↑j : Int) + (1 : Int)) (by omega) (by omega)), .yes 0 (show (↑j : Int) + (1 : Int) < (↑(ByteArray.size b) : Int) from by omega), .yes 1 h3, .yes 0 (show (↑j : Int) + (1 : Int) < (↑(ByteArray.size b) : Int) from by omega), .yes 0 (show (↑j : Int) + (1 : Int) < (↑(ByteArray.size b) : Int) from by omega), .is 0 h4, .is 0 h4, .is 0 h4, .is 0 h4, .m 0 0, .is 1 h4, .is 0 h4, .is 0 h4, .is 0 h4, .m 0 0, .is 1 h4, .int 0 (wrap_i64 (n := (↑j : Int) + (1 : Int)) (by omega) (by omega)), .is 0 h4, .yes 1 h3, .is 0 h4, .yes 0 (show (↑j : Int) + (1 : Int) < (↑(ByteArray.size b) : Int) from by omega), .is 0 h4, .yes 0 (show (↑j : Int) + (1 : Int) < (↑(ByteArray.size b) : Int) from by omega), .is 0 h5, .m 0 0] [] [0] (by kernel_rfl) (by kernel_rfl)
    · simp only [if_true]
      exact roundkj_by hov [.m 0 0, .int 0 (wrap_i64 (n := (↑j : Int) + (1 : Int)) (by omega) (by omega)), .m 0 0, .yes 1 (show (↑j : Int) + (1 : Int) < (↑(ByteArray.size b) : Int) from by omega), .yes 0 (show (↑j : Int) + (1 : Int) < (↑(ByteArray.size b) : Int) from by omega), .yes 0 (show (↑j : Int) + (1 : Int) < (↑(ByteArray.size b) : Int) from by omega), .yes 0 (show (↑j : Int) + (1 : Int) < (↑(ByteArray.size b) : Int) from by omega), .m 0 0, .yes 1 (show (↑j : Int) + (1 : Int) < (↑(ByteArray.size b) : Int) from by omega), .yes 0 (show (↑j : Int) + (1 : Int) < (↑(ByteArray.size b) : Int) from by omega), .yes 0 (show (↑j : Int) + (1 : Int) < (↑(ByteArray.size b) : Int) from by omega), .yes 0 (show (↑j : Int) + (1 : Int) < (↑(ByteArray.size b) : Int) from by omega), .m 0 0, .yes 1 (show (↑j : Int) + (1 : Int) < (↑(ByteArray.size b) : Int) from by omega), .int 0 (wrap_i64 (n := (↑j : Int) + (1 : Int)) (by omega) (by omega)), .yes 0 (show (↑j : Int) + (1 : Int) < (↑(ByteArray.size b) : Int) from by omega), .yes 1 h3, .yes 0 (show (↑j : Int) + (1 : Int) < (↑(ByteArray.size b) : Int) from by omega), .yes 0 (show (↑j : Int) + (1 : Int) < (↑(ByteArray.size b) : Int) from by omega), .is 0 h4, .is 0 h4, .is 0 h4, .is 0 h4, .is 0 h4, .is 0 h4, .is 0 h4, .is 0 h4, .is 0 h4, .is 0 h4, .is 0 h4, .yes 0 (show (↑j : Int) + (1 : Int) < (↑(ByteArray.size b) : Int) from by omega), .is 0 h4, .yes 0 (show (↑j : Int) + (1 : Int) < (↑(ByteArray.size b) : Int) from by omega), .m 0 0] [] [0] (by kernel_rfl) (by kernel_rfl)
  · simp only [h3, if_false]
    exact roundkj_by hov [.m 0 0, .int 0 (wrap_i64 (n := (↑j : Int) + (1 : Int)) (by omega) (by omega)), .m 0 0, .no 1 (show ¬ ((↑j : Int) + (1 : Int) < (↑(ByteArray.size b) : Int)) from by omega), .no 0 (show ¬ ((↑j : Int) + (1 : Int) < (↑(ByteArray.size b) : Int)) from by omega), .no 0 (show ¬ ((↑j : Int) + (1 : Int) < (↑(ByteArray.size b) : Int)) from by omega), .no 0 (show ¬ ((↑j : Int) + (1 : Int) < (↑(ByteArray.size b) : Int)) from by omega), .no 0 (show ¬ ((↑j : Int) + (1 : Int) < (↑(ByteArray.size b) : Int)) from by omega), .no 0 (show ¬ ((↑j : Int) + (1 : Int) < (↑(ByteArray.size b) : Int)) from by omega), .no 0 (show ¬ ((↑j : Int) + (1 : Int) < (↑(ByteArray.size b) : Int)) from by omega), .no 0 (show ¬ ((↑j : Int) + (1 : Int) < (↑(ByteArray.size b) : Int)) from by omega), .no 0 (show ¬ ((↑j : Int) + (1 : Int) < (↑(ByteArray.size b) : Int)) from by omega), .no 0 (show ¬ ((↑j : Int) + (1 : Int) < (↑(ByteArray.size b) : Int)) from by omega), .no 0 (show ¬ ((↑j : Int) + (1 : Int) < (↑(ByteArray.size b) : Int)) from by omega), .no 0 (show ¬ ((↑j : Int) + (1 : Int) < (↑(ByteArray.size b) : Int)) from by omega), .no 0 (show ¬ ((↑j : Int) + (1 : Int) < (↑(ByteArray.size b) : Int)) from by omega), .no 0 (show ¬ ((↑j : Int) + (1 : Int) < (↑(ByteArray.size b) : Int)) from by omega), .m 0 0] [] [0] (by kernel_rfl) (by kernel_rfl)

theorem expFar_le (b : ByteArray) (j : Nat) : 1 ≤ expFar b j ∧ expFar b j ≤ 2 := by
  unfold expFar
  split
  · split
    · omega
    · split <;> omega
  · omega

theorem exp_in (q j c i : Nat) (b : ByteArray) (d : List Deferred) (h1 : j < b.size) (h2 : b.size ≤ 65536) :
    Loops1 (lx b j) (evalCode EW (callN EW NN (q + 1)) NN (numP 10)) 185 d (fun f => numLive f c i) .normal (fun f _ => numLive f c i) (fun f _ => [(f, lx b (expTo b j))]) := by
  intro f rest s hov
  unfold expTo
  obtain ⟨h3, h4⟩ := expFar_le b j
  have l1 := (exp_far q j c i b d h1 h2).ev
  have l2 := (digitAt_ok q b j (expFar b j) h2 (by omega) (by omega)).ev
  cases h5 : dgAt b (j + expFar b j)
  · simp only [Bool.false_eq_true, if_false]
    exact roundkj_by hov [.loop 2 0 [0] l1, .call 0 0 [0] l2, .is 0 h5, .m 0 0] [] [0] (by kernel_rfl) (by kernel_rfl)
  · simp only [if_true]
    have h6 := dgAt_lt h5
    have l3 := (while_digit q b (j + expFar b j) (by omega) h2).ev
    exact roundkj_by hov [.loop 2 0 [0] l1, .call 0 0 [0] l2, .is 0 h5, .m 0 0, .int 1 (wrap_i64 (n := (↑j : Int) + (↑(expFar b j) : Int)) (by omega) (by omega)), .m 0 0, .m 0 0, .call 0 0 [0] l3, .m 0 0] [] [0] (by kernel_rfl) (by kernel_rfl)

theorem exp_piece (q i j c : Nat) (b : ByteArray) (d : List Deferred) (h1 : j ≤ b.size) (h2 : b.size ≤ 65536) :
    Loops1 (lx b j) (evalCode EW (callN EW NN (q + 1)) NN (numP 8)) 185 d (fun f => numLive f c i) .normal (fun f _ => numLive f c i) (fun f _ => [(f, lx b (expEnd b j))]) := by
  intro f rest s hov
  unfold expEnd
  by_cases h3 : j < b.size
  · have l1 := (exp_in q j c i b d h3 h2).ev
    simp only [h3, if_true]
    cases h4 : byt b j == 101
    · cases h5 : byt b j == 69
      · simp only [Bool.false_eq_true, if_false]
        exact roundkj_by hov [.m 0 0, .m 0 0, .yes 1 (show (↑j : Int) < (↑(ByteArray.size b) : Int) from by omega), .yes 0 (show (↑j : Int) < (↑(ByteArray.size b) : Int) from by omega), .yes 0 (show (↑j : Int) < (↑(ByteArray.size b) : Int) from by omega), .yes 0 (show (↑j : Int) < (↑(ByteArray.size b) : Int) from by omega), .m 0 0, .yes 1 (show (↑j : Int) < (↑(ByteArray.size b) : Int) from by omega), .yes 0 (show (↑j : Int) < (↑(ByteArray.size b) : Int) from by omega), .yes 0 (show (↑j : Int) < (↑(ByteArray.size b) : Int) from by omega), .yes 0 (show (↑j : Int) < (↑(ByteArray.size b) : Int) from by omega), .m 0 0, .yes 1 (show (↑j : Int) < (↑(ByteArray.size b) : Int) from by omega), .yes 1 h3, .yes 0 (show (↑j : Int) < (↑(ByteArray.size b) : Int) from by omega), .yes 0 (show (↑j : Int) < (↑(ByteArray.size b) : Int) from by omega), .is 0 h4, .is 0 h4, .is 0 h4, .is 0 h4, .m 0 0, .is 1 h4, .is 0 h4, .is 0 h4, .is 0 h4, .m 0 0, .is 1 h4, .yes 1 h3, .is 0 h4, .yes 0 (show (↑j : Int) < (↑(ByteArray.size b) : Int) from by omega), .is 0 h4, .yes 0 (show (↑j : Int) < (↑(ByteArray.size b) : Int) from by omega), .is 0 h5, .m 0 0] [] [0] (by kernel_rfl) (by kernel_rfl)
      · simp only [Bool.false_eq_true, if_false, if_true]
        exact roundkj_by hov [.m 0 0, .m 0 0, .yes 1 (show (↑j : Int) < (↑(ByteArray.size b) : Int) from by omega), .yes 0 (show (↑j : Int) < (↑(ByteArray.size b) : Int) from by omega), .yes 0 (show (↑j : Int) < (↑(ByteArray.size b) : Int) from by omega), .yes 0 (show (↑j : Int) < (↑(ByteArray.size b) : Int) from by omega), .m 0 0, .yes 1 (show (↑j : Int) < (↑(ByteArray.size b) : Int) from by omega), .yes 0 (show (↑j : Int) < (↑(ByteArray.size b) : Int) from by omega), .yes 0 (show (↑j : Int) < (↑(ByteArray.size b) : Int) from by omega), .yes 0 (show (↑j : Int) < (↑(ByteArray.size b) : Int) from by omega), .m 0 0, .yes 1 (show (↑j : Int) < (↑(ByteArray.size b) : Int) from by omega), .yes 1 h3, .yes 0 (show (↑j : Int) < (↑(ByteArray.size b) : Int) from by omega), .yes 0 (show (↑j : Int) < (↑(ByteArray.size b) : Int) from by omega), .is 0 h4, .is 0 h4, .is 0 h4, .is 0 h4, .m 0 0, .is 1 h4, .is 0 h4, .is 0 h4, .is 0 h4, .m 0 0, .is 1 h4, .yes 1 h3, .is 0 h4, .yes 0 (show (↑j : Int) < (↑(ByteArray.size b) : Int) from by omega), .is 0 h4, .yes 0 (show (↑j : Int) < (↑(ByteArray.size b) : Int) from by omega), .is 0 h5, .loop 0 0 [0] l1, .m 0 0] [] [0] (by kernel_rfl) (by kernel_rfl)
    · simp only [if_true]
      exact roundkj_by hov [.m 0 0, .m 0 0, .yes 1 (show (↑j : Int) < (↑(ByteArray.size b) : Int) from by omega), .yes 0 (show (↑j : Int) < (↑(ByteArray.size b) : Int) from by omega), .yes 0 (show (↑j : Int) < (↑(ByteArray.size b) : Int) from by omega), .yes 0 (show (↑j : Int) < (↑(ByteArray.size b) : Int) from by omega), .m 0 0, .yes 1 (show (↑j : Int) < (↑(ByteArray.size b) : Int) from by omega), .yes 0 (show (↑j : Int) < (↑(ByteArray.size b) : Int) from by omega), .yes 0 (show (↑j : Int) < (↑(ByteArray.size b) : Int) from by omega), .yes 0 (show (↑j : Int) < (↑(ByteArray.size b) : Int) from by omega), .m 0 0, .yes 1 (show (↑j : Int) < (↑(ByteArray.size b) : Int) from by omega), .yes 1 h3, .yes 0 (show (↑j : Int) < (↑(ByteArray.size b) : Int) from by omega), .yes 0 (show (↑j : Int) < (↑(ByteArray.size b) : Int) from by omega), .is 0 h4, .is 0 h4, .is 0 h4, .is 0 h4, .is 0 h4, .is 0 h4, .is 0 h4, .is 0 h4, .is 0 h4, .is 0 h4, .yes 0 (show (↑j : Int) < (↑(ByteArray.size b) : Int) from by omega), .is 0 h4, .yes 0 (show (↑j : Int) < (↑(ByteArray.size b) : Int) from by omega), .loop 1 0 [0] l1, .m 0 0] [] [0] (by kernel_rfl) (by kernel_rfl)
  · simp only [h3, if_false]
    exact roundkj_by hov [.m 0 0, .m 0 0, .no 1 (show ¬ ((↑j : Int) < (↑(ByteArray.size b) : Int)) from by omega), .no 0 (show ¬ ((↑j : Int) < (↑(ByteArray.size b) : Int)) from by omega), .no 0 (show ¬ ((↑j : Int) < (↑(ByteArray.size b) : Int)) from by omega), .no 0 (show ¬ ((↑j : Int) < (↑(ByteArray.size b) : Int)) from by omega), .no 0 (show ¬ ((↑j : Int) < (↑(ByteArray.size b) : Int)) from by omega), .no 0 (show ¬ ((↑j : Int) < (↑(ByteArray.size b) : Int)) from by omega), .no 0 (show ¬ ((↑j : Int) < (↑(ByteArray.size b) : Int)) from by omega), .no 0 (show ¬ ((↑j : Int) < (↑(ByteArray.size b) : Int)) from by omega), .no 0 (show ¬ ((↑j : Int) < (↑(ByteArray.size b) : Int)) from by omega), .no 0 (show ¬ ((↑j : Int) < (↑(ByteArray.size b) : Int)) from by omega), .no 0 (show ¬ ((↑j : Int) < (↑(ByteArray.size b) : Int)) from by omega), .no 0 (show ¬ ((↑j : Int) < (↑(ByteArray.size b) : Int)) from by omega), .no 0 (show ¬ ((↑j : Int) < (↑(ByteArray.size b) : Int)) from by omega), .m 0 0] [] [0] (by kernel_rfl) (by kernel_rfl)

end Go.Proofs.YtiabpbememhdeaaDoor

/-
  The lexer's seat: 'number', whole.
-/
set_option linter.unusedVariables false
set_option linter.unusedSimpArgs false
namespace Go.Proofs.YtiabpbememhdeaaDoor
open Go.Ai Go.RowKit
set_option maxRecDepth 100000

/-- A token's cells. -/
abbrev tokC (k at_ : Int) (s : ByteArray) (n : Int) : List Value := [.int .i64 k, .int .i64 at_, .string s, .int .u64 n]
abbrev tokRow (k at_ : Int) (s : ByteArray) (n : Int) : AObj := .row (tokC k at_ s n) 4 0 0 []
abbrev noS : ByteArray := ⟨#[]⟩

noncomputable abbrev numN (b : ByteArray) (i c : Nat) : Int := (parseF (b.extract i c)).1
noncomputable abbrev numE (b : ByteArray) (i c : Nat) : Int := (parseF (b.extract i c)).2

/-- Where and why what looks like a number is none. -/
noncomputable def numBad (b : ByteArray) (i c : Nat) : Option (Int × Int) :=
  if (!(numE b i c == 0)) = true then some ((i : Int), numE b i c) else if c < b.size then (if isLetter (byt b c) = true then some ((c : Int), 4) else if isDigit (byt b c) = true then some ((c : Int), 4) else none) else none

theorem num_tail_bad (q i j c : Nat) (b : ByteArray) (d : List Deferred) (h1 : i ≤ j) (h2 : j ≤ b.size) (h3 : b.size ≤ 65536) (a e : Int) (hb : numBad b i j = some (a, e)) :
    Loops2 (lx b j) (tokRow 0 0 noS 0) (evalCode EW (callN EW NN (q + 1)) NN (numP 17)) 185 d (fun f c => numLive f c i) (.panic (wrong a e)) (fun f c _ => []) (fun f c _ => [(f, lx b j), (c, tokRow 0 0 noS 0)]) := by
  intro f c rest s hov
  unfold numBad at hb
  have l1 := (give_ok q f (i : Int) (numE b i j)).ev
  have l2 := (give_ok q f (j : Int) 4).ev
  cases h4 : (!(numE b i j == 0))
  · simp only [h4, Bool.false_eq_true, if_false] at hb
    by_cases h5 : j < b.size
    · simp only [h5, if_true] at hb
      cases h6 : isLetter (byt b j)
      · cases h7 : isDigit (byt b j)
        · simp [h6, h7] at hb
        · simp only [h6, h7, Bool.false_eq_true, if_false, if_true, Option.some.injEq, Prod.mk.injEq] at hb
          obtain ⟨rfl, rfl⟩ := hb
          exact roundkj_by hov [.m 0 0, .m 0 0, .yes 3 h1, .yes 0 h2, .is 1 h4, .m 0 0, .m 0 0, .yes 1 (show (↑j : Int) < (↑(ByteArray.size b) : Int) from by omega), .yes 0 (show (↑j : Int) < (↑(ByteArray.size b) : Int) from by omega), .yes 0 (show (↑j : Int) < (↑(ByteArray.size b) : Int) from by omega), .yes 0 (show (↑j : Int) < (↑(ByteArray.size b) : Int) from by omega), .m 0 0, .yes 1 (show (↑j : Int) < (↑(ByteArray.size b) : Int) from by omega), .yes 0 (show (↑j : Int) < (↑(ByteArray.size b) : Int) from by omega), .yes 0 (show (↑j : Int) < (↑(ByteArray.size b) : Int) from by omega), .yes 0 (show (↑j : Int) < (↑(ByteArray.size b) : Int) from by omega), .m 0 0, .yes 1 (show (↑j : Int) < (↑(ByteArray.size b) : Int) from by omega), .yes 1 h5, .yes 0 (show (↑j : Int) < (↑(ByteArray.size b) : Int) from by omega), .yes 1 (show (↑j : Int) < (↑(ByteArray.size b) : Int) from by omega), .is 0 h6, .is 0 h6, .is 0 h6, .is 0 h6, .m 0 0, .is 1 h6, .is 0 h6, .is 0 h6, .is 0 h6, .m 0 0, .is 1 h6, .yes 1 h5, .is 0 h6, .yes 1 (show (↑j : Int) < (↑(ByteArray.size b) : Int) from by omega), .is 0 h6, .yes 0 (show (↑j : Int) < (↑(ByteArray.size b) : Int) from by omega), .is 0 h7, .m 0 0, .call 0 0 [] l2, .m 0 0] [] [0, 1] (by kernel_rfl) (by kernel_rfl)
      · simp only [h6, if_true, Option.some.injEq, Prod.mk.injEq] at hb
        obtain ⟨rfl, rfl⟩ := hb
        exact roundkj_by hov [.m 0 0, .m 0 0, .yes 3 h1, .yes 0 h2, .is 1 h4, .m 0 0, .m 0 0, .yes 1 (show (↑j : Int) < (↑(ByteArray.size b) : Int) from by omega), .yes 0 (show (↑j : Int) < (↑(ByteArray.size b) : Int) from by omega), .yes 0 (show (↑j : Int) < (↑(ByteArray.size b) : Int) from by omega), .yes 0 (show (↑j : Int) < (↑(ByteArray.size b) : Int) from by omega), .m 0 0, .yes 1 (show (↑j : Int) < (↑(ByteArray.size b) : Int) from by omega), .yes 0 (show (↑j : Int) < (↑(ByteArray.size b) : Int) from by omega), .yes 0 (show (↑j : Int) < (↑(ByteArray.size b) : Int) from by omega), .yes 0 (show (↑j : Int) < (↑(ByteArray.size b) : Int) from by omega), .m 0 0, .yes 1 (show (↑j : Int) < (↑(ByteArray.size b) : Int) from by omega), .yes 1 h5, .yes 0 (show (↑j : Int) < (↑(ByteArray.size b) : Int) from by omega), .yes 1 (show (↑j : Int) < (↑(ByteArray.size b) : Int) from by omega), .is 0 h6, .is 0 h6, .is 0 h6, .is 0 h6, .is 0 h6, .is 0 h6, .is 0 h6, .is 0 h6, .is 0 h6, .is 0 h6, .yes 0 (show (↑j : Int) < (↑(ByteArray.size b) : Int) from by omega), .is 0 h6, .yes 0 (show (↑j : Int) < (↑(ByteArray.size b) : Int) from by omega), .m 0 0, .call 0 0 [] l2, .m 0 0] [] [0, 1] (by kernel_rfl) (by kernel_rfl)
    · simp [h5] at hb
  · simp only [h4, if_true, Option.some.injEq, Prod.mk.injEq] at hb
    obtain ⟨rfl, rfl⟩ := hb
    exact roundkj_by hov [.m 0 0, .m 0 0, .yes 3 h1, .yes 0 h2, .is 1 h4, .call 0 0 [] l1, .m 0 0] [] [0, 1] (by kernel_rfl) (by kernel_rfl)

theorem num_tail_ok (q i j c : Nat) (b : ByteArray) (d : List Deferred) (h1 : i ≤ j) (h2 : j ≤ b.size) (h3 : b.size ≤ 65536) (hb : numBad b i j = none) :
    Loops2 (lx b j) (tokRow 0 0 noS 0) (evalCode EW (callN EW NN (q + 1)) NN (numP 17)) 185 d (fun f c => numLive f c i) .ret (fun f c _ => [(2, pt c)]) (fun f c _ => [(f, lx b j), (c, tokRow 2 (i : Int) noS (numN b i j))]) := by
  intro f c rest s hov
  unfold numBad at hb
  cases h4 : (!(numE b i j == 0))
  · simp only [h4, Bool.false_eq_true, if_false] at hb
    by_cases h5 : j < b.size
    · simp only [h5, if_true] at hb
      cases h6 : isLetter (byt b j)
      · cases h7 : isDigit (byt b j)
        · exact roundkj_by hov [.m 0 0, .m 0 0, .yes 3 h1, .yes 0 h2, .is 1 h4, .m 0 0, .m 0 0, .yes 1 (show (↑j : Int) < (↑(ByteArray.size b) : Int) from by omega), .yes 0 (show (↑j : Int) < (↑(ByteArray.size b) : Int) from by omega), .yes 0 (show (↑j : Int) < (↑(ByteArray.size b) : Int) from by omega), .yes 0 (show (↑j : Int) < (↑(ByteArray.size b) : Int) from by omega), .m 0 0, .yes 1 (show (↑j : Int) < (↑(ByteArray.size b) : Int) from by omega), .yes 0 (show (↑j : Int) < (↑(ByteArray.size b) : Int) from by omega), .yes 0 (show (↑j : Int) < (↑(ByteArray.size b) : Int) from by omega), .yes 0 (show (↑j : Int) < (↑(ByteArray.size b) : Int) from by omega), .m 0 0, .yes 1 (show (↑j : Int) < (↑(ByteArray.size b) : Int) from by omega), .yes 1 h5, .yes 0 (show (↑j : Int) < (↑(ByteArray.size b) : Int) from by omega), .yes 1 (show (↑j : Int) < (↑(ByteArray.size b) : Int) from by omega), .is 0 h6, .is 0 h6, .is 0 h6, .is 0 h6, .m 0 0, .is 1 h6, .is 0 h6, .is 0 h6, .is 0 h6, .m 0 0, .is 1 h6, .yes 1 h5, .is 0 h6, .yes 1 (show (↑j : Int) < (↑(ByteArray.size b) : Int) from by omega), .is 0 h6, .yes 0 (show (↑j : Int) < (↑(ByteArray.size b) : Int) from by omega), .is 0 h7, .m 0 1, .m 0 1, .m 0 0] [] [0, 1] (by kernel_rfl) (by kernel_rfl)
        · simp [h6, h7] at hb
      · simp [h6] at hb
    · exact roundkj_by hov [.m 0 0, .m 0 0, .yes 3 h1, .yes 0 h2, .is 1 h4, .m 0 0, .m 0 0, .no 1 (show ¬ ((↑j : Int) < (↑(ByteArray.size b) : Int)) from by omega), .no 0 (show ¬ ((↑j : Int) < (↑(ByteArray.size b) : Int)) from by omega), .no 0 (show ¬ ((↑j : Int) < (↑(ByteArray.size b) : Int)) from by omega), .no 0 (show ¬ ((↑j : Int) < (↑(ByteArray.size b) : Int)) from by omega), .no 0 (show ¬ ((↑j : Int) < (↑(ByteArray.size b) : Int)) from by omega), .no 0 (show ¬ ((↑j : Int) < (↑(ByteArray.size b) : Int)) from by omega), .no 0 (show ¬ ((↑j : Int) < (↑(ByteArray.size b) : Int)) from by omega), .no 0 (show ¬ ((↑j : Int) < (↑(ByteArray.size b) : Int)) from by omega), .no 0 (show ¬ ((↑j : Int) < (↑(ByteArray.size b) : Int)) from by omega), .no 0 (show ¬ ((↑j : Int) < (↑(ByteArray.size b) : Int)) from by omega), .no 0 (show ¬ ((↑j : Int) < (↑(ByteArray.size b) : Int)) from by omega), .no 0 (show ¬ ((↑j : Int) < (↑(ByteArray.size b) : Int)) from by omega), .no 0 (show ¬ ((↑j : Int) < (↑(ByteArray.size b) : Int)) from by omega), .m 0 1, .m 0 1, .m 0 0] [] [0, 1] (by kernel_rfl) (by kernel_rfl)
  · simp [h4] at hb

def numEnd (b : ByteArray) (i : Nat) : Nat := expEnd b (dotEnd b (runTo isDigit b i))

theorem dotEnd_le (b : ByteArray) (j : Nat) (h : j ≤ b.size) : j ≤ dotEnd b j ∧ dotEnd b j ≤ b.size := by
  unfold dotEnd
  split
  · split
    next h1 =>
      have := dgAt_lt h1
      have h2 := runTo_ge isDigit b (j + 1)
      have h3 := runTo_le isDigit b (j + 1) (by omega)
      omega
    · omega
  · omega

theorem expTo_le (b : ByteArray) (j : Nat) (h : j ≤ b.size) : j ≤ expTo b j ∧ expTo b j ≤ b.size := by
  unfold expTo
  have := expFar_le b j
  split
  next h1 =>
    have := dgAt_lt h1
    have h2 := runTo_ge isDigit b (j + expFar b j)
    have h3 := runTo_le isDigit b (j + expFar b j) (by omega)
    omega
  · omega

theorem expEnd_le (b : ByteArray) (j : Nat) (h : j ≤ b.size) : j ≤ expEnd b j ∧ expEnd b j ≤ b.size := by
  unfold expEnd
  have := expTo_le b j h
  split
  · split
    · exact this
    · split
      · exact this
      · omega
  · omega

theorem numEnd_le (b : ByteArray) (i : Nat) (h : i ≤ b.size) : runTo isDigit b i ≤ numEnd b i ∧ numEnd b i ≤ b.size ∧ dotEnd b (runTo isDigit b i) ≤ b.size ∧ runTo isDigit b i ≤ b.size ∧ i ≤ numEnd b i := by
  have h1 := runTo_ge isDigit b i
  have h2 := runTo_le isDigit b i h
  have h3 := dotEnd_le b _ h2
  have h4 := expEnd_le b _ h3.2
  unfold numEnd
  omega

theorem number_bad (q i : Nat) (b : ByteArray) (h1 : i ≤ b.size) (h2 : b.size ≤ 65536) (a e : Int) (hb : numBad b i (numEnd b i) = some (a, e)) :
    Calls1 (lx b i) (fun f => callN EW NN (q + 2 + 1) fNumber [pt f]) (fun _ _ => .pan (wrong a e)) (fun f _ => [(f, lx b (numEnd b i))]) := by
  intro f s hov
  obtain ⟨g1, g2, g3, g4, g5⟩ := numEnd_le b i h1
  have l1 := (while_digit (q + 1) b i h1 h2).ev
  have l2 := (dot_piece (q + 1) i (runTo isDigit b i) s.next b [] g4 h2).ev
  have l3 := (exp_piece (q + 1) i (dotEnd b (runTo isDigit b i)) s.next b [] g3 h2).ev
  have l4 := (num_tail_bad (q + 1) i (numEnd b i) s.next b [] g5 g2 h2 a e hb).ev
  exact fnkj_by hov [.m 0 0, .m 0 0, .call 0 0 [0] l1, .loop 1 0 [1] l2, .loop 1 0 [1] l3, .loop 0 0 [1, 0] l4, .m 0 0] [] [0] (by kernel_rfl) (by kernel_rfl)

theorem number_good (q i : Nat) (b : ByteArray) (h1 : i ≤ b.size) (h2 : b.size ≤ 65536) (hb : numBad b i (numEnd b i) = none) :
    Calls1 (lx b i) (fun f => callN EW NN (q + 2 + 1) fNumber [pt f]) (fun _ _ => .ok (.agg (tokC 2 (i : Int) noS (numN b i (numEnd b i))).toArray)) (fun f _ => [(f, lx b (numEnd b i))]) := by
  intro f s hov
  obtain ⟨g1, g2, g3, g4, g5⟩ := numEnd_le b i h1
  have l1 := (while_digit (q + 1) b i h1 h2).ev
  have l2 := (dot_piece (q + 1) i (runTo isDigit b i) s.next b [] g4 h2).ev
  have l3 := (exp_piece (q + 1) i (dotEnd b (runTo isDigit b i)) s.next b [] g3 h2).ev
  have l4 := (num_tail_ok (q + 1) i (numEnd b i) s.next b [] g5 g2 h2 hb).ev
  exact fnkj_by hov [.m 0 0, .m 0 0, .call 0 0 [0] l1, .loop 1 0 [1] l2, .loop 1 0 [1] l3, .loop 0 0 [1, 0] l4, .m 0 1, .m 0 0] [] [0] (by kernel_rfl) (by kernel_rfl)

end Go.Proofs.YtiabpbememhdeaaDoor

/-
  The lexer's seat: 'text', its loop.
-/
set_option linter.unusedVariables false
set_option linter.unusedSimpArgs false
namespace Go.Proofs.YtiabpbememhdeaaDoor
open Go.Ai Go.RowKit
set_option maxRecDepth 100000

def fText : FuncId := 28
noncomputable def textL : Code := loopAt Tryd.prog fText 0

/-- What a text comes to: where and why it is none, or where it ends and its bytes. -/
inductive TR where
  | bad (a e : Int)
  | done (j : Nat) (cs : List Value)

def textGo (b : ByteArray) (i : Nat) (j : Nat) (cs : List Value) : TR :=
  if j < b.size then
    if (byt b j == 10) = true then .bad (i : Int) 4
    else if (byt b j == 34) = true then .done j cs
    else if (byt b j == 92) = true then
      if j + 1 < b.size then
        if (byt b (j + 1) == 10) = true then .bad (i : Int) 4
        else if (escapedOf (byt b (j + 1)) == 0) = true then .bad (j : Int) 4
        else textGo b i (j + 2) (cs ++ [.int .u8 (escapedOf (byt b (j + 1)))])
      else .bad (i : Int) 4
    else textGo b i (j + 1) (cs ++ [.int .u8 (byt b j)])
  else .bad (i : Int) 4
termination_by b.size - j

theorem bytesOf_more {cs : List Value} {x : Int} (h : (bytesOf cs).isSome = true) : (bytesOf (cs ++ [.int .u8 x])).isSome = true := by
  induction cs with
  | nil => rfl
  | cons v cs ih =>
    unfold bytesOf at h
    split at h
    next h' => simp at h'
    next h' =>
      cases h'
      rw [List.cons_append, bytesOf, Option.isSome_map]
      rw [Option.isSome_map] at h
      exact ih h
    next => simp at h

abbrev txLive (f c i : Nat) (t4 : Value) : List (Nat × Value) := [(0, pt f), (2, pt c), (3, .int .i64 (i : Int)), (4, t4)]

theorem textA_end (q f c i j : Nat) (b : ByteArray) (d : List Deferred) (rest : Nat → Value) (s : St) (hov : Holds s [(f, lx b j), (c, tokRow 0 0 noS 0)]) (h2 : b.size ≤ 65536) (h1 : ¬ j < b.size) (hi : j ≤ b.size)  :
    ∃ rest' s', evalCode EW (callN EW NN (q + 1)) NN textL { tmps := tmpsOf 141 (txLive f c i (.slice none 0 0)) rest, defers := d } s = some (.panic (wrong (i : Int) 4), { tmps := tmpsOf 141 [] rest', defers := d }, s') ∧ After s s' [f, c] [(f, lx b j), (c, tokRow 0 0 noS 0)] := by
  have l1 := (give_ok q f (i : Int) 4).ev
  exact roundj_by hov [.m 0 0, .m 0 0, .yes 1 (show (↑(ByteArray.size b) : Int) ≤ (↑j : Int) from by omega), .yes 0 (show (↑(ByteArray.size b) : Int) ≤ (↑j : Int) from by omega), .yes 0 (show (↑(ByteArray.size b) : Int) ≤ (↑j : Int) from by omega), .yes 0 (show (↑(ByteArray.size b) : Int) ≤ (↑j : Int) from by omega), .yes 0 (show (↑(ByteArray.size b) : Int) ≤ (↑j : Int) from by omega), .yes 0 (show (↑(ByteArray.size b) : Int) ≤ (↑j : Int) from by omega), .yes 0 (show (↑(ByteArray.size b) : Int) ≤ (↑j : Int) from by omega), .yes 0 (show (↑(ByteArray.size b) : Int) ≤ (↑j : Int) from by omega), .yes 0 (show (↑(ByteArray.size b) : Int) ≤ (↑j : Int) from by omega), .yes 0 (show (↑(ByteArray.size b) : Int) ≤ (↑j : Int) from by omega), .yes 0 (show (↑(ByteArray.size b) : Int) ≤ (↑j : Int) from by omega), .call 0 0 [] l1, .m 0 0] [0, 1] (by kernel_rfl)

theorem textA_line (q f c i j : Nat) (b : ByteArray) (d : List Deferred) (rest : Nat → Value) (s : St) (hov : Holds s [(f, lx b j), (c, tokRow 0 0 noS 0)]) (h2 : b.size ≤ 65536) (h1 : j < b.size) (h3 : (byt b j == 10) = true)  :
    ∃ rest' s', evalCode EW (callN EW NN (q + 1)) NN textL { tmps := tmpsOf 141 (txLive f c i (.slice none 0 0)) rest, defers := d } s = some (.panic (wrong (i : Int) 4), { tmps := tmpsOf 141 [] rest', defers := d }, s') ∧ After s s' [f, c] [(f, lx b j), (c, tokRow 0 0 noS 0)] := by
  have l1 := (give_ok q f (i : Int) 4).ev
  exact roundj_by hov [.m 0 0, .m 0 0, .no 1 (show ¬ ((↑(ByteArray.size b) : Int) ≤ (↑j : Int)) from by omega), .no 0 (show ¬ ((↑(ByteArray.size b) : Int) ≤ (↑j : Int)) from by omega), .no 0 (show ¬ ((↑(ByteArray.size b) : Int) ≤ (↑j : Int)) from by omega), .no 0 (show ¬ ((↑(ByteArray.size b) : Int) ≤ (↑j : Int)) from by omega), .m 0 0, .no 1 (show ¬ ((↑(ByteArray.size b) : Int) ≤ (↑j : Int)) from by omega), .no 0 (show ¬ ((↑(ByteArray.size b) : Int) ≤ (↑j : Int)) from by omega), .no 0 (show ¬ ((↑(ByteArray.size b) : Int) ≤ (↑j : Int)) from by omega), .no 0 (show ¬ ((↑(ByteArray.size b) : Int) ≤ (↑j : Int)) from by omega), .m 0 0, .no 1 (show ¬ ((↑(ByteArray.size b) : Int) ≤ (↑j : Int)) from by omega), .yes 1 h1, .no 0 (show ¬ ((↑(ByteArray.size b) : Int) ≤ (↑j : Int)) from by omega), .no 0 (show ¬ ((↑(ByteArray.size b) : Int) ≤ (↑j : Int)) from by omega), .is 0 h3, .call 0 0 [] l1, .m 0 0] [0, 1] (by kernel_rfl)

theorem textA_stop (q f c i j : Nat) (b : ByteArray) (d : List Deferred) (rest : Nat → Value) (s : St) (hov : Holds s [(f, lx b j), (c, tokRow 0 0 noS 0)]) (h2 : b.size ≤ 65536) (h1 : j < b.size) (h3 : (byt b j == 10) = false) (h4 : (byt b j == 34) = true)  :
    ∃ rest' s', evalCode EW (callN EW NN (q + 1)) NN textL { tmps := tmpsOf 141 (txLive f c i (.slice none 0 0)) rest, defers := d } s = some (.exit 0, { tmps := tmpsOf 141 (txLive f c i (.slice none 0 0)) rest', defers := d }, s') ∧ After s s' [f, c] [(f, lx b j), (c, tokRow 0 0 noS 0)] := by
  exact roundj_by hov [.m 0 0, .m 0 0, .no 1 (show ¬ ((↑(ByteArray.size b) : Int) ≤ (↑j : Int)) from by omega), .no 0 (show ¬ ((↑(ByteArray.size b) : Int) ≤ (↑j : Int)) from by omega), .no 0 (show ¬ ((↑(ByteArray.size b) : Int) ≤ (↑j : Int)) from by omega), .no 0 (show ¬ ((↑(ByteArray.size b) : Int) ≤ (↑j : Int)) from by omega), .m 0 0, .no 1 (show ¬ ((↑(ByteArray.size b) : Int) ≤ (↑j : Int)) from by omega), .no 0 (show ¬ ((↑(ByteArray.size b) : Int) ≤ (↑j : Int)) from by omega), .no 0 (show ¬ ((↑(ByteArray.size b) : Int) ≤ (↑j : Int)) from by omega), .no 0 (show ¬ ((↑(ByteArray.size b) : Int) ≤ (↑j : Int)) from by omega), .m 0 0, .no 1 (show ¬ ((↑(ByteArray.size b) : Int) ≤ (↑j : Int)) from by omega), .yes 1 h1, .no 0 (show ¬ ((↑(ByteArray.size b) : Int) ≤ (↑j : Int)) from by omega), .no 0 (show ¬ ((↑(ByteArray.size b) : Int) ≤ (↑j : Int)) from by omega), .is 0 h3, .m 0 0, .m 0 0, .yes 2 h1, .is 0 h4, .m 0 0] [0, 1] (by kernel_rfl)

theorem textA_char (q f c i j : Nat) (b : ByteArray) (d : List Deferred) (rest : Nat → Value) (s : St) (hov : Holds s [(f, lx b j), (c, tokRow 0 0 noS 0)]) (h2 : b.size ≤ 65536) (h1 : j < b.size) (h3 : (byt b j == 10) = false) (h4 : (byt b j == 34) = false) (h5 : (byt b j == 92) = false)  :
    ∃ (nk : List Nat), ∃ rest' s', evalCode EW (callN EW NN (q + 1)) NN textL { tmps := tmpsOf 141 (txLive f c i (.slice none 0 0)) rest, defers := d } s = some (.normal, { tmps := tmpsOf 141 (txLive f c i (.slice (some ⟨nk.getD 0 0, 0, some 0⟩) 1 unc)) rest', defers := d }, s') ∧ After s s' [f, c] [(f, lx b (j + 1)), (c, tokRow 0 0 noS 0), (nk.getD 0 0, .row [.int .u8 (byt b j)] 1 0 0 [])] := by
  exact roundkj_by hov [.m 0 0, .m 0 0, .no 1 (show ¬ ((↑(ByteArray.size b) : Int) ≤ (↑j : Int)) from by omega), .no 0 (show ¬ ((↑(ByteArray.size b) : Int) ≤ (↑j : Int)) from by omega), .no 0 (show ¬ ((↑(ByteArray.size b) : Int) ≤ (↑j : Int)) from by omega), .no 0 (show ¬ ((↑(ByteArray.size b) : Int) ≤ (↑j : Int)) from by omega), .m 0 0, .no 1 (show ¬ ((↑(ByteArray.size b) : Int) ≤ (↑j : Int)) from by omega), .no 0 (show ¬ ((↑(ByteArray.size b) : Int) ≤ (↑j : Int)) from by omega), .no 0 (show ¬ ((↑(ByteArray.size b) : Int) ≤ (↑j : Int)) from by omega), .no 0 (show ¬ ((↑(ByteArray.size b) : Int) ≤ (↑j : Int)) from by omega), .m 0 0, .no 1 (show ¬ ((↑(ByteArray.size b) : Int) ≤ (↑j : Int)) from by omega), .yes 1 h1, .no 0 (show ¬ ((↑(ByteArray.size b) : Int) ≤ (↑j : Int)) from by omega), .no 0 (show ¬ ((↑(ByteArray.size b) : Int) ≤ (↑j : Int)) from by omega), .is 0 h3, .m 0 0, .m 0 0, .yes 2 h1, .is 0 h4, .is 0 h5, .m 0 0, .m 0 2, .m 0 0, .m 0 0, .int 0 (wrap_i64 (n := (↑j : Int) + (1 : Int)) (by omega) (by omega)), .m 0 0, .m 0 0, .m 0 0] [3] [0, 1, 3] (by kernel_rfl) (by kernel_rfl)

theorem textA_escEnd (q f c i j : Nat) (b : ByteArray) (d : List Deferred) (rest : Nat → Value) (s : St) (hov : Holds s [(f, lx b j), (c, tokRow 0 0 noS 0)]) (h2 : b.size ≤ 65536) (h1 : j < b.size) (h3 : (byt b j == 10) = false) (h4 : (byt b j == 34) = false) (h5 : (byt b j == 92) = true) (h6 : ¬ j + 1 < b.size)  :
    ∃ rest' s', evalCode EW (callN EW NN (q + 1)) NN textL { tmps := tmpsOf 141 (txLive f c i (.slice none 0 0)) rest, defers := d } s = some (.panic (wrong (i : Int) 4), { tmps := tmpsOf 141 [] rest', defers := d }, s') ∧ After s s' [f, c] [(f, lx b j), (c, tokRow 0 0 noS 0)] := by
  have l1 := (give_ok q f (i : Int) 4).ev
  exact roundj_by hov [.m 0 0, .m 0 0, .no 1 (show ¬ ((↑(ByteArray.size b) : Int) ≤ (↑j : Int)) from by omega), .no 0 (show ¬ ((↑(ByteArray.size b) : Int) ≤ (↑j : Int)) from by omega), .no 0 (show ¬ ((↑(ByteArray.size b) : Int) ≤ (↑j : Int)) from by omega), .no 0 (show ¬ ((↑(ByteArray.size b) : Int) ≤ (↑j : Int)) from by omega), .m 0 0, .no 1 (show ¬ ((↑(ByteArray.size b) : Int) ≤ (↑j : Int)) from by omega), .no 0 (show ¬ ((↑(ByteArray.size b) : Int) ≤ (↑j : Int)) from by omega), .no 0 (show ¬ ((↑(ByteArray.size b) : Int) ≤ (↑j : Int)) from by omega), .no 0 (show ¬ ((↑(ByteArray.size b) : Int) ≤ (↑j : Int)) from by omega), .m 0 0, .no 1 (show ¬ ((↑(ByteArray.size b) : Int) ≤ (↑j : Int)) from by omega), .yes 1 h1, .no 0 (show ¬ ((↑(ByteArray.size b) : Int) ≤ (↑j : Int)) from by omega), .no 0 (show ¬ ((↑(ByteArray.size b) : Int) ≤ (↑j : Int)) from by omega), .is 0 h3, .m 0 0, .m 0 0, .yes 2 h1, .is 0 h4, .is 0 h5, .m 0 0, .int 0 (wrap_i64 (n := (↑j : Int) + (1 : Int)) (by omega) (by omega)), .m 0 0, .yes 1 (show (↑(ByteArray.size b) : Int) ≤ (↑j : Int) + (1 : Int) from by omega), .yes 0 (show (↑(ByteArray.size b) : Int) ≤ (↑j : Int) + (1 : Int) from by omega), .yes 0 (show (↑(ByteArray.size b) : Int) ≤ (↑j : Int) + (1 : Int) from by omega), .yes 0 (show (↑(ByteArray.size b) : Int) ≤ (↑j : Int) + (1 : Int) from by omega), .yes 0 (show (↑(ByteArray.size b) : Int) ≤ (↑j : Int) + (1 : Int) from by omega), .yes 0 (show (↑(ByteArray.size b) : Int) ≤ (↑j : Int) + (1 : Int) from by omega), .yes 0 (show (↑(ByteArray.size b) : Int) ≤ (↑j : Int) + (1 : Int) from by omega), .yes 0 (show (↑(ByteArray.size b) : Int) ≤ (↑j : Int) + (1 : Int) from by omega), .yes 0 (show (↑(ByteArray.size b) : Int) ≤ (↑j : Int) + (1 : Int) from by omega), .yes 0 (show (↑(ByteArray.size b) : Int) ≤ (↑j : Int) + (1 : Int) from by omega), .yes 0 (show (↑(ByteArray.size b) : Int) ≤ (↑j : Int) + (1 : Int) from by omega), .yes 0 (show (↑(ByteArray.size b) : Int) ≤ (↑j : Int) + (1 : Int) from by omega), .call 0 0 [] l1, .m 0 0] [0, 1] (by kernel_rfl)

theorem textA_escLine (q f c i j : Nat) (b : ByteArray) (d : List Deferred) (rest : Nat → Value) (s : St) (hov : Holds s [(f, lx b j), (c, tokRow 0 0 noS 0)]) (h2 : b.size ≤ 65536) (h1 : j < b.size) (h3 : (byt b j == 10) = false) (h4 : (byt b j == 34) = false) (h5 : (byt b j == 92) = true) (h6 : j + 1 < b.size) (h7 : (byt b (j + 1) == 10) = true)  :
    ∃ rest' s', evalCode EW (callN EW NN (q + 1)) NN textL { tmps := tmpsOf 141 (txLive f c i (.slice none 0 0)) rest, defers := d } s = some (.panic (wrong (i : Int) 4), { tmps := tmpsOf 141 [] rest', defers := d }, s') ∧ After s s' [f, c] [(f, lx b j), (c, tokRow 0 0 noS 0)] := by
  have l1 := (give_ok q f (i : Int) 4).ev
  exact roundj_by hov [.m 0 0, .m 0 0, .no 1 (show ¬ ((↑(ByteArray.size b) : Int) ≤ (↑j : Int)) from by omega), .no 0 (show ¬ ((↑(ByteArray.size b) : Int) ≤ (↑j : Int)) from by omega), .no 0 (show ¬ ((↑(ByteArray.size b) : Int) ≤ (↑j : Int)) from by omega), .no 0 (show ¬ ((↑(ByteArray.size b) : Int) ≤ (↑j : Int)) from by omega), .m 0 0, .no 1 (show ¬ ((↑(ByteArray.size b) : Int) ≤ (↑j : Int)) from by omega), .no 0 (show ¬ ((↑(ByteArray.size b) : Int) ≤ (↑j : Int)) from by omega), .no 0 (show ¬ ((↑(ByteArray.size b) : Int) ≤ (↑j : Int)) from by omega), .no 0 (show ¬ ((↑(ByteArray.size b) : Int) ≤ (↑j : Int)) from by omega), .m 0 0, .no 1 (show ¬ ((↑(ByteArray.size b) : Int) ≤ (↑j : Int)) from by omega), .yes 1 h1, .no 0 (show ¬ ((↑(ByteArray.size b) : Int) ≤ (↑j : Int)) from by omega), .no 0 (show ¬ ((↑(ByteArray.size b) : Int) ≤ (↑j : Int)) from by omega), .is 0 h3, .m 0 0, .m 0 0, .yes 2 h1, .is 0 h4, .is 0 h5, .m 0 0, .int 0 (wrap_i64 (n := (↑j : Int) + (1 : Int)) (by omega) (by omega)), .m 0 0, .no 1 (show ¬ ((↑(ByteArray.size b) : Int) ≤ (↑j : Int) + (1 : Int)) from by omega), .no 0 (show ¬ ((↑(ByteArray.size b) : Int) ≤ (↑j : Int) + (1 : Int)) from by omega), .no 0 (show ¬ ((↑(ByteArray.size b) : Int) ≤ (↑j : Int) + (1 : Int)) from by omega), .no 0 (show ¬ ((↑(ByteArray.size b) : Int) ≤ (↑j : Int) + (1 : Int)) from by omega), .m 0 0, .no 1 (show ¬ ((↑(ByteArray.size b) : Int) ≤ (↑j : Int) + (1 : Int)) from by omega), .no 0 (show ¬ ((↑(ByteArray.size b) : Int) ≤ (↑j : Int) + (1 : Int)) from by omega), .no 0 (show ¬ ((↑(ByteArray.size b) : Int) ≤ (↑j : Int) + (1 : Int)) from by omega), .no 0 (show ¬ ((↑(ByteArray.size b) : Int) ≤ (↑j : Int) + (1 : Int)) from by omega), .m 0 0, .no 1 (show ¬ ((↑(ByteArray.size b) : Int) ≤ (↑j : Int) + (1 : Int)) from by omega), .int 0 (wrap_i64 (n := (↑j : Int) + (1 : Int)) (by omega) (by omega)), .no 0 (show ¬ ((↑(ByteArray.size b) : Int) ≤ (↑j : Int) + (1 : Int)) from by omega), .yes 1 h6, .no 0 (show ¬ ((↑(ByteArray.size b) : Int) ≤ (↑j : Int) + (1 : Int)) from by omega), .no 0 (show ¬ ((↑(ByteArray.size b) : Int) ≤ (↑j : Int) + (1 : Int)) from by omega), .is 0 h7, .call 0 0 [] l1, .m 0 0] [0, 1] (by kernel_rfl)

theorem textA_escBad (q f c i j : Nat) (b : ByteArray) (d : List Deferred) (rest : Nat → Value) (s : St) (hov : Holds s [(f, lx b j), (c, tokRow 0 0 noS 0)]) (h2 : b.size ≤ 65536) (h1 : j < b.size) (h3 : (byt b j == 10) = false) (h4 : (byt b j == 34) = false) (h5 : (byt b j == 92) = true) (h6 : j + 1 < b.size) (h7 : (byt b (j + 1) == 10) = false) (h8 : (escapedOf (byt b (j + 1)) == 0) = true)  :
    ∃ rest' s', evalCode EW (callN EW NN (q + 1)) NN textL { tmps := tmpsOf 141 (txLive f c i (.slice none 0 0)) rest, defers := d } s = some (.panic (wrong (j : Int) 4), { tmps := tmpsOf 141 [] rest', defers := d }, s') ∧ After s s' [f, c] [(f, lx b j), (c, tokRow 0 0 noS 0)] := by
  have l1 := (give_ok q f (j : Int) 4).ev
  exact roundj_by hov [.m 0 0, .m 0 0, .no 1 (show ¬ ((↑(ByteArray.size b) : Int) ≤ (↑j : Int)) from by omega), .no 0 (show ¬ ((↑(ByteArray.size b) : Int) ≤ (↑j : Int)) from by omega), .no 0 (show ¬ ((↑(ByteArray.size b) : Int) ≤ (↑j : Int)) from by omega), .no 0 (show ¬ ((↑(ByteArray.size b) : Int) ≤ (↑j : Int)) from by omega), .m 0 0, .no 1 (show ¬ ((↑(ByteArray.size b) : Int) ≤ (↑j : Int)) from by omega), .no 0 (show ¬ ((↑(ByteArray.size b) : Int) ≤ (↑j : Int)) from by omega), .no 0 (show ¬ ((↑(ByteArray.size b) : Int) ≤ (↑j : Int)) from by omega), .no 0 (show ¬ ((↑(ByteArray.size b) : Int) ≤ (↑j : Int)) from by omega), .m 0 0, .no 1 (show ¬ ((↑(ByteArray.size b) : Int) ≤ (↑j : Int)) from by omega), .yes 1 h1, .no 0 (show ¬ ((↑(ByteArray.size b) : Int) ≤ (↑j : Int)) from by omega), .no 0 (show ¬ ((↑(ByteArray.size b) : Int) ≤ (↑j : Int)) from by omega), .is 0 h3, .m 0 0, .m 0 0, .yes 2 h1, .is 0 h4, .is 0 h5, .m 0 0, .int 0 (wrap_i64 (n := (↑j : Int) + (1 : Int)) (by omega) (by omega)), .m 0 0, .no 1 (show ¬ ((↑(ByteArray.size b) : Int) ≤ (↑j : Int) + (1 : Int)) from by omega), .no 0 (show ¬ ((↑(ByteArray.size b) : Int) ≤ (↑j : Int) + (1 : Int)) from by omega), .no 0 (show ¬ ((↑(ByteArray.size b) : Int) ≤ (↑j : Int) + (1 : Int)) from by omega), .no 0 (show ¬ ((↑(ByteArray.size b) : Int) ≤ (↑j : Int) + (1 : Int)) from by omega), .m 0 0, .no 1 (show ¬ ((↑(ByteArray.size b) : Int) ≤ (↑j : Int) + (1 : Int)) from by omega), .no 0 (show ¬ ((↑(ByteArray.size b) : Int) ≤ (↑j : Int) + (1 : Int)) from by omega), .no 0 (show ¬ ((↑(ByteArray.size b) : Int) ≤ (↑j : Int) + (1 : Int)) from by omega), .no 0 (show ¬ ((↑(ByteArray.size b) : Int) ≤ (↑j : Int) + (1 : Int)) from by omega), .m 0 0, .no 1 (show ¬ ((↑(ByteArray.size b) : Int) ≤ (↑j : Int) + (1 : Int)) from by omega), .int 0 (wrap_i64 (n := (↑j : Int) + (1 : Int)) (by omega) (by omega)), .no 0 (show ¬ ((↑(ByteArray.size b) : Int) ≤ (↑j : Int) + (1 : Int)) from by omega), .yes 1 h6, .no 0 (show ¬ ((↑(ByteArray.size b) : Int) ≤ (↑j : Int) + (1 : Int)) from by omega), .no 0 (show ¬ ((↑(ByteArray.size b) : Int) ≤ (↑j : Int) + (1 : Int)) from by omega), .is 0 h7, .m 0 0, .m 0 0, .int 0 (wrap_i64 (n := (↑j : Int) + (1 : Int)) (by omega) (by omega)), .yes 1 h6, .is 1 h8, .m 0 0, .call 0 0 [] l1, .m 0 0] [0, 1] (by kernel_rfl)

theorem textA_esc (q f c i j : Nat) (b : ByteArray) (d : List Deferred) (rest : Nat → Value) (s : St) (hov : Holds s [(f, lx b j), (c, tokRow 0 0 noS 0)]) (h2 : b.size ≤ 65536) (h1 : j < b.size) (h3 : (byt b j == 10) = false) (h4 : (byt b j == 34) = false) (h5 : (byt b j == 92) = true) (h6 : j + 1 < b.size) (h7 : (byt b (j + 1) == 10) = false) (h8 : (escapedOf (byt b (j + 1)) == 0) = false)  :
    ∃ (nk : List Nat), ∃ rest' s', evalCode EW (callN EW NN (q + 1)) NN textL { tmps := tmpsOf 141 (txLive f c i (.slice none 0 0)) rest, defers := d } s = some (.normal, { tmps := tmpsOf 141 (txLive f c i (.slice (some ⟨nk.getD 0 0, 0, some 0⟩) 1 unc)) rest', defers := d }, s') ∧ After s s' [f, c] [(f, lx b (j + 1 + 1)), (c, tokRow 0 0 noS 0), (nk.getD 0 0, .row [.int .u8 (escapedOf (byt b (j + 1)))] 1 0 0 [])] := by
  exact roundkj_by hov [.m 0 0, .m 0 0, .no 1 (show ¬ ((↑(ByteArray.size b) : Int) ≤ (↑j : Int)) from by omega), .no 0 (show ¬ ((↑(ByteArray.size b) : Int) ≤ (↑j : Int)) from by omega), .no 0 (show ¬ ((↑(ByteArray.size b) : Int) ≤ (↑j : Int)) from by omega), .no 0 (show ¬ ((↑(ByteArray.size b) : Int) ≤ (↑j : Int)) from by omega), .m 0 0, .no 1 (show ¬ ((↑(ByteArray.size b) : Int) ≤ (↑j : Int)) from by omega), .no 0 (show ¬ ((↑(ByteArray.size b) : Int) ≤ (↑j : Int)) from by omega), .no 0 (show ¬ ((↑(ByteArray.size b) : Int) ≤ (↑j : Int)) from by omega), .no 0 (show ¬ ((↑(ByteArray.size b) : Int) ≤ (↑j : Int)) from by omega), .m 0 0, .no 1 (show ¬ ((↑(ByteArray.size b) : Int) ≤ (↑j : Int)) from by omega), .yes 1 h1, .no 0 (show ¬ ((↑(ByteArray.size b) : Int) ≤ (↑j : Int)) from by omega), .no 0 (show ¬ ((↑(ByteArray.size b) : Int) ≤ (↑j : Int)) from by omega), .is 0 h3, .m 0 0, .m 0 0, .yes 2 h1, .is 0 h4, .is 0 h5, .m 0 0, .int 0 (wrap_i64 (n := (↑j : Int) + (1 : Int)) (by omega) (by omega)), .m 0 0, .no 1 (show ¬ ((↑(ByteArray.size b) : Int) ≤ (↑j : Int) + (1 : Int)) from by omega), .no 0 (show ¬ ((↑(ByteArray.size b) : Int) ≤ (↑j : Int) + (1 : Int)) from by omega), .no 0 (show ¬ ((↑(ByteArray.size b) : Int) ≤ (↑j : Int) + (1 : Int)) from by omega), .no 0 (show ¬ ((↑(ByteArray.size b) : Int) ≤ (↑j : Int) + (1 : Int)) from by omega), .m 0 0, .no 1 (show ¬ ((↑(ByteArray.size b) : Int) ≤ (↑j : Int) + (1 : Int)) from by omega), .no 0 (show ¬ ((↑(ByteArray.size b) : Int) ≤ (↑j : Int) + (1 : Int)) from by omega), .no 0 (show ¬ ((↑(ByteArray.size b) : Int) ≤ (↑j : Int) + (1 : Int)) from by omega), .no 0 (show ¬ ((↑(ByteArray.size b) : Int) ≤ (↑j : Int) + (1 : Int)) from by omega), .m 0 0, .no 1 (show ¬ ((↑(ByteArray.size b) : Int) ≤ (↑j : Int) + (1 : Int)) from by omega), .int 0 (wrap_i64 (n := (↑j : Int) + (1 : Int)) (by omega) (by omega)), .no 0 (show ¬ ((↑(ByteArray.size b) : Int) ≤ (↑j : Int) + (1 : Int)) from by omega), .yes 1 h6, .no 0 (show ¬ ((↑(ByteArray.size b) : Int) ≤ (↑j : Int) + (1 : Int)) from by omega), .no 0 (show ¬ ((↑(ByteArray.size b) : Int) ≤ (↑j : Int) + (1 : Int)) from by omega), .is 0 h7, .m 0 0, .m 0 0, .int 0 (wrap_i64 (n := (↑j : Int) + (1 : Int)) (by omega) (by omega)), .yes 1 h6, .is 1 h8, .m 0 0, .int 0 (wrap_i64 (n := (↑j : Int) + (1 : Int)) (by omega) (by omega)), .m 0 0, .m 0 0, .m 0 0, .m 0 2, .m 0 0, .m 0 0, .int 0 (wrap_i64 (n := (↑j : Int) + (1 : Int) + (1 : Int)) (by omega) (by omega)), .m 0 0, .m 0 0, .m 0 0] [3] [0, 1, 3] (by kernel_rfl) (by kernel_rfl)

theorem textB_end (q f c i j : Nat) (r ep : Nat) (hist : List Nat) (cs : List Value) (hc : cs.length ≤ 65536) (b : ByteArray) (d : List Deferred) (rest : Nat → Value) (s : St) (hov : Holds s [(f, lx b j), (c, tokRow 0 0 noS 0), (r, .row cs 1 ep 0 hist)]) (h2 : b.size ≤ 65536) (h1 : ¬ j < b.size) (hi : j ≤ b.size)  :
    ∃ rest' s', evalCode EW (callN EW NN (q + 1)) NN textL { tmps := tmpsOf 141 (txLive f c i (.slice (some ⟨r, 0, some ep⟩) cs.length unc)) rest, defers := d } s = some (.panic (wrong (i : Int) 4), { tmps := tmpsOf 141 [] rest', defers := d }, s') ∧ After s s' [f, c, r] [(f, lx b j), (c, tokRow 0 0 noS 0), (r, .row cs 1 ep 0 hist)] := by
  have l1 := (give_ok q f (i : Int) 4).ev
  exact roundj_by hov [.m 0 0, .m 0 0, .yes 1 (show (↑(ByteArray.size b) : Int) ≤ (↑j : Int) from by omega), .yes 0 (show (↑(ByteArray.size b) : Int) ≤ (↑j : Int) from by omega), .yes 0 (show (↑(ByteArray.size b) : Int) ≤ (↑j : Int) from by omega), .yes 0 (show (↑(ByteArray.size b) : Int) ≤ (↑j : Int) from by omega), .yes 0 (show (↑(ByteArray.size b) : Int) ≤ (↑j : Int) from by omega), .yes 0 (show (↑(ByteArray.size b) : Int) ≤ (↑j : Int) from by omega), .yes 0 (show (↑(ByteArray.size b) : Int) ≤ (↑j : Int) from by omega), .yes 0 (show (↑(ByteArray.size b) : Int) ≤ (↑j : Int) from by omega), .yes 0 (show (↑(ByteArray.size b) : Int) ≤ (↑j : Int) from by omega), .yes 0 (show (↑(ByteArray.size b) : Int) ≤ (↑j : Int) from by omega), .yes 0 (show (↑(ByteArray.size b) : Int) ≤ (↑j : Int) from by omega), .call 0 0 [] l1, .m 0 0] [0, 1, 2] (by kernel_rfl)

theorem textB_line (q f c i j : Nat) (r ep : Nat) (hist : List Nat) (cs : List Value) (hc : cs.length ≤ 65536) (b : ByteArray) (d : List Deferred) (rest : Nat → Value) (s : St) (hov : Holds s [(f, lx b j), (c, tokRow 0 0 noS 0), (r, .row cs 1 ep 0 hist)]) (h2 : b.size ≤ 65536) (h1 : j < b.size) (h3 : (byt b j == 10) = true)  :
    ∃ rest' s', evalCode EW (callN EW NN (q + 1)) NN textL { tmps := tmpsOf 141 (txLive f c i (.slice (some ⟨r, 0, some ep⟩) cs.length unc)) rest, defers := d } s = some (.panic (wrong (i : Int) 4), { tmps := tmpsOf 141 [] rest', defers := d }, s') ∧ After s s' [f, c, r] [(f, lx b j), (c, tokRow 0 0 noS 0), (r, .row cs 1 ep 0 hist)] := by
  have l1 := (give_ok q f (i : Int) 4).ev
  exact roundj_by hov [.m 0 0, .m 0 0, .no 1 (show ¬ ((↑(ByteArray.size b) : Int) ≤ (↑j : Int)) from by omega), .no 0 (show ¬ ((↑(ByteArray.size b) : Int) ≤ (↑j : Int)) from by omega), .no 0 (show ¬ ((↑(ByteArray.size b) : Int) ≤ (↑j : Int)) from by omega), .no 0 (show ¬ ((↑(ByteArray.size b) : Int) ≤ (↑j : Int)) from by omega), .m 0 0, .no 1 (show ¬ ((↑(ByteArray.size b) : Int) ≤ (↑j : Int)) from by omega), .no 0 (show ¬ ((↑(ByteArray.size b) : Int) ≤ (↑j : Int)) from by omega), .no 0 (show ¬ ((↑(ByteArray.size b) : Int) ≤ (↑j : Int)) from by omega), .no 0 (show ¬ ((↑(ByteArray.size b) : Int) ≤ (↑j : Int)) from by omega), .m 0 0, .no 1 (show ¬ ((↑(ByteArray.size b) : Int) ≤ (↑j : Int)) from by omega), .yes 1 h1, .no 0 (show ¬ ((↑(ByteArray.size b) : Int) ≤ (↑j : Int)) from by omega), .no 0 (show ¬ ((↑(ByteArray.size b) : Int) ≤ (↑j : Int)) from by omega), .is 0 h3, .call 0 0 [] l1, .m 0 0] [0, 1, 2] (by kernel_rfl)

theorem textB_stop (q f c i j : Nat) (r ep : Nat) (hist : List Nat) (cs : List Value) (hc : cs.length ≤ 65536) (b : ByteArray) (d : List Deferred) (rest : Nat → Value) (s : St) (hov : Holds s [(f, lx b j), (c, tokRow 0 0 noS 0), (r, .row cs 1 ep 0 hist)]) (h2 : b.size ≤ 65536) (h1 : j < b.size) (h3 : (byt b j == 10) = false) (h4 : (byt b j == 34) = true)  :
    ∃ rest' s', evalCode EW (callN EW NN (q + 1)) NN textL { tmps := tmpsOf 141 (txLive f c i (.slice (some ⟨r, 0, some ep⟩) cs.length unc)) rest, defers := d } s = some (.exit 0, { tmps := tmpsOf 141 (txLive f c i (.slice (some ⟨r, 0, some ep⟩) cs.length unc)) rest', defers := d }, s') ∧ After s s' [f, c, r] [(f, lx b j), (c, tokRow 0 0 noS 0), (r, .row cs 1 ep 0 hist)] := by
  exact roundj_by hov [.m 0 0, .m 0 0, .no 1 (show ¬ ((↑(ByteArray.size b) : Int) ≤ (↑j : Int)) from by omega), .no 0 (show ¬ ((↑(ByteArray.size b) : Int) ≤ (↑j : Int)) from by omega), .no 0 (show ¬ ((↑(ByteArray.size b) : Int) ≤ (↑j : Int)) from by omega), .no 0 (show ¬ ((↑(ByteArray.size b) : Int) ≤ (↑j : Int)) from by omega), .m 0 0, .no 1 (show ¬ ((↑(ByteArray.size b) : Int) ≤ (↑j : Int)) from by omega), .no 0 (show ¬ ((↑(ByteArray.size b) : Int) ≤ (↑j : Int)) from by omega), .no 0 (show ¬ ((↑(ByteArray.size b) : Int) ≤ (↑j : Int)) from by omega), .no 0 (show ¬ ((↑(ByteArray.size b) : Int) ≤ (↑j : Int)) from by omega), .m 0 0, .no 1 (show ¬ ((↑(ByteArray.size b) : Int) ≤ (↑j : Int)) from by omega), .yes 1 h1, .no 0 (show ¬ ((↑(ByteArray.size b) : Int) ≤ (↑j : Int)) from by omega), .no 0 (show ¬ ((↑(ByteArray.size b) : Int) ≤ (↑j : Int)) from by omega), .is 0 h3, .m 0 0, .m 0 0, .yes 2 h1, .is 0 h4, .m 0 0] [0, 1, 2] (by kernel_rfl)

theorem textB_char (q f c i j : Nat) (r ep : Nat) (hist : List Nat) (cs : List Value) (hc : cs.length ≤ 65536) (b : ByteArray) (d : List Deferred) (rest : Nat → Value) (s : St) (hov : Holds s [(f, lx b j), (c, tokRow 0 0 noS 0), (r, .row cs 1 ep 0 hist)]) (h2 : b.size ≤ 65536) (h1 : j < b.size) (h3 : (byt b j == 10) = false) (h4 : (byt b j == 34) = false) (h5 : (byt b j == 92) = false)  :
    ∃ rest' s', evalCode EW (callN EW NN (q + 1)) NN textL { tmps := tmpsOf 141 (txLive f c i (.slice (some ⟨r, 0, some ep⟩) cs.length unc)) rest, defers := d } s = some (.normal, { tmps := tmpsOf 141 (txLive f c i (.slice (some ⟨r, 0, some (ep + 1)⟩) (cs.length + 1) unc)) rest', defers := d }, s') ∧ After s s' [f, c, r] [(f, lx b (j + 1)), (c, tokRow 0 0 noS 0), (r, .row (cs ++ [.int .u8 (byt b j)]) 1 (ep + 1) 0 (cs.length :: hist))] := by
  exact roundj_by hov [.m 0 0, .m 0 0, .no 1 (show ¬ ((↑(ByteArray.size b) : Int) ≤ (↑j : Int)) from by omega), .no 0 (show ¬ ((↑(ByteArray.size b) : Int) ≤ (↑j : Int)) from by omega), .no 0 (show ¬ ((↑(ByteArray.size b) : Int) ≤ (↑j : Int)) from by omega), .no 0 (show ¬ ((↑(ByteArray.size b) : Int) ≤ (↑j : Int)) from by omega), .m 0 0, .no 1 (show ¬ ((↑(ByteArray.size b) : Int) ≤ (↑j : Int)) from by omega), .no 0 (show ¬ ((↑(ByteArray.size b) : Int) ≤ (↑j : Int)) from by omega), .no 0 (show ¬ ((↑(ByteArray.size b) : Int) ≤ (↑j : Int)) from by omega), .no 0 (show ¬ ((↑(ByteArray.size b) : Int) ≤ (↑j : Int)) from by omega), .m 0 0, .no 1 (show ¬ ((↑(ByteArray.size b) : Int) ≤ (↑j : Int)) from by omega), .yes 1 h1, .no 0 (show ¬ ((↑(ByteArray.size b) : Int) ≤ (↑j : Int)) from by omega), .no 0 (show ¬ ((↑(ByteArray.size b) : Int) ≤ (↑j : Int)) from by omega), .is 0 h3, .m 0 0, .m 0 0, .yes 2 h1, .is 0 h4, .is 0 h5, .m 0 0, .m 0 3, .yes 2 (show (List.length cs + (1 : Nat)) * (1 : Nat) ≤ (70368744177664 : Nat) ∧   List.length cs + (1 : Nat) < (4611686018427387904 : Nat) from by omega), .m 0 2, .yes 0 (show ep = ep ∧ (0 : Nat) ≤ ep ∧ (1 : Nat) = (1 : Nat) ∧ (0 : Nat) ≤ List.length cs from by omega), .no 1 (show ¬ ((0 : Nat) + (List.length cs + (1 : Nat)) * (1 : Nat) ≤ List.length cs) from by omega), .yes 0 (show (0 : Nat) + List.length cs * (1 : Nat) = List.length cs from by omega), .m 0 2, .m 0 0, .int 0 (wrap_i64 (n := (↑j : Int) + (1 : Int)) (by omega) (by omega)), .m 0 0, .m 0 0, .m 0 0] [0, 1, 2] (by kernel_rfl)

theorem textB_escEnd (q f c i j : Nat) (r ep : Nat) (hist : List Nat) (cs : List Value) (hc : cs.length ≤ 65536) (b : ByteArray) (d : List Deferred) (rest : Nat → Value) (s : St) (hov : Holds s [(f, lx b j), (c, tokRow 0 0 noS 0), (r, .row cs 1 ep 0 hist)]) (h2 : b.size ≤ 65536) (h1 : j < b.size) (h3 : (byt b j == 10) = false) (h4 : (byt b j == 34) = false) (h5 : (byt b j == 92) = true) (h6 : ¬ j + 1 < b.size)  :
    ∃ rest' s', evalCode EW (callN EW NN (q + 1)) NN textL { tmps := tmpsOf 141 (txLive f c i (.slice (some ⟨r, 0, some ep⟩) cs.length unc)) rest, defers := d } s = some (.panic (wrong (i : Int) 4), { tmps := tmpsOf 141 [] rest', defers := d }, s') ∧ After s s' [f, c, r] [(f, lx b j), (c, tokRow 0 0 noS 0), (r, .row cs 1 ep 0 hist)] := by
  have l1 := (give_ok q f (i : Int) 4).ev
  exact roundj_by hov [.m 0 0, .m 0 0, .no 1 (show ¬ ((↑(ByteArray.size b) : Int) ≤ (↑j : Int)) from by omega), .no 0 (show ¬ ((↑(ByteArray.size b) : Int) ≤ (↑j : Int)) from by omega), .no 0 (show ¬ ((↑(ByteArray.size b) : Int) ≤ (↑j : Int)) from by omega), .no 0 (show ¬ ((↑(ByteArray.size b) : Int) ≤ (↑j : Int)) from by omega), .m 0 0, .no 1 (show ¬ ((↑(ByteArray.size b) : Int) ≤ (↑j : Int)) from by omega), .no 0 (show ¬ ((↑(ByteArray.size b) : Int) ≤ (↑j : Int)) from by omega), .no 0 (show ¬ ((↑(ByteArray.size b) : Int) ≤ (↑j : Int)) from by omega), .no 0 (show ¬ ((↑(ByteArray.size b) : Int) ≤ (↑j : Int)) from by omega), .m 0 0, .no 1 (show ¬ ((↑(ByteArray.size b) : Int) ≤ (↑j : Int)) from by omega), .yes 1 h1, .no 0 (show ¬ ((↑(ByteArray.size b) : Int) ≤ (↑j : Int)) from by omega), .no 0 (show ¬ ((↑(ByteArray.size b) : Int) ≤ (↑j : Int)) from by omega), .is 0 h3, .m 0 0, .m 0 0, .yes 2 h1, .is 0 h4, .is 0 h5, .m 0 0, .int 0 (wrap_i64 (n := (↑j : Int) + (1 : Int)) (by omega) (by omega)), .m 0 0, .yes 1 (show (↑(ByteArray.size b) : Int) ≤ (↑j : Int) + (1 : Int) from by omega), .yes 0 (show (↑(ByteArray.size b) : Int) ≤ (↑j : Int) + (1 : Int) from by omega), .yes 0 (show (↑(ByteArray.size b) : Int) ≤ (↑j : Int) + (1 : Int) from by omega), .yes 0 (show (↑(ByteArray.size b) : Int) ≤ (↑j : Int) + (1 : Int) from by omega), .yes 0 (show (↑(ByteArray.size b) : Int) ≤ (↑j : Int) + (1 : Int) from by omega), .yes 0 (show (↑(ByteArray.size b) : Int) ≤ (↑j : Int) + (1 : Int) from by omega), .yes 0 (show (↑(ByteArray.size b) : Int) ≤ (↑j : Int) + (1 : Int) from by omega), .yes 0 (show (↑(ByteArray.size b) : Int) ≤ (↑j : Int) + (1 : Int) from by omega), .yes 0 (show (↑(ByteArray.size b) : Int) ≤ (↑j : Int) + (1 : Int) from by omega), .yes 0 (show (↑(ByteArray.size b) : Int) ≤ (↑j : Int) + (1 : Int) from by omega), .yes 0 (show (↑(ByteArray.size b) : Int) ≤ (↑j : Int) + (1 : Int) from by omega), .yes 0 (show (↑(ByteArray.size b) : Int) ≤ (↑j : Int) + (1 : Int) from by omega), .call 0 0 [] l1, .m 0 0] [0, 1, 2] (by kernel_rfl)

theorem textB_escLine (q f c i j : Nat) (r ep : Nat) (hist : List Nat) (cs : List Value) (hc : cs.length ≤ 65536) (b : ByteArray) (d : List Deferred) (rest : Nat → Value) (s : St) (hov : Holds s [(f, lx b j), (c, tokRow 0 0 noS 0), (r, .row cs 1 ep 0 hist)]) (h2 : b.size ≤ 65536) (h1 : j < b.size) (h3 : (byt b j == 10) = false) (h4 : (byt b j == 34) = false) (h5 : (byt b j == 92) = true) (h6 : j + 1 < b.size) (h7 : (byt b (j + 1) == 10) = true)  :
    ∃ rest' s', evalCode EW (callN EW NN (q + 1)) NN textL { tmps := tmpsOf 141 (txLive f c i (.slice (some ⟨r, 0, some ep⟩) cs.length unc)) rest, defers := d } s = some (.panic (wrong (i : Int) 4), { tmps := tmpsOf 141 [] rest', defers := d }, s') ∧ After s s' [f, c, r] [(f, lx b j), (c, tokRow 0 0 noS 0), (r, .row cs 1 ep 0 hist)] := by
  have l1 := (give_ok q f (i : Int) 4).ev
  exact roundj_by hov [.m 0 0, .m 0 0, .no 1 (show ¬ ((↑(ByteArray.size b) : Int) ≤ (↑j : Int)) from by omega), .no 0 (show ¬ ((↑(ByteArray.size b) : Int) ≤ (↑j : Int)) from by omega), .no 0 (show ¬ ((↑(ByteArray.size b) : Int) ≤ (↑j : Int)) from by omega), .no 0 (show ¬ ((↑(ByteArray.size b) : Int) ≤ (↑j : Int)) from by omega), .m 0 0, .no 1 (show ¬ ((↑(ByteArray.size b) : Int) ≤ (↑j : Int)) from by omega), .no 0 (show ¬ ((↑(ByteArray.size b) : Int) ≤ (↑j : Int)) from by omega), .no 0 (show ¬ ((↑(ByteArray.size b) : Int) ≤ (↑j : Int)) from by omega), .no 0 (show ¬ ((↑(ByteArray.size b) : Int) ≤ (↑j : Int)) from by omega), .m 0 0, .no 1 (show ¬ ((↑(ByteArray.size b) : Int) ≤ (↑j : Int)) from by omega), .yes 1 h1, .no 0 (show ¬ ((↑(ByteArray.size b) : Int) ≤ (↑j : Int)) from by omega), .no 0 (show ¬ ((↑(ByteArray.size b) : Int) ≤ (↑j : Int)) from by omega), .is 0 h3, .m 0 0, .m 0 0, .yes 2 h1, .is 0 h4, .is 0 h5, .m 0 0, .int 0 (wrap_i64 (n := (↑j : Int) + (1 : Int)) (by omega) (by omega)), .m 0 0, .no 1 (show ¬ ((↑(ByteArray.size b) : Int) ≤ (↑j : Int) + (1 : Int)) from by omega), .no 0 (show ¬ ((↑(ByteArray.size b) : Int) ≤ (↑j : Int) + (1 : Int)) from by omega), .no 0 (show ¬ ((↑(ByteArray.size b) : Int) ≤ (↑j : Int) + (1 : Int)) from by omega), .no 0 (show ¬ ((↑(ByteArray.size b) : Int) ≤ (↑j : Int) + (1 : Int)) from by omega), .m 0 0, .no 1 (show ¬ ((↑(ByteArray.size b) : Int) ≤ (↑j : Int) + (1 : Int)) from by omega), .no 0 (show ¬ ((↑(ByteArray.size b) : Int) ≤ (↑j : Int) + (1 : Int)) from by omega), .no 0 (show ¬ ((↑(ByteArray.size b) : Int) ≤ (↑j : Int) + (1 : Int)) from by omega), .no 0 (show ¬ ((↑(ByteArray.size b) : Int) ≤ (↑j : Int) + (1 : Int)) from by omega), .m 0 0, .no 1 (show ¬ ((↑(ByteArray.size b) : Int) ≤ (↑j : Int) + (1 : Int)) from by omega), .int 0 (wrap_i64 (n := (↑j : Int) + (1 : Int)) (by omega) (by omega)), .no 0 (show ¬ ((↑(ByteArray.size b) : Int) ≤ (↑j : Int) + (1 : Int)) from by omega), .yes 1 h6, .no 0 (show ¬ ((↑(ByteArray.size b) : Int) ≤ (↑j : Int) + (1 : Int)) from by omega), .no 0 (show ¬ ((↑(ByteArray.size b) : Int) ≤ (↑j : Int) + (1 : Int)) from by omega), .is 0 h7, .call 0 0 [] l1, .m 0 0] [0, 1, 2] (by kernel_rfl)

theorem textB_escBad (q f c i j : Nat) (r ep : Nat) (hist : List Nat) (cs : List Value) (hc : cs.length ≤ 65536) (b : ByteArray) (d : List Deferred) (rest : Nat → Value) (s : St) (hov : Holds s [(f, lx b j), (c, tokRow 0 0 noS 0), (r, .row cs 1 ep 0 hist)]) (h2 : b.size ≤ 65536) (h1 : j < b.size) (h3 : (byt b j == 10) = false) (h4 : (byt b j == 34) = false) (h5 : (byt b j == 92) = true) (h6 : j + 1 < b.size) (h7 : (byt b (j + 1) == 10) = false) (h8 : (escapedOf (byt b (j + 1)) == 0) = true)  :
    ∃ rest' s', evalCode EW (callN EW NN (q + 1)) NN textL { tmps := tmpsOf 141 (txLive f c i (.slice (some ⟨r, 0, some ep⟩) cs.length unc)) rest, defers := d } s = some (.panic (wrong (j : Int) 4), { tmps := tmpsOf 141 [] rest', defers := d }, s') ∧ After s s' [f, c, r] [(f, lx b j), (c, tokRow 0 0 noS 0), (r, .row cs 1 ep 0 hist)] := by
  have l1 := (give_ok q f (j : Int) 4).ev
  exact roundj_by hov [.m 0 0, .m 0 0, .no 1 (show ¬ ((↑(ByteArray.size b) : Int) ≤ (↑j : Int)) from by omega), .no 0 (show ¬ ((↑(ByteArray.size b) : Int) ≤ (↑j : Int)) from by omega), .no 0 (show ¬ ((↑(ByteArray.size b) : Int) ≤ (↑j : Int)) from by omega), .no 0 (show ¬ ((↑(ByteArray.size b) : Int) ≤ (↑j : Int)) from by omega), .m 0 0, .no 1 (show ¬ ((↑(ByteArray.size b) : Int) ≤ (↑j : Int)) from by omega), .no 0 (show ¬ ((↑(ByteArray.size b) : Int) ≤ (↑j : Int)) from by omega), .no 0 (show ¬ ((↑(ByteArray.size b) : Int) ≤ (↑j : Int)) from by omega), .no 0 (show ¬ ((↑(ByteArray.size b) : Int) ≤ (↑j : Int)) from by omega), .m 0 0, .no 1 (show ¬ ((↑(ByteArray.size b) : Int) ≤ (↑j : Int)) from by omega), .yes 1 h1, .no 0 (show ¬ ((↑(ByteArray.size b) : Int) ≤ (↑j : Int)) from by omega), .no 0 (show ¬ ((↑(ByteArray.size b) : Int) ≤ (↑j : Int)) from by omega), .is 0 h3, .m 0 0, .m 0 0, .yes 2 h1, .is 0 h4, .is 0 h5, .m 0 0, .int 0 (wrap_i64 (n := (↑j : Int) + (1 : Int)) (by omega) (by omega)), .m 0 0, .no 1 (show ¬ ((↑(ByteArray.size b) : Int) ≤ (↑j : Int) + (1 : Int)) from by omega), .no 0 (show ¬ ((↑(ByteArray.size b) : Int) ≤ (↑j : Int) + (1 : Int)) from by omega), .no 0 (show ¬ ((↑(ByteArray.size b) : Int) ≤ (↑j : Int) + (1 : Int)) from by omega), .no 0 (show ¬ ((↑(ByteArray.size b) : Int) ≤ (↑j : Int) + (1 : Int)) from by omega), .m 0 0, .no 1 (show ¬ ((↑(ByteArray.size b) : Int) ≤ (↑j : Int) + (1 : Int)) from by omega), .no 0 (show ¬ ((↑(ByteArray.size b) : Int) ≤ (↑j : Int) + (1 : Int)) from by omega), .no 0 (show ¬ ((↑(ByteArray.size b) : Int) ≤ (↑j : Int) + (1 : Int)) from by omega), .no 0 (show ¬ ((↑(ByteArray.size b) : Int) ≤ (↑j : Int) + (1 : Int)) from by omega), .m 0 0, .no 1 (show ¬ ((↑(ByteArray.size b) : Int) ≤ (↑j : Int) + (1 : Int)) from by omega), .int 0 (wrap_i64 (n := (↑j : Int) + (1 : Int)) (by omega) (by omega)), .no 0 (show ¬ ((↑(ByteArray.size b) : Int) ≤ (↑j : Int) + (1 : Int)) from by omega), .yes 1 h6, .no 0 (show ¬ ((↑(ByteArray.size b) : Int) ≤ (↑j : Int) + (1 : Int)) from by omega), .no 0 (show ¬ ((↑(ByteArray.size b) : Int) ≤ (↑j : Int) + (1 : Int)) from by omega), .is 0 h7, .m 0 0, .m 0 0, .int 0 (wrap_i64 (n := (↑j : Int) + (1 : Int)) (by omega) (by omega)), .yes 1 h6, .is 1 h8, .m 0 0, .call 0 0 [] l1, .m 0 0] [0, 1, 2] (by kernel_rfl)

theorem textB_esc (q f c i j : Nat) (r ep : Nat) (hist : List Nat) (cs : List Value) (hc : cs.length ≤ 65536) (b : ByteArray) (d : List Deferred) (rest : Nat → Value) (s : St) (hov : Holds s [(f, lx b j), (c, tokRow 0 0 noS 0), (r, .row cs 1 ep 0 hist)]) (h2 : b.size ≤ 65536) (h1 : j < b.size) (h3 : (byt b j == 10) = false) (h4 : (byt b j == 34) = false) (h5 : (byt b j == 92) = true) (h6 : j + 1 < b.size) (h7 : (byt b (j + 1) == 10) = false) (h8 : (escapedOf (byt b (j + 1)) == 0) = false)  :
    ∃ rest' s', evalCode EW (callN EW NN (q + 1)) NN textL { tmps := tmpsOf 141 (txLive f c i (.slice (some ⟨r, 0, some ep⟩) cs.length unc)) rest, defers := d } s = some (.normal, { tmps := tmpsOf 141 (txLive f c i (.slice (some ⟨r, 0, some (ep + 1)⟩) (cs.length + 1) unc)) rest', defers := d }, s') ∧ After s s' [f, c, r] [(f, lx b (j + 1 + 1)), (c, tokRow 0 0 noS 0), (r, .row (cs ++ [.int .u8 (escapedOf (byt b (j + 1)))]) 1 (ep + 1) 0 (cs.length :: hist))] := by
  exact roundj_by hov [.m 0 0, .m 0 0, .no 1 (show ¬ ((↑(ByteArray.size b) : Int) ≤ (↑j : Int)) from by omega), .no 0 (show ¬ ((↑(ByteArray.size b) : Int) ≤ (↑j : Int)) from by omega), .no 0 (show ¬ ((↑(ByteArray.size b) : Int) ≤ (↑j : Int)) from by omega), .no 0 (show ¬ ((↑(ByteArray.size b) : Int) ≤ (↑j : Int)) from by omega), .m 0 0, .no 1 (show ¬ ((↑(ByteArray.size b) : Int) ≤ (↑j : Int)) from by omega), .no 0 (show ¬ ((↑(ByteArray.size b) : Int) ≤ (↑j : Int)) from by omega), .no 0 (show ¬ ((↑(ByteArray.size b) : Int) ≤ (↑j : Int)) from by omega), .no 0 (show ¬ ((↑(ByteArray.size b) : Int) ≤ (↑j : Int)) from by omega), .m 0 0, .no 1 (show ¬ ((↑(ByteArray.size b) : Int) ≤ (↑j : Int)) from by omega), .yes 1 h1, .no 0 (show ¬ ((↑(ByteArray.size b) : Int) ≤ (↑j : Int)) from by omega), .no 0 (show ¬ ((↑(ByteArray.size b) : Int) ≤ (↑j : Int)) from by omega), .is 0 h3, .m 0 0, .m 0 0, .yes 2 h1, .is 0 h4, .is 0 h5, .m 0 0, .int 0 (wrap_i64 (n := (↑j : Int) + (1 : Int)) (by omega) (by omega)), .m 0 0, .no 1 (show ¬ ((↑(ByteArray.size b) : Int) ≤ (↑j : Int) + (1 : Int)) from by omega), .no 0 (show ¬ ((↑(ByteArray.size b) : Int) ≤ (↑j : Int) + (1 : Int)) from by omega), .no 0 (show ¬ ((↑(ByteArray.size b) : Int) ≤ (↑j : Int) + (1 : Int)) from by omega), .no 0 (show ¬ ((↑(ByteArray.size b) : Int) ≤ (↑j : Int) + (1 : Int)) from by omega), .m 0 0, .no 1 (show ¬ ((↑(ByteArray.size b) : Int) ≤ (↑j : Int) + (1 : Int)) from by omega), .no 0 (show ¬ ((↑(ByteArray.size b) : Int) ≤ (↑j : Int) + (1 : Int)) from by omega), .no 0 (show ¬ ((↑(ByteArray.size b) : Int) ≤ (↑j : Int) + (1 : Int)) from by omega), .no 0 (show ¬ ((↑(ByteArray.size b) : Int) ≤ (↑j : Int) + (1 : Int)) from by omega), .m 0 0, .no 1 (show ¬ ((↑(ByteArray.size b) : Int) ≤ (↑j : Int) + (1 : Int)) from by omega), .int 0 (wrap_i64 (n := (↑j : Int) + (1 : Int)) (by omega) (by omega)), .no 0 (show ¬ ((↑(ByteArray.size b) : Int) ≤ (↑j : Int) + (1 : Int)) from by omega), .yes 1 h6, .no 0 (show ¬ ((↑(ByteArray.size b) : Int) ≤ (↑j : Int) + (1 : Int)) from by omega), .no 0 (show ¬ ((↑(ByteArray.size b) : Int) ≤ (↑j : Int) + (1 : Int)) from by omega), .is 0 h7, .m 0 0, .m 0 0, .int 0 (wrap_i64 (n := (↑j : Int) + (1 : Int)) (by omega) (by omega)), .yes 1 h6, .is 1 h8, .m 0 0, .int 0 (wrap_i64 (n := (↑j : Int) + (1 : Int)) (by omega) (by omega)), .m 0 0, .m 0 0, .m 0 0, .m 0 3, .yes 2 (show (List.length cs + (1 : Nat)) * (1 : Nat) ≤ (70368744177664 : Nat) ∧   List.length cs + (1 : Nat) < (4611686018427387904 : Nat) from by omega), .m 0 2, .yes 0 (show ep = ep ∧ (0 : Nat) ≤ ep ∧ (1 : Nat) = (1 : Nat) ∧ (0 : Nat) ≤ List.length cs from by omega), .no 1 (show ¬ ((0 : Nat) + (List.length cs + (1 : Nat)) * (1 : Nat) ≤ List.length cs) from by omega), .yes 0 (show (0 : Nat) + List.length cs * (1 : Nat) = List.length cs from by omega), .m 0 2, .m 0 0, .int 0 (wrap_i64 (n := (↑j : Int) + (1 : Int) + (1 : Int)) (by omega) (by omega)), .m 0 0, .m 0 0, .m 0 0] [0, 1, 2] (by kernel_rfl)

end Go.Proofs.YtiabpbememhdeaaDoor

/-
  The lexer's seat: 'text', its loop as a whole.
-/
set_option linter.unusedVariables false
set_option linter.unusedSimpArgs false
namespace Go.Proofs.YtiabpbememhdeaaDoor
open Go.Ai Go.RowKit
set_option maxRecDepth 100000
set_option maxHeartbeats 0

structure TxS where
  j : Nat
  cs : List Value
  m : Option (Nat × Nat × List Nat)

def slOf (cs : List Value) : Option (Nat × Nat × List Nat) → Value
  | none => .slice none 0 0
  | some (r, ep, _) => .slice (some ⟨r, 0, some ep⟩) cs.length unc
def rowOf (cs : List Value) : Option (Nat × Nat × List Nat) → Cache
  | none => []
  | some (r, ep, h) => [(r, .row cs 1 ep 0 h)]

/-- How often a row that was made cell by cell has grown. -/
def histOf : Nat → List Nat
  | 0 => []
  | n + 1 => (n + 1) :: histOf n

def TxI (b : ByteArray) (i : Nat) (p : TxS) : Prop := p.j ≤ b.size ∧ textGo b i p.j p.cs = textGo b i (i + 1) [] ∧ (p.m = none → p.cs = []) ∧ (∀ r ep h, p.m = some (r, ep, h) → p.cs.length = ep + 1 ∧ h = histOf ep) ∧ (bytesOf p.cs).isSome = true ∧ p.cs.length ≤ p.j

theorem textGo_next {b : ByteArray} {i j : Nat} {cs : List Value} (h1 : j < b.size) (h3 : (byt b j == 10) = false) (h4 : (byt b j == 34) = false) (h5 : (byt b j == 92) = false) : textGo b i j cs = textGo b i (j + 1) (cs ++ [.int .u8 (byt b j)]) := by
  rw [textGo, if_pos h1, h3, h4, h5]; simp
theorem textGo_esc {b : ByteArray} {i j : Nat} {cs : List Value} (h1 : j < b.size) (h3 : (byt b j == 10) = false) (h4 : (byt b j == 34) = false) (h5 : (byt b j == 92) = true) (h6 : j + 1 < b.size) (h7 : (byt b (j + 1) == 10) = false) (h8 : (escapedOf (byt b (j + 1)) == 0) = false) :
    textGo b i j cs = textGo b i (j + 1 + 1) (cs ++ [.int .u8 (escapedOf (byt b (j + 1)))]) := by
  rw [textGo, if_pos h1, h3, h4, h5, if_pos h6, h7, h8]; simp

theorem grow1 {cs : List Value} {v : Value} {ep : Nat} {hist : List Nat} (h : cs.length = ep + 1 ∧ hist = histOf ep) : (cs ++ [v]).length = ep + 1 + 1 ∧ cs.length :: hist = histOf (ep + 1) := by
  obtain ⟨h1, rfl⟩ := h
  refine ⟨by simp [h1], ?_⟩
  rw [h1]
  rfl

/-- A round that ends it badly. -/
def TxBad (q f c i : Nat) (b : ByteArray) (d : List Deferred) (p : TxS) (rest : Nat → Value) (s : St) : Prop :=
  ∃ a e, textGo b i (i + 1) [] = .bad a e ∧ ∃ j rest' s', evalCode EW (callN EW NN (q + 1)) NN textL { tmps := tmpsOf 141 (txLive f c i (slOf p.cs p.m)) rest, defers := d } s = some (.panic (wrong a e), { tmps := tmpsOf 141 [] rest', defers := d }, s') ∧
      After s s' (keysOf ([(f, lx b p.j), (c, tokRow 0 0 noS 0)] ++ rowOf p.cs p.m)) [(f, lx b j), (c, tokRow 0 0 noS 0)]

/-- A round, whichever. -/
theorem text_round (q f c i : Nat) (b : ByteArray) (d : List Deferred) (h2 : b.size ≤ 65536) (p : TxS) (hp : TxI b i p) (rest : Nat → Value) (s : St) (hov : Holds s ([(f, lx b p.j), (c, tokRow 0 0 noS 0)] ++ rowOf p.cs p.m)) :
    (∃ p' rest' s', TxI b i p' ∧ b.size - p'.j < b.size - p.j ∧ evalCode EW (callN EW NN (q + 1)) NN textL { tmps := tmpsOf 141 (txLive f c i (slOf p.cs p.m)) rest, defers := d } s = some (.normal, { tmps := tmpsOf 141 (txLive f c i (slOf p'.cs p'.m)) rest', defers := d }, s') ∧
      After s s' (keysOf ([(f, lx b p.j), (c, tokRow 0 0 noS 0)] ++ rowOf p.cs p.m)) ([(f, lx b p'.j), (c, tokRow 0 0 noS 0)] ++ rowOf p'.cs p'.m)) ∨
    TxBad q f c i b d p rest s ∨
    (textGo b i (i + 1) [] = .done p.j p.cs ∧ p.j < b.size ∧ ∃ rest' s', evalCode EW (callN EW NN (q + 1)) NN textL { tmps := tmpsOf 141 (txLive f c i (slOf p.cs p.m)) rest, defers := d } s = some (.exit 0, { tmps := tmpsOf 141 (txLive f c i (slOf p.cs p.m)) rest', defers := d }, s') ∧
      After s s' (keysOf ([(f, lx b p.j), (c, tokRow 0 0 noS 0)] ++ rowOf p.cs p.m)) ([(f, lx b p.j), (c, tokRow 0 0 noS 0)] ++ rowOf p.cs p.m)) := by
  obtain ⟨j, cs, m⟩ := p
  obtain ⟨i1, i2, i3, i4, i5, i6⟩ := hp
  simp only at i1 i2 i3 i4 i5 i6 hov ⊢
  cases m with
  | none =>
    have i3 : cs = [] := i3 rfl
    subst i3
    have bad : ∀ a e, textGo b i j [] = .bad a e → (∃ rest' s', evalCode EW (callN EW NN (q + 1)) NN textL { tmps := tmpsOf 141 (txLive f c i (.slice none 0 0)) rest, defers := d } s = some (.panic (wrong a e), { tmps := tmpsOf 141 [] rest', defers := d }, s') ∧ After s s' [f, c] [(f, lx b j), (c, tokRow 0 0 noS 0)]) →
        TxBad q f c i b d ⟨j, [], none⟩ rest s := fun a e h1 h2 => ⟨a, e, i2 ▸ h1, j, h2⟩
    by_cases h1 : j < b.size
    · cases h3 : byt b j == 10
      · cases h4 : byt b j == 34
        · cases h5 : byt b j == 92
          · left
            obtain ⟨nk, rest', s', g1, g2⟩ := textA_char q f c i j b d rest s hov h2 h1 h3 h4 h5
            exact ⟨⟨j + 1, [.int .u8 (byt b j)], some (nk.getD 0 0, 0, [])⟩, rest', s', ⟨by show j + 1 ≤ b.size; omega, by rw [← i2, textGo_next h1 h3 h4 h5]; rfl, by simp, by rintro r ep h ⟨⟩; exact ⟨rfl, rfl⟩, rfl, by simp⟩, by show b.size - (j + 1) < b.size - j; omega, g1, g2⟩
          · by_cases h6 : j + 1 < b.size
            · cases h7 : byt b (j + 1) == 10
              · cases h8 : escapedOf (byt b (j + 1)) == 0
                · left
                  obtain ⟨nk, rest', s', g1, g2⟩ := textA_esc q f c i j b d rest s hov h2 h1 h3 h4 h5 h6 h7 h8
                  exact ⟨⟨j + 1 + 1, [.int .u8 (escapedOf (byt b (j + 1)))], some (nk.getD 0 0, 0, [])⟩, rest', s', ⟨by show j + 1 + 1 ≤ b.size; omega, by rw [← i2, textGo_esc h1 h3 h4 h5 h6 h7 h8]; rfl, by simp, by rintro r ep h ⟨⟩; exact ⟨rfl, rfl⟩, rfl, by simp⟩, by show b.size - (j + 1 + 1) < b.size - j; omega, g1, g2⟩
                · exact .inr (.inl (bad _ _ (by rw [textGo, if_pos h1, h3, h4, h5, if_pos h6, h7, h8]; simp) (textA_escBad q f c i j b d rest s hov h2 h1 h3 h4 h5 h6 h7 h8)))
              · exact .inr (.inl (bad _ _ (by rw [textGo, if_pos h1, h3, h4, h5, if_pos h6, h7]; simp) (textA_escLine q f c i j b d rest s hov h2 h1 h3 h4 h5 h6 h7)))
            · exact .inr (.inl (bad _ _ (by rw [textGo, if_pos h1, h3, h4, h5, if_neg h6]; simp) (textA_escEnd q f c i j b d rest s hov h2 h1 h3 h4 h5 h6)))
        · right; right
          exact ⟨by rw [← i2, textGo, if_pos h1, h3, h4]; simp, h1, textA_stop q f c i j b d rest s hov h2 h1 h3 h4⟩
      · exact .inr (.inl (bad _ _ (by rw [textGo, if_pos h1, h3]; simp) (textA_line q f c i j b d rest s hov h2 h1 h3)))
    · exact .inr (.inl (bad _ _ (by rw [textGo, if_neg h1]) (textA_end q f c i j b d rest s hov h2 h1 i1)))
  | some m =>
    obtain ⟨r, ep, hist⟩ := m
    have hc : cs.length ≤ 65536 := by omega
    have bad : ∀ a e, textGo b i j cs = .bad a e → (∃ rest' s', evalCode EW (callN EW NN (q + 1)) NN textL { tmps := tmpsOf 141 (txLive f c i (.slice (some ⟨r, 0, some ep⟩) cs.length unc)) rest, defers := d } s = some (.panic (wrong a e), { tmps := tmpsOf 141 [] rest', defers := d }, s') ∧ After s s' [f, c, r] [(f, lx b j), (c, tokRow 0 0 noS 0), (r, .row cs 1 ep 0 hist)]) →
        TxBad q f c i b d ⟨j, cs, some (r, ep, hist)⟩ rest s := fun a e h1 ⟨rest', s', g1, g2⟩ => ⟨a, e, i2 ▸ h1, j, rest', s', g1, g2.sub (by simp)⟩
    by_cases h1 : j < b.size
    · cases h3 : byt b j == 10
      · cases h4 : byt b j == 34
        · cases h5 : byt b j == 92
          · left
            obtain ⟨rest', s', g1, g2⟩ := textB_char q f c i j r ep hist cs hc b d rest s hov h2 h1 h3 h4 h5
            exact ⟨⟨j + 1, cs ++ [Value.int IntKind.u8 (byt b j)], some (r, ep + 1, cs.length :: hist)⟩, rest', s', ⟨by show j + 1 ≤ b.size; omega, by rw [← i2, textGo_next h1 h3 h4 h5], by simp, by rintro r' ep' h' ⟨⟩; exact grow1 (i4 _ _ _ rfl), bytesOf_more i5, by simp; omega⟩, by show b.size - (j + 1) < b.size - j; omega,
              by simp only [slOf, List.length_append, List.length_cons, List.length_nil] at g1 ⊢; exact g1, g2⟩
          · by_cases h6 : j + 1 < b.size
            · cases h7 : byt b (j + 1) == 10
              · cases h8 : escapedOf (byt b (j + 1)) == 0
                · left
                  obtain ⟨rest', s', g1, g2⟩ := textB_esc q f c i j r ep hist cs hc b d rest s hov h2 h1 h3 h4 h5 h6 h7 h8
                  exact ⟨⟨j + 1 + 1, cs ++ [Value.int IntKind.u8 (escapedOf (byt b (j + 1)))], some (r, ep + 1, cs.length :: hist)⟩, rest', s', ⟨by show j + 1 + 1 ≤ b.size; omega, by rw [← i2, textGo_esc h1 h3 h4 h5 h6 h7 h8], by simp, by rintro r' ep' h' ⟨⟩; exact grow1 (i4 _ _ _ rfl), bytesOf_more i5, by simp; omega⟩, by show b.size - (j + 1 + 1) < b.size - j; omega,
                    by simp only [slOf, List.length_append, List.length_cons, List.length_nil] at g1 ⊢; exact g1, g2⟩
                · exact .inr (.inl (bad _ _ (by rw [textGo, if_pos h1, h3, h4, h5, if_pos h6, h7, h8]; simp) (textB_escBad q f c i j r ep hist cs hc b d rest s hov h2 h1 h3 h4 h5 h6 h7 h8)))
              · exact .inr (.inl (bad _ _ (by rw [textGo, if_pos h1, h3, h4, h5, if_pos h6, h7]; simp) (textB_escLine q f c i j r ep hist cs hc b d rest s hov h2 h1 h3 h4 h5 h6 h7)))
            · exact .inr (.inl (bad _ _ (by rw [textGo, if_pos h1, h3, h4, h5, if_neg h6]; simp) (textB_escEnd q f c i j r ep hist cs hc b d rest s hov h2 h1 h3 h4 h5 h6)))
        · right; right
          exact ⟨by rw [← i2, textGo, if_pos h1, h3, h4]; simp, h1, textB_stop q f c i j r ep hist cs hc b d rest s hov h2 h1 h3 h4⟩
      · exact .inr (.inl (bad _ _ (by rw [textGo, if_pos h1, h3]; simp) (textB_line q f c i j r ep hist cs hc b d rest s hov h2 h1 h3)))
    · exact .inr (.inl (bad _ _ (by rw [textGo, if_neg h1]) (textB_end q f c i j r ep hist cs hc b d rest s hov h2 h1 i1)))

def txStart (i : Nat) : TxS := ⟨i + 1, [], none⟩
theorem txStart_ok (b : ByteArray) (i : Nat) (h : i < b.size) : TxI b i (txStart i) := ⟨h, rfl, fun _ => rfl, by rintro r ep h ⟨⟩, rfl, Nat.zero_le _⟩

theorem text_bad (q i : Nat) (b : ByteArray) (d : List Deferred) (h1 : i < b.size) (h2 : b.size ≤ 65536) (a e : Int) (hb : textGo b i (i + 1) [] = .bad a e) :
    Loops2 (lx b (i + 1)) (tokRow 0 0 noS 0) (evalCode EW (callN EW NN (q + 1)) NN (.loop textL)) 141 d (fun f c => txLive f c i (.slice none 0 0)) (.panic (wrong a e)) (fun f c _ => []) (fun f c nk => [(f, lx b (nk.getD 0 0)), (c, tokRow 0 0 noS 0)]) := by
  intro f c rest s hov
  refine loop_pi (x := .panic (wrong a e)) (fun p => txLive f c i (slOf p.cs p.m)) (fun p => [(f, lx b p.j), (c, tokRow 0 0 noS 0)] ++ rowOf p.cs p.m) (fun p => b.size - p.j) (TxI b i) (by simp) (fun p hp rest s' hA => ?_) (txStart i) (txStart_ok b i h1) (by show b.size - (i + 1) < 1048576; omega) hov rest
  rcases text_round q f c i b d h2 p hp rest s' hA.holds with h | ⟨a', e', g0, j, rest', s'', g1, g2⟩ | ⟨g0, _⟩
  · exact .inl h
  · rw [hb] at g0
    cases g0
    exact .inr ⟨[j], rest', s'', g1, g2⟩
  · rw [hb] at g0; cases g0

theorem text_done0 (q i : Nat) (b : ByteArray) (d : List Deferred) (h1 : i < b.size) (h2 : b.size ≤ 65536) (j : Nat) (hb : textGo b i (i + 1) [] = .done j []) :
    Loops2 (lx b (i + 1)) (tokRow 0 0 noS 0) (evalCode EW (callN EW NN (q + 1)) NN (.loop textL)) 141 d (fun f c => txLive f c i (.slice none 0 0)) (.exit 0) (fun f c _ => txLive f c i (.slice none 0 0)) (fun f c nk => [(f, lx b j), (c, tokRow 0 0 noS 0)]) := by
  intro f c rest s hov
  refine loop_pi (x := .exit 0) (fun p => txLive f c i (slOf p.cs p.m)) (fun p => [(f, lx b p.j), (c, tokRow 0 0 noS 0)] ++ rowOf p.cs p.m) (fun p => b.size - p.j) (TxI b i) (by simp) (fun p hp rest s' hA => ?_) (txStart i) (txStart_ok b i h1) (by show b.size - (i + 1) < 1048576; omega) hov rest
  rcases text_round q f c i b d h2 p hp rest s' hA.holds with h | ⟨a', e', g0, j, rest', s'', g1, g2⟩ | ⟨g0, _, rest', s'', g1, g2⟩
  · exact .inl h
  · rw [hb] at g0; cases g0
  · rw [hb] at g0
    obtain ⟨e1, e2⟩ := TR.done.inj g0
    have hm : p.m = none := by
      rcases hm : p.m with _ | m
      · rfl
      · obtain ⟨r, ep, h⟩ := m
        have := (hp.2.2.2.1 _ _ _ hm).1
        rw [← e2] at this
        simp at this
    rw [hm] at g1 g2
    rw [e1]
    exact .inr ⟨[], rest', s'', by rw [hm]; exact g1, by rw [hm]; exact g2⟩

theorem text_done1 (q i : Nat) (b : ByteArray) (d : List Deferred) (h1 : i < b.size) (h2 : b.size ≤ 65536) (j : Nat) (cs : List Value) (hne : cs ≠ []) (hb : textGo b i (i + 1) [] = .done j cs) :
    Loops2 (lx b (i + 1)) (tokRow 0 0 noS 0) (evalCode EW (callN EW NN (q + 1)) NN (.loop textL)) 141 d (fun f c => txLive f c i (.slice none 0 0)) (.exit 0) (fun f c nk => txLive f c i (.slice (some ⟨nk.getD 0 0, 0, some (cs.length - 1)⟩) cs.length unc)) (fun f c nk => [(f, lx b j), (c, tokRow 0 0 noS 0), (nk.getD 0 0, .row cs 1 (cs.length - 1) 0 (histOf (cs.length - 1)))]) := by
  intro f c rest s hov
  refine loop_pi (x := .exit 0) (fun p => txLive f c i (slOf p.cs p.m)) (fun p => [(f, lx b p.j), (c, tokRow 0 0 noS 0)] ++ rowOf p.cs p.m) (fun p => b.size - p.j) (TxI b i) (by simp) (fun p hp rest s' hA => ?_) (txStart i) (txStart_ok b i h1) (by show b.size - (i + 1) < 1048576; omega) hov rest
  rcases text_round q f c i b d h2 p hp rest s' hA.holds with h | ⟨a', e', g0, j, rest', s'', g1, g2⟩ | ⟨g0, _, rest', s'', g1, g2⟩
  · exact .inl h
  · rw [hb] at g0; cases g0
  · rw [hb] at g0
    obtain ⟨e1, e2⟩ := TR.done.inj g0
    rcases hm : p.m with _ | ⟨r, ep, hist⟩
    · exact absurd (e2.trans (hp.2.2.1 hm)) hne
    · rw [hm] at g1 g2
      obtain ⟨e3, e4⟩ := hp.2.2.2.1 _ _ _ hm
      have e5 : p.cs.length - 1 = ep := by omega
      rw [e1, e2, e5]
      rw [e4] at g1 g2
      exact .inr ⟨[r], rest', s'', g1, g2⟩

theorem text_fine (b : ByteArray) (i : Nat) : ∀ (j : Nat) (cs : List Value) (j' : Nat) (cs' : List Value), textGo b i j cs = .done j' cs' → (bytesOf cs).isSome = true → cs.length ≤ j → (bytesOf cs').isSome = true ∧ j ≤ j' ∧ j' < b.size ∧ cs'.length ≤ j' := by
  intro j cs j' cs' h h0 hl
  rw [textGo] at h
  split at h
  next h1 =>
    split at h
    · cases h
    · split at h
      · cases h; exact ⟨h0, Nat.le_refl _, h1, hl⟩
      · split at h
        · split at h
          · split at h
            · cases h
            · split at h
              · cases h
              · have := text_fine b i (j + 2) _ j' cs' h (bytesOf_more h0) (by simp; omega)
                exact ⟨this.1, by omega, this.2.2.1, this.2.2.2⟩
          · cases h
        · have := text_fine b i (j + 1) _ j' cs' h (bytesOf_more h0) (by simp; omega)
          exact ⟨this.1, by omega, this.2.2.1, this.2.2.2⟩
  next => cases h
termination_by j => b.size - j

end Go.Proofs.YtiabpbememhdeaaDoor
