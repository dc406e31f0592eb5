/-
  The key words, plainly: what stands between blanks in the list of key words, and has no blank, is a key word.
-/
import Derived.Lib.IndexMore
import Derived.Lib.IndexLaws
import Derived.Lib.IndexBytes
import Derived.KernelRfl
namespace Go.Proofs.YtiabpbememhdeaaDoor
open Go

def keyWords : List (List UInt8) := [[97, 110, 100], [98, 114, 101, 97, 107], [100, 111], [101, 108, 115, 101], [101, 108, 115, 101, 105, 102], [101, 110, 100], [102, 97, 108, 115, 101], [102, 111, 114], [102, 117, 110, 99, 116, 105, 111, 110], [105, 102], [108, 111, 99, 97, 108], [110, 105, 108], [110, 111, 116], [111, 114], [114, 101, 116, 117, 114, 110], [116, 104, 101, 110], [116, 114, 117, 101], [119, 104, 105, 108, 101]]
def keyList : List UInt8 := [32, 97, 110, 100, 32, 98, 114, 101, 97, 107, 32, 100, 111, 32, 101, 108, 115, 101, 32, 101, 108, 115, 101, 105, 102, 32, 101, 110, 100, 32, 102, 97, 108, 115, 101, 32, 102, 111, 114, 32, 102, 117, 110, 99, 116, 105, 111, 110, 32, 105, 102, 32, 108, 111, 99, 97, 108, 32, 110, 105, 108, 32, 110, 111, 116, 32, 111, 114, 32, 114, 101, 116, 117, 114, 110, 32, 116, 104, 101, 110, 32, 116, 114, 117, 101, 32, 119, 104, 105, 108, 101, 32]

theorem keys_checked : ((List.range 93).all fun i => !((keyList.drop i).head? == some 32) || ((keyList.drop (i + 1)).takeWhile (· != 32) == [] || keyWords.contains ((keyList.drop (i + 1)).takeWhile (· != 32)))) = true := by kernel_rfl

theorem takeWhile_word : ∀ {s : List UInt8} {t : List UInt8}, (∀ x ∈ s, x ≠ 32) → (s ++ 32 :: t).takeWhile (· != 32) = s
  | [], t, _ => rfl
  | x :: s, t, h => by
      have hx : (x != 32) = true := by simp [h x (by simp)]
      rw [List.cons_append, List.takeWhile_cons, if_pos hx, takeWhile_word fun y hy => h y (by simp [hy])]

theorem key_of_contains {s : List UInt8} (hb : ∀ x ∈ s, x ≠ 32) (hne : s ≠ []) (h : Lib.contains keyList (32 :: s ++ [32]) = true) : keyWords.contains s = true := by
  unfold Lib.contains at h
  have h0 := of_decide_eq_true h
  rcases Lib.index_spec keyList (32 :: s ++ [32]) with ⟨h1, _⟩ | ⟨i, h1, h2, h3, _⟩
  · omega
  · have hp : (32 :: s ++ [32]) <+: keyList.drop i := by
      unfold Lib.occAt at h3
      exact List.isPrefixOf_iff_prefix.1 h3
    obtain ⟨t, ht⟩ := hp
    have e1 : keyList.drop i = 32 :: (s ++ 32 :: t) := by rw [← ht]; simp
    have e2 : keyList.drop (i + 1) = s ++ 32 :: t := by
      have : keyList.drop (i + 1) = (keyList.drop i).drop 1 := by rw [List.drop_drop]
      rw [this, e1]
      rfl
    have hl : i < 93 := by
      have : keyList.length = 92 := by kernel_rfl
      omega
    have hc := List.all_eq_true.1 keys_checked i (List.mem_range.2 hl)
    rw [e1, e2, takeWhile_word hb] at hc
    simp only [List.head?_cons, beq_self_eq_true, Bool.not_true, Bool.false_or, Bool.or_eq_true, beq_iff_eq] at hc
    exact hc.resolve_left hne

theorem no_blank {s : List UInt8} (h : ¬ 0 ≤ Lib.index s [32]) : ∀ x ∈ s, x ≠ 32 := by
  rw [Lib.index_one] at h
  have h1 : Lib.indexByte s 32 = -1 := by
    have := Lib.indexByte_ge s 32
    omega
  intro x hx he
  subst he
  obtain ⟨k, hk, hk'⟩ := List.getElem_of_mem hx
  exact Lib.indexByte_none h1 k (by rw [List.getElem?_eq_getElem hk, hk'])

end Go.Proofs.YtiabpbememhdeaaDoor
