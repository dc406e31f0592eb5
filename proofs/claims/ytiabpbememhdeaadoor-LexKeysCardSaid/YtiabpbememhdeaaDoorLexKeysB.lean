/-
  The lexer's seat: LexKeys, walked to its end.
-/
import Derived.Test.YtiabpbememhdeaaDoorLexKeysA
set_option linter.unusedVariables false
namespace Go.Proofs.YtiabpbememhdeaaDoor
open Go.Ai Go.RowKit
set_option maxRecDepth 100000

def keyStr : ByteArray := ⟨#[97, 110, 100, 32, 98, 114, 101, 97, 107, 32, 100, 111, 32, 101, 108, 115, 101, 32, 101, 108, 115, 101, 105, 102, 32, 101, 110, 100, 32, 102, 97, 108, 115, 101, 32, 102, 111, 114, 32, 102, 117, 110, 99, 116, 105, 111, 110, 32, 105, 102, 32, 108, 111, 99, 97, 108, 32, 110, 105, 108, 32, 110, 111, 116, 32, 111, 114, 32, 114, 101, 116, 117, 114, 110, 32, 116, 104, 101, 110, 32, 116, 114, 117, 101, 32, 119, 104, 105, 108, 101]⟩

abbrev KeysOk (b : ByteArray) : Prop := ∀ s, ∃ s', callN EK 1000 (7 + 1) 3 [.string b] s = some (.ok (.bool true), s') ∧ After s s' [] []

theorem keysBlank (b : ByteArray) (h : (!(b.data.toList == [])) = true) (h2 : (!Lib.contains b.data.toList [32]) = false) (hn : NoneIs b keyStr) : KeysOk b := by
  intro s
  obtain ⟨s1, h4⟩ := in_false6 b keyStr (of_decide_eq_true (by kernel_rfl)) hn s
  exact fn_by (holds_nil s) [.is 0 h, .is 0 h, .is 1 h2, .is 0 h2, .is 0 h2, .is 0 h2, .is 0 h2, .is 0 h, .is 0 h, .is 0 h, .call 0 0 [] h4, .is 0 h, .m 0 0] [] (by kernel_rfl)
theorem keysNone (b : ByteArray) (h : (!(b.data.toList == [])) = true) (h2 : (!Lib.contains b.data.toList [32]) = true) (h3 : 1 + b.size ≤ 2 ^ 62) (h4 : (⟨#[32]⟩ ++ b : ByteArray).size + 1 ≤ 2 ^ 62) (h5 : Lib.contains keyList ((⟨#[32]⟩ ++ b : ByteArray) ++ ⟨#[32]⟩ : ByteArray).data.toList = false)
    (h6 : (decide (((⟨#[32]⟩ ++ b : ByteArray) ++ ⟨#[32]⟩ : ByteArray).size = 1) || decide ((⟨keyList.toArray⟩ : ByteArray).size < 4294967281)) = true) (hn : NoneIs b keyStr) (h7 : (Lib.contains keyList ((⟨#[32]⟩ ++ b : ByteArray) ++ ⟨#[32]⟩ : ByteArray).data.toList == false) = true) : KeysOk b := by
  intro s
  obtain ⟨s1, h9⟩ := in_false6 b keyStr (of_decide_eq_true (by kernel_rfl)) hn s
  exact fn_by (holds_nil s) [.is 0 h, .is 0 h, .is 1 h2, .is 0 h2, .yes 0 h3, .is 0 h2, .yes 0 h4, .is 0 h2, .is 0 h6, .is 0 h2, .is 0 h, .is 0 h, .is 0 h, .call 0 0 [] h9, .is 0 h, .is 0 h7, .is 1 h7, .m 0 0] [] (by kernel_rfl)
theorem keysEmpty (b : ByteArray) (h : (!(b.data.toList == [])) = false) : KeysOk b := by
  intro s
  exact fn_by (holds_nil s) [.is 0 h, .is 0 h, .is 0 h, .is 0 h, .is 0 h, .is 0 h, .m 0 0] [] (by kernel_rfl)
theorem keys0 : KeysOk ⟨#[97, 110, 100]⟩ := by
  intro s
  exact fn_by (holds_nil s) [.m 0 0] [] (by kernel_rfl)
theorem keys1 : KeysOk ⟨#[98, 114, 101, 97, 107]⟩ := by
  intro s
  exact fn_by (holds_nil s) [.m 0 0] [] (by kernel_rfl)
theorem keys2 : KeysOk ⟨#[100, 111]⟩ := by
  intro s
  exact fn_by (holds_nil s) [.m 0 0] [] (by kernel_rfl)
theorem keys3 : KeysOk ⟨#[101, 108, 115, 101]⟩ := by
  intro s
  exact fn_by (holds_nil s) [.m 0 0] [] (by kernel_rfl)
theorem keys4 : KeysOk ⟨#[101, 108, 115, 101, 105, 102]⟩ := by
  intro s
  exact fn_by (holds_nil s) [.m 0 0] [] (by kernel_rfl)
theorem keys5 : KeysOk ⟨#[101, 110, 100]⟩ := by
  intro s
  exact fn_by (holds_nil s) [.m 0 0] [] (by kernel_rfl)
theorem keys6 : KeysOk ⟨#[102, 97, 108, 115, 101]⟩ := by
  intro s
  exact fn_by (holds_nil s) [.m 0 0] [] (by kernel_rfl)
theorem keys7 : KeysOk ⟨#[102, 111, 114]⟩ := by
  intro s
  exact fn_by (holds_nil s) [.m 0 0] [] (by kernel_rfl)
theorem keys8 : KeysOk ⟨#[102, 117, 110, 99, 116, 105, 111, 110]⟩ := by
  intro s
  exact fn_by (holds_nil s) [.m 0 0] [] (by kernel_rfl)
theorem keys9 : KeysOk ⟨#[105, 102]⟩ := by
  intro s
  exact fn_by (holds_nil s) [.m 0 0] [] (by kernel_rfl)
theorem keys10 : KeysOk ⟨#[108, 111, 99, 97, 108]⟩ := by
  intro s
  exact fn_by (holds_nil s) [.m 0 0] [] (by kernel_rfl)
theorem keys11 : KeysOk ⟨#[110, 105, 108]⟩ := by
  intro s
  exact fn_by (holds_nil s) [.m 0 0] [] (by kernel_rfl)
theorem keys12 : KeysOk ⟨#[110, 111, 116]⟩ := by
  intro s
  exact fn_by (holds_nil s) [.m 0 0] [] (by kernel_rfl)
theorem keys13 : KeysOk ⟨#[111, 114]⟩ := by
  intro s
  exact fn_by (holds_nil s) [.m 0 0] [] (by kernel_rfl)
theorem keys14 : KeysOk ⟨#[114, 101, 116, 117, 114, 110]⟩ := by
  intro s
  exact fn_by (holds_nil s) [.m 0 0] [] (by kernel_rfl)
theorem keys15 : KeysOk ⟨#[116, 104, 101, 110]⟩ := by
  intro s
  exact fn_by (holds_nil s) [.m 0 0] [] (by kernel_rfl)
theorem keys16 : KeysOk ⟨#[116, 114, 117, 101]⟩ := by
  intro s
  exact fn_by (holds_nil s) [.m 0 0] [] (by kernel_rfl)
theorem keys17 : KeysOk ⟨#[119, 104, 105, 108, 101]⟩ := by
  intro s
  exact fn_by (holds_nil s) [.m 0 0] [] (by kernel_rfl)

theorem noneIs_keys {b : ByteArray} (h : keyWords.contains b.data.toList = false) : NoneIs b keyStr := by
  have hc : ((List.range 91).all fun i => !(decide (i = 90) || keyStr.get! i == 32) || keyWords.contains (keyStr.extract (fromOf keyStr i) i).data.toList) = true := by kernel_rfl
  intro i hi hb
  have hs : keyStr.size = 90 := by kernel_rfl
  have h1 := List.all_eq_true.1 hc i (List.mem_range.2 (by omega))
  rw [beq_eq_false_iff_ne]
  intro he
  rw [he, h] at h1
  simp only [Bool.or_false, Bool.not_eq_true', Bool.or_eq_false_iff, decide_eq_false_iff_not, beq_eq_false_iff_ne] at h1
  rcases hb with hb | hb
  · exact h1.1 (by omega)
  · exact h1.2 hb

theorem keys_ok (b : ByteArray) (hb : b.size ≤ 2 ^ 60) : KeysOk b := by
  by_cases hk : keyWords.contains b.data.toList = true
  · have hmem : b.data.toList ∈ keyWords := by simpa using hk
    obtain ⟨⟨l⟩⟩ := b
    simp only [keyWords, List.mem_cons, List.not_mem_nil, or_false] at hmem
    rcases hmem with rfl | rfl | rfl | rfl | rfl | rfl | rfl | rfl | rfl | rfl | rfl | rfl | rfl | rfl | rfl | rfl | rfl | rfl
    · exact keys0
    · exact keys1
    · exact keys2
    · exact keys3
    · exact keys4
    · exact keys5
    · exact keys6
    · exact keys7
    · exact keys8
    · exact keys9
    · exact keys10
    · exact keys11
    · exact keys12
    · exact keys13
    · exact keys14
    · exact keys15
    · exact keys16
    · exact keys17
  · have hk : keyWords.contains b.data.toList = false := by simpa using hk
    have hn := noneIs_keys hk
    by_cases he : b.data.toList = []
    · exact keysEmpty b (by rw [he]; rfl)
    · have h : (!(b.data.toList == [])) = true := by rw [Bool.not_eq_true', beq_eq_false_iff_ne]; exact he
      cases h2 : Lib.contains b.data.toList [32]
      · have hs : (⟨#[32]⟩ ++ b : ByteArray).size = 1 + b.size := by rw [ByteArray.size_append]; rfl
        have h5 : Lib.contains keyList ((⟨#[32]⟩ ++ b : ByteArray) ++ ⟨#[32]⟩ : ByteArray).data.toList = false := by
          cases h5 : Lib.contains keyList ((⟨#[32]⟩ ++ b : ByteArray) ++ ⟨#[32]⟩ : ByteArray).data.toList
          · rfl
          · exfalso
            have e : ((⟨#[32]⟩ ++ b : ByteArray) ++ ⟨#[32]⟩ : ByteArray).data.toList = 32 :: b.data.toList ++ [32] := by simp
            rw [e] at h5
            have hnb : ¬ 0 ≤ Lib.index b.data.toList [32] := by
              unfold Lib.contains at h2
              simpa using h2
            rw [key_of_contains (no_blank hnb) he h5] at hk
            simp at hk
        exact keysNone b h (by rw [h2]; rfl) (by omega) (by omega) h5 (by rw [Bool.or_eq_true]; exact .inr (by kernel_rfl)) hn (by rw [h5]; rfl)
      · exact keysBlank b h (by rw [h2]; rfl) hn

end Go.Proofs.YtiabpbememhdeaaDoor
