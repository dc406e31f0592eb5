/-
  'minstrellaw10.LexBetween', proved: whatever the string, the law answers true and its argument reads as before: words stand in order, with nothing but blanks and comments between them. Condition: the package's list of signs is laid as the program's text lays it (the card ties that).
-/
import Derived.Test.YtiabpbememhdeaaDoorPe
import Derived.Test.YtiabpbememhdeaaDoorCards
import Derived.Test.YtiabpbememhdeaaDoorTie
import Derived.JoinedCond

set_option linter.unusedVariables false
set_option linter.unusedSimpArgs false
namespace Go.Proofs.YtiabpbememhdeaaDoor
open Go.ChangeShapes Go.WideShapes Go.ChangeAt Go.RowKit Go.Lib
open Go.ChangeMaps (open_string shut_string)

theorem lexBetween_witness (os : Os) {H : Type} (enc : TypeId × Value → H) :
    (OpenSpec.ofChange Rows.lexBetweenSpec).preRow enc Tryd.prog Tryd.f4 Rows.lexBetweenRow.domain false Rows.lexBetweenRow.laid ((laidWorld os).forCall (fun _ _ => 0) ⟨#[], #[.string ⟨#[]⟩], []⟩).memory #[.string ⟨#[]⟩] := by
  have hw : (DataW.whole enc Tryd.prog ((laidWorld os).forCall (fun _ _ => 0) ⟨#[], #[.string ⟨#[]⟩], []⟩).memory Tryd.f4.params.toList (OpenSpec.ofChange Rows.lexBetweenSpec).vars false #[Value.string ⟨#[]⟩].toList 8).map (fun x => (x.1, x.2.1)) =
      some ([.lit (.string [])], []) := by kernel_rfl
  obtain ⟨⟨x1, x2, x3⟩, hx, hx1⟩ := Option.map_eq_some_iff.1 hw
  simp only [Prod.mk.injEq] at hx1
  obtain ⟨rfl, rfl⟩ := hx1
  exact OpenSpec.preRow_of_cond 8 hx (by kernel_rfl) (fun k hk => by cases hk) (by kernel_rfl) (laid_met os _)

set_option maxRecDepth 100000 in
theorem lexBetween_lifted (os : Os) (started : os.Started) (H : Type) (enc : TypeId × Value → H) (F : Stop.Interp) :
    ReturnsInHanded {} Tryd.checked os 4 .any ((OpenSpec.ofChange Rows.lexBetweenSpec).preRow enc Tryd.prog Tryd.f4 Rows.lexBetweenRow.domain false Rows.lexBetweenRow.laid) (((OpenSpec.ofChange Rows.lexBetweenSpec).at F).post enc Tryd.prog Tryd.f4 false true false false) := by
  refine returnsInHanded_of_row (C := Tryd.checked) (s := OpenSpec.ofChange Rows.lexBetweenSpec) own started (by kernel_rfl) Tryd.func4
    (witness_row_atRef (enc := enc) (C := Tryd.checked) false (laidWorld os) #[.string ⟨#[]⟩] rfl (by kernel_rfl) (by kernel_rfl) (by kernel_rfl) (lexBetween_witness os enc)) ?_
  intro W base args ds gs before hval0 hW _ _ hsz0 hL hsh _
  have hval : ∀ (j : Nat) t v, Tryd.f4.params[j]? = some t → args[j]? = some v → Value.okWide Tryd.prog W .any base t v := hval0
  have hW' := hW
  obtain ⟨p, q, hA0, hV0, rfl, _, _⟩ := hW
  have hA : DataW.TrodAll enc Tryd.prog W 0 (fun _ => true) true Tryd.f4.params.toList args.toList ds p := hA0
  rw [Tryd.params4] at hA hval
  obtain ⟨v0, d0, rfl, rfl, h0⟩ := trodAll_one hA
  obtain ⟨rfl, rfl⟩ := trodVars_none hV0
  obtain ⟨s, rfl, rfl, rfl, ws⟩ := open_string Tryd.underlying9 (hval 0 9 v0 rfl rfl) h0
  clear hA0 hV0 hval0
  have hsz : (DataW.weightsEach Tryd.prog (Tryd.f4.params.toList ++ []) ([.lit (.string s.data.toList)] ++ [])).all (· ≤ reachBytes) = true := hsz0
  rw [Tryd.params4] at hsz
  have hlen : s.data.toList.length ≤ reachBytes := sized_string hsz (j := 0) rfl rfl
  have hlt := reachBytes_lt
  have hsize : s.size < 2 ^ 47 := by
    have : s.size = s.data.toList.length := rfl
    omega
  obtain ⟨hB, ho⟩ := oldS_ok hsh hL
  obtain ⟨_, s', hrun, _⟩ := between_ok 0 s .empty
  obtain ⟨_, hcalls⟩ := Ai.calls_of_run (P := Tryd.prog) (old := oldS) (known := knownW) (B := W.heap.size) (w₀ := W) funcs_ok (by kernel_rfl) (show Tryd.prog.globals.size ≤ W.heap.size by rw [Tryd.globals_size]; exact hB) ho (knownW_ok hsh hB ho) (v := .bool true) rfl rfl hrun W (fun _ _ => rfl) (Nat.le_refl _)
  refine hcalls.mono ?_
  rintro e W' ⟨rfl, grew⟩
  have e1 : ((OpenSpec.ofChange Rows.lexBetweenSpec).at F).fn H ([.lit (.string s.data.toList)] ++ []) = { results := [.lit (.bool true)], args := [.lit (.string s.data.toList)] } := rfl
  refine ⟨_, rfl, _, _, _, [], [], [], hW', ?_, ?_, ?_, (show Below W.heap.size W W' from ⟨grew.2.2.1, grew.2.2.2.1, grew.2.2.2.2, grew.2.1, grew.1⟩).frame _, fun h => by cases h⟩
  · rw [e1]; exact trodAll_mk1 (shut_bool Tryd.underlying4 _)
  · rw [e1]; exact trodAll_mk1 (shut_string Tryd.underlying9 ws)
  · rw [e1]; rfl

theorem lexBetween_row : Rows.LexBetweenSaid :=
  OpenClaim.holds_of_cond 4 Tryd.f4 rfl rfl rfl rfl rfl rfl rfl ⟨rfl, rfl, rfl, rfl, rfl⟩ rfl rfl rfl rfl rfl (by kernel_rfl) Tryd.func4 (by kernel_rfl)
    (of_decide_eq_true (by kernel_rfl)) (by unfold Func.isWrapper; first | (rw [if_pos (by decide +kernel)]; kernel_rfl) | (rw [if_neg (by decide +kernel)]; exact ⟨rfl, rfl⟩))
    (fun os started H enc _ F0 => by rw [OpenClaim.pre_eq_preRow]; exact lexBetween_lifted os started H enc F0)

theorem lexBetween_holds : Rows.LexBetweenCardSaid :=
  Claim7.holds_tied_plain_at .later [] [.data] true (true, "ce9570b4bdaca9aa084e1702a24842fb380439a4a217f0527d8399b1e9ecb02a") true
    lexBetween_row (fun _ h => by cases h) (by kernel_rfl) (fun _ h => by cases h) lexBetween_row_tie rfl ⟨rfl, rfl⟩ (by kernel_rfl) rfl
    (fun f fn hf hfn => by
      obtain rfl : f = 4 := Option.some.inj ((show Tryd.prog.funcNamed "minstrel/minstrellaw10.LexBetween" = some 4 by kernel_rfl).symm.trans hf) |>.symm
      obtain rfl : fn = Tryd.f4 := (Option.some.inj (Tryd.func4.symm.trans hfn)).symm
      exact ⟨by kernel_rfl, fun j t ht => by
        rw [Tryd.params4] at ht
        have h3 : t = 9 := by
          rcases j with _ | j
          · simpa using ht.symm
          · simp at ht
        subst h3
        exact (show Tryd.prog.wantsStandIn 9 = false by kernel_rfl)⟩)
    (by kernel_rfl)

#print axioms lexBetween_holds

end Go.Proofs.YtiabpbememhdeaaDoor
