/-
  'minstrellaw26.NetOrder', proved: whatever the slice of bytes, the law answers true and its argument reads as before: messages of one to another one that are taken from the front come in the order in which they were put. No condition is asked.
-/
import Derived.Test.YtiabpbememhdeaaNetOrderB
set_option linter.unusedVariables false
namespace Go.Proofs.Ytiabpbememhdeaa
open Go.Ai Go.RowKit Go.ChangeShapes Go.WideShapes Go.ChangeAt

/-- The bytes of old memory. -/
def bytesOld (W : World) : Addr → Option Value := fun a =>
  match W.cell? a with
  | some (.int .u8 x) => if a.block < W.heap.size then some (.int .u8 x) else none
  | _ => none

theorem bytesOld_ok (W : World) : OldOk W.heap.size W (bytesOld W) := by
  intro a v h
  unfold bytesOld at h
  split at h
  next x hx =>
    split at h
    next hb => cases h; exact ⟨hb, hx, fun φ => V.refl_of_flat _ φ _ rfl⟩
    next => simp at h
  next => simp at h

theorem netFineO (W : World) : (netOrder.EO (bytesOld W)).Fine W.heap.size W := by
  refine envOf_fine funcs_ok (by kernel_rfl) (by rw [Try.globals_size]; exact Nat.zero_le _) (bytesOld_ok W) ?_
  intro g F args v hg hF
  unfold livesF at hg
  split at hg
  next hgg =>
    subst hgg
    cases hg
    match args, hF with
    | [], hF =>
      cases hF
      refine ⟨rfl, rfl, fun w hw hs => ?_⟩
      obtain ⟨s', h⟩ := lives_run
      exact known_of_run funcs_ok (by kernel_rfl) (by rw [Try.globals_size]; exact Nat.zero_le _) (fun a v h => by simp at h) rfl rfl h w hw hs
    | _ :: _, hF => simp at hF
  next => simp at hg

/-- A slice argument lies in a block that is there. -/
theorem slice_has {P : Program} {W : World} {base : Nat} {t e : TypeId} {a : Addr} {len cap : Nat} (ht : P.underlying t = some (.slice e)) (h : Value.okWide P W .any base t (.slice (some a) len cap)) : a.spot = none ∧ a.block < W.heap.size := by
  unfold Value.okWide at h
  rw [ht] at h
  simp only [Cell.okWide, ht, Cell.ok] at h
  obtain ⟨_, _, _, h1, row, cells, h2, _⟩ := h
  refine ⟨h1, ?_⟩
  unfold World.shape? at h2
  rcases Nat.lt_or_ge a.block W.heap.size with hlt | hge
  · exact hlt
  · rw [Array.getElem?_eq_none hge] at h2
    simp at h2

set_option maxRecDepth 100000 in
theorem netOrder_lifted (os : Os) (started : os.Started) (H : Type) (enc : TypeId × Value → H) :
    ReturnsInHanded {} Try.checked os 3 .any (Rows.netOrderSpec.pre6 enc Try.prog Try.f3 Rows.netOrderRow.domain false) (Rows.netOrderSpec.post enc Try.prog Try.f3 false true false false) := by
  refine returnsInHanded_of_change (C := Try.checked) own started (by kernel_rfl) Try.func3
    (ChangeSpec.witness6 (enc := enc) (C := Try.checked) false ⟨#[], #[.slice none 0 0], []⟩ 8 (by kernel_rfl) (by kernel_rfl) (by kernel_rfl) (by kernel_rfl)) ?_
  intro W base args ds gs before hval0 hW hcnd _
  have hval : ∀ (j : Nat) t v, Try.f3.params[j]? = some t → args[j]? = some v → Value.okWide Try.prog W .any base t v := hval0
  have hW' := hW
  obtain ⟨p, q, hA0, hV, rfl, hfz, hnd⟩ := hW
  have hA : DataW.TrodAll enc Try.prog W 0 (fun _ => true) true Try.f3.params.toList args.toList ds p := hA0
  rw [Try.params3] at hA hval
  obtain ⟨v0, vs0, d0, ds0, p0, q0, hargs, rfl, rfl, h0, r0⟩ := trodAll_cons hA
  obtain ⟨rfl, rfl, rfl⟩ := trodAll_nil r0
  obtain rfl : args = #[v0] := by cases args; simp_all
  obtain ⟨rfl, rfl⟩ := trodVars_none hV
  clear hA0
  have hok0 := hval 0 22 v0 rfl rfl
  have hlt : ∀ x ∈ p0, x.block < W.heap.size := fun x hx => by simpa using hW'.lt x (by simp [hx])
  have hwho : netOrder.Who W (bytesOld W) v0 ∧ V W.heap.size (fun _ _ => none) v0 v0 := by
    obtain ⟨a', len', cap', hv0⟩ := okWide_slice Try.underlying22 hok0
    subst hv0
    obtain ⟨fuel, hf⟩ := h0
    rcases open_ints Try.underlying22 Try.underlying5 (by kernel_rfl) hf with ⟨hcs, hx⟩ | ⟨a, len, cap, zs, hcs, hb, hl, hm, hzl, hx, hcell, hwf⟩
    · simp [Value.cells] at hcs
      obtain ⟨rfl, rfl, rfl⟩ := hcs
      exact ⟨.inl rfl, .snil _ _⟩
    · simp [Value.cells] at hcs
      obtain ⟨rfl, rfl, rfl⟩ := hcs
      obtain ⟨hs1, hs2⟩ := slice_has Try.underlying22 hok0
      obtain ⟨b, off, spot⟩ := a
      simp only at hs1 hs2
      subst hs1
      refine ⟨.inr ⟨b, off, len', cap', rfl, hs2, fun i hi => ?_⟩, .sold _ _ _ hs2 rfl⟩
      have hzl' : zs.length = cap' := by simpa using hzl
      have h1 := hcell i (by omega)
      rw [add_none] at h1
      have hmem : zs.getD i 0 ∈ zs := by
        rw [List.getD_eq_getElem?_getD, List.getElem?_eq_getElem (by omega)]
        exact List.getElem_mem _
      have hw := hwf _ hmem
      have hx : 0 ≤ zs.getD i 0 ∧ zs.getD i 0 ≤ 255 := by simpa [Lit.wf, IntKind.min, IntKind.max, IntKind.signed, IntKind.bits] using hw
      refine ⟨zs.getD i 0, ?_, hx.1, hx.2⟩
      unfold bytesOld
      rw [h1]
      simp only
      rw [if_pos hs2]
  refine (netOrder.walk (netFineO W) v0 hwho.1 hwho.2).mono fun e W' ⟨he, hb⟩ => ?_
  subst he
  exact ⟨_, rfl, _, _, _, [], p0 ++ [], [], hW', trodAll_cons_mk (shut_bool Try.underlying4 _) trodAll_mk0,
    trodAll_cons_mk (Below.trod laidOut (by kernel_rfl) (of_decide_eq_true (by kernel_rfl)) h0 hb hlt) trodAll_mk0, rfl, hb.frame _, fun h => by cases h⟩

theorem netOrder_holds : Rows.NetOrderSaid :=
  OpenClaim.holds_of_wide 3 Try.f3 rfl rfl rfl rfl rfl rfl rfl ⟨rfl, rfl, rfl, rfl, rfl⟩ rfl rfl rfl rfl rfl (by kernel_rfl) Try.func3 (by kernel_rfl)
    (of_decide_eq_true (by kernel_rfl)) (by unfold Func.isWrapper; first | (rw [if_pos (by decide +kernel)]; kernel_rfl) | (rw [if_neg (by decide +kernel)]; exact ⟨rfl, rfl⟩))
    (fun os started H enc _ => netOrder_lifted os started H enc)

#print axioms netOrder_holds

end Go.Proofs.Ytiabpbememhdeaa
