/-
  THE SHORT RUN, 10: all operations that turn nothing, in one.
-/
import Derived.Test.YtiabpbememhdeaaDoorAiI
set_option linter.unusedSimpArgs false
set_option linter.unusedVariables false
set_option linter.unusedSectionVars false
namespace Go.Ai
open Go

section
variable {E : Env} {B : Nat} {w₀ : World} (hE : E.Ok B w₀) {φ : Phi} {s : St}
include hE

omit hE in
theorem bytes_run (P : Program) (w : World) (F : Value → ByteArray → Sem (ForInStep ByteArray)) (hF : ∀ n b, F (.int .u8 n) b = pure (.yield (b.push (UInt8.ofNat n.toNat)))) :
    ∀ (l l' : List Value) (bs : List UInt8) (acc : ByteArray), VL B φ l l' → bytesOf l = some bs → (forIn l' acc F).run P w = .ok ⟨acc.data ++ bs.toArray⟩ w := by
  intro l
  induction l with
  | nil =>
    intro l' bs acc h hb
    obtain rfl : l' = [] := by simpa using h.1.symm
    simp only [bytesOf, Option.some.injEq] at hb
    subst hb
    simp
  | cons v l ih =>
    intro l' bs acc h hb
    cases l' with
    | nil => have := h.1; simp at this
    | cons v' l' =>
      unfold bytesOf at hb
      split at hb
      · rename_i hh; simp at hh
      · rename_i b l₀ hh
        cases hh
        cases hr : bytesOf l with
        | none => simp [hr] at hb
        | some bs' =>
          simp only [hr, Option.map_some, Option.some.injEq] at hb
          subst hb
          have hv' : v' = .int .u8 b := (h.2 0 _ _ rfl rfl).int_left
          subst hv'
          simp only [List.forIn_cons, Sem.run_bind, hF, Sem.run_pure, Result.andThen_ok]
          rw [ih l' bs' _ ⟨by simpa using h.1, fun i a b ha hb => h.2 (i + 1) a b (by simpa using ha) (by simpa using hb)⟩ hr]
          simp [ByteArray.push]
      · simp at hb

theorem q_convert {src dst : TypeId} {x x' v : Value} {s' : St} {w : World} (hR : R B w₀ φ s.get w) (hx : V B φ x x')
    (hq : toSlice E dst = false) (h : aConvert E s src dst x = some (v, s')) :
    s' = s ∧ ∃ v', (convert src dst x').run E.P w = .ok v' w ∧ V B φ v v' := by
  unfold aConvert at h
  split at h
  next a n c =>
    split at h
    next e hs hd =>
      split at h
      next he =>
        cases hr : readN E.old s a n with
        | none => simp [hr] at h
        | some l =>
          simp only [hr] at h
          cases hb : bytesOf l with
          | none => simp [hb] at h
          | some bs =>
            simp only [hb, Option.map_some, Option.some.injEq, Prod.mk.injEq] at h
            obtain ⟨rfl, rfl⟩ := h
            refine ⟨rfl, .string ⟨bs.toArray⟩, ?_, .string _⟩
            have key : ∀ c', V B φ (.pointer (some a)) (.pointer (some c')) → ∀ cap', (convert src dst (.slice (some c') n cap')).run E.P w = .ok (.string ⟨bs.toArray⟩) w := by
              intro c' hp cap'
              obtain ⟨h1, l', h2, h3, h4⟩ := hR.read hE.old hp hr
              have h5 := run_loadCells_list (P := E.P) w c' l' h4
              rw [h2] at h5
              have h7 : (Conv.bytesToString (.slice (some c') n cap')).run E.P w = .ok (.string ⟨bs.toArray⟩) w := by
                unfold Conv.bytesToString
                simp only [Sem.run_bind, h5, Result.andThen_ok, List.forIn_toArray]
                rw [bytes_run E.P w _ (fun n b => rfl) l l' bs .empty ⟨by rw [h1, h2], h3⟩ hb]
                simp
              simp only [convert, Sem.run_bind, run_desc hE hs, run_desc hE hd, run_desc hE he, Result.andThen_ok]
              exact h7
            rcases hx.slice_some with ⟨c', rfl, h2, h3⟩ | ⟨e, k, c', h1, h2, _, _, _, _, hp, _, rfl⟩ | ⟨e, k, o, h1, h2, hn0, h3, h4, h5, h6, _, rfl⟩
            · exact key c' h2 _
            · exact key c' hp _
            · subst hn0
              have hbs : bs = [] := by
                have : l = [] := by
                  have hp : V B φ (.pointer (some ⟨a.block, a.off, some e⟩)) (.pointer (some ⟨k.b, a.off - k.base, none⟩)) := .pnew _ _ _ _ h3 h4
                  have hae : a = ⟨a.block, a.off, some e⟩ := by rw [← h1]
                  rw [hae] at hr
                  obtain ⟨h1, _⟩ := hR.read hE.old hp hr
                  simpa using h1
                rw [this] at hb
                simpa [bytesOf] using hb.symm
              subst hbs
              simp only [convert, Sem.run_bind, run_desc hE hs, run_desc hE hd, run_desc hE he, Result.andThen_ok]
              simp [Conv.bytesToString, loadCells, loadCellsFrom]
              rfl
      next => simp at h
    next => simp at h
  next b =>
    rw [hx.string_left]
    split at h
    next hs hd =>
      cases h
      exact ⟨rfl, .string b, by simp [convert, run_desc hE hs, run_desc hE hd], .string b⟩
    next e hs hd => simp [toSlice, hd] at hq
    next => simp at h
  next l c =>
    simp only [hq, Bool.false_eq_true, if_false] at h
    obtain ⟨h1, h2⟩ := map_prod h
    obtain ⟨h3, h4⟩ := pureFlat_spec h1
    rw [hx.flat_right (by simp [flat])]
    exact ⟨h2, v, h4 w, .refl_of_flat B φ v h3⟩
  next k n =>
    simp only [hq, Bool.false_eq_true, if_false] at h
    obtain ⟨h1, h2⟩ := map_prod h
    obtain ⟨h3, h4⟩ := pureFlat_spec h1
    rw [hx.int_left]
    exact ⟨h2, v, h4 w, .refl_of_flat B φ v h3⟩
  next => simp at h
  next => simp at h


omit hE in
theorem VL.flat {l l' : List Value} (h : VL B φ l l') (hf : flatL l = true) : l' = l := by
  apply List.ext_getElem?
  intro i
  by_cases hi : i < l.length
  · have hi' : i < l'.length := by rw [← h.1]; exact hi
    rw [List.getElem?_eq_getElem hi, List.getElem?_eq_getElem hi']
    have := h.2 i _ _ (List.getElem?_eq_getElem hi) (List.getElem?_eq_getElem hi')
    rw [this.flat_right ((flatL_iff l).1 hf i _ (List.getElem?_eq_getElem hi))]
  · have := h.1
    rw [List.getElem?_eq_none (by omega), List.getElem?_eq_none (by omega)]

def quietB : Builtin → Bool
  | .len | .cap | .min | .max => true
  | _ => false

theorem q_builtin {b : Builtin} {argTypes : Array TypeId} {type : TypeId} {args args' : List Value} {v : Value} {s' : St} {w : World} {cs : Array Bool} (hR : R B w₀ φ s.get w) (ha : VL B φ args args')
    (hq : quietB b = true) (h : aBuiltin E s b argTypes type args = some (v, s')) :
    s' = s ∧ ∃ v', (builtin b argTypes type cs args'.toArray).run E.P w = .ok (.value v') w ∧ V B φ v v' := by
  unfold aBuiltin at h
  split at h
  next x =>
    obtain ⟨x', rfl⟩ : ∃ x', args' = [x'] := by
      match args', ha.1 with
      | [x'], _ => exact ⟨x', rfl⟩
    have hx := ha.2 0 x x' rfl rfl
    split at h
    next a n c =>
      split at h
      next t ht =>
        split at h
        next e hd =>
          cases h
          obtain ⟨c', cap', rfl⟩ : ∃ c' cap', x' = .slice (some c') n cap' := by
            rcases hx.slice_some with ⟨c', h1, _⟩ | ⟨_, _, c', _, _, _, _, _, _, _, _, h1⟩ | ⟨_, k, o, _, _, h0, _, _, _, _, _, h1⟩
            · exact ⟨c', _, h1⟩
            · exact ⟨c', _, h1⟩
            · subst h0; exact ⟨_, _, h1⟩
          exact ⟨rfl, goInt n, by simp [builtin, Builtin.len_, ht, run_desc hE hd], .int _ _⟩
        next => simp at h
      next => simp at h
    next f =>
      split at h
      next t es ht hg =>
        split at h
        next kt et hd =>
          cases h
          rcases run_entries hE hR hx (by simp [aEntries, hg] : aEntries s (.map (some f)) = some es) with ⟨h1, _⟩ | ⟨f', k, ces, clock, h1, rfl, h2, h3, h4, h5, _⟩
          · simp at h1
          · refine ⟨rfl, goInt es.length, ?_, .int _ _⟩
            have hget : (getObj k.b).run E.P w = .ok (.map ces clock) w := by simp [getObj, Sem.run, h4]
            simp [builtin, Builtin.len_, ht, run_desc hE hd, hget, h5]
        next => simp at h
      next => simp at h
    next =>
      split at h
      next hf =>
        obtain ⟨h1, h2⟩ := map_prod h
        obtain ⟨h3, h4⟩ := pureFlat_spec h1
        rw [hx.flat_right hf]
        exact ⟨h2, v, by simp [builtin, h4 w], .refl_of_flat B φ v h3⟩
      next => simp at h
  next x =>
    obtain ⟨x', rfl⟩ : ∃ x', args' = [x'] := by
      match args', ha.1 with
      | [x'], _ => exact ⟨x', rfl⟩
    have hx := ha.2 0 x x' rfl rfl
    split at h
    next a n c =>
      split at h
      next t ht =>
        split at h
        next e hd =>
          split at h
          next => simp at h
          next hc =>
            cases h
            rcases hx.slice_some with ⟨c', rfl, _⟩ | ⟨_, _, c', h1, h2, _⟩ | ⟨_, k, o, h1, h2, _⟩
            · exact ⟨rfl, goInt c, by simp [builtin, Builtin.cap_, ht, run_desc hE hd], .int _ _⟩
            · exact absurd ⟨by simp [h1], h2⟩ hc
            · exact absurd ⟨by simp [h1], h2⟩ hc
        next => simp at h
      next => simp at h
    next =>
      split at h
      next hf =>
        obtain ⟨h1, h2⟩ := map_prod h
        obtain ⟨h3, h4⟩ := pureFlat_spec h1
        rw [hx.flat_right hf]
        exact ⟨h2, v, by simp [builtin, h4 w], .refl_of_flat B φ v h3⟩
      next => simp at h
  next => simp [quietB] at hq
  next => simp [quietB] at hq
  next => simp [quietB] at hq
  next => simp [quietB] at hq
  next =>
    split at h
    next hf =>
      obtain ⟨h1, h2⟩ := map_prod h
      obtain ⟨h3, h4⟩ := pureFlat_spec h1
      rw [ha.flat hf]
      exact ⟨h2, v, by simp [builtin, h4 w], .refl_of_flat B φ v h3⟩
    next => simp at h
  next =>
    split at h
    next hf =>
      obtain ⟨h1, h2⟩ := map_prod h
      obtain ⟨h3, h4⟩ := pureFlat_spec h1
      rw [ha.flat hf]
      exact ⟨h2, v, by simp [builtin, h4 w], .refl_of_flat B φ v h3⟩
    next => simp at h
  next => simp at h

omit hE in
theorem VO.map {x : Option Operand} {ρ ρ' : Operand → Value} (h : ∀ y, x = some y → V B φ (ρ y) (ρ' y)) : VO B φ (x.map ρ) (x.map ρ') := by
  cases x with
  | none => exact .inl ⟨rfl, rfl⟩
  | some y => exact .inr ⟨_, _, rfl, rfl, h y rfl⟩

/-- Where 'max' stands in a slice expression, 'high' does. -/
def shapeOk : Op → Bool
  | .slice _ _ _ hi mx => !mx.isSome || hi.isSome
  | _ => true

theorem aVal_quiet {ρ ρ' : Operand → Value} {o : Oper} {v : Value} {s' : St} {w : World} (hR : R B w₀ φ s.get w) (hρ : ∀ x ∈ o.op.operands, V B φ (ρ x) (ρ' x)) (hs : shapeOk o.op = true)
    (hq : quietOp E o.op = true) (h : aVal E ρ o s = some (v, s')) : s' = s ∧ ∃ v', (execOp ρ' o).run E.P w = .ok (.value v') w ∧ V B φ v v' := by
  have wrap : ∀ {m : Sem Value} {v' : Value}, m.run E.P w = .ok v' w → (do pure (.value (← m)) : Sem Next).run E.P w = .ok (.value v') w := by
    intro m v' hm; rw [Sem.run_bind, hm]; rfl
  obtain ⟨dst, op, ty, pos, after, guard⟩ := o
  unfold aVal at h
  unfold execOp
  cases op <;> simp only [quietOp, Bool.false_eq_true] at hq <;> simp only [Op.operands] at hρ <;> simp only at h ⊢
  case move x => cases h; exact ⟨rfl, _, rfl, hρ x (by simp)⟩
  case assign x => cases h; exact ⟨rfl, _, rfl, hρ x (by simp)⟩
  case pick c a b =>
    split at h
    next t ht =>
      cases h
      have hc := hρ c (by simp)
      rw [ht] at hc
      refine ⟨rfl, if t then ρ' a else ρ' b, by simp [hc.bool_left, asBool], ?_⟩
      cases t
      · exact hρ b (by simp)
      · exact hρ a (by simp)
    next => simp at h
  case build t parts =>
    obtain ⟨h1, h2⟩ := map_prod h
    obtain ⟨v', h3, h4⟩ := q_build hE (φ := φ) (ps' := parts.map fun (i, x) => (i, ρ' x)) (by simp) (fun i p p' hp hp' => by
      simp only [Array.getElem?_map, Option.map_eq_some_iff] at hp hp'
      obtain ⟨q, hq1, rfl⟩ := hp
      obtain ⟨q', hq2, rfl⟩ := hp'
      rw [hq1] at hq2
      cases hq2
      refine ⟨rfl, hρ q.2 ?_⟩
      simp only [List.mem_toArray, List.mem_map]
      exact ⟨q, by simpa using Array.mem_of_getElem? hq1, rfl⟩) h1 w
    exact ⟨h2, v', wrap h3, h4⟩
  case load t a =>
    obtain ⟨h1, h2⟩ := map_prod h
    obtain ⟨v', h3, h4⟩ := run_load hE hR (hρ a (by simp)) h1
    exact ⟨h2, v', wrap h3, h4⟩
  case nilCheck x =>
    have hx := hρ x (by simp)
    split at h
    next a ha =>
      rw [ha] at hx
      cases h
      obtain ⟨c, hc⟩ := hx.pointer_some
      rw [hc] at hx ⊢
      exact ⟨rfl, _, rfl, hx⟩
    next f a b ha =>
      rw [ha] at hx
      cases h
      generalize ρ' x = y at hx ⊢
      cases hx with
      | func fn h1 h2 h3 h4 => exact ⟨rfl, _, rfl, .func _ h1 h2 h3 h4⟩
    next => simp at h
  case binOp op t x y yt =>
    obtain ⟨h1, h2⟩ := map_prod h
    obtain ⟨v', h3, h4⟩ := q_bin hE (hρ x (by simp)) (hρ y (by simp)) h1 w
    exact ⟨h2, v', wrap h3, h4⟩
  case unOp op t x =>
    split at h
    next hf =>
      obtain ⟨h1, h2⟩ := map_prod h
      obtain ⟨h3, h4⟩ := pureFlat_spec h1
      rw [(hρ x (by simp)).flat_right hf]
      exact ⟨h2, v, wrap (h4 w), .refl_of_flat B φ v h3⟩
    next => simp at h
  case convert src dst x =>
    obtain ⟨h1, v', h3, h4⟩ := q_convert hE hR (hρ x (by simp)) (by simpa using hq) h
    exact ⟨h1, v', wrap h3, h4⟩
  case makeInterface t x =>
    split at h
    next => simp at h
    next d hni hd =>
      cases h
      refine ⟨rfl, .iface t (ρ' x), wrap ?_, .iface t (hρ x (by simp))⟩
      unfold Instr.makeInterface
      simp only [Sem.run_bind, run_desc hE hd, Result.andThen_ok]
      cases d <;> first | (exfalso; exact hni _ hd; done) | rfl
    next => simp at h
  case makeFunc fn first captured =>
    cases h
    have h1 : VA B φ (first.map ρ) (first.map ρ') := VA.map first fun x hx => hρ x (by simp [hx])
    have h2 : VA B φ (captured.map ρ) (captured.map ρ') := VA.map captured fun x hx => hρ x (by simp [hx])
    exact ⟨rfl, .func fn (first.map ρ') (captured.map ρ'), wrap rfl, .func fn h1.1 h1.2 h2.1 h2.2⟩
  case slice t x lo hi mx =>
    obtain ⟨h1, h2⟩ := map_prod h
    have hsome : (mx.map ρ).isSome = true → (hi.map ρ).isSome = true := by
      simp only [shapeOk] at hs
      cases mx <;> cases hi <;> simp_all
    obtain ⟨v', h3, h4⟩ := q_slice hE hR (hρ x (by simp)) (VO.map (ρ' := ρ') fun y hy => hρ y (by simp [hy])) (VO.map (ρ' := ρ') fun y hy => hρ y (by simp [hy])) (VO.map (ρ' := ρ') fun y hy => hρ y (by simp [hy])) hsome h1
    exact ⟨h2, v', wrap h3, h4⟩
  case fieldAddr t x f =>
    obtain ⟨h1, h2⟩ := map_prod h
    obtain ⟨v', h3, h4⟩ := q_fieldAddr hE (hρ x (by simp)) h1 w
    exact ⟨h2, v', wrap h3, h4⟩
  case field t x f =>
    obtain ⟨h1, h2⟩ := map_prod h
    obtain ⟨v', h3, h4⟩ := q_field hE (hρ x (by simp)) h1 w
    exact ⟨h2, v', wrap h3, h4⟩
  case indexAddr t x i =>
    obtain ⟨h1, h2⟩ := map_prod h
    obtain ⟨v', h3, h4⟩ := q_indexAddr hE (hρ x (by simp)) (hρ i (by simp)) h1 w
    exact ⟨h2, v', wrap h3, h4⟩
  case index t x i =>
    obtain ⟨h1, h2⟩ := map_prod h
    obtain ⟨v', h3, h4⟩ := q_index hE (hρ x (by simp)) (hρ i (by simp)) h1 w
    exact ⟨h2, v', wrap h3, h4⟩
  case lookup t x k ok =>
    obtain ⟨h1, h2⟩ := map_prod h
    obtain ⟨v', h3, h4⟩ := q_lookup hE hR (hρ x (by simp)) (hρ k (by simp)) h1
    exact ⟨h2, v', wrap h3, h4⟩
  case typeAssert x xt t ok =>
    obtain ⟨h1, h2⟩ := map_prod h
    obtain ⟨v', h3, h4⟩ := q_typeAssert hE (xt := xt) (hρ x (by simp)) h1 w
    exact ⟨h2, v', wrap h3, h4⟩
  case extract t i =>
    split at h
    next vs ht =>
      obtain ⟨h1, h2⟩ := map_prod h
      have hx := hρ t (by simp)
      rw [ht] at hx
      obtain ⟨vs', hv', hvs⟩ := VA.of_tuple hx
      obtain ⟨y, h3, h4⟩ := hvs.get h1
      exact ⟨h2, y, wrap (by rw [hv']; simp [Instr.extract, h3]), h4⟩
    next => simp at h
  case call c =>
    obtain ⟨callee, args, argTypes⟩ := c
    cases callee <;> simp only [Bool.false_eq_true] at hq
    case builtin b =>
      have hq' : quietB b = true := by cases b <;> simp_all [quietB]
      simp only at h
      obtain ⟨h1, v', h3, h4⟩ := q_builtin hE (cs := args.map fun | .const _ => true | _ => false) hR (args' := args.toList.map ρ') ⟨by simp, fun i x y hx hy => by
        simp only [List.getElem?_map, Option.map_eq_some_iff] at hx hy
        obtain ⟨q, hq1, rfl⟩ := hx
        obtain ⟨q', hq2, rfl⟩ := hy
        rw [hq1] at hq2
        cases hq2
        exact hρ q (by
          simp only [Call.operands, List.append_toArray, List.nil_append]
          simpa using Array.mem_of_getElem? (by simpa using hq1))⟩ hq' h
      refine ⟨h1, v', ?_, h4⟩
      simp only [resolve, Sem.run_bind, Sem.run_pure, Result.andThen_ok, invoke]
      have : (args.toList.map ρ').toArray = args.map ρ' := by rw [← Array.toList_map]
      rw [this] at h3
      exact h3

end

end Go.Ai
