/-
  THE SHORT RUN, 9: the other operations that turn nothing, and all of them in one.
-/
import Derived.Test.YtiabpbememhdeaaDoorAiH
set_option linter.unusedSimpArgs false
set_option linter.unusedVariables false
set_option linter.unusedSectionVars false
namespace Go.Ai
open Go

section
variable {E : Env} {B : Nat} {w₀ : World} (hE : E.Ok B w₀) {φ : Phi} {s : St}
include hE

theorem q_places {fields : Array Field} {places : Array (Nat × Nat)} (h : aPlaces E fields = some places) (w : World) :
    (fields.mapM fun f => (do pure (f.offset, ← sizeOf f.type) : Sem (Nat × Nat))).run E.P w = .ok places w := by
  unfold aPlaces at h
  obtain ⟨l⟩ := fields
  rw [← Array.toArray_toList (xs := places)] at *
  generalize places.toList = ps at *
  simp only [List.mapM_toArray, Option.map_eq_map, Option.map_eq_some_iff, Sem.run_map] at h ⊢
  obtain ⟨a, ha, hps⟩ := h
  have : a = ps := by simpa using hps
  subst this
  have key : ∀ (l : List Field) (a : List (Nat × Nat)), l.mapM (fun f => (E.size f.type).map fun n => (f.offset, n)) = some a →
      (l.mapM fun f => (do pure (f.offset, ← sizeOf f.type) : Sem (Nat × Nat))).run E.P w = .ok a w := by
    intro l
    induction l with
    | nil => intro a h; simp at h; subst h; rfl
    | cons f l ih =>
      intro a h
      simp only [List.mapM_cons] at h ⊢
      cases hn : E.size f.type with
      | none => simp [hn] at h
      | some n =>
        simp only [hn, Option.map_some, Option.pure_def, Option.bind_eq_bind, Option.bind_some] at h
        cases hl : l.mapM (fun f => (E.size f.type).map fun n => (f.offset, n)) with
        | none => simp [hl] at h
        | some r =>
          simp only [hl, Option.bind_some, Option.some.injEq] at h
          subst h
          simp only [Sem.run_bind, run_size hE hn, ih _ hl, Result.andThen_ok, Sem.run_pure]
  rw [key _ _ ha]
  rfl

theorem q_build {t : TypeId} {ps ps' : Array (Nat × Value)} {v : Value} (hl : ps.size = ps'.size)
    (hp : ∀ (i : Nat) (p p' : Nat × Value), ps[i]? = some p → ps'[i]? = some p' → p.1 = p'.1 ∧ V B φ p.2 p'.2) (h : aBuild E t ps = some v) (w : World) :
    ∃ v', (Instr.build t ps').run E.P w = .ok v' w ∧ V B φ v v' := by
  have hl' : ps.toList.length = ps'.toList.length := by simpa using hl
  have hp' : ∀ (i : Nat) (p p' : Nat × Value), ps.toList[i]? = some p → ps'.toList[i]? = some p' → p.1 = p'.1 ∧ V B φ p.2 p'.2 := fun i p p' h1 h2 => hp i p p' (by simpa using h1) (by simpa using h2)
  unfold aBuild at h
  split at h
  next z fields hz hd =>
    split at h
    next places hpl =>
      cases hf : Instr.fill (places[·]?) z.cells ps.toList with
      | none => simp [hf] at h
      | some r =>
        simp only [hf, Option.map_some, Option.some.injEq] at h
        subst h
        obtain ⟨r', h1, h2⟩ := fill_rel (B := B) (φ := φ) (places[·]?) ps.toList ps'.toList z.cells z.cells r hl' hp' (V.refl_of_flat B φ z (hE.zero _ _ hz).1).cells hf
        refine ⟨.agg r', ?_, .agg h2.1 h2.2⟩
        unfold Instr.build
        simp only [Sem.run_bind, run_zero hE hz, run_desc hE hd, Result.andThen_ok, q_places hE hpl, h1, Sem.run_pure]
    next => simp at h
  next z k elem hz hd =>
    split at h
    next n hn =>
      cases hf : Instr.fill (fun i => some (i * n, n)) z.cells ps.toList with
      | none => simp [hf] at h
      | some r =>
        simp only [hf, Option.map_some, Option.some.injEq] at h
        subst h
        obtain ⟨r', h1, h2⟩ := fill_rel (B := B) (φ := φ) (fun i => some (i * n, n)) ps.toList ps'.toList z.cells z.cells r hl' hp' (V.refl_of_flat B φ z (hE.zero _ _ hz).1).cells hf
        refine ⟨.agg r', ?_, .agg h2.1 h2.2⟩
        unfold Instr.build
        simp only [Sem.run_bind, run_zero hE hz, run_desc hE hd, Result.andThen_ok, run_size hE hn, h1, Sem.run_pure]
    next => simp at h
  next => simp at h

omit hE in
theorem aInt_some {i i' : Value} {n : Int} (hi : V B φ i i') (h : aInt i = some n) : ∃ k, i' = .int k n := by
  unfold aInt at h
  split at h
  · cases h; exact ⟨_, hi.int_left⟩
  · simp at h

theorem q_indexAddr {t : TypeId} {x x' i i' v : Value} (hx : V B φ x x') (hi : V B φ i i') (h : aIndexAddr E t x i = some v) (w : World) :
    ∃ v', (Instr.indexAt t x' i').run E.P w = .ok v' w ∧ V B φ v v' := by
  unfold aIndexAddr at h
  split at h
  next => simp at h
  next n hn =>
    obtain ⟨k, rfl⟩ := aInt_some hi hn
    split at h
    next len elem a hd =>
      obtain ⟨c, rfl⟩ := hx.pointer_some
      split at h
      next sz hsz =>
        split at h
        next hb =>
          cases h
          refine ⟨.pointer (some (c.add (n.toNat * sz))), ?_, hx.pointer_add _⟩
          simp [Instr.indexAt, asIntOf, run_desc hE hd, Instr.sureAddr, run_size hE hsz, hb]
        next => simp at h
      next => simp at h
    next elem a len cap hd =>
      split at h
      next sz hsz =>
        split at h
        next hb =>
          cases h
          have hlen : 0 < len := by omega
          have : ∃ c cap', x' = .slice (some c) len cap' ∧ V B φ (.pointer (some a)) (.pointer (some c)) := by
            rcases hx.slice_some with ⟨c, h1, h2, _⟩ | ⟨_, _, c, _, _, _, _, _, _, h1, _, h2⟩ | ⟨_, _, _, _, _, h1, _⟩
            · exact ⟨c, _, h1, h2⟩
            · exact ⟨c, _, h2, h1⟩
            · omega
          obtain ⟨c, cap', rfl, hp⟩ := this
          refine ⟨.pointer (some (c.add (n.toNat * sz))), ?_, hp.pointer_add _⟩
          simp [Instr.indexAt, asIntOf, run_desc hE hd, Instr.sureAddr, run_size hE hsz, hb]
        next => simp at h
      next => simp at h
    next => simp at h

theorem q_index {t : TypeId} {x x' i i' v : Value} (hx : V B φ x x') (hi : V B φ i i') (h : aIndex E t x i = some v) (w : World) :
    ∃ v', (Instr.index t x' i').run E.P w = .ok v' w ∧ V B φ v v' := by
  unfold aIndex at h
  split at h
  next b =>
    split at h
    next hf =>
      rw [hx.string_left, hi.flat_right hf]
      obtain ⟨h1, h2⟩ := pureFlat_spec h
      exact ⟨v, h2 w, .refl_of_flat B φ v h1⟩
    next => simp at h
  next cs =>
    obtain ⟨cs', rfl, hcs⟩ := VA.of_agg hx
    split at h
    next n len elem hn hd =>
      obtain ⟨k, rfl⟩ := aInt_some hi hn
      split at h
      next sz hsz =>
        split at h
        next hb =>
          obtain ⟨y, h1, h2⟩ := run_part hE h hcs w
          exact ⟨y, by simp [Instr.index, asIntOf, run_desc hE hd, run_size hE hsz, hb, h1], h2⟩
        next => simp at h
      next => simp at h
    next => simp at h
  next => simp at h

theorem q_fieldAddr {t : TypeId} {x x' v : Value} {f : Nat} (hx : V B φ x x') (h : aFieldAddr E t x f = some v) (w : World) :
    ∃ v', (Instr.fieldAt t x' f).run E.P w = .ok v' w ∧ V B φ v v' := by
  unfold aFieldAddr at h
  split at h
  next fields a hd =>
    obtain ⟨c, rfl⟩ := hx.pointer_some
    split at h
    next fd hfd =>
      split at h
      next n hn =>
        split at h
        next => simp at h
        next hn0 =>
          cases h
          exact ⟨.pointer (some (c.add fd.offset)), by simp [Instr.fieldAt, run_desc hE hd, hfd, Instr.sureAddr, fieldPlace, run_size hE hn, hn0], hx.pointer_add _⟩
      next => simp at h
    next => simp at h
  next => simp at h

theorem q_field {t : TypeId} {x x' v : Value} {f : Nat} (hx : V B φ x x') (h : aField E t x f = some v) (w : World) :
    ∃ v', (Instr.field t x' f).run E.P w = .ok v' w ∧ V B φ v v' := by
  unfold aField at h
  split at h
  next fields cs hd =>
    obtain ⟨cs', rfl, hcs⟩ := VA.of_agg hx
    split at h
    next fd hfd =>
      obtain ⟨y, h1, h2⟩ := run_part hE h hcs w
      exact ⟨y, by simp [Instr.field, run_desc hE hd, hfd, asAgg, h1], h2⟩
    next => simp at h
  next => simp at h

theorem V.tuple2 {x x' y y' : Value} (hx : V B φ x x') (hy : V B φ y y') : V B φ (.tuple #[x, y]) (.tuple #[x', y']) := by
  refine .tuple rfl fun i a b ha hb => ?_
  match i with
  | 0 => simp at ha hb; subst ha; subst hb; exact hx
  | 1 => simp at ha hb; subst ha; subst hb; exact hy
  | i + 2 => simp at ha

theorem q_typeAssert {xt t : TypeId} {x x' v : Value} {ok : Bool} (hx : V B φ x x') (h : aTypeAssert E x t ok = some v) (w : World) :
    ∃ v', (Instr.typeAssert x' xt t ok).run E.P w = .ok v' w ∧ V B φ v v' := by
  have hz : ∀ z, E.zero t = some z → V B φ z z := fun z hz => V.refl_of_flat B φ z (hE.zero _ _ hz).1
  unfold aTypeAssert at h
  split at h
  next => simp at h
  next => simp at h
  next d hni hd =>
    split at h
    next u y =>
      cases hx with
      | iface _ hy =>
        rename_i y'
        split at h
        next hu =>
          cases h
          cases ok with
          | true =>
            refine ⟨.tuple #[y', .bool true], ?_, V.tuple2 hE hy (.bool true)⟩
            subst hu
            unfold Instr.typeAssert
            simp only [Sem.run_bind, run_desc hE hd, Result.andThen_ok]
            cases d <;> first | (exfalso; exact hni _ hd; done) | simp
          | false =>
            refine ⟨y', ?_, hy⟩
            subst hu
            unfold Instr.typeAssert
            simp only [Sem.run_bind, run_desc hE hd, Result.andThen_ok]
            cases d <;> first | (exfalso; exact hni _ hd; done) | simp
        next hu =>
          split at h
          next hok =>
            cases hzz : E.zero t with
            | none => simp [hzz] at h
            | some z =>
              simp only [hzz, Option.map_some, Option.some.injEq] at h
              subst h
              refine ⟨.tuple #[z, .bool false], ?_, V.tuple2 hE (hz z hzz) (.bool false)⟩
              unfold Instr.typeAssert
              simp only [Sem.run_bind, run_desc hE hd, Result.andThen_ok]
              cases d <;> first | (exfalso; exact hni _ hd; done) | simp [hu, hok, run_zero hE hzz]
          next => simp at h
    next =>
      rw [hx.flat_right rfl]
      split at h
      next hok =>
        cases hzz : E.zero t with
        | none => simp [hzz] at h
        | some z =>
          simp only [hzz, Option.map_some, Option.some.injEq] at h
          subst h
          refine ⟨.tuple #[z, .bool false], ?_, V.tuple2 hE (hz z hzz) (.bool false)⟩
          unfold Instr.typeAssert
          simp only [Sem.run_bind, run_desc hE hd, Result.andThen_ok]
          cases d <;> first | (exfalso; exact hni _ hd; done) | simp [hok, run_zero hE hzz]
      next => simp at h
    next => simp at h


/-! Maps. -/
omit hE in
theorem sameNow_keyIs {d : TypeDesc} {k key : Value} {b : Bool} (h : keyIs k key = some b) (hf : keyFits d k = true) : Instr.sameNow d k key = some b := by
  cases d <;> cases k <;> simp [keyFits] at hf <;> cases key <;> simp_all [keyIs, Instr.sameNow]

omit hE in
theorem findNow_rel {kt : TypeId} {d : TypeDesc} {k : Value} (hf : keyFits d k = true) : ∀ (es : List (Value × Value)) (ces : List MapEntry) (i : Nat) (r : Option (Nat × Value)), es.length = ces.length →
    (∀ (j : Nat) (x : Value × Value) (e : MapEntry), es[j]? = some x → ces[j]? = some e → e.key = x.1 ∧ V B φ x.2 e.val) → findAt (keyEq E kt d k) es i = some r →
    ∃ r', Instr.findNow d k ces i = some r' ∧ ((r = none ∧ r' = none) ∨ ∃ j v v', r = some (j, v) ∧ r' = some (j, v') ∧ V B φ v v' ∧ i ≤ j ∧ j < i + es.length) := by
  intro es
  induction es with
  | nil =>
    intro ces i r hl hp h
    obtain rfl : ces = [] := by simpa using hl.symm
    simp only [findAt, Option.some.injEq] at h
    subst h
    exact ⟨none, rfl, .inl ⟨rfl, rfl⟩⟩
  | cons x es ih =>
    intro ces i r hl hp h
    cases ces with
    | nil => simp at hl
    | cons e ces =>
      obtain ⟨h1, h2⟩ := hp 0 x e rfl rfl
      have hq : keyEq E kt d k x.1 = keyIs k x.1 := by unfold keyEq; rw [if_pos hf]
      simp only [findAt, hq] at h
      split at h
      next hk =>
        cases h
        refine ⟨some (i, e.val), ?_, .inr ⟨i, x.2, e.val, rfl, rfl, h2, Nat.le_refl _, by simp⟩⟩
        simp only [Instr.findNow, h1, sameNow_keyIs hk hf]
      next hk =>
        obtain ⟨r', h3, h4⟩ := ih ces (i + 1) r (by simpa using hl) (fun j a b ha hb => hp (j + 1) a b (by simpa using ha) (by simpa using hb)) h
        refine ⟨r', by simp only [Instr.findNow, h1, sameNow_keyIs hk hf]; exact h3, ?_⟩
        rcases h4 with h4 | ⟨j, v, v', a1, a2, a3, a4, a5⟩
        · exact .inl h4
        · exact .inr ⟨j, v, v', a1, a2, a3, by omega, by simp; omega⟩
      next => simp at h

omit hE in
theorem findAsking_rel {kt : TypeId} {d : TypeDesc} {k : Value} (hf : keyFits d k = false) (w : World) : ∀ (es : List (Value × Value)) (ces : List MapEntry) (i : Nat) (r : Option (Nat × Value)), es.length = ces.length →
    (∀ (j : Nat) (x : Value × Value) (e : MapEntry), es[j]? = some x → ces[j]? = some e → e.key = x.1 ∧ V B φ x.2 e.val) → findAt (keyEq E kt d k) es i = some r →
    ∃ r', (Instr.findAsking kt k ces i).run E.P w = .ok r' w ∧ ((r = none ∧ r' = none) ∨ ∃ j v v', r = some (j, v) ∧ r' = some (j, v') ∧ V B φ v v' ∧ i ≤ j ∧ j < i + es.length) := by
  intro es
  induction es with
  | nil =>
    intro ces i r hl hp h
    obtain rfl : ces = [] := by simpa using hl.symm
    simp only [findAt, Option.some.injEq] at h
    subst h
    exact ⟨none, rfl, .inl ⟨rfl, rfl⟩⟩
  | cons x es ih =>
    intro ces i r hl hp h
    cases ces with
    | nil => simp at hl
    | cons e ces =>
      obtain ⟨h1, h2⟩ := hp 0 x e rfl rfl
      have hq : ∀ b, keyEq E kt d k x.1 = some b → (Op.equal kt k x.1).run E.P w = .ok b w := by
        intro b hb
        unfold keyEq at hb
        rw [hf] at hb
        simp only [Bool.false_eq_true, if_false] at hb
        split at hb
        · exact pureRun_spec _ _ _ hb w
        · simp at hb
      simp only [findAt] at h
      split at h
      next hk =>
        cases h
        refine ⟨some (i, e.val), ?_, .inr ⟨i, x.2, e.val, rfl, rfl, h2, Nat.le_refl _, by simp⟩⟩
        simp [Instr.findAsking, h1, hq _ hk]
      next hk =>
        obtain ⟨r', h3, h4⟩ := ih ces (i + 1) r (by simpa using hl) (fun j a b ha hb => hp (j + 1) a b (by simpa using ha) (by simpa using hb)) h
        refine ⟨r', by simp [Instr.findAsking, h1, hq _ hk]; exact h3, ?_⟩
        rcases h4 with h4 | ⟨j, v, v', a1, a2, a3, a4, a5⟩
        · exact .inl h4
        · exact .inr ⟨j, v, v', a1, a2, a3, by omega, by simp; omega⟩
      next => simp at h

theorem run_findKey {kt : TypeId} {d : TypeDesc} {k : Value} (hd : E.desc kt = some d) {es : List (Value × Value)} {ces : List MapEntry} {r : Option (Nat × Value)} (hl : es.length = ces.length)
    (hp : ∀ (j : Nat) (x : Value × Value) (e : MapEntry), es[j]? = some x → ces[j]? = some e → e.key = x.1 ∧ V B φ x.2 e.val) (h : findAt (keyEq E kt d k) es 0 = some r) (w : World) :
    ∃ r', (Instr.findKey kt k ces).run E.P w = .ok r' w ∧ ((r = none ∧ r' = none) ∨ ∃ j v v', r = some (j, v) ∧ r' = some (j, v') ∧ V B φ v v' ∧ j < es.length) := by
  unfold Instr.findKey
  simp only [Sem.run_bind, run_desc hE hd, Result.andThen_ok]
  cases hf : keyFits d k with
  | true =>
    obtain ⟨r', h1, h2⟩ := findNow_rel hf es ces 0 r hl hp h
    refine ⟨r', by simp [h1], ?_⟩
    rcases h2 with h2 | ⟨j, v, v', a1, a2, a3, a4, a5⟩
    · exact .inl h2
    · exact .inr ⟨j, v, v', a1, a2, a3, by omega⟩
  | false =>
    obtain ⟨r', h1, h2⟩ := findAsking_rel hf w es ces 0 r hl hp h
    have hgoal : (match Instr.findNow d k ces 0 with | some r => (pure r : Sem (Option (Nat × Value))) | none => Instr.findAsking kt k ces).run E.P w = .ok r' w := by
      cases ces with
      | nil =>
        simp only [Instr.findAsking, Sem.run_pure, Result.ok.injEq, and_true] at h1
        subst h1
        rfl
      | cons e ces =>
        cases es with
        | nil => simp at hl
        | cons x es =>
          have hst : isStructD d = true := by
            simp only [findAt, keyEq, hf, Bool.false_eq_true, if_false] at h
            cases hs : isStructD d with
            | true => rfl
            | false => simp [hs] at h
          have : Instr.findNow d k (e :: ces) 0 = none := by
            cases d <;> simp [isStructD] at hst
            simp [Instr.findNow, Instr.sameNow]
          rw [this]
          exact h1
    refine ⟨r', hgoal, ?_⟩
    rcases h2 with h2 | ⟨j, v, v', a1, a2, a3, a4, a5⟩
    · exact .inl h2
    · exact .inr ⟨j, v, v', a1, a2, a3, by omega⟩

theorem run_checkKey {d : TypeDesc} {t : TypeId} (hd : E.desc t = some d) {e : Bool} {k : Value} (h : keyOk E t d e k = true) (w : World) : (Instr.checkKey e 10000 t k).run E.P w = .ok () w := by
  unfold keyOk at h
  simp only [Bool.and_eq_true, Bool.or_eq_true] at h
  rcases h.2 with h1 | h1
  · show (Instr.checkKey e (9999 + 1) t k).run E.P w = _
    unfold Instr.checkKey
    simp only [Sem.run_bind, run_desc hE hd, Result.andThen_ok]
    cases d <;> first | (simp [keyFits] at h1; done) | rfl
  · obtain ⟨u, hu⟩ := Option.isSome_iff_exists.1 h1.2
    exact pureRun_spec _ _ _ hu w

/-- What a map's value holds. -/
theorem run_entries {x x' : Value} {es : List (Value × Value)} {w : World} (hR : R B w₀ φ s.get w) (hx : V B φ x x') (h : aEntries s x = some es) :
    (x = .map none ∧ x' = .map none ∧ es = []) ∨ ∃ f k ces clock, x = .map (some f) ∧ x' = .map (some k.b) ∧ φ f 0 = some k ∧ s.get f = some (.map es) ∧ w.heap[k.b]? = some (.map ces clock) ∧ ces.size = es.length ∧
      (∀ (j : Nat) (y : Value × Value) (e : MapEntry), es[j]? = some y → ces.toList[j]? = some e → e.key = y.1 ∧ V B φ y.2 e.val) ∧ ∀ (j : Nat) (y : Value × Value), es[j]? = some y → flat y.1 = true := by
  unfold aEntries at h
  split at h
  · cases h; exact .inl ⟨rfl, hx.flat_right rfl, rfl⟩
  · rename_i f
    split at h
    next es' hg =>
      cases h
      cases hx with
      | mnew _ k hk =>
        obtain ⟨ces, clock, h1, h2, h3⟩ := hR.map _ _ _ _ hg hk
        refine .inr ⟨f, k, ces, clock, rfl, rfl, hk, hg, h1, h2, fun j y e hy he => ?_, fun j y hy => ?_⟩
        · obtain ⟨e', a1, a2, a3, a4⟩ := h3 j y hy
          rw [Array.getElem?_toList, a1] at he
          cases he
          exact ⟨a2, a4⟩
        · obtain ⟨e', a1, a2, a3, a4⟩ := h3 j y hy
          exact a3
    next => simp at h
  · simp at h

theorem q_lookup {t : TypeId} {x x' k k' v : Value} {ok : Bool} {w : World} (hR : R B w₀ φ s.get w) (hx : V B φ x x') (hk : V B φ k k') (h : aLookup E s t x k ok = some v) :
    ∃ v', (Instr.lookup t x' k' ok).run E.P w = .ok v' w ∧ V B φ v v' := by
  unfold aLookup at h
  split at h
  next kt et hd =>
    split at h
    next d es z hkd hes hz =>
      split at h
      next hok =>
        have hfl : flat k = true := by unfold keyOk at hok; simp only [Bool.and_eq_true] at hok; exact hok.1
        obtain rfl := hk.flat_right hfl
        have hzz := V.refl_of_flat B φ z (hE.zero _ _ hz).1
        have hlast : ∀ (ces : List MapEntry), es.length = ces.length → (∀ (j : Nat) (y : Value × Value) (e : MapEntry), es[j]? = some y → ces[j]? = some e → e.key = y.1 ∧ V B φ y.2 e.val) →
            ∃ r' v', (Instr.findKey kt k' ces).run E.P w = .ok r' w ∧ V B φ v v' ∧
              ((∃ j a, r' = some (j, a) ∧ v' = if ok then .tuple #[a, .bool true] else a) ∨ (r' = none ∧ v' = if ok then .tuple #[z, .bool false] else z)) := by
          intro ces hl hp
          cases hfa : findAt (keyEq E kt d k') es 0 with
          | none => simp [hfa] at h
          | some r =>
            obtain ⟨r', h1, h2⟩ := run_findKey hE hkd hl hp hfa w
            rcases h2 with ⟨rfl, rfl⟩ | ⟨j, a, a', rfl, rfl, hv, _⟩
            · simp only [hfa, Option.some.injEq] at h
              subst h
              refine ⟨none, if ok then .tuple #[z, .bool false] else z, h1, ?_, .inr ⟨rfl, rfl⟩⟩
              split
              · exact V.tuple2 hE hzz (.bool false)
              · exact hzz
            · simp only [hfa, Option.some.injEq] at h
              subst h
              refine ⟨some (j, a'), if ok then .tuple #[a', .bool true] else a', h1, ?_, .inl ⟨j, a', rfl, rfl⟩⟩
              split
              · exact V.tuple2 hE hv (.bool true)
              · exact hv
        rcases run_entries hE hR hx hes with ⟨rfl, rfl, rfl⟩ | ⟨f, kb, ces, clock, rfl, rfl, h1, h2, h3, h4, h5, _⟩
        · obtain ⟨r', v', a1, a2, a3⟩ := hlast [] rfl (by simp)
          refine ⟨v', ?_, a2⟩
          have hc := run_checkKey hE hkd hok w
          simp only [List.isEmpty_nil] at hc
          rcases a3 with ⟨j, a, rfl, rfl⟩ | ⟨rfl, rfl⟩
          · simp [Instr.lookup, run_desc hE hd, hc, a1]
          · simp [Instr.lookup, run_desc hE hd, hc, a1, run_zero hE hz]
        · obtain ⟨r', v', a1, a2, a3⟩ := hlast ces.toList (by simpa using h4.symm) h5
          refine ⟨v', ?_, a2⟩
          have hc := run_checkKey hE hkd hok w
          have hemp : es.isEmpty = ces.isEmpty := by
            rw [Array.isEmpty, h4]
            cases es <;> simp
          rw [hemp] at hc
          have hget : (getObj kb.b).run E.P w = .ok (.map ces clock) w := by simp [getObj, Sem.run, h3]
          rcases a3 with ⟨j, a, rfl, rfl⟩ | ⟨rfl, rfl⟩
          · simp [Instr.lookup, run_desc hE hd, hget, hc, a1]
          · simp [Instr.lookup, run_desc hE hd, hget, hc, a1, run_zero hE hz]
      next => simp at h
    next => simp at h
  next => simp at h

end

end Go.Ai
