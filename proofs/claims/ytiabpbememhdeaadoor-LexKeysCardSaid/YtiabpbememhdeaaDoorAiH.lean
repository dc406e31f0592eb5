/-
  THE SHORT RUN, 8: operations that turn nothing, one by one.
-/
import Derived.Test.YtiabpbememhdeaaDoorAiG
set_option linter.unusedSimpArgs false
set_option linter.unusedVariables false
set_option linter.unusedSectionVars false
namespace Go.Ai
open Go

section
variable {E : Env} {B : Nat} {w₀ : World} (hE : E.Ok B w₀) {φ : Phi} {s : St}
include hE

theorem q_eqIn (d : Nat) {t : TypeId} {x y x' y' : Value} {b : Bool} (hx : V B φ x x') (hy : V B φ y y') (h : aEq E t x y = some b) (w : World) :
    (Op.equalIn (d + 1) t x' y').run E.P w = .ok b w := by
  unfold aEq at h
  split at h
  case h_1 e a hd => cases h; cases hx; obtain ⟨c, rfl⟩ := hy.pointer_some; simp only [Op.equalIn, Sem.run_bind, run_desc hE hd, Result.andThen_ok]; rfl
  case h_2 e a hd => cases h; cases hy; obtain ⟨c, rfl⟩ := hx.pointer_some; simp only [Op.equalIn, Sem.run_bind, run_desc hE hd, Result.andThen_ok]; rfl
  case h_3 e a b' hd =>
    split at h
    · rename_i n i j hn ha hb
      split at h
      · rename_i hc
        obtain ⟨hn0, hbl, rfl⟩ := hc
        cases h
        obtain ⟨ab, ao, as⟩ := a
        obtain ⟨bb, bo, bs⟩ := b'
        simp only at ha hb hbl
        subst ha; subst hb; subst hbl
        cases hx with
        | pold _ _ hs => simp at hs
        | pnew _ _ _ k hk hb =>
          cases hy with
          | pold _ _ hs => simp at hs
          | pnew _ _ _ k' hk' hb' =>
            obtain rfl : k = k' := by rw [hk] at hk'; exact Option.some.inj hk'
            simp only [Op.equalIn, Sem.run_bind, run_desc hE hd, Result.andThen_ok, run_size hE hn, hn0, sameAddr, ne_eq, not_false_eq_true, if_true, beq_self_eq_true]
            show Result.ok _ w = _
            congr 1
            by_cases hq : ao = bo
            · subst hq; simp
            · rw [beq_eq_false_iff_ne.2 hq, beq_eq_false_iff_ne]
              intro hh
              simp only [Addr.mk.injEq] at hh
              omega
      · simp at h
    · simp at h
  case h_4 e l c a l' c' hd => cases h; cases hx; cases hy <;> (simp only [Op.equalIn, Sem.run_bind, run_desc hE hd, Result.andThen_ok]; rfl)
  case h_5 e a l c l' c' hd => cases h; cases hy; cases hx <;> (simp only [Op.equalIn, Sem.run_bind, run_desc hE hd, Result.andThen_ok]; rfl)
  case h_6 ms t v hd => cases h; cases hx; cases hy; (simp only [Op.equalIn, Sem.run_bind, run_desc hE hd, Result.andThen_ok]; rfl)
  case h_7 ms t v hd => cases h; cases hx; cases hy; (simp only [Op.equalIn, Sem.run_bind, run_desc hE hd, Result.andThen_ok]; rfl)
  case h_8 k e f hd => cases h; cases hx; cases hy; (simp only [Op.equalIn, Sem.run_bind, run_desc hE hd, Result.andThen_ok]; rfl)
  case h_9 k e f hd => cases h; cases hx; cases hy; (simp only [Op.equalIn, Sem.run_bind, run_desc hE hd, Result.andThen_ok]; rfl)
  case h_10 p r vv fn a c hd => cases h; cases hx; cases hy; (simp only [Op.equalIn, Sem.run_bind, run_desc hE hd, Result.andThen_ok]; rfl)
  case h_11 p r vv fn a c hd => cases h; cases hx; cases hy; (simp only [Op.equalIn, Sem.run_bind, run_desc hE hd, Result.andThen_ok]; rfl)
  case h_12 => simp at h

theorem q_eq {t : TypeId} {x y x' y' : Value} {b : Bool} (hx : V B φ x x') (hy : V B φ y y') (h : aEq E t x y = some b) (w : World) :
    (Op.equal t x' y').run E.P w = .ok b w := q_eqIn hE 9999 hx hy h w

/-- What '==' with an address on a side is asked about. -/
def addrLike : Value → Bool
  | .pointer _ | .slice _ _ _ | .map _ | .func _ _ _ | .nilFunc | .iface _ _ => true
  | _ => false

omit hE in
theorem aEq_like {t : TypeId} {x y : Value} {b : Bool} (h : aEq E t x y = some b) : (addrLike x = true ∧ (addrLike y = true ∨ y = .nilIface)) ∨ (x = .nilIface ∧ addrLike y = true) := by
  unfold aEq at h
  split at h <;> simp_all [addrLike]

omit hE in
theorem V.addrLike {x y : Value} (h : V B φ x y) : addrLike y = addrLike x := by cases h <;> rfl

omit hE in
theorem run_guard (op : BinOp) (t : TypeId) (xo yo : Operand) (x y : Value) (w : World) (hl : (addrLike x = true ∧ (addrLike y = true ∨ y = .nilIface)) ∨ (x = .nilIface ∧ addrLike y = true)) :
    (eqGuard op t xo yo x y).run E.P w = .ok () w := by
  unfold eqGuard
  cases op <;> first
    | rfl
    | (rcases hl with ⟨h1, h2⟩ | ⟨rfl, h2⟩
       · cases x <;> first | (simp [Ai.addrLike] at h1; done) | rfl
       · cases y <;> first | (simp [Ai.addrLike] at h2; done) | rfl)

omit hE in
theorem run_binEq (t : TypeId) (x y : Value) (b : Bool) (w : World) (hl : (addrLike x = true ∧ (addrLike y = true ∨ y = .nilIface)) ∨ (x = .nilIface ∧ addrLike y = true))
    (h : (Op.equal t x y).run E.P w = .ok b w) : (binOp .eql t x y).run E.P w = .ok (.bool b) w ∧ (binOp .neq t x y).run E.P w = .ok (.bool (!b)) w := by
  rcases hl with ⟨h1, h2⟩ | ⟨rfl, h2⟩
  · cases x <;> first
      | (simp [Ai.addrLike] at h1; done)
      | (rcases h2 with h2 | rfl
         · cases y <;> first | (simp [Ai.addrLike] at h2; done) | (simp only [binOp, Sem.run_bind, h, Result.andThen_ok]; exact ⟨rfl, rfl⟩)
         · simp only [binOp, Sem.run_bind, h, Result.andThen_ok]; exact ⟨rfl, rfl⟩)
  · cases y <;> first | (simp [Ai.addrLike] at h2; done) | (simp only [binOp, Sem.run_bind, h, Result.andThen_ok]; exact ⟨rfl, rfl⟩)

theorem q_bin {op : BinOp} {t : TypeId} {xo yo : Operand} {x y x' y' v : Value} (hx : V B φ x x') (hy : V B φ y y') (h : aBin E op t xo yo x y = some v) (w : World) :
    ∃ v', (do eqGuard op t xo yo x' y'; binOp op t x' y' : Sem Value).run E.P w = .ok v' w ∧ V B φ v v' := by
  unfold aBin at h
  split at h
  · rename_i hf
    simp only [Bool.and_eq_true] at hf
    obtain rfl := hx.flat_right hf.1
    obtain rfl := hy.flat_right hf.2
    obtain ⟨h1, h2⟩ := pureFlat_spec h
    exact ⟨v, h2 w, .refl_of_flat B φ v h1⟩
  · split at h
    · cases hq : aEq E t x y with
      | none => simp [hq] at h
      | some b =>
        simp only [hq, Option.map_some, Option.some.injEq] at h
        subst h
        have hl := aEq_like hq
        rw [← hx.addrLike, ← hy.addrLike] at hl
        have hl' : (addrLike x' = true ∧ (addrLike y' = true ∨ y' = .nilIface)) ∨ (x' = .nilIface ∧ addrLike y' = true) := by
          rcases hl with ⟨h1, h2 | rfl⟩ | ⟨rfl, h2⟩
          · exact .inl ⟨h1, .inl h2⟩
          · exact .inl ⟨h1, .inr (hy.flat_right rfl)⟩
          · exact .inr ⟨hx.flat_right rfl, h2⟩
        exact ⟨.bool b, by rw [Sem.run_bind, run_guard _ _ _ _ _ _ w hl', Result.andThen_ok]; exact (run_binEq t x' y' b w hl' (q_eq hE hx hy hq w)).1, .bool b⟩
    · cases hq : aEq E t x y with
      | none => simp [hq] at h
      | some b =>
        simp only [hq, Option.map_some, Option.some.injEq] at h
        subst h
        have hl := aEq_like hq
        rw [← hx.addrLike, ← hy.addrLike] at hl
        have hl' : (addrLike x' = true ∧ (addrLike y' = true ∨ y' = .nilIface)) ∨ (x' = .nilIface ∧ addrLike y' = true) := by
          rcases hl with ⟨h1, h2 | rfl⟩ | ⟨rfl, h2⟩
          · exact .inl ⟨h1, .inl h2⟩
          · exact .inl ⟨h1, .inr (hy.flat_right rfl)⟩
          · exact .inr ⟨hx.flat_right rfl, h2⟩
        exact ⟨.bool (!b), by rw [Sem.run_bind, run_guard _ _ _ _ _ _ w hl', Result.andThen_ok]; exact (run_binEq t x' y' b w hl' (q_eq hE hx hy hq w)).2, .bool (!b)⟩
    · simp at h

/-- What the machine's value of an optional operand has to do with ours. -/
def VO (B : Nat) (φ : Phi) (v v' : Option Value) : Prop := (v = none ∧ v' = none) ∨ ∃ x x', v = some x ∧ v' = some x' ∧ V B φ x x'

omit hE in
theorem VO.flat {v v' : Option Value} (h : VO B φ v v') (hf : (v.map flat).getD true = true) : v' = v := by
  rcases h with ⟨rfl, rfl⟩ | ⟨x, x', rfl, rfl, hx⟩
  · rfl
  · rw [hx.flat_right (by simpa using hf)]

omit hE in
theorem VO.bound {v v' : Option Value} {d n : Nat} (h : VO B φ v v') (hb : aBound v d = some n) : (v' = none ∧ n = d) ∨ ∃ k i, v' = some (.int k i) ∧ 0 ≤ i ∧ n = i.toNat := by
  rcases bound_rel (d' := 0) h hb with ⟨_, h1, h2⟩ | h1
  · exact .inl ⟨h1, h2⟩
  · exact .inr h1

omit hE in
theorem V.pointer_new {a c : Addr} {e : Nat} (h : V B φ (.pointer (some a)) (.pointer (some c))) (he : a.spot = some e) : ∃ k, φ a.block e = some k ∧ k.base ≤ a.off ∧ c = ⟨k.b, a.off - k.base, none⟩ := by
  cases h with
  | pold _ _ hs => rw [he] at hs; simp at hs
  | pnew f off e' k hk hb => cases he; exact ⟨k, hk, hb, rfl⟩

omit hE in
theorem V.slice_mk {a c : Addr} {l cap : Nat} (h : V B φ (.pointer (some a)) (.pointer (some c))) (hc : a.spot = none ∨ cap < unc) : V B φ (.slice (some a) l cap) (.slice (some c) l cap) := by
  cases h with
  | pold _ hb hs => exact .sold _ _ _ hb hs
  | pnew f off e k hk hb => exact .sfix f off e l cap k hk hb (hc.resolve_left (by simp))

omit hE in
theorem V.slice_cut {a c : Addr} {l cap n : Nat} (m : Nat) (h : V B φ (.pointer (some a)) (.pointer (some c))) (hc : a.spot = none ∨ cap < unc) :
    V B φ (.slice (some (if m = n then a else aadd a n)) l cap) (.slice (some (if m = n then c else c.add n)) l cap) := by
  split
  · exact V.slice_mk h hc
  · exact V.slice_mk (h.pointer_add n) hc

omit hE in
theorem V.slice_cut' {a c : Addr} {l cap n m k : Nat} (h : V B φ (.pointer (some a)) (.pointer (some c))) (hc : a.spot = none ∨ cap < unc) :
    V B φ (.slice (some (if m = k then a else aadd a n)) l cap) (.slice (some (if m = k then c else c.add n)) l cap) := by
  split
  · exact V.slice_mk h hc
  · exact V.slice_mk (h.pointer_add n) hc

omit hE in
theorem div_fits {n b o k m : Nat} (hz : 0 < m) (hb : b ≤ o) (h : n ≤ b + k * m) : (n - o) / m ≤ k - (o - b) / m := by
  have h1 := Nat.div_mul_le_self (n - o) m
  have h2 := Nat.div_mul_le_self (o - b) m
  by_cases hno : o ≤ n
  · have h3 : ((n - o) / m + (o - b) / m) * m ≤ k * m := by rw [Nat.add_mul]; omega
    have := Nat.le_of_mul_le_mul_right h3 hz
    omega
  · have : n - o = 0 := by omega
    simp [this]

omit hE in
/-- A slice that reaches to its array's end, of a row's last growth's time. -/
theorem V.slice_unc {a : Addr} {len : Nat} {x' : Value} {w : World} (hR : R B w₀ φ s.get w) (hx : V B φ (.slice (some a) len unc) x') {cells : List Value} {esz ep lw : Nat} {hist : List Nat}
    (hg : s.get a.block = some (.row cells esz ep lw hist)) (hep : a.spot = some ep) (hlw : lw ≤ ep) :
    ∃ k c' cap', φ a.block ep = some k ∧ k.esz = esz ∧ 0 < esz ∧ x' = .slice (some c') len cap' ∧ k.base ≤ a.off ∧ (a.off - k.base) % esz = 0 ∧ cells.length ≤ k.base + k.cap * esz ∧ len ≤ cap' ∧ (cells.length - a.off) / esz ≤ cap' ∧
      ((V B φ (.pointer (some a)) (.pointer (some c')) ∧ cap' = k.cap - (a.off - k.base) / esz ∧ (a.off - k.base) / esz + len ≤ k.cap) ∨
       (len = 0 ∧ cap' = 0 ∧ k.cap ≤ (a.off - k.base) / esz ∧ ∃ o, c' = ⟨k.b, o, none⟩)) := by
  have hrow : ∀ k, φ a.block ep = some k → k.esz = esz ∧ 0 < esz ∧ cells.length ≤ k.base + k.cap * esz := by
    intro k hk
    obtain ⟨_, _, h2⟩ := hR.row _ _ _ _ _ _ _ _ hg hk
    obtain ⟨a1, a2, cs, t, fr, a3, a4, a5, a6, a7⟩ := h2 hlw
    refine ⟨a2, a1, ?_⟩
    rw [← a4]; simpa [ext] using a5
  rcases hx.slice_some with ⟨c', h1, h2, h3 | h3⟩ | ⟨e, k, c', h1, _, h3, h4, h5, h6, h7, hdv, h8⟩ | ⟨e, k, o, h1, _, h3, h4, h5, h6, h7, hdv, h8⟩
  · rw [hep] at h3; simp at h3
  · simp [unc] at h3
  · rw [hep] at h1; cases h1
    obtain ⟨rfl, hz, hle⟩ := hrow k h3
    refine ⟨k, c', _, h3, rfl, hz, h8, h4, hdv, hle, by omega, ?_, .inl ⟨h7, rfl, h6⟩⟩
    exact div_fits hz h4 hle
  · rw [hep] at h1; cases h1
    obtain ⟨rfl, hz, hle⟩ := hrow k h4
    subst h3
    refine ⟨k, _, 0, h4, rfl, hz, h8, h5, hdv, hle, Nat.le_refl _, ?_, .inr ⟨rfl, rfl, h7, o, rfl⟩⟩
    have := div_fits hz h5 hle
    omega


theorem q_slice {t : TypeId} {x x' v : Value} {lo lo' hi hi' mx mx' : Option Value} {w : World} (hR : R B w₀ φ s.get w) (hx : V B φ x x') (hlo : VO B φ lo lo') (hhi : VO B φ hi hi') (hmx : VO B φ mx mx')
    (hsome : mx.isSome = true → hi.isSome = true) (h : aSlice E s t x lo hi mx = some v) : ∃ v', (Instr.sliceAt t x' lo' hi' mx').run E.P w = .ok v' w ∧ V B φ v v' := by
  have hsome' : mx'.isSome = true → hi'.isSome = true := by
    rcases hmx with ⟨rfl, rfl⟩ | ⟨_, _, rfl, rfl, _⟩
    · simp
    · rcases hhi with ⟨rfl, rfl⟩ | ⟨_, _, rfl, rfl, _⟩
      · simp at hsome
      · simp
  unfold aSlice at h
  split at h
  · rename_i hf
    obtain rfl := hx.flat_right hf
    split at h
    · rename_i hb
      simp only [Bool.and_eq_true] at hb
      obtain rfl := hlo.flat hb.1.1
      obtain rfl := hhi.flat hb.1.2
      obtain rfl := hmx.flat hb.2
      obtain ⟨h1, h2⟩ := pureFlat_spec h
      exact ⟨v, h2 w, .refl_of_flat B φ v h1⟩
    · simp at h
  · split at h
    next elem a len cap hd hnf =>
      split at h
      next n l hh hn hbl hbh =>
        have hl' := hlo.bound hbl
        have hh' := hhi.bound hbh
        split at h
        next hn0 =>
          split at h
          next hnew =>
            obtain ⟨hsp, rfl⟩ := hnew
            split at h
            next hc =>
              simp only [Bool.and_eq_true, Bool.or_eq_true, decide_eq_true_eq] at hc
              obtain ⟨⟨hesz, hlh⟩, hroom⟩ := hc
              unfold eszIs at hesz
              split at hesz
              next cells esz ep lw hist hg =>
                simp only [Bool.and_eq_true, decide_eq_true_eq, beq_iff_eq] at hesz
                obtain ⟨⟨rfl, hep⟩, hlw⟩ := hesz
                have hroomAt : roomAt s a esz = (cells.length - a.off) / esz := by
                  unfold roomAt
                  rw [← hep, hg]
                  simp [hlw]
                obtain ⟨k, c', cap', hk, hke, hz, rfl, hbase, hdv, hfit, hlen, hrm, hcase⟩ := hx.slice_unc hR hg hep.symm hlw
                have hrm' : ∀ m, (m ≤ len ∨ m ≤ roomAt s a esz) → m ≤ cap' := fun m hm => by rcases hm with hm | hm; omega; rw [hroomAt] at hm; omega
                have hhc := hrm' hh hroom
                have hmul : (a.off + l * esz - k.base) / esz = (a.off - k.base) / esz + l := by
                  rw [show a.off + l * esz - k.base = (a.off - k.base) + l * esz by omega, Nat.add_mul_div_right _ _ hz]
                have hmod : (a.off + l * esz - k.base) % esz = 0 := by
                  rw [show a.off + l * esz - k.base = (a.off - k.base) + l * esz by omega, Nat.add_mul_mod_self_right]
                  exact hdv
                split at h
                next =>
                  cases h
                  have hmx' : mx' = none := by rcases hmx with ⟨_, h2⟩ | ⟨_, _, h1, _⟩; exact h2; simp at h1
                  subst hmx'
                  have hb := run_bounds E.P w true len cap' lo' hi' none l hh cap' (.inl ⟨rfl, rfl⟩) hh' hl' hlh hhc (Nat.le_refl _)
                  refine ⟨_, by simp only [Instr.sliceAt, Sem.run_bind, run_desc hE hd, Result.andThen_ok, Instr.slice, hb, run_size hE hn, Sem.run_pure]; rfl, ?_⟩
                  have haadd : aadd a (l * esz) = ⟨a.block, a.off + l * esz, some ep⟩ := by unfold aadd; rw [← hep]
                  rw [haadd]
                  by_cases hcl : cap' = l
                  · subst hcl
                    have : hh = cap' := by omega
                    subst this
                    simp only [if_true, Nat.sub_self]
                    have hcb : ∃ o, c' = ⟨k.b, o, none⟩ := by
                      rcases hcase with ⟨h1, _, _⟩ | ⟨_, _, _, h1⟩
                      · obtain ⟨k', hk', _, rfl⟩ := h1.pointer_new hep.symm
                        rw [hk] at hk'; cases hk'; exact ⟨_, rfl⟩
                      · exact h1
                    obtain ⟨o, rfl⟩ := hcb
                    refine .snone a.block _ ep o k hk (by omega) (by omega) ?_ (by rw [hke]; exact hmod)
                    rw [hke, hmul]
                    rcases hcase with ⟨_, h2, h3⟩ | ⟨_, h2, h3, _⟩ <;> omega
                  · rw [if_neg hcl]
                    rcases hcase with ⟨h1, h2, h3⟩ | ⟨h1, h2, h3, h4⟩
                    · obtain ⟨k', hk', _, rfl⟩ := h1.pointer_new hep.symm
                      rw [hk] at hk'; cases hk'
                      have := V.snew (B := B) (φ := φ) a.block (a.off + l * esz) ep (hh - l) k hk (by omega) (by omega) (by rw [hke, hmul]; omega) (by rw [hke]; exact hmod)
                      rw [hke, hmul] at this
                      simp only [Option.map_some, add_none]
                      rw [show a.off - k.base + l * esz = a.off + l * esz - k.base by omega, show cap' - l = k.cap - ((a.off - k.base) / esz + l) by omega]
                      exact this
                    · omega
                next mv =>
                  split at h
                  next m hm =>
                    split at h
                    next hc2 =>
                      obtain ⟨c1, c2, c3, c4⟩ := hc2
                      cases h
                      have hmc := hrm' m c2
                      have hmm : ∃ k i, mx' = some (.int k i) ∧ 0 ≤ i ∧ m = i.toNat := by
                        rcases hmx.bound hm with ⟨h1, _⟩ | h1
                        · rcases hmx with ⟨h2, _⟩ | ⟨_, _, _, h2, _⟩
                          · simp at h2
                          · rw [h1] at h2; simp at h2
                        · exact h1
                      obtain ⟨km, im, hmx1, hm0, hmi⟩ := hmm
                      have hb := run_bounds E.P w true len cap' lo' hi' mx' l hh m (.inr ⟨km, im, hmx1, hm0, hmi, hsome' (by simp [hmx1])⟩) hh' hl' hlh c1 hmc
                      refine ⟨_, by simp only [Instr.sliceAt, Sem.run_bind, run_desc hE hd, Result.andThen_ok, Instr.slice, hb, run_size hE hn, Sem.run_pure]; rfl, ?_⟩
                      have hptr : V B φ (.pointer (some a)) (.pointer (some c')) := by
                        rcases hcase with ⟨h1, _, _⟩ | ⟨h1, _⟩
                        · exact h1
                        · omega
                      have := hptr.slice_cut' (l := hh - l) (cap := m - l) (n := l * esz) (m := m) (k := l) (.inr c3)
                      split <;> simp_all
                    next => simp at h
                  next => simp at h
              next => simp at hesz
            next => simp at h
          next hold =>
            split at h
            next m hm =>
              split at h
              next hc2 =>
                obtain ⟨c1, c2, c3⟩ := hc2
                cases h
                have hmm : (mx' = none ∧ m = cap) ∨ ∃ k i, mx' = some (.int k i) ∧ 0 ≤ i ∧ m = i.toNat ∧ hi'.isSome = true := by
                  rcases hmx.bound hm with ⟨h1, h2⟩ | ⟨k, i, h1, h2, h3⟩
                  · exact .inl ⟨h1, h2⟩
                  · exact .inr ⟨k, i, h1, h2, h3, hsome' (by simp [h1])⟩
                rcases hx.slice_some with ⟨c', rfl, h2, h3⟩ | ⟨e, k, c', h1, h2, _⟩ | ⟨e, k, o, h1, h2, _⟩
                · have hb := run_bounds E.P w true len cap lo' hi' mx' l hh m hmm hh' hl' c1 c2 c3
                  refine ⟨_, by simp only [Instr.sliceAt, Sem.run_bind, run_desc hE hd, Result.andThen_ok, Instr.slice, hb, run_size hE hn, Sem.run_pure]; rfl, ?_⟩
                  have := h2.slice_cut' (l := hh - l) (cap := m - l) (n := l * n) (m := m) (k := l) (h3.imp id (by omega))
                  split <;> simp_all
                · exact absurd ⟨by simp [h1], h2⟩ hold
                · exact absurd ⟨by simp [h1], h2⟩ hold
              next => simp at h
            next => simp at h
        next => simp at h
      next => simp at h
    next k elem a hd hnf =>
      split at h
      next n l hh m hn hbl hbh hbm =>
        split at h
        next hc2 =>
          obtain ⟨c1, c2, c3, c4⟩ := hc2
          cases h
          obtain ⟨c', rfl⟩ := hx.pointer_some
          have hmm : (mx' = none ∧ m = k) ∨ ∃ k i, mx' = some (.int k i) ∧ 0 ≤ i ∧ m = i.toNat ∧ hi'.isSome = true := by
            rcases hmx.bound hbm with ⟨h1, h2⟩ | ⟨k, i, h1, h2, h3⟩
            · exact .inl ⟨h1, h2⟩
            · exact .inr ⟨k, i, h1, h2, h3, hsome' (by simp [h1])⟩
          have hb := run_bounds E.P w false k k lo' hi' mx' l hh m hmm (hhi.bound hbh) (hlo.bound hbl) c1 c2 c3
          refine ⟨_, by simp only [Instr.sliceAt, Sem.run_bind, run_desc hE hd, Result.andThen_ok, Instr.sureAddr, hb, run_size hE hn, Sem.run_pure]; rfl, ?_⟩
          have := hx.slice_cut' (l := hh - l) (cap := m - l) (n := l * n) (m := m) (k := l) (.inr c4)
          split <;> simp_all
        next => simp at h
      next => simp at h
    next => simp at h

end

end Go.Ai
