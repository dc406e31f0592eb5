/-
  THE SHORT RUN, 19: tools for statements whose order is open.
-/
import Derived.Test.YtiabpbememhdeaaDoorAiR
set_option linter.unusedSimpArgs false
set_option linter.unusedVariables false
set_option linter.unusedSectionVars false
namespace Go.Ai
open Go

theorem map_prod' {α β : Type} {s : β} {x : Option α} {v : α} {s' : β} (h : x.map (·, s) = some (v, s')) : s' = s ∧ ∀ σ : β, x.map (·, σ) = some (v, σ) := by
  cases x with
  | none => simp at h
  | some a => simp only [Option.map_some, Option.some.injEq, Prod.mk.injEq] at h; exact ⟨h.2.symm, fun σ => by simp [h.1]⟩

/-- Operations that look at nothing answer the same everywhere. -/
theorem pure_any {E : Env} {ρ : Operand → Value} {o : Oper} {s s' : St} {v : Value} (hp : pureOp o.op = true) (h : aVal E ρ o s = some (v, s')) : s' = s ∧ ∀ σ, aVal E ρ o σ = some (v, σ) := by
  obtain ⟨dst, op, ty, pos, after, guard⟩ := o
  unfold aVal at h ⊢
  cases op <;> simp only [pureOp, Bool.false_eq_true] at hp <;> simp only at h ⊢
  case move x => cases h; exact ⟨rfl, fun _ => rfl⟩
  case assign x => cases h; exact ⟨rfl, fun _ => rfl⟩
  case pick c a b =>
    split at h
    next t ht => cases h; exact ⟨rfl, fun _ => rfl⟩
    next => simp at h
  case build t ps => exact map_prod' h
  case nilCheck x =>
    split at h
    next a ha => cases h; exact ⟨rfl, fun _ => rfl⟩
    next f a b ha => cases h; exact ⟨rfl, fun _ => rfl⟩
    next => simp at h
  case binOp op t x y yt => exact map_prod' h
  case unOp op t x =>
    split at h
    next hf =>
      obtain ⟨h1, h2⟩ := map_prod' h
      exact ⟨h1, fun σ => by simp only [hf, if_true]; exact h2 σ⟩
    next => simp at h
  case makeInterface t x =>
    split at h
    next => simp at h
    next d hni hd =>
      cases h
      exact ⟨rfl, fun _ => rfl⟩
    next => simp at h
  case makeFunc fn a b => cases h; exact ⟨rfl, fun _ => rfl⟩
  case fieldAddr t x f => exact map_prod' h
  case field t x f => exact map_prod' h
  case indexAddr t x i => exact map_prod' h
  case index t x i => exact map_prod' h
  case typeAssert x xt t ok => exact map_prod' h
  case extract t i =>
    split at h
    next vs ht => exact map_prod' h
    next => simp at h

/-- One memory has all that the other one has. -/
def Sub (s σ : St) : Prop := ∀ f o, s.get f = some o → σ.get f = some o

theorem readN_sub {old : Addr → Option Value} {s σ : St} (h : Sub s σ) {a : Addr} {n : Nat} {l : List Value} (hr : readN old s a n = some l) : readN old σ a n = some l := by
  unfold readN at hr ⊢
  split at hr
  next he => exact hr
  next e he =>
    split at hr
    next cells esz ep lw hist hg => rw [h _ _ hg]; exact hr
    next => simp at hr

theorem aEntries_sub {s σ : St} (h : Sub s σ) {x : Value} {es : List (Value × Value)} (hr : aEntries s x = some es) : aEntries σ x = some es := by
  unfold aEntries at hr ⊢
  split at hr
  · exact hr
  · split at hr
    next es' hg => rw [h _ _ hg]; exact hr
    next => simp at hr
  · simp at hr

theorem eszIs_sub {s σ : St} (h : Sub s σ) {a : Addr} {n : Nat} (hr : eszIs s a n = true) : eszIs σ a n = true ∧ roomAt σ a n = roomAt s a n := by
  unfold eszIs at hr ⊢
  split at hr
  next cells esz ep lw hist hg =>
    have := h _ _ hg
    refine ⟨by rw [this]; exact hr, ?_⟩
    unfold roomAt
    rw [this, hg]
  next => simp at hr

theorem aSlice_sub {E : Env} {s σ : St} (h : Sub s σ) {t : TypeId} {x v : Value} {lo hi mx : Option Value} (hr : aSlice E s t x lo hi mx = some v) : aSlice E σ t x lo hi mx = some v := by
  unfold aSlice at hr ⊢
  split at hr
  next hf => rw [if_pos hf]; exact hr
  next hf =>
    rw [if_neg hf]
    split at hr
    next elem a len cap hd =>
      try simp only [hd]
      split at hr
      next n l hh hn hl hhi =>
        try simp only [hn, hl, hhi]
        split at hr
        next hn0 =>
          rw [if_pos hn0]
          split at hr
          next hc =>
            rw [if_pos hc]
            split at hr
            next hc2 =>
              simp only [Bool.and_eq_true] at hc2
              obtain ⟨h1, h2⟩ := eszIs_sub h hc2.1.1
              rw [h1, h2]
              rw [if_pos (by simp_all)]
              exact hr
            next => simp at hr
          next hc => rw [if_neg hc]; exact hr
        next => simp at hr
      next => simp at hr
    next k elem a hd => exact hr
    next => simp at hr

theorem aConvert_sub {E : Env} {s σ s' : St} (h : Sub s σ) {src dst : TypeId} {x v : Value} (hq : toSlice E dst = false) (hr : aConvert E s src dst x = some (v, s')) : s' = s ∧ aConvert E σ src dst x = some (v, σ) := by
  unfold aConvert at hr ⊢
  split at hr
  next a n c =>
    split at hr
    next e hs hd =>
      try simp only [hs, hd]
      split at hr
      next he =>
        try simp only [he]
        split at hr
        next l hl =>
          rw [readN_sub h hl]
          simp only [Option.map_eq_some_iff, Prod.mk.injEq] at hr ⊢
          obtain ⟨bs, h1, rfl, rfl⟩ := hr
          exact ⟨rfl, bs, h1, by simp⟩
        next => simp at hr
      next => simp at hr
    next => simp at hr
  next b =>
    split at hr
    next hs hd => cases hr; simp [hs, hd]
    next e hs hd => simp [toSlice, hd] at hq
    next => simp at hr
  next l c =>
    simp only [hq, Bool.false_eq_true, if_false] at hr ⊢
    obtain ⟨h1, h2⟩ := map_prod' hr
    exact ⟨h1, h2 σ⟩
  next k n =>
    simp only [hq, Bool.false_eq_true, if_false] at hr ⊢
    obtain ⟨h1, h2⟩ := map_prod' hr
    exact ⟨h1, h2 σ⟩
  next => simp at hr
  next => simp at hr

/-- Operations that turn nothing answer the same where there is more. -/
theorem quiet_sub {E : Env} {ρ : Operand → Value} {o : Oper} {s s' σ : St} {v : Value} (hs : Sub s σ) (hq : quietOp E o.op = true) (h : aVal E ρ o s = some (v, s')) : s' = s ∧ aVal E ρ o σ = some (v, σ) := by
  by_cases hp : pureOp o.op = true
  · obtain ⟨h1, h2⟩ := pure_any hp h
    exact ⟨h1, h2 σ⟩
  obtain ⟨dst, op, ty, pos, after, guard⟩ := o
  unfold aVal at h ⊢
  cases op <;> simp only [quietOp, Bool.false_eq_true, pureOp, not_true] at hq hp <;> simp only at h ⊢
  case load t a =>
    obtain ⟨h1, h2⟩ := map_prod h
    refine ⟨h2, ?_⟩
    have : aLoad E σ t (ρ a) = some v := by
      unfold aLoad at h1 ⊢
      split at h1
      next a' ha =>
        try simp only [ha]
        split at h1
        next => simp at h1
        next d hd =>
          split at h1
          next hagg =>
            rw [if_pos hagg]
            split at h1
            next => simp at h1
            next n hn =>
              simp only [Option.map_eq_some_iff] at h1 ⊢
              obtain ⟨l, hl, rfl⟩ := h1
              exact ⟨l, readN_sub hs hl, rfl⟩
          next hagg =>
            rw [if_neg hagg]
            split at h1
            next v' hv => rw [readN_sub hs hv]; exact h1
            next => simp at h1
      next => simp at h1
    rw [this]; rfl
  case convert src dst x => exact aConvert_sub hs (by simpa using hq) h
  case slice t x lo hi mx =>
    obtain ⟨h1, h2⟩ := map_prod h
    exact ⟨h2, by rw [aSlice_sub hs h1]; rfl⟩
  case lookup t x k ok =>
    obtain ⟨h1, h2⟩ := map_prod h
    refine ⟨h2, ?_⟩
    have : aLookup E σ t (ρ x) (ρ k) ok = some v := by
      unfold aLookup at h1 ⊢
      split at h1
      next kt et hd =>
        split at h1
        next d es z hkd hes hz =>
          rw [aEntries_sub hs hes]
          try simp only [hkd, hz]
          exact h1
        next => simp at h1
      next => simp at h1
    rw [this]; rfl
  case call c =>
    obtain ⟨callee, args, argTypes⟩ := c
    cases callee with
    | value f => simp at hq
    | invoke r m => simp at hq
    | builtin b =>
      simp only at h ⊢
      cases b <;> simp only [Bool.false_eq_true] at hq <;> unfold aBuiltin at h ⊢ <;> simp only at h ⊢
      case len =>
        split at h
        next x hx =>
          try simp only [hx]
          split at h
          next a n c =>
            split at h
            next t ht =>
              split at h
              next e hd => cases h; exact ⟨rfl, rfl⟩
              next => simp at h
            next => simp at h
          next f =>
            split at h
            next t es ht hg =>
              split at h
              next kt et hd => cases h; rw [hs _ _ hg]; simp [ht, hd]
              next => simp at h
            next => simp at h
          next =>
            split at h
            next hf => exact ⟨(map_prod' h).1, by rw [if_pos hf]; exact (map_prod' h).2 σ⟩
            next => simp at h
        all_goals simp_all
      case cap =>
        split at h
        next x hx => simp_all
        next x hx =>
          try simp only [hx]
          split at h
          next a n c =>
            split at h
            next t ht =>
              split at h
              next e hd =>
                split at h
                next => simp at h
                next hc => cases h; rw [if_neg hc]; exact ⟨rfl, rfl⟩
              next => simp at h
            next => simp at h
          next =>
            split at h
            next hf => exact ⟨(map_prod' h).1, by rw [if_pos hf]; exact (map_prod' h).2 σ⟩
            next => simp at h
        all_goals simp_all
      case min =>
        split at h
        next hf => exact ⟨(map_prod' h).1, by rw [if_pos hf]; exact (map_prod' h).2 σ⟩
        next => simp at h
      case max =>
        split at h
        next hf => exact ⟨(map_prod' h).1, by rw [if_pos hf]; exact (map_prod' h).2 σ⟩
        next => simp at h

end Go.Ai
