/-
  THE FORKED RUN, 1: the short run with its forks laid open: what it comes to along one path, and what must hold for that.
-/
import Derived.Test.YtiabpbememhdeaaAiZ
set_option linter.unusedSimpArgs false
set_option linter.unusedVariables false
set_option linter.unusedSectionVars false
namespace Go.Ai
open Go

inductive T (α : Type) where
  | ret (a : α)
  | fail
  | ask (b : Bool) (k : Bool → T α)
  | askL (o : Option (List Value)) (k : List Value → T α)
  | same (x y : Value) (k : T α)
  | sameO (x y : Option AObj) (k : T α)

open Classical in
noncomputable def T.run {α : Type} : T α → Option α
  | .ret a => some a
  | .fail => none
  | .ask b k => (k b).run
  | .askL o k => match o with
    | some l => (k l).run
    | none => none
  | .same x y k => if x = y then k.run else none
  | .sameO x y k => if x = y then k.run else none

/-- What is said of a fork ahead of time. -/
inductive Ans where
  | b (x : Bool)
  | l (x : List Value)

/-- What must hold. -/
inductive Ob where
  | b (x y : Bool)
  | l (x y : Option (List Value))
  | v (x y : Value)
  | o (x y : Option AObj)

def Ob.ok : Ob → Prop
  | .b x y => x = y
  | .l x y => x = y
  | .v x y => x = y
  | .o x y => x = y

def Ob.flip : Ob → Ob
  | .b x y => .b y x
  | .l x y => .l y x
  | .v x y => .v y x
  | .o x y => .o y x

theorem Ob.ok_of_flip {x : Ob} (h : x.flip = x) : x.ok := by
  cases x <;> simp only [Ob.flip, Ob.b.injEq, Ob.l.injEq, Ob.v.injEq, Ob.o.injEq] at h <;> exact h.2

structure Acc where
  opens : List Ob
  autos : List Ob

def Acc.start : Acc := ⟨[], []⟩

/-- Along a path: how many forks are passed by what is computed, then what is said of the next one. -/
def T.follow {α : Type} : T α → List (Nat × Ans) → Acc → Option (α × Acc)
  | .ret a, _, acc => some (a, acc)
  | .fail, _, _ => none
  | .ask b k, p, acc => match p with
    | [] => match b with
      | true => (k true).follow [] acc
      | false => (k false).follow [] acc
    | (0, .b x) :: p => (k x).follow p { acc with opens := .b b x :: acc.opens }
    | (0, .l _) :: _ => none
    | (n + 1, y) :: p => match b with
      | true => (k true).follow ((n, y) :: p) acc
      | false => (k false).follow ((n, y) :: p) acc
  | .askL o k, p, acc => match p with
    | [] => match o with
      | some l => (k l).follow [] acc
      | none => none
    | (0, .l x) :: p => (k x).follow p { acc with opens := .l o (some x) :: acc.opens }
    | (0, .b _) :: _ => none
    | (n + 1, y) :: p => match o with
      | some l => (k l).follow ((n, y) :: p) acc
      | none => none
  | .same x y k, p, acc => k.follow p { acc with autos := .v x y :: acc.autos }
  | .sameO x y k, p, acc => k.follow p { acc with autos := .o x y :: acc.autos }

theorem T.follow_run {α : Type} : ∀ (t : T α) (p : List (Nat × Ans)) (acc : Acc) (a : α) (acc' : Acc), t.follow p acc = some (a, acc') → (∀ x ∈ acc'.opens, x.ok) → (∀ x ∈ acc'.autos, x.ok) →
    t.run = some a ∧ (∀ x ∈ acc.opens, x.ok) ∧ (∀ x ∈ acc.autos, x.ok) := by
  intro t
  induction t with
  | ret a =>
    intro p acc a' acc' h h1 h2
    simp only [T.follow, Option.some.injEq, Prod.mk.injEq] at h
    obtain ⟨rfl, rfl⟩ := h
    exact ⟨rfl, h1, h2⟩
  | fail => intro p acc a' acc' h; simp [T.follow] at h
  | ask b k ih =>
    intro p acc a acc' h h1 h2
    rw [T.follow.eq_def] at h
    simp only at h
    split at h
    · cases b
      · exact ih false _ _ _ _ h h1 h2
      · exact ih true _ _ _ _ h h1 h2
    · rename_i x p
      obtain ⟨g1, g2, g3⟩ := ih x _ _ _ _ h h1 h2
      have hb : b = x := g2 (.b b x) (by simp)
      subst hb
      exact ⟨g1, fun y hy => g2 y (by simp [hy]), g3⟩
    · simp at h
    · cases b
      · exact ih false _ _ _ _ h h1 h2
      · exact ih true _ _ _ _ h h1 h2
  | askL o k ih =>
    intro p acc a acc' h h1 h2
    rw [T.follow.eq_def] at h
    simp only at h
    split at h
    · cases o with
      | none => simp at h
      | some l => exact ih l _ _ _ _ h h1 h2
    · rename_i x p
      obtain ⟨g1, g2, g3⟩ := ih x _ _ _ _ h h1 h2
      have hb : o = some x := g2 (.l o (some x)) (by simp)
      subst hb
      exact ⟨g1, fun y hy => g2 y (by simp [hy]), g3⟩
    · simp at h
    · cases o with
      | none => simp at h
      | some l => exact ih l _ _ _ _ h h1 h2
  | same x y k ih =>
    intro p acc a acc' h h1 h2
    simp only [T.follow] at h
    obtain ⟨g1, g2, g3⟩ := ih _ _ _ _ h h1 h2
    have hb : x = y := g3 (.v x y) (by simp)
    exact ⟨by simp only [T.run, hb, if_true]; exact g1, g2, fun z hz => g3 z (by simp [hz])⟩
  | sameO x y k ih =>
    intro p acc a acc' h h1 h2
    simp only [T.follow] at h
    obtain ⟨g1, g2, g3⟩ := ih _ _ _ _ h h1 h2
    have hb : x = y := g3 (.o x y) (by simp)
    exact ⟨by simp only [T.run, hb, if_true]; exact g1, g2, fun z hz => g3 z (by simp [hz])⟩

/-- The way to use it: one equation that the kernel computes. 'f': what is wanted of the answer, 'r': what that is; 'os': what must hold. -/
theorem T.use {α β : Type} {t : T α} (p : List (Nat × Ans)) (f : α → β) {r : β} {os : List Ob}
    (h : (t.follow p Acc.start).map (fun z => (f z.1, z.2.opens, z.2.autos.map Ob.flip)) = some (r, os, ((t.follow p Acc.start).map fun z => z.2.autos).getD [])) (hos : ∀ x ∈ os, x.ok) : ∃ a, t.run = some a ∧ f a = r := by
  cases hf : t.follow p Acc.start with
  | none => simp [hf] at h
  | some z =>
    obtain ⟨a, acc⟩ := z
    simp only [hf, Option.map_some, Option.getD_some, Option.some.injEq, Prod.mk.injEq] at h
    obtain ⟨h1, h2, h3⟩ := h
    refine ⟨a, (T.follow_run t p _ a acc hf (by rw [h2]; exact hos) fun x hx => ?_).1, h1⟩
    obtain ⟨i, hi⟩ := List.mem_iff_getElem?.1 hx
    have := congrArg (·[i]?) h3
    simp only [List.getElem?_map, hi, Option.map_some, Option.some.injEq] at this
    exact Ob.ok_of_flip this

/-! Operations. -/
section
variable {α : Type}

def liftT {β : Type} (o : Option β) (k : β → T α) : T α :=
  match o with
  | some b => k b
  | none => .fail

def readT (old : Addr → Option Value) (s : St) (a : Addr) (n : Nat) (k : List Value → T α) : T α :=
  match a.spot with
  | none => .askL (readOld old a n) k
  | some e => match s.get a.block with
    | some (.row cells _ ep lw hist) => .askL (if lw ≤ e ∧ a.off + n ≤ ext cells ep hist e ∧ a.off + n ≤ cells.length then some ((cells.drop a.off).take n) else none) k
    | _ => .fail

def writeT (s : St) (a : Addr) (vs : List Value) (k : St → T α) : T α :=
  match a.spot with
  | none => .fail
  | some e => match s.get a.block with
    | some (.row cells esz ep lw hist) =>
      .ask (decide (e = ep ∧ lw ≤ ep ∧ a.off + vs.length ≤ cells.length ∧ vs.all isCell = true)) fun c => if c then k (s.put a.block (.row (splice cells a.off vs) esz ep ep hist)) else .fail
    | _ => .fail

def loadT (E : Env) (s : St) (t : TypeId) (x : Value) (k : Value → T α) : T α :=
  match x with
  | .pointer (some a) => match E.desc t with
    | none => .fail
    | some d =>
      if isAggD d then
        match E.size t with
        | none => .fail
        | some n => readT E.old s a n fun l => k (.agg l.toArray)
      else readT E.old s a 1 fun l => match l with
        | [v] => k v
        | _ => .fail
  | _ => .fail

def storeT (E : Env) (s : St) (t : TypeId) (x v : Value) (k : St → T α) : T α :=
  match x with
  | .pointer (some a) => match E.size t with
    | none => .fail
    | some n => if v.cells.size = n then writeT s a v.cells.toList k else .fail
  | _ => .fail

def natT (i : Int) (k : Nat → T α) : T α := .ask (decide (0 ≤ i)) fun c => if c then k i.toNat else .fail

def boundT (v : Option Value) (dflt : Nat) (k : Nat → T α) : T α :=
  match v with
  | none => k dflt
  | some (.int _ n) => natT n k
  | some _ => .fail

def indexAddrT (E : Env) (t : TypeId) (x i : Value) (k : Value → T α) : T α :=
  match aInt i with
  | none => .fail
  | some i =>
    match E.desc t, x with
    | some (.array len elem), .pointer (some a) => match E.size elem with
      | some n => .ask (decide (0 ≤ i ∧ i < len)) fun c => if c then k (.pointer (some (aadd a (i.toNat * n)))) else .fail
      | none => .fail
    | some (.slice elem), .slice (some a) len _ => match E.size elem with
      | some n => .ask (decide (0 ≤ i ∧ i < len)) fun c => if c then k (.pointer (some (aadd a (i.toNat * n)))) else .fail
      | none => .fail
    | _, _ => .fail

def eitherT (x y : Bool) (k : T α) : T α := .ask x fun c => if c then k else .ask y fun c => if c then k else .fail

def sliceT (E : Env) (s : St) (t : TypeId) (x : Value) (lo hi mx : Option Value) (k : Value → T α) : T α :=
  if flat x then liftT (aSlice E s t x lo hi mx) k
  else match E.desc t, x with
    | some (.slice elem), .slice (some a) len cap =>
      match E.size elem with
      | some n => boundT lo 0 fun l => boundT hi len fun h =>
        if 0 < n then
          if a.spot.isSome ∧ cap = unc then
            if eszIs s a n then .ask (decide (l ≤ h)) fun c => if c then eitherT (decide (h ≤ len)) (decide (h ≤ roomAt s a n)) (
              match mx with
              | none => k (.slice (some (aadd a (l * n))) (h - l) unc)
              | some m => boundT (some m) 0 fun m =>
                .ask (decide (h ≤ m)) fun c => if c then eitherT (decide (m ≤ len)) (decide (m ≤ roomAt s a n)) (
                .ask (decide (m - l < unc)) fun c => if c then .ask (decide (0 < len)) fun c => if c then .ask (decide (m = l)) fun c => k (.slice (some (if c then a else aadd a (l * n))) (h - l) (m - l)) else .fail else .fail) else .fail)
              else .fail
            else .fail
          else
            boundT mx cap fun m => .ask (decide (l ≤ h ∧ h ≤ m ∧ m ≤ cap)) fun c => if c then .ask (decide (m = l)) fun c => k (.slice (some (if c then a else aadd a (l * n))) (h - l) (m - l)) else .fail
        else .fail
      | none => .fail
    | _, _ => liftT (aSlice E s t x lo hi mx) k

def sourceT (E : Env) (s : St) (n : Nat) (size : Nat) (x : Value) (k : List Value → T α) : T α :=
  match x with
  | .slice none _ _ => k []
  | .slice (some a) _ _ => readT E.old s a (n * size) k
  | .string b => if size = 1 then .askL (some ((b.extract 0 n).data.toList.map fun b => .int .u8 b.toNat)) k else .fail
  | _ => .fail

def newT (E : Env) (s : St) (argTypes : Array TypeId) (n b : Nat) (z : Value) (x : Value) (k : Nat → List Value → T α) : T α :=
  match argTypes[1]? with
  | some xt => match E.desc xt with
    | some (.int _) => liftT (aNew E s argTypes n b z x) fun r => k r.1 r.2
    | some _ => match aLen x with
      | some m => sourceT E s m n x fun l => k m l
      | none => .fail
    | none => .fail
  | none => match aLen x with
    | some m => sourceT E s m n x fun l => k m l
    | none => .fail

def appendT (E : Env) (s : St) (argTypes : Array TypeId) (sl x : Value) (k : Value → St → T α) : T α :=
  match argTypes[0]? with
  | none => .fail
  | some st => match E.desc st with
    | some (.slice elem) => match E.size elem, E.bytes elem, E.zero elem with
      | some n, some b, some z =>
        if ¬ (0 < n ∧ z.cells.size = n) then .fail else
        newT E s argTypes n b z x fun m new =>
          .ask (decide (new.length = m * n ∧ new.all isCell = true)) fun c => if c then
            match sl with
            | .slice none l c =>
              if l ≠ 0 ∨ c ≠ 0 then .fail else
              .ask (decide (m = 0)) fun c => if c then k sl s else
              .ask (decide (m * b ≤ 2 ^ 46 ∧ m < 2 ^ 62)) fun c => if c then k (.slice (some ⟨s.next, 0, some 0⟩) m unc) (s.push (.row new n 0 0 [])) else .fail
            | .slice (some a) len cap =>
              .ask (decide ((len + m) * b ≤ 2 ^ 46 ∧ len + m < 2 ^ 62)) fun c => if c then
                match a.spot with
                | some e => match s.get a.block with
                  | some (.row cells esz ep lw hist) =>
                    .ask (decide (e = ep ∧ lw ≤ ep ∧ esz = n ∧ a.off ≤ cells.length)) fun c => if c then
                      if cap = unc then
                        .ask (decide (m = 0)) fun c => if c then k sl s else
                        .ask (decide (a.off + (len + m) * n ≤ cells.length)) fun c => if c then
                          k (.slice (some a) (len + m) unc) (s.put a.block (.row (splice cells (a.off + len * n) new) esz ep ep hist))
                        else .ask (decide (a.off + len * n = cells.length)) fun c => if c then
                          k (.slice (some ⟨a.block, a.off, some (ep + 1)⟩) (len + m) unc) (s.put a.block (.row (cells ++ new) esz (ep + 1) lw (cells.length :: hist)))
                        else .fail
                      else .ask (decide (len + m ≤ cap)) fun c => if c then
                        .ask (decide (a.off + (len + m) * n ≤ cells.length)) fun c => if c then
                          k (.slice (some a) (len + m) cap) (s.put a.block (.row (splice cells (a.off + len * n) new) esz ep ep hist))
                        else .fail
                      else readT E.old s a (len * n) fun was => k (.slice (some ⟨s.next, 0, some 0⟩) (len + m) unc) (s.push (.row (was ++ new) n 0 0 []))
                    else .fail
                  | _ => .fail
                | none => .fail
              else .fail
            | _ => .fail
          else .fail
      | _, _, _ => .fail
    | _ => .fail

def clearT (E : Env) (s : St) (argTypes : Array TypeId) (x : Value) (k : Value → St → T α) : T α :=
  match argTypes[0]?, x with
  | some t, .slice (some a) n _ => match E.desc t with
    | some (.slice e) => match E.size e, E.zero e with
      | some m, some z => .ask (decide (n = 0)) fun c => if c then k (.tuple #[]) s else if z.cells.size = m ∧ 0 < m then writeT s a (aZeros z.cells.toList n) fun s' => k (.tuple #[]) s' else .fail
      | _, _ => .fail
    | _ => .fail
  | _, _ => .fail

theorem liftT_run {β : Type} {o : Option β} {k : β → T α} {r : α} (h : (liftT o k).run = some r) : ∃ b, o = some b ∧ (k b).run = some r := by
  unfold liftT at h
  split at h
  · exact ⟨_, rfl, h⟩
  · simp [T.run] at h

theorem ask_run {b : Bool} {x y : T α} {r : α} (h : (T.ask b fun c => if c then x else y).run = some r) : (b = true ∧ x.run = some r) ∨ (b = false ∧ y.run = some r) := by
  simp only [T.run] at h
  cases b
  · exact .inr ⟨rfl, by simpa using h⟩
  · exact .inl ⟨rfl, by simpa using h⟩

theorem ask_run' {b : Bool} {x : T α} {r : α} (h : (T.ask b fun c => if c then x else .fail).run = some r) : b = true ∧ x.run = some r := by
  rcases ask_run h with h | ⟨_, h⟩
  · exact h
  · simp [T.run] at h

theorem askL_run {o : Option (List Value)} {k : List Value → T α} {r : α} (h : (T.askL o k).run = some r) : ∃ l, o = some l ∧ (k l).run = some r := by
  rw [T.run.eq_def] at h
  simp only at h
  split at h
  · exact ⟨_, rfl, h⟩
  · simp at h

theorem fail_run {r : α} (h : (T.fail : T α).run = some r) : False := by simp [T.run] at h

theorem readT_run {old : Addr → Option Value} {s : St} {a : Addr} {n : Nat} {k : List Value → T α} {r : α} (h : (readT old s a n k).run = some r) : ∃ l, readN old s a n = some l ∧ (k l).run = some r := by
  unfold readT at h
  unfold readN
  split at h
  · rename_i hs
    obtain ⟨l, h1, h2⟩ := askL_run h
    exact ⟨l, by simp only [hs]; exact h1, h2⟩
  · rename_i e hs
    split at h
    · rename_i cells esz ep lw hist hg
      obtain ⟨l, h1, h2⟩ := askL_run h
      exact ⟨l, by simp only [hs, hg]; exact h1, h2⟩
    · exact (fail_run h).elim

theorem writeT_run {s : St} {a : Addr} {vs : List Value} {k : St → T α} {r : α} (h : (writeT s a vs k).run = some r) : ∃ s', writeN s a vs = some s' ∧ (k s').run = some r := by
  unfold writeT at h
  unfold writeN
  split at h
  · exact (fail_run h).elim
  · rename_i e hs
    split at h
    · rename_i cells esz ep lw hist hg
      obtain ⟨h1, h2⟩ := ask_run' h
      exact ⟨_, by simp only [hs, hg]; rw [if_pos (of_decide_eq_true h1)], h2⟩
    · exact (fail_run h).elim

theorem loadT_run {E : Env} {s : St} {t : TypeId} {x : Value} {k : Value → T α} {r : α} (h : (loadT E s t x k).run = some r) : ∃ v, aLoad E s t x = some v ∧ (k v).run = some r := by
  unfold loadT at h
  unfold aLoad
  split at h
  · split at h
    · exact (fail_run h).elim
    · rename_i d hd
      simp only [hd]
      split at h
      · rename_i ha
        split at h
        · exact (fail_run h).elim
        · rename_i n hn
          obtain ⟨l, h1, h2⟩ := readT_run h
          exact ⟨_, by rw [if_pos ha]; simp only [hn, h1]; rfl, h2⟩
      · rename_i ha
        obtain ⟨l, h1, h2⟩ := readT_run h
        rw [if_neg ha, h1]
        split at h2
        · exact ⟨_, rfl, h2⟩
        · exact (fail_run h2).elim
  · exact (fail_run h).elim

theorem storeT_run {E : Env} {s : St} {t : TypeId} {x v : Value} {k : St → T α} {r : α} (h : (storeT E s t x v k).run = some r) : ∃ s', aStore E s t x v = some s' ∧ (k s').run = some r := by
  unfold storeT at h
  unfold aStore
  split at h
  · split at h
    · exact (fail_run h).elim
    · rename_i n hn
      simp only [hn]
      split at h
      · rename_i hc
        rw [if_pos hc]
        exact writeT_run h
      · exact (fail_run h).elim
  · exact (fail_run h).elim

theorem natT_run {i : Int} {k : Nat → T α} {r : α} (h : (natT i k).run = some r) : ∃ n, asNat i = some n ∧ (k n).run = some r := by
  obtain ⟨h1, h2⟩ := ask_run' h
  exact ⟨_, by unfold asNat; rw [if_pos (of_decide_eq_true h1)], h2⟩

theorem boundT_run {v : Option Value} {d : Nat} {k : Nat → T α} {r : α} (h : (boundT v d k).run = some r) : ∃ n, aBound v d = some n ∧ (k n).run = some r := by
  unfold boundT at h
  unfold aBound
  split at h
  · exact ⟨_, rfl, h⟩
  · exact natT_run h
  · exact (fail_run h).elim

theorem indexAddrT_run {E : Env} {t : TypeId} {x i : Value} {k : Value → T α} {r : α} (h : (indexAddrT E t x i k).run = some r) : ∃ v, aIndexAddr E t x i = some v ∧ (k v).run = some r := by
  unfold indexAddrT at h
  unfold aIndexAddr
  split at h
  · exact (fail_run h).elim
  · rename_i i' hi
    split at h
    · rename_i hd
      simp only [hd]
      split at h
      · rename_i n hn
        obtain ⟨h1, h2⟩ := ask_run' h
        exact ⟨_, by simp only [hi, hn]; exact if_pos (of_decide_eq_true h1), h2⟩
      · exact (fail_run h).elim
    · rename_i hd
      simp only [hd]
      split at h
      · rename_i n hn
        obtain ⟨h1, h2⟩ := ask_run' h
        exact ⟨_, by simp only [hi, hn]; exact if_pos (of_decide_eq_true h1), h2⟩
      · exact (fail_run h).elim
    · exact (fail_run h).elim

theorem eitherT_run {x y : Bool} {k : T α} {r : α} (h : (eitherT x y k).run = some r) : (x || y) = true ∧ k.run = some r := by
  rcases ask_run h with ⟨rfl, h⟩ | ⟨rfl, h⟩
  · exact ⟨rfl, h⟩
  · obtain ⟨rfl, h⟩ := ask_run' h
    exact ⟨rfl, h⟩

theorem sliceT_run {E : Env} {s : St} {t : TypeId} {x : Value} {lo hi mx : Option Value} {k : Value → T α} {r : α} (h : (sliceT E s t x lo hi mx k).run = some r) : ∃ v, aSlice E s t x lo hi mx = some v ∧ (k v).run = some r := by
  unfold sliceT at h
  split at h
  · exact liftT_run h
  · rename_i hf
    split at h
    · rename_i elem a len cap hd
      unfold aSlice
      rw [if_neg hf]
      simp only [hd]
      split at h
      · rename_i n hn
        obtain ⟨l, hl, h⟩ := boundT_run h
        obtain ⟨hh, hhi, h⟩ := boundT_run h
        simp only [hn, hl, hhi]
        split at h
        · rename_i hn0
          rw [if_pos hn0]
          split at h
          · rename_i hc
            rw [if_pos hc]
            split at h
            · rename_i hes
              obtain ⟨h1, h⟩ := ask_run' h
              obtain ⟨h1', h⟩ := eitherT_run h
              rw [if_pos (by simp only [hes, h1, h1', Bool.and_self])]
              split at h
              · exact ⟨_, rfl, h⟩
              · obtain ⟨m, hm, h⟩ := boundT_run h
                simp only [hm]
                obtain ⟨h2, h⟩ := ask_run' h
                obtain ⟨h3, h⟩ := eitherT_run h
                obtain ⟨h4, h⟩ := ask_run' h
                obtain ⟨h5, h⟩ := ask_run' h
                simp only [Bool.or_eq_true, decide_eq_true_eq] at h2 h3 h4 h5
                rw [if_pos ⟨h2, h3, h4, h5⟩]
                simp only [T.run] at h
                exact ⟨_, rfl, by simpa using h⟩
            · exact (fail_run h).elim
          · rename_i hc
            rw [if_neg hc]
            obtain ⟨m, hm, h⟩ := boundT_run h
            simp only [hm]
            obtain ⟨h2, h⟩ := ask_run' h
            rw [if_pos (of_decide_eq_true h2)]
            simp only [T.run] at h
            exact ⟨_, rfl, by simpa using h⟩
        · exact (fail_run h).elim
      · exact (fail_run h).elim
    · exact liftT_run h

theorem sourceT_run {E : Env} {s : St} {n m : Nat} {x : Value} {k : List Value → T α} {r : α} (h : (sourceT E s n m x k).run = some r) : ∃ l, aSource E s n m x = some l ∧ (k l).run = some r := by
  unfold sourceT at h
  unfold aSource
  split at h
  · exact ⟨_, rfl, h⟩
  · exact readT_run h
  · split at h
    · rename_i hm
      simp only [if_pos hm]
      exact askL_run h
    · exact (fail_run h).elim
  · exact (fail_run h).elim

theorem newT_run {E : Env} {s : St} {argTypes : Array TypeId} {n b : Nat} {z x : Value} {k : Nat → List Value → T α} {r : α} (h : (newT E s argTypes n b z x k).run = some r) :
    ∃ m l, aNew E s argTypes n b z x = some (m, l) ∧ (k m l).run = some r := by
  unfold newT at h
  split at h
  · rename_i xt hx
    split at h
    · obtain ⟨⟨m, l⟩, h1, h2⟩ := liftT_run h
      exact ⟨m, l, h1, h2⟩
    · rename_i d hni hd
      split at h
      · rename_i m hm
        obtain ⟨l, h1, h2⟩ := sourceT_run h
        refine ⟨m, l, ?_, h2⟩
        unfold aNew
        rw [hx]
        simp only
        rw [hd]
        cases d <;> first | exact absurd rfl (hni _) | (simp only [hm, h1]; rfl)
      · exact (fail_run h).elim
    · exact (fail_run h).elim
  · rename_i hx
    unfold aNew
    simp only [hx]
    split at h
    · rename_i m hm
      obtain ⟨l, h1, h2⟩ := sourceT_run h
      exact ⟨m, l, by simp [hm, h1], h2⟩
    · exact (fail_run h).elim

theorem clearT_run {E : Env} {s : St} {argTypes : Array TypeId} {x : Value} {k : Value → St → T α} {r : α} (h : (clearT E s argTypes x k).run = some r) : ∃ v s', aClear E s argTypes x = some (v, s') ∧ (k v s').run = some r := by
  unfold clearT at h
  unfold aClear
  split at h
  · rename_i t a n c ht
    simp only [ht]
    split at h
    · rename_i e hd
      simp only [hd]
      split at h
      · rename_i m z hm hz
        simp only [hm, hz]
        rcases ask_run h with ⟨h1, h⟩ | ⟨h1, h⟩
        · rw [if_pos (of_decide_eq_true h1)]
          exact ⟨_, _, rfl, h⟩
        · rw [if_neg (of_decide_eq_false h1)]
          split at h
          · rename_i hc
            rw [if_pos hc]
            obtain ⟨s', h2, h3⟩ := writeT_run h
            exact ⟨_, _, by rw [h2]; rfl, h3⟩
          · exact (fail_run h).elim
      · exact (fail_run h).elim
    · exact (fail_run h).elim
  · exact (fail_run h).elim

theorem appendT_run {E : Env} {s : St} {argTypes : Array TypeId} {sl x : Value} {k : Value → St → T α} {r : α} (h : (appendT E s argTypes sl x k).run = some r) :
    ∃ v s', aAppend E s argTypes sl x = some (v, s') ∧ (k v s').run = some r := by
  unfold appendT at h
  unfold aAppend
  split at h
  · exact (fail_run h).elim
  · rename_i st hst
    split at h
    · rename_i elem hd
      simp only [hst, hd]
      split at h
      · rename_i n b z hn hb hz
        simp only [hn, hb, hz]
        split at h
        · exact (fail_run h).elim
        · rename_i hnz
          rw [if_neg hnz]
          obtain ⟨m, new, hnew, h⟩ := newT_run h
          simp only [hnew]
          obtain ⟨h1, h⟩ := ask_run' h
          rw [if_neg (Classical.not_not.2 (of_decide_eq_true h1))]
          split at h
          · split at h
            · exact (fail_run h).elim
            · rename_i hlc
              simp only
              rw [if_neg hlc]
              rcases ask_run h with ⟨h2, h⟩ | ⟨h2, h⟩
              · rw [if_pos (of_decide_eq_true h2)]
                exact ⟨_, _, rfl, h⟩
              · rw [if_neg (of_decide_eq_false h2)]
                obtain ⟨h3, h⟩ := ask_run' h
                rw [if_pos (of_decide_eq_true h3)]
                exact ⟨_, _, rfl, h⟩
          · rename_i a len cap
            simp only
            obtain ⟨h2, h⟩ := ask_run' h
            rw [if_pos (of_decide_eq_true h2)]
            split at h
            · rename_i e he
              simp only [he]
              split at h
              · rename_i cells esz ep lw hist hg
                simp only [hg]
                obtain ⟨h3, h⟩ := ask_run' h
                rw [if_pos (of_decide_eq_true h3)]
                split at h
                · rename_i hcap
                  rw [if_pos hcap]
                  rcases ask_run h with ⟨h4, h⟩ | ⟨h4, h⟩
                  · rw [if_pos (of_decide_eq_true h4)]
                    exact ⟨_, _, rfl, h⟩
                  · rw [if_neg (of_decide_eq_false h4)]
                    rcases ask_run h with ⟨h5, h⟩ | ⟨h5, h⟩
                    · rw [if_pos (of_decide_eq_true h5)]
                      exact ⟨_, _, rfl, h⟩
                    · rw [if_neg (of_decide_eq_false h5)]
                      obtain ⟨h6, h⟩ := ask_run' h
                      rw [if_pos (of_decide_eq_true h6)]
                      exact ⟨_, _, rfl, h⟩
                · rename_i hcap
                  rw [if_neg hcap]
                  rcases ask_run h with ⟨h4, h⟩ | ⟨h4, h⟩
                  · rw [if_pos (of_decide_eq_true h4)]
                    obtain ⟨h5, h⟩ := ask_run' h
                    rw [if_pos (of_decide_eq_true h5)]
                    exact ⟨_, _, rfl, h⟩
                  · rw [if_neg (of_decide_eq_false h4)]
                    obtain ⟨was, h5, h⟩ := readT_run h
                    simp only [h5]
                    exact ⟨_, _, rfl, h⟩
              · exact (fail_run h).elim
            · exact (fail_run h).elim
          · exact (fail_run h).elim
      · exact (fail_run h).elim
    · exact (fail_run h).elim

end

end Go.Ai
