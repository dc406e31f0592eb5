/-
  THE FORKED RUN, 1: the short run with its forks laid open: what it comes to along one path, and what must hold for that.
-/
import Derived.Test.YtiabpbememhdeaaDoorAiZ
import Derived.Laws.Strings
set_option linter.unusedSimpArgs false
set_option linter.unusedVariables false
set_option linter.unusedSectionVars false
namespace Go.Ai
open Go

inductive T (α : Type) where
  | ret (a : α)
  | fail
  | ask (b : Bool) (k : Bool → T α)
  | askL (o : Option (List Value)) (k : List Value → T α)
  | same (x y : Value) (k : T α)
  | sameO (x y : Option AObj) (k : T α)
  | get (s : St) (f : Nat) (k : AObj → T α)
  | put (s : St) (f : Nat) (o : AObj) (k : St → T α)
  | push (s : St) (o : AObj) (k : St → T α)
  | now (s : St) (k : T α)
  | int (n : Int) (k : Int → T α)
  | call (o : Option (Ret × St)) (k : Ret → St → T α) (u : T α)
  | code (F : AAct → St → Option (X × AAct × St)) (a : AAct) (s : St) (k : X → AAct → St → T α) (u : T α)

/-- What it may come to: a call or a loop is taken as it is, or gone through. -/
def T.Runs {α : Type} : T α → α → Prop
  | .ret a, r => a = r
  | .fail, _ => False
  | .ask b k, r => (k b).Runs r
  | .askL o k, r => ∃ l, o = some l ∧ (k l).Runs r
  | .same x y k, r => x = y ∧ k.Runs r
  | .sameO x y k, r => x = y ∧ k.Runs r
  | .get s f k, r => ∃ x, s.get f = some x ∧ (k x).Runs r
  | .put s f o k, r => (k (s.put f o)).Runs r
  | .push s o k, r => (k (s.push o)).Runs r
  | .now _ k, r => k.Runs r
  | .int n k, r => (k n).Runs r
  | .call o k u, r => (∃ x s, o = some (x, s) ∧ (k x s).Runs r) ∨ u.Runs r
  | .code F a s k u, r => (∃ x a' s', F a s = some (x, a', s') ∧ (k x a' s').Runs r) ∨ u.Runs r

/-- Memory behind something: 'old': the numbers that it may have changed; 'now': what is known of it behind. -/
structure After (s s' : St) (old : List Nat) (now : List (Nat × AObj)) : Prop where
  next : s.next ≤ s'.next
  keep : ∀ m, m < s.next → m ∉ old → s'.get m = s.get m
  has : ∀ q ∈ now, s'.get q.1 = some q.2 ∧ q.1 < s'.next
  whence : ∀ q ∈ now, q.1 ∈ old ∨ s.next ≤ q.1
  apart : (now.map (·.1)).Nodup

abbrev Cache := List (Nat × AObj)
abbrev keysOf (ov : Cache) : List Nat := ov.map (·.1)

/-- What is known of memory. -/
abbrev Holds (s : St) (ov : Cache) : Prop := After s s (keysOf ov) ov

theorem holds_mk {s : St} {ov : Cache} (h : ∀ q ∈ ov, s.get q.1 = some q.2 ∧ q.1 < s.next) (hn : (keysOf ov).Nodup) : Holds s ov :=
  ⟨Nat.le_refl _, fun _ _ _ => rfl, h, fun q hq => .inl (List.mem_map.2 ⟨q, hq, rfl⟩), hn⟩

theorem holds_nil (s : St) : Holds s [] := holds_mk (by simp) (by simp)

theorem nodup_get {l : List Nat} (h : l.Nodup) {i j : Nat} {x : Nat} (hi : l[i]? = some x) (hj : l[j]? = some x) : i = j := by
  obtain ⟨l1, l2⟩ := List.getElem?_eq_some_iff.1 hi
  obtain ⟨l3, l4⟩ := List.getElem?_eq_some_iff.1 hj
  exact (List.getElem_inj h).1 (l2.trans l4.symm)

theorem After.put {s₀ s : St} {K : List Nat} {ov : Cache} (h : After s₀ s K ov) {i f : Nat} {o : AObj} (hi : ov[i]? = some (f, o)) (o' : AObj) : After s₀ (s.put f o') K (ov.set i (f, o')) := by
  have hmem : (f, o) ∈ ov := List.mem_of_getElem? hi
  obtain ⟨hf1, hf2⟩ := h.has _ hmem
  have hkeys : keysOf (ov.set i (f, o')) = keysOf ov := by
    apply List.ext_getElem?
    intro j
    simp only [keysOf, List.getElem?_map, List.getElem?_set]
    by_cases hij : i = j
    · subst hij
      obtain ⟨hlt, _⟩ := List.getElem?_eq_some_iff.1 hi
      rw [if_pos rfl, if_pos hlt, hi]
      rfl
    · rw [if_neg hij]
  refine ⟨h.next, fun m hm hK => ?_, fun q hq => ?_, fun q hq => ?_, ?_⟩
  · rw [St.get_put, if_neg, h.keep m hm hK]
    rintro rfl
    rcases h.whence _ hmem with h1 | h1
    · exact hK h1
    · simp only at h1; omega
  · obtain ⟨j, hj⟩ := List.mem_iff_getElem?.1 hq
    rw [St.get_put, St.next_put]
    by_cases hij : i = j
    · subst hij
      obtain ⟨hlt, _⟩ := List.getElem?_eq_some_iff.1 hi
      rw [List.getElem?_set_self hlt] at hj
      cases hj
      exact ⟨if_pos rfl, hf2⟩
    · rw [List.getElem?_set_ne hij] at hj
      have hq' := List.mem_of_getElem? hj
      have hne : q.1 ≠ f := by
        intro he
        exact hij (nodup_get h.apart (by rw [List.getElem?_map, hi]; rfl) (by rw [List.getElem?_map, hj]; exact congrArg some he))
      rw [if_neg hne]
      exact h.has q hq'
  · have : q.1 ∈ keysOf (ov.set i (f, o')) := List.mem_map.2 ⟨q, hq, rfl⟩
    rw [hkeys] at this
    obtain ⟨q', hq', he⟩ := List.mem_map.1 this
    rw [← he]
    exact h.whence q' hq'
  · show (keysOf _).Nodup
    rw [hkeys]
    exact h.apart

theorem After.push {s₀ s : St} {K : List Nat} {ov : Cache} (h : After s₀ s K ov) (o : AObj) : After s₀ (s.push o) K (ov ++ [(s.next, o)]) := by
  refine ⟨Nat.le_trans h.next (by rw [St.next_push]; omega), fun m hm hK => ?_, fun q hq => ?_, fun q hq => ?_, ?_⟩
  · rw [St.get_push, if_neg (by have := h.next; omega), h.keep m hm hK]
  · rw [St.get_push, St.next_push]
    rcases List.mem_append.1 hq with hq | hq
    · obtain ⟨h1, h2⟩ := h.has q hq
      rw [if_neg (by omega)]
      exact ⟨h1, by omega⟩
    · rw [List.mem_singleton.1 hq]
      exact ⟨if_pos rfl, by simp⟩
  · rcases List.mem_append.1 hq with hq | hq
    · exact h.whence q hq
    · rw [List.mem_singleton.1 hq]
      exact .inr h.next
  · rw [List.map_append, List.nodup_append]
    refine ⟨h.apart, by simp, fun a ha b hb => ?_⟩
    obtain ⟨q, hq, rfl⟩ := List.mem_map.1 ha
    simp only [List.map_cons, List.map_nil, List.mem_singleton] at hb
    have := (h.has q hq).2
    omega

/-- A list without some places. -/
def without (is : List Nat) (ov : Cache) : Cache := (ov.zipIdx.filter fun x => !is.contains x.2).map (·.1)

theorem mem_without {is : List Nat} {ov : Cache} {q : Nat × AObj} (h : q ∈ without is ov) : ∃ j, ov[j]? = some q ∧ j ∉ is := by
  obtain ⟨⟨q', j⟩, h1, rfl⟩ := List.mem_map.1 h
  obtain ⟨h2, h3⟩ := List.mem_filter.1 h1
  refine ⟨j, ?_, ?_⟩
  · have := List.mem_zipIdx_iff_getElem?.1 h2
    simpa using this
  · simpa using h3

theorem without_sublist (is : List Nat) (ov : Cache) : (without is ov).Sublist ov := by
  have h := (List.filter_sublist (p := fun x : (Nat × AObj) × Nat => !is.contains x.2) (l := ov.zipIdx)).map (·.1)
  rwa [List.zipIdx_map_fst] at h

theorem After.step {s₀ s s' : St} {K old : List Nat} {ov now : Cache} (h : After s₀ s K ov) (h' : After s s' old now) {is : List Nat} (his : is.map (fun i => (ov[i]?).map (·.1)) = old.map some) : After s₀ s' K (without is ov ++ now) := by
  have hold : ∀ f ∈ old, ∃ i ∈ is, ∃ o, ov[i]? = some (f, o) := by
    intro f hf
    have : some f ∈ old.map some := List.mem_map.2 ⟨f, hf, rfl⟩
    rw [← his] at this
    obtain ⟨i, hi, he⟩ := List.mem_map.1 this
    cases hov : ov[i]? with
    | none => simp [hov] at he
    | some q =>
      obtain ⟨f', o⟩ := q
      simp only [hov, Option.map_some, Option.some.injEq] at he
      subst he
      exact ⟨i, hi, o, hov⟩
  have hfar : ∀ f ∈ old, f ∈ K ∨ s₀.next ≤ f := by
    intro f hf
    obtain ⟨i, _, o, hov⟩ := hold f hf
    exact h.whence (f, o) (List.mem_of_getElem? hov)
  have hnot : ∀ q ∈ without is ov, q.1 ∉ old := by
    intro q hq hold'
    obtain ⟨j, hj, hn⟩ := mem_without hq
    obtain ⟨i, hi, o, hov⟩ := hold _ hold'
    have : i = j := nodup_get h.apart (x := q.1) (by rw [List.getElem?_map, hov]; rfl) (by rw [List.getElem?_map, hj]; rfl)
    exact hn (this ▸ hi)
  have hsub : ∀ q ∈ without is ov, q ∈ ov := fun q hq => (without_sublist is ov).subset hq
  refine ⟨Nat.le_trans h.next h'.next, fun m hm hK => ?_, fun q hq => ?_, fun q hq => ?_, ?_⟩
  · rw [h'.keep m (Nat.lt_of_lt_of_le hm h.next), h.keep m hm hK]
    intro hmo
    rcases hfar m hmo with h1 | h1
    · exact hK h1
    · omega
  · rcases List.mem_append.1 hq with hq | hq
    · obtain ⟨h1, h2⟩ := h.has q (hsub q hq)
      exact ⟨(h'.keep _ h2 (hnot q hq)).trans h1, Nat.lt_of_lt_of_le h2 h'.next⟩
    · exact h'.has q hq
  · rcases List.mem_append.1 hq with hq | hq
    · exact h.whence q (hsub q hq)
    · rcases h'.whence q hq with h1 | h1
      · exact hfar _ h1
      · exact .inr (Nat.le_trans h.next h1)
  · rw [List.map_append, List.nodup_append]
    refine ⟨((without_sublist is ov).map _).nodup h.apart, h'.apart, fun a ha b hb => ?_⟩
    obtain ⟨q, hq, rfl⟩ := List.mem_map.1 ha
    obtain ⟨q', hq', rfl⟩ := List.mem_map.1 hb
    intro he
    rcases h'.whence q' hq' with h1 | h1
    · exact hnot q hq (by rw [he]; exact h1)
    · have := (h.has q (hsub q hq)).2
      omega

theorem After.sub {s s' : St} {old : List Nat} {now now' : Cache} (h : After s s' old now) (hs : now'.Sublist now) : After s s' old now' :=
  ⟨h.next, h.keep, fun q hq => h.has q (hs.subset hq), fun q hq => h.whence q (hs.subset hq), (hs.map _).nodup h.apart⟩

theorem After.wide {s s' : St} {old old' : List Nat} {now : Cache} (h : After s s' old now) (hs : ∀ f ∈ old, f ∈ old') : After s s' old' now :=
  ⟨h.next, fun m hm hK => h.keep m hm fun hm' => hK (hs m hm'), h.has, fun q hq => (h.whence q hq).imp_left (hs _), h.apart⟩

theorem After.holds {s s' : St} {old : List Nat} {now : Cache} (h : After s s' old now) : Holds s' now := holds_mk h.has h.apart

theorem After.trans {s s' s'' : St} {old old' : List Nat} {now now' : Cache} (h : After s s' old now) (h' : After s' s'' old' now') (hs : ∀ f ∈ old', f ∈ keysOf now) : After s s'' old now' := by
  have hfar : ∀ f ∈ old', f ∈ old ∨ s.next ≤ f := by
    intro f hf
    obtain ⟨q, hq, rfl⟩ := List.mem_map.1 (hs f hf)
    exact h.whence q hq
  refine ⟨Nat.le_trans h.next h'.next, fun m hm hK => ?_, h'.has, fun q hq => ?_, h'.apart⟩
  · rw [h'.keep m (Nat.lt_of_lt_of_le hm h.next), h.keep m hm hK]
    intro hmo
    rcases hfar m hmo with h1 | h1
    · exact hK h1
    · omega
  · rcases h'.whence q hq with h1 | h1
    · exact hfar _ h1
    · exact .inr (Nat.le_trans h.next h1)

/-- The temporaries: 'live' where it says something, 'rest' elsewhere. -/
def tmpsOf (n : Nat) (live : List (Nat × Value)) (rest : Nat → Value) : List Value :=
  (List.range n).map fun i => match live.lookup i with
    | some v => v
    | none => rest i

/-- What is said of the way ahead of time: of a fork (behind so many others that are computed), of a call or a loop; and which known object memory is looked at, changed, or known of. -/
inductive Ev where
  | b (n : Nat) (x y : Bool) (h : x = y)
  | l (n : Nat) (x : Option (List Value)) (y : List Value) (h : x = some y)
  | v (n : Nat) (x y : Value) (h : x = y)
  | o (n : Nat) (x y : Option AObj) (h : x = y)
  | r (n j : Nat) (is : List Nat) (c : Option (Ret × St)) (x : Ret) (s s' : St) (old : List Nat) (now : Cache) (h : c = some (x, s')) (ha : After s s' old now)
  | c (n j : Nat) (is : List Nat) (F : AAct → St → Option (X × AAct × St)) (m : Nat) (live live' : List (Nat × Value)) (d : List Deferred) (x : X) (s : St) (R : (Nat → Value) → (Nat → Value) × St) (old : List Nat) (now : (Nat → Value) → Cache)
    (h : ∀ rest, F { tmps := tmpsOf m live rest, defers := d } s = some (x, { tmps := tmpsOf m live' (R rest).1, defers := d }, (R rest).2) ∧ After s (R rest).2 old (now rest))
  | m (j i : Nat)
  | i (n : Nat) (x y : Int) (h : x = y)

/-- What the kernel is to find to be one. -/
inductive Ob where
  | b (x y : Bool)
  | l (x y : Option (List Value))
  | v (x y : Value)
  | o (x y : Option AObj)
  | r (x y : Option (Ret × St))
  | c (x y : AAct → St → Option (X × AAct × St))
  | a (x y : AAct)
  | s (x y : St)
  | n (x y : Nat)
  | ns (x y : List (Option Nat))
  | i (x y : Int)

def Ob.ok : Ob → Prop
  | .b x y => x = y
  | .l x y => x = y
  | .v x y => x = y
  | .o x y => x = y
  | .r x y => x = y
  | .c x y => x = y
  | .a x y => x = y
  | .s x y => x = y
  | .n x y => x = y
  | .ns x y => x = y
  | .i x y => x = y

def Ob.flip : Ob → Ob
  | .b x y => .b y x
  | .l x y => .l y x
  | .v x y => .v y x
  | .o x y => .o y x
  | .r x y => .r y x
  | .c x y => .c y x
  | .a x y => .a y x
  | .s x y => .s y x
  | .n x y => .n y x
  | .ns x y => .ns y x
  | .i x y => .i y x

theorem Ob.ok_of_flip {x : Ob} (h : x.flip = x) : x.ok := by
  cases x <;> simp only [Ob.flip, Ob.b.injEq, Ob.l.injEq, Ob.v.injEq, Ob.o.injEq, Ob.r.injEq, Ob.c.injEq, Ob.a.injEq, Ob.s.injEq, Ob.n.injEq, Ob.ns.injEq, Ob.i.injEq] at h <;> exact h.2

/-- What is known of memory at some times, the last one first. -/
abbrev Snaps := List (St × Cache)

/-- Along a way. (A fork of which nothing is said is computed; a call or a loop of which nothing is said is gone through; where no time is known, memory is computed.) -/
def T.follow {α : Type} : T α → List Ev → Snaps → List Ob → Option (α × Snaps × List Ob)
  | .ret a, _, sn, acc => some (a, sn, acc)
  | .fail, _, _, _ => none
  | .ask b k, p, sn, acc => match p with
    | .b 0 x y h :: p => (k y).follow p sn (.b b x :: acc)
    | .b (n + 1) x y h :: p => match b with
      | true => (k true).follow (.b n x y h :: p) sn acc
      | false => (k false).follow (.b n x y h :: p) sn acc
    | .l (n + 1) x y h :: p => match b with
      | true => (k true).follow (.l n x y h :: p) sn acc
      | false => (k false).follow (.l n x y h :: p) sn acc
    | p => match b with
      | true => (k true).follow p sn acc
      | false => (k false).follow p sn acc
  | .askL o k, p, sn, acc => match p with
    | .l 0 x y h :: p => (k y).follow p sn (.l o x :: acc)
    | .b (n + 1) x y h :: p => match o with
      | some l => (k l).follow (.b n x y h :: p) sn acc
      | none => none
    | .l (n + 1) x y h :: p => match o with
      | some l => (k l).follow (.l n x y h :: p) sn acc
      | none => none
    | p => match o with
      | some l => (k l).follow p sn acc
      | none => none
  | .same x y k, p, sn, acc => match p with
    | .v 0 x' y' h :: p => k.follow p sn (.v x x' :: .v y y' :: acc)
    | .v (n + 1) x' y' h :: p => k.follow (.v n x' y' h :: p) sn (.v x y :: acc)
    | p => k.follow p sn (.v x y :: acc)
  | .sameO x y k, p, sn, acc => match p with
    | .o 0 x' y' h :: p => k.follow p sn (.o x x' :: .o y y' :: acc)
    | .o (n + 1) x' y' h :: p => k.follow (.o n x' y' h :: p) sn (.o x y :: acc)
    | p => k.follow p sn (.o x y :: acc)
  | .get s f k, p, sn, acc => match sn with
    | [] => match s.get f with
      | some o => (k o).follow p sn acc
      | none => none
    | z :: sn => match p with
      | .m j i :: p => match (z :: sn)[j]? with
        | some t => match t.2[i]? with
          | some q => (k q.2).follow p (z :: sn) (.s t.1 s :: .n q.1 f :: acc)
          | none => none
        | none => none
      | _ => none
  | .put s f o k, p, sn, acc => match sn with
    | [] => (k (s.put f o)).follow p [] acc
    | z :: sn => match p with
      | .m j i :: p => match (z :: sn)[j]? with
        | some t => match t.2[i]? with
          | some q => (k (s.put f o)).follow p ((s.put f o, t.2.set i (f, o)) :: z :: sn) (.s t.1 s :: .n q.1 f :: acc)
          | none => none
        | none => none
      | _ => none
  | .push s o k, p, sn, acc => match sn with
    | [] => (k (s.push o)).follow p [] acc
    | z :: sn => match p with
      | .m j i :: p => match (z :: sn)[j]? with
        | some t => (k (s.push o)).follow p ((s.push o, t.2 ++ [(s.next, o)]) :: z :: sn) (.s t.1 s :: acc)
        | none => none
      | _ => none
  | .now s k, p, sn, acc => match sn with
    | [] => k.follow p [] acc
    | z :: sn => match p with
      | .m j i :: p => match (z :: sn)[j]? with
        | some t => k.follow p (t :: z :: sn) (.s t.1 s :: acc)
        | none => none
      | _ => none
  | .int n k, p, sn, acc => match p with
    | .i 0 x y h :: p => (k y).follow p sn (.i n x :: acc)
    | .i (m + 1) x y h :: p => (k n).follow (.i m x y h :: p) sn acc
    | p => (k n).follow p sn acc
  | .call o k u, p, sn, acc => match p with
    | .r 0 j is c x s s' old nw h ha :: p => match sn with
      | [] => (k x s').follow p [] (.r o c :: acc)
      | z :: sn => match (z :: sn)[j]? with
        | some t => (k x s').follow p ((s', without is t.2 ++ nw) :: z :: sn) (.r o c :: .s t.1 s :: .ns (is.map fun i => (t.2[i]?).map (·.1)) (old.map some) :: acc)
        | none => none
    | .r (n + 1) j is c x s s' old nw h ha :: p => u.follow (.r n j is c x s s' old nw h ha :: p) sn acc
    | p => u.follow p sn acc
  | .code F a s k u, p, sn, acc => match p with
    | .c 0 j is F' m live live' d x s' R old nw h :: p => match sn with
      | [] => (k x { tmps := tmpsOf m live' (R fun i => a.tmps.getD i undef).1, defers := d } (R fun i => a.tmps.getD i undef).2).follow p [] (.c F F' :: .s s s' :: .a a { tmps := tmpsOf m live (fun i => a.tmps.getD i undef), defers := d } :: acc)
      | z :: sn => match (z :: sn)[j]? with
        | some t => (k x { tmps := tmpsOf m live' (R fun i => a.tmps.getD i undef).1, defers := d } (R fun i => a.tmps.getD i undef).2).follow p (((R fun i => a.tmps.getD i undef).2, without is t.2 ++ nw fun i => a.tmps.getD i undef) :: z :: sn)
            (.c F F' :: .s s s' :: .a a { tmps := tmpsOf m live (fun i => a.tmps.getD i undef), defers := d } :: .s t.1 s :: .ns (is.map fun i => (t.2[i]?).map (·.1)) (old.map some) :: acc)
        | none => none
    | .c (n + 1) j is F' m live live' d x s' R old nw h :: p => u.follow (.c n j is F' m live live' d x s' R old nw h :: p) sn acc
    | p => u.follow p sn acc

/-- What stands in the list stays. -/
theorem T.follow_acc {α : Type} : ∀ (t : T α) (p : List Ev) (sn : Snaps) (acc : List Ob) (a : α) (sn' : Snaps) (acc' : List Ob), t.follow p sn acc = some (a, sn', acc') → ∀ x ∈ acc, x ∈ acc' := by
  intro t
  induction t with
  | ret a =>
    intro p sn acc a' sn' acc' h x hx
    simp only [T.follow, Option.some.injEq, Prod.mk.injEq] at h
    obtain ⟨rfl, rfl, rfl⟩ := h
    exact hx
  | fail => intro p sn acc a' sn' acc' h; simp [T.follow] at h
  | ask b k ih =>
    intro p sn acc a sn' acc' h x hx
    rw [T.follow.eq_def] at h
    simp only at h
    split at h
    · exact ih _ _ _ _ _ _ _ h x (by simp [hx])
    all_goals cases b <;> exact ih _ _ _ _ _ _ _ h x hx
  | askL o k ih =>
    intro p sn acc a sn' acc' h x hx
    rw [T.follow.eq_def] at h
    simp only at h
    split at h
    · exact ih _ _ _ _ _ _ _ h x (by simp [hx])
    all_goals
      cases o with
      | none => simp at h
      | some l => exact ih _ _ _ _ _ _ _ h x hx
  | same x y k ih =>
    intro p sn acc a sn' acc' h x hx
    rw [T.follow.eq_def] at h
    simp only at h
    split at h <;> exact ih _ _ _ _ _ _ h x (by simp [hx])
  | sameO x y k ih =>
    intro p sn acc a sn' acc' h x hx
    rw [T.follow.eq_def] at h
    simp only at h
    split at h <;> exact ih _ _ _ _ _ _ h x (by simp [hx])
  | get s f k ih =>
    intro p sn acc a sn' acc' h x hx
    rw [T.follow.eq_def] at h
    simp only at h
    split at h
    · split at h
      · exact ih _ _ _ _ _ _ _ h x hx
      · simp at h
    · split at h
      · split at h
        · split at h
          · exact ih _ _ _ _ _ _ _ h x (by simp [hx])
          · simp at h
        · simp at h
      · simp at h
  | put s f o k ih =>
    intro p sn acc a sn' acc' h x hx
    rw [T.follow.eq_def] at h
    simp only at h
    split at h
    · exact ih _ _ _ _ _ _ _ h x hx
    · split at h
      · split at h
        · split at h
          · exact ih _ _ _ _ _ _ _ h x (by simp [hx])
          · simp at h
        · simp at h
      · simp at h
  | push s o k ih =>
    intro p sn acc a sn' acc' h x hx
    rw [T.follow.eq_def] at h
    simp only at h
    split at h
    · exact ih _ _ _ _ _ _ _ h x hx
    · split at h
      · split at h
        · exact ih _ _ _ _ _ _ _ h x (by simp [hx])
        · simp at h
      · simp at h
  | now s k ih =>
    intro p sn acc a sn' acc' h x hx
    rw [T.follow.eq_def] at h
    simp only at h
    split at h
    · exact ih _ _ _ _ _ _ h x hx
    · split at h
      · split at h
        · exact ih _ _ _ _ _ _ h x (by simp [hx])
        · simp at h
      · simp at h
  | int n k ih =>
    intro p sn acc a sn' acc' h x hx
    rw [T.follow.eq_def] at h
    simp only at h
    split at h
    · exact ih _ _ _ _ _ _ _ h x (by simp [hx])
    all_goals exact ih _ _ _ _ _ _ _ h x hx
  | call o k u ih ihu =>
    intro p sn acc a sn' acc' h x hx
    rw [T.follow.eq_def] at h
    simp only at h
    split at h
    · split at h
      · exact ih _ _ _ _ _ _ _ _ h x (by simp [hx])
      · split at h
        · exact ih _ _ _ _ _ _ _ _ h x (by simp [hx])
        · simp at h
    all_goals exact ihu _ _ _ _ _ _ h x hx
  | code F a s k u ih ihu =>
    intro p sn acc a' sn' acc' h x hx
    rw [T.follow.eq_def] at h
    simp only at h
    split at h
    · split at h
      · exact ih _ _ _ _ _ _ _ _ _ h x (by simp [hx])
      · split at h
        · exact ih _ _ _ _ _ _ _ _ _ h x (by simp [hx])
        · simp at h
    all_goals exact ihu _ _ _ _ _ _ h x hx

theorem T.follow_run {α : Type} (s₀ : St) (K : List Nat) : ∀ (t : T α) (p : List Ev) (sn : Snaps) (acc : List Ob) (a : α) (sn' : Snaps) (acc' : List Ob), t.follow p sn acc = some (a, sn', acc') → (∀ x ∈ acc', x.ok) → (∀ z ∈ sn, After s₀ z.1 K z.2) →
    t.Runs a ∧ (∀ x ∈ acc, x.ok) ∧ (∀ z ∈ sn', After s₀ z.1 K z.2) := by
  intro t
  induction t with
  | ret a =>
    intro p sn acc a' sn' acc' h h1 h2
    simp only [T.follow, Option.some.injEq, Prod.mk.injEq] at h
    obtain ⟨rfl, rfl, rfl⟩ := h
    exact ⟨rfl, h1, h2⟩
  | fail => intro p sn acc a' sn' acc' h; simp [T.follow] at h
  | ask b k ih =>
    intro p sn acc a sn' acc' h h1 h2
    rw [T.follow.eq_def] at h
    simp only at h
    split at h
    · rename_i x y hxy p
      obtain ⟨g1, g2, g3⟩ := ih y _ _ _ _ _ _ h h1 h2
      have hb : b = x := g2 (.b b x) (by simp)
      subst hb
      subst hxy
      exact ⟨g1, fun y hy => g2 y (by simp [hy]), g3⟩
    all_goals
      cases b
      · exact ih false _ _ _ _ _ _ h h1 h2
      · exact ih true _ _ _ _ _ _ h h1 h2
  | askL o k ih =>
    intro p sn acc a sn' acc' h h1 h2
    rw [T.follow.eq_def] at h
    simp only at h
    split at h
    · rename_i x y hxy p
      obtain ⟨g1, g2, g3⟩ := ih y _ _ _ _ _ _ h h1 h2
      have hb : o = x := g2 (.l o x) (by simp)
      exact ⟨⟨y, hb.trans hxy, g1⟩, fun y hy => g2 y (by simp [hy]), g3⟩
    all_goals
      cases o with
      | none => simp at h
      | some l => obtain ⟨g1, g2, g3⟩ := ih l _ _ _ _ _ _ h h1 h2; exact ⟨⟨l, rfl, g1⟩, g2, g3⟩
  | same x y k ih =>
    intro p sn acc a sn' acc' h h1 h2
    rw [T.follow.eq_def] at h
    simp only at h
    split at h
    · rename_i x' y' hxy p
      obtain ⟨g1, g2, g3⟩ := ih _ _ _ _ _ _ h h1 h2
      have hb : x = x' := g2 (.v x x') (by simp)
      have hb' : y = y' := g2 (.v y y') (by simp)
      exact ⟨⟨hb.trans (hxy.trans hb'.symm), g1⟩, fun z hz => g2 z (by simp [hz]), g3⟩
    all_goals
      obtain ⟨g1, g2, g3⟩ := ih _ _ _ _ _ _ h h1 h2
      have hb : x = y := g2 (.v x y) (by simp)
      exact ⟨⟨hb, g1⟩, fun z hz => g2 z (by simp [hz]), g3⟩
  | sameO x y k ih =>
    intro p sn acc a sn' acc' h h1 h2
    rw [T.follow.eq_def] at h
    simp only at h
    split at h
    · rename_i x' y' hxy p
      obtain ⟨g1, g2, g3⟩ := ih _ _ _ _ _ _ h h1 h2
      have hb : x = x' := g2 (.o x x') (by simp)
      have hb' : y = y' := g2 (.o y y') (by simp)
      exact ⟨⟨hb.trans (hxy.trans hb'.symm), g1⟩, fun z hz => g2 z (by simp [hz]), g3⟩
    all_goals
      obtain ⟨g1, g2, g3⟩ := ih _ _ _ _ _ _ h h1 h2
      have hb : x = y := g2 (.o x y) (by simp)
      exact ⟨⟨hb, g1⟩, fun z hz => g2 z (by simp [hz]), g3⟩
  | get s f k ih =>
    intro p sn acc a sn' acc' h h1 h2
    rw [T.follow.eq_def] at h
    simp only at h
    split at h
    · split at h
      next o ho =>
        obtain ⟨g1, g2, g3⟩ := ih o _ _ _ _ _ _ h h1 h2
        exact ⟨⟨o, ho, g1⟩, g2, g3⟩
      next => simp at h
    · rename_i z sn
      split at h
      next j i p =>
        split at h
        next t ht =>
          split at h
          next q hq =>
            obtain ⟨g1, g2, g3⟩ := ih q.2 _ _ _ _ _ _ h h1 h2
            have e1 : t.1 = s := g2 (.s t.1 s) (by simp)
            have e2 : q.1 = f := g2 (.n q.1 f) (by simp)
            have hA := h2 t (List.mem_of_getElem? ht)
            obtain ⟨e3, _⟩ := hA.has q (List.mem_of_getElem? hq)
            rw [e1, e2] at e3
            exact ⟨⟨q.2, e3, g1⟩, fun z hz => g2 z (by simp [hz]), g3⟩
          next => simp at h
        next => simp at h
      next => simp at h
  | put s f o k ih =>
    intro p sn acc a sn' acc' h h1 h2
    rw [T.follow.eq_def] at h
    simp only at h
    split at h
    · exact ih _ _ _ _ _ _ _ h h1 h2
    · rename_i z sn
      split at h
      next j i p =>
        split at h
        next t ht =>
          split at h
          next q hq =>
            have key : (∀ x ∈ acc', x.ok) → t.1 = s ∧ q.1 = f := by
              intro h1
              -- the later part keeps what stands in the list
              have hmem : (Ob.s t.1 s) ∈ acc' ∧ (Ob.n q.1 f) ∈ acc' := by
                have := T.follow_acc _ _ _ _ _ _ _ h
                exact ⟨this _ (by simp), this _ (by simp)⟩
              exact ⟨h1 _ hmem.1, h1 _ hmem.2⟩
            obtain ⟨e1, e2⟩ := key h1
            have hA := h2 t (List.mem_of_getElem? ht)
            have hA' : After s₀ (s.put f o) K (t.2.set i (f, o)) := by
              rw [← e1, ← e2]
              exact hA.put (o := q.2) hq o
            obtain ⟨g1, g2, g3⟩ := ih _ _ _ _ _ _ _ h h1 (fun z hz => by
              rcases List.mem_cons.1 hz with rfl | hz
              · exact hA'
              · exact h2 z hz)
            exact ⟨g1, fun z hz => g2 z (by simp [hz]), g3⟩
          next => simp at h
        next => simp at h
      next => simp at h
  | push s o k ih =>
    intro p sn acc a sn' acc' h h1 h2
    rw [T.follow.eq_def] at h
    simp only at h
    split at h
    · exact ih _ _ _ _ _ _ _ h h1 h2
    · rename_i z sn
      split at h
      next j i p =>
        split at h
        next t ht =>
          have e1 : t.1 = s := h1 (.s t.1 s) (T.follow_acc _ _ _ _ _ _ _ h _ (by simp))
          have hA := h2 t (List.mem_of_getElem? ht)
          rw [e1] at hA
          obtain ⟨g1, g2, g3⟩ := ih _ _ _ _ _ _ _ h h1 (fun z hz => by
            rcases List.mem_cons.1 hz with rfl | hz
            · exact hA.push o
            · exact h2 z hz)
          exact ⟨g1, fun z hz => g2 z (by simp [hz]), g3⟩
        next => simp at h
      next => simp at h
  | now s k ih =>
    intro p sn acc a sn' acc' h h1 h2
    rw [T.follow.eq_def] at h
    simp only at h
    split at h
    · exact ih _ _ _ _ _ _ h h1 h2
    · rename_i z sn
      split at h
      next j i p =>
        split at h
        next t ht =>
          obtain ⟨g1, g2, g3⟩ := ih _ _ _ _ _ _ h h1 (fun z hz => by
            rcases List.mem_cons.1 hz with rfl | hz
            · exact h2 _ (List.mem_of_getElem? ht)
            · exact h2 z hz)
          exact ⟨g1, fun z hz => g2 z (by simp [hz]), g3⟩
        next => simp at h
      next => simp at h
  | int n k ih =>
    intro p sn acc a sn' acc' h h1 h2
    rw [T.follow.eq_def] at h
    simp only at h
    split at h
    · rename_i x y hxy p
      obtain ⟨g1, g2, g3⟩ := ih y _ _ _ _ _ _ h h1 h2
      have hb : n = x := g2 (.i n x) (by simp)
      subst hb
      subst hxy
      exact ⟨g1, fun y hy => g2 y (by simp [hy]), g3⟩
    all_goals exact ih _ _ _ _ _ _ _ h h1 h2
  | call o k u ih ihu =>
    intro p sn acc a sn' acc' h h1 h2
    rw [T.follow.eq_def] at h
    simp only at h
    split at h
    · rename_i j is c x s s' old nw hc ha p
      split at h
      · obtain ⟨g1, g2, g3⟩ := ih x s' _ _ _ _ _ _ h h1 h2
        have e0 : o = c := g2 (.r o c) (by simp)
        exact ⟨.inl ⟨x, s', e0.trans hc, g1⟩, fun y hy => g2 y (by simp [hy]), g3⟩
      · rename_i z sn
        split at h
        next t ht =>
          have hm := T.follow_acc _ _ _ _ _ _ _ h
          have e0 : o = c := h1 (.r o c) (hm _ (by simp))
          have e1 : t.1 = s := h1 (.s t.1 s) (hm _ (by simp))
          have e2 : (is.map fun i => (t.2[i]?).map (·.1)) = old.map some := h1 (.ns _ _) (hm _ (by simp))
          have hA := h2 t (List.mem_of_getElem? ht)
          rw [e1] at hA
          obtain ⟨g1, g2, g3⟩ := ih x s' _ _ _ _ _ _ h h1 (fun z hz => by
            rcases List.mem_cons.1 hz with rfl | hz
            · exact hA.step ha e2
            · exact h2 z hz)
          exact ⟨.inl ⟨x, s', e0.trans hc, g1⟩, fun y hy => g2 y (by simp [hy]), g3⟩
        next => simp at h
    all_goals
      obtain ⟨g1, g2, g3⟩ := ihu _ _ _ _ _ _ h h1 h2
      exact ⟨.inr g1, g2, g3⟩
  | code F a s k u ih ihu =>
    intro p sn acc a' sn' acc' h h1 h2
    rw [T.follow.eq_def] at h
    simp only at h
    split at h
    · rename_i j is F' m live live' d x s' R old nw hc p
      obtain ⟨hc1, hc2⟩ := hc fun i => a.tmps.getD i undef
      split at h
      · obtain ⟨g1, g2, g3⟩ := ih _ _ _ _ _ _ _ _ _ h h1 h2
        have e0 : F = F' := g2 (.c F F') (by simp)
        have e1 : s = s' := g2 (.s s s') (by simp)
        have e2 : a = { tmps := tmpsOf m live (fun i => a.tmps.getD i undef), defers := d } := g2 (.a a _) (by simp)
        exact ⟨.inl ⟨_, _, _, by rw [e0, e1]; exact (congrArg (fun q => F' q s') e2).trans hc1, g1⟩, fun y hy => g2 y (by simp [hy]), g3⟩
      · rename_i z sn
        split at h
        next t ht =>
          have hm := T.follow_acc _ _ _ _ _ _ _ h
          have e0 : F = F' := h1 (.c F F') (hm _ (by simp))
          have e1 : s = s' := h1 (.s s s') (hm _ (by simp))
          have e2 : a = { tmps := tmpsOf m live (fun i => a.tmps.getD i undef), defers := d } := h1 (.a a _) (hm _ (by simp))
          have e3 : t.1 = s := h1 (.s t.1 s) (hm _ (by simp))
          have e4 : (is.map fun i => (t.2[i]?).map (·.1)) = old.map some := h1 (.ns _ _) (hm _ (by simp))
          have hA := h2 t (List.mem_of_getElem? ht)
          rw [e3, e1] at hA
          obtain ⟨g1, g2, g3⟩ := ih _ _ _ _ _ _ _ _ _ h h1 (fun z hz => by
            rcases List.mem_cons.1 hz with rfl | hz
            · exact hA.step hc2 e4
            · exact h2 z hz)
          exact ⟨.inl ⟨_, _, _, by rw [e0, e1]; exact (congrArg (fun q => F' q s') e2).trans hc1, g1⟩, fun y hy => g2 y (by simp [hy]), g3⟩
        next => simp at h
    all_goals
      obtain ⟨g1, g2, g3⟩ := ihu _ _ _ _ _ _ h h1 h2
      exact ⟨.inr g1, g2, g3⟩

/-- The way to use it: one equation that the kernel computes. 'f': what is wanted of the answer, 'r': what that is. -/
theorem T.use {α β : Type} {t : T α} {s₀ : St} {K : List Nat} (sn : Snaps) (hsn : ∀ z ∈ sn, After s₀ z.1 K z.2) (p : List Ev) (f : α × Snaps → β) {r : β}
    (h : (t.follow p sn []).map (fun z => (f (z.1, z.2.1), z.2.2.map Ob.flip)) = some (r, ((t.follow p sn []).map fun z => z.2.2).getD [])) : ∃ a sn', t.Runs a ∧ f (a, sn') = r ∧ ∀ z ∈ sn', After s₀ z.1 K z.2 := by
  cases hf : t.follow p sn [] with
  | none => simp [hf] at h
  | some z =>
    obtain ⟨a, sn', acc⟩ := z
    simp only [hf, Option.map_some, Option.getD_some, Option.some.injEq, Prod.mk.injEq] at h
    obtain ⟨h1, h3⟩ := h
    have hok : ∀ x ∈ acc, x.ok := by
      intro x hx
      obtain ⟨i, hi⟩ := List.mem_iff_getElem?.1 hx
      have := congrArg (·[i]?) h3
      simp only [List.getElem?_map, hi, Option.map_some, Option.some.injEq] at this
      exact Ob.ok_of_flip this
    obtain ⟨g1, _, g3⟩ := T.follow_run s₀ K t p sn [] a sn' acc hf hok hsn
    exact ⟨a, sn', g1, h1, g3⟩

/-! Operations. -/
section
variable {α : Type}

def liftT {β : Type} (o : Option β) (k : β → T α) : T α :=
  match o with
  | some b => k b
  | none => .fail

def readT (old : Addr → Option Value) (s : St) (a : Addr) (n : Nat) (k : List Value → T α) : T α :=
  match a.spot with
  | none => .askL (readOld old a n) k
  | some e => .get s a.block fun o => match o with
    | .row cells _ ep lw hist => .askL (if lw ≤ e ∧ a.off + n ≤ ext cells ep hist e ∧ a.off + n ≤ cells.length then some ((cells.drop a.off).take n) else none) k
    | _ => .fail

def writeT (s : St) (a : Addr) (vs : List Value) (k : St → T α) : T α :=
  match a.spot with
  | none => .fail
  | some e => .get s a.block fun o => match o with
    | .row cells esz ep lw hist =>
      .ask (decide (e = ep ∧ lw ≤ ep ∧ a.off + vs.length ≤ cells.length ∧ vs.all isCell = true)) fun c => if c then .put s a.block (.row (splice cells a.off vs) esz ep ep hist) k else .fail
    | _ => .fail

def loadT (E : Env) (s : St) (t : TypeId) (x : Value) (k : Value → T α) : T α :=
  match x with
  | .pointer (some a) => match E.desc t with
    | none => .fail
    | some d =>
      if isAggD d then
        match E.size t with
        | none => .fail
        | some n => readT E.old s a n fun l => k (.agg l.toArray)
      else readT E.old s a 1 fun l => match l with
        | [v] => k v
        | _ => .fail
  | _ => .fail

def storeT (E : Env) (s : St) (t : TypeId) (x v : Value) (k : St → T α) : T α :=
  match x with
  | .pointer (some a) => match E.size t with
    | none => .fail
    | some n => if v.cells.size = n then writeT s a v.cells.toList k else .fail
  | _ => .fail

def natT (i : Int) (k : Nat → T α) : T α := .ask (decide (0 ≤ i)) fun c => if c then k i.toNat else .fail

def boundT (v : Option Value) (dflt : Nat) (k : Nat → T α) : T α :=
  match v with
  | none => k dflt
  | some (.int _ n) => natT n k
  | some _ => .fail

def indexAddrT (E : Env) (t : TypeId) (x i : Value) (k : Value → T α) : T α :=
  match aInt i with
  | none => .fail
  | some i =>
    match E.desc t, x with
    | some (.array len elem), .pointer (some a) => match E.size elem with
      | some n => .ask (decide (0 ≤ i ∧ i < len)) fun c => if c then k (.pointer (some (aadd a (i.toNat * n)))) else .fail
      | none => .fail
    | some (.slice elem), .slice (some a) len _ => match E.size elem with
      | some n => .ask (decide (0 ≤ i ∧ i < len)) fun c => if c then k (.pointer (some (aadd a (i.toNat * n)))) else .fail
      | none => .fail
    | _, _ => .fail

def eitherT (x y : Bool) (k : T α) : T α := .ask x fun c => if c then k else .ask y fun c => if c then k else .fail

def roomAtO (o : Option AObj) (a : Addr) (n : Nat) : Nat :=
  match a.spot, o with
  | some e, some (.row cells esz ep lw _) => if e = ep ∧ lw ≤ ep ∧ esz = n then (cells.length - a.off) / n else 0
  | _, _ => 0

def eszIsO (o : Option AObj) (a : Addr) (n : Nat) : Bool :=
  match o with
  | some (.row _ esz ep lw _) => esz = n && some ep == a.spot && decide (lw ≤ ep)
  | _ => false

theorem roomAt_eq (s : St) (a : Addr) (n : Nat) : roomAt s a n = roomAtO (s.get a.block) a n := rfl
theorem eszIs_eq (s : St) (a : Addr) (n : Nat) : eszIs s a n = eszIsO (s.get a.block) a n := rfl

def sliceT (E : Env) (s : St) (t : TypeId) (x : Value) (lo hi mx : Option Value) (k : Value → T α) : T α :=
  if flat x then liftT (aSlice E s t x lo hi mx) k
  else match E.desc t, x with
    | some (.slice elem), .slice (some a) len cap =>
      match E.size elem with
      | some n => boundT lo 0 fun l => boundT hi len fun h =>
        if 0 < n then
          if a.spot.isSome ∧ cap = unc then .get s a.block fun o =>
            if eszIsO (some o) a n then .ask (decide (l ≤ h)) fun c => if c then eitherT (decide (h ≤ len)) (decide (h ≤ roomAtO (some o) a n)) (
              match mx with
              | none => k (.slice (some (aadd a (l * n))) (h - l) unc)
              | some m => boundT (some m) 0 fun m =>
                .ask (decide (h ≤ m)) fun c => if c then eitherT (decide (m ≤ len)) (decide (m ≤ roomAtO (some o) a n)) (
                .ask (decide (m - l < unc)) fun c => if c then .ask (decide (0 < len)) fun c => if c then .ask (decide (m = l)) fun c => k (.slice (some (if c then a else aadd a (l * n))) (h - l) (m - l)) else .fail else .fail) else .fail)
              else .fail
            else .fail
          else
            boundT mx cap fun m => .ask (decide (l ≤ h ∧ h ≤ m ∧ m ≤ cap)) fun c => if c then .ask (decide (m = l)) fun c => k (.slice (some (if c then a else aadd a (l * n))) (h - l) (m - l)) else .fail
        else .fail
      | none => .fail
    | _, _ => liftT (aSlice E s t x lo hi mx) k

def sourceT (E : Env) (s : St) (n : Nat) (size : Nat) (x : Value) (k : List Value → T α) : T α :=
  match x with
  | .slice none _ _ => k []
  | .slice (some a) _ _ => readT E.old s a (n * size) k
  | .string b => if size = 1 then .askL (some ((b.extract 0 n).data.toList.map fun b => .int .u8 b.toNat)) k else .fail
  | _ => .fail

def newT (E : Env) (s : St) (argTypes : Array TypeId) (n b : Nat) (z : Value) (x : Value) (k : Nat → List Value → T α) : T α :=
  match argTypes[1]? with
  | some xt => match E.desc xt with
    | some (.int _) => liftT (aNew E s argTypes n b z x) fun r => k r.1 r.2
    | some _ => match aLen x with
      | some m => sourceT E s m n x fun l => k m l
      | none => .fail
    | none => .fail
  | none => match aLen x with
    | some m => sourceT E s m n x fun l => k m l
    | none => .fail

def appendT (E : Env) (s : St) (argTypes : Array TypeId) (sl x : Value) (k : Value → St → T α) : T α :=
  match argTypes[0]? with
  | none => .fail
  | some st => match E.desc st with
    | some (.slice elem) => match E.size elem, E.bytes elem, E.zero elem with
      | some n, some b, some z =>
        if ¬ (0 < n ∧ z.cells.size = n) then .fail else
        newT E s argTypes n b z x fun m new =>
          .ask (decide (new.length = m * n ∧ new.all isCell = true)) fun c => if c then
            match sl with
            | .slice none l c =>
              if l ≠ 0 ∨ c ≠ 0 then .fail else
              .ask (decide (m = 0)) fun c => if c then k sl s else
              .ask (decide (m * b ≤ 2 ^ 46 ∧ m < 2 ^ 62)) fun c => if c then .push s (.row new n 0 0 []) fun s' => k (.slice (some ⟨s.next, 0, some 0⟩) m unc) s' else .fail
            | .slice (some a) len cap =>
              .ask (decide ((len + m) * b ≤ 2 ^ 46 ∧ len + m < 2 ^ 62)) fun c => if c then
                match a.spot with
                | some e => .get s a.block fun o => match o with
                  | .row cells esz ep lw hist =>
                    .ask (decide (e = ep ∧ lw ≤ ep ∧ esz = n ∧ a.off ≤ cells.length)) fun c => if c then
                      if cap = unc then
                        .ask (decide (m = 0)) fun c => if c then k sl s else
                        .ask (decide (a.off + (len + m) * n ≤ cells.length)) fun c => if c then
                          .put s a.block (.row (splice cells (a.off + len * n) new) esz ep ep hist) fun s' => k (.slice (some a) (len + m) unc) s'
                        else .ask (decide (a.off + len * n = cells.length)) fun c => if c then
                          .put s a.block (.row (cells ++ new) esz (ep + 1) lw (cells.length :: hist)) fun s' => k (.slice (some ⟨a.block, a.off, some (ep + 1)⟩) (len + m) unc) s'
                        else .fail
                      else .ask (decide (len + m ≤ cap)) fun c => if c then
                        .ask (decide (a.off + (len + m) * n ≤ cells.length)) fun c => if c then
                          .put s a.block (.row (splice cells (a.off + len * n) new) esz ep ep hist) fun s' => k (.slice (some a) (len + m) cap) s'
                        else .fail
                      else readT E.old s a (len * n) fun was => .push s (.row (was ++ new) n 0 0 []) fun s' => k (.slice (some ⟨s.next, 0, some 0⟩) (len + m) unc) s'
                    else .fail
                  | _ => .fail
                | none => .fail
              else .fail
            | _ => .fail
          else .fail
      | _, _, _ => .fail
    | _ => .fail

def clearT (E : Env) (s : St) (argTypes : Array TypeId) (x : Value) (k : Value → St → T α) : T α :=
  match argTypes[0]?, x with
  | some t, .slice (some a) n _ => match E.desc t with
    | some (.slice e) => match E.size e, E.zero e with
      | some m, some z => .ask (decide (n = 0)) fun c => if c then k (.tuple #[]) s else if z.cells.size = m ∧ 0 < m then writeT s a (aZeros z.cells.toList n) fun s' => k (.tuple #[]) s' else .fail
      | _, _ => .fail
    | _ => .fail
  | _, _ => .fail

theorem liftT_run {β : Type} {o : Option β} {k : β → T α} {r : α} (h : (liftT o k).Runs r) : ∃ b, o = some b ∧ (k b).Runs r := by
  unfold liftT at h
  split at h
  · exact ⟨_, rfl, h⟩
  · simp [T.Runs] at h

theorem ask_run {b : Bool} {x y : T α} {r : α} (h : (T.ask b fun c => if c then x else y).Runs r) : (b = true ∧ x.Runs r) ∨ (b = false ∧ y.Runs r) := by
  simp only [T.Runs] at h
  cases b
  · exact .inr ⟨rfl, by simpa using h⟩
  · exact .inl ⟨rfl, by simpa using h⟩

theorem ask_run' {b : Bool} {x : T α} {r : α} (h : (T.ask b fun c => if c then x else .fail).Runs r) : b = true ∧ x.Runs r := by
  rcases ask_run h with h | ⟨_, h⟩
  · exact h
  · simp [T.Runs] at h

theorem askL_run {o : Option (List Value)} {k : List Value → T α} {r : α} (h : (T.askL o k).Runs r) : ∃ l, o = some l ∧ (k l).Runs r := h

theorem askO_run {s : St} {f : Nat} {k : AObj → T α} {r : α} (h : (T.get s f k).Runs r) : ∃ x, s.get f = some x ∧ (k x).Runs r := h

theorem fail_run {r : α} (h : (T.fail : T α).Runs r) : False := by simp [T.Runs] at h

theorem readT_run {old : Addr → Option Value} {s : St} {a : Addr} {n : Nat} {k : List Value → T α} {r : α} (h : (readT old s a n k).Runs r) : ∃ l, readN old s a n = some l ∧ (k l).Runs r := by
  unfold readT at h
  unfold readN
  split at h
  · rename_i hs
    obtain ⟨l, h1, h2⟩ := askL_run h
    exact ⟨l, by simp only [hs]; exact h1, h2⟩
  · rename_i e hs
    obtain ⟨x, hg, h⟩ := askO_run h
    split at h
    · rename_i cells esz ep lw hist
      obtain ⟨l, h1, h2⟩ := askL_run h
      exact ⟨l, by simp only [hs, hg]; exact h1, h2⟩
    · exact (fail_run h).elim

theorem writeT_run {s : St} {a : Addr} {vs : List Value} {k : St → T α} {r : α} (h : (writeT s a vs k).Runs r) : ∃ s', writeN s a vs = some s' ∧ (k s').Runs r := by
  unfold writeT at h
  unfold writeN
  split at h
  · exact (fail_run h).elim
  · rename_i e hs
    obtain ⟨x, hg, h⟩ := askO_run h
    split at h
    · rename_i cells esz ep lw hist
      obtain ⟨h1, h2⟩ := ask_run' h
      exact ⟨_, by simp only [hs, hg]; rw [if_pos (of_decide_eq_true h1)], h2⟩
    · exact (fail_run h).elim

theorem loadT_run {E : Env} {s : St} {t : TypeId} {x : Value} {k : Value → T α} {r : α} (h : (loadT E s t x k).Runs r) : ∃ v, aLoad E s t x = some v ∧ (k v).Runs r := by
  unfold loadT at h
  unfold aLoad
  split at h
  · split at h
    · exact (fail_run h).elim
    · rename_i d hd
      simp only [hd]
      split at h
      · rename_i ha
        split at h
        · exact (fail_run h).elim
        · rename_i n hn
          obtain ⟨l, h1, h2⟩ := readT_run h
          exact ⟨_, by rw [if_pos ha]; simp only [hn, h1]; rfl, h2⟩
      · rename_i ha
        obtain ⟨l, h1, h2⟩ := readT_run h
        rw [if_neg ha, h1]
        split at h2
        · exact ⟨_, rfl, h2⟩
        · exact (fail_run h2).elim
  · exact (fail_run h).elim

theorem storeT_run {E : Env} {s : St} {t : TypeId} {x v : Value} {k : St → T α} {r : α} (h : (storeT E s t x v k).Runs r) : ∃ s', aStore E s t x v = some s' ∧ (k s').Runs r := by
  unfold storeT at h
  unfold aStore
  split at h
  · split at h
    · exact (fail_run h).elim
    · rename_i n hn
      simp only [hn]
      split at h
      · rename_i hc
        rw [if_pos hc]
        exact writeT_run h
      · exact (fail_run h).elim
  · exact (fail_run h).elim

theorem natT_run {i : Int} {k : Nat → T α} {r : α} (h : (natT i k).Runs r) : ∃ n, asNat i = some n ∧ (k n).Runs r := by
  obtain ⟨h1, h2⟩ := ask_run' h
  exact ⟨_, by unfold asNat; rw [if_pos (of_decide_eq_true h1)], h2⟩

theorem boundT_run {v : Option Value} {d : Nat} {k : Nat → T α} {r : α} (h : (boundT v d k).Runs r) : ∃ n, aBound v d = some n ∧ (k n).Runs r := by
  unfold boundT at h
  unfold aBound
  split at h
  · exact ⟨_, rfl, h⟩
  · exact natT_run h
  · exact (fail_run h).elim

theorem indexAddrT_run {E : Env} {t : TypeId} {x i : Value} {k : Value → T α} {r : α} (h : (indexAddrT E t x i k).Runs r) : ∃ v, aIndexAddr E t x i = some v ∧ (k v).Runs r := by
  unfold indexAddrT at h
  unfold aIndexAddr
  split at h
  · exact (fail_run h).elim
  · rename_i i' hi
    split at h
    · rename_i hd
      simp only [hd]
      split at h
      · rename_i n hn
        obtain ⟨h1, h2⟩ := ask_run' h
        exact ⟨_, by simp only [hi, hn]; exact if_pos (of_decide_eq_true h1), h2⟩
      · exact (fail_run h).elim
    · rename_i hd
      simp only [hd]
      split at h
      · rename_i n hn
        obtain ⟨h1, h2⟩ := ask_run' h
        exact ⟨_, by simp only [hi, hn]; exact if_pos (of_decide_eq_true h1), h2⟩
      · exact (fail_run h).elim
    · exact (fail_run h).elim

theorem eitherT_run {x y : Bool} {k : T α} {r : α} (h : (eitherT x y k).Runs r) : (x || y) = true ∧ k.Runs r := by
  rcases ask_run h with ⟨rfl, h⟩ | ⟨rfl, h⟩
  · exact ⟨rfl, h⟩
  · obtain ⟨rfl, h⟩ := ask_run' h
    exact ⟨rfl, h⟩

theorem sliceT_run {E : Env} {s : St} {t : TypeId} {x : Value} {lo hi mx : Option Value} {k : Value → T α} {r : α} (h : (sliceT E s t x lo hi mx k).Runs r) : ∃ v, aSlice E s t x lo hi mx = some v ∧ (k v).Runs r := by
  unfold sliceT at h
  split at h
  · exact liftT_run h
  · rename_i hf
    split at h
    · rename_i elem a len cap hd
      unfold aSlice
      rw [if_neg hf]
      simp only [hd]
      split at h
      · rename_i n hn
        obtain ⟨l, hl, h⟩ := boundT_run h
        obtain ⟨hh, hhi, h⟩ := boundT_run h
        simp only [hn, hl, hhi]
        split at h
        · rename_i hn0
          rw [if_pos hn0]
          split at h
          · rename_i hc
            rw [if_pos hc]
            obtain ⟨x, hg, h⟩ := askO_run h
            rw [eszIs_eq, roomAt_eq, hg]
            split at h
            · rename_i hes
              obtain ⟨h1, h⟩ := ask_run' h
              obtain ⟨h1', h⟩ := eitherT_run h
              rw [if_pos (by simp only [hes, h1, h1', Bool.and_self])]
              split at h
              · exact ⟨_, rfl, h⟩
              · obtain ⟨m, hm, h⟩ := boundT_run h
                simp only [hm]
                obtain ⟨h2, h⟩ := ask_run' h
                obtain ⟨h3, h⟩ := eitherT_run h
                obtain ⟨h4, h⟩ := ask_run' h
                obtain ⟨h5, h⟩ := ask_run' h
                simp only [Bool.or_eq_true, decide_eq_true_eq] at h2 h3 h4 h5
                rw [if_pos ⟨h2, h3, h4, h5⟩]
                simp only [T.Runs] at h
                exact ⟨_, rfl, by simpa using h⟩
            · exact (fail_run h).elim
          · rename_i hc
            rw [if_neg hc]
            obtain ⟨m, hm, h⟩ := boundT_run h
            simp only [hm]
            obtain ⟨h2, h⟩ := ask_run' h
            rw [if_pos (of_decide_eq_true h2)]
            simp only [T.Runs] at h
            exact ⟨_, rfl, by simpa using h⟩
        · exact (fail_run h).elim
      · exact (fail_run h).elim
    · exact liftT_run h

theorem sourceT_run {E : Env} {s : St} {n m : Nat} {x : Value} {k : List Value → T α} {r : α} (h : (sourceT E s n m x k).Runs r) : ∃ l, aSource E s n m x = some l ∧ (k l).Runs r := by
  unfold sourceT at h
  unfold aSource
  split at h
  · exact ⟨_, rfl, h⟩
  · exact readT_run h
  · split at h
    · rename_i hm
      simp only [if_pos hm]
      exact askL_run h
    · exact (fail_run h).elim
  · exact (fail_run h).elim

theorem newT_run {E : Env} {s : St} {argTypes : Array TypeId} {n b : Nat} {z x : Value} {k : Nat → List Value → T α} {r : α} (h : (newT E s argTypes n b z x k).Runs r) :
    ∃ m l, aNew E s argTypes n b z x = some (m, l) ∧ (k m l).Runs r := by
  unfold newT at h
  split at h
  · rename_i xt hx
    split at h
    · obtain ⟨⟨m, l⟩, h1, h2⟩ := liftT_run h
      exact ⟨m, l, h1, h2⟩
    · rename_i d hni hd
      split at h
      · rename_i m hm
        obtain ⟨l, h1, h2⟩ := sourceT_run h
        refine ⟨m, l, ?_, h2⟩
        unfold aNew
        rw [hx]
        simp only
        rw [hd]
        cases d <;> first | exact absurd rfl (hni _) | (simp only [hm, h1]; rfl)
      · exact (fail_run h).elim
    · exact (fail_run h).elim
  · rename_i hx
    unfold aNew
    simp only [hx]
    split at h
    · rename_i m hm
      obtain ⟨l, h1, h2⟩ := sourceT_run h
      exact ⟨m, l, by simp [hm, h1], h2⟩
    · exact (fail_run h).elim

theorem clearT_run {E : Env} {s : St} {argTypes : Array TypeId} {x : Value} {k : Value → St → T α} {r : α} (h : (clearT E s argTypes x k).Runs r) : ∃ v s', aClear E s argTypes x = some (v, s') ∧ (k v s').Runs r := by
  unfold clearT at h
  unfold aClear
  split at h
  · rename_i t a n c ht
    simp only [ht]
    split at h
    · rename_i e hd
      simp only [hd]
      split at h
      · rename_i m z hm hz
        simp only [hm, hz]
        rcases ask_run h with ⟨h1, h⟩ | ⟨h1, h⟩
        · rw [if_pos (of_decide_eq_true h1)]
          exact ⟨_, _, rfl, h⟩
        · rw [if_neg (of_decide_eq_false h1)]
          split at h
          · rename_i hc
            rw [if_pos hc]
            obtain ⟨s', h2, h3⟩ := writeT_run h
            exact ⟨_, _, by rw [h2]; rfl, h3⟩
          · exact (fail_run h).elim
      · exact (fail_run h).elim
    · exact (fail_run h).elim
  · exact (fail_run h).elim

theorem appendT_run {E : Env} {s : St} {argTypes : Array TypeId} {sl x : Value} {k : Value → St → T α} {r : α} (h : (appendT E s argTypes sl x k).Runs r) :
    ∃ v s', aAppend E s argTypes sl x = some (v, s') ∧ (k v s').Runs r := by
  unfold appendT at h
  unfold aAppend
  split at h
  · exact (fail_run h).elim
  · rename_i st hst
    split at h
    · rename_i elem hd
      simp only [hst, hd]
      split at h
      · rename_i n b z hn hb hz
        simp only [hn, hb, hz]
        split at h
        · exact (fail_run h).elim
        · rename_i hnz
          rw [if_neg hnz]
          obtain ⟨m, new, hnew, h⟩ := newT_run h
          simp only [hnew]
          obtain ⟨h1, h⟩ := ask_run' h
          rw [if_neg (Classical.not_not.2 (of_decide_eq_true h1))]
          split at h
          · split at h
            · exact (fail_run h).elim
            · rename_i hlc
              simp only
              rw [if_neg hlc]
              rcases ask_run h with ⟨h2, h⟩ | ⟨h2, h⟩
              · rw [if_pos (of_decide_eq_true h2)]
                exact ⟨_, _, rfl, h⟩
              · rw [if_neg (of_decide_eq_false h2)]
                obtain ⟨h3, h⟩ := ask_run' h
                rw [if_pos (of_decide_eq_true h3)]
                exact ⟨_, _, rfl, h⟩
          · rename_i a len cap
            simp only
            obtain ⟨h2, h⟩ := ask_run' h
            rw [if_pos (of_decide_eq_true h2)]
            split at h
            · rename_i e he
              simp only [he]
              obtain ⟨x, hg, h⟩ := askO_run h
              split at h
              · rename_i cells esz ep lw hist
                simp only [hg]
                obtain ⟨h3, h⟩ := ask_run' h
                rw [if_pos (of_decide_eq_true h3)]
                split at h
                · rename_i hcap
                  rw [if_pos hcap]
                  rcases ask_run h with ⟨h4, h⟩ | ⟨h4, h⟩
                  · rw [if_pos (of_decide_eq_true h4)]
                    exact ⟨_, _, rfl, h⟩
                  · rw [if_neg (of_decide_eq_false h4)]
                    rcases ask_run h with ⟨h5, h⟩ | ⟨h5, h⟩
                    · rw [if_pos (of_decide_eq_true h5)]
                      exact ⟨_, _, rfl, h⟩
                    · rw [if_neg (of_decide_eq_false h5)]
                      obtain ⟨h6, h⟩ := ask_run' h
                      rw [if_pos (of_decide_eq_true h6)]
                      exact ⟨_, _, rfl, h⟩
                · rename_i hcap
                  rw [if_neg hcap]
                  rcases ask_run h with ⟨h4, h⟩ | ⟨h4, h⟩
                  · rw [if_pos (of_decide_eq_true h4)]
                    obtain ⟨h5, h⟩ := ask_run' h
                    rw [if_pos (of_decide_eq_true h5)]
                    exact ⟨_, _, rfl, h⟩
                  · rw [if_neg (of_decide_eq_false h4)]
                    obtain ⟨was, h5, h⟩ := readT_run h
                    simp only [h5]
                    exact ⟨_, _, rfl, h⟩
              · exact (fail_run h).elim
            · exact (fail_run h).elim
          · exact (fail_run h).elim
      · exact (fail_run h).elim
    · exact (fail_run h).elim

end

/-! Strings whose length is open. -/
variable {α : Type}

theorem pureFlat_of {P : Program} {x : Sem Value} {v : Value} (h : pureRun P x = some v) (hf : flat v = true) : pureFlat P x = some v := by
  unfold pureFlat
  rw [h]
  simp [hf]

theorem bin_add {E : Env} {t : TypeId} {xo yo : Operand} {a b : ByteArray} (h : a.size + b.size ≤ 2 ^ 62) : aBin E .add t xo yo (.string a) (.string b) = some (.string (a ++ b)) := by
  have : ¬ (((a.size + b.size : Nat) : Int) > IntKind.i64.max) := by
    have : (IntKind.i64.max : Int) = 9223372036854775807 := by decide
    rw [this]; omega
  show pureFlat E.P _ = _
  refine pureFlat_of ?_ rfl
  show pureRun E.P (Op.stringOp .add a b) = _
  unfold Op.stringOp
  simp only
  rw [if_neg this]
  rfl

theorem bytes_toList (b : ByteArray) : b.toList = b.data.toList := by
  obtain ⟨⟨l⟩⟩ := b
  exact ByteArray.toList_mk l

theorem bin_eql {E : Env} {t : TypeId} {xo yo : Operand} {a b : ByteArray} : aBin E .eql t xo yo (.string a) (.string b) = some (.bool (a.data.toList == b.data.toList)) := by
  unfold aBin
  rw [if_pos (show (flat (.string a) && flat (.string b)) = true from rfl)]
  refine pureFlat_of ?_ rfl
  show pureRun E.P (Op.stringOp .eql a b) = _
  unfold Op.stringOp
  simp only [bytes_toList]
  rfl

theorem bin_neq {E : Env} {t : TypeId} {xo yo : Operand} {a b : ByteArray} : aBin E .neq t xo yo (.string a) (.string b) = some (.bool (!(a.data.toList == b.data.toList))) := by
  unfold aBin
  rw [if_pos (show (flat (.string a) && flat (.string b)) = true from rfl)]
  refine pureFlat_of ?_ rfl
  show pureRun E.P (Op.stringOp .neq a b) = _
  unfold Op.stringOp
  simp only [bytes_toList]
  rfl

theorem underlying_pure {P : Program} {t : TypeId} {d : TypeDesc} (h : P.underlying t = some d) {β : Type} (k : TypeDesc → Sem β) : pureRun P (underlying t >>= k) = pureRun P (k d) := by
  unfold underlying
  show pureRun P (((match P.underlying t with | some d => pure d | none => _) : Sem TypeDesc) >>= k) = _
  rw [h]
  rfl

theorem get_bytes {b : ByteArray} {i : Nat} (h : i < b.size) : b[i]? = some (b.get! i) := by
  obtain ⟨d⟩ := b
  have h' : i < d.size := h
  show (if h : i < d.size then some _ else none) = _
  rw [dif_pos h']
  congr 1
  show d[i] = d.getD i default
  simp [Array.getD, h']

theorem index_str {E : Env} {t : TypeId} {b : ByteArray} {k : IntKind} {i : Int} (hd : E.P.underlying t = some .string) (h0 : 0 ≤ i) (hi : i.toNat < b.size) : aIndex E t (.string b) (.int k i) = some (.int .u8 ((b.get! i.toNat).toNat : Nat)) := by
  show pureFlat E.P _ = _
  refine pureFlat_of ?_ rfl
  unfold Instr.index
  simp only [asIntOf, pure_bind]
  rw [underlying_pure hd]
  simp only [if_pos h0]
  rw [get_bytes hi]
  rfl

theorem bound_pure {v : Value} {y n : Nat} {c : BoundsCode} {d : Nat} (h : aBound (some v) d = some n) (hn : n ≤ y) : Instr.sliceBound v y c = pure n := by
  cases v <;> simp only [aBound, reduceCtorEq] at h
  rename_i ik i
  unfold asNat at h
  split at h
  · rename_i h0
    cases h
    unfold Instr.sliceBound
    simp only [asIntOf, pure_bind]
    rw [if_pos ⟨h0, by omega⟩]
  · simp at h

theorem slice_str {E : Env} {s : St} {t : TypeId} {b : ByteArray} {lo hi : Option Value} {l h : Nat} (hd : E.P.underlying t = some .string) (hl : aBound lo 0 = some l) (hh : aBound hi b.size = some h) (h1 : l ≤ h) (h2 : h ≤ b.size) : aSlice E s t (.string b) lo hi none = some (.string (b.extract l h)) := by
  have hfl : ∀ {v : Option Value} {d n : Nat}, aBound v d = some n → (v.map flat).getD true = true := by
    intro v d n h
    cases v with
    | none => rfl
    | some v => cases v <;> simp only [aBound, reduceCtorEq] at h; rfl
  unfold aSlice
  rw [if_pos (show flat (.string b) = true from rfl), hfl hl, hfl hh]
  simp only [Option.map_none, Option.getD_none, Bool.and_self, if_true]
  refine pureFlat_of ?_ rfl
  unfold Instr.sliceAt
  rw [underlying_pure hd]
  show pureRun E.P (Instr.slice t (.string b) lo hi none) = _
  unfold Instr.slice
  rw [underlying_pure hd]
  unfold Instr.sliceBounds
  simp only [Option.isSome_none, Bool.false_eq_true, if_false, pure_bind, bind_assoc]
  cases hi with
  | none =>
    cases hh
    cases lo with
    | none => cases hl; rfl
    | some v => simp only [bound_pure hl h1, pure_bind]; rfl
  | some u =>
    simp only [bound_pure (y := b.size) hh h2, pure_bind]
    cases lo with
    | none => cases hl; rfl
    | some v => simp only [bound_pure hl h1, pure_bind]; rfl

/-- A whole number may be told in other words. -/
def intT (v : Value) (k : Value → T α) : T α :=
  match v with
  | .int kd n => .int n fun n' => k (.int kd n')
  | v => k v

theorem intT_run {v : Value} {k : Value → T α} {r : α} (h : (intT v k).Runs r) : (k v).Runs r := by
  unfold intT at h
  split at h
  · exact h
  · exact h

def addStrT (E : Env) (t : TypeId) (xo yo : Operand) (x y : Value) (k : Value → T α) : T α :=
  match x, y with
  | .string a, .string b => .ask (decide (a.size + b.size ≤ 2 ^ 62)) fun c => if c then k (.string (a ++ b)) else .fail
  | _, _ => liftT (aBin E .add t xo yo x y) fun v => intT v k

theorem addStrT_run {E : Env} {t : TypeId} {xo yo : Operand} {x y : Value} {k : Value → T α} {r : α} (h : (addStrT E t xo yo x y k).Runs r) : ∃ v, aBin E .add t xo yo x y = some v ∧ (k v).Runs r := by
  unfold addStrT at h
  split at h
  · obtain ⟨h1, h⟩ := ask_run' h
    exact ⟨_, bin_add (of_decide_eq_true h1), h⟩
  · obtain ⟨v, h1, h2⟩ := liftT_run h
    exact ⟨v, h1, intT_run h2⟩

def eqStrT (E : Env) (neg : Bool) (t : TypeId) (xo yo : Operand) (x y : Value) (k : Value → T α) : T α :=
  match x, y with
  | .string a, .string b => match neg with
    | false => k (.bool (a.data.toList == b.data.toList))
    | true => k (.bool (!(a.data.toList == b.data.toList)))
  | _, _ => liftT (aBin E (if neg then .neq else .eql) t xo yo x y) k

theorem eqStrT_run {E : Env} {neg : Bool} {t : TypeId} {xo yo : Operand} {x y : Value} {k : Value → T α} {r : α} (h : (eqStrT E neg t xo yo x y k).Runs r) : ∃ v, aBin E (if neg then .neq else .eql) t xo yo x y = some v ∧ (k v).Runs r := by
  unfold eqStrT at h
  split at h
  · cases neg
    · exact ⟨_, bin_eql, h⟩
    · exact ⟨_, bin_neq, h⟩
  · exact liftT_run h

def indexStrT (E : Env) (t : TypeId) (x i : Value) (k : Value → T α) : T α :=
  match E.P.underlying t, x, i with
  | some .string, .string b, .int _ i => .ask (decide (0 ≤ i)) fun c => if c then .ask (decide (i.toNat < b.size)) fun c => if c then intT (.int .u8 ((b.get! i.toNat).toNat : Nat)) k else .fail else .fail
  | _, _, _ => liftT (aIndex E t x i) k

theorem indexStrT_run {E : Env} {t : TypeId} {x i : Value} {k : Value → T α} {r : α} (h : (indexStrT E t x i k).Runs r) : ∃ v, aIndex E t x i = some v ∧ (k v).Runs r := by
  unfold indexStrT at h
  split at h
  next hd =>
    obtain ⟨h1, h⟩ := ask_run' h
    obtain ⟨h2, h⟩ := ask_run' h
    exact ⟨_, index_str hd (of_decide_eq_true h1) (of_decide_eq_true h2), intT_run h⟩
  · exact liftT_run h

def sliceStrT (E : Env) (s : St) (t : TypeId) (x : Value) (lo hi mx : Option Value) (k : Value → T α) : T α :=
  match E.P.underlying t, x, mx with
  | some .string, .string b, none => boundT lo 0 fun l => boundT hi b.size fun h => .ask (decide (l ≤ h)) fun c => if c then .ask (decide (h ≤ b.size)) fun c => if c then k (.string (b.extract l h)) else .fail else .fail
  | _, _, _ => sliceT E s t x lo hi mx k

theorem sliceStrT_run {E : Env} {s : St} {t : TypeId} {x : Value} {lo hi mx : Option Value} {k : Value → T α} {r : α} (h : (sliceStrT E s t x lo hi mx k).Runs r) : ∃ v, aSlice E s t x lo hi mx = some v ∧ (k v).Runs r := by
  unfold sliceStrT at h
  split at h
  next hd =>
    obtain ⟨l, hl, h⟩ := boundT_run h
    obtain ⟨hh, hhi, h⟩ := boundT_run h
    obtain ⟨h1, h⟩ := ask_run' h
    obtain ⟨h2, h⟩ := ask_run' h
    exact ⟨_, slice_str hd hl hhi (of_decide_eq_true h1) (of_decide_eq_true h2), h⟩
  · exact sliceT_run h

end Go.Ai
