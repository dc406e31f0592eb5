/-
  THE SHORT RUN, 1: its data. A machine of our own whose memory holds a row of cells under a number, and a growing row under one number still: what Go leaves open (the order inside a statement, a new array's room) does not show in it.
-/
import Derived.Recover
import Derived.Scope
import Derived.Laws.Cells
import Derived.Laws.CopyRow
import Derived.Laws.Rows
import Derived.Below
import Derived.Laws.Entries
import Derived.Orders

namespace Go.Ai
open Go

/-! A map from numbers, as a tree. -/
inductive Tr (α : Type) where
  | nil
  | node (l : Tr α) (v : Option α) (r : Tr α)

def Tr.get {α : Type} : Tr α → Nat → Option α
  | .nil, _ => none
  | .node l v r, n =>
    match n with
    | 0 => v
    | n + 1 => if n % 2 = 0 then l.get (n / 2) else r.get (n / 2)

def Tr.set {α : Type} (a : α) : Nat → Tr α → Nat → Tr α
  | 0, t, _ => t
  | f + 1, .nil, n =>
    match n with
    | 0 => .node .nil (some a) .nil
    | n + 1 => if n % 2 = 0 then .node (Tr.set a f .nil (n / 2)) none .nil else .node .nil none (Tr.set a f .nil (n / 2))
  | f + 1, .node l v r, n =>
    match n with
    | 0 => .node l (some a) r
    | n + 1 => if n % 2 = 0 then .node (Tr.set a f l (n / 2)) v r else .node l v (Tr.set a f r (n / 2))

def Tr.put {α : Type} (t : Tr α) (n : Nat) (a : α) : Tr α := Tr.set a (n + 1) t n

theorem Tr.get_set {α : Type} (a : α) : ∀ (f : Nat) (t : Tr α) (n m : Nat), n < f → (Tr.set a f t n).get m = if m = n then some a else t.get m := by
  intro f
  induction f with
  | zero => intro t n m h; omega
  | succ f ih =>
    intro t n m h
    cases t with
    | nil =>
      cases n with
      | zero => cases m <;> simp [Tr.set, Tr.get]
      | succ n =>
        have hn : n / 2 < f := by omega
        simp only [Tr.set]
        split
        · cases m with
          | zero => simp [Tr.get]
          | succ m =>
            simp only [Tr.get]
            split
            · rw [ih _ _ _ hn]
              have : (m / 2 = n / 2) = (m + 1 = n + 1) := by apply propext; omega
              simp [this, Tr.get]
            · have : m + 1 ≠ n + 1 := by omega
              rw [if_neg this]; try rfl
        · cases m with
          | zero => simp [Tr.get]
          | succ m =>
            simp only [Tr.get]
            split
            · have : m + 1 ≠ n + 1 := by omega
              rw [if_neg this]; try rfl
            · rw [ih _ _ _ hn]
              have : (m / 2 = n / 2) = (m + 1 = n + 1) := by apply propext; omega
              simp [this, Tr.get]
    | node l v r =>
      cases n with
      | zero => cases m <;> simp [Tr.set, Tr.get]
      | succ n =>
        have hn : n / 2 < f := by omega
        simp only [Tr.set]
        split
        · cases m with
          | zero => simp [Tr.get]
          | succ m =>
            simp only [Tr.get]
            split
            · rw [ih _ _ _ hn]
              have : (m / 2 = n / 2) = (m + 1 = n + 1) := by apply propext; omega
              simp [this]
            · have : m + 1 ≠ n + 1 := by omega
              rw [if_neg this]; try rfl
        · cases m with
          | zero => simp [Tr.get]
          | succ m =>
            simp only [Tr.get]
            split
            · have : m + 1 ≠ n + 1 := by omega
              rw [if_neg this]; try rfl
            · rw [ih _ _ _ hn]
              have : (m / 2 = n / 2) = (m + 1 = n + 1) := by apply propext; omega
              simp [this]

theorem Tr.get_put {α : Type} (t : Tr α) (n m : Nat) (a : α) : (t.put n a).get m = if m = n then some a else t.get m :=
  Tr.get_set a _ t n m (by omega)

/-- What a number stands for: a row of cells that may have grown ('ep' times; 'hist': how many cells it had before each growth, the last one first; 'lw': in which growth's time it was last written to), a map, a walk along a string. -/
inductive AObj where
  | row (cells : List Value) (esz ep lw : Nat) (hist : List Nat)
  | map (es : List (Value × Value))
  | iter (s : ByteArray) (pos : Nat)

structure St where
  objs : Tr AObj
  next : Nat

def St.get (s : St) (f : Nat) : Option AObj := s.objs.get f
def St.put (s : St) (f : Nat) (o : AObj) : St := { s with objs := s.objs.put f o }
def St.push (s : St) (o : AObj) : St := { objs := s.objs.put s.next o, next := s.next + 1 }

theorem St.get_put (s : St) (f m : Nat) (o : AObj) : (s.put f o).get m = if m = f then some o else s.get m := Tr.get_put _ _ _ _
theorem St.get_push (s : St) (m : Nat) (o : AObj) : (s.push o).get m = if m = s.next then some o else s.get m := Tr.get_put _ _ _ _
theorem St.next_put (s : St) (f : Nat) (o : AObj) : (s.put f o).next = s.next := rfl
theorem St.next_push (s : St) (o : AObj) : (s.push o).next = s.next + 1 := rfl

def St.empty : St := { objs := .nil, next := 0 }

/-- The room of a slice that reaches to its array's end. -/
def unc : Nat := 2 ^ 64

/-- How many cells a row had at a growth's time. -/
def ext (cells : List Value) (ep : Nat) (hist : List Nat) (e : Nat) : Nat :=
  if e = ep then cells.length else (hist[ep - 1 - e]?).getD 0

/- No address in it. -/
mutual
def flat : Value → Bool
  | .bool _ | .int _ _ | .float _ _ | .complex _ _ _ | .string _ | .nilFunc | .nilIface => true
  | .pointer none | .slice none _ _ | .map none | .chan none => true
  | .pointer (some _) | .slice (some _) _ _ | .map (some _) | .chan (some _) => false
  | .iface _ v => flat v
  | .func _ first captured => flatA first && flatA captured
  | .agg cs => flatA cs
  | .tuple vs => flatA vs
def flatA : Array Value → Bool
  | ⟨l⟩ => flatL l
def flatL : List Value → Bool
  | [] => true
  | v :: l => flat v && flatL l
end

/-- Where a growth's time of a row lies in the machine's memory: its block, which of the row's cells is the block's first one, the block's room and cells an element. -/
structure Blk where
  b : Nat
  base : Nat
  cap : Nat
  esz : Nat

abbrev Phi := Nat → Nat → Option Blk

/-- A value of the short run, and the machine's. 'B': the old memory's blocks. -/
inductive V (B : Nat) (φ : Phi) : Value → Value → Prop
  | bool (b) : V B φ (.bool b) (.bool b)
  | int (k n) : V B φ (.int k n) (.int k n)
  | float (k b) : V B φ (.float k b) (.float k b)
  | complex (k a b) : V B φ (.complex k a b) (.complex k a b)
  | string (s) : V B φ (.string s) (.string s)
  | nilFunc : V B φ .nilFunc .nilFunc
  | nilIface : V B φ .nilIface .nilIface
  | pnil : V B φ (.pointer none) (.pointer none)
  | pold (a : Addr) (h : a.block < B) (hs : a.spot = none) : V B φ (.pointer (some a)) (.pointer (some a))
  | pnew (f off e : Nat) (k : Blk) (h : φ f e = some k) (hb : k.base ≤ off) : V B φ (.pointer (some ⟨f, off, some e⟩)) (.pointer (some ⟨k.b, off - k.base, none⟩))
  | snil (l c) : V B φ (.slice none l c) (.slice none l c)
  | sold (a : Addr) (l c) (h : a.block < B) (hs : a.spot = none) : V B φ (.slice (some a) l c) (.slice (some a) l c)
  | snew (f off e l : Nat) (k : Blk) (h : φ f e = some k) (hb : k.base ≤ off) (hz : 0 < k.esz) (hl : (off - k.base) / k.esz + l ≤ k.cap) (hd : (off - k.base) % k.esz = 0) :
      V B φ (.slice (some ⟨f, off, some e⟩) l unc) (.slice (some ⟨k.b, off - k.base, none⟩) l (k.cap - (off - k.base) / k.esz))
  | sfix (f off e l c : Nat) (k : Blk) (h : φ f e = some k) (hb : k.base ≤ off) (hc : c < unc) :
      V B φ (.slice (some ⟨f, off, some e⟩) l c) (.slice (some ⟨k.b, off - k.base, none⟩) l c)
  | snone (f off e o : Nat) (k : Blk) (h : φ f e = some k) (hb : k.base ≤ off) (hz : 0 < k.esz) (hl : k.cap ≤ (off - k.base) / k.esz) (hd : (off - k.base) % k.esz = 0) : V B φ (.slice (some ⟨f, off, some e⟩) 0 unc) (.slice (some ⟨k.b, o, none⟩) 0 0)
  | mnil : V B φ (.map none) (.map none)
  | mnew (f : Nat) (k : Blk) (h : φ f 0 = some k) : V B φ (.map (some f)) (.map (some k.b))
  | cnil : V B φ (.chan none) (.chan none)
  | iface (t : TypeId) {v v' : Value} (h : V B φ v v') : V B φ (.iface t v) (.iface t v')
  | func (fn : Fn) {xs ys zs us : Array Value} (h : xs.size = ys.size) (hi : ∀ (i : Nat) (x y : Value), xs[i]? = some x → ys[i]? = some y → V B φ x y)
      (h' : zs.size = us.size) (hi' : ∀ (i : Nat) (x y : Value), zs[i]? = some x → us[i]? = some y → V B φ x y) : V B φ (.func fn xs zs) (.func fn ys us)
  | agg {xs ys : Array Value} (h : xs.size = ys.size) (hi : ∀ (i : Nat) (x y : Value), xs[i]? = some x → ys[i]? = some y → V B φ x y) : V B φ (.agg xs) (.agg ys)
  | tuple {xs ys : Array Value} (h : xs.size = ys.size) (hi : ∀ (i : Nat) (x y : Value), xs[i]? = some x → ys[i]? = some y → V B φ x y) : V B φ (.tuple xs) (.tuple ys)

/-- Likewise for arrays. -/
def VA (B : Nat) (φ : Phi) (xs ys : Array Value) : Prop := xs.size = ys.size ∧ ∀ (i : Nat) (x y : Value), xs[i]? = some x → ys[i]? = some y → V B φ x y

theorem V.mono {B : Nat} {φ φ' : Phi} (h : ∀ f e k, φ f e = some k → φ' f e = some k) {x y : Value} (hv : V B φ x y) : V B φ' x y := by
  induction hv with
  | bool b => exact .bool b
  | int k n => exact .int k n
  | float k b => exact .float k b
  | complex k a b => exact .complex k a b
  | string s => exact .string s
  | nilFunc => exact .nilFunc
  | nilIface => exact .nilIface
  | pnil => exact .pnil
  | pold a h hs => exact .pold a h hs
  | pnew f off e k hk hb => exact .pnew f off e k (h _ _ _ hk) hb
  | snil l c => exact .snil l c
  | sold a l c h hs => exact .sold a l c h hs
  | snew f off e l k hk hb hz hl hd => exact .snew f off e l k (h _ _ _ hk) hb hz hl hd
  | sfix f off e l c k hk hb hc => exact .sfix f off e l c k (h _ _ _ hk) hb hc
  | snone f off e o k hk hb hz hl hd => exact .snone f off e o k (h _ _ _ hk) hb hz hl hd
  | mnil => exact .mnil
  | mnew f k hk => exact .mnew f k (h _ _ _ hk)
  | cnil => exact .cnil
  | iface t _ ih => exact .iface t ih
  | func fn hs _ hs' _ ih ih' => exact .func fn hs ih hs' ih'
  | agg hs _ ih => exact .agg hs ih
  | tuple hs _ ih => exact .tuple hs ih

theorem VA.mono {B : Nat} {φ φ' : Phi} (h : ∀ f e k, φ f e = some k → φ' f e = some k) {x y : Array Value} (hv : VA B φ x y) : VA B φ' x y :=
  ⟨hv.1, fun i a b ha hb => (hv.2 i a b ha hb).mono h⟩

theorem array_ext_some {α : Type} {xs ys : Array α} (hs : xs.size = ys.size) (h : ∀ (i : Nat) (x y : α), xs[i]? = some x → ys[i]? = some y → x = y) : xs = ys := by
  apply Array.ext hs
  intro i h1 h2
  exact h i _ _ (Array.getElem?_eq_getElem h1) (Array.getElem?_eq_getElem h2)

theorem flatL_iff (l : List Value) : flatL l = true ↔ ∀ (i : Nat) (x : Value), l[i]? = some x → flat x = true := by
  induction l with
  | nil => simp [flatL]
  | cons v l ih =>
    simp only [flatL, Bool.and_eq_true, ih]
    constructor
    · rintro ⟨h1, h2⟩ i x hx
      cases i with
      | zero => simp at hx; exact hx ▸ h1
      | succ i => simp at hx; exact h2 i x hx
    · intro h
      exact ⟨h 0 v (by simp), fun i x hx => h (i + 1) x (by simpa using hx)⟩

theorem flatA_iff (l : Array Value) : flatA l = true ↔ ∀ (i : Nat) (x : Value), l[i]? = some x → flat x = true := by
  obtain ⟨l⟩ := l
  simp only [flatA, flatL_iff, List.getElem?_toArray]

/-- Without an address the two are one. -/
theorem V.eq_of_flat {B : Nat} {φ : Phi} {x y : Value} (h : V B φ x y) : flat x = true → x = y := by
  induction h with
  | iface t _ ih => intro hf; rw [ih (by simpa [flat] using hf)]
  | func fn hs _ hs' _ ih ih' =>
    intro hf
    simp only [flat, Bool.and_eq_true] at hf
    rw [array_ext_some hs fun i x y hx hy => ih i x y hx hy ((flatA_iff _).1 hf.1 i x hx), array_ext_some hs' fun i x y hx hy => ih' i x y hx hy ((flatA_iff _).1 hf.2 i x hx)]
  | agg hs _ ih =>
    intro hf
    simp only [flat] at hf
    rw [array_ext_some hs fun i x y hx hy => ih i x y hx hy ((flatA_iff _).1 hf i x hx)]
  | tuple hs _ ih =>
    intro hf
    simp only [flat] at hf
    rw [array_ext_some hs fun i x y hx hy => ih i x y hx hy ((flatA_iff _).1 hf i x hx)]
  | _ => simp [flat]

mutual
theorem V.refl_of_flat (B : Nat) (φ : Phi) : ∀ (x : Value), flat x = true → V B φ x x
  | .bool b, _ => .bool b
  | .int k n, _ => .int k n
  | .float k b, _ => .float k b
  | .complex k a b, _ => .complex k a b
  | .string s, _ => .string s
  | .nilFunc, _ => .nilFunc
  | .nilIface, _ => .nilIface
  | .pointer none, _ => .pnil
  | .slice none l c, _ => .snil l c
  | .map none, _ => .mnil
  | .chan none, _ => .cnil
  | .pointer (some _), h | .slice (some _) _ _, h | .map (some _), h | .chan (some _), h => by simp [flat] at h
  | .iface t v, h => .iface t (V.refl_of_flat B φ v (by simpa [flat] using h))
  | .func fn first captured, h => by
      simp only [flat, Bool.and_eq_true] at h
      have h1 := VA.refl_of_flat B φ first h.1
      have h2 := VA.refl_of_flat B φ captured h.2
      exact .func fn h1.1 h1.2 h2.1 h2.2
  | .agg cs, h => by
      have h1 := VA.refl_of_flat B φ cs (by simpa [flat] using h)
      exact .agg h1.1 h1.2
  | .tuple cs, h => by
      have h1 := VA.refl_of_flat B φ cs (by simpa [flat] using h)
      exact .tuple h1.1 h1.2
theorem VA.refl_of_flat (B : Nat) (φ : Phi) : ∀ (x : Array Value), flatA x = true → VA B φ x x
  | ⟨l⟩, h => ⟨rfl, fun i a b ha hb => by
      rw [ha] at hb
      obtain rfl : a = b := by simpa using hb
      exact VL.refl_of_flat B φ l (by simpa [flatA] using h) i a (by simpa using ha)⟩
theorem VL.refl_of_flat (B : Nat) (φ : Phi) : ∀ (l : List Value), flatL l = true → ∀ (i : Nat) (x : Value), l[i]? = some x → V B φ x x
  | [], _, i, x, hx => by simp at hx
  | v :: l, h, 0, x, hx => by
      simp only [flatL, Bool.and_eq_true] at h
      obtain rfl : v = x := by simpa using hx
      exact V.refl_of_flat B φ v h.1
  | v :: l, h, i + 1, x, hx => by
      simp only [flatL, Bool.and_eq_true] at h
      exact VL.refl_of_flat B φ l h.2 i x (by simpa using hx)
end

end Go.Ai

/-
  THE SHORT RUN, 2: what its memory has to do with the machine's, and what reading, writing, making and growing a row do to that.
-/
set_option linter.unusedSimpArgs false
set_option linter.unusedVariables false
namespace Go.Ai
open Go

/-- A row's first n cells as the block k holds them. -/
def RowOk (B : Nat) (φ : Phi) (w : World) (k : Blk) (cells : List Value) (esz n : Nat) : Prop :=
  0 < esz ∧ k.esz = esz ∧ ∃ (c : Array Value) (t : TypeId) (fr : Nat × Nat), w.heap[k.b]? = some (.cells c t fr) ∧ c.size = k.cap * esz ∧ n ≤ k.base + c.size ∧
    (∀ o, o < c.size → ¬ (fr.1 ≤ o ∧ o < fr.2)) ∧ ∀ (o : Nat) (x : Value), k.base ≤ o → o < n → cells[o]? = some x → ∃ v : Value, c[o - k.base]? = some v ∧ V B φ x v

def MapOk (B : Nat) (φ : Phi) (w : World) (k : Blk) (es : List (Value × Value)) : Prop :=
  ∃ ces clock, w.heap[k.b]? = some (.map ces clock) ∧ ces.size = es.length ∧
    ∀ (i : Nat) (x : Value × Value), es[i]? = some x → ∃ e : MapEntry, ces[i]? = some e ∧ e.key = x.1 ∧ flat x.1 = true ∧ V B φ x.2 e.val

structure R (B : Nat) (w₀ : World) (φ : Phi) (g : Nat → Option AObj) (w : World) : Prop where
  dom : ∀ f e k, φ f e = some k → (g f).isSome = true
  lo : ∀ f e k, φ f e = some k → B ≤ k.b ∧ k.b < w.heap.size
  inj : ∀ f e k f' e' k', φ f e = some k → φ f' e' = some k' → k.b = k'.b → f = f' ∧ k.base = k'.base
  row : ∀ f e k cells esz ep lw hist, g f = some (.row cells esz ep lw hist) → φ f e = some k → e ≤ ep ∧ ext cells ep hist e ≤ cells.length ∧ (lw ≤ e → RowOk B φ w k cells esz (ext cells ep hist e))
  map : ∀ f e k es, g f = some (.map es) → φ f e = some k → MapOk B φ w k es
  iter : ∀ f e k s p, g f = some (.iter s p) → φ f e = some k → w.heap[k.b]? = some (.stringIter s p)
  old : ∀ b, b < B → w.heap[b]? = w₀.heap[b]?
  size : B ≤ w.heap.size
  one : ∀ f e k, φ f e = some k → (∀ cells esz ep lw hist, g f ≠ some (.row cells esz ep lw hist)) → e = 0

/-- What a step leaves as it was. -/
structure Step (n : Nat) (φ : Phi) (w : World) (φ' : Phi) (w' : World) : Prop where
  ext : ∀ f e k, φ f e = some k → φ' f e = some k
  new : ∀ f e k, φ' f e = some k → φ f e = some k ∨ w.heap.size ≤ k.b ∨ ∃ e₀ k₀, φ f e₀ = some k₀ ∧ k₀.b = k.b
  frame : ∀ b, b < w.heap.size → (∀ f e k, φ f e = some k → k.b ≠ b) → w'.heap[b]? = w.heap[b]?
  size : w.heap.size ≤ w'.heap.size
  os : w'.os = w.os
  tape : w'.tape = w.tape
  output : w'.output = w.output
  fam : ∀ f e k, φ' f e = some k → (∃ e₀ k₀, φ f e₀ = some k₀) ∨ n ≤ f

theorem Step.refl {n : Nat} (φ : Phi) (w : World) : Step n φ w φ w :=
  ⟨fun _ _ _ h => h, fun _ _ _ h => .inl h, fun _ _ _ => rfl, Nat.le_refl _, rfl, rfl, rfl, fun _ _ _ h => .inl ⟨_, _, h⟩⟩

theorem Step.trans {n n' : Nat} {φ φ' φ'' : Phi} {w w' w'' : World} (h : Step n φ w φ' w') (k : Step n' φ' w' φ'' w'') (hn : n ≤ n' := by omega) : Step n φ w φ'' w'' where
  ext f e x hx := k.ext _ _ _ (h.ext _ _ _ hx)
  new f e x hx := by
    rcases k.new _ _ _ hx with h1 | h1 | ⟨e₀, k₀, h1, h2⟩
    · exact h.new _ _ _ h1
    · exact .inr (.inl (Nat.le_trans h.size h1))
    · rcases h.new _ _ _ h1 with h3 | h3 | ⟨e₁, k₁, h3, h4⟩
      · exact .inr (.inr ⟨_, _, h3, h2⟩)
      · exact .inr (.inl (h2 ▸ h3))
      · exact .inr (.inr ⟨_, _, h3, h4.trans h2⟩)
  frame b hb hn := by
    rw [k.frame b (Nat.lt_of_lt_of_le hb h.size), h.frame b hb hn]
    intro f e x hx hxb
    rcases h.new _ _ _ hx with h3 | h3 | ⟨e₁, k₁, h3, h4⟩
    · exact hn _ _ _ h3 hxb
    · omega
    · exact hn _ _ _ h3 (h4.trans hxb)
  size := Nat.le_trans h.size k.size
  os := k.os.trans h.os
  tape := k.tape.trans h.tape
  output := k.output.trans h.output
  fam f e x hx := by
    rcases k.fam _ _ _ hx with ⟨e₀, k₀, h1⟩ | h1
    · exact h.fam _ _ _ h1
    · exact .inr (Nat.le_trans hn h1)

/-- A draw alone. -/
theorem Step.drewN {m : Nat} (φ : Phi) (w : World) (n : Nat) : Step m φ w φ { w with drawn := n } :=
  ⟨fun _ _ _ h => h, fun _ _ _ h => .inl h, fun _ _ _ => rfl, Nat.le_refl _, rfl, rfl, rfl, fun _ _ _ h => .inl ⟨_, _, h⟩⟩

theorem RowOk.congr {B : Nat} {φ φ' : Phi} {w w' : World} {k : Blk} {cells : List Value} {esz n : Nat} (h : RowOk B φ w k cells esz n)
    (hφ : ∀ f e k, φ f e = some k → φ' f e = some k) (hw : w'.heap[k.b]? = w.heap[k.b]?) : RowOk B φ' w' k cells esz n := by
  obtain ⟨h1, h2, c, t, fr, h3, h4, h5, h6, h7⟩ := h
  exact ⟨h1, h2, c, t, fr, hw ▸ h3, h4, h5, h6, fun o x ho ho' hx => let ⟨v, hv, hv'⟩ := h7 o x ho ho' hx; ⟨v, hv, hv'.mono hφ⟩⟩

theorem MapOk.congr {B : Nat} {φ φ' : Phi} {w w' : World} {k : Blk} {es : List (Value × Value)} (h : MapOk B φ w k es)
    (hφ : ∀ f e k, φ f e = some k → φ' f e = some k) (hw : w'.heap[k.b]? = w.heap[k.b]?) : MapOk B φ' w' k es := by
  obtain ⟨ces, clock, h1, h2, h3⟩ := h
  exact ⟨ces, clock, hw ▸ h1, h2, fun i x hx => let ⟨e, a, b, c, d⟩ := h3 i x hx; ⟨e, a, b, c, d.mono hφ⟩⟩

/-- A draw turns nothing. -/
theorem R.drew {B : Nat} {w₀ : World} {φ : Phi} {g : Nat → Option AObj} {w : World} (h : R B w₀ φ g w) (n : Nat) : R B w₀ φ g { w with drawn := n } :=
  ⟨h.dom, h.lo, h.inj, h.row, h.map, h.iter, h.old, h.size, h.one⟩

/-- Fewer numbers. -/
theorem R.sub {B : Nat} {w₀ : World} {φ φ' : Phi} {g g' : Nat → Option AObj} {w : World} (h : R B w₀ φ g w)
    (hφ : ∀ f e k, φ' f e = some k → φ f e = some k ∧ (g' f = g f))
    (hV : ∀ f e k cells esz ep lw hist, φ' f e = some k → g f = some (.row cells esz ep lw hist) → ∀ x ∈ cells, ∀ v, V B φ x v → V B φ' x v)
    (hM : ∀ f e k es, φ' f e = some k → g f = some (.map es) → ∀ x ∈ es, ∀ v, V B φ x.2 v → V B φ' x.2 v) : R B w₀ φ' g' w where
  dom f e k hk := by obtain ⟨h1, h2⟩ := hφ _ _ _ hk; rw [h2]; exact h.dom _ _ _ h1
  lo f e k hk := h.lo _ _ _ (hφ _ _ _ hk).1
  inj f e k f' e' k' hk hk' := h.inj _ _ _ _ _ _ (hφ _ _ _ hk).1 (hφ _ _ _ hk').1
  row f e k cells esz ep lw hist hg hk := by
    obtain ⟨h1, h2⟩ := hφ _ _ _ hk
    rw [h2] at hg
    obtain ⟨h3, h3', h4⟩ := h.row _ _ _ _ _ _ _ _ hg h1
    refine ⟨h3, h3', fun hl => ?_⟩
    obtain ⟨a1, a2, c, t, fr, a3, a4, a5, a6, a7⟩ := h4 hl
    exact ⟨a1, a2, c, t, fr, a3, a4, a5, a6, fun o x ho ho' hx => let ⟨v, hv, hv'⟩ := a7 o x ho ho' hx; ⟨v, hv, hV _ _ _ _ _ _ _ _ hk hg x (List.mem_of_getElem? hx) v hv'⟩⟩
  map f e k es hg hk := by
    obtain ⟨h1, h2⟩ := hφ _ _ _ hk
    rw [h2] at hg
    obtain ⟨ces, clock, a1, a2, a3⟩ := h.map _ _ _ _ hg h1
    exact ⟨ces, clock, a1, a2, fun i x hx => let ⟨e, b1, b2, b3, b4⟩ := a3 i x hx; ⟨e, b1, b2, b3, hM _ _ _ _ hk hg x (List.mem_of_getElem? hx) _ b4⟩⟩
  iter f e k s p hg hk := by
    obtain ⟨h1, h2⟩ := hφ _ _ _ hk
    rw [h2] at hg
    exact h.iter _ _ _ _ _ hg h1
  old := h.old
  size := h.size
  one f e k hk hg := by
    obtain ⟨h1, h2⟩ := hφ _ _ _ hk
    rw [h2] at hg
    exact h.one _ _ _ h1 hg

/-! Reading. -/
def aadd (a : Addr) (n : Nat) : Addr := { a with off := a.off + n }

/-- n cells from an address on. -/
def readOld (old : Addr → Option Value) (a : Addr) : Nat → Option (List Value)
  | 0 => some []
  | n + 1 => match old a with
    | some v => (readOld old (aadd a 1) n).map (v :: ·)
    | none => none

def readN (old : Addr → Option Value) (s : St) (a : Addr) (n : Nat) : Option (List Value) :=
  match a.spot with
  | none => readOld old a n
  | some e => match s.get a.block with
    | some (.row cells _ ep lw hist) => if lw ≤ e ∧ a.off + n ≤ Go.Ai.ext cells ep hist e ∧ a.off + n ≤ cells.length then some ((cells.drop a.off).take n) else none
    | _ => none

/-- What old memory is known to hold. -/
def OldOk (B : Nat) (w₀ : World) (old : Addr → Option Value) : Prop :=
  ∀ a v, old a = some v → a.block < B ∧ w₀.cell? a = some v ∧ ∀ φ, V B φ v v

theorem readOld_spec {B : Nat} {w₀ : World} {old : Addr → Option Value} (ho : OldOk B w₀ old) : ∀ (n : Nat) (a : Addr) (l : List Value), readOld old a n = some l →
    l.length = n ∧ ∀ (i : Nat) (x : Value), l[i]? = some x → old (aadd a i) = some x := by
  intro n
  induction n with
  | zero => intro a l h; simp [readOld] at h; subst h; simp
  | succ n ih =>
    intro a l h
    simp only [readOld] at h
    split at h
    · rename_i v hv
      cases hr : readOld old (aadd a 1) n with
      | none => simp [hr] at h
      | some l' =>
        simp only [hr, Option.map_some, Option.some.injEq] at h
        subst h
        obtain ⟨h1, h2⟩ := ih _ _ hr
        refine ⟨by simp [h1], fun i x hx => ?_⟩
        cases i with
        | zero => simp at hx; subst hx; simpa [aadd] using hv
        | succ i =>
          have := h2 i x (by simpa using hx)
          simpa [aadd, Nat.add_assoc, Nat.add_comm 1 i] using this
    · simp at h

theorem cell_of_block {w w' : World} {a : Addr} (h : w'.heap[a.block]? = w.heap[a.block]?) : w'.cell? a = w.cell? a := by
  simp [World.cell?, h]

theorem add_none (b o n : Nat) : (⟨b, o, none⟩ : Addr).add n = ⟨b, o + n, none⟩ := by unfold Addr.add; split <;> simp_all

/-- What is read is what the machine reads. -/
theorem R.read {B : Nat} {w₀ : World} {φ : Phi} {s : St} {w : World} {old : Addr → Option Value} (h : R B w₀ φ s.get w) (ho : OldOk B w₀ old)
    {a c : Addr} (hv : V B φ (.pointer (some a)) (.pointer (some c))) {n : Nat} {l : List Value} (hr : readN old s a n = some l) :
    l.length = n ∧ ∃ l' : List Value, l'.length = n ∧ (∀ (i : Nat) (x y : Value), l[i]? = some x → l'[i]? = some y → V B φ x y) ∧ ∀ (i : Nat) (y : Value), l'[i]? = some y → w.cell? (c.add i) = some y := by
  unfold readN at hr
  cases hv with
  | pold _ hb hs =>
    rw [hs] at hr
    simp only at hr
    obtain ⟨h1, h2⟩ := readOld_spec ho _ _ _ hr
    refine ⟨h1, l, h1, fun i x y hx hy => ?_, fun i y hy => ?_⟩
    · rw [hx] at hy
      obtain rfl : x = y := by simpa using hy
      exact (ho _ _ (h2 i x hx)).2.2 φ
    · have h3 := ho _ _ (h2 i y hy)
      obtain ⟨ab, ao, as⟩ := a
      simp only at hs hb
      subst hs
      rw [add_none]
      simp only [aadd] at h3
      rw [cell_of_block (w := w₀) (h.old _ hb)]
      exact h3.2.1
  | pnew f off e k hk hb =>
    simp only at hr
    split at hr
    · rename_i cells esz ep lw hist hg
      split at hr
      · rename_i hc
        obtain ⟨hc1, hc2, hc3⟩ := hc
        simp only [Option.some.injEq] at hr
        obtain ⟨h1, _, h2⟩ := h.row _ _ _ _ _ _ _ _ hg hk
        obtain ⟨a1, a2, cs, t, fr, a3, a4, a5, a6, a7⟩ := h2 hc1
        have hl : l.length = n := by rw [← hr]; simp; omega
        have hget : ∀ i, i < n → ∃ v x, cells[off + i]? = some x ∧ cs[off - k.base + i]? = some v ∧ V B φ x v := by
          intro i hi
          have hlt : off + i < cells.length := by omega
          obtain ⟨v, hv1, hv2⟩ := a7 (off + i) cells[off + i] (by omega) (by omega) (List.getElem?_eq_getElem hlt)
          refine ⟨v, cells[off + i], List.getElem?_eq_getElem hlt, ?_, hv2⟩
          rw [show off - k.base + i = off + i - k.base by omega]
          exact hv1
        refine ⟨hl, (List.range n).map fun i => (cs[off - k.base + i]?).getD undef, by simp, fun i x y hx hy => ?_, fun i y hy => ?_⟩
        · have hi : i < n := by
            have := (List.getElem?_eq_some_iff.1 hx).1
            omega
          obtain ⟨v, x', g1, g2, g3⟩ := hget i hi
          rw [← hr, List.getElem?_take, if_pos hi, List.getElem?_drop, g1] at hx
          simp only [List.getElem?_map, List.getElem?_range hi, Option.map_some, g2, Option.getD_some] at hy
          cases hx; cases hy
          exact g3
        · have hi : i < n := by
            have := (List.getElem?_eq_some_iff.1 hy).1
            simpa using this
          obtain ⟨v, x', g1, g2, g3⟩ := hget i hi
          simp only [List.getElem?_map, List.getElem?_range hi, Option.map_some, g2, Option.getD_some] at hy
          cases hy
          rw [add_none]
          simp [World.cell?, a3, g2]
      · simp at hr
    · simp at hr

/-! A new block. -/
theorem heap_push_old (w : World) (o : Obj) (b : Nat) (hb : b < w.heap.size) : (w.heap.push o)[b]? = w.heap[b]? := by
  rw [Array.getElem?_push, if_neg (by omega)]

def withNew (φ : Phi) (f e : Nat) (k : Blk) : Phi := fun f' e' => if f' = f ∧ e' = e then some k else φ f' e'

theorem withNew_ext {φ : Phi} {f e : Nat} {k : Blk} (h : φ f e = none) : ∀ f' e' k', φ f' e' = some k' → withNew φ f e k f' e' = some k' := by
  intro f' e' k' hk
  unfold withNew
  split
  · rename_i hh; obtain ⟨rfl, rfl⟩ := hh; simp [h] at hk
  · exact hk

/-- The general step of making: a new object under a new number, in a new block. -/
theorem R.push {B : Nat} {w₀ : World} {φ : Phi} {g : Nat → Option AObj} {w w' : World} (h : R B w₀ φ g w) {f : Nat} (hφ : ∀ e, φ f e = none) (o : AObj) (k : Blk)
    (hk : k.b = w.heap.size) (hh : ∃ x, w'.heap = w.heap.push x) (ho : w'.os = w.os) (ht : w'.tape = w.tape) (hp : w'.output = w.output)
    (hrow : ∀ cells esz ep lw hist, o = .row cells esz ep lw hist → ep = 0 ∧ RowOk B (withNew φ f 0 k) w' k cells esz cells.length)
    (hmap : ∀ es, o = .map es → MapOk B (withNew φ f 0 k) w' k es) (hiter : ∀ s p, o = .iter s p → w'.heap[k.b]? = some (.stringIter s p)) :
    Step f φ w (withNew φ f 0 k) w' ∧ R B w₀ (withNew φ f 0 k) (fun m => if m = f then some o else g m) w' := by
  obtain ⟨x, hx⟩ := hh
  have hext := withNew_ext (k := k) (hφ 0)
  have hsz : w'.heap.size = w.heap.size + 1 := by rw [hx]; simp
  have hold : ∀ b, b < w.heap.size → w'.heap[b]? = w.heap[b]? := fun b hb => by rw [hx, heap_push_old w x b hb]
  have hne : ∀ f' e' k', φ f' e' = some k' → f' ≠ f := fun f' e' k' hk' he => by rw [he, hφ] at hk'; simp at hk'
  have hcase : ∀ f' e' k', withNew φ f 0 k f' e' = some k' → (f' = f ∧ e' = 0 ∧ k' = k) ∨ (φ f' e' = some k' ∧ f' ≠ f) := by
    intro f' e' k' hk'
    unfold withNew at hk'
    split at hk'
    · rename_i hh; left; exact ⟨hh.1, hh.2, by simpa using hk'.symm⟩
    · right; exact ⟨hk', hne _ _ _ hk'⟩
  constructor
  · refine ⟨hext, fun f' e' k' hk' => ?_, fun b hb _ => hold b hb, by omega, ho, ht, hp, fun f' e' k' hk' => (hcase _ _ _ hk').elim (fun h => .inr (Nat.le_of_eq h.1.symm)) fun h => .inl ⟨_, _, h.1⟩⟩
    rcases hcase _ _ _ hk' with ⟨_, _, rfl⟩ | ⟨h1, _⟩
    · exact .inr (.inl (by omega))
    · exact .inl h1
  · refine ⟨fun f' e' k' hk' => ?_, fun f' e' k' hk' => ?_, fun f₁ e₁ k₁ f₂ e₂ k₂ h1 h2 he => ?_, fun f' e' k' cells esz ep lw hist hg hk' => ?_, fun f' e' k' es hg hk' => ?_,
      fun f' e' k' s p hg hk' => ?_, fun b hb => (hold b (Nat.lt_of_lt_of_le hb h.size)).trans (h.old b hb), by have := h.size; omega,
      fun f' e' k' hk' hg => by
        rcases hcase _ _ _ hk' with ⟨_, h0, _⟩ | ⟨h1, h2⟩
        · exact h0
        · exact h.one _ _ _ h1 (by simpa [h2] using hg)⟩
    · rcases hcase _ _ _ hk' with ⟨rfl, _, rfl⟩ | ⟨h1, h2⟩
      · simp
      · simp [h2, h.dom _ _ _ h1]
    · rcases hcase _ _ _ hk' with ⟨rfl, _, rfl⟩ | ⟨h1, h2⟩
      · have := h.size; omega
      · have := h.lo _ _ _ h1; omega
    · rcases hcase _ _ _ h1 with ⟨a1, _, a2⟩ | ⟨a1, a2⟩ <;> rcases hcase _ _ _ h2 with ⟨b1, _, b2⟩ | ⟨b1, b2⟩
      · exact ⟨a1.trans b1.symm, by rw [a2, b2]⟩
      · have := (h.lo _ _ _ b1).2; rw [a2] at he; omega
      · have := (h.lo _ _ _ a1).2; rw [b2] at he; omega
      · exact h.inj _ _ _ _ _ _ a1 b1 he
    · rcases hcase _ _ _ hk' with ⟨rfl, rfl, rfl⟩ | ⟨h1, h2⟩
      · simp only [if_true, Option.some.injEq] at hg
        obtain ⟨rfl, h4⟩ := hrow _ _ _ _ _ hg
        exact ⟨Nat.le_refl _, by simp [Go.Ai.ext], fun _ => by simpa [Go.Ai.ext] using h4⟩
      · simp only [if_neg h2] at hg
        obtain ⟨h3, h3', h4⟩ := h.row _ _ _ _ _ _ _ _ hg h1
        exact ⟨h3, h3', fun hl => (h4 hl).congr hext (hold _ (h.lo _ _ _ h1).2)⟩
    · rcases hcase _ _ _ hk' with ⟨rfl, rfl, rfl⟩ | ⟨h1, h2⟩
      · simp only [if_true, Option.some.injEq] at hg
        exact hmap _ hg
      · simp only [if_neg h2] at hg
        exact (h.map _ _ _ _ hg h1).congr hext (hold _ (h.lo _ _ _ h1).2)
    · rcases hcase _ _ _ hk' with ⟨rfl, rfl, rfl⟩ | ⟨h1, h2⟩
      · simp only [if_true, Option.some.injEq] at hg
        exact hiter _ _ hg
      · simp only [if_neg h2] at hg
        rw [hold _ (h.lo _ _ _ h1).2]
        exact h.iter _ _ _ _ _ hg h1

end Go.Ai

/-
  THE SHORT RUN, 3: one number's object turns into another one: a write, a growth in place, a growth into a new block, a map's or a walk's next state.
-/
set_option linter.unusedSimpArgs false
set_option linter.unusedVariables false
namespace Go.Ai
open Go

theorem R.change {B : Nat} {w₀ : World} {φ φ' : Phi} {g : Nat → Option AObj} {w w' : World} (h : R B w₀ φ g w) (f : Nat) (o' : AObj)
    (hφ : ∀ f' e k, φ f' e = some k → φ' f' e = some k)
    (hne : ∀ f' e' k', f' ≠ f → φ' f' e' = some k' → φ f' e' = some k')
    (hnew : ∀ e' k', φ' f e' = some k' → (∃ e₀ k₀, φ f e₀ = some k₀ ∧ k₀.b = k'.b) ∨ (w.heap.size ≤ k'.b ∧ k'.b < w'.heap.size))
    (hbase : ∀ e₁ k₁ e₂ k₂, φ' f e₁ = some k₁ → φ' f e₂ = some k₂ → k₁.b = k₂.b → k₁.base = k₂.base)
    (hheap : ∀ b, b < w.heap.size → (∀ e₀ k₀, φ f e₀ = some k₀ → k₀.b ≠ b) → w'.heap[b]? = w.heap[b]?)
    (hsize : w.heap.size ≤ w'.heap.size) (hos : w'.os = w.os) (ht : w'.tape = w.tape) (hp : w'.output = w.output)
    (hrow : ∀ e k cells esz ep lw hist, o' = .row cells esz ep lw hist → φ' f e = some k → e ≤ ep ∧ ext cells ep hist e ≤ cells.length ∧ (lw ≤ e → RowOk B φ' w' k cells esz (ext cells ep hist e)))
    (hmap : ∀ e k es, o' = .map es → φ' f e = some k → MapOk B φ' w' k es)
    (hiter : ∀ e k s p, o' = .iter s p → φ' f e = some k → w'.heap[k.b]? = some (.stringIter s p))
    (hone : (∀ cells esz ep lw hist, o' ≠ .row cells esz ep lw hist) → ∀ e k, φ' f e = some k → e = 0) (hfam : ∀ e k, φ' f e = some k → ∃ e₀ k₀, φ f e₀ = some k₀) :
    (∀ n, Step n φ w φ' w') ∧ R B w₀ φ' (fun m => if m = f then some o' else g m) w' := by
  have hother : ∀ f' e' k', f' ≠ f → φ f' e' = some k' → w'.heap[k'.b]? = w.heap[k'.b]? := by
    intro f' e' k' hf hk
    exact hheap _ (h.lo _ _ _ hk).2 (fun e₀ k₀ h₀ he => hf (h.inj _ _ _ _ _ _ hk h₀ he.symm).1)
  have hold : ∀ b, b < B → w'.heap[b]? = w.heap[b]? := fun b hb =>
    hheap b (Nat.lt_of_lt_of_le hb h.size) (fun e₀ k₀ h₀ he => by have := (h.lo _ _ _ h₀).1; omega)
  constructor
  · intro n
    refine ⟨hφ, fun f' e' k' hk' => ?_, fun b hb hn => hheap b hb (fun e₀ k₀ h₀ => hn _ _ _ h₀), hsize, hos, ht, hp, fun f' e' k' hk' => ?_⟩
    rotate_left
    · left
      by_cases hf : f' = f
      · subst hf; exact hfam _ _ hk'
      · exact ⟨_, _, hne _ _ _ hf hk'⟩
    by_cases hf : f' = f
    · subst hf
      rcases hnew _ _ hk' with ⟨e₀, k₀, h1, h2⟩ | h1
      · exact .inr (.inr ⟨e₀, k₀, h1, h2⟩)
      · exact .inr (.inl h1.1)
    · exact .inl (hne _ _ _ hf hk')
  · refine ⟨fun f' e' k' hk' => ?_, fun f' e' k' hk' => ?_, fun f₁ e₁ k₁ f₂ e₂ k₂ h1 h2 he => ?_, fun f' e' k' cells esz ep lw hist hg hk' => ?_, fun f' e' k' es hg hk' => ?_,
      fun f' e' k' s p hg hk' => ?_, fun b hb => (hold b hb).trans (h.old b hb), Nat.le_trans h.size hsize,
      fun f' e' k' hk' hg => by
        by_cases hf : f' = f
        · subst hf; exact hone (by simpa using hg) _ _ hk'
        · exact h.one _ _ _ (hne _ _ _ hf hk') (by simpa [hf] using hg)⟩
    · by_cases hf : f' = f
      · simp [hf]
      · simp [hf, h.dom _ _ _ (hne _ _ _ hf hk')]
    · by_cases hf : f' = f
      · subst hf
        rcases hnew _ _ hk' with ⟨e₀, k₀, h1, h2⟩ | h1
        · have := h.lo _ _ _ h1; omega
        · have := h.size; omega
      · have := h.lo _ _ _ (hne _ _ _ hf hk'); omega
    · by_cases hf1 : f₁ = f <;> by_cases hf2 : f₂ = f
      · subst hf1; subst hf2; exact ⟨rfl, hbase _ _ _ _ h1 h2 he⟩
      · subst hf1
        have h3 := hne _ _ _ hf2 h2
        rcases hnew _ _ h1 with ⟨e₀, k₀, h4, h5⟩ | h4
        · exact absurd (h.inj _ _ _ _ _ _ h4 h3 (h5.trans he)).1.symm hf2
        · have := (h.lo _ _ _ h3).2; omega
      · subst hf2
        have h3 := hne _ _ _ hf1 h1
        rcases hnew _ _ h2 with ⟨e₀, k₀, h4, h5⟩ | h4
        · exact absurd (h.inj _ _ _ _ _ _ h3 h4 (he.trans h5.symm)).1 hf1
        · have := (h.lo _ _ _ h3).2; omega
      · exact h.inj _ _ _ _ _ _ (hne _ _ _ hf1 h1) (hne _ _ _ hf2 h2) he
    · by_cases hf : f' = f
      · subst hf
        simp only [if_true, Option.some.injEq] at hg
        exact hrow _ _ _ _ _ _ _ hg hk'
      · simp only [if_neg hf] at hg
        have h1 := hne _ _ _ hf hk'
        obtain ⟨h3, h3', h4⟩ := h.row _ _ _ _ _ _ _ _ hg h1
        exact ⟨h3, h3', fun hl => (h4 hl).congr hφ (hother _ _ _ hf h1)⟩
    · by_cases hf : f' = f
      · subst hf
        simp only [if_true, Option.some.injEq] at hg
        exact hmap _ _ _ hg hk'
      · simp only [if_neg hf] at hg
        have h1 := hne _ _ _ hf hk'
        exact (h.map _ _ _ _ hg h1).congr hφ (hother _ _ _ hf h1)
    · by_cases hf : f' = f
      · subst hf
        simp only [if_true, Option.some.injEq] at hg
        exact hiter _ _ _ _ hg hk'
      · simp only [if_neg hf] at hg
        have h1 := hne _ _ _ hf hk'
        rw [hother _ _ _ hf h1]
        exact h.iter _ _ _ _ _ hg h1

def splice (cells : List Value) (o : Nat) (vs : List Value) : List Value := cells.take o ++ (vs ++ cells.drop (o + vs.length))

theorem splice_length (cells : List Value) (o : Nat) (vs : List Value) (h : o + vs.length ≤ cells.length) : (splice cells o vs).length = cells.length := by
  simp [splice]; omega

theorem splice_get (cells : List Value) (o : Nat) (vs : List Value) (h : o + vs.length ≤ cells.length) (i : Nat) :
    (splice cells o vs)[i]? = if o ≤ i ∧ i < o + vs.length then vs[i - o]? else cells[i]? := by
  unfold splice
  rw [List.getElem?_append]
  simp only [List.length_take]
  by_cases h1 : i < o
  · rw [if_pos (by omega), if_neg (by omega), List.getElem?_take, if_pos h1]
  · rw [if_neg (by omega), List.getElem?_append]
    by_cases h2 : i < o + vs.length
    · rw [if_pos (by omega), if_pos (by omega)]; congr 1; omega
    · rw [if_neg (by omega), if_neg (by omega), List.getElem?_drop]; congr 1; omega

/-- Cells of one kind only: what a cell can hold. -/
def isCell : Value → Bool
  | .agg _ | .tuple _ => false
  | _ => true

theorem V.isCell {B : Nat} {φ : Phi} {x y : Value} (h : V B φ x y) : isCell y = isCell x := by cases h <;> rfl

theorem setRow_frozen (w : World) (g : Nat) (cs : Array Value) (b : Nat) (h : b ≠ g) : (w.setRow g cs).heap[b]? = w.heap[b]? := setRow_other w g b cs h

/-- Cells stored one behind the other, where nothing is frozen. -/
theorem run_store_row (P : Program) (g o : Nat) (t : TypeId) (fz : Nat × Nat) : ∀ (vs : List Value) (i : Nat) (cur : Array Value) (w : World), w.heap[g]? = some (.cells cur t fz) →
    (∀ j, j < cur.size → ¬ (fz.1 ≤ j ∧ j < fz.2)) → o + i + vs.length ≤ cur.size → (∀ v ∈ vs, isCell v = true) →
    (storeCells ⟨g, o, none⟩ vs i).run P w = .ok () (w.setRow g (splice cur.toList (o + i) vs).toArray)
  | [], i, cur, w, hg, _, _, _ => by
    simp only [storeCells, splice, List.nil_append, List.length_nil, Nat.add_zero, List.take_append_drop, Array.toArray_toList]
    rw [setRow_self w g cur t fz hg]
    rfl
  | v :: rest, i, cur, w, hg, hfz, hl, h1 => by
    have hi : o + i < cur.size := by simp at hl; omega
    have hcell : w.cell? ⟨g, o + i, none⟩ = some cur[o + i] := by simp [World.cell?, hg, hi]
    have hfro : w.frozen? ⟨g, o + i, none⟩ = false := by
      have := hfz (o + i) hi
      simp only [World.frozen?, hg, Bool.and_eq_false_iff, decide_eq_false_iff_not]
      omega
    have hv : v.oneCell' = true := by have := h1 v (by simp); cases v <;> simp_all [Ai.isCell, Value.oneCell']
    have hst : (store ((⟨g, o, none⟩ : Addr).add i) v).run P w = .ok () (w.setRow g (cur.setIfInBounds (o + i) v)) := by
      rw [add_none, run_store P w _ v _ hv, hcell]
      simp [hfro, setCell_eq_setRow w g (o + i) cur t fz v hg]
    have ih := run_store_row P g o t fz rest (i + 1) (cur.setIfInBounds (o + i) v) (w.setRow g (cur.setIfInBounds (o + i) v)) (setRow_heap w g cur _ t _ hg)
      (by simpa using hfz) (by simp at hl ⊢; omega) (fun x hx => h1 x (by simp [hx]))
    simp only [storeCells, Sem.run_bind, hst, Result.andThen_ok, ih, setRow_setRow]
    congr 3
    apply List.ext_getElem?
    intro j
    rw [splice_get _ _ _ (by simp at hl ⊢; omega), splice_get _ _ _ (by simp at hl ⊢; omega)]
    simp only [Array.toList_setIfInBounds, List.getElem?_set, List.length_cons]
    by_cases h2 : j = o + i
    · subst h2
      rw [if_neg (by omega)]
      simp [hi]
    · by_cases h3 : o + (i + 1) ≤ j ∧ j < o + (i + 1) + rest.length
      · rw [if_pos h3, if_pos (by omega)]
        obtain ⟨d, hd⟩ : ∃ d, j - (o + i) = d + 1 := ⟨j - (o + i) - 1, by omega⟩
        rw [hd, List.getElem?_cons_succ]
        congr 1; omega
      · rw [if_neg h3, if_neg (by omega), if_neg (by omega)]

/-- Values one by one. -/
def VL (B : Nat) (φ : Phi) (l l' : List Value) : Prop := l.length = l'.length ∧ ∀ (i : Nat) (x y : Value), l[i]? = some x → l'[i]? = some y → V B φ x y

theorem VL.mono {B : Nat} {φ φ' : Phi} (h : ∀ f e k, φ f e = some k → φ' f e = some k) {x y : List Value} (hv : VL B φ x y) : VL B φ' x y :=
  ⟨hv.1, fun i a b ha hb => (hv.2 i a b ha hb).mono h⟩

theorem VL.cells {B : Nat} {φ : Phi} {l l' : List Value} (h : VL B φ l l') (hc : ∀ v ∈ l, isCell v = true) : ∀ v ∈ l', isCell v = true := by
  intro v hv
  obtain ⟨i, hi⟩ := List.mem_iff_getElem?.1 hv
  have hlt : i < l.length := by rw [h.1]; exact (List.getElem?_eq_some_iff.1 hi).1
  rw [(h.2 i _ _ (List.getElem?_eq_getElem hlt) hi).isCell]
  exact hc _ (List.getElem_mem hlt)

/-- A write into a row, in the time of its last growth. -/
theorem R.write {B : Nat} {w₀ : World} {φ : Phi} {s : St} {w : World} (P : Program) (h : R B w₀ φ s.get w) {f off : Nat} {cells : List Value} {esz ep lw : Nat} {hist : List Nat} {k : Blk}
    (hg : s.get f = some (.row cells esz ep lw hist)) (hlw : lw ≤ ep) (hk : φ f ep = some k) (hb : k.base ≤ off) {vs vs' : List Value} (hl : off + vs.length ≤ cells.length)
    (hv : VL B φ vs vs') (hc : ∀ v ∈ vs, isCell v = true) :
    ∃ w', (storeCells ⟨k.b, off - k.base, none⟩ vs').run P w = .ok () w' ∧ Step s.next φ w φ w' ∧ R B w₀ φ (s.put f (.row (splice cells off vs) esz ep ep hist)).get w' := by
  obtain ⟨h1, _, h2⟩ := h.row _ _ _ _ _ _ _ _ hg hk
  obtain ⟨a1, a2, cs, t, fr, a3, a4, a5, a6, a7⟩ := h2 hlw
  have hext : ext cells ep hist ep = cells.length := by simp [ext]
  rw [hext] at a5 a7
  have hl' : off - k.base + vs'.length ≤ cs.size := by have := hv.1; omega
  refine ⟨_, run_store_row P k.b (off - k.base) t fr vs' 0 cs w a3 a6 (by simpa using hl') (hv.cells hc), ?_⟩
  have hch := h.change f (.row (splice cells off vs) esz ep ep hist) (φ' := φ) (w' := w.setRow k.b (splice cs.toList (off - k.base + 0) vs').toArray) (fun _ _ _ h => h) (fun _ _ _ _ h => h)
    (fun e' k' hk' => .inl ⟨e', k', hk', rfl⟩) (fun e₁ k₁ e₂ k₂ h₁ h₂ he => (h.inj _ _ _ _ _ _ h₁ h₂ he).2) (fun b hb hn => setRow_other _ _ _ _ (fun he => hn _ _ hk he.symm)) (by simp) rfl rfl rfl ?_ (by simp) (by simp) (fun h => absurd rfl (h _ _ _ _ _)) (fun _ _ h => ⟨_, _, h⟩)
  · refine ⟨hch.1 _, ?_⟩
    have : (s.put f (.row (splice cells off vs) esz ep ep hist)).get = fun m => if m = f then some (.row (splice cells off vs) esz ep ep hist) else s.get m := by
      funext m; exact St.get_put _ _ _ _
    rw [this]; exact hch.2
  · intro e k' cells' esz' ep' lw' hist' ho hk'
    cases ho
    obtain ⟨b1, b0, b2⟩ := h.row _ _ _ _ _ _ _ _ hg hk'
    have hsl := splice_length cells _ _ hl
    refine ⟨b1, by unfold ext at b0 ⊢; rw [hsl]; exact b0, fun hle => ?_⟩
    obtain rfl : e = ep := by omega
    obtain rfl : k' = k := by rw [hk] at hk'; exact (Option.some.inj hk').symm
    refine ⟨a1, a2, _, t, fr, setRow_heap w k'.b cs _ t fr a3, ?_, ?_, ?_, ?_⟩
    · simp [splice_length cs.toList _ _ (by simpa using hl'), a4]
    · simp [ext, splice_length cells _ _ hl, splice_length cs.toList _ _ (by simpa using hl')]; omega
    · simpa [splice_length cs.toList _ _ (by simpa using hl')] using a6
    · intro o x ho ho' hx
      rw [splice_get _ _ _ hl] at hx
      simp only [List.getElem?_toArray, Nat.add_zero]
      rw [splice_get _ _ _ (by simpa using hl')]
      have hlen := hv.1
      by_cases hin : off ≤ o ∧ o < off + vs.length
      · rw [if_pos hin] at hx
        rw [if_pos (by omega)]
        have hlt : o - off < vs'.length := by omega
        refine ⟨vs'[o - off], ?_, hv.2 _ _ _ hx (List.getElem?_eq_getElem hlt)⟩
        rw [show o - k'.base - (off - k'.base) = o - off by omega]
        exact List.getElem?_eq_getElem hlt
      · rw [if_neg hin] at hx
        rw [if_neg (by omega)]
        obtain ⟨v, hv1, hv2⟩ := a7 o x ho (by simp [ext, splice_length cells _ _ hl] at ho'; exact ho') hx
        exact ⟨v, by simpa using hv1, hv2⟩

end Go.Ai

/-
  THE SHORT RUN, 4: a row that grows.
-/
set_option linter.unusedSimpArgs false
set_option linter.unusedVariables false
namespace Go.Ai
open Go

theorem ext_grown (cells vs : List Value) (ep : Nat) (hist : List Nat) (e : Nat) (h : e ≤ ep) :
    ext (cells ++ vs) (ep + 1) (cells.length :: hist) e = ext cells ep hist e := by
  unfold ext
  rw [if_neg (by omega)]
  by_cases he : e = ep
  · subst he; simp
  · rw [if_neg he]
    obtain ⟨d, hd⟩ : ∃ d, ep + 1 - 1 - e = d + 1 := ⟨ep - 1 - e, by omega⟩
    rw [hd, List.getElem?_cons_succ]
    congr 2; omega

theorem ext_now (cells vs : List Value) (ep : Nat) (hist : List Nat) : ext (cells ++ vs) (ep + 1) hist (ep + 1) = cells.length + vs.length := by simp [ext]

theorem withNew_case {φ : Phi} {f e : Nat} {k : Blk} {f' e' : Nat} {k' : Blk} (h : withNew φ f e k f' e' = some k') : (f' = f ∧ e' = e ∧ k' = k) ∨ φ f' e' = some k' := by
  unfold withNew at h
  split at h
  · rename_i hh; exact .inl ⟨hh.1, hh.2, (Option.some.inj h).symm⟩
  · exact .inr h

section
variable {B : Nat} {w₀ : World} {φ : Phi} {s : St} {w : World} {f : Nat} {cells : List Value} {esz ep lw : Nat} {hist : List Nat} {k : Blk}

theorem R.none_above (h : R B w₀ φ s.get w) (hg : s.get f = some (.row cells esz ep lw hist)) : φ f (ep + 1) = none := by
  cases hn : φ f (ep + 1) with
  | none => rfl
  | some k' => have := (h.row _ _ _ _ _ _ _ _ hg hn).1; omega

/-- In place. -/
theorem R.grow_in (P : Program) (h : R B w₀ φ s.get w) (hg : s.get f = some (.row cells esz ep lw hist)) (hlw : lw ≤ ep) (hk : φ f ep = some k)
    {vs vs' : List Value} (hcap : cells.length + vs.length ≤ k.base + k.cap * esz) (hb : k.base ≤ cells.length)
    (hv : VL B φ vs vs') (hc : ∀ v ∈ vs, isCell v = true) :
    ∃ w', (storeCells ⟨k.b, cells.length - k.base, none⟩ vs').run P w = .ok () w' ∧ Step s.next φ w (withNew φ f (ep + 1) k) w' ∧
      R B w₀ (withNew φ f (ep + 1) k) (s.put f (.row (cells ++ vs) esz (ep + 1) lw (cells.length :: hist))).get w' := by
  obtain ⟨h1, _, h2⟩ := h.row _ _ _ _ _ _ _ _ hg hk
  obtain ⟨a1, a2, cs, t, fr, a3, a4, a5, a6, a7⟩ := h2 hlw
  have hext : ext cells ep hist ep = cells.length := by simp [ext]
  rw [hext] at a5 a7
  have hmono := withNew_ext (k := k) (h.none_above hg)
  have hl' : cells.length - k.base + vs'.length ≤ cs.size := by have := hv.1; omega
  have hspl := splice_length cs.toList (cells.length - k.base) vs' (by simpa using hl')
  refine ⟨_, run_store_row P k.b (cells.length - k.base) t fr vs' 0 cs w a3 a6 (by simpa using hl') (hv.cells hc), ?_⟩
  rw [Nat.add_zero]
  have hch := h.change f (.row (cells ++ vs) esz (ep + 1) lw (cells.length :: hist)) (φ' := withNew φ f (ep + 1) k)
    (w' := w.setRow k.b (splice cs.toList (cells.length - k.base) vs').toArray) hmono
    (fun f' e' k' hf hk' => by rcases withNew_case hk' with ⟨h3, _⟩ | h3; exact absurd h3 hf; exact h3)
    (fun e' k' hk' => .inl (by rcases withNew_case hk' with ⟨_, _, rfl⟩ | h3; exact ⟨_, _, hk, rfl⟩; exact ⟨_, _, h3, rfl⟩))
    (fun e₁ k₁ e₂ k₂ h₁ h₂ he => by
      rcases withNew_case h₁ with ⟨_, _, e1⟩ | h₁ <;> rcases withNew_case h₂ with ⟨_, _, e2⟩ | h₂
      · rw [e1, e2]
      · rw [e1] at he ⊢; exact (h.inj _ _ _ _ _ _ hk h₂ he).2
      · rw [e2] at he ⊢; exact (h.inj _ _ _ _ _ _ h₁ hk he).2
      · exact (h.inj _ _ _ _ _ _ h₁ h₂ he).2)
    (fun b hb hn => setRow_other _ _ _ _ (fun he => hn _ _ hk he.symm)) (by simp) rfl rfl rfl ?_ (by simp) (by simp) (fun h => absurd rfl (h _ _ _ _ _)) (fun _ _ _ => ⟨_, _, hk⟩)
  · refine ⟨hch.1 _, ?_⟩
    rw [show (s.put f (.row (cells ++ vs) esz (ep + 1) lw (cells.length :: hist))).get = _ from funext fun m => St.get_put _ _ _ _]
    exact hch.2
  · intro e k' cells' esz' ep' lw' hist' ho hk'
    cases ho
    have hget : ∀ j, j < cells.length - k.base → (splice cs.toList (cells.length - k.base) vs').toArray[j]? = cs[j]? := by
      intro j hj
      simp only [List.getElem?_toArray]
      rw [splice_get _ _ _ (by simpa using hl'), if_neg (by omega)]
      simp
    rcases withNew_case hk' with ⟨_, rfl, rfl⟩ | h3
    · refine ⟨Nat.le_refl _, by simp [ext], fun _ => ⟨a1, a2, _, t, fr, setRow_heap w k'.b cs _ t fr a3, ?_, ?_, ?_, ?_⟩⟩
      · simp [hspl, a4]
      · rw [ext_now]; simp [hspl]; omega
      · simpa [hspl] using a6
      · intro o x ho ho' hx
        rw [ext_now] at ho'
        by_cases hlt : o < cells.length
        · rw [List.getElem?_append_left hlt] at hx
          obtain ⟨v, hv1, hv2⟩ := a7 o x ho hlt hx
          exact ⟨v, by rw [hget _ (by omega)]; exact hv1, hv2.mono hmono⟩
        · rw [List.getElem?_append_right (by omega)] at hx
          have hlen := hv.1
          have hlt' : o - cells.length < vs'.length := by omega
          refine ⟨vs'[o - cells.length], ?_, (hv.2 _ _ _ hx (List.getElem?_eq_getElem hlt')).mono hmono⟩
          simp only [List.getElem?_toArray]
          rw [splice_get _ _ _ (by simpa using hl'), if_pos (by omega), show o - k'.base - (cells.length - k'.base) = o - cells.length by omega]
          exact List.getElem?_eq_getElem hlt'
    · obtain ⟨b1, b0, b2⟩ := h.row _ _ _ _ _ _ _ _ hg h3
      rw [ext_grown _ _ _ _ _ b1]
      refine ⟨by omega, by simp; omega, fun hle => ?_⟩
      obtain ⟨c1, c2, cs2, t2, fr2, c3, c4, c5, c6, c7⟩ := b2 hle
      by_cases hsame : k'.b = k.b
      · rw [hsame, a3] at c3
        cases c3
        have hbase := (h.inj _ _ _ _ _ _ h3 hk hsame).2
        refine ⟨c1, c2, (splice cs.toList (cells.length - k.base) vs').toArray, t, fr, by rw [hsame]; exact setRow_heap w k.b cs _ t fr a3, by simp [hspl, c4], by simp [hspl]; exact c5, by simpa [hspl] using c6, ?_⟩
        intro o x ho ho' hx
        rw [List.getElem?_append_left (by omega)] at hx
        obtain ⟨v, hv1, hv2⟩ := c7 o x ho ho' hx
        exact ⟨v, by rw [hget _ (by omega)]; exact hv1, hv2.mono hmono⟩
      · refine ⟨c1, c2, cs2, t2, fr2, (setRow_other _ _ _ _ hsame).trans c3, c4, c5, c6, fun o x ho ho' hx => ?_⟩
        rw [List.getElem?_append_left (by omega)] at hx
        obtain ⟨v, hv1, hv2⟩ := c7 o x ho ho' hx
        exact ⟨v, hv1, hv2.mono hmono⟩

/-- Into a new block, of which the row's cells from 'off' on are the first ones. -/
theorem R.grow_new (h : R B w₀ φ s.get w) (hk : ∃ e₀ k₀, φ f e₀ = some k₀) (hg : s.get f = some (.row cells esz ep lw hist)) (hz : 0 < esz) {off cap : Nat} {elem : TypeId} {vs : List Value} {c : Array Value} (n : Nat)
    (ho : off ≤ cells.length + vs.length) (hs : c.size = cap * esz) (hfit : cells.length + vs.length ≤ off + c.size)
    (hold : ∀ o x, off ≤ o → o < cells.length → cells[o]? = some x → ∃ v, c[o - off]? = some v ∧ V B φ x v)
    (hnew : ∀ i x, vs[i]? = some x → off ≤ cells.length + i → ∃ v, c[cells.length + i - off]? = some v ∧ V B φ x v) :
    Step s.next φ w (withNew φ f (ep + 1) ⟨w.heap.size, off, cap, esz⟩) { w with drawn := n, heap := w.heap.push (.cells c elem) } ∧
      R B w₀ (withNew φ f (ep + 1) ⟨w.heap.size, off, cap, esz⟩) (s.put f (.row (cells ++ vs) esz (ep + 1) lw (cells.length :: hist))).get
        { w with drawn := n, heap := w.heap.push (.cells c elem) } := by
  have hmono := withNew_ext (k := ⟨w.heap.size, off, cap, esz⟩) (h.none_above hg)
  have hfresh : ∀ e' k', φ f e' = some k' → k'.b ≠ w.heap.size := fun e' k' h' => by have := (h.lo _ _ _ h').2; omega
  have hch := h.change f (.row (cells ++ vs) esz (ep + 1) lw (cells.length :: hist)) (φ' := withNew φ f (ep + 1) ⟨w.heap.size, off, cap, esz⟩)
    (w' := { w with drawn := n, heap := w.heap.push (.cells c elem) }) hmono
    (fun f' e' k' hf hk' => by rcases withNew_case hk' with ⟨h3, _⟩ | h3; exact absurd h3 hf; exact h3)
    (fun e' k' hk' => by rcases withNew_case hk' with ⟨_, _, rfl⟩ | h3; exact .inr ⟨Nat.le_refl _, by simp⟩; exact .inl ⟨_, _, h3, rfl⟩)
    (fun e₁ k₁ e₂ k₂ h₁ h₂ he => by
      rcases withNew_case h₁ with ⟨_, _, rfl⟩ | h₁ <;> rcases withNew_case h₂ with ⟨_, _, rfl⟩ | h₂
      · rfl
      · exact absurd he.symm (hfresh _ _ h₂)
      · exact absurd he (hfresh _ _ h₁)
      · exact (h.inj _ _ _ _ _ _ h₁ h₂ he).2)
    (fun b hb hn => heap_push_old w _ b hb) (by simp) rfl rfl rfl ?_ (by simp) (by simp) (fun h => absurd rfl (h _ _ _ _ _)) (fun _ _ _ => hk)
  · refine ⟨hch.1 _, ?_⟩
    rw [show (s.put f (.row (cells ++ vs) esz (ep + 1) lw (cells.length :: hist))).get = _ from funext fun m => St.get_put _ _ _ _]
    exact hch.2
  · intro e k' cells' esz' ep' lw' hist' ho hk'
    cases ho
    rcases withNew_case hk' with ⟨_, rfl, rfl⟩ | h3
    · refine ⟨Nat.le_refl _, by simp [ext], fun _ => ⟨hz, rfl, c, elem, (0, 0), by simp, hs, by rw [ext_now]; exact hfit, by simp, ?_⟩⟩
      intro o x ho ho' hx
      rw [ext_now] at ho'
      by_cases hlt : o < cells.length
      · rw [List.getElem?_append_left hlt] at hx
        obtain ⟨v, hv1, hv2⟩ := hold o x ho hlt hx
        exact ⟨v, hv1, hv2.mono hmono⟩
      · rw [List.getElem?_append_right (by omega)] at hx
        simp only at ho
        obtain ⟨v, hv1, hv2⟩ := hnew _ x hx (by omega)
        rw [show cells.length + (o - cells.length) - off = o - off by omega] at hv1
        exact ⟨v, hv1, hv2.mono hmono⟩
    · obtain ⟨b1, b0, b2⟩ := h.row _ _ _ _ _ _ _ _ hg h3
      rw [ext_grown _ _ _ _ _ b1]
      refine ⟨by omega, by simp; omega, fun hle => ?_⟩
      obtain ⟨c1, c2, cs2, t2, fr2, c3, c4, c5, c6, c7⟩ := b2 hle
      refine ⟨c1, c2, cs2, t2, fr2, (heap_push_old w _ _ (h.lo _ _ _ h3).2).trans c3, c4, c5, c6, fun o x ho ho' hx => ?_⟩
      rw [List.getElem?_append_left (by omega)] at hx
      obtain ⟨v, hv1, hv2⟩ := c7 o x ho ho' hx
      exact ⟨v, hv1, hv2.mono hmono⟩
end

end Go.Ai

/-
  THE SHORT RUN, 5: what it does: operations, code, calls.
-/
set_option linter.unusedSimpArgs false
set_option linter.unusedVariables false
namespace Go.Ai
open Go

/-- What the short run is told of the program: its types, its functions, old memory, functions that are known by what they answer (where that holds: the Bool). -/
structure Env where
  P : Program
  desc : TypeId → Option TypeDesc
  size : TypeId → Option Nat
  bytes : TypeId → Option Nat
  zero : TypeId → Option Value
  func : FuncId → Option Func
  old : Addr → Option Value
  known : FuncId → Option (List Value → Option (Bool × Value))
  methods : TypeId → String → Option FuncId

/-- A calculation that looks at no memory. -/
def pureRun {α : Type} (P : Program) : Sem α → Option α
  | .pure a => some a
  | .program k => pureRun P (k P)
  | .mark _ k => pureRun P k
  | _ => none

/-- Likewise, where the answer has no address in it. -/
def pureFlat (P : Program) (x : Sem Value) : Option Value :=
  match pureRun P x with
  | some v => if flat v then some v else none
  | none => none

def isAggD : TypeDesc → Bool
  | .struct _ | .array _ _ => true
  | _ => false

structure AAct where
  tmps : List Value
  defers : List Deferred

def AAct.put (a : AAct) (dst : Option Tmp) (v : Value) : AAct :=
  match dst with
  | some d => { a with tmps := a.tmps.set d v }
  | none => a

def AAct.eval (a : AAct) : Operand → Value
  | .tmp t => a.tmps.getD t undef
  | .const v => v
  | .global g => .pointer (some ⟨g, 0, none⟩)
  | .func f => .func (.func f) #[] #[]

/-- A new row. -/
def mkRow (s : St) (cells : List Value) (esz : Nat) : Addr × St := (⟨s.next, 0, some 0⟩, s.push (.row cells esz 0 0 []))

/-- Cells written from an address on. -/
def writeN (s : St) (a : Addr) (vs : List Value) : Option St :=
  match a.spot with
  | none => none
  | some e => match s.get a.block with
    | some (.row cells esz ep lw hist) =>
      if e = ep ∧ lw ≤ ep ∧ a.off + vs.length ≤ cells.length ∧ vs.all isCell = true then some (s.put a.block (.row (splice cells a.off vs) esz ep ep hist)) else none
    | _ => none

def aPart (E : Env) (t : TypeId) (cs : Array Value) (off : Nat) : Option Value :=
  match E.desc t with
  | none => none
  | some d =>
    if isAggD d then (E.size t).map fun n => .agg (cs.extract off (off + n))
    else cs[off]?

def aLoad (E : Env) (s : St) (t : TypeId) (x : Value) : Option Value :=
  match x with
  | .pointer (some a) => match E.desc t with
    | none => none
    | some d =>
      if isAggD d then
        match E.size t with
        | none => none
        | some n => (readN E.old s a n).map fun l => .agg l.toArray
      else match readN E.old s a 1 with
        | some [v] => some v
        | _ => none
  | _ => none

def aStore (E : Env) (s : St) (t : TypeId) (x v : Value) : Option St :=
  match x with
  | .pointer (some a) => match E.size t with
    | none => none
    | some n => if v.cells.size = n then writeN s a v.cells.toList else none
  | _ => none

def aZeros (z : List Value) (n : Nat) : List Value := (List.replicate n z).flatten

def aPlaces (E : Env) (fields : Array Field) : Option (Array (Nat × Nat)) :=
  fields.mapM fun f => (E.size f.type).map fun n => (f.offset, n)

def aBuild (E : Env) (t : TypeId) (parts : Array (Nat × Value)) : Option Value :=
  match E.zero t, E.desc t with
  | some z, some (.struct fields) => match aPlaces E fields with
    | some places => (Instr.fill (places[·]?) z.cells parts.toList).map .agg
    | none => none
  | some z, some (.array _ elem) => match E.size elem with
    | some n => (Instr.fill (fun i => some (i * n, n)) z.cells parts.toList).map .agg
    | none => none
  | _, _ => none

def aBuildSlice (E : Env) (s : St) (t : TypeId) (len : Nat) (parts : Array (Nat × Value)) : Option (Value × St) :=
  match E.desc t with
  | some (.slice elem) => match E.size elem, E.zero elem with
    | some n, some z =>
      if 0 < n ∧ len * n ≤ 2 ^ 24 ∧ z.cells.size = n then
        match Instr.fill (fun i => some (i * n, n)) (aZeros z.cells.toList len).toArray parts.toList with
        | some cells => let (a, s') := mkRow s cells.toList n; some (.slice (some a) len unc, s')
        | none => none
      else none
    | _, _ => none
  | _ => none

/-- '==' where an address may be on a side. -/
def aEq (E : Env) (t : TypeId) (x y : Value) : Option Bool :=
  match E.desc t, x, y with
  | some (.pointer _), .pointer none, .pointer (some _) => some false
  | some (.pointer _), .pointer (some _), .pointer none => some false
  | some (.pointer e), .pointer (some a), .pointer (some b) =>
    match E.size e, a.spot, b.spot with
    | some n, some i, some j => if n ≠ 0 ∧ a.block = b.block ∧ i = j then some (a.off == b.off) else none
    | _, _, _ => none
  | some (.slice _), .slice none _ _, .slice (some _) _ _ => some false
  | some (.slice _), .slice (some _) _ _, .slice none _ _ => some false
  | some (.interface _), .nilIface, .iface _ _ => some false
  | some (.interface _), .iface _ _, .nilIface => some false
  | some (.map _ _), .map none, .map (some _) => some false
  | some (.map _ _), .map (some _), .map none => some false
  | some (.func _ _ _), .nilFunc, .func _ _ _ => some false
  | some (.func _ _ _), .func _ _ _, .nilFunc => some false
  | _, _, _ => none

def aBin (E : Env) (op : BinOp) (t : TypeId) (xo yo : Operand) (x y : Value) : Option Value :=
  if flat x && flat y then pureFlat E.P (do eqGuard op t xo yo x y; binOp op t x y)
  else match op with
    | .eql => (aEq E t x y).map .bool
    | .neq => (aEq E t x y).map fun b => .bool (!b)
    | _ => none

def asNat (i : Int) : Option Nat := if 0 ≤ i then some i.toNat else none

def aInt : Value → Option Int
  | .int _ n => some n
  | _ => none

def aBound (v : Option Value) (dflt : Nat) : Option Nat :=
  match v with
  | none => some dflt
  | some (.int _ n) => asNat n
  | some _ => none

/-- How many elements a row surely has room for, from an address on. -/
def roomAt (s : St) (a : Addr) (n : Nat) : Nat :=
  match a.spot, s.get a.block with
  | some e, some (.row cells esz ep lw _) => if e = ep ∧ lw ≤ ep ∧ esz = n then (cells.length - a.off) / n else 0
  | _, _ => 0

def eszIs (s : St) (a : Addr) (n : Nat) : Bool :=
  match s.get a.block with
  | some (.row _ esz ep lw _) => esz = n && some ep == a.spot && decide (lw ≤ ep)
  | _ => false

def aSlice (E : Env) (s : St) (t : TypeId) (x : Value) (lo hi mx : Option Value) : Option Value :=
  if flat x then
    (if (lo.map flat).getD true && (hi.map flat).getD true && (mx.map flat).getD true then pureFlat E.P (Instr.sliceAt t x lo hi mx) else none)
  else match E.desc t, x with
    | some (.slice elem), .slice (some a) len cap =>
      match E.size elem, aBound lo 0, aBound hi len with
      | some n, some l, some h =>
        if 0 < n then
          if a.spot.isSome ∧ cap = unc then
            if eszIs s a n && decide (l ≤ h) && (decide (h ≤ len) || decide (h ≤ roomAt s a n)) then
              match mx with
              | none => some (.slice (some (aadd a (l * n))) (h - l) unc)
              | some m => match aBound (some m) 0 with
                | some m => if h ≤ m ∧ (m ≤ len ∨ m ≤ roomAt s a n) ∧ m - l < unc ∧ 0 < len then some (.slice (some (if m = l then a else aadd a (l * n))) (h - l) (m - l)) else none
                | none => none
            else none
          else
            match aBound mx cap with
            | some m => if l ≤ h ∧ h ≤ m ∧ m ≤ cap then some (.slice (some (if m = l then a else aadd a (l * n))) (h - l) (m - l)) else none
            | none => none
        else none
      | _, _, _ => none
    | some (.array k elem), .pointer (some a) =>
      match E.size elem, aBound lo 0, aBound hi k, aBound mx k with
      | some n, some l, some h, some m => if l ≤ h ∧ h ≤ m ∧ m ≤ k ∧ m - l < unc then some (.slice (some (if m = l then a else aadd a (l * n))) (h - l) (m - l)) else none
      | _, _, _, _ => none
    | _, _ => none

def aIndexAddr (E : Env) (t : TypeId) (x i : Value) : Option Value :=
  match aInt i with
  | none => none
  | some i =>
    match E.desc t, x with
    | some (.array len elem), .pointer (some a) => match E.size elem with
      | some n => if 0 ≤ i ∧ i < len then some (.pointer (some (aadd a (i.toNat * n)))) else none
      | none => none
    | some (.slice elem), .slice (some a) len _ => match E.size elem with
      | some n => if 0 ≤ i ∧ i < len then some (.pointer (some (aadd a (i.toNat * n)))) else none
      | none => none
    | _, _ => none

def aIndex (E : Env) (t : TypeId) (x i : Value) : Option Value :=
  match x with
  | .string _ => if flat i then pureFlat E.P (Instr.index t x i) else none
  | .agg cs => match aInt i, E.desc t with
    | some i, some (.array len elem) => match E.size elem with
      | some n => if 0 ≤ i ∧ i < len then aPart E elem cs (i.toNat * n) else none
      | none => none
    | _, _ => none
  | _ => none

def aFieldAddr (E : Env) (t : TypeId) (x : Value) (f : Nat) : Option Value :=
  match E.desc t, x with
  | some (.struct fields), .pointer (some a) => match fields[f]? with
    | some fd => match E.size fd.type with
      | some n => if n = 0 then none else some (.pointer (some (aadd a fd.offset)))
      | none => none
    | none => none
  | _, _ => none

def aField (E : Env) (t : TypeId) (x : Value) (f : Nat) : Option Value :=
  match E.desc t, x with
  | some (.struct fields), .agg cs => match fields[f]? with
    | some fd => aPart E fd.type cs fd.offset
    | none => none
  | _, _ => none

def aTypeAssert (E : Env) (x : Value) (asserted : TypeId) (commaOk : Bool) : Option Value :=
  match E.desc asserted with
  | some (.interface _) => none
  | none => none
  | some _ =>
    match x with
    | .iface t v =>
      if t = asserted then some (if commaOk then .tuple #[v, .bool true] else v)
      else if commaOk then (E.zero asserted).map fun z => .tuple #[z, .bool false] else none
    | .nilIface => if commaOk then (E.zero asserted).map fun z => .tuple #[z, .bool false] else none
    | _ => none

def aMakeSlice (E : Env) (s : St) (t : TypeId) (len cap : Value) : Option (Value × St) :=
  match E.desc t, aInt len, aInt cap with
  | some (.slice elem), some l, some c => match E.size elem, E.bytes elem, E.zero elem with
    | some n, some b, some z =>
      if 0 < n ∧ z.cells.size = n ∧ 0 ≤ l ∧ l ≤ c ∧ c < 2 ^ 62 ∧ b * c.toNat ≤ 2 ^ 48 then
        let (a, s') := mkRow s (aZeros z.cells.toList c.toNat) n
        some (.slice (some a) l.toNat unc, s')
      else none
    | _, _, _ => none
  | _, _, _ => none

/-- An element's cells, to be appended or copied. -/
def aSource (E : Env) (s : St) (n : Nat) (size : Nat) (x : Value) : Option (List Value) :=
  match x with
  | .slice none _ _ => some []
  | .slice (some a) _ _ => readN E.old s a (n * size)
  | .string b => if size = 1 then some ((b.extract 0 n).data.toList.map fun b => .int .u8 b.toNat) else none
  | _ => none

def aLen : Value → Option Nat
  | .slice _ n _ => some n
  | .string b => some b.size
  | _ => none

/-- What is to be appended: how many, and the cells. -/
def aNew (E : Env) (s : St) (argTypes : Array TypeId) (n b : Nat) (z : Value) (x : Value) : Option (Nat × List Value) :=
  match argTypes[1]? with
  | some xt => match E.desc xt with
    | some (.int _) => match x with
      | .int _ i => if 0 ≤ i ∧ i < 2 ^ 62 ∧ i.toNat * b ≤ 2 ^ 46 then some (i.toNat, aZeros z.cells.toList i.toNat) else none
      | _ => none
    | some _ => match aLen x with
      | some m => (aSource E s m n x).map fun l => (m, l)
      | none => none
    | none => none
  | none => match aLen x with
    | some m => (aSource E s m n x).map fun l => (m, l)
    | none => none

def aAppend (E : Env) (s : St) (argTypes : Array TypeId) (sl x : Value) : Option (Value × St) :=
  match argTypes[0]? with
  | none => none
  | some st => match E.desc st with
    | some (.slice elem) => match E.size elem, E.bytes elem, E.zero elem with
      | some n, some b, some z =>
        if ¬ (0 < n ∧ z.cells.size = n) then none else
        -- how many, and which cells
        match aNew E s argTypes n b z x with
        | none => none
        | some (m, new) =>
          if ¬ (new.length = m * n ∧ new.all isCell = true) then none else
          match sl with
          | .slice none l c =>
            if l ≠ 0 ∨ c ≠ 0 then none else
            if m = 0 then some (sl, s) else
            if m * b ≤ 2 ^ 46 ∧ m < 2 ^ 62 then let (a, s') := mkRow s new n; some (.slice (some a) m unc, s') else none
          | .slice (some a) len cap =>
            if (len + m) * b ≤ 2 ^ 46 ∧ len + m < 2 ^ 62 then
              match a.spot with
              | some e => match s.get a.block with
                | some (.row cells esz ep lw hist) =>
                  if e = ep ∧ lw ≤ ep ∧ esz = n ∧ a.off ≤ cells.length then
                    if cap = unc then
                      if m = 0 then some (sl, s) else
                      if a.off + (len + m) * n ≤ cells.length then
                        some (.slice (some a) (len + m) unc, s.put a.block (.row (splice cells (a.off + len * n) new) esz ep ep hist))
                      else if a.off + len * n = cells.length then
                        some (.slice (some ⟨a.block, a.off, some (ep + 1)⟩) (len + m) unc, s.put a.block (.row (cells ++ new) esz (ep + 1) lw (cells.length :: hist)))
                      else none
                    else if len + m ≤ cap then
                      if a.off + (len + m) * n ≤ cells.length then
                        some (.slice (some a) (len + m) cap, s.put a.block (.row (splice cells (a.off + len * n) new) esz ep ep hist))
                      else none
                    else match readN E.old s a (len * n) with
                      | some was => let (a', s') := mkRow s (was ++ new) n; some (.slice (some a') (len + m) unc, s')
                      | none => none
                  else none
                | _ => none
              | none =>
                if m = 0 ∧ len ≤ cap then some (sl, s) else
                if len + m ≤ cap then none
                else match readN E.old s a (len * n) with
                  | some was => let (a', s') := mkRow s (was ++ new) n; some (.slice (some a') (len + m) unc, s')
                  | none => none
            else none
          | _ => none
      | _, _, _ => none
    | _ => none

def aCopy (E : Env) (s : St) (argTypes : Array TypeId) (d x : Value) : Option (Value × St) :=
  match argTypes[0]? with
  | none => none
  | some st => match E.desc st, d, aLen x with
    | some (.slice elem), .slice base dl _, some m => match E.size elem with
      | none => none
      | some n => match aSource E s (Nat.min m dl) n x with
        | none => none
        | some l => match base with
          | none => some (goInt (Nat.min m dl), s)
          | some a => if l = [] then some (goInt (Nat.min m dl), s) else (writeN s a l).map fun s' => (goInt (Nat.min m dl), s')
    | _, _, _ => none

/-- A map's keys that can be told apart at sight. -/
def keyIs (k key : Value) : Option Bool :=
  match k, key with
  | .int a n, .int b m => if a = b then some (n == m) else none
  | .string a, .string b => some (a == b)
  | .bool a, .bool b => some (a == b)
  | _, _ => none

/-- A key's kind is its type's. -/
def keyFits (d : TypeDesc) (k : Value) : Bool :=
  match d, k with
  | .int _, .int _ _ | .string, .string _ | .bool, .bool _ => true
  | _, _ => false

def isStructD : TypeDesc → Bool
  | .struct _ => true
  | _ => false

/-- Whether two keys are one. -/
def keyEq (E : Env) (kt : TypeId) (d : TypeDesc) (k key : Value) : Option Bool :=
  if keyFits d k then keyIs k key
  else if isStructD d && flat k && flat key then pureRun E.P (Op.equal kt k key) else none

/-- A key that a map can be asked for. -/
def keyOk (E : Env) (kt : TypeId) (d : TypeDesc) (e : Bool) (k : Value) : Bool :=
  flat k && (keyFits d k || (isStructD d && (pureRun E.P (Instr.checkKey e 10000 kt k)).isSome))

def findAt (eq : Value → Option Bool) : List (Value × Value) → Nat → Option (Option (Nat × Value))
  | [], _ => some none
  | e :: es, i => match eq e.1 with
    | some true => some (some (i, e.2))
    | some false => findAt eq es (i + 1)
    | none => none

def aEntries (s : St) : Value → Option (List (Value × Value))
  | .map none => some []
  | .map (some f) => match s.get f with
    | some (.map es) => some es
    | _ => none
  | _ => none

def aLookup (E : Env) (s : St) (t : TypeId) (x k : Value) (ok : Bool) : Option Value :=
  match E.desc t with
  | some (.map kt et) =>
    match E.desc kt, aEntries s x, E.zero et with
    | some d, some es, some z =>
      if keyOk E kt d es.isEmpty k then
        match findAt (keyEq E kt d k) es 0 with
        | some (some (_, v)) => some (if ok then .tuple #[v, .bool true] else v)
        | some none => some (if ok then .tuple #[z, .bool false] else z)
        | none => none
      else none
    | _, _, _ => none
  | _ => none

def aMapUpdate (E : Env) (s : St) (t : TypeId) (x k v : Value) : Option St :=
  match E.desc t, x with
  | some (.map kt _), .map (some f) =>
    match E.desc kt, s.get f with
    | some d, some (.map es) =>
      if keyOk E kt d false k then
        match findAt (keyEq E kt d k) es 0 with
        | some (some (i, _)) => match es[i]? with
          | some e => if Instr.sameBits 10000 e.1 k && flat e.1 then some (s.put f (.map (es.set i (k, v)))) else none
          | none => none
        | some none => some (s.put f (.map (es ++ [(k, v)])))
        | none => none
      else none
    | _, _ => none
  | _, _ => none

def aMapDelete (E : Env) (s : St) (argTypes : Array TypeId) (x k : Value) : Option St :=
  match argTypes[0]? with
  | none => none
  | some t => match E.desc t, x with
    | some (.map kt _), .map (some f) =>
      match E.desc kt, s.get f with
      | some d, some (.map es) =>
        if keyOk E kt d es.isEmpty k then
          match findAt (keyEq E kt d k) es 0 with
          | some (some (i, _)) => some (s.put f (.map (es.eraseIdx i)))
          | some none => some s
          | none => none
        else none
      | _, _ => none
    | _, _ => none

/-- Cells as bytes. -/
def bytesOf : List Value → Option (List UInt8)
  | [] => some []
  | .int .u8 b :: l => (bytesOf l).map (UInt8.ofNat b.toNat :: ·)
  | _ => none

def toSlice (E : Env) (dst : TypeId) : Bool :=
  match E.desc dst with
  | some (.slice _) => true
  | _ => false

def aConvert (E : Env) (s : St) (src dst : TypeId) (x : Value) : Option (Value × St) :=
  match x with
  | .slice (some a) n _ => match E.desc src, E.desc dst with
    | some (.slice e), some .string => match E.desc e with
      | some (.int .u8) => match readN E.old s a n with
        | some l => (bytesOf l).map fun bs => (.string ⟨bs.toArray⟩, s)
        | none => none
      | _ => none
    | _, _ => none
  | .string b => match E.desc src, E.desc dst with
    | some .string, some .string => some (x, s)
    | some .string, some (.slice e) => match E.desc e with
      | some (.int .u8) => let (a, s') := mkRow s (b.data.toList.map fun b => .int .u8 b.toNat) 1; some (.slice (some a) b.size unc, s')
      | _ => none
    | _, _ => none
  | .slice none _ _ => if toSlice E dst then none else (pureFlat E.P (convert src dst x)).map (·, s)
  | .int _ _ => if toSlice E dst then none else (pureFlat E.P (convert src dst x)).map (·, s)
  | .bool _ => none
  | x => none

def aClear (E : Env) (s : St) (argTypes : Array TypeId) (x : Value) : Option (Value × St) :=
  match argTypes[0]?, x with
  | some t, .slice (some a) n _ => match E.desc t with
    | some (.slice e) => match E.size e, E.zero e with
      | some k, some z => if n = 0 then some (.tuple #[], s) else if z.cells.size = k ∧ 0 < k then (writeN s a (aZeros z.cells.toList n)).map (.tuple #[], ·) else none
      | _, _ => none
    | _ => none
  | _, _ => none

def aBuiltin (E : Env) (s : St) (b : Builtin) (argTypes : Array TypeId) (type : TypeId) (args : List Value) : Option (Value × St) :=
  match b, args with
  | .len, [x] => match x with
    | .slice (some _) n _ => match argTypes[0]? with
      | some t => match E.desc t with
        | some (.slice _) => some (goInt n, s)
        | _ => none
      | none => none
    | .map (some f) => match argTypes[0]?, s.get f with
      | some t, some (.map es) => match E.desc t with
        | some (.map _ _) => some (goInt es.length, s)
        | _ => none
      | _, _ => none
    | x => if flat x then (pureFlat E.P (Builtin.len_ argTypes type #[x])).map (·, s) else none
  | .cap, [x] => match x with
    | .slice (some a) _ c => match argTypes[0]? with
      | some t => match E.desc t with
        | some (.slice _) => if a.spot.isSome ∧ c = unc then none else some (goInt c, s)
        | _ => none
      | none => none
    | x => if flat x then (pureFlat E.P (Builtin.cap_ argTypes type #[x])).map (·, s) else none
  | .append, [x, y] => aAppend E s argTypes x y
  | .copy, [x, y] => aCopy E s argTypes x y
  | .clear, [x] => aClear E s argTypes x
  | .delete, [x, y] => (aMapDelete E s argTypes x y).map (.tuple #[], ·)
  | .min, l => if flatL l then (pureFlat E.P (Builtin.min_ argTypes type l.toArray)).map (·, s) else none
  | .max, l => if flatL l then (pureFlat E.P (Builtin.max_ argTypes type l.toArray)).map (·, s) else none
  | _, _ => none

/-- An operation that is no call. -/
def aVal (E : Env) (ρ : Operand → Value) (o : Oper) (s : St) : Option (Value × St) :=
  match o.op with
  | .move x | .assign x => some (ρ x, s)
  | .pick c a b => match ρ c with
    | .bool t => some (if t then ρ a else ρ b, s)
    | _ => none
  | .alloc t => match E.zero t, E.size t with
    | some z, some n => if z.cells.size = n ∧ 0 < n then let (a, s') := mkRow s z.cells.toList n; some (.pointer (some a), s') else none
    | _, _ => none
  | .box _ x => let v := ρ x; if 0 < v.cells.size then let (a, s') := mkRow s v.cells.toList v.cells.size; some (.pointer (some a), s') else none
  | .build t parts => (aBuild E t (parts.map fun (i, x) => (i, ρ x))).map (·, s)
  | .buildSlice t len parts => aBuildSlice E s t len (parts.map fun (i, x) => (i, ρ x))
  | .load t a => (aLoad E s t (ρ a)).map (·, s)
  | .store t a x => (aStore E s t (ρ a) (ρ x)).map (undef, ·)
  | .nilCheck x => match ρ x with
    | .pointer (some a) => some (.pointer (some a), s)
    | .func (.func f) a b => some (.func (.func f) a b, s)
    | _ => none
  | .binOp op t x y _ => (aBin E op t x y (ρ x) (ρ y)).map (·, s)
  | .unOp op _ x => if flat (ρ x) then (pureFlat E.P (Op.unary op (ρ x))).map (·, s) else none
  | .convert src dst x => aConvert E s src dst (ρ x)
  | .makeInterface t x => match E.desc t with
    | some (.interface _) => none
    | some _ => some (.iface t (ρ x), s)
    | none => none
  | .makeFunc fn first captured => some (.func fn (first.map ρ) (captured.map ρ), s)
  | .makeMap _ none => some (.map (some s.next), s.push (.map []))
  | .makeSlice t l c => aMakeSlice E s t (ρ l) (ρ c)
  | .slice t x lo hi mx => (aSlice E s t (ρ x) (lo.map ρ) (hi.map ρ) (mx.map ρ)).map (·, s)
  | .fieldAddr t x f => (aFieldAddr E t (ρ x) f).map (·, s)
  | .field t x f => (aField E t (ρ x) f).map (·, s)
  | .indexAddr t x i => (aIndexAddr E t (ρ x) (ρ i)).map (·, s)
  | .index t x i => (aIndex E t (ρ x) (ρ i)).map (·, s)
  | .lookup t x k ok => (aLookup E s t (ρ x) (ρ k) ok).map (·, s)
  | .mapUpdate t m k v => (aMapUpdate E s t (ρ m) (ρ k) (ρ v)).map (undef, ·)
  | .range t x => match ρ x, E.desc t with
    | .string b, some .string => some (.pointer (some ⟨s.next, 0, some 0⟩), s.push (.iter b 0))
    | _, _ => none
  | .next it true => match ρ it with
    | .pointer (some ⟨f, 0, some 0⟩) => match s.get f with
      | some (.iter b pos) =>
        if pos < b.size then
          let (c, width) := Utf8.decode b pos
          some (.tuple #[.bool true, goInt pos, .int .i32 c], s.put f (.iter b (pos + width)))
        else some (.tuple #[.bool false], s)
      | _ => none
    | _ => none
  | .typeAssert x _ asserted ok => (aTypeAssert E (ρ x) asserted ok).map (·, s)
  | .extract t i => match ρ t with
    | .tuple vs => (vs[i]?).map (·, s)
    | _ => none
  | .call { callee := .builtin b, args, argTypes } => aBuiltin E s b argTypes o.type (args.toList.map ρ)
  | _ => none

end Go.Ai

/-
  THE SHORT RUN, 6: what an operation of it answers, the machine's answers too: those that look at no memory.
-/
set_option linter.unusedSimpArgs false
set_option linter.unusedVariables false
namespace Go.Ai
open Go

structure Env.Ok (E : Env) (B : Nat) (w₀ : World) : Prop where
  desc : ∀ t d, E.desc t = some d → E.P.underlying t = some d
  size : ∀ t n, E.size t = some n → ∃ i, E.P.info? t = some i ∧ i.size = n
  bytes : ∀ t n, E.bytes t = some n → ∃ i, E.P.info? t = some i ∧ i.bytes = n
  zero : ∀ t z, E.zero t = some z → flat z = true ∧ ∃ i, E.P.info? t = some i ∧ i.zero = some z
  old : OldOk B w₀ E.old

section
variable {E : Env} {B : Nat} {w₀ : World} (hE : E.Ok B w₀)
include hE

theorem run_desc {t : TypeId} {d : TypeDesc} (h : E.desc t = some d) (w : World) : (underlying t).run E.P w = .ok d w := run_underlying (hE.desc _ _ h) w

theorem run_size {t : TypeId} {n : Nat} (h : E.size t = some n) (w : World) : (sizeOf t).run E.P w = .ok n w := by
  obtain ⟨i, hi, rfl⟩ := hE.size _ _ h
  simp [sizeOf, typeInfo, hi]

theorem run_zero {t : TypeId} {z : Value} (h : E.zero t = some z) (w : World) : (zeroValue t).run E.P w = .ok z w := by
  obtain ⟨_, i, hi, hz⟩ := hE.zero _ _ h
  simp [zeroValue, typeInfo, hi, hz]

theorem run_bytes {t : TypeId} {n : Nat} (h : E.bytes t = some n) (w : World) : ∃ i, (typeInfo t).run E.P w = .ok i w ∧ i.bytes = n := by
  obtain ⟨i, hi, rfl⟩ := hE.bytes _ _ h
  exact ⟨i, by simp [typeInfo, hi], rfl⟩

theorem run_agg {t : TypeId} {d : TypeDesc} (h : E.desc t = some d) (w : World) : (isAgg t).run E.P w = .ok (isAggD d) w := by
  unfold isAgg
  rw [Sem.run_bind, run_desc hE h]
  cases d <;> rfl

end

theorem pureRun_spec {α : Type} (P : Program) : ∀ (x : Sem α) (a : α), pureRun P x = some a → ∀ w, x.run P w = .ok a w := by
  intro x
  induction x with
  | pure b => intro a h w; simp only [pureRun, Option.some.injEq] at h; subst h; rfl
  | program k ih => intro a h w; simp only [pureRun] at h; exact ih _ _ h w
  | mark m k ih => intro a h w; simp only [pureRun] at h; exact ih _ h w
  | _ => intro a h; simp [pureRun] at h

theorem pureFlat_spec {P : Program} {x : Sem Value} {v : Value} (h : pureFlat P x = some v) : flat v = true ∧ ∀ w, x.run P w = .ok v w := by
  unfold pureFlat at h
  cases hx : pureRun P x with
  | none => simp [hx] at h
  | some a =>
    simp only [hx] at h
    split at h
    · cases h; exact ⟨by assumption, pureRun_spec _ _ _ hx⟩
    · simp at h

theorem V.flat_right {B : Nat} {φ : Phi} {x y : Value} (h : V B φ x y) (hf : flat x = true) : y = x := (h.eq_of_flat hf).symm

theorem V.bool_left {B : Nat} {φ : Phi} {b : Bool} {y : Value} (h : V B φ (.bool b) y) : y = .bool b := h.flat_right rfl
theorem V.int_left {B : Nat} {φ : Phi} {k : IntKind} {n : Int} {y : Value} (h : V B φ (.int k n) y) : y = .int k n := h.flat_right rfl
theorem V.string_left {B : Nat} {φ : Phi} {b : ByteArray} {y : Value} (h : V B φ (.string b) y) : y = .string b := h.flat_right rfl

theorem VA.of_agg {B : Nat} {φ : Phi} {cs : Array Value} {y : Value} (h : V B φ (.agg cs) y) : ∃ cs', y = .agg cs' ∧ VA B φ cs cs' := by
  cases h with
  | agg hs hi => exact ⟨_, rfl, hs, hi⟩

theorem VA.of_tuple {B : Nat} {φ : Phi} {cs : Array Value} {y : Value} (h : V B φ (.tuple cs) y) : ∃ cs', y = .tuple cs' ∧ VA B φ cs cs' := by
  cases h with
  | tuple hs hi => exact ⟨_, rfl, hs, hi⟩

theorem VA.extract {B : Nat} {φ : Phi} {xs ys : Array Value} (h : VA B φ xs ys) (a b : Nat) : VA B φ (xs.extract a b) (ys.extract a b) := by
  refine ⟨by simp [h.1], fun i x y hx hy => ?_⟩
  rw [Array.getElem?_extract] at hx hy
  split at hx
  · split at hy
    · exact h.2 _ _ _ hx hy
    · simp at hy
  · simp at hx

theorem VA.get {B : Nat} {φ : Phi} {xs ys : Array Value} (h : VA B φ xs ys) {i : Nat} {x : Value} (hx : xs[i]? = some x) : ∃ y, ys[i]? = some y ∧ V B φ x y := by
  have hi : i < ys.size := by rw [← h.1]; exact (Array.getElem?_eq_some_iff.1 hx).1
  exact ⟨ys[i], Array.getElem?_eq_getElem hi, h.2 _ _ _ hx (Array.getElem?_eq_getElem hi)⟩

theorem VA.get_none {B : Nat} {φ : Phi} {xs ys : Array Value} (h : VA B φ xs ys) {i : Nat} (hx : xs[i]? = none) : ys[i]? = none := by
  simp only [Array.getElem?_eq_none_iff] at hx ⊢
  have := h.1; omega

theorem VA.set {B : Nat} {φ : Phi} {xs ys : Array Value} (h : VA B φ xs ys) {i : Nat} {x y : Value} (hv : V B φ x y) : VA B φ (xs.setIfInBounds i x) (ys.setIfInBounds i y) := by
  refine ⟨by simp [h.1], fun j a b ha hb => ?_⟩
  rw [Array.getElem?_setIfInBounds] at ha hb
  split at ha
  · rename_i e
    subst e
    simp only [if_true] at hb
    split at ha
    · split at hb
      · cases ha; cases hb; exact hv
      · simp at hb
    · simp at ha
  · rename_i e
    rw [if_neg e] at hb
    exact h.2 _ _ _ ha hb

theorem VA.map {B : Nat} {φ : Phi} {α : Type} {f g : α → Value} (l : Array α) (h : ∀ x ∈ l, V B φ (f x) (g x)) : VA B φ (l.map f) (l.map g) := by
  refine ⟨by simp, fun i x y hx hy => ?_⟩
  simp only [Array.getElem?_map, Option.map_eq_some_iff] at hx hy
  obtain ⟨a, ha, rfl⟩ := hx
  obtain ⟨b, hb, rfl⟩ := hy
  rw [ha] at hb
  cases hb
  exact h _ (Array.mem_of_getElem? ha)

theorem VA.one {B : Nat} {φ : Phi} {x y : Value} (h : V B φ x y) : VA B φ #[x] #[y] := by
  refine ⟨rfl, fun i a b ha hb => ?_⟩
  cases i with
  | zero => simp at ha hb; subst ha; subst hb; exact h
  | succ i => simp at ha

theorem V.cells {B : Nat} {φ : Phi} {x y : Value} (h : V B φ x y) : VA B φ x.cells y.cells := by
  have h0 := h
  cases h with
  | agg hs hi => exact ⟨hs, hi⟩
  | _ => exact VA.one h0

section
variable {E : Env} {B : Nat} {w₀ : World} (hE : E.Ok B w₀) {φ : Phi}
include hE

theorem run_part {t : TypeId} {cs cs' : Array Value} {off : Nat} {x : Value} (h : aPart E t cs off = some x) (hc : VA B φ cs cs') (w : World) :
    ∃ y, (part t cs' off).run E.P w = .ok y w ∧ V B φ x y := by
  unfold aPart at h
  cases hd : E.desc t with
  | none => simp [hd] at h
  | some d =>
    simp only [hd] at h
    unfold part
    simp only [Sem.run_bind, run_agg hE hd, Result.andThen_ok]
    cases ha : isAggD d with
    | true =>
      simp only [ha, if_true] at h
      cases hn : E.size t with
      | none => simp [hn] at h
      | some n =>
        simp only [hn, Option.map_some, Option.some.injEq] at h
        subst h
        have hx := hc.extract off (off + n)
        exact ⟨.agg (cs'.extract off (off + n)), by simp [run_size hE hn], .agg hx.1 hx.2⟩
    | false =>
      simp only [ha, Bool.false_eq_true, if_false] at h
      obtain ⟨y, hy, hv⟩ := hc.get h
      exact ⟨y, by simp [hy], hv⟩

theorem run_load {s : St} {t : TypeId} {x x' v : Value} {w : World} (hR : R B w₀ φ s.get w) (hx : V B φ x x') (h : aLoad E s t x = some v) :
    ∃ v', (Instr.loadAt t x').run E.P w = .ok v' w ∧ V B φ v v' := by
  unfold aLoad at h
  split at h
  · rename_i a
    cases hd : E.desc t with
    | none => simp [hd] at h
    | some d =>
      simp only [hd] at h
      obtain ⟨c, rfl⟩ : ∃ c, x' = .pointer (some c) := by cases hx <;> exact ⟨_, rfl⟩
      cases ha : isAggD d with
      | true =>
        simp only [ha, if_true] at h
        cases hn : E.size t with
        | none => simp [hn] at h
        | some n =>
          simp only [hn] at h
          cases hr : readN E.old s a n with
          | none => simp [hr] at h
          | some l =>
            simp only [hr, Option.map_some, Option.some.injEq] at h
            subst h
            obtain ⟨h1, l', h2, h3, h4⟩ := hR.read hE.old hx hr
            have h5 := run_loadCells_list (P := E.P) w c l' h4
            rw [h2] at h5
            refine ⟨.agg l'.toArray, by simp [Instr.loadAt, Instr.sureAddr, loadVar, run_agg hE hd, ha, run_size hE hn, h5], .agg (by simp [h1, h2]) fun i x y hx hy => h3 i x y (by simpa using hx) (by simpa using hy)⟩
      | false =>
        simp only [ha, Bool.false_eq_true, if_false] at h
        split at h
        · rename_i v0 hr
          cases h
          obtain ⟨h1, l', h2, h3, h4⟩ := hR.read hE.old hx hr
          obtain ⟨v', rfl⟩ : ∃ v', l' = [v'] := by
            match l', h2 with
            | [v'], _ => exact ⟨v', rfl⟩
          have h5 := h4 0 v' rfl
          rw [show c.add 0 = c from rfl] at h5
          exact ⟨v', by simp [Instr.loadAt, Instr.sureAddr, loadVar, run_agg hE hd, ha, h5], h3 0 _ _ rfl rfl⟩
        · simp at h
  · simp at h
end

end Go.Ai

/-
  THE SHORT RUN, 7: operations that turn nothing.
-/
set_option linter.unusedSimpArgs false
set_option linter.unusedVariables false
namespace Go.Ai
open Go

theorem VA.foldl_set {B : Nat} {φ : Phi} (off : Nat) : ∀ (l l' : List Value) (k : Nat) (xs ys : Array Value), VL B φ l l' → VA B φ xs ys →
    VA B φ ((l.zipIdx k).foldl (fun cs (p : Value × Nat) => cs.setIfInBounds (off + p.2) p.1) xs) ((l'.zipIdx k).foldl (fun cs (p : Value × Nat) => cs.setIfInBounds (off + p.2) p.1) ys) := by
  intro l
  induction l with
  | nil =>
    intro l' k xs ys h hv
    obtain rfl : l' = [] := by simpa using h.1.symm
    simpa using hv
  | cons x l ih =>
    intro l' k xs ys h hv
    cases l' with
    | nil => have := h.1; simp at this
    | cons y l' =>
      simp only [List.zipIdx_cons, List.foldl_cons]
      exact ih _ _ _ _ ⟨by simpa using h.1, fun i a b ha hb => h.2 (i + 1) a b (by simpa using ha) (by simpa using hb)⟩ (hv.set (h.2 0 x y rfl rfl))

theorem VA.toList {B : Nat} {φ : Phi} {xs ys : Array Value} (h : VA B φ xs ys) : VL B φ xs.toList ys.toList :=
  ⟨by simpa using h.1, fun i x y hx hy => h.2 i x y (by simpa using hx) (by simpa using hy)⟩

theorem VL.toArray {B : Nat} {φ : Phi} {l l' : List Value} (h : VL B φ l l') : VA B φ l.toArray l'.toArray :=
  ⟨by simpa using h.1, fun i x y hx hy => h.2 i x y (by simpa using hx) (by simpa using hy)⟩

theorem fill_rel {B : Nat} {φ : Phi} (place : Nat → Option (Nat × Nat)) : ∀ (ps ps' : List (Nat × Value)) (xs ys r : Array Value), ps.length = ps'.length →
    (∀ (i : Nat) (p p' : Nat × Value), ps[i]? = some p → ps'[i]? = some p' → p.1 = p'.1 ∧ V B φ p.2 p'.2) → VA B φ xs ys → Instr.fill place xs ps = some r →
    ∃ r', Instr.fill place ys ps' = some r' ∧ VA B φ r r' := by
  intro ps
  induction ps with
  | nil =>
    intro ps' xs ys r hl hp hv h
    obtain rfl : ps' = [] := by simpa using hl.symm
    simp only [Instr.fill, Option.some.injEq] at h ⊢
    subst h
    exact ⟨ys, rfl, hv⟩
  | cons p ps ih =>
    intro ps' xs ys r hl hp hv h
    cases ps' with
    | nil => simp at hl
    | cons p' ps' =>
      obtain ⟨h1, h2⟩ := hp 0 p p' rfl rfl
      obtain ⟨i, v⟩ := p
      obtain ⟨i', v'⟩ := p'
      obtain rfl : i = i' := h1
      simp only [Instr.fill] at h ⊢
      split at h
      · simp at h
      · rename_i off size hpl
        have hcs : VA B φ v.cells v'.cells := h2.cells
        split at h
        · simp at h
        · rename_i hc
          rw [if_neg (by rw [← hcs.1, ← hv.1]; exact hc)]
          refine ih ps' _ _ r (by simpa using hl) (fun j a b ha hb => hp (j + 1) a b (by simpa using ha) (by simpa using hb)) ?_ h
          have := VA.foldl_set off v.cells.toList v'.cells.toList 0 xs ys hcs.toList hv
          rw [← Array.foldl_toList, ← Array.foldl_toList, Array.toList_zipIdx, Array.toList_zipIdx]
          exact this

/-- Operations that turn nothing. -/
def quietOp (E : Env) : Op → Bool
  | .move _ | .assign _ | .pick .. | .build .. | .load .. | .nilCheck _ | .binOp .. | .unOp .. | .makeInterface .. | .makeFunc .. | .slice .. | .fieldAddr .. | .field ..
  | .indexAddr .. | .index .. | .lookup .. | .typeAssert .. | .extract .. => true
  | .convert _ dst _ => !toSlice E dst
  | .call { callee := .builtin b, .. } => match b with
    | .len | .cap | .min | .max => true
    | _ => false
  | _ => false

theorem map_prod {α β : Type} {s s' : β} {x : Option α} {v : α} (h : x.map (·, s) = some (v, s')) : x = some v ∧ s' = s := by
  cases x with
  | none => simp at h
  | some a => simp only [Option.map_some, Option.some.injEq, Prod.mk.injEq] at h; exact ⟨by rw [h.1], h.2.symm⟩

section
variable {E : Env} {B : Nat} {w₀ : World} (hE : E.Ok B w₀) {φ : Phi} {s : St} {w : World}

theorem bound_rel {v v' : Option Value} {d d' n : Nat} (hv : (v = none ∧ v' = none) ∨ ∃ x x', v = some x ∧ v' = some x' ∧ V B φ x x') (h : aBound v d = some n) :
    (v = none ∧ v' = none ∧ n = d) ∨ ∃ k i, v' = some (.int k i) ∧ 0 ≤ i ∧ n = i.toNat := by
  rcases hv with ⟨rfl, rfl⟩ | ⟨x, x', rfl, rfl, hx⟩
  · simp only [aBound, Option.some.injEq] at h; exact .inl ⟨rfl, rfl, h.symm⟩
  · unfold aBound at h
    split at h
    · rename_i hh; simp at hh
    · rename_i k i hh
      cases hh
      unfold asNat at h
      split at h
      · exact .inr ⟨k, i, by rw [hx.int_left], by assumption, by simpa using h.symm⟩
      · simp at h
    · simp at h

theorem run_sliceBound (P : Program) (w : World) (k : IntKind) (i : Int) (y : Nat) (code : BoundsCode) (h : 0 ≤ i ∧ i.toNat ≤ y) : (Instr.sliceBound (.int k i) y code).run P w = .ok i.toNat w := by
  have : 0 ≤ i ∧ i ≤ y := by omega
  simp [Instr.sliceBound, asIntOf, this]

/-- The three bounds, where they fit. -/
theorem run_bounds (P : Program) (w : World) (sl : Bool) (len cap : Nat) (lo hi mx : Option Value) (l h m : Nat)
    (hm : (mx = none ∧ m = cap) ∨ ∃ k i, mx = some (.int k i) ∧ 0 ≤ i ∧ m = i.toNat ∧ hi.isSome = true)
    (hh : (hi = none ∧ h = len) ∨ ∃ k i, hi = some (.int k i) ∧ 0 ≤ i ∧ h = i.toNat)
    (hl : (lo = none ∧ l = 0) ∨ ∃ k i, lo = some (.int k i) ∧ 0 ≤ i ∧ l = i.toNat) (h1 : l ≤ h) (h2 : h ≤ m) (h3 : m ≤ cap) :
    (Instr.sliceBounds sl len cap lo hi mx).run P w = .ok (l, h, m) w := by
  unfold Instr.sliceBounds
  rcases hm with ⟨rfl, rfl⟩ | ⟨km, im, rfl, hm0, rfl, hsome⟩
  · rcases hh with ⟨rfl, rfl⟩ | ⟨kh, ih, rfl, hh0, rfl⟩ <;> rcases hl with ⟨rfl, rfl⟩ | ⟨kl, il, rfl, hl0, rfl⟩ <;>
      simp [run_sliceBound, *]
  · rcases hh with ⟨rfl, rfl⟩ | ⟨kh, ih, rfl, hh0, rfl⟩
    · simp at hsome
    · rcases hl with ⟨rfl, rfl⟩ | ⟨kl, il, rfl, hl0, rfl⟩ <;> simp [run_sliceBound, *]

theorem Addr_add_zero (a : Addr) : a.add 0 = a := rfl

theorem aadd_block (a : Addr) (n : Nat) : (aadd a n).block = a.block ∧ (aadd a n).spot = a.spot ∧ (aadd a n).off = a.off + n := ⟨rfl, rfl, rfl⟩

/-- Moved along alike. -/
theorem V.pointer_add {a c : Addr} (h : V B φ (.pointer (some a)) (.pointer (some c))) (n : Nat) : V B φ (.pointer (some (aadd a n))) (.pointer (some (c.add n))) := by
  cases h with
  | pold _ hb hs =>
    obtain ⟨b, o, sp⟩ := a
    simp only at hs hb
    subst hs
    rw [add_none]
    exact .pold _ hb rfl
  | pnew f off e k hk hb =>
    rw [add_none, show off - k.base + n = off + n - k.base by omega]
    exact .pnew f (off + n) e k hk (by omega)

theorem V.pointer_some {a : Addr} {y : Value} (h : V B φ (.pointer (some a)) y) : ∃ c, y = .pointer (some c) := by cases h <;> exact ⟨_, rfl⟩

/-- Where a slice begins. -/
theorem V.slice_some {a : Addr} {l c : Nat} {y : Value} (h : V B φ (.slice (some a) l c) y) :
    (∃ c', y = .slice (some c') l c ∧ V B φ (.pointer (some a)) (.pointer (some c')) ∧ (a.spot = none ∨ c < unc)) ∨
    (∃ e k c', a.spot = some e ∧ c = unc ∧ φ a.block e = some k ∧ k.base ≤ a.off ∧ 0 < k.esz ∧ (a.off - k.base) / k.esz + l ≤ k.cap ∧ V B φ (.pointer (some a)) (.pointer (some c')) ∧ (a.off - k.base) % k.esz = 0 ∧
      y = .slice (some c') l (k.cap - (a.off - k.base) / k.esz)) ∨
    (∃ e k o, a.spot = some e ∧ c = unc ∧ l = 0 ∧ φ a.block e = some k ∧ k.base ≤ a.off ∧ 0 < k.esz ∧ k.cap ≤ (a.off - k.base) / k.esz ∧ (a.off - k.base) % k.esz = 0 ∧ y = .slice (some ⟨k.b, o, none⟩) 0 0) := by
  cases h with
  | sold _ _ _ hb hs => exact .inl ⟨a, rfl, .pold a hb hs, .inl hs⟩
  | snew f off e l k hk hb hz hl hd => exact .inr (.inl ⟨e, k, _, rfl, rfl, hk, hb, hz, hl, .pnew f off e k hk hb, hd, rfl⟩)
  | sfix f off e l c k hk hb hc => exact .inl ⟨_, rfl, .pnew f off e k hk hb, .inr hc⟩
  | snone f off e o k hk hb hz hl hd => exact .inr (.inr ⟨e, k, o, rfl, rfl, rfl, hk, hb, hz, hl, hd, rfl⟩)

end

end Go.Ai

/-
  THE SHORT RUN, 8: operations that turn nothing, one by one.
-/
set_option linter.unusedSimpArgs false
set_option linter.unusedVariables false
set_option linter.unusedSectionVars false
namespace Go.Ai
open Go

section
variable {E : Env} {B : Nat} {w₀ : World} (hE : E.Ok B w₀) {φ : Phi} {s : St}
include hE

theorem q_eqIn (d : Nat) {t : TypeId} {x y x' y' : Value} {b : Bool} (hx : V B φ x x') (hy : V B φ y y') (h : aEq E t x y = some b) (w : World) :
    (Op.equalIn (d + 1) t x' y').run E.P w = .ok b w := by
  unfold aEq at h
  split at h
  case h_1 e a hd => cases h; cases hx; obtain ⟨c, rfl⟩ := hy.pointer_some; simp only [Op.equalIn, Sem.run_bind, run_desc hE hd, Result.andThen_ok]; rfl
  case h_2 e a hd => cases h; cases hy; obtain ⟨c, rfl⟩ := hx.pointer_some; simp only [Op.equalIn, Sem.run_bind, run_desc hE hd, Result.andThen_ok]; rfl
  case h_3 e a b' hd =>
    split at h
    · rename_i n i j hn ha hb
      split at h
      · rename_i hc
        obtain ⟨hn0, hbl, rfl⟩ := hc
        cases h
        obtain ⟨ab, ao, as⟩ := a
        obtain ⟨bb, bo, bs⟩ := b'
        simp only at ha hb hbl
        subst ha; subst hb; subst hbl
        cases hx with
        | pold _ _ hs => simp at hs
        | pnew _ _ _ k hk hb =>
          cases hy with
          | pold _ _ hs => simp at hs
          | pnew _ _ _ k' hk' hb' =>
            obtain rfl : k = k' := by rw [hk] at hk'; exact Option.some.inj hk'
            simp only [Op.equalIn, Sem.run_bind, run_desc hE hd, Result.andThen_ok, run_size hE hn, hn0, sameAddr, ne_eq, not_false_eq_true, if_true, beq_self_eq_true]
            show Result.ok _ w = _
            congr 1
            by_cases hq : ao = bo
            · subst hq; simp
            · rw [beq_eq_false_iff_ne.2 hq, beq_eq_false_iff_ne]
              intro hh
              simp only [Addr.mk.injEq] at hh
              omega
      · simp at h
    · simp at h
  case h_4 e l c a l' c' hd => cases h; cases hx; cases hy <;> (simp only [Op.equalIn, Sem.run_bind, run_desc hE hd, Result.andThen_ok]; rfl)
  case h_5 e a l c l' c' hd => cases h; cases hy; cases hx <;> (simp only [Op.equalIn, Sem.run_bind, run_desc hE hd, Result.andThen_ok]; rfl)
  case h_6 ms t v hd => cases h; cases hx; cases hy; (simp only [Op.equalIn, Sem.run_bind, run_desc hE hd, Result.andThen_ok]; rfl)
  case h_7 ms t v hd => cases h; cases hx; cases hy; (simp only [Op.equalIn, Sem.run_bind, run_desc hE hd, Result.andThen_ok]; rfl)
  case h_8 k e f hd => cases h; cases hx; cases hy; (simp only [Op.equalIn, Sem.run_bind, run_desc hE hd, Result.andThen_ok]; rfl)
  case h_9 k e f hd => cases h; cases hx; cases hy; (simp only [Op.equalIn, Sem.run_bind, run_desc hE hd, Result.andThen_ok]; rfl)
  case h_10 p r vv fn a c hd => cases h; cases hx; cases hy; (simp only [Op.equalIn, Sem.run_bind, run_desc hE hd, Result.andThen_ok]; rfl)
  case h_11 p r vv fn a c hd => cases h; cases hx; cases hy; (simp only [Op.equalIn, Sem.run_bind, run_desc hE hd, Result.andThen_ok]; rfl)
  case h_12 => simp at h

theorem q_eq {t : TypeId} {x y x' y' : Value} {b : Bool} (hx : V B φ x x') (hy : V B φ y y') (h : aEq E t x y = some b) (w : World) :
    (Op.equal t x' y').run E.P w = .ok b w := q_eqIn hE 9999 hx hy h w

/-- What '==' with an address on a side is asked about. -/
def addrLike : Value → Bool
  | .pointer _ | .slice _ _ _ | .map _ | .func _ _ _ | .nilFunc | .iface _ _ => true
  | _ => false

omit hE in
theorem aEq_like {t : TypeId} {x y : Value} {b : Bool} (h : aEq E t x y = some b) : (addrLike x = true ∧ (addrLike y = true ∨ y = .nilIface)) ∨ (x = .nilIface ∧ addrLike y = true) := by
  unfold aEq at h
  split at h <;> simp_all [addrLike]

omit hE in
theorem V.addrLike {x y : Value} (h : V B φ x y) : addrLike y = addrLike x := by cases h <;> rfl

omit hE in
theorem run_guard (op : BinOp) (t : TypeId) (xo yo : Operand) (x y : Value) (w : World) (hl : (addrLike x = true ∧ (addrLike y = true ∨ y = .nilIface)) ∨ (x = .nilIface ∧ addrLike y = true)) :
    (eqGuard op t xo yo x y).run E.P w = .ok () w := by
  unfold eqGuard
  cases op <;> first
    | rfl
    | (rcases hl with ⟨h1, h2⟩ | ⟨rfl, h2⟩
       · cases x <;> first | (simp [Ai.addrLike] at h1; done) | rfl
       · cases y <;> first | (simp [Ai.addrLike] at h2; done) | rfl)

omit hE in
theorem run_binEq (t : TypeId) (x y : Value) (b : Bool) (w : World) (hl : (addrLike x = true ∧ (addrLike y = true ∨ y = .nilIface)) ∨ (x = .nilIface ∧ addrLike y = true))
    (h : (Op.equal t x y).run E.P w = .ok b w) : (binOp .eql t x y).run E.P w = .ok (.bool b) w ∧ (binOp .neq t x y).run E.P w = .ok (.bool (!b)) w := by
  rcases hl with ⟨h1, h2⟩ | ⟨rfl, h2⟩
  · cases x <;> first
      | (simp [Ai.addrLike] at h1; done)
      | (rcases h2 with h2 | rfl
         · cases y <;> first | (simp [Ai.addrLike] at h2; done) | (simp only [binOp, Sem.run_bind, h, Result.andThen_ok]; exact ⟨rfl, rfl⟩)
         · simp only [binOp, Sem.run_bind, h, Result.andThen_ok]; exact ⟨rfl, rfl⟩)
  · cases y <;> first | (simp [Ai.addrLike] at h2; done) | (simp only [binOp, Sem.run_bind, h, Result.andThen_ok]; exact ⟨rfl, rfl⟩)

theorem q_bin {op : BinOp} {t : TypeId} {xo yo : Operand} {x y x' y' v : Value} (hx : V B φ x x') (hy : V B φ y y') (h : aBin E op t xo yo x y = some v) (w : World) :
    ∃ v', (do eqGuard op t xo yo x' y'; binOp op t x' y' : Sem Value).run E.P w = .ok v' w ∧ V B φ v v' := by
  unfold aBin at h
  split at h
  · rename_i hf
    simp only [Bool.and_eq_true] at hf
    obtain rfl := hx.flat_right hf.1
    obtain rfl := hy.flat_right hf.2
    obtain ⟨h1, h2⟩ := pureFlat_spec h
    exact ⟨v, h2 w, .refl_of_flat B φ v h1⟩
  · split at h
    · cases hq : aEq E t x y with
      | none => simp [hq] at h
      | some b =>
        simp only [hq, Option.map_some, Option.some.injEq] at h
        subst h
        have hl := aEq_like hq
        rw [← hx.addrLike, ← hy.addrLike] at hl
        have hl' : (addrLike x' = true ∧ (addrLike y' = true ∨ y' = .nilIface)) ∨ (x' = .nilIface ∧ addrLike y' = true) := by
          rcases hl with ⟨h1, h2 | rfl⟩ | ⟨rfl, h2⟩
          · exact .inl ⟨h1, .inl h2⟩
          · exact .inl ⟨h1, .inr (hy.flat_right rfl)⟩
          · exact .inr ⟨hx.flat_right rfl, h2⟩
        exact ⟨.bool b, by rw [Sem.run_bind, run_guard _ _ _ _ _ _ w hl', Result.andThen_ok]; exact (run_binEq t x' y' b w hl' (q_eq hE hx hy hq w)).1, .bool b⟩
    · cases hq : aEq E t x y with
      | none => simp [hq] at h
      | some b =>
        simp only [hq, Option.map_some, Option.some.injEq] at h
        subst h
        have hl := aEq_like hq
        rw [← hx.addrLike, ← hy.addrLike] at hl
        have hl' : (addrLike x' = true ∧ (addrLike y' = true ∨ y' = .nilIface)) ∨ (x' = .nilIface ∧ addrLike y' = true) := by
          rcases hl with ⟨h1, h2 | rfl⟩ | ⟨rfl, h2⟩
          · exact .inl ⟨h1, .inl h2⟩
          · exact .inl ⟨h1, .inr (hy.flat_right rfl)⟩
          · exact .inr ⟨hx.flat_right rfl, h2⟩
        exact ⟨.bool (!b), by rw [Sem.run_bind, run_guard _ _ _ _ _ _ w hl', Result.andThen_ok]; exact (run_binEq t x' y' b w hl' (q_eq hE hx hy hq w)).2, .bool (!b)⟩
    · simp at h

/-- What the machine's value of an optional operand has to do with ours. -/
def VO (B : Nat) (φ : Phi) (v v' : Option Value) : Prop := (v = none ∧ v' = none) ∨ ∃ x x', v = some x ∧ v' = some x' ∧ V B φ x x'

omit hE in
theorem VO.flat {v v' : Option Value} (h : VO B φ v v') (hf : (v.map flat).getD true = true) : v' = v := by
  rcases h with ⟨rfl, rfl⟩ | ⟨x, x', rfl, rfl, hx⟩
  · rfl
  · rw [hx.flat_right (by simpa using hf)]

omit hE in
theorem VO.bound {v v' : Option Value} {d n : Nat} (h : VO B φ v v') (hb : aBound v d = some n) : (v' = none ∧ n = d) ∨ ∃ k i, v' = some (.int k i) ∧ 0 ≤ i ∧ n = i.toNat := by
  rcases bound_rel (d' := 0) h hb with ⟨_, h1, h2⟩ | h1
  · exact .inl ⟨h1, h2⟩
  · exact .inr h1

omit hE in
theorem V.pointer_new {a c : Addr} {e : Nat} (h : V B φ (.pointer (some a)) (.pointer (some c))) (he : a.spot = some e) : ∃ k, φ a.block e = some k ∧ k.base ≤ a.off ∧ c = ⟨k.b, a.off - k.base, none⟩ := by
  cases h with
  | pold _ _ hs => rw [he] at hs; simp at hs
  | pnew f off e' k hk hb => cases he; exact ⟨k, hk, hb, rfl⟩

omit hE in
theorem V.slice_mk {a c : Addr} {l cap : Nat} (h : V B φ (.pointer (some a)) (.pointer (some c))) (hc : a.spot = none ∨ cap < unc) : V B φ (.slice (some a) l cap) (.slice (some c) l cap) := by
  cases h with
  | pold _ hb hs => exact .sold _ _ _ hb hs
  | pnew f off e k hk hb => exact .sfix f off e l cap k hk hb (hc.resolve_left (by simp))

omit hE in
theorem V.slice_cut {a c : Addr} {l cap n : Nat} (m : Nat) (h : V B φ (.pointer (some a)) (.pointer (some c))) (hc : a.spot = none ∨ cap < unc) :
    V B φ (.slice (some (if m = n then a else aadd a n)) l cap) (.slice (some (if m = n then c else c.add n)) l cap) := by
  split
  · exact V.slice_mk h hc
  · exact V.slice_mk (h.pointer_add n) hc

omit hE in
theorem V.slice_cut' {a c : Addr} {l cap n m k : Nat} (h : V B φ (.pointer (some a)) (.pointer (some c))) (hc : a.spot = none ∨ cap < unc) :
    V B φ (.slice (some (if m = k then a else aadd a n)) l cap) (.slice (some (if m = k then c else c.add n)) l cap) := by
  split
  · exact V.slice_mk h hc
  · exact V.slice_mk (h.pointer_add n) hc

omit hE in
theorem div_fits {n b o k m : Nat} (hz : 0 < m) (hb : b ≤ o) (h : n ≤ b + k * m) : (n - o) / m ≤ k - (o - b) / m := by
  have h1 := Nat.div_mul_le_self (n - o) m
  have h2 := Nat.div_mul_le_self (o - b) m
  by_cases hno : o ≤ n
  · have h3 : ((n - o) / m + (o - b) / m) * m ≤ k * m := by rw [Nat.add_mul]; omega
    have := Nat.le_of_mul_le_mul_right h3 hz
    omega
  · have : n - o = 0 := by omega
    simp [this]

omit hE in
/-- A slice that reaches to its array's end, of a row's last growth's time. -/
theorem V.slice_unc {a : Addr} {len : Nat} {x' : Value} {w : World} (hR : R B w₀ φ s.get w) (hx : V B φ (.slice (some a) len unc) x') {cells : List Value} {esz ep lw : Nat} {hist : List Nat}
    (hg : s.get a.block = some (.row cells esz ep lw hist)) (hep : a.spot = some ep) (hlw : lw ≤ ep) :
    ∃ k c' cap', φ a.block ep = some k ∧ k.esz = esz ∧ 0 < esz ∧ x' = .slice (some c') len cap' ∧ k.base ≤ a.off ∧ (a.off - k.base) % esz = 0 ∧ cells.length ≤ k.base + k.cap * esz ∧ len ≤ cap' ∧ (cells.length - a.off) / esz ≤ cap' ∧
      ((V B φ (.pointer (some a)) (.pointer (some c')) ∧ cap' = k.cap - (a.off - k.base) / esz ∧ (a.off - k.base) / esz + len ≤ k.cap) ∨
       (len = 0 ∧ cap' = 0 ∧ k.cap ≤ (a.off - k.base) / esz ∧ ∃ o, c' = ⟨k.b, o, none⟩)) := by
  have hrow : ∀ k, φ a.block ep = some k → k.esz = esz ∧ 0 < esz ∧ cells.length ≤ k.base + k.cap * esz := by
    intro k hk
    obtain ⟨_, _, h2⟩ := hR.row _ _ _ _ _ _ _ _ hg hk
    obtain ⟨a1, a2, cs, t, fr, a3, a4, a5, a6, a7⟩ := h2 hlw
    refine ⟨a2, a1, ?_⟩
    rw [← a4]; simpa [ext] using a5
  rcases hx.slice_some with ⟨c', h1, h2, h3 | h3⟩ | ⟨e, k, c', h1, _, h3, h4, h5, h6, h7, hdv, h8⟩ | ⟨e, k, o, h1, _, h3, h4, h5, h6, h7, hdv, h8⟩
  · rw [hep] at h3; simp at h3
  · simp [unc] at h3
  · rw [hep] at h1; cases h1
    obtain ⟨rfl, hz, hle⟩ := hrow k h3
    refine ⟨k, c', _, h3, rfl, hz, h8, h4, hdv, hle, by omega, ?_, .inl ⟨h7, rfl, h6⟩⟩
    exact div_fits hz h4 hle
  · rw [hep] at h1; cases h1
    obtain ⟨rfl, hz, hle⟩ := hrow k h4
    subst h3
    refine ⟨k, _, 0, h4, rfl, hz, h8, h5, hdv, hle, Nat.le_refl _, ?_, .inr ⟨rfl, rfl, h7, o, rfl⟩⟩
    have := div_fits hz h5 hle
    omega


theorem q_slice {t : TypeId} {x x' v : Value} {lo lo' hi hi' mx mx' : Option Value} {w : World} (hR : R B w₀ φ s.get w) (hx : V B φ x x') (hlo : VO B φ lo lo') (hhi : VO B φ hi hi') (hmx : VO B φ mx mx')
    (hsome : mx.isSome = true → hi.isSome = true) (h : aSlice E s t x lo hi mx = some v) : ∃ v', (Instr.sliceAt t x' lo' hi' mx').run E.P w = .ok v' w ∧ V B φ v v' := by
  have hsome' : mx'.isSome = true → hi'.isSome = true := by
    rcases hmx with ⟨rfl, rfl⟩ | ⟨_, _, rfl, rfl, _⟩
    · simp
    · rcases hhi with ⟨rfl, rfl⟩ | ⟨_, _, rfl, rfl, _⟩
      · simp at hsome
      · simp
  unfold aSlice at h
  split at h
  · rename_i hf
    obtain rfl := hx.flat_right hf
    split at h
    · rename_i hb
      simp only [Bool.and_eq_true] at hb
      obtain rfl := hlo.flat hb.1.1
      obtain rfl := hhi.flat hb.1.2
      obtain rfl := hmx.flat hb.2
      obtain ⟨h1, h2⟩ := pureFlat_spec h
      exact ⟨v, h2 w, .refl_of_flat B φ v h1⟩
    · simp at h
  · split at h
    next elem a len cap hd hnf =>
      split at h
      next n l hh hn hbl hbh =>
        have hl' := hlo.bound hbl
        have hh' := hhi.bound hbh
        split at h
        next hn0 =>
          split at h
          next hnew =>
            obtain ⟨hsp, rfl⟩ := hnew
            split at h
            next hc =>
              simp only [Bool.and_eq_true, Bool.or_eq_true, decide_eq_true_eq] at hc
              obtain ⟨⟨hesz, hlh⟩, hroom⟩ := hc
              unfold eszIs at hesz
              split at hesz
              next cells esz ep lw hist hg =>
                simp only [Bool.and_eq_true, decide_eq_true_eq, beq_iff_eq] at hesz
                obtain ⟨⟨rfl, hep⟩, hlw⟩ := hesz
                have hroomAt : roomAt s a esz = (cells.length - a.off) / esz := by
                  unfold roomAt
                  rw [← hep, hg]
                  simp [hlw]
                obtain ⟨k, c', cap', hk, hke, hz, rfl, hbase, hdv, hfit, hlen, hrm, hcase⟩ := hx.slice_unc hR hg hep.symm hlw
                have hrm' : ∀ m, (m ≤ len ∨ m ≤ roomAt s a esz) → m ≤ cap' := fun m hm => by rcases hm with hm | hm; omega; rw [hroomAt] at hm; omega
                have hhc := hrm' hh hroom
                have hmul : (a.off + l * esz - k.base) / esz = (a.off - k.base) / esz + l := by
                  rw [show a.off + l * esz - k.base = (a.off - k.base) + l * esz by omega, Nat.add_mul_div_right _ _ hz]
                have hmod : (a.off + l * esz - k.base) % esz = 0 := by
                  rw [show a.off + l * esz - k.base = (a.off - k.base) + l * esz by omega, Nat.add_mul_mod_self_right]
                  exact hdv
                split at h
                next =>
                  cases h
                  have hmx' : mx' = none := by rcases hmx with ⟨_, h2⟩ | ⟨_, _, h1, _⟩; exact h2; simp at h1
                  subst hmx'
                  have hb := run_bounds E.P w true len cap' lo' hi' none l hh cap' (.inl ⟨rfl, rfl⟩) hh' hl' hlh hhc (Nat.le_refl _)
                  refine ⟨_, by simp only [Instr.sliceAt, Sem.run_bind, run_desc hE hd, Result.andThen_ok, Instr.slice, hb, run_size hE hn, Sem.run_pure]; rfl, ?_⟩
                  have haadd : aadd a (l * esz) = ⟨a.block, a.off + l * esz, some ep⟩ := by unfold aadd; rw [← hep]
                  rw [haadd]
                  by_cases hcl : cap' = l
                  · subst hcl
                    have : hh = cap' := by omega
                    subst this
                    simp only [if_true, Nat.sub_self]
                    have hcb : ∃ o, c' = ⟨k.b, o, none⟩ := by
                      rcases hcase with ⟨h1, _, _⟩ | ⟨_, _, _, h1⟩
                      · obtain ⟨k', hk', _, rfl⟩ := h1.pointer_new hep.symm
                        rw [hk] at hk'; cases hk'; exact ⟨_, rfl⟩
                      · exact h1
                    obtain ⟨o, rfl⟩ := hcb
                    refine .snone a.block _ ep o k hk (by omega) (by omega) ?_ (by rw [hke]; exact hmod)
                    rw [hke, hmul]
                    rcases hcase with ⟨_, h2, h3⟩ | ⟨_, h2, h3, _⟩ <;> omega
                  · rw [if_neg hcl]
                    rcases hcase with ⟨h1, h2, h3⟩ | ⟨h1, h2, h3, h4⟩
                    · obtain ⟨k', hk', _, rfl⟩ := h1.pointer_new hep.symm
                      rw [hk] at hk'; cases hk'
                      have := V.snew (B := B) (φ := φ) a.block (a.off + l * esz) ep (hh - l) k hk (by omega) (by omega) (by rw [hke, hmul]; omega) (by rw [hke]; exact hmod)
                      rw [hke, hmul] at this
                      simp only [Option.map_some, add_none]
                      rw [show a.off - k.base + l * esz = a.off + l * esz - k.base by omega, show cap' - l = k.cap - ((a.off - k.base) / esz + l) by omega]
                      exact this
                    · omega
                next mv =>
                  split at h
                  next m hm =>
                    split at h
                    next hc2 =>
                      obtain ⟨c1, c2, c3, c4⟩ := hc2
                      cases h
                      have hmc := hrm' m c2
                      have hmm : ∃ k i, mx' = some (.int k i) ∧ 0 ≤ i ∧ m = i.toNat := by
                        rcases hmx.bound hm with ⟨h1, _⟩ | h1
                        · rcases hmx with ⟨h2, _⟩ | ⟨_, _, _, h2, _⟩
                          · simp at h2
                          · rw [h1] at h2; simp at h2
                        · exact h1
                      obtain ⟨km, im, hmx1, hm0, hmi⟩ := hmm
                      have hb := run_bounds E.P w true len cap' lo' hi' mx' l hh m (.inr ⟨km, im, hmx1, hm0, hmi, hsome' (by simp [hmx1])⟩) hh' hl' hlh c1 hmc
                      refine ⟨_, by simp only [Instr.sliceAt, Sem.run_bind, run_desc hE hd, Result.andThen_ok, Instr.slice, hb, run_size hE hn, Sem.run_pure]; rfl, ?_⟩
                      have hptr : V B φ (.pointer (some a)) (.pointer (some c')) := by
                        rcases hcase with ⟨h1, _, _⟩ | ⟨h1, _⟩
                        · exact h1
                        · omega
                      have := hptr.slice_cut' (l := hh - l) (cap := m - l) (n := l * esz) (m := m) (k := l) (.inr c3)
                      split <;> simp_all
                    next => simp at h
                  next => simp at h
              next => simp at hesz
            next => simp at h
          next hold =>
            split at h
            next m hm =>
              split at h
              next hc2 =>
                obtain ⟨c1, c2, c3⟩ := hc2
                cases h
                have hmm : (mx' = none ∧ m = cap) ∨ ∃ k i, mx' = some (.int k i) ∧ 0 ≤ i ∧ m = i.toNat ∧ hi'.isSome = true := by
                  rcases hmx.bound hm with ⟨h1, h2⟩ | ⟨k, i, h1, h2, h3⟩
                  · exact .inl ⟨h1, h2⟩
                  · exact .inr ⟨k, i, h1, h2, h3, hsome' (by simp [h1])⟩
                rcases hx.slice_some with ⟨c', rfl, h2, h3⟩ | ⟨e, k, c', h1, h2, _⟩ | ⟨e, k, o, h1, h2, _⟩
                · have hb := run_bounds E.P w true len cap lo' hi' mx' l hh m hmm hh' hl' c1 c2 c3
                  refine ⟨_, by simp only [Instr.sliceAt, Sem.run_bind, run_desc hE hd, Result.andThen_ok, Instr.slice, hb, run_size hE hn, Sem.run_pure]; rfl, ?_⟩
                  have := h2.slice_cut' (l := hh - l) (cap := m - l) (n := l * n) (m := m) (k := l) (h3.imp id (by omega))
                  split <;> simp_all
                · exact absurd ⟨by simp [h1], h2⟩ hold
                · exact absurd ⟨by simp [h1], h2⟩ hold
              next => simp at h
            next => simp at h
        next => simp at h
      next => simp at h
    next k elem a hd hnf =>
      split at h
      next n l hh m hn hbl hbh hbm =>
        split at h
        next hc2 =>
          obtain ⟨c1, c2, c3, c4⟩ := hc2
          cases h
          obtain ⟨c', rfl⟩ := hx.pointer_some
          have hmm : (mx' = none ∧ m = k) ∨ ∃ k i, mx' = some (.int k i) ∧ 0 ≤ i ∧ m = i.toNat ∧ hi'.isSome = true := by
            rcases hmx.bound hbm with ⟨h1, h2⟩ | ⟨k, i, h1, h2, h3⟩
            · exact .inl ⟨h1, h2⟩
            · exact .inr ⟨k, i, h1, h2, h3, hsome' (by simp [h1])⟩
          have hb := run_bounds E.P w false k k lo' hi' mx' l hh m hmm (hhi.bound hbh) (hlo.bound hbl) c1 c2 c3
          refine ⟨_, by simp only [Instr.sliceAt, Sem.run_bind, run_desc hE hd, Result.andThen_ok, Instr.sureAddr, hb, run_size hE hn, Sem.run_pure]; rfl, ?_⟩
          have := hx.slice_cut' (l := hh - l) (cap := m - l) (n := l * n) (m := m) (k := l) (.inr c4)
          split <;> simp_all
        next => simp at h
      next => simp at h
    next => simp at h

end

end Go.Ai

/-
  THE SHORT RUN, 9: the other operations that turn nothing, and all of them in one.
-/
set_option linter.unusedSimpArgs false
set_option linter.unusedVariables false
set_option linter.unusedSectionVars false
namespace Go.Ai
open Go

section
variable {E : Env} {B : Nat} {w₀ : World} (hE : E.Ok B w₀) {φ : Phi} {s : St}
include hE

theorem q_places {fields : Array Field} {places : Array (Nat × Nat)} (h : aPlaces E fields = some places) (w : World) :
    (fields.mapM fun f => (do pure (f.offset, ← sizeOf f.type) : Sem (Nat × Nat))).run E.P w = .ok places w := by
  unfold aPlaces at h
  obtain ⟨l⟩ := fields
  rw [← Array.toArray_toList (xs := places)] at *
  generalize places.toList = ps at *
  simp only [List.mapM_toArray, Option.map_eq_map, Option.map_eq_some_iff, Sem.run_map] at h ⊢
  obtain ⟨a, ha, hps⟩ := h
  have : a = ps := by simpa using hps
  subst this
  have key : ∀ (l : List Field) (a : List (Nat × Nat)), l.mapM (fun f => (E.size f.type).map fun n => (f.offset, n)) = some a →
      (l.mapM fun f => (do pure (f.offset, ← sizeOf f.type) : Sem (Nat × Nat))).run E.P w = .ok a w := by
    intro l
    induction l with
    | nil => intro a h; simp at h; subst h; rfl
    | cons f l ih =>
      intro a h
      simp only [List.mapM_cons] at h ⊢
      cases hn : E.size f.type with
      | none => simp [hn] at h
      | some n =>
        simp only [hn, Option.map_some, Option.pure_def, Option.bind_eq_bind, Option.bind_some] at h
        cases hl : l.mapM (fun f => (E.size f.type).map fun n => (f.offset, n)) with
        | none => simp [hl] at h
        | some r =>
          simp only [hl, Option.bind_some, Option.some.injEq] at h
          subst h
          simp only [Sem.run_bind, run_size hE hn, ih _ hl, Result.andThen_ok, Sem.run_pure]
  rw [key _ _ ha]
  rfl

theorem q_build {t : TypeId} {ps ps' : Array (Nat × Value)} {v : Value} (hl : ps.size = ps'.size)
    (hp : ∀ (i : Nat) (p p' : Nat × Value), ps[i]? = some p → ps'[i]? = some p' → p.1 = p'.1 ∧ V B φ p.2 p'.2) (h : aBuild E t ps = some v) (w : World) :
    ∃ v', (Instr.build t ps').run E.P w = .ok v' w ∧ V B φ v v' := by
  have hl' : ps.toList.length = ps'.toList.length := by simpa using hl
  have hp' : ∀ (i : Nat) (p p' : Nat × Value), ps.toList[i]? = some p → ps'.toList[i]? = some p' → p.1 = p'.1 ∧ V B φ p.2 p'.2 := fun i p p' h1 h2 => hp i p p' (by simpa using h1) (by simpa using h2)
  unfold aBuild at h
  split at h
  next z fields hz hd =>
    split at h
    next places hpl =>
      cases hf : Instr.fill (places[·]?) z.cells ps.toList with
      | none => simp [hf] at h
      | some r =>
        simp only [hf, Option.map_some, Option.some.injEq] at h
        subst h
        obtain ⟨r', h1, h2⟩ := fill_rel (B := B) (φ := φ) (places[·]?) ps.toList ps'.toList z.cells z.cells r hl' hp' (V.refl_of_flat B φ z (hE.zero _ _ hz).1).cells hf
        refine ⟨.agg r', ?_, .agg h2.1 h2.2⟩
        unfold Instr.build
        simp only [Sem.run_bind, run_zero hE hz, run_desc hE hd, Result.andThen_ok, q_places hE hpl, h1, Sem.run_pure]
    next => simp at h
  next z k elem hz hd =>
    split at h
    next n hn =>
      cases hf : Instr.fill (fun i => some (i * n, n)) z.cells ps.toList with
      | none => simp [hf] at h
      | some r =>
        simp only [hf, Option.map_some, Option.some.injEq] at h
        subst h
        obtain ⟨r', h1, h2⟩ := fill_rel (B := B) (φ := φ) (fun i => some (i * n, n)) ps.toList ps'.toList z.cells z.cells r hl' hp' (V.refl_of_flat B φ z (hE.zero _ _ hz).1).cells hf
        refine ⟨.agg r', ?_, .agg h2.1 h2.2⟩
        unfold Instr.build
        simp only [Sem.run_bind, run_zero hE hz, run_desc hE hd, Result.andThen_ok, run_size hE hn, h1, Sem.run_pure]
    next => simp at h
  next => simp at h

omit hE in
theorem aInt_some {i i' : Value} {n : Int} (hi : V B φ i i') (h : aInt i = some n) : ∃ k, i' = .int k n := by
  unfold aInt at h
  split at h
  · cases h; exact ⟨_, hi.int_left⟩
  · simp at h

theorem q_indexAddr {t : TypeId} {x x' i i' v : Value} (hx : V B φ x x') (hi : V B φ i i') (h : aIndexAddr E t x i = some v) (w : World) :
    ∃ v', (Instr.indexAt t x' i').run E.P w = .ok v' w ∧ V B φ v v' := by
  unfold aIndexAddr at h
  split at h
  next => simp at h
  next n hn =>
    obtain ⟨k, rfl⟩ := aInt_some hi hn
    split at h
    next len elem a hd =>
      obtain ⟨c, rfl⟩ := hx.pointer_some
      split at h
      next sz hsz =>
        split at h
        next hb =>
          cases h
          refine ⟨.pointer (some (c.add (n.toNat * sz))), ?_, hx.pointer_add _⟩
          simp [Instr.indexAt, asIntOf, run_desc hE hd, Instr.sureAddr, run_size hE hsz, hb]
        next => simp at h
      next => simp at h
    next elem a len cap hd =>
      split at h
      next sz hsz =>
        split at h
        next hb =>
          cases h
          have hlen : 0 < len := by omega
          have : ∃ c cap', x' = .slice (some c) len cap' ∧ V B φ (.pointer (some a)) (.pointer (some c)) := by
            rcases hx.slice_some with ⟨c, h1, h2, _⟩ | ⟨_, _, c, _, _, _, _, _, _, h1, _, h2⟩ | ⟨_, _, _, _, _, h1, _⟩
            · exact ⟨c, _, h1, h2⟩
            · exact ⟨c, _, h2, h1⟩
            · omega
          obtain ⟨c, cap', rfl, hp⟩ := this
          refine ⟨.pointer (some (c.add (n.toNat * sz))), ?_, hp.pointer_add _⟩
          simp [Instr.indexAt, asIntOf, run_desc hE hd, Instr.sureAddr, run_size hE hsz, hb]
        next => simp at h
      next => simp at h
    next => simp at h

theorem q_index {t : TypeId} {x x' i i' v : Value} (hx : V B φ x x') (hi : V B φ i i') (h : aIndex E t x i = some v) (w : World) :
    ∃ v', (Instr.index t x' i').run E.P w = .ok v' w ∧ V B φ v v' := by
  unfold aIndex at h
  split at h
  next b =>
    split at h
    next hf =>
      rw [hx.string_left, hi.flat_right hf]
      obtain ⟨h1, h2⟩ := pureFlat_spec h
      exact ⟨v, h2 w, .refl_of_flat B φ v h1⟩
    next => simp at h
  next cs =>
    obtain ⟨cs', rfl, hcs⟩ := VA.of_agg hx
    split at h
    next n len elem hn hd =>
      obtain ⟨k, rfl⟩ := aInt_some hi hn
      split at h
      next sz hsz =>
        split at h
        next hb =>
          obtain ⟨y, h1, h2⟩ := run_part hE h hcs w
          exact ⟨y, by simp [Instr.index, asIntOf, run_desc hE hd, run_size hE hsz, hb, h1], h2⟩
        next => simp at h
      next => simp at h
    next => simp at h
  next => simp at h

theorem q_fieldAddr {t : TypeId} {x x' v : Value} {f : Nat} (hx : V B φ x x') (h : aFieldAddr E t x f = some v) (w : World) :
    ∃ v', (Instr.fieldAt t x' f).run E.P w = .ok v' w ∧ V B φ v v' := by
  unfold aFieldAddr at h
  split at h
  next fields a hd =>
    obtain ⟨c, rfl⟩ := hx.pointer_some
    split at h
    next fd hfd =>
      split at h
      next n hn =>
        split at h
        next => simp at h
        next hn0 =>
          cases h
          exact ⟨.pointer (some (c.add fd.offset)), by simp [Instr.fieldAt, run_desc hE hd, hfd, Instr.sureAddr, fieldPlace, run_size hE hn, hn0], hx.pointer_add _⟩
      next => simp at h
    next => simp at h
  next => simp at h

theorem q_field {t : TypeId} {x x' v : Value} {f : Nat} (hx : V B φ x x') (h : aField E t x f = some v) (w : World) :
    ∃ v', (Instr.field t x' f).run E.P w = .ok v' w ∧ V B φ v v' := by
  unfold aField at h
  split at h
  next fields cs hd =>
    obtain ⟨cs', rfl, hcs⟩ := VA.of_agg hx
    split at h
    next fd hfd =>
      obtain ⟨y, h1, h2⟩ := run_part hE h hcs w
      exact ⟨y, by simp [Instr.field, run_desc hE hd, hfd, asAgg, h1], h2⟩
    next => simp at h
  next => simp at h

theorem V.tuple2 {x x' y y' : Value} (hx : V B φ x x') (hy : V B φ y y') : V B φ (.tuple #[x, y]) (.tuple #[x', y']) := by
  refine .tuple rfl fun i a b ha hb => ?_
  match i with
  | 0 => simp at ha hb; subst ha; subst hb; exact hx
  | 1 => simp at ha hb; subst ha; subst hb; exact hy
  | i + 2 => simp at ha

theorem q_typeAssert {xt t : TypeId} {x x' v : Value} {ok : Bool} (hx : V B φ x x') (h : aTypeAssert E x t ok = some v) (w : World) :
    ∃ v', (Instr.typeAssert x' xt t ok).run E.P w = .ok v' w ∧ V B φ v v' := by
  have hz : ∀ z, E.zero t = some z → V B φ z z := fun z hz => V.refl_of_flat B φ z (hE.zero _ _ hz).1
  unfold aTypeAssert at h
  split at h
  next => simp at h
  next => simp at h
  next d hni hd =>
    split at h
    next u y =>
      cases hx with
      | iface _ hy =>
        rename_i y'
        split at h
        next hu =>
          cases h
          cases ok with
          | true =>
            refine ⟨.tuple #[y', .bool true], ?_, V.tuple2 hE hy (.bool true)⟩
            subst hu
            unfold Instr.typeAssert
            simp only [Sem.run_bind, run_desc hE hd, Result.andThen_ok]
            cases d <;> first | (exfalso; exact hni _ hd; done) | simp
          | false =>
            refine ⟨y', ?_, hy⟩
            subst hu
            unfold Instr.typeAssert
            simp only [Sem.run_bind, run_desc hE hd, Result.andThen_ok]
            cases d <;> first | (exfalso; exact hni _ hd; done) | simp
        next hu =>
          split at h
          next hok =>
            cases hzz : E.zero t with
            | none => simp [hzz] at h
            | some z =>
              simp only [hzz, Option.map_some, Option.some.injEq] at h
              subst h
              refine ⟨.tuple #[z, .bool false], ?_, V.tuple2 hE (hz z hzz) (.bool false)⟩
              unfold Instr.typeAssert
              simp only [Sem.run_bind, run_desc hE hd, Result.andThen_ok]
              cases d <;> first | (exfalso; exact hni _ hd; done) | simp [hu, hok, run_zero hE hzz]
          next => simp at h
    next =>
      rw [hx.flat_right rfl]
      split at h
      next hok =>
        cases hzz : E.zero t with
        | none => simp [hzz] at h
        | some z =>
          simp only [hzz, Option.map_some, Option.some.injEq] at h
          subst h
          refine ⟨.tuple #[z, .bool false], ?_, V.tuple2 hE (hz z hzz) (.bool false)⟩
          unfold Instr.typeAssert
          simp only [Sem.run_bind, run_desc hE hd, Result.andThen_ok]
          cases d <;> first | (exfalso; exact hni _ hd; done) | simp [hok, run_zero hE hzz]
      next => simp at h
    next => simp at h


/-! Maps. -/
omit hE in
theorem sameNow_keyIs {d : TypeDesc} {k key : Value} {b : Bool} (h : keyIs k key = some b) (hf : keyFits d k = true) : Instr.sameNow d k key = some b := by
  cases d <;> cases k <;> simp [keyFits] at hf <;> cases key <;> simp_all [keyIs, Instr.sameNow]

omit hE in
theorem findNow_rel {kt : TypeId} {d : TypeDesc} {k : Value} (hf : keyFits d k = true) : ∀ (es : List (Value × Value)) (ces : List MapEntry) (i : Nat) (r : Option (Nat × Value)), es.length = ces.length →
    (∀ (j : Nat) (x : Value × Value) (e : MapEntry), es[j]? = some x → ces[j]? = some e → e.key = x.1 ∧ V B φ x.2 e.val) → findAt (keyEq E kt d k) es i = some r →
    ∃ r', Instr.findNow d k ces i = some r' ∧ ((r = none ∧ r' = none) ∨ ∃ j v v', r = some (j, v) ∧ r' = some (j, v') ∧ V B φ v v' ∧ i ≤ j ∧ j < i + es.length) := by
  intro es
  induction es with
  | nil =>
    intro ces i r hl hp h
    obtain rfl : ces = [] := by simpa using hl.symm
    simp only [findAt, Option.some.injEq] at h
    subst h
    exact ⟨none, rfl, .inl ⟨rfl, rfl⟩⟩
  | cons x es ih =>
    intro ces i r hl hp h
    cases ces with
    | nil => simp at hl
    | cons e ces =>
      obtain ⟨h1, h2⟩ := hp 0 x e rfl rfl
      have hq : keyEq E kt d k x.1 = keyIs k x.1 := by unfold keyEq; rw [if_pos hf]
      simp only [findAt, hq] at h
      split at h
      next hk =>
        cases h
        refine ⟨some (i, e.val), ?_, .inr ⟨i, x.2, e.val, rfl, rfl, h2, Nat.le_refl _, by simp⟩⟩
        simp only [Instr.findNow, h1, sameNow_keyIs hk hf]
      next hk =>
        obtain ⟨r', h3, h4⟩ := ih ces (i + 1) r (by simpa using hl) (fun j a b ha hb => hp (j + 1) a b (by simpa using ha) (by simpa using hb)) h
        refine ⟨r', by simp only [Instr.findNow, h1, sameNow_keyIs hk hf]; exact h3, ?_⟩
        rcases h4 with h4 | ⟨j, v, v', a1, a2, a3, a4, a5⟩
        · exact .inl h4
        · exact .inr ⟨j, v, v', a1, a2, a3, by omega, by simp; omega⟩
      next => simp at h

omit hE in
theorem findAsking_rel {kt : TypeId} {d : TypeDesc} {k : Value} (hf : keyFits d k = false) (w : World) : ∀ (es : List (Value × Value)) (ces : List MapEntry) (i : Nat) (r : Option (Nat × Value)), es.length = ces.length →
    (∀ (j : Nat) (x : Value × Value) (e : MapEntry), es[j]? = some x → ces[j]? = some e → e.key = x.1 ∧ V B φ x.2 e.val) → findAt (keyEq E kt d k) es i = some r →
    ∃ r', (Instr.findAsking kt k ces i).run E.P w = .ok r' w ∧ ((r = none ∧ r' = none) ∨ ∃ j v v', r = some (j, v) ∧ r' = some (j, v') ∧ V B φ v v' ∧ i ≤ j ∧ j < i + es.length) := by
  intro es
  induction es with
  | nil =>
    intro ces i r hl hp h
    obtain rfl : ces = [] := by simpa using hl.symm
    simp only [findAt, Option.some.injEq] at h
    subst h
    exact ⟨none, rfl, .inl ⟨rfl, rfl⟩⟩
  | cons x es ih =>
    intro ces i r hl hp h
    cases ces with
    | nil => simp at hl
    | cons e ces =>
      obtain ⟨h1, h2⟩ := hp 0 x e rfl rfl
      have hq : ∀ b, keyEq E kt d k x.1 = some b → (Op.equal kt k x.1).run E.P w = .ok b w := by
        intro b hb
        unfold keyEq at hb
        rw [hf] at hb
        simp only [Bool.false_eq_true, if_false] at hb
        split at hb
        · exact pureRun_spec _ _ _ hb w
        · simp at hb
      simp only [findAt] at h
      split at h
      next hk =>
        cases h
        refine ⟨some (i, e.val), ?_, .inr ⟨i, x.2, e.val, rfl, rfl, h2, Nat.le_refl _, by simp⟩⟩
        simp [Instr.findAsking, h1, hq _ hk]
      next hk =>
        obtain ⟨r', h3, h4⟩ := ih ces (i + 1) r (by simpa using hl) (fun j a b ha hb => hp (j + 1) a b (by simpa using ha) (by simpa using hb)) h
        refine ⟨r', by simp [Instr.findAsking, h1, hq _ hk]; exact h3, ?_⟩
        rcases h4 with h4 | ⟨j, v, v', a1, a2, a3, a4, a5⟩
        · exact .inl h4
        · exact .inr ⟨j, v, v', a1, a2, a3, by omega, by simp; omega⟩
      next => simp at h

theorem run_findKey {kt : TypeId} {d : TypeDesc} {k : Value} (hd : E.desc kt = some d) {es : List (Value × Value)} {ces : List MapEntry} {r : Option (Nat × Value)} (hl : es.length = ces.length)
    (hp : ∀ (j : Nat) (x : Value × Value) (e : MapEntry), es[j]? = some x → ces[j]? = some e → e.key = x.1 ∧ V B φ x.2 e.val) (h : findAt (keyEq E kt d k) es 0 = some r) (w : World) :
    ∃ r', (Instr.findKey kt k ces).run E.P w = .ok r' w ∧ ((r = none ∧ r' = none) ∨ ∃ j v v', r = some (j, v) ∧ r' = some (j, v') ∧ V B φ v v' ∧ j < es.length) := by
  unfold Instr.findKey
  simp only [Sem.run_bind, run_desc hE hd, Result.andThen_ok]
  cases hf : keyFits d k with
  | true =>
    obtain ⟨r', h1, h2⟩ := findNow_rel hf es ces 0 r hl hp h
    refine ⟨r', by simp [h1], ?_⟩
    rcases h2 with h2 | ⟨j, v, v', a1, a2, a3, a4, a5⟩
    · exact .inl h2
    · exact .inr ⟨j, v, v', a1, a2, a3, by omega⟩
  | false =>
    obtain ⟨r', h1, h2⟩ := findAsking_rel hf w es ces 0 r hl hp h
    have hgoal : (match Instr.findNow d k ces 0 with | some r => (pure r : Sem (Option (Nat × Value))) | none => Instr.findAsking kt k ces).run E.P w = .ok r' w := by
      cases ces with
      | nil =>
        simp only [Instr.findAsking, Sem.run_pure, Result.ok.injEq, and_true] at h1
        subst h1
        rfl
      | cons e ces =>
        cases es with
        | nil => simp at hl
        | cons x es =>
          have hst : isStructD d = true := by
            simp only [findAt, keyEq, hf, Bool.false_eq_true, if_false] at h
            cases hs : isStructD d with
            | true => rfl
            | false => simp [hs] at h
          have : Instr.findNow d k (e :: ces) 0 = none := by
            cases d <;> simp [isStructD] at hst
            simp [Instr.findNow, Instr.sameNow]
          rw [this]
          exact h1
    refine ⟨r', hgoal, ?_⟩
    rcases h2 with h2 | ⟨j, v, v', a1, a2, a3, a4, a5⟩
    · exact .inl h2
    · exact .inr ⟨j, v, v', a1, a2, a3, by omega⟩

theorem run_checkKey {d : TypeDesc} {t : TypeId} (hd : E.desc t = some d) {e : Bool} {k : Value} (h : keyOk E t d e k = true) (w : World) : (Instr.checkKey e 10000 t k).run E.P w = .ok () w := by
  unfold keyOk at h
  simp only [Bool.and_eq_true, Bool.or_eq_true] at h
  rcases h.2 with h1 | h1
  · show (Instr.checkKey e (9999 + 1) t k).run E.P w = _
    unfold Instr.checkKey
    simp only [Sem.run_bind, run_desc hE hd, Result.andThen_ok]
    cases d <;> first | (simp [keyFits] at h1; done) | rfl
  · obtain ⟨u, hu⟩ := Option.isSome_iff_exists.1 h1.2
    exact pureRun_spec _ _ _ hu w

/-- What a map's value holds. -/
theorem run_entries {x x' : Value} {es : List (Value × Value)} {w : World} (hR : R B w₀ φ s.get w) (hx : V B φ x x') (h : aEntries s x = some es) :
    (x = .map none ∧ x' = .map none ∧ es = []) ∨ ∃ f k ces clock, x = .map (some f) ∧ x' = .map (some k.b) ∧ φ f 0 = some k ∧ s.get f = some (.map es) ∧ w.heap[k.b]? = some (.map ces clock) ∧ ces.size = es.length ∧
      (∀ (j : Nat) (y : Value × Value) (e : MapEntry), es[j]? = some y → ces.toList[j]? = some e → e.key = y.1 ∧ V B φ y.2 e.val) ∧ ∀ (j : Nat) (y : Value × Value), es[j]? = some y → flat y.1 = true := by
  unfold aEntries at h
  split at h
  · cases h; exact .inl ⟨rfl, hx.flat_right rfl, rfl⟩
  · rename_i f
    split at h
    next es' hg =>
      cases h
      cases hx with
      | mnew _ k hk =>
        obtain ⟨ces, clock, h1, h2, h3⟩ := hR.map _ _ _ _ hg hk
        refine .inr ⟨f, k, ces, clock, rfl, rfl, hk, hg, h1, h2, fun j y e hy he => ?_, fun j y hy => ?_⟩
        · obtain ⟨e', a1, a2, a3, a4⟩ := h3 j y hy
          rw [Array.getElem?_toList, a1] at he
          cases he
          exact ⟨a2, a4⟩
        · obtain ⟨e', a1, a2, a3, a4⟩ := h3 j y hy
          exact a3
    next => simp at h
  · simp at h

theorem q_lookup {t : TypeId} {x x' k k' v : Value} {ok : Bool} {w : World} (hR : R B w₀ φ s.get w) (hx : V B φ x x') (hk : V B φ k k') (h : aLookup E s t x k ok = some v) :
    ∃ v', (Instr.lookup t x' k' ok).run E.P w = .ok v' w ∧ V B φ v v' := by
  unfold aLookup at h
  split at h
  next kt et hd =>
    split at h
    next d es z hkd hes hz =>
      split at h
      next hok =>
        have hfl : flat k = true := by unfold keyOk at hok; simp only [Bool.and_eq_true] at hok; exact hok.1
        obtain rfl := hk.flat_right hfl
        have hzz := V.refl_of_flat B φ z (hE.zero _ _ hz).1
        have hlast : ∀ (ces : List MapEntry), es.length = ces.length → (∀ (j : Nat) (y : Value × Value) (e : MapEntry), es[j]? = some y → ces[j]? = some e → e.key = y.1 ∧ V B φ y.2 e.val) →
            ∃ r' v', (Instr.findKey kt k' ces).run E.P w = .ok r' w ∧ V B φ v v' ∧
              ((∃ j a, r' = some (j, a) ∧ v' = if ok then .tuple #[a, .bool true] else a) ∨ (r' = none ∧ v' = if ok then .tuple #[z, .bool false] else z)) := by
          intro ces hl hp
          cases hfa : findAt (keyEq E kt d k') es 0 with
          | none => simp [hfa] at h
          | some r =>
            obtain ⟨r', h1, h2⟩ := run_findKey hE hkd hl hp hfa w
            rcases h2 with ⟨rfl, rfl⟩ | ⟨j, a, a', rfl, rfl, hv, _⟩
            · simp only [hfa, Option.some.injEq] at h
              subst h
              refine ⟨none, if ok then .tuple #[z, .bool false] else z, h1, ?_, .inr ⟨rfl, rfl⟩⟩
              split
              · exact V.tuple2 hE hzz (.bool false)
              · exact hzz
            · simp only [hfa, Option.some.injEq] at h
              subst h
              refine ⟨some (j, a'), if ok then .tuple #[a', .bool true] else a', h1, ?_, .inl ⟨j, a', rfl, rfl⟩⟩
              split
              · exact V.tuple2 hE hv (.bool true)
              · exact hv
        rcases run_entries hE hR hx hes with ⟨rfl, rfl, rfl⟩ | ⟨f, kb, ces, clock, rfl, rfl, h1, h2, h3, h4, h5, _⟩
        · obtain ⟨r', v', a1, a2, a3⟩ := hlast [] rfl (by simp)
          refine ⟨v', ?_, a2⟩
          have hc := run_checkKey hE hkd hok w
          simp only [List.isEmpty_nil] at hc
          rcases a3 with ⟨j, a, rfl, rfl⟩ | ⟨rfl, rfl⟩
          · simp [Instr.lookup, run_desc hE hd, hc, a1]
          · simp [Instr.lookup, run_desc hE hd, hc, a1, run_zero hE hz]
        · obtain ⟨r', v', a1, a2, a3⟩ := hlast ces.toList (by simpa using h4.symm) h5
          refine ⟨v', ?_, a2⟩
          have hc := run_checkKey hE hkd hok w
          have hemp : es.isEmpty = ces.isEmpty := by
            rw [Array.isEmpty, h4]
            cases es <;> simp
          rw [hemp] at hc
          have hget : (getObj kb.b).run E.P w = .ok (.map ces clock) w := by simp [getObj, Sem.run, h3]
          rcases a3 with ⟨j, a, rfl, rfl⟩ | ⟨rfl, rfl⟩
          · simp [Instr.lookup, run_desc hE hd, hget, hc, a1]
          · simp [Instr.lookup, run_desc hE hd, hget, hc, a1, run_zero hE hz]
      next => simp at h
    next => simp at h
  next => simp at h

end

end Go.Ai

/-
  THE SHORT RUN, 10: all operations that turn nothing, in one.
-/
set_option linter.unusedSimpArgs false
set_option linter.unusedVariables false
set_option linter.unusedSectionVars false
namespace Go.Ai
open Go

section
variable {E : Env} {B : Nat} {w₀ : World} (hE : E.Ok B w₀) {φ : Phi} {s : St}
include hE

omit hE in
theorem bytes_run (P : Program) (w : World) (F : Value → ByteArray → Sem (ForInStep ByteArray)) (hF : ∀ n b, F (.int .u8 n) b = pure (.yield (b.push (UInt8.ofNat n.toNat)))) :
    ∀ (l l' : List Value) (bs : List UInt8) (acc : ByteArray), VL B φ l l' → bytesOf l = some bs → (forIn l' acc F).run P w = .ok ⟨acc.data ++ bs.toArray⟩ w := by
  intro l
  induction l with
  | nil =>
    intro l' bs acc h hb
    obtain rfl : l' = [] := by simpa using h.1.symm
    simp only [bytesOf, Option.some.injEq] at hb
    subst hb
    simp
  | cons v l ih =>
    intro l' bs acc h hb
    cases l' with
    | nil => have := h.1; simp at this
    | cons v' l' =>
      unfold bytesOf at hb
      split at hb
      · rename_i hh; simp at hh
      · rename_i b l₀ hh
        cases hh
        cases hr : bytesOf l with
        | none => simp [hr] at hb
        | some bs' =>
          simp only [hr, Option.map_some, Option.some.injEq] at hb
          subst hb
          have hv' : v' = .int .u8 b := (h.2 0 _ _ rfl rfl).int_left
          subst hv'
          simp only [List.forIn_cons, Sem.run_bind, hF, Sem.run_pure, Result.andThen_ok]
          rw [ih l' bs' _ ⟨by simpa using h.1, fun i a b ha hb => h.2 (i + 1) a b (by simpa using ha) (by simpa using hb)⟩ hr]
          simp [ByteArray.push]
      · simp at hb

theorem q_convert {src dst : TypeId} {x x' v : Value} {s' : St} {w : World} (hR : R B w₀ φ s.get w) (hx : V B φ x x')
    (hq : toSlice E dst = false) (h : aConvert E s src dst x = some (v, s')) :
    s' = s ∧ ∃ v', (convert src dst x').run E.P w = .ok v' w ∧ V B φ v v' := by
  unfold aConvert at h
  split at h
  next a n c =>
    split at h
    next e hs hd =>
      split at h
      next he =>
        cases hr : readN E.old s a n with
        | none => simp [hr] at h
        | some l =>
          simp only [hr] at h
          cases hb : bytesOf l with
          | none => simp [hb] at h
          | some bs =>
            simp only [hb, Option.map_some, Option.some.injEq, Prod.mk.injEq] at h
            obtain ⟨rfl, rfl⟩ := h
            refine ⟨rfl, .string ⟨bs.toArray⟩, ?_, .string _⟩
            have key : ∀ c', V B φ (.pointer (some a)) (.pointer (some c')) → ∀ cap', (convert src dst (.slice (some c') n cap')).run E.P w = .ok (.string ⟨bs.toArray⟩) w := by
              intro c' hp cap'
              obtain ⟨h1, l', h2, h3, h4⟩ := hR.read hE.old hp hr
              have h5 := run_loadCells_list (P := E.P) w c' l' h4
              rw [h2] at h5
              have h7 : (Conv.bytesToString (.slice (some c') n cap')).run E.P w = .ok (.string ⟨bs.toArray⟩) w := by
                unfold Conv.bytesToString
                simp only [Sem.run_bind, h5, Result.andThen_ok, List.forIn_toArray]
                rw [bytes_run E.P w _ (fun n b => rfl) l l' bs .empty ⟨by rw [h1, h2], h3⟩ hb]
                simp
              simp only [convert, Sem.run_bind, run_desc hE hs, run_desc hE hd, run_desc hE he, Result.andThen_ok]
              exact h7
            rcases hx.slice_some with ⟨c', rfl, h2, h3⟩ | ⟨e, k, c', h1, h2, _, _, _, _, hp, _, rfl⟩ | ⟨e, k, o, h1, h2, hn0, h3, h4, h5, h6, _, rfl⟩
            · exact key c' h2 _
            · exact key c' hp _
            · subst hn0
              have hbs : bs = [] := by
                have : l = [] := by
                  have hp : V B φ (.pointer (some ⟨a.block, a.off, some e⟩)) (.pointer (some ⟨k.b, a.off - k.base, none⟩)) := .pnew _ _ _ _ h3 h4
                  have hae : a = ⟨a.block, a.off, some e⟩ := by rw [← h1]
                  rw [hae] at hr
                  obtain ⟨h1, _⟩ := hR.read hE.old hp hr
                  simpa using h1
                rw [this] at hb
                simpa [bytesOf] using hb.symm
              subst hbs
              simp only [convert, Sem.run_bind, run_desc hE hs, run_desc hE hd, run_desc hE he, Result.andThen_ok]
              simp [Conv.bytesToString, loadCells, loadCellsFrom]
              rfl
      next => simp at h
    next => simp at h
  next b =>
    rw [hx.string_left]
    split at h
    next hs hd =>
      cases h
      exact ⟨rfl, .string b, by simp [convert, run_desc hE hs, run_desc hE hd], .string b⟩
    next e hs hd => simp [toSlice, hd] at hq
    next => simp at h
  next l c =>
    simp only [hq, Bool.false_eq_true, if_false] at h
    obtain ⟨h1, h2⟩ := map_prod h
    obtain ⟨h3, h4⟩ := pureFlat_spec h1
    rw [hx.flat_right (by simp [flat])]
    exact ⟨h2, v, h4 w, .refl_of_flat B φ v h3⟩
  next k n =>
    simp only [hq, Bool.false_eq_true, if_false] at h
    obtain ⟨h1, h2⟩ := map_prod h
    obtain ⟨h3, h4⟩ := pureFlat_spec h1
    rw [hx.int_left]
    exact ⟨h2, v, h4 w, .refl_of_flat B φ v h3⟩
  next => simp at h
  next => simp at h


omit hE in
theorem VL.flat {l l' : List Value} (h : VL B φ l l') (hf : flatL l = true) : l' = l := by
  apply List.ext_getElem?
  intro i
  by_cases hi : i < l.length
  · have hi' : i < l'.length := by rw [← h.1]; exact hi
    rw [List.getElem?_eq_getElem hi, List.getElem?_eq_getElem hi']
    have := h.2 i _ _ (List.getElem?_eq_getElem hi) (List.getElem?_eq_getElem hi')
    rw [this.flat_right ((flatL_iff l).1 hf i _ (List.getElem?_eq_getElem hi))]
  · have := h.1
    rw [List.getElem?_eq_none (by omega), List.getElem?_eq_none (by omega)]

def quietB : Builtin → Bool
  | .len | .cap | .min | .max => true
  | _ => false

theorem q_builtin {b : Builtin} {argTypes : Array TypeId} {type : TypeId} {args args' : List Value} {v : Value} {s' : St} {w : World} {cs : Array Bool} (hR : R B w₀ φ s.get w) (ha : VL B φ args args')
    (hq : quietB b = true) (h : aBuiltin E s b argTypes type args = some (v, s')) :
    s' = s ∧ ∃ v', (builtin b argTypes type cs args'.toArray).run E.P w = .ok (.value v') w ∧ V B φ v v' := by
  unfold aBuiltin at h
  split at h
  next x =>
    obtain ⟨x', rfl⟩ : ∃ x', args' = [x'] := by
      match args', ha.1 with
      | [x'], _ => exact ⟨x', rfl⟩
    have hx := ha.2 0 x x' rfl rfl
    split at h
    next a n c =>
      split at h
      next t ht =>
        split at h
        next e hd =>
          cases h
          obtain ⟨c', cap', rfl⟩ : ∃ c' cap', x' = .slice (some c') n cap' := by
            rcases hx.slice_some with ⟨c', h1, _⟩ | ⟨_, _, c', _, _, _, _, _, _, _, _, h1⟩ | ⟨_, k, o, _, _, h0, _, _, _, _, _, h1⟩
            · exact ⟨c', _, h1⟩
            · exact ⟨c', _, h1⟩
            · subst h0; exact ⟨_, _, h1⟩
          exact ⟨rfl, goInt n, by simp [builtin, Builtin.len_, ht, run_desc hE hd], .int _ _⟩
        next => simp at h
      next => simp at h
    next f =>
      split at h
      next t es ht hg =>
        split at h
        next kt et hd =>
          cases h
          rcases run_entries hE hR hx (by simp [aEntries, hg] : aEntries s (.map (some f)) = some es) with ⟨h1, _⟩ | ⟨f', k, ces, clock, h1, rfl, h2, h3, h4, h5, _⟩
          · simp at h1
          · refine ⟨rfl, goInt es.length, ?_, .int _ _⟩
            have hget : (getObj k.b).run E.P w = .ok (.map ces clock) w := by simp [getObj, Sem.run, h4]
            simp [builtin, Builtin.len_, ht, run_desc hE hd, hget, h5]
        next => simp at h
      next => simp at h
    next =>
      split at h
      next hf =>
        obtain ⟨h1, h2⟩ := map_prod h
        obtain ⟨h3, h4⟩ := pureFlat_spec h1
        rw [hx.flat_right hf]
        exact ⟨h2, v, by simp [builtin, h4 w], .refl_of_flat B φ v h3⟩
      next => simp at h
  next x =>
    obtain ⟨x', rfl⟩ : ∃ x', args' = [x'] := by
      match args', ha.1 with
      | [x'], _ => exact ⟨x', rfl⟩
    have hx := ha.2 0 x x' rfl rfl
    split at h
    next a n c =>
      split at h
      next t ht =>
        split at h
        next e hd =>
          split at h
          next => simp at h
          next hc =>
            cases h
            rcases hx.slice_some with ⟨c', rfl, _⟩ | ⟨_, _, c', h1, h2, _⟩ | ⟨_, k, o, h1, h2, _⟩
            · exact ⟨rfl, goInt c, by simp [builtin, Builtin.cap_, ht, run_desc hE hd], .int _ _⟩
            · exact absurd ⟨by simp [h1], h2⟩ hc
            · exact absurd ⟨by simp [h1], h2⟩ hc
        next => simp at h
      next => simp at h
    next =>
      split at h
      next hf =>
        obtain ⟨h1, h2⟩ := map_prod h
        obtain ⟨h3, h4⟩ := pureFlat_spec h1
        rw [hx.flat_right hf]
        exact ⟨h2, v, by simp [builtin, h4 w], .refl_of_flat B φ v h3⟩
      next => simp at h
  next => simp [quietB] at hq
  next => simp [quietB] at hq
  next => simp [quietB] at hq
  next => simp [quietB] at hq
  next =>
    split at h
    next hf =>
      obtain ⟨h1, h2⟩ := map_prod h
      obtain ⟨h3, h4⟩ := pureFlat_spec h1
      rw [ha.flat hf]
      exact ⟨h2, v, by simp [builtin, h4 w], .refl_of_flat B φ v h3⟩
    next => simp at h
  next =>
    split at h
    next hf =>
      obtain ⟨h1, h2⟩ := map_prod h
      obtain ⟨h3, h4⟩ := pureFlat_spec h1
      rw [ha.flat hf]
      exact ⟨h2, v, by simp [builtin, h4 w], .refl_of_flat B φ v h3⟩
    next => simp at h
  next => simp at h

omit hE in
theorem VO.map {x : Option Operand} {ρ ρ' : Operand → Value} (h : ∀ y, x = some y → V B φ (ρ y) (ρ' y)) : VO B φ (x.map ρ) (x.map ρ') := by
  cases x with
  | none => exact .inl ⟨rfl, rfl⟩
  | some y => exact .inr ⟨_, _, rfl, rfl, h y rfl⟩

/-- Where 'max' stands in a slice expression, 'high' does. -/
def shapeOk : Op → Bool
  | .slice _ _ _ hi mx => !mx.isSome || hi.isSome
  | _ => true

theorem aVal_quiet {ρ ρ' : Operand → Value} {o : Oper} {v : Value} {s' : St} {w : World} (hR : R B w₀ φ s.get w) (hρ : ∀ x ∈ o.op.operands, V B φ (ρ x) (ρ' x)) (hs : shapeOk o.op = true)
    (hq : quietOp E o.op = true) (h : aVal E ρ o s = some (v, s')) : s' = s ∧ ∃ v', (execOp ρ' o).run E.P w = .ok (.value v') w ∧ V B φ v v' := by
  have wrap : ∀ {m : Sem Value} {v' : Value}, m.run E.P w = .ok v' w → (do pure (.value (← m)) : Sem Next).run E.P w = .ok (.value v') w := by
    intro m v' hm; rw [Sem.run_bind, hm]; rfl
  obtain ⟨dst, op, ty, pos, after, guard⟩ := o
  unfold aVal at h
  unfold execOp
  cases op <;> simp only [quietOp, Bool.false_eq_true] at hq <;> simp only [Op.operands] at hρ <;> simp only at h ⊢
  case move x => cases h; exact ⟨rfl, _, rfl, hρ x (by simp)⟩
  case assign x => cases h; exact ⟨rfl, _, rfl, hρ x (by simp)⟩
  case pick c a b =>
    split at h
    next t ht =>
      cases h
      have hc := hρ c (by simp)
      rw [ht] at hc
      refine ⟨rfl, if t then ρ' a else ρ' b, by simp [hc.bool_left, asBool], ?_⟩
      cases t
      · exact hρ b (by simp)
      · exact hρ a (by simp)
    next => simp at h
  case build t parts =>
    obtain ⟨h1, h2⟩ := map_prod h
    obtain ⟨v', h3, h4⟩ := q_build hE (φ := φ) (ps' := parts.map fun (i, x) => (i, ρ' x)) (by simp) (fun i p p' hp hp' => by
      simp only [Array.getElem?_map, Option.map_eq_some_iff] at hp hp'
      obtain ⟨q, hq1, rfl⟩ := hp
      obtain ⟨q', hq2, rfl⟩ := hp'
      rw [hq1] at hq2
      cases hq2
      refine ⟨rfl, hρ q.2 ?_⟩
      simp only [List.mem_toArray, List.mem_map]
      exact ⟨q, by simpa using Array.mem_of_getElem? hq1, rfl⟩) h1 w
    exact ⟨h2, v', wrap h3, h4⟩
  case load t a =>
    obtain ⟨h1, h2⟩ := map_prod h
    obtain ⟨v', h3, h4⟩ := run_load hE hR (hρ a (by simp)) h1
    exact ⟨h2, v', wrap h3, h4⟩
  case nilCheck x =>
    have hx := hρ x (by simp)
    split at h
    next a ha =>
      rw [ha] at hx
      cases h
      obtain ⟨c, hc⟩ := hx.pointer_some
      rw [hc] at hx ⊢
      exact ⟨rfl, _, rfl, hx⟩
    next f a b ha =>
      rw [ha] at hx
      cases h
      generalize ρ' x = y at hx ⊢
      cases hx with
      | func fn h1 h2 h3 h4 => exact ⟨rfl, _, rfl, .func _ h1 h2 h3 h4⟩
    next => simp at h
  case binOp op t x y yt =>
    obtain ⟨h1, h2⟩ := map_prod h
    obtain ⟨v', h3, h4⟩ := q_bin hE (hρ x (by simp)) (hρ y (by simp)) h1 w
    exact ⟨h2, v', wrap h3, h4⟩
  case unOp op t x =>
    split at h
    next hf =>
      obtain ⟨h1, h2⟩ := map_prod h
      obtain ⟨h3, h4⟩ := pureFlat_spec h1
      rw [(hρ x (by simp)).flat_right hf]
      exact ⟨h2, v, wrap (h4 w), .refl_of_flat B φ v h3⟩
    next => simp at h
  case convert src dst x =>
    obtain ⟨h1, v', h3, h4⟩ := q_convert hE hR (hρ x (by simp)) (by simpa using hq) h
    exact ⟨h1, v', wrap h3, h4⟩
  case makeInterface t x =>
    split at h
    next => simp at h
    next d hni hd =>
      cases h
      refine ⟨rfl, .iface t (ρ' x), wrap ?_, .iface t (hρ x (by simp))⟩
      unfold Instr.makeInterface
      simp only [Sem.run_bind, run_desc hE hd, Result.andThen_ok]
      cases d <;> first | (exfalso; exact hni _ hd; done) | rfl
    next => simp at h
  case makeFunc fn first captured =>
    cases h
    have h1 : VA B φ (first.map ρ) (first.map ρ') := VA.map first fun x hx => hρ x (by simp [hx])
    have h2 : VA B φ (captured.map ρ) (captured.map ρ') := VA.map captured fun x hx => hρ x (by simp [hx])
    exact ⟨rfl, .func fn (first.map ρ') (captured.map ρ'), wrap rfl, .func fn h1.1 h1.2 h2.1 h2.2⟩
  case slice t x lo hi mx =>
    obtain ⟨h1, h2⟩ := map_prod h
    have hsome : (mx.map ρ).isSome = true → (hi.map ρ).isSome = true := by
      simp only [shapeOk] at hs
      cases mx <;> cases hi <;> simp_all
    obtain ⟨v', h3, h4⟩ := q_slice hE hR (hρ x (by simp)) (VO.map (ρ' := ρ') fun y hy => hρ y (by simp [hy])) (VO.map (ρ' := ρ') fun y hy => hρ y (by simp [hy])) (VO.map (ρ' := ρ') fun y hy => hρ y (by simp [hy])) hsome h1
    exact ⟨h2, v', wrap h3, h4⟩
  case fieldAddr t x f =>
    obtain ⟨h1, h2⟩ := map_prod h
    obtain ⟨v', h3, h4⟩ := q_fieldAddr hE (hρ x (by simp)) h1 w
    exact ⟨h2, v', wrap h3, h4⟩
  case field t x f =>
    obtain ⟨h1, h2⟩ := map_prod h
    obtain ⟨v', h3, h4⟩ := q_field hE (hρ x (by simp)) h1 w
    exact ⟨h2, v', wrap h3, h4⟩
  case indexAddr t x i =>
    obtain ⟨h1, h2⟩ := map_prod h
    obtain ⟨v', h3, h4⟩ := q_indexAddr hE (hρ x (by simp)) (hρ i (by simp)) h1 w
    exact ⟨h2, v', wrap h3, h4⟩
  case index t x i =>
    obtain ⟨h1, h2⟩ := map_prod h
    obtain ⟨v', h3, h4⟩ := q_index hE (hρ x (by simp)) (hρ i (by simp)) h1 w
    exact ⟨h2, v', wrap h3, h4⟩
  case lookup t x k ok =>
    obtain ⟨h1, h2⟩ := map_prod h
    obtain ⟨v', h3, h4⟩ := q_lookup hE hR (hρ x (by simp)) (hρ k (by simp)) h1
    exact ⟨h2, v', wrap h3, h4⟩
  case typeAssert x xt t ok =>
    obtain ⟨h1, h2⟩ := map_prod h
    obtain ⟨v', h3, h4⟩ := q_typeAssert hE (xt := xt) (hρ x (by simp)) h1 w
    exact ⟨h2, v', wrap h3, h4⟩
  case extract t i =>
    split at h
    next vs ht =>
      obtain ⟨h1, h2⟩ := map_prod h
      have hx := hρ t (by simp)
      rw [ht] at hx
      obtain ⟨vs', hv', hvs⟩ := VA.of_tuple hx
      obtain ⟨y, h3, h4⟩ := hvs.get h1
      exact ⟨h2, y, wrap (by rw [hv']; simp [Instr.extract, h3]), h4⟩
    next => simp at h
  case call c =>
    obtain ⟨callee, args, argTypes⟩ := c
    cases callee <;> simp only [Bool.false_eq_true] at hq
    case builtin b =>
      have hq' : quietB b = true := by cases b <;> simp_all [quietB]
      simp only at h
      obtain ⟨h1, v', h3, h4⟩ := q_builtin hE (cs := args.map fun | .const _ => true | _ => false) hR (args' := args.toList.map ρ') ⟨by simp, fun i x y hx hy => by
        simp only [List.getElem?_map, Option.map_eq_some_iff] at hx hy
        obtain ⟨q, hq1, rfl⟩ := hx
        obtain ⟨q', hq2, rfl⟩ := hy
        rw [hq1] at hq2
        cases hq2
        exact hρ q (by
          simp only [Call.operands, List.append_toArray, List.nil_append]
          simpa using Array.mem_of_getElem? (by simpa using hq1))⟩ hq' h
      refine ⟨h1, v', ?_, h4⟩
      simp only [resolve, Sem.run_bind, Sem.run_pure, Result.andThen_ok, invoke]
      have : (args.toList.map ρ').toArray = args.map ρ' := by rw [← Array.toList_map]
      rw [this] at h3
      exact h3

end

end Go.Ai

/-
  THE SHORT RUN, 11: operations that make something new.
-/
set_option linter.unusedSimpArgs false
set_option linter.unusedVariables false
set_option linter.unusedSectionVars false
namespace Go.Ai
open Go

def allocOp (E : Env) : Op → Bool
  | .alloc _ | .box .. | .buildSlice .. | .makeMap _ none | .makeSlice .. | .range .. => true
  | .convert _ dst _ => toSlice E dst
  | _ => false

section
variable {E : Env} {B : Nat} {w₀ : World} (hE : E.Ok B w₀)

theorem R.new_row {φ : Phi} {g : Nat → Option AObj} {w w' : World} (h : R B w₀ φ g w) {f : Nat} (hf : ∀ e, φ f e = none) {l l' : List Value} {n m cap : Nat} {c : Array Value} {t : TypeId} {fr : Nat × Nat}
    (hv : VL B φ l l') (hn : 0 < n) (hl : l.length = m * n) (hc : c.size = cap * n) (hm : m ≤ cap) (hget : ∀ i, i < l'.length → c[i]? = l'[i]?) (hfr : ∀ o, o < c.size → ¬ (fr.1 ≤ o ∧ o < fr.2))
    (hw : w'.heap = w.heap.push (.cells c t fr)) (ho : w'.os = w.os) (ht : w'.tape = w.tape) (hp : w'.output = w.output) :
    Step f φ w (withNew φ f 0 ⟨w.heap.size, 0, cap, n⟩) w' ∧ R B w₀ (withNew φ f 0 ⟨w.heap.size, 0, cap, n⟩) (fun x => if x = f then some (.row l n 0 0 []) else g x) w' ∧
      V B (withNew φ f 0 ⟨w.heap.size, 0, cap, n⟩) (.pointer (some ⟨f, 0, some 0⟩)) (.pointer (some ⟨w.heap.size, 0, none⟩)) ∧
      V B (withNew φ f 0 ⟨w.heap.size, 0, cap, n⟩) (.slice (some ⟨f, 0, some 0⟩) m unc) (.slice (some ⟨w.heap.size, 0, none⟩) m cap) := by
  have hext := withNew_ext (k := ⟨w.heap.size, 0, cap, n⟩) (hf 0)
  have hself : withNew φ f 0 ⟨w.heap.size, 0, cap, n⟩ f 0 = some ⟨w.heap.size, 0, cap, n⟩ := by simp [withNew]
  have hpush := h.push hf (.row l n 0 0 []) ⟨w.heap.size, 0, cap, n⟩ rfl (w' := w') ⟨_, hw⟩ ho ht hp (fun cells esz ep lw hist he => by
      cases he
      refine ⟨rfl, hn, rfl, c, t, fr, by simp [hw], hc, ?_, hfr, fun o x _ ho hx => ?_⟩
      · rw [hc, hl]; simp; exact Nat.mul_le_mul_right _ hm
      · have hlt : o < l'.length := by rw [← hv.1]; exact ho
        refine ⟨l'[o], ?_, (hv.2 _ _ _ hx (List.getElem?_eq_getElem hlt)).mono hext⟩
        show c[o]? = _
        rw [hget o hlt, List.getElem?_eq_getElem hlt]) (by simp) (by simp)
  refine ⟨hpush.1, hpush.2, .pnew f 0 0 _ hself (Nat.le_refl _), ?_⟩
  have := V.snew (B := B) f 0 0 m _ hself (Nat.le_refl _) hn (by simp; exact hm) (by simp)
  simpa using this

theorem aZeros_length (z : List Value) (n : Nat) : (aZeros z n).length = n * z.length := by
  unfold aZeros
  induction n with
  | zero => simp
  | succ n ih => simp [List.replicate_succ, ih, Nat.succ_mul, Nat.add_comm]

theorem aZeros_get (z : List Value) (n i : Nat) (h : i < n * z.length) : (aZeros z n)[i]? = z[i % z.length]? := by
  unfold aZeros
  induction n generalizing i with
  | zero => omega
  | succ n ih =>
    simp only [List.replicate_succ, List.flatten_cons]
    by_cases hi : i < z.length
    · rw [List.getElem?_append_left hi, Nat.mod_eq_of_lt hi]
    · rw [List.getElem?_append_right (by omega), ih _ (by rw [Nat.succ_mul] at h; omega)]
      congr 1
      rw [Nat.mod_eq_sub_mod (by omega : i ≥ z.length)]

theorem zeros_row (z : Array Value) (n : Nat) (hz : 0 < z.size) : ((Array.range (n * z.size)).map fun i => z[i % z.size]!) = (aZeros z.toList n).toArray := by
  apply Array.ext_getElem?
  intro i
  by_cases hi : i < n * z.size
  · simp only [Array.getElem?_map, Array.getElem?_range, hi, if_true, Option.map_some, List.getElem?_toArray]
    rw [aZeros_get _ _ _ (by simpa using hi)]
    have hm : i % z.size < z.size := Nat.mod_lt _ hz
    simp [hm]
  · have h1 : n * z.size ≤ i := by omega
    rw [Array.getElem?_eq_none (by simp; exact h1), Array.getElem?_eq_none (by simp [aZeros_length]; exact h1)]

theorem VL.refl_of_flat' {φ : Phi} {l : List Value} (h : flatL l = true) : VL B φ l l :=
  ⟨rfl, fun i x y hx hy => by rw [hx] at hy; cases hy; exact VL.refl_of_flat B φ l h i x hx⟩

theorem flatL_aZeros {z : List Value} (h : flatL z = true) (n : Nat) : flatL (aZeros z n) = true := by
  rw [flatL_iff] at h ⊢
  intro i x hx
  have hi : i < n * z.length := by rw [← aZeros_length]; exact (List.getElem?_eq_some_iff.1 hx).1
  rw [aZeros_get _ _ _ hi] at hx
  exact h _ _ hx

theorem flat_cells {v : Value} (h : flat v = true) : flatL v.cells.toList = true := by
  rw [flatL_iff]
  intro i x hx
  cases v with
  | agg cs => simp only [flat] at h; exact (flatA_iff _).1 h i x (by simpa [Value.cells] using hx)
  | _ =>
    simp only [Value.cells, Array.toList, List.getElem?_cons] at hx
    cases i <;> simp at hx
    subst hx
    exact h

theorem foldl_size (off : Nat) : ∀ (l : List Value) (k : Nat) (xs : Array Value), ((l.zipIdx k).foldl (fun cs (p : Value × Nat) => cs.setIfInBounds (off + p.2) p.1) xs).size = xs.size := by
  intro l
  induction l with
  | nil => intro k xs; simp
  | cons x l ih => intro k xs; simp only [List.zipIdx_cons, List.foldl_cons]; rw [ih]; simp

theorem fill_size (place : Nat → Option (Nat × Nat)) : ∀ (ps : List (Nat × Value)) (xs r : Array Value), Instr.fill place xs ps = some r → r.size = xs.size := by
  intro ps
  induction ps with
  | nil => intro xs r h; simp only [Instr.fill, Option.some.injEq] at h; rw [h]
  | cons p ps ih =>
    intro xs r h
    obtain ⟨i, v⟩ := p
    simp only [Instr.fill] at h
    split at h
    · simp at h
    · split at h
      · simp at h
      · rw [ih _ _ h, ← Array.foldl_toList, Array.toList_zipIdx]
        exact foldl_size _ _ _ _

theorem wrap_small {n : Int} (h0 : 0 ≤ n) (h1 : n < 2 ^ 62) : IntKind.i64.wrap n = n := by
  have hm : n % (2 ^ IntKind.i64.bits : Int) = n := Int.emod_eq_of_lt h0 (by show n < 2 ^ 64; omega)
  unfold IntKind.wrap
  simp only [hm]
  rw [if_neg]
  intro h
  simp [IntKind.signed, IntKind.bits] at h
  omega

/-- What a making operation comes to. -/
def Makes (E : Env) (B : Nat) (w₀ : World) (s : St) (v : Value) (s' : St) (m : (Operand → Value) → Sem Next) (ρ : Operand → Value) (ops : Array Operand) : Prop :=
  ∃ obj, s' = s.push obj ∧ ∀ (g : Nat → Option AObj) (φ : Phi) (w : World) (ρ' : Operand → Value), R B w₀ φ g w → (∀ e, φ s.next e = none) → (∀ x ∈ ops, V B φ (ρ x) (ρ' x)) →
    ∃ k v' w', (m ρ').run E.P w = .ok (.value v') w' ∧ Step s.next φ w (withNew φ s.next 0 k) w' ∧ R B w₀ (withNew φ s.next 0 k) (fun x => if x = s.next then some obj else g x) w' ∧
      V B (withNew φ s.next 0 k) v v'

include hE

theorem run_newRow (w : World) (t : TypeId) (c : Array Value) : (newRow t c).run E.P w = .ok ⟨w.heap.size, 0, none⟩ { w with heap := w.heap.push (.cells c t) } := rfl

theorem aVal_alloc {ρ : Operand → Value} {o : Oper} {s s' : St} {v : Value} (ha : allocOp E o.op = true) (h : aVal E ρ o s = some (v, s')) :
    Makes E B w₀ s v s' (fun ρ' => execOp ρ' o) ρ o.op.operands := by
  have wrap : ∀ {m : Sem Value} {v' : Value} {w w' : World}, m.run E.P w = .ok v' w' → (do pure (.value (← m)) : Sem Next).run E.P w = .ok (.value v') w' := by
    intro m v' w w' hm; rw [Sem.run_bind, hm]; rfl
  obtain ⟨dst, op, ty, pos, after, guard⟩ := o
  unfold aVal at h
  unfold execOp
  cases op <;> simp only [allocOp, Bool.false_eq_true] at ha <;> simp only [Op.operands] <;> simp only at h ⊢
  case alloc t =>
    split at h
    next z n hz hn =>
      split at h
      next hc =>
        obtain ⟨hc1, hc2⟩ := hc
        simp only [mkRow, Option.some.injEq, Prod.mk.injEq] at h
        obtain ⟨rfl, rfl⟩ := h
        refine ⟨_, rfl, fun g φ w ρ' hR hg hρ => ?_⟩
        have hfl := flat_cells (hE.zero _ _ hz).1
        obtain ⟨h1, h2, h3, h4⟩ := hR.new_row hg (l := z.cells.toList) (l' := z.cells.toList) (n := n) (m := 1) (cap := 1) (c := z.cells) (t := t) (fr := (0, 0)) (w' := { w with heap := w.heap.push (.cells z.cells t) })
          (VL.refl_of_flat' hfl) hc2 (by simp [hc1]) (by simp [hc1]) (Nat.le_refl _) (fun i _ => by simp) (by simp) rfl rfl rfl rfl
        refine ⟨_, .pointer (some ⟨w.heap.size, 0, none⟩), _, wrap ?_, h1, h2, h3⟩
        simp [Instr.alloc, run_zero hE hz, newVar, newRow]
      next => simp at h
    next => simp at h
  case box t x =>
    split at h
    next hc =>
      simp only [mkRow, Option.some.injEq, Prod.mk.injEq] at h
      obtain ⟨rfl, rfl⟩ := h
      refine ⟨_, rfl, fun g φ w ρ' hR hg hρ => ?_⟩
      have hv := (hρ x (by simp)).cells
      obtain ⟨h1, h2, h3, h4⟩ := hR.new_row hg (l := (ρ x).cells.toList) (l' := (ρ' x).cells.toList) (n := (ρ x).cells.size) (m := 1) (cap := 1) (c := (ρ' x).cells) (t := t) (fr := (0, 0)) (w' := { w with heap := w.heap.push (.cells (ρ' x).cells t) })
        hv.toList hc (by simp) (by simp [hv.1]) (Nat.le_refl _) (fun i _ => by simp) (by simp) rfl rfl rfl rfl
      exact ⟨_, .pointer (some ⟨w.heap.size, 0, none⟩), _, wrap rfl, h1, h2, h3⟩
    next => simp at h
  case buildSlice t len parts =>
    unfold aBuildSlice at h
    split at h
    next elem hd =>
      split at h
      next n z hn hz =>
        split at h
        next hc =>
          obtain ⟨hc1, hc2, hc3⟩ := hc
          split at h
          next cells hf =>
            simp only [mkRow, Option.some.injEq, Prod.mk.injEq] at h
            obtain ⟨rfl, rfl⟩ := h
            refine ⟨_, rfl, fun g φ w ρ' hR hg hρ => ?_⟩
            have hfl := flatL_aZeros (flat_cells (hE.zero _ _ hz).1) len
            have hz0 : VA B φ (aZeros z.cells.toList len).toArray (aZeros z.cells.toList len).toArray := (VL.refl_of_flat' hfl).toArray
            obtain ⟨r', h1, h2⟩ := fill_rel (B := B) (φ := φ) (fun i => some (i * n, n)) (parts.map fun (i, x) => (i, ρ x)).toList (parts.map fun (i, x) => (i, ρ' x)).toList _ _ cells (by simp)
              (fun i p p' hp hp' => by
                simp only [Array.toList_map, List.getElem?_map, Option.map_eq_some_iff] at hp hp'
                obtain ⟨q, hq1, rfl⟩ := hp
                obtain ⟨q', hq2, rfl⟩ := hp'
                rw [hq1] at hq2
                cases hq2
                refine ⟨rfl, hρ q.2 ?_⟩
                simp only [List.mem_toArray, List.mem_map]
                exact ⟨q, List.mem_of_getElem? hq1, rfl⟩) hz0 hf
            have hsz : cells.size = len * n := by
              rw [fill_size _ _ _ _ hf]
              simp [aZeros_length, hc3]
            obtain ⟨g1, g2, g3, g4⟩ := hR.new_row hg (l := cells.toList) (l' := r'.toList) (n := n) (m := len) (cap := len) (c := r') (t := elem) (fr := (0, 0)) (w' := { w with heap := w.heap.push (.cells r' elem) })
              h2.toList hc1 (by simpa using hsz) (by rw [← h2.1]; exact hsz) (Nat.le_refl _) (fun i _ => by simp) (by simp) rfl rfl rfl rfl
            refine ⟨_, .slice (some ⟨w.heap.size, 0, none⟩) len len, _, wrap ?_, g1, g2, g4⟩
            have hle : ¬ (len * n > 2 ^ 24) := by omega
            have hrow : (Array.range (len * n)).map (fun i => (if len * n = 0 then #[] else z.cells)[i % (if len * n = 0 then #[] else z.cells).size]!) = (aZeros z.cells.toList len).toArray := by
              by_cases h0 : len * n = 0
              · have hl0 : len = 0 := by rcases Nat.mul_eq_zero.1 h0 with h | h; exact h; omega
                subst hl0
                simp [aZeros]
              · simp only [if_neg h0]
                have := zeros_row z.cells len (by omega)
                rw [hc3] at this
                rw [hc3]
                exact this
            unfold Instr.buildSlice
            by_cases h0 : len * n = 0
            · simp only [h0, if_true] at hrow
              simp only [Sem.run_bind, run_desc hE hd, run_size hE hn, Result.andThen_ok, Sem.run_ite, if_neg hle, h0, if_true, Sem.run_pure, hrow, h1]
              simp [newRow]
            · simp only [if_neg h0] at hrow
              simp only [Sem.run_bind, run_desc hE hd, run_size hE hn, run_zero hE hz, Result.andThen_ok, Sem.run_ite, if_neg hle, if_neg h0, Sem.run_pure, hrow, h1]
              simp [newRow]
          next => simp at h
        next => simp at h
      next => simp at h
    next => simp at h
  case makeMap t r =>
    cases r with
    | some r => simp at ha
    | none =>
      simp only [Option.some.injEq, Prod.mk.injEq] at h
      obtain ⟨rfl, rfl⟩ := h
      refine ⟨_, rfl, fun g φ w ρ' hR hg hρ => ?_⟩
      have hpush := hR.push hg (.map []) ⟨w.heap.size, 0, 0, 0⟩ rfl (w' := { w with heap := w.heap.push (.map #[] 0) }) ⟨_, rfl⟩ rfl rfl rfl (by simp) (fun es he => by
        cases he
        exact ⟨#[], 0, by simp, rfl, by simp⟩) (by simp)
      exact ⟨_, .map (some w.heap.size), _, wrap rfl, hpush.1, hpush.2, .mnew s.next ⟨w.heap.size, 0, 0, 0⟩ (by simp [withNew])⟩
  case makeSlice t l c =>
    unfold aMakeSlice at h
    split at h
    next elem li ci hd hl hc =>
      split at h
      next n b z hn hb hz =>
        split at h
        next hcond =>
          obtain ⟨c1, c2, c3, c4, c5, c6⟩ := hcond
          simp only [mkRow, Option.some.injEq, Prod.mk.injEq] at h
          obtain ⟨rfl, rfl⟩ := h
          refine ⟨_, rfl, fun g φ w ρ' hR hg hρ => ?_⟩
          obtain ⟨kl, hl'⟩ := aInt_some (hρ l (by simp)) hl
          obtain ⟨kc, hc'⟩ := aInt_some (hρ c (by simp)) hc
          obtain ⟨i, hi, hib⟩ := run_bytes hE hb w
          have hfl := flatL_aZeros (flat_cells (hE.zero _ _ hz).1) ci.toNat
          obtain ⟨g1, g2, g3, g4⟩ := hR.new_row hg (l := aZeros z.cells.toList ci.toNat) (l' := aZeros z.cells.toList ci.toNat) (n := n) (m := ci.toNat) (cap := ci.toNat) (c := (aZeros z.cells.toList ci.toNat).toArray) (t := elem) (fr := (0, 0))
            (w' := { w with heap := w.heap.push (.cells (aZeros z.cells.toList ci.toNat).toArray elem) }) (VL.refl_of_flat' hfl) c1 (by simp [aZeros_length, c2]) (by simp [aZeros_length, c2]) (Nat.le_refl _) (fun i _ => by simp) (by simp) rfl rfl rfl rfl
          have g5 : V B (withNew φ s.next 0 ⟨w.heap.size, 0, ci.toNat, n⟩) (.slice (some ⟨s.next, 0, some 0⟩) li.toNat unc) (.slice (some ⟨w.heap.size, 0, none⟩) li.toNat ci.toNat) := by
            have := V.snew (B := B) (φ := withNew φ s.next 0 ⟨w.heap.size, 0, ci.toNat, n⟩) s.next 0 0 li.toNat ⟨w.heap.size, 0, ci.toNat, n⟩ (by simp [withNew]) (Nat.le_refl _) c1 (by simp; omega) (by simp)
            simpa using this
          refine ⟨_, .slice (some ⟨w.heap.size, 0, none⟩) li.toNat ci.toNat, _, wrap ?_, g1, g2, g5⟩
          have w1 : IntKind.i64.wrap li = li := wrap_small c3 (by omega)
          have w2 : IntKind.i64.wrap ci = ci := wrap_small (by omega) c5
          rw [hl', hc']
          unfold Instr.makeSlice
          have hbig : ∀ x : Int, 0 ≤ x → x ≤ ci → (decide (x < 0) || decide ((b : Int) * x > 2 ^ 48)) = false := by
            intro x hx0 hxc
            have h1 : (b : Int) * x ≤ b * ci := Int.mul_le_mul_of_nonneg_left hxc (by omega)
            have h2 : (b : Int) * ci ≤ 2 ^ 48 := by
              have : (ci.toNat : Int) = ci := Int.toNat_of_nonneg (by omega)
              rw [← this]
              exact_mod_cast c6
            simp only [Bool.or_eq_false_iff, decide_eq_false_iff_not]
            omega
          have hrow : ((Array.range (ci.toNat * n)).map fun i => (if ci.toNat * n = 0 then #[] else z.cells)[i % (if ci.toNat * n = 0 then #[] else z.cells).size]!) = (aZeros z.cells.toList ci.toNat).toArray := by
            by_cases h0 : ci.toNat * n = 0
            · have hl0 : ci.toNat = 0 := by rcases Nat.mul_eq_zero.1 h0 with h | h; exact h; omega
              rw [hl0]
              simp [aZeros]
            · simp only [if_neg h0]
              have := zeros_row z.cells ci.toNat (by omega)
              rw [c2] at this
              rw [c2]
              exact this
          simp only [Sem.run_bind, run_desc hE hd, Result.andThen_ok, asInt, asIntOf, Sem.run_pure, hi, hib, w1, w2, hbig ci (by omega) (Int.le_refl _)]
          have hneg : ¬ (li < 0) := by omega
          have hgt : ¬ (li > ci) := by omega
          simp only [hneg, hgt, decide_false, Bool.or_self, Bool.false_or, Bool.false_eq_true, if_false, Sem.run_bind, run_askRoom, Result.andThen_ok, run_size hE hn]
          by_cases h0 : ci.toNat * n = 0
          · simp only [h0, if_true] at hrow
            simp only [h0, if_true, Sem.run_bind, Sem.run_pure, Result.andThen_ok, hrow]
            simp [newRow]
          · simp only [if_neg h0] at hrow
            simp only [if_neg h0, Sem.run_bind, run_zero hE hz, Sem.run_pure, Result.andThen_ok, hrow]
            simp [newRow]
        next => simp at h
      next => simp at h
    next => simp at h
  case range t x =>
    split at h
    next b hx hd =>
      simp only [Option.some.injEq, Prod.mk.injEq] at h
      obtain ⟨rfl, rfl⟩ := h
      refine ⟨_, rfl, fun g φ w ρ' hR hg hρ => ?_⟩
      have hv := hρ x (by simp)
      rw [hx] at hv
      have hpush := hR.push hg (.iter b 0) ⟨w.heap.size, 0, 0, 0⟩ rfl (w' := { w with heap := w.heap.push (.stringIter b 0) }) ⟨_, rfl⟩ rfl rfl rfl (by simp) (by simp) (fun s p he => by
        cases he
        simp)
      refine ⟨_, .pointer (some ⟨w.heap.size, 0, none⟩), _, wrap ?_, hpush.1, hpush.2, .pnew s.next 0 0 ⟨w.heap.size, 0, 0, 0⟩ (by simp [withNew]) (Nat.le_refl _)⟩
      simp [Instr.range, run_desc hE hd, hv.string_left]
    next => simp at h
  case convert src dst x =>
    unfold aConvert at h
    split at h
    next a n c =>
      split at h
      next e hs hd => simp [toSlice, hd] at ha
      next => simp at h
    next b hx =>
      split at h
      next hs hd => simp [toSlice, hd] at ha
      next e hs hd =>
        split at h
        next he =>
          simp only [mkRow, Option.some.injEq, Prod.mk.injEq] at h
          obtain ⟨rfl, rfl⟩ := h
          refine ⟨_, rfl, fun g φ w ρ' hR hg hρ => ?_⟩
          have hv := hρ x (by simp)
          rw [hx] at hv
          obtain ⟨cap, hcap, hcut⟩ : ∃ cap, b.size ≤ cap ∧ (choose (.appendCap b.size 0 e)).run E.P w = .ok cap { w with drawn := w.drawn + 1 } :=
            ⟨b.size + w.tape w.drawn (.appendCap b.size 0 e) % (2 ^ 63 - b.size), Nat.le_add_right _ _, by rw [run_choose]; rfl⟩
          generalize hel : (b.data.map fun (x : UInt8) => Value.int .u8 (x.toNat : Int)) = els
          have hels : els.size = b.size := by rw [← hel]; simp
          have hbl : (b.data.toList.map fun (x : UInt8) => Value.int .u8 (x.toNat : Int)) = els.toList := by rw [← hel]; simp
          have hcsz : (els ++ Array.replicate (cap - b.size) (Value.int .u8 0)).size = cap := by simp; omega
          have hfl : flatL els.toList = true := by
            rw [flatL_iff]
            intro i y hy
            rw [← hel] at hy
            simp only [Array.toList_map, List.getElem?_map, Option.map_eq_some_iff] at hy
            obtain ⟨q, _, rfl⟩ := hy
            rfl
          rw [hbl]
          obtain ⟨g1, g2, g3, g4⟩ := hR.new_row hg (l := els.toList) (l' := els.toList) (n := 1) (m := b.size) (cap := cap) (c := els ++ Array.replicate (cap - b.size) (.int .u8 0)) (t := e) (fr := (cap, cap + 1))
            (w' := { w with drawn := w.drawn + 1, heap := w.heap.push (.cells (els ++ Array.replicate (cap - b.size) (.int .u8 0)) e (cap, cap + 1)) })
            (VL.refl_of_flat' hfl) (by omega) (by simp [hels]) (by rw [hcsz]; omega) hcap (fun i hi => by simp at hi; rw [Array.getElem?_append_left hi]; simp) (by rw [hcsz]; intro o ho; simp; omega) rfl rfl rfl rfl
          refine ⟨_, .slice (some ⟨w.heap.size, 0, none⟩) b.size cap, _, wrap ?_, g1, g2, g4⟩
          rw [hv.string_left]
          simp only [convert, Sem.run_bind, run_desc hE hs, run_desc hE hd, run_desc hE he, Result.andThen_ok, Conv.stringToBytes, hcut, hel, newRow, run_newObj, markStringish, run_shape]
          have hsh : World.shape? { w with drawn := w.drawn + 1, heap := w.heap.push (.cells (els ++ Array.replicate (cap - b.size) (.int .u8 0)) e) } w.heap.size = some (e, cap) := by
            simp only [World.shape?, Array.getElem?_push_size, hcsz]
          simp only [Sem.run_pure, Result.andThen_ok, hsh, run_freeze]
          congr 1
          unfold World.freeze
          rw [if_neg (by omega)]
          congr 1
          apply Array.ext_getElem?
          intro i
          simp only [Array.getElem?_modify, Array.getElem?_push]
          by_cases hi : i = w.heap.size
          · subst hi; simp
          · have : ¬ w.heap.size = i := fun h => hi h.symm
            simp [hi, this]
        next => simp at h
      next => simp at h
    next l c hx =>
      rw [if_pos ha] at h
      simp at h
    next k n hx =>
      rw [if_pos ha] at h
      simp at h
    next => simp at h
    next => simp at h

end

end Go.Ai

/-
  THE SHORT RUN, 12: operations that write.
-/
set_option linter.unusedSimpArgs false
set_option linter.unusedVariables false
set_option linter.unusedSectionVars false
namespace Go.Ai
open Go

/-- Numbers from 'next' on stand for nothing yet. -/
def St.Fresh (s : St) : Prop := ∀ f, s.next ≤ f → s.get f = none

theorem St.Fresh.push {s : St} (h : s.Fresh) (o : AObj) : (s.push o).Fresh := by
  intro f hf
  rw [St.get_push, if_neg (by simp [St.push] at hf; omega)]
  exact h f (by simp [St.push] at hf; omega)

theorem St.Fresh.put {s : St} (h : s.Fresh) {f : Nat} (o : AObj) (hf : (s.get f).isSome = true) : (s.put f o).Fresh := by
  intro g hg
  rw [St.get_put]
  split
  · rename_i e
    subst e
    have := h g hg
    simp [this] at hf
  · exact h g hg

theorem St.Fresh.lt {s : St} (h : s.Fresh) {f : Nat} (hf : (s.get f).isSome = true) : f < s.next := by
  rcases Nat.lt_or_ge f s.next with h1 | h1
  · exact h1
  · simp [h f h1] at hf

theorem R.noneAt {B : Nat} {w₀ : World} {φ : Phi} {s : St} {w : World} (h : R B w₀ φ s.get w) (hF : s.Fresh) : ∀ e, φ s.next e = none := fun e => by
  cases he : φ s.next e with
  | none => rfl
  | some k => have := h.dom _ _ _ he; simp [hF s.next (Nat.le_refl _)] at this

section
variable {E : Env} {B : Nat} {w₀ : World} (hE : E.Ok B w₀)
include hE

theorem e_write {φ : Phi} {s s' : St} {w : World} (hR : R B w₀ φ s.get w) {a c : Addr} (hp : V B φ (.pointer (some a)) (.pointer (some c))) {vs vs' : List Value} (hv : VL B φ vs vs') (h : writeN s a vs = some s') :
    ∃ w', (storeCells c vs').run E.P w = .ok () w' ∧ Step s.next φ w φ w' ∧ R B w₀ φ s'.get w' ∧ (s.Fresh → s'.Fresh) ∧ s'.next = s.next := by
  unfold writeN at h
  split at h
  next => simp at h
  next e he =>
    split at h
    next cells esz ep lw hist hg =>
      split at h
      next hc =>
        obtain ⟨rfl, h1, h2, h3⟩ := hc
        cases h
        obtain ⟨k, hk, hb, rfl⟩ := hp.pointer_new he
        obtain ⟨w', g1, g2, g3⟩ := hR.write E.P hg h1 hk hb h2 hv (by simpa using h3)
        exact ⟨w', g1, g2, g3, fun hf => hf.put _ (by simp [hg]), rfl⟩
      next => simp at h
    next => simp at h

theorem e_store {φ : Phi} {s s' : St} {t : TypeId} {x x' v v' : Value} {w : World} (hR : R B w₀ φ s.get w) (hx : V B φ x x') (hv : V B φ v v') (h : aStore E s t x v = some s') :
    ∃ w', (Instr.storeAt t x' v').run E.P w = .ok () w' ∧ Step s.next φ w φ w' ∧ R B w₀ φ s'.get w' ∧ (s.Fresh → s'.Fresh) ∧ s'.next = s.next := by
  unfold aStore at h
  split at h
  next a =>
    obtain ⟨c, rfl⟩ := hx.pointer_some
    split at h
    next => simp at h
    next n hn =>
      split at h
      next hc =>
        obtain ⟨w', g1, g2⟩ := e_write hE hR hx hv.cells.toList h
        refine ⟨w', ?_, g2⟩
        have hsz : v'.cells.size = n := by rw [← hv.cells.1]; exact hc
        simp [Instr.storeAt, Instr.sureAddr, storeVar, run_size hE hn, hsz, g1]
      next => simp at h
  next => simp at h

theorem e_source {φ : Phi} {s : St} {m n : Nat} {x x' : Value} {l : List Value} {w : World} (hR : R B w₀ φ s.get w) (hx : V B φ x x') (h : aSource E s m n x = some l) (hm : aLen x = some m ∨ m = 0 ∨ ∃ k, aLen x = some k ∧ m ≤ k) :
    ∃ l', (Builtin.firstCells n m x').run E.P w = .ok l'.toArray w ∧ VL B φ l l' := by
  unfold aSource at h
  split at h
  next k c =>
    cases h
    rw [hx.flat_right rfl]
    exact ⟨[], rfl, ⟨rfl, by simp⟩⟩
  next a k c =>
    have key : ∀ c', V B φ (.pointer (some a)) (.pointer (some c')) → ∀ k' cap', ∃ l', (Builtin.firstCells n m (.slice (some c') k' cap')).run E.P w = .ok l'.toArray w ∧ VL B φ l l' := by
      intro c' hp k' cap'
      obtain ⟨h1, l', h2, h3, h4⟩ := hR.read hE.old hp h
      have h5 := run_loadCells_list (P := E.P) w c' l' h4
      rw [h2] at h5
      exact ⟨l', by simpa [Builtin.firstCells] using h5, by rw [h1, h2], h3⟩
    rcases hx.slice_some with ⟨c', rfl, h2, h3⟩ | ⟨e, k', c', h1, h2, _, _, _, _, hp, _, rfl⟩ | ⟨e, k', o, h1, h2, hn0, h3, h4, h5, h6, _, rfl⟩
    · exact key c' h2 _ _
    · exact key c' hp _ _
    · subst hn0
      have hm0 : m = 0 := by
        simp only [aLen, Option.some.injEq] at hm
        rcases hm with hm | hm | ⟨_, hm, hm'⟩ <;> omega
      subst hm0
      have hae : a = ⟨a.block, a.off, some e⟩ := by rw [← h1]
      rw [hae] at h
      obtain ⟨g1, _⟩ := hR.read hE.old (.pnew _ _ _ _ h3 h4) h
      have : l = [] := by simpa using g1
      subst this
      exact ⟨[], by simp [Builtin.firstCells, loadCells, loadCellsFrom], rfl, by simp⟩
  next b =>
    split at h
    next hn =>
      cases h
      subst hn
      rw [hx.string_left]
      refine ⟨(b.extract 0 m).data.toList.map fun b => .int .u8 b.toNat, by
        show Result.ok ((b.extract 0 m).data.map fun b => Value.int .u8 b.toNat) w = _
        rw [← Array.toList_map], rfl, fun i x y hx hy => ?_⟩
      have hxx := hx
      simp only [List.getElem?_map, Option.map_eq_some_iff] at hx
      obtain ⟨q, hq, rfl⟩ := hx
      simp only [List.getElem?_map, hq, Option.map_some, Option.some.injEq] at hy
      subst hy
      exact .int _ _
    next => simp at h
  next => simp at h


/-! append -/

omit hE in
theorem nextcap_le (need cap : Nat) (h : cap < need) : Builtin.nextslicecap need cap ≤ 3 * need := by
  unfold Builtin.nextslicecap
  split
  · omega
  · split
    · omega
    · have key : ∀ r c, 256 ≤ c → c ≤ 3 * need → (c < need → c + (c + 768) / 4 ≤ 3 * need) → Builtin.growBy need r c ≤ 3 * need := by
        intro r
        induction r with
        | zero => intro c _ hc _; exact hc
        | succ r ih =>
          intro c h0 hc hg
          simp only [Builtin.growBy]
          split
          · exact hc
          · have := hg (by omega)
            exact ih _ (by omega) this (by omega)
      exact key 4 cap (by omega) (by omega) (by omega)

omit hE in
theorem run_lenOf {φ : Phi} {x x' : Value} {m : Nat} (hx : V B φ x x') (h : aLen x = some m) (w : World) : (Builtin.lenOf x').run E.P w = .ok m w := by
  unfold aLen at h
  split at h
  next a n c =>
    cases h
    cases hx <;> rfl
  next b =>
    cases h
    rw [hx.string_left]
    rfl
  next => simp at h

omit hE in
theorem aNew_cases {s : St} {argTypes : Array TypeId} {n b : Nat} {z x : Value} {m : Nat} {new : List Value} (h : aNew E s argTypes n b z x = some (m, new)) :
    (∃ xt k kk i, argTypes[1]? = some xt ∧ E.desc xt = some (.int k) ∧ x = .int kk i ∧ 0 ≤ i ∧ i < 2 ^ 62 ∧ i.toNat * b ≤ 2 ^ 46 ∧ m = i.toNat ∧ new = aZeros z.cells.toList m) ∨
    ((argTypes[1]? = none ∨ ∃ xt d, argTypes[1]? = some xt ∧ E.desc xt = some d ∧ ∀ k, d ≠ .int k) ∧ aLen x = some m ∧ aSource E s m n x = some new) := by
  unfold aNew at h
  have src : ∀ {r : Option (Nat × List Value)}, (match aLen x with | some m => (aSource E s m n x).map fun l => (m, l) | none => none : Option (Nat × List Value)) = some (m, new) → aLen x = some m ∧ aSource E s m n x = some new := by
    intro _ h
    cases hl : aLen x with
    | none => simp [hl] at h
    | some m' =>
      simp only [hl, Option.map_eq_some_iff, Prod.mk.injEq] at h
      obtain ⟨l, h1, rfl, rfl⟩ := h
      exact ⟨rfl, h1⟩
  split at h
  next xt hxt =>
    split at h
    next k hk =>
      split at h
      next kk i =>
        split at h
        next hc =>
          simp only [Option.some.injEq, Prod.mk.injEq] at h
          obtain ⟨rfl, rfl⟩ := h
          exact .inl ⟨xt, k, kk, i, hxt, hk, rfl, hc.1, hc.2.1, hc.2.2, rfl, rfl⟩
        next => simp at h
      next => simp at h
    next d hni hd =>
      obtain ⟨h1, h2⟩ := src (r := none) h
      exact .inr ⟨.inr ⟨xt, d, hxt, hd, fun k hk => hni k hk⟩, h1, h2⟩
    next => simp at h
  next hxt =>
    obtain ⟨h1, h2⟩ := src (r := none) h
    exact .inr ⟨.inl hxt, h1, h2⟩

set_option maxHeartbeats 1000000 in
/-- The machine's append where it has to make a new array. -/
theorem run_append_new {φ : Phi} {s : St} {w : World} {elem st : TypeId} {argTypes : Array TypeId} {ty : TypeId} {n b : Nat} {z : Value} (hR : R B w₀ φ s.get w)
    (hst : argTypes[0]? = some st) (hd : E.desc st = some (.slice elem)) (hn : E.size elem = some n) (hb : E.bytes elem = some b) (hz : E.zero elem = some z) (hn0 : 0 < n) (hzn : z.cells.size = n)
    {base : Option Addr} {len cap m : Nat} {x x' : Value} {new was was' : List Value} (hx : V B φ x x') (hnew : aNew E s argTypes n b z x = some (m, new)) (hneed : cap < len + m)
    (hsmall : (len + m) * b ≤ 2 ^ 46) (hsmall' : len + m < 2 ^ 62)
    (hwas : ∀ d, (Builtin.firstCells n len (.slice base len cap)).run E.P { w with drawn := d } = .ok was'.toArray { w with drawn := d }) :
    ∃ new' newCap, VL B φ new new' ∧ len + m ≤ newCap ∧
      (Builtin.append_ argTypes ty #[.slice base len cap, x']).run E.P w =
        .ok (.slice (some ⟨w.heap.size, 0, none⟩) (len + m) newCap)
          { w with drawn := w.drawn + 1, heap := w.heap.push (.cells (was'.toArray ++ new'.toArray ++ (aZeros z.cells.toList (newCap - (len + m))).toArray) elem) } := by
  obtain ⟨i, hi, hib⟩ := run_bytes hE hb w
  obtain ⟨i', hi', hib'⟩ := run_bytes hE hb { w with drawn := w.drawn + 1 }
  have h1 : ¬ (len + m ≤ cap) := by omega
  have h2 : ¬ ((len + m : Nat) : Int) > IntKind.i64.max := by
    have : IntKind.i64.max = 2 ^ 63 - 1 := rfl
    rw [this]; omega
  have h3 : ¬ (Builtin.nextslicecap (len + m) cap * b > 2 ^ 48) := by
    have := nextcap_le (len + m) cap hneed
    have h4 : Builtin.nextslicecap (len + m) cap * b ≤ 3 * (len + m) * b := Nat.mul_le_mul_right _ this
    have h5 : 3 * (len + m) * b = 3 * ((len + m) * b) := Nat.mul_assoc _ _ _
    omega
  have hch : (choose (.appendCap (len + m) cap elem)).run E.P w = .ok (len + m + w.tape w.drawn (.appendCap (len + m) cap elem) % (2 ^ 63 - (len + m))) { w with drawn := w.drawn + 1 } := by
    rw [run_choose]; rfl
  generalize hnc : len + m + w.tape w.drawn (.appendCap (len + m) cap elem) % (2 ^ 63 - (len + m)) = newCap at hch
  have hle : len + m ≤ newCap := by omega
  have hzr : ∀ k, Builtin.zeroCells z.cells k = (aZeros z.cells.toList k).toArray := fun k => zeros_row z.cells k (by omega)
  have hzd := run_zero hE hz { w with drawn := w.drawn + 1 }
  have hw1 := hwas (w.drawn + 1)
  have hR' : R B w₀ φ s.get { w with drawn := w.drawn + 1 } := hR.drew _
  have hend : ∀ c, ({ w with drawn := w.drawn + 1 } : World).alloc (.cells c elem) = { w with drawn := w.drawn + 1, heap := w.heap.push (.cells c elem) } := fun c => rfl
  have hhs : ({ w with drawn := w.drawn + 1 } : World).heap.size = w.heap.size := rfl
  rcases aNew_cases hnew with ⟨xt, k, kk, ii, hxt, hk, rfl, hi0, hi1, hi2, rfl, rfl⟩ | ⟨hxt, hlen, hsrc⟩
  · rw [hx.int_left]
    refine ⟨aZeros z.cells.toList ii.toNat, newCap, VL.refl_of_flat' (flatL_aZeros (flat_cells (hE.zero _ _ hz).1) _), hle, ?_⟩
    have h2' : ¬ (9223372036854775807 < (len : Int) + ii.toNat) := by omega
    have h2'' : ¬ (9223372036854775807 < (len : Int) + max ii 0) := by omega
    have h3' : ¬ (281474976710656 < Builtin.nextslicecap (len + ii.toNat) cap * b) := by omega
    have hwr : IntKind.i64.wrap ii = ii := wrap_small hi0 hi1
    have hneg : ¬ (ii < 0) := by omega
    have hbig : ¬ (281474976710656 < ii * (b : Int)) := by
      have h1 : ((ii.toNat * b : Nat) : Int) = ii * b := by rw [Int.natCast_mul, Int.toNat_of_nonneg hi0]
      omega
    have happ : (if ii.toNat * n = 0 then (pure #[] : Sem (Array Value)) else do pure (Builtin.zeroCells (← zeroValue elem).cells ii.toNat)).run E.P { w with drawn := w.drawn + 1 } =
        .ok (aZeros z.cells.toList ii.toNat).toArray { w with drawn := w.drawn + 1 } := by
      by_cases h0 : ii.toNat * n = 0
      · have : ii.toNat = 0 := by rcases Nat.mul_eq_zero.1 h0 with h | h; exact h; omega
        rw [if_pos h0, this]
        simp [aZeros]
      · rw [if_neg h0]
        simp only [Sem.run_bind, hzd, Result.andThen_ok, hzr, Sem.run_pure]
    simp only [← hend]
    generalize ({ w with drawn := w.drawn + 1 } : World) = w1 at *
    unfold Builtin.append_
    by_cases h0 : ii.toNat * n = 0
    · have hi00 : ii.toNat = 0 := by rcases Nat.mul_eq_zero.1 h0 with h | h; exact h; omega
      have hi000 : ii = 0 := by omega
      subst hi000
      have h2a : ¬ (9223372036854775807 < (len : Int)) := by omega
      simp only [Int.toNat_zero, Nat.add_zero] at h1 h3' hch hneed
      simp [-run_choose, hst, hxt, run_desc hE hd, run_desc hE hk, run_size hE hn, h1, hi, hib, hi', hib', h2a, h3', hch, hw1, hzd, hzr, newRow, hhs, asInt, asIntOf, hwr, aZeros]
    · simp [-run_choose, hst, hxt, run_desc hE hd, run_desc hE hk, run_size hE hn, h1, hi, hib, hi', hib', h2', h3', hch, hw1, hzd, hzr, newRow, hhs, asInt, asIntOf, hwr, hneg, hbig, h0, h2'']
  · obtain ⟨new', hs1, hs2⟩ := e_source hE hR' hx hsrc (.inl hlen)
    refine ⟨new', newCap, hs2, hle, ?_⟩
    have hl := run_lenOf (E := E) hx hlen w
    have h2' : ¬ (9223372036854775807 < (len : Int) + m) := by omega
    have h3' : ¬ (281474976710656 < Builtin.nextslicecap (len + m) cap * b) := by omega
    simp only [← hend]
    generalize ({ w with drawn := w.drawn + 1 } : World) = w1 at *
    unfold Builtin.append_
    rcases hxt with hxt | ⟨xt, d, hxt, hd', hni⟩
    · simp [-run_choose, hst, hxt, run_desc hE hd, run_size hE hn, hl, h1, hi, hib, hi', hib', h2', h3', hch, hw1, hs1, hzd, hzr, newRow, hhs]
    · cases d <;> first
        | exact absurd rfl (hni _)
        | simp [-run_choose, hst, hxt, run_desc hE hd, run_desc hE hd', run_size hE hn, hl, h1, hi, hib, hi', hib', h2', h3', hch, hw1, hs1, hzd, hzr, newRow, hhs]


set_option maxHeartbeats 1000000 in
/-- The machine's append where there is room. -/
theorem run_append_in {φ : Phi} {s : St} {w : World} {elem st : TypeId} {argTypes : Array TypeId} {ty : TypeId} {n b : Nat} {z : Value} (hR : R B w₀ φ s.get w)
    (hst : argTypes[0]? = some st) (hd : E.desc st = some (.slice elem)) (hn : E.size elem = some n) (hb : E.bytes elem = some b) (hz : E.zero elem = some z) (hn0 : 0 < n) (hzn : z.cells.size = n)
    {base : Option Addr} {len cap m : Nat} {x x' : Value} {new : List Value} (hx : V B φ x x') (hnew : aNew E s argTypes n b z x = some (m, new)) (hneed : len + m ≤ cap) :
    ∃ new', VL B φ new new' ∧ ∀ w', (match base with | some c => (storeCells (c.add (len * n)) new').run E.P w = .ok () w' | none => w' = w) →
      (Builtin.append_ argTypes ty #[.slice base len cap, x']).run E.P w = .ok (.slice base (len + m) cap) w' := by
  obtain ⟨i, hi, hib⟩ := run_bytes hE hb w
  have hzr : ∀ k, Builtin.zeroCells z.cells k = (aZeros z.cells.toList k).toArray := fun k => zeros_row z.cells k (by omega)
  have hzd := run_zero hE hz w
  rcases aNew_cases hnew with ⟨xt, k, kk, ii, hxt, hk, rfl, hi0, hi1, hi2, rfl, rfl⟩ | ⟨hxt, hlen, hsrc⟩
  · rw [hx.int_left]
    refine ⟨aZeros z.cells.toList ii.toNat, VL.refl_of_flat' (flatL_aZeros (flat_cells (hE.zero _ _ hz).1) _), fun w' hw' => ?_⟩
    have hwr : IntKind.i64.wrap ii = ii := wrap_small hi0 hi1
    have hneg : ¬ (ii < 0) := by omega
    have hbig : ¬ (281474976710656 < ii * (b : Int)) := by
      have h1 : ((ii.toNat * b : Nat) : Int) = ii * b := by rw [Int.natCast_mul, Int.toNat_of_nonneg hi0]
      omega
    unfold Builtin.append_
    by_cases h0 : ii.toNat * n = 0
    · have hi00 : ii.toNat = 0 := by rcases Nat.mul_eq_zero.1 h0 with h | h; exact h; omega
      have hi000 : ii = 0 := by omega
      subst hi000
      simp only [Int.toNat_zero, Nat.add_zero] at hneed
      simp only [Int.toNat_zero, aZeros, List.replicate_zero, List.flatten_nil] at hw'
      cases base with
      | none => subst hw'; simp [-run_choose, hst, hxt, run_desc hE hd, run_desc hE hk, run_size hE hn, hneed, hi, hib, hzd, hzr, asInt, asIntOf, hwr]
      | some c => simp [-run_choose, hst, hxt, run_desc hE hd, run_desc hE hk, run_size hE hn, hneed, hi, hib, hzd, hzr, asInt, asIntOf, hwr, hw']
    · cases base with
      | none => subst hw'; simp [-run_choose, hst, hxt, run_desc hE hd, run_desc hE hk, run_size hE hn, hneed, hi, hib, hzd, hzr, asInt, asIntOf, hwr, hneg, hbig, h0]
      | some c => simp [-run_choose, hst, hxt, run_desc hE hd, run_desc hE hk, run_size hE hn, hneed, hi, hib, hzd, hzr, asInt, asIntOf, hwr, hneg, hbig, h0, hw']
  · obtain ⟨new', hs1, hs2⟩ := e_source hE hR hx hsrc (.inl hlen)
    refine ⟨new', hs2, fun w' hw' => ?_⟩
    have hl := run_lenOf (E := E) hx hlen w
    unfold Builtin.append_
    rcases hxt with hxt | ⟨xt, d, hxt, hd', hni⟩
    · cases base with
      | none => subst hw'; simp [-run_choose, hst, hxt, run_desc hE hd, run_size hE hn, hl, hneed, hs1]
      | some c => simp [-run_choose, hst, hxt, run_desc hE hd, run_size hE hn, hl, hneed, hs1, hw']
    · cases base with
      | none =>
        subst hw'
        cases d <;> first
          | exact absurd rfl (hni _)
          | simp [-run_choose, hst, hxt, run_desc hE hd, run_desc hE hd', run_size hE hn, hl, hneed, hs1]
      | some c =>
        cases d <;> first
          | exact absurd rfl (hni _)
          | simp [-run_choose, hst, hxt, run_desc hE hd, run_desc hE hd', run_size hE hn, hl, hneed, hs1, hw']

end

end Go.Ai

/-
  THE SHORT RUN, 13: append, copy, maps, walks along a string.
-/
set_option linter.unusedSimpArgs false
set_option linter.unusedVariables false
set_option linter.unusedSectionVars false
namespace Go.Ai
open Go

section
variable {E : Env} {B : Nat} {w₀ : World} (hE : E.Ok B w₀)
include hE

theorem VL.append {φ : Phi} {a a' b b' : List Value} (h : VL B φ a a') (k : VL B φ b b') : VL B φ (a ++ b) (a' ++ b') := by
  refine ⟨by simp [h.1, k.1], fun i x y hx hy => ?_⟩
  by_cases hi : i < a.length
  · rw [List.getElem?_append_left hi] at hx
    rw [List.getElem?_append_left (by rw [← h.1]; exact hi)] at hy
    exact h.2 i x y hx hy
  · rw [List.getElem?_append_right (by omega)] at hx
    rw [List.getElem?_append_right (by rw [← h.1]; omega), ← h.1] at hy
    exact k.2 _ x y hx hy

/-- The cells of a new array behind an append, and how far they go. -/
theorem grown_get (was new : List Value) (z : List Value) (k : Nat) (i : Nat) (hi : i < (was ++ new).length) : (was.toArray ++ new.toArray ++ (aZeros z k).toArray)[i]? = (was ++ new)[i]? := by
  simp only [List.append_toArray, List.getElem?_toArray]
  rw [List.getElem?_append_left hi]

theorem e_append {φ : Phi} {s s' : St} {argTypes : Array TypeId} {ty : TypeId} {sl sl' x x' v : Value} {w : World} (hR : R B w₀ φ s.get w) (hF : s.Fresh) (hs : V B φ sl sl') (hx : V B φ x x')
    (h : aAppend E s argTypes sl x = some (v, s')) :
    ∃ φ' v' w', (Builtin.append_ argTypes ty #[sl', x']).run E.P w = .ok v' w' ∧ Step s.next φ w φ' w' ∧ R B w₀ φ' s'.get w' ∧ V B φ' v v' ∧ s'.Fresh ∧ s.next ≤ s'.next := by
  unfold aAppend at h
  split at h
  next => simp at h
  next st hst =>
    split at h
    next elem hd =>
      split at h
      next n b z hn hb hz =>
        split at h
        next => simp at h
        next hnz =>
          obtain ⟨hn0, hzn⟩ : 0 < n ∧ z.cells.size = n := Classical.not_not.1 hnz
          split at h
          next => simp at h
          next m new hnew =>
            split at h
            next => simp at h
            next hnl =>
              obtain ⟨hnewl, hcell⟩ : new.length = m * n ∧ new.all isCell = true := Classical.not_not.1 hnl
              have hcell' : ∀ y ∈ new, isCell y = true := by simpa using hcell
              have wasOf : ∀ (a c' : Addr) (len cap : Nat) (was : List Value), V B φ (.pointer (some a)) (.pointer (some c')) → readN E.old s a (len * n) = some was →
                  ∃ was', VL B φ was was' ∧ was.length = len * n ∧ ∀ d, (Builtin.firstCells n len (.slice (some c') len cap)).run E.P { w with drawn := d } = .ok was'.toArray { w with drawn := d } := by
                intro a c' len cap was hp hr
                obtain ⟨h1, l', h2, h3, h4⟩ := hR.read hE.old hp hr
                refine ⟨l', ⟨by rw [h1, h2], h3⟩, h1, fun d => ?_⟩
                have h5 := run_loadCells_list (P := E.P) { w with drawn := d } c' l' h4
                rw [h2] at h5
                simpa [Builtin.firstCells] using h5
              -- a fresh array of its own
              have fresh : ∀ (base : Option Addr) (len cap : Nat) (was was' : List Value), sl' = .slice base len cap → was.length = len * n → VL B φ was was' → cap < len + m → (len + m) * b ≤ 2 ^ 46 → len + m < 2 ^ 62 →
                  (∀ d, (Builtin.firstCells n len (.slice base len cap)).run E.P { w with drawn := d } = .ok was'.toArray { w with drawn := d }) →
                  ∃ φ' v' w', (Builtin.append_ argTypes ty #[sl', x']).run E.P w = .ok v' w' ∧ Step s.next φ w φ' w' ∧ R B w₀ φ' (s.push (.row (was ++ new) n 0 0 [])).get w' ∧
                    V B φ' (.slice (some ⟨s.next, 0, some 0⟩) (len + m) unc) v' ∧ (s.push (.row (was ++ new) n 0 0 [])).Fresh ∧ s.next ≤ (s.push (.row (was ++ new) n 0 0 [])).next := by
                intro base len cap was was' hsl hwl hvw hneed hs1 hs2 hfc
                subst hsl
                obtain ⟨new', newCap, g1, g2, g3⟩ := run_append_new hE (was := []) (ty := ty) hR hst hd hn hb hz hn0 hzn hx hnew hneed hs1 hs2 hfc
                have hlen' : was'.length = len * n := by rw [← hvw.1]; exact hwl
                have hlenn : new'.length = m * n := by rw [← g1.1]; exact hnewl
                have hsub : len + m + (newCap - (len + m)) = newCap := by omega
                obtain ⟨f1, f2, f3, f4⟩ := hR.new_row (hR.noneAt hF) (l := was ++ new) (l' := was' ++ new') (n := n) (m := len + m) (cap := newCap) (t := elem) (fr := (0, 0))
                  (c := was'.toArray ++ new'.toArray ++ (aZeros z.cells.toList (newCap - (len + m))).toArray)
                  (w' := { w with drawn := w.drawn + 1, heap := w.heap.push (.cells (was'.toArray ++ new'.toArray ++ (aZeros z.cells.toList (newCap - (len + m))).toArray) elem) })
                  (VL.append hE hvw g1) hn0 (by simp [hwl, hnewl, Nat.add_mul]) (by
                    simp only [Array.size_append, List.size_toArray, hlen', hlenn, aZeros_length, Array.length_toList, hzn]
                    rw [← Nat.add_mul, ← Nat.add_mul, hsub]) g2 (fun i hi => grown_get hE _ _ _ _ i hi) (by simp) rfl rfl rfl rfl
                refine ⟨_, _, _, g3, f1, ?_, f4, hF.push _, by simp [St.push]⟩
                rw [show (s.push (.row (was ++ new) n 0 0 [])).get = _ from funext fun m => St.get_push _ _ _]
                exact f2
              split at h
              next l c =>
                split at h
                next => simp at h
                next hlc =>
                  obtain ⟨rfl, rfl⟩ : l = 0 ∧ c = 0 := by
                    constructor <;> (apply Classical.byContradiction; intro hh; exact hlc (by simp [hh]))
                  obtain rfl := hs.flat_right (by simp [flat])
                  split at h
                  next hm =>
                    subst hm
                    cases h
                    obtain ⟨new', _, g⟩ := run_append_in hE (ty := ty) (len := 0) (cap := 0) (base := none) hR hst hd hn hb hz hn0 hzn hx hnew (by omega)
                    exact ⟨φ, _, w, g w rfl, Step.refl _ _, hR, .snil 0 0, hF, Nat.le_refl _⟩
                  next hm =>
                    split at h
                    next hsm =>
                      simp only [mkRow, Option.some.injEq, Prod.mk.injEq] at h
                      obtain ⟨rfl, rfl⟩ := h
                      have := fresh none 0 0 [] [] rfl (by simp) ⟨rfl, by simp⟩ (by omega) (by simpa using hsm.1) (by simpa using hsm.2) (fun d => rfl)
                      simpa using this
                    next => simp at h
              next a len cap =>
                split at h
                next hsm =>
                  obtain ⟨hsm1, hsm2⟩ := hsm
                  split at h
                  next e he =>
                    split at h
                    next cells esz ep lw hist hg =>
                      split at h
                      next hc =>
                        obtain ⟨rfl, hlw, rfl, hoff⟩ := hc
                        split at h
                        next hcap =>
                          subst hcap
                          obtain ⟨k, c', cap', hk, hke, hz0, rfl, hbase, hdv, hfit, hlen, hrm, hcase⟩ := hs.slice_unc hR hg he hlw
                          split at h
                          next hm =>
                            subst hm
                            cases h
                            obtain ⟨new', hvn, g⟩ := run_append_in hE (ty := ty) (len := len) (cap := cap') (base := some c') hR hst hd hn hb hz hn0 hzn hx hnew (by omega)
                            have hnil : new' = [] := by
                              have h1 := hvn.1
                              rw [hnewl] at h1
                              simpa using h1.symm
                            subst hnil
                            exact ⟨φ, _, w, g w rfl, Step.refl _ _, hR, hs, hF, Nat.le_refl _⟩
                          next hm =>
                            split at h
                            next hin =>
                              cases h
                              have hdivs : len + m ≤ (cells.length - a.off) / esz := by
                                rw [Nat.le_div_iff_mul_le hz0]; omega
                              have hneed : len + m ≤ cap' := by omega
                              obtain ⟨new', hvn, g⟩ := run_append_in hE (ty := ty) (len := len) (cap := cap') (base := some c') hR hst hd hn hb hz hn0 hzn hx hnew hneed
                              rcases hcase with ⟨hp, hcap1, hcap2⟩ | ⟨_, h0, _⟩
                              · obtain ⟨k', hk', _, rfl⟩ := hp.pointer_new he
                                rw [hk] at hk'; cases hk'
                                have hin' : a.off + len * esz + new.length ≤ cells.length := by rw [hnewl, Nat.add_assoc, ← Nat.add_mul]; exact hin
                                obtain ⟨w', g1, g2, g3⟩ := hR.write E.P (off := a.off + len * esz) hg hlw hk (by omega) hin' hvn hcell'
                                refine ⟨φ, _, w', g w' (by simp only [add_none]; rw [show a.off - k.base + len * esz = a.off + len * esz - k.base by omega]; exact g1), g2, g3, ?_, hF.put _ (by simp [hg]), Nat.le_refl _⟩
                                have := V.snew (B := B) (φ := φ) a.block a.off e (len + m) k hk hbase (by omega) (by rw [hke]; omega) (by rw [hke]; exact hdv)
                                rw [hke, ← hcap1] at this
                                rw [show a = ⟨a.block, a.off, some e⟩ by rw [← he]]
                                exact this
                              · omega
                            next hin =>
                              split at h
                              next hend =>
                                cases h
                                by_cases hneed : len + m ≤ cap'
                                · obtain ⟨new', hvn, g⟩ := run_append_in hE (ty := ty) (len := len) (cap := cap') (base := some c') hR hst hd hn hb hz hn0 hzn hx hnew hneed
                                  rcases hcase with ⟨hp, hcap1, hcap2⟩ | ⟨_, h0, _⟩
                                  · obtain ⟨k', hk', _, rfl⟩ := hp.pointer_new he
                                    rw [hk] at hk'; cases hk'
                                    have hq := Nat.div_add_mod (a.off - k.base) esz
                                    rw [hdv, Nat.add_zero, Nat.mul_comm] at hq
                                    have hfits : cells.length + new.length ≤ k.base + k.cap * esz := by
                                      have h1 : ((a.off - k.base) / esz + len + m) * esz ≤ k.cap * esz := Nat.mul_le_mul_right _ (by omega)
                                      rw [Nat.add_mul, Nat.add_mul] at h1
                                      omega
                                    obtain ⟨w', g1, g2, g3⟩ := hR.grow_in E.P hg hlw hk hfits (by omega) hvn hcell'
                                    refine ⟨_, _, w', g w' (by simp only [add_none]; rw [show a.off - k.base + len * esz = cells.length - k.base by omega]; exact g1), g2, g3, ?_, hF.put _ (by simp [hg]), Nat.le_refl _⟩
                                    have := V.snew (B := B) (φ := withNew φ a.block (e + 1) k) a.block a.off (e + 1) (len + m) k (by simp [withNew]) hbase (by omega) (by rw [hke]; omega) (by rw [hke]; exact hdv)
                                    rw [hke, ← hcap1] at this
                                    exact this
                                  · omega
                                · have hwas : ∃ was', VL B φ ((cells.drop a.off).take (len * esz)) was' ∧ ∀ d, (Builtin.firstCells esz len (.slice (some c') len cap')).run E.P { w with drawn := d } = .ok was'.toArray { w with drawn := d } := by
                                    rcases hcase with ⟨hp, _, _⟩ | ⟨hl0, _, _, o, rfl⟩
                                    · have hr : readN E.old s a (len * esz) = some ((cells.drop a.off).take (len * esz)) := by
                                        unfold readN
                                        rw [he]
                                        simp only [hg]
                                        rw [if_pos ⟨hlw, by simp [ext]; omega, by omega⟩]
                                      obtain ⟨was', h1, _, h2⟩ := wasOf a c' len cap' _ hp hr
                                      exact ⟨was', h1, h2⟩
                                    · subst hl0
                                      exact ⟨[], ⟨by simp, by simp⟩, fun d => by simp [Builtin.firstCells, loadCells, loadCellsFrom]⟩
                                  obtain ⟨was', hvw, hfc⟩ := hwas
                                  obtain ⟨new', newCap, g1, g2, g3⟩ := run_append_new hE (was := []) (ty := ty) hR hst hd hn hb hz hn0 hzn hx hnew (by omega) hsm1 hsm2 hfc
                                  have hwl : was'.length = len * esz := by rw [← hvw.1]; simp; omega
                                  have hnl' : new'.length = m * esz := by rw [← g1.1]; exact hnewl
                                  have hsub : len + m + (newCap - (len + m)) = newCap := by omega
                                  have hcs : (was'.toArray ++ new'.toArray ++ (aZeros z.cells.toList (newCap - (len + m))).toArray).size = newCap * esz := by
                                    simp only [Array.size_append, List.size_toArray, hwl, hnl', aZeros_length, Array.length_toList, hzn]
                                    rw [← Nat.add_mul, ← Nat.add_mul, hsub]
                                  have hmn : m * esz ≤ newCap * esz - len * esz := by rw [← Nat.sub_mul]; exact Nat.mul_le_mul_right _ (by omega)
                                  have hln : len * esz ≤ newCap * esz := Nat.mul_le_mul_right _ (by omega)
                                  obtain ⟨f1, f2⟩ := hR.grow_new ⟨_, _, hk⟩ hg hz0 (off := a.off) (cap := newCap) (elem := elem) (vs := new) (c := was'.toArray ++ new'.toArray ++ (aZeros z.cells.toList (newCap - (len + m))).toArray)
                                    (w.drawn + 1) (by omega) hcs (by rw [hcs, hnewl]; omega) (fun o y ho1 ho2 hy => by
                                      have hlt : o - a.off < was'.length := by omega
                                      refine ⟨was'[o - a.off], ?_, hvw.2 (o - a.off) _ _ ?_ (List.getElem?_eq_getElem hlt)⟩
                                      · rw [grown_get hE was' new' _ _ _ (by simp; omega), List.getElem?_append_left hlt]
                                        exact List.getElem?_eq_getElem hlt
                                      · rw [List.getElem?_take, if_pos (by omega), List.getElem?_drop, show a.off + (o - a.off) = o by omega]
                                        exact hy) (fun i y hy hi => by
                                      have hil : i < new.length := (List.getElem?_eq_some_iff.1 hy).1
                                      have hlt : i < new'.length := by rw [← g1.1]; exact hil
                                      refine ⟨new'[i], ?_, g1.2 i _ _ hy (List.getElem?_eq_getElem hlt)⟩
                                      rw [grown_get hE was' new' _ _ _ (by simp; omega), List.getElem?_append_right (by omega), show cells.length + i - a.off - was'.length = i by omega]
                                      exact List.getElem?_eq_getElem hlt)
                                  refine ⟨_, _, _, g3, f1, f2, ?_, hF.put _ (by simp [hg]), Nat.le_refl _⟩
                                  have := V.snew (B := B) (φ := withNew φ a.block (e + 1) ⟨w.heap.size, a.off, newCap, esz⟩) a.block a.off (e + 1) (len + m) ⟨w.heap.size, a.off, newCap, esz⟩ (by simp [withNew]) (Nat.le_refl _) hz0 (by simp; omega) (by simp)
                                  simpa using this
                              next => simp at h
                        next hcap =>
                          obtain ⟨c', rfl, hp, hcu⟩ : ∃ c', sl' = .slice (some c') len cap ∧ V B φ (.pointer (some a)) (.pointer (some c')) ∧ cap < unc := by
                            rcases hs.slice_some with ⟨c', h1, h2, h3⟩ | ⟨_, _, _, _, h2, _⟩ | ⟨_, _, _, _, h2, _⟩
                            · refine ⟨c', h1, h2, h3.resolve_left (by simp [he])⟩
                            · exact absurd h2 hcap
                            · exact absurd h2 hcap
                          split at h
                          next hroom =>
                            split at h
                            next hin =>
                              cases h
                              obtain ⟨new', hvn, g⟩ := run_append_in hE (ty := ty) (len := len) (cap := cap) (base := some c') hR hst hd hn hb hz hn0 hzn hx hnew hroom
                              obtain ⟨k, hk, hbase, rfl⟩ := hp.pointer_new he
                              have hin' : a.off + len * esz + new.length ≤ cells.length := by rw [hnewl, Nat.add_assoc, ← Nat.add_mul]; exact hin
                              obtain ⟨w', g1, g2, g3⟩ := hR.write E.P (off := a.off + len * esz) hg hlw hk (by omega) hin' hvn hcell'
                              refine ⟨φ, _, w', g w' (by simp only [add_none]; rw [show a.off - k.base + len * esz = a.off + len * esz - k.base by omega]; exact g1), g2, g3, hp.slice_mk (.inr hcu), hF.put _ (by simp [hg]), Nat.le_refl _⟩
                            next => simp at h
                          next hroom =>
                            split at h
                            next was hr =>
                              simp only [mkRow, Option.some.injEq, Prod.mk.injEq] at h
                              obtain ⟨rfl, rfl⟩ := h
                              obtain ⟨was', h1, h2, h3⟩ := wasOf a c' len cap was hp hr
                              exact fresh (some c') len cap was was' rfl h2 h1 (by omega) hsm1 hsm2 h3
                            next => simp at h
                      next => simp at h
                    next => simp at h
                  next he =>
                    obtain ⟨c', rfl, hp⟩ : ∃ c', sl' = .slice (some c') len cap ∧ V B φ (.pointer (some a)) (.pointer (some c')) := by
                      rcases hs.slice_some with ⟨c', h1, h2, h3⟩ | ⟨_, _, _, h1, _⟩ | ⟨_, _, _, h1, _⟩
                      · exact ⟨c', h1, h2⟩
                      · simp [he] at h1
                      · simp [he] at h1
                    split at h
                    next hm =>
                      obtain ⟨rfl, hlc⟩ := hm
                      cases h
                      obtain ⟨new', hvn, g⟩ := run_append_in hE (ty := ty) (len := len) (cap := cap) (base := some c') hR hst hd hn hb hz hn0 hzn hx hnew (by omega)
                      have hnil : new' = [] := by
                        have h1 := hvn.1
                        rw [hnewl] at h1
                        simpa using h1.symm
                      subst hnil
                      exact ⟨φ, _, w, g w rfl, Step.refl _ _, hR, hs, hF, Nat.le_refl _⟩
                    next hm =>
                      split at h
                      next => simp at h
                      next hroom =>
                        split at h
                        next was hr =>
                          simp only [mkRow, Option.some.injEq, Prod.mk.injEq] at h
                          obtain ⟨rfl, rfl⟩ := h
                          obtain ⟨was', h1, h2, h3⟩ := wasOf a c' len cap was hp hr
                          exact fresh (some c') len cap was was' rfl h2 h1 (by omega) hsm1 hsm2 h3
                        next => simp at h
                next => simp at h
              next => simp at h
      next => simp at h
    next => simp at h


/-! copy -/
theorem e_copy {φ : Phi} {s s' : St} {argTypes : Array TypeId} {ty : TypeId} {dst dst' x x' v : Value} {w : World} (hR : R B w₀ φ s.get w) (hF : s.Fresh) (hs : V B φ dst dst') (hx : V B φ x x')
    (h : aCopy E s argTypes dst x = some (v, s')) :
    ∃ v' w', (Builtin.copy_ argTypes ty #[dst', x']).run E.P w = .ok v' w' ∧ Step s.next φ w φ w' ∧ R B w₀ φ s'.get w' ∧ V B φ v v' ∧ s'.Fresh ∧ s.next ≤ s'.next := by
  unfold aCopy at h
  split at h
  next => simp at h
  next st hst =>
    split at h
    next elem base dl cap m hd hm =>
      split at h
      next => simp at h
      next n hn =>
        split at h
        next => simp at h
        next l hl =>
          have hlen := run_lenOf (E := E) hx hm w
          obtain ⟨l', g1, g2⟩ := e_source hE hR hx hl (.inr (.inr ⟨m, hm, Nat.min_le_left _ _⟩))
          split at h
          next =>
            cases h
            rw [hs.flat_right (by simp [flat])]
            exact ⟨goInt (Nat.min m dl), w, by simp [Builtin.copy_, hst, run_desc hE hd, run_size hE hn, hlen, g1], Step.refl _ _, hR, .int _ _, hF, Nat.le_refl _⟩
          next a =>
            split at h
            next hnil =>
              cases h
              subst hnil
              obtain rfl : l' = [] := by simpa using g2.1.symm
              obtain ⟨c', cap', rfl⟩ : ∃ c' cap', dst' = .slice (some c') dl cap' := by
                rcases hs.slice_some with ⟨c', h1, _⟩ | ⟨_, _, c', _, _, _, _, _, _, _, _, h1⟩ | ⟨_, k, o, _, _, h0, _, _, _, _, _, h1⟩
                · exact ⟨c', _, h1⟩
                · exact ⟨c', _, h1⟩
                · subst h0; exact ⟨_, _, h1⟩
              exact ⟨goInt (Nat.min m dl), w, by simp [Builtin.copy_, hst, run_desc hE hd, run_size hE hn, hlen, g1, storeCells], Step.refl _ _, hR, .int _ _, hF, Nat.le_refl _⟩
            next hnil =>
              cases hw : writeN s a l with
              | none => simp [hw] at h
              | some s₁ =>
                simp only [hw, Option.map_some, Option.some.injEq, Prod.mk.injEq] at h
                obtain ⟨rfl, rfl⟩ := h
                obtain ⟨c', cap', rfl, hp⟩ : ∃ c' cap', dst' = .slice (some c') dl cap' ∧ V B φ (.pointer (some a)) (.pointer (some c')) := by
                  rcases hs.slice_some with ⟨c', h1, h2, _⟩ | ⟨_, _, c', _, _, _, _, _, _, h1, _, h2⟩ | ⟨e, k, o, _, _, h0, _⟩
                  · exact ⟨c', _, h1, h2⟩
                  · exact ⟨c', _, h2, h1⟩
                  · exfalso
                    subst h0
                    rw [show Nat.min m 0 = 0 from Nat.min_zero m] at hl
                    apply hnil
                    have h2 := g2.1
                    unfold aSource at hl
                    split at hl
                    · simpa using hl.symm
                    · rename_i a' _ _ _
                      rw [Nat.zero_mul] at hl
                      unfold readN at hl
                      split at hl
                      · simpa [readOld] using hl.symm
                      · split at hl
                        · split at hl
                          · simpa using hl.symm
                          · simp at hl
                        · simp at hl
                    · rename_i b
                      split at hl
                      · rw [show (b.extract 0 0).data.toList = [] by simp] at hl
                        simpa using hl.symm
                      · simp at hl
                    · simp at hl
                obtain ⟨w', f1, f2, f3, f4, f5⟩ := e_write hE hR hp g2 hw
                exact ⟨goInt (Nat.min m dl), w', by simp [Builtin.copy_, hst, run_desc hE hd, run_size hE hn, hlen, g1, f1], f2, f3, .int _ _, f4 hF, by rw [f5]; exact Nat.le_refl _⟩
    next => simp at h

/-! maps -/
theorem run_getMap {w : World} {b : Nat} {ces : Array MapEntry} {clock : Nat} (h : w.heap[b]? = some (.map ces clock)) : (getObj b).run E.P w = .ok (.map ces clock) w := by simp [getObj, Sem.run, h]

theorem run_setObj {w : World} {b : Nat} {o o' : Obj} (h : w.heap[b]? = some o) (ho : ∀ c t f, o ≠ .cells c t f) : (setObj b o').run E.P w = .ok () { w with heap := w.heap.setIfInBounds b o' } := by
  unfold setObj
  simp only [Sem.run, h]
  try (cases o <;> first | rfl | exact absurd rfl (ho _ _ _))

/-- A number's object, no row, turns into another one. -/
theorem R.setObj {φ : Phi} {s : St} {w : World} (hR : R B w₀ φ s.get w) {f : Nat} {k : Blk} (hk : φ f 0 = some k) (honly : ∀ e k', φ f e = some k' → e = 0) {o' : AObj} {x : Obj}
    (hrow : ∀ cells esz ep lw hist, o' ≠ .row cells esz ep lw hist)
    (hmap : ∀ es, o' = .map es → MapOk B φ { w with heap := w.heap.setIfInBounds k.b x } k es) (hiter : ∀ b p, o' = .iter b p → x = .stringIter b p) :
    Step s.next φ w φ { w with heap := w.heap.setIfInBounds k.b x } ∧ R B w₀ φ (s.put f o').get { w with heap := w.heap.setIfInBounds k.b x } := by
  have hlt := (hR.lo _ _ _ hk).2
  have hsame : ∀ e k', φ f e = some k' → k' = k := by
    intro e k' h'
    obtain rfl := honly _ _ h'
    rw [hk] at h'
    exact (Option.some.inj h').symm
  have hch := hR.change f o' (φ' := φ) (w' := { w with heap := w.heap.setIfInBounds k.b x }) (fun _ _ _ h => h) (fun _ _ _ _ h => h)
    (fun e' k' hk' => .inl ⟨e', k', hk', rfl⟩) (fun e₁ k₁ e₂ k₂ h₁ h₂ he => (hR.inj _ _ _ _ _ _ h₁ h₂ he).2)
    (fun b hb hn => by
      have : b ≠ k.b := fun h => hn 0 k hk h.symm
      simp only [Array.getElem?_setIfInBounds]
      rw [if_neg (fun h => this h.symm)]) (by simp) rfl rfl rfl
    (fun e k' cells esz ep lw hist he _ => absurd he (hrow _ _ _ _ _))
    (fun e k' es he hk' => by rw [hsame _ _ hk']; exact hmap _ he)
    (fun e k' b p he hk' => by
      rw [hsame _ _ hk', ← hiter _ _ he]
      simp [Array.getElem?_setIfInBounds, hlt]) (fun _ e k' hk' => honly _ _ hk') (fun _ _ h => ⟨_, _, h⟩)
  refine ⟨hch.1 _, ?_⟩
  rw [show (s.put f o').get = _ from funext fun m => St.get_put _ _ _ _]
  exact hch.2

theorem e_mapUpdate {φ : Phi} {s s' : St} {t : TypeId} {x x' k k' v v' : Value} {w : World} (hR : R B w₀ φ s.get w) (hx : V B φ x x') (hk : V B φ k k') (hv : V B φ v v')
    (h : aMapUpdate E s t x k v = some s') :
    ∃ w', (Instr.mapUpdate t x' k' v').run E.P w = .ok () w' ∧ Step s.next φ w φ w' ∧ R B w₀ φ s'.get w' ∧ (s.Fresh → s'.Fresh) ∧ s'.next = s.next := by
  unfold aMapUpdate at h
  split at h
  next kt et f hd =>
    split at h
    next d es hkd hg =>
      split at h
      next hok =>
        have hfl : flat k = true := by unfold keyOk at hok; simp only [Bool.and_eq_true] at hok; exact hok.1
        obtain rfl := hk.flat_right hfl
        rcases run_entries hE hR hx (by simp [aEntries, hg] : aEntries s (.map (some f)) = some es) with ⟨h1, _⟩ | ⟨f', kb, ces, clock, h1, rfl, h2, h3, h4, h5, h6, h7⟩
        · simp at h1
        · cases h1
          have hget := run_getMap hE h4
          have hset : ∀ o', (setObj kb.b o').run E.P w = .ok () { w with heap := w.heap.setIfInBounds kb.b o' } := fun o' => run_setObj hE h4 (by simp)
          have honly : ∀ e k', φ f e = some k' → e = 0 := fun e k' h' => hR.one _ _ _ h' (by simp [hg])
          have hc := run_checkKey hE hkd hok w
          have hlen : es.length = ces.toList.length := by simpa using h5.symm
          split at h
          next i a hfa =>
            obtain ⟨r', g1, g2⟩ := run_findKey hE hkd hlen h6 hfa w
            rcases g2 with ⟨g2, _⟩ | ⟨j, b, b', g2, rfl, hb, hj⟩
            · simp at g2
            · cases g2
              split at h
              next e he =>
                split at h
                next hsb =>
                  simp only [Bool.and_eq_true] at hsb
                  cases h
                  have hjc : i < ces.size := by rw [h5]; exact hj
                  obtain ⟨ck, cv⟩ := h6 i e ces[i] he (by simp [hjc])
                  have hks : (Instr.keyThatStays e.1 k').run E.P w = .ok k' w := by simp [Instr.keyThatStays, hsb.1]
                  have hm := hR.setObj hE h2 honly (o' := .map (es.set i (k', v))) (x := .map (ces.modify i fun e => { e with key := k', val := v' }) clock) (by simp) (fun es' he' => by
                    cases he'
                    refine ⟨ces.modify i fun e => { e with key := k', val := v' }, clock, by simp [Array.getElem?_setIfInBounds, (hR.lo _ _ _ h2).2], by simp [h5], fun n y hy => ?_⟩
                    rw [List.getElem?_set] at hy
                    by_cases hn : i = n
                    · subst hn
                      rw [if_pos rfl, if_pos hj] at hy
                      cases hy
                      exact ⟨{ ces[i] with key := k', val := v' }, by rw [Array.getElem?_modify, if_pos rfl, Array.getElem?_eq_getElem hjc]; rfl, rfl, hfl, hv⟩
                    · rw [if_neg hn] at hy
                      have hnl : n < ces.size := by rw [h5]; exact (List.getElem?_eq_some_iff.1 hy).1
                      obtain ⟨c1, c2⟩ := h6 n y ces[n] hy (by simp [hnl])
                      exact ⟨ces[n], by rw [Array.getElem?_modify, if_neg hn]; simp [hnl], c1, h7 n y hy, c2⟩) (by simp)
                  refine ⟨_, ?_, hm.1, hm.2, fun hf => hf.put _ (by simp [hg]), rfl⟩
                  simp [Instr.mapUpdate, run_desc hE hd, hget, hc, g1, hjc, ck, hks, hset]
                next => simp at h
              next => simp at h
          next hfa =>
            cases h
            obtain ⟨r', g1, g2⟩ := run_findKey hE hkd hlen h6 hfa w
            rcases g2 with ⟨_, rfl⟩ | ⟨_, _, _, g2, _⟩
            · have hm := hR.setObj hE h2 honly (o' := .map (es ++ [(k', v)])) (x := .map (ces.push { key := k', val := v', born := clock }) (clock + 1)) (by simp) (fun es' he' => by
                cases he'
                refine ⟨_, _, by simp [Array.getElem?_setIfInBounds, (hR.lo _ _ _ h2).2]; exact ⟨rfl, rfl⟩, by simp [h5], fun n y hy => ?_⟩
                by_cases hn : n < es.length
                · rw [List.getElem?_append_left hn] at hy
                  have hnl : n < ces.size := by rw [h5]; exact hn
                  obtain ⟨c1, c2⟩ := h6 n y ces[n] hy (by simp [hnl])
                  exact ⟨ces[n], by rw [Array.getElem?_push, if_neg (by omega)]; simp [hnl], c1, h7 n y hy, c2⟩
                · rw [List.getElem?_append_right (by omega)] at hy
                  have hn0 : n = es.length := by
                    have := (List.getElem?_eq_some_iff.1 hy).1
                    simp at this; omega
                  subst hn0
                  simp at hy
                  subst hy
                  exact ⟨{ key := k', val := v', born := clock }, by rw [Array.getElem?_push, if_pos h5.symm], rfl, hfl, hv⟩) (by simp)
              refine ⟨_, ?_, hm.1, hm.2, fun hf => hf.put _ (by simp [hg]), rfl⟩
              simp [Instr.mapUpdate, run_desc hE hd, hget, hc, g1, hset]
            · simp at g2
          next => simp at h
      next => simp at h
    next => simp at h
  next => simp at h

end

end Go.Ai

/-
  THE SHORT RUN, 14: delete, a walk along a string, and all operations that are no calls in one.
-/
set_option linter.unusedSimpArgs false
set_option linter.unusedVariables false
set_option linter.unusedSectionVars false
namespace Go.Ai
open Go

section
variable {E : Env} {B : Nat} {w₀ : World} (hE : E.Ok B w₀)
include hE

theorem e_mapDelete {φ : Phi} {s s' : St} {argTypes : Array TypeId} {ty : TypeId} {x x' k k' : Value} {w : World} (hR : R B w₀ φ s.get w) (hx : V B φ x x') (hk : V B φ k k')
    (h : aMapDelete E s argTypes x k = some s') :
    ∃ w', (Builtin.delete_ argTypes ty #[x', k']).run E.P w = .ok (.tuple #[]) w' ∧ Step s.next φ w φ w' ∧ R B w₀ φ s'.get w' ∧ (s.Fresh → s'.Fresh) ∧ s'.next = s.next := by
  unfold aMapDelete at h
  split at h
  next => simp at h
  next t ht =>
    split at h
    next kt et f hd =>
      split at h
      next d es hkd hg =>
        split at h
        next hok =>
          have hfl : flat k = true := by unfold keyOk at hok; simp only [Bool.and_eq_true] at hok; exact hok.1
          obtain rfl := hk.flat_right hfl
          rcases run_entries hE hR hx (by simp [aEntries, hg] : aEntries s (.map (some f)) = some es) with ⟨h1, _⟩ | ⟨f', kb, ces, clock, h1, rfl, h2, h3, h4, h5, h6, h7⟩
          · simp at h1
          · cases h1
            have hget := run_getMap hE h4
            have hset : ∀ o', (setObj kb.b o').run E.P w = .ok () { w with heap := w.heap.setIfInBounds kb.b o' } := fun o' => run_setObj hE h4 (by simp)
            have honly : ∀ e k', φ f e = some k' → e = 0 := fun e k' h' => hR.one _ _ _ h' (by simp [hg])
            have hc := run_checkKey hE hkd hok w
            have hemp : es.isEmpty = ces.isEmpty := by
              rw [Array.isEmpty, h5]
              cases es <;> simp
            rw [hemp] at hc
            have hlen : es.length = ces.toList.length := by simpa using h5.symm
            split at h
            next i a hfa =>
              obtain ⟨r', g1, g2⟩ := run_findKey hE hkd hlen h6 hfa w
              rcases g2 with ⟨g2, _⟩ | ⟨j, b, b', g2, rfl, hb, hj⟩
              · simp at g2
              · cases g2
                cases h
                have hjc : i < ces.size := by rw [h5]; exact hj
                have hm := hR.setObj hE h2 honly (o' := .map (es.eraseIdx i)) (x := .map (ces.eraseIdxIfInBounds i) clock) (by simp) (fun es' he' => by
                  cases he'
                  refine ⟨_, _, by simp [Array.getElem?_setIfInBounds, (hR.lo _ _ _ h2).2]; exact ⟨rfl, rfl⟩, by simp [Array.eraseIdxIfInBounds, hjc, List.length_eraseIdx, hj, h5], fun n y hy => ?_⟩
                  have hce : (ces.eraseIdxIfInBounds i)[n]? = (ces.toList.eraseIdx i)[n]? := by
                    simp only [Array.eraseIdxIfInBounds, hjc, dif_pos]
                    rw [← Array.getElem?_toList, Array.toList_eraseIdx]
                  rw [hce]
                  rw [List.getElem?_eraseIdx] at hy ⊢
                  split at hy
                  next hn =>
                    rw [if_pos hn]
                    have hnl : n < ces.size := by omega
                    obtain ⟨c1, c2⟩ := h6 n y ces[n] hy (by simp [hnl])
                    exact ⟨ces[n], by simp [hnl], c1, h7 n y hy, c2⟩
                  next hn =>
                    rw [if_neg hn]
                    have hnl : n + 1 < ces.size := by rw [h5]; exact (List.getElem?_eq_some_iff.1 hy).1
                    obtain ⟨c1, c2⟩ := h6 (n + 1) y ces[n + 1] hy (by simp [hnl])
                    exact ⟨ces[n + 1], by simp [hnl], c1, h7 (n + 1) y hy, c2⟩) (by simp)
                refine ⟨_, ?_, hm.1, hm.2, fun hf => hf.put _ (by simp [hg]), rfl⟩
                simp [Builtin.delete_, ht, run_desc hE hd, hget, hc, g1, hset]
            next hfa =>
              cases h
              obtain ⟨r', g1, g2⟩ := run_findKey hE hkd hlen h6 hfa w
              rcases g2 with ⟨_, rfl⟩ | ⟨_, _, _, g2, _⟩
              · have hm := hR.setObj hE h2 honly (o' := .map es) (x := .map ces clock) (by simp) (fun es' he' => by
                  cases he'
                  refine ⟨ces, clock, by simp [Array.getElem?_setIfInBounds, (hR.lo _ _ _ h2).2], h5, fun n y hy => ?_⟩
                  have hnl : n < ces.size := by rw [h5]; exact (List.getElem?_eq_some_iff.1 hy).1
                  obtain ⟨c1, c2⟩ := h6 n y ces[n] hy (by simp [hnl])
                  exact ⟨ces[n], by simp [hnl], c1, h7 n y hy, c2⟩) (by simp)
                have hsame : (s.put f (.map es)).get = s.get := by
                  funext m
                  rw [St.get_put]
                  split
                  · rename_i e; rw [e, hg]
                  · rfl
                rw [hsame] at hm
                refine ⟨_, ?_, hm.1, hm.2, id, rfl⟩
                simp [Builtin.delete_, ht, run_desc hE hd, hget, hc, g1, hset]
              · simp at g2
            next => simp at h
        next => simp at h
      next => simp at h
    next => simp at h

theorem e_clear {φ : Phi} {s s' : St} {argTypes : Array TypeId} {ty : TypeId} {x x' v : Value} {w : World} (hR : R B w₀ φ s.get w) (hx : V B φ x x')
    (h : aClear E s argTypes x = some (v, s')) :
    ∃ w', (Builtin.clear_ argTypes ty #[x']).run E.P w = .ok v w' ∧ flat v = true ∧ Step s.next φ w φ w' ∧ R B w₀ φ s'.get w' ∧ (s.Fresh → s'.Fresh) ∧ s'.next = s.next := by
  unfold aClear at h
  split at h
  next t a n c ht =>
    split at h
    next e hd =>
      split at h
      next k z hk hz =>
        split at h
        next hn =>
          subst hn
          cases h
          obtain ⟨c', cap', rfl⟩ : ∃ c' cap', x' = .slice (some c') 0 cap' := by cases hx <;> exact ⟨_, _, rfl⟩
          exact ⟨w, by simp [Builtin.clear_, ht, run_desc hE hd], rfl, Step.refl _ _, hR, id, rfl⟩
        next hn =>
          split at h
          next hzk =>
            obtain ⟨hzk, hpos⟩ := hzk
            cases hw : writeN s a (aZeros z.cells.toList n) with
            | none => simp [hw] at h
            | some s₁ =>
              simp only [hw, Option.map_some, Option.some.injEq, Prod.mk.injEq] at h
              obtain ⟨rfl, rfl⟩ := h
              obtain ⟨c', cap', rfl, hp⟩ : ∃ c' cap', x' = .slice (some c') n cap' ∧ V B φ (.pointer (some a)) (.pointer (some c')) := by
                rcases hx.slice_some with ⟨c', h1, h2, _⟩ | ⟨_, _, c', _, _, _, _, _, _, h1, _, h2⟩ | ⟨e, k, o, _, _, h0, _⟩
                · exact ⟨c', _, h1, h2⟩
                · exact ⟨c', _, h2, h1⟩
                · exact absurd h0 hn
              have hfl := flatL_aZeros (flat_cells (hE.zero _ _ hz).1) n
              obtain ⟨w', f1, f2, f3, f4, f5⟩ := e_write hE hR hp (VL.refl_of_flat' hfl) hw
              refine ⟨w', ?_, rfl, f2, f3, f4, f5⟩
              have hzr : Builtin.zeroCells z.cells n = (aZeros z.cells.toList n).toArray := zeros_row z.cells n (by omega)
              obtain ⟨n', rfl⟩ : ∃ n', n = n' + 1 := ⟨n - 1, by omega⟩
              simp [Builtin.clear_, ht, run_desc hE hd, run_zero hE hz, hzr, f1]
          next => simp at h
      next => simp at h
    next => simp at h
  next => simp at h

/-- A step of a walk along a string. -/
theorem e_next {φ : Phi} {s s' : St} {it it' v : Value} {ty : TypeId} {f : Nat} {b : ByteArray} {pos : Nat} {w : World} (hR : R B w₀ φ s.get w) (hx : V B φ (.pointer (some ⟨f, 0, some 0⟩)) it')
    (hg : s.get f = some (.iter b pos))
    (h : (if pos < b.size then
          let (c, width) := Utf8.decode b pos
          some (.tuple #[.bool true, goInt pos, .int .i32 c], s.put f (.iter b (pos + width)))
        else some (.tuple #[.bool false], s)) = some (v, s')) :
    ∃ w', (Instr.next it' true ty).run E.P w = .ok v w' ∧ flat v = true ∧ Step s.next φ w φ w' ∧ R B w₀ φ s'.get w' ∧ (s.Fresh → s'.Fresh) ∧ s'.next = s.next := by
  cases hx with
  | pold _ _ hs => simp at hs
  | pnew _ _ _ k hk hb =>
    have hit := hR.iter _ _ _ _ _ hg hk
    have hget : (getObj k.b).run E.P w = .ok (.stringIter b pos) w := by simp [getObj, Sem.run, hit]
    have hset : ∀ o', (setObj k.b o').run E.P w = .ok () { w with heap := w.heap.setIfInBounds k.b o' } := fun o' => run_setObj hE hit (by simp)
    have honly : ∀ e k', φ f e = some k' → e = 0 := fun e k' h' => hR.one _ _ _ h' (by simp [hg])
    rw [Nat.zero_sub]
    split at h
    next hp =>
      simp only [Option.some.injEq, Prod.mk.injEq] at h
      obtain ⟨rfl, rfl⟩ := h
      have hm := hR.setObj hE hk honly (o' := .iter b (pos + (Utf8.decode b pos).2)) (x := .stringIter b (pos + (Utf8.decode b pos).2)) (by simp) (by simp) (fun _ _ he => by cases he; rfl)
      refine ⟨_, ?_, rfl, hm.1, hm.2, fun hf => hf.put _ (by simp [hg]), rfl⟩
      simp [Instr.next, hget, hp, hset]
    next hp =>
      cases h
      exact ⟨w, by simp [Instr.next, hget, hp], rfl, Step.refl _ _, hR, id, rfl⟩


/-- What an operation of the short run that is no call comes to. -/
def Met (E : Env) (B : Nat) (w₀ : World) (φ : Phi) (w : World) (m : Sem Next) (v : Value) (s s' : St) : Prop :=
  ∃ φ' v' w', (m.run E.P w = .ok (.value v') w' ∨ (m.run E.P w = .ok .skip w' ∧ v' = undef)) ∧ Step s.next φ w φ' w' ∧ R B w₀ φ' s'.get w' ∧ V B φ' v v' ∧ s'.Fresh ∧ s.next ≤ s'.next

theorem V.undef_refl (φ : Phi) : V B φ undef undef := V.refl_of_flat B φ undef (by rfl)

theorem aVal_sim {φ : Phi} {ρ ρ' : Operand → Value} {o : Oper} {s s' : St} {v : Value} {w : World} (hR : R B w₀ φ s.get w) (hF : s.Fresh) (hρ : ∀ x ∈ o.op.operands, V B φ (ρ x) (ρ' x)) (hs : shapeOk o.op = true)
    (h : aVal E ρ o s = some (v, s')) : Met E B w₀ φ w (execOp ρ' o) v s s' := by
  have wrap : ∀ {m : Sem Value} {v' : Value} {w w' : World}, m.run E.P w = .ok v' w' → (do pure (.value (← m)) : Sem Next).run E.P w = .ok (.value v') w' := by
    intro m v' w w' hm; rw [Sem.run_bind, hm]; rfl
  have wrapU : ∀ {m : Sem Unit} {w w' : World}, m.run E.P w = .ok () w' → (do m; pure .skip : Sem Next).run E.P w = .ok .skip w' := by
    intro m w w' hm; rw [Sem.run_bind, hm]; rfl
  by_cases hq : quietOp E o.op = true
  · obtain ⟨rfl, v', h1, h2⟩ := aVal_quiet hE hR hρ hs hq h
    exact ⟨φ, v', w, .inl h1, Step.refl _ _, hR, h2, hF, Nat.le_refl _⟩
  by_cases ha : allocOp E o.op = true
  · obtain ⟨obj, rfl, hm⟩ := aVal_alloc hE (B := B) (w₀ := w₀) ha h
    obtain ⟨k, v', w', h1, h2, h3, h4⟩ := hm s.get φ w ρ' hR (hR.noneAt hF) hρ
    refine ⟨_, v', w', .inl h1, h2, ?_, h4, hF.push _, by simp [St.push]⟩
    rw [show (s.push obj).get = _ from funext fun m => St.get_push _ _ _]
    exact h3
  obtain ⟨dst, op, ty, pos, after, guard⟩ := o
  unfold aVal at h
  unfold Met execOp
  cases op <;> simp only [quietOp, allocOp, not_true, Bool.not_eq_true, Bool.true_eq_false, reduceCtorEq] at hq ha <;> simp only [Op.operands] at hρ <;> simp only [reduceCtorEq] at h ⊢
  case store t a x =>
    cases hst : aStore E s t (ρ a) (ρ x) with
    | none => simp [hst] at h
    | some s₁ =>
      simp only [hst, Option.map_some, Option.some.injEq, Prod.mk.injEq] at h
      obtain ⟨rfl, rfl⟩ := h
      obtain ⟨w', h1, h2, h3, h4, h5⟩ := e_store hE hR (hρ a (by simp)) (hρ x (by simp)) hst
      exact ⟨φ, undef, w', .inr ⟨wrapU h1, rfl⟩, h2, h3, V.undef_refl hE φ, h4 hF, by rw [h5]; exact Nat.le_refl _⟩
  case mapUpdate t m k x =>
    cases hst : aMapUpdate E s t (ρ m) (ρ k) (ρ x) with
    | none => simp [hst] at h
    | some s₁ =>
      simp only [hst, Option.map_some, Option.some.injEq, Prod.mk.injEq] at h
      obtain ⟨rfl, rfl⟩ := h
      obtain ⟨w', h1, h2, h3, h4, h5⟩ := e_mapUpdate hE hR (hρ m (by simp)) (hρ k (by simp)) (hρ x (by simp)) hst
      exact ⟨φ, undef, w', .inr ⟨wrapU h1, rfl⟩, h2, h3, V.undef_refl hE φ, h4 hF, by rw [h5]; exact Nat.le_refl _⟩
  case next it str =>
    cases str with
    | false => simp at h
    | true =>
      simp only at h
      split at h
      next f hit =>
        split at h
        next b pos' hg =>
          have hx := hρ it (by simp)
          rw [hit] at hx
          obtain ⟨w', h1, h2, h3, h4, h5, h6⟩ := e_next hE (it := ρ it) (ty := ty) hR hx hg h
          exact ⟨φ, v, w', .inl (wrap h1), h3, h4, V.refl_of_flat B φ v h2, h5 hF, by rw [h6]; exact Nat.le_refl _⟩
        next => simp at h
      next => simp at h
  case makeMap t r =>
    cases r with
    | none => simp at ha
    | some r => simp at h
  case convert src dst x => simp_all
  case call c =>
    obtain ⟨callee, args, argTypes⟩ := c
    cases callee with
    | value f => simp at h
    | invoke r m => simp at h
    | builtin b =>
      simp only at h
      have hargs : ∀ (i : Nat) (x : Operand), args.toList[i]? = some x → V B φ (ρ x) (ρ' x) := fun i x hx => hρ x (by
        simp only [Call.operands, List.append_toArray, List.nil_append]
        simpa using Array.mem_of_getElem? (by simpa using hx))
      have hfin : ∀ {m : Sem Next} {nx : Next} {w' : World}, (∀ cs, builtin b argTypes ty cs (args.map ρ') = m) → m.run E.P w = .ok nx w' →
          (do let d ← resolve ρ' { callee := .builtin b, args := args, argTypes := argTypes } ty; invoke d.target d.args : Sem Next).run E.P w = .ok nx w' := by
        intro m nx w' hm hr
        simp only [resolve, Sem.run_bind, Sem.run_pure, Result.andThen_ok, invoke, hm]
        exact hr
      unfold aBuiltin at h
      split at h
      next hl => simp at hq
      next hl => simp at hq
      next x y hl =>
        obtain ⟨x₁, y₁, hxy⟩ : ∃ x₁ y₁, args = #[x₁, y₁] := by
          obtain ⟨l⟩ := args
          match l, hl with
          | [a, b], _ => exact ⟨a, b, rfl⟩
        subst hxy
        simp only [List.map_cons, List.map_nil, List.cons.injEq, and_true] at hl
        obtain ⟨rfl, rfl⟩ := hl
        obtain ⟨φ', v', w', h1, h2⟩ := e_append hE (ty := ty) hR hF (hargs 0 x₁ rfl) (hargs 1 y₁ rfl) h
        exact ⟨φ', v', w', .inl (hfin (fun cs => rfl) (wrap (by simpa using h1))), h2⟩
      next x y hl =>
        obtain ⟨x₁, y₁, hxy⟩ : ∃ x₁ y₁, args = #[x₁, y₁] := by
          obtain ⟨l⟩ := args
          match l, hl with
          | [a, b], _ => exact ⟨a, b, rfl⟩
        subst hxy
        simp only [List.map_cons, List.map_nil, List.cons.injEq, and_true] at hl
        obtain ⟨rfl, rfl⟩ := hl
        obtain ⟨v', w', h1, h2⟩ := e_copy hE (ty := ty) hR hF (hargs 0 x₁ rfl) (hargs 1 y₁ rfl) h
        exact ⟨φ, v', w', .inl (hfin (fun cs => rfl) (wrap (by simpa using h1))), h2⟩
      next x hl =>
        obtain ⟨x₁, hxy⟩ : ∃ x₁, args = #[x₁] := by
          obtain ⟨l⟩ := args
          match l, hl with
          | [a], _ => exact ⟨a, rfl⟩
        subst hxy
        simp only [List.map_cons, List.map_nil, List.cons.injEq, and_true] at hl
        subst hl
        obtain ⟨w', h1, h2, h3, h4, h5, h6⟩ := e_clear hE (ty := ty) hR (hargs 0 x₁ rfl) h
        exact ⟨φ, v, w', .inl (hfin (fun cs => rfl) (wrap (by simpa using h1))), h3, h4, V.refl_of_flat B φ v h2, h5 hF, by rw [h6]; exact Nat.le_refl _⟩
      next x y hl =>
        obtain ⟨x₁, y₁, hxy⟩ : ∃ x₁ y₁, args = #[x₁, y₁] := by
          obtain ⟨l⟩ := args
          match l, hl with
          | [a, b], _ => exact ⟨a, b, rfl⟩
        subst hxy
        simp only [List.map_cons, List.map_nil, List.cons.injEq, and_true] at hl
        obtain ⟨rfl, rfl⟩ := hl
        cases hst : aMapDelete E s argTypes (ρ x₁) (ρ y₁) with
        | none => simp [hst] at h
        | some s₁ =>
          simp only [hst, Option.map_some, Option.some.injEq, Prod.mk.injEq] at h
          obtain ⟨rfl, rfl⟩ := h
          obtain ⟨w', h1, h2, h3, h4, h5⟩ := e_mapDelete hE (ty := ty) hR (hargs 0 x₁ rfl) (hargs 1 y₁ rfl) hst
          exact ⟨φ, .tuple #[], w', .inl (hfin (fun cs => rfl) (wrap (by simpa using h1))), h2, h3, V.refl_of_flat B φ _ (by rfl), h4 hF, by rw [h5]; exact Nat.le_refl _⟩
      next hl => simp at hq
      next hl => simp at hq
      next => simp at h
  all_goals simp_all

end

end Go.Ai

/-
  THE SHORT RUN, 15: code and calls.
-/
set_option linter.unusedSimpArgs false
set_option linter.unusedVariables false
namespace Go.Ai
open Go

/-- How a piece of code ends. -/
inductive X where
  | normal
  | exit (id : Nat)
  | ret
  | panic (v : Value)

/-- What a call comes to. -/
inductive Ret where
  | ok (v : Value)
  | pan (v : Value)

abbrev Caller := FuncId → List Value → St → Option (Ret × St)

inductive Rs where
  | val (v : Value) (s : St)
  | pan (v : Value) (s : St)
  | dfr (d : Deferred) (s : St)

def aCall (E : Env) (call : Caller) (g : FuncId) (args : List Value) (s : St) : Option Rs :=
  match E.known g with
  | some F => match F args with
    | some (true, v) => some (.val v s)
    | _ => none
  | none => match call g args s with
    | some (.ok v, s') => some (.val v s')
    | some (.pan v, s') => some (.pan v s')
    | none => none

/-- What stands in a temporary that is not looked at any more. -/
def junk : Value := .chan (some 0)

def isJunk : Value → Bool
  | .chan (some _) => true
  | _ => false

/-- No operand is junk. -/
def clean (ρ : Operand → Value) (o : Op) : Bool := o.operands.toList.all fun x => !isJunk (ρ x)

/-- An operation whose operands are no junk. -/
def aOpC (E : Env) (call : Caller) (ρ : Operand → Value) (o : Oper) (s : St) : Option Rs :=
  match o.op with
  | .call { callee := .value f, args, .. } => match ρ f with
    | .func (.func g) first captured => aCall E call g (first.toList ++ args.toList.map ρ ++ captured.toList) s
    | _ => none
  | .call { callee := .invoke .., .. } => none
  | .call { callee := .builtin .panic, args, .. } => match args.toList.map ρ with
    | [.iface t v] => some (.pan (.iface t v) s)
    | _ => none
  | .panic x => match ρ x with
    | .iface t v => some (.pan (.iface t v) s)
    | _ => none
  | .defer { callee := .value f, args, .. } => match ρ f with
    | .func (.func g) first captured => some (.dfr { target := .fn (.func g) captured, args := first ++ args.map ρ } s)
    | _ => none
  | _ => match aVal E ρ o s with
    | some (v, s') => some (.val v s')
    | none => none

/-- An operation. -/
def aOp (E : Env) (call : Caller) (ρ : Operand → Value) (o : Oper) (s : St) : Option Rs :=
  if clean ρ o.op then aOpC E call ρ o s else none

theorem aOp_clean {E : Env} {call : Caller} {ρ : Operand → Value} {o : Oper} {s : St} {r : Rs} (h : aOp E call ρ o s = some r) : clean ρ o.op = true ∧ aOpC E call ρ o s = some r := by
  unfold aOp at h
  split at h
  · rename_i hc; exact ⟨hc, h⟩
  · simp at h

theorem clean_iff {ρ : Operand → Value} {o : Op} : clean ρ o = true ↔ ∀ x ∈ o.operands, isJunk (ρ x) = false := by
  unfold clean
  rw [List.all_eq_true]
  simp only [Array.mem_toList_iff, Bool.not_eq_true']

/-- May an operation's guard let it run? -/
def aWanted (ops : Array Oper) (tmps : List Value) (o : Oper) : Bool :=
  match o.guard with
  | none => true
  | some (j, want) => match ((ops[j]?).bind (·.dst)).bind (tmps[·]?) with
    | some (.bool b) => b == want
    | _ => false

def evalOps (E : Env) (call : Caller) (ops : Array Oper) : List Oper → AAct → St → Option (X × AAct × St)
  | [], a, s => some (.normal, a, s)
  | o :: rest, a, s =>
    if aWanted ops a.tmps o then
      match aOp E call a.eval o s with
      | some (.val v s') => evalOps E call ops rest (a.put o.dst v) s'
      | some (.pan v s') => some (.panic v, a, s')
      | some (.dfr d s') => evalOps E call ops rest ({ a with defers := d :: a.defers }.put o.dst undef) s'
      | none => none
    else evalOps E call ops rest (a.put o.dst undef) s

/-! A statement whose order is open: what its operations come to in the text's order, and a look whether that is the same in every order. -/

/-- An operation as it ran: 'cls': 0 looks at nothing, 1 looks at memory, 2 makes something, 3 does something, 4 panicked, 5 stands behind that. -/
structure Ent where
  o : Oper
  a : AAct
  s : St
  cls : Nat
  ran : Bool
  v : Value
  s' : St

def pureOp : Op → Bool
  | .move _ | .assign _ | .pick .. | .build .. | .nilCheck _ | .binOp .. | .unOp .. | .makeInterface .. | .makeFunc .. | .fieldAddr .. | .field .. | .indexAddr .. | .index .. | .typeAssert .. | .extract .. => true
  | _ => false

def isPlainLen (E : Env) (c : Call) : Bool :=
  match c.callee, c.argTypes[0]? with
  | .builtin .len, some t => match E.desc t with
    | some (.slice _) | some .string => true
    | _ => false
  | .builtin .min, _ | .builtin .max, _ => true
  | _, _ => false

def clsOf (E : Env) (ρ : Operand → Value) (o : Op) : Nat :=
  if pureOp o then 0
  else if quietOp E o then 1
  else if allocOp E o then 2
  else match o with
    | .call { callee := .value f, .. } => match ρ f with
      | .func (.func g) _ _ => if (E.known g).isSome then 0 else 3
      | _ => 3
    | _ => 3

/-- The operations in the text's order. 'pn': the place of the one that panicked. -/
def trace (E : Env) (call : Caller) (ops : Array Oper) (bits : Array Nat) : List Oper → Nat → Option (Nat × Value × St) → AAct → St → Option (List Ent × Option (Nat × Value × St) × AAct × St)
  | [], _, pn, a, s => some ([], pn, a, s)
  | o :: rest, i, none, a, s =>
    if aWanted ops a.tmps o then
      match aOp E call a.eval o s with
      | some (.val v s') => match trace E call ops bits rest (i + 1) none (a.put o.dst v) s' with
        | some (l, r) => some (⟨o, a, s, clsOf E a.eval o.op, true, v, s'⟩ :: l, r)
        | none => none
      | some (.pan v s') => match trace E call ops bits rest (i + 1) (some (i, v, s')) (a.put o.dst undef) s with
        | some (l, r) => some (⟨o, a, s, 4, true, undef, s⟩ :: l, r)
        | none => none
      | _ => none
    else match trace E call ops bits rest (i + 1) none (a.put o.dst undef) s with
      | some (l, r) => some (⟨o, a, s, 0, false, undef, s⟩ :: l, r)
      | none => none
  | o :: rest, i, some (p, pv, ps), a, s =>
    if (bits.getD i 0).testBit p then
      match trace E call ops bits rest (i + 1) (some (p, pv, ps)) (a.put o.dst undef) s with
      | some (l, r) => some (⟨o, a, s, 5, false, undef, s⟩ :: l, r)
      | none => none
    else if aWanted ops a.tmps o then
      if quietOp E o.op then
        match aOp E call a.eval o s with
        | some (.val v _) => match trace E call ops bits rest (i + 1) (some (p, pv, ps)) (a.put o.dst v) s with
          | some (l, r) => some (⟨o, a, s, clsOf E a.eval o.op, true, v, s⟩ :: l, r)
          | none => none
        | _ => none
      else none
    else match trace E call ops bits rest (i + 1) (some (p, pv, ps)) (a.put o.dst undef) s with
      | some (l, r) => some (⟨o, a, s, 0, false, undef, s⟩ :: l, r)
      | none => none

/-- Memory as it is ahead of the e-th operation, with all that later operations make. -/
def withMade (e : Nat) (ents : List (Ent × Nat)) (s : St) : St :=
  ents.foldl (fun s (x : Ent × Nat) => if x.1.cls = 2 && decide (e < x.2) then (match x.1.s'.get x.1.s.next with | some o => s.put x.1.s.next o | none => s) else s) s

def isEff (x : Ent) : Bool := x.cls = 3 || x.cls = 4

def isStore : Op → Bool
  | .store .. => true
  | _ => false

/-- A store behind all that looks, makes or does something else: it may come ahead of or behind its like. -/
def isTail (bits : Array Nat) (all : List (Ent × Nat)) (x : Ent × Nat) : Bool :=
  x.1.cls = 3 && isStore x.1.o.op && all.all fun y => !(y.1.ran && (y.1.cls = 1 || y.1.cls = 2 || y.1.cls = 4 || (y.1.cls = 3 && !isStore y.1.o.op))) || (bits.getD x.2 0).testBit y.2

/-- Where a store stores. -/
def storeTo (x : Ent) : Option Nat :=
  match x.o.op with
  | .store _ a _ => match x.a.eval a with
    | .pointer (some a) => if a.spot.isSome then some a.block else none
    | _ => none
  | _ => none

def apartStores (x y : Ent) : Bool :=
  match storeTo x, storeTo y with
  | some f, some g => f != g
  | _, _ => false

/-- Memory ahead of the first of the stores at the end. -/
def midSt (sN : St) : List (Ent × Nat) → St
  | [] => sN
  | x :: _ => x.1.s

/-! Values and memory that name numbers under n alone. -/
mutual
def under (n : Nat) : Value → Bool
  | .pointer (some a) | .slice (some a) _ _ => a.spot.isNone || decide (a.block < n)
  | .map (some f) => decide (f < n)
  | .iface _ v => under n v
  | .func _ ⟨first⟩ ⟨captured⟩ => underL n first && underL n captured
  | .agg ⟨cs⟩ => underL n cs
  | .tuple ⟨vs⟩ => underL n vs
  | _ => true
def underL (n : Nat) : List Value → Bool
  | [] => true
  | v :: l => under n v && underL n l
end

def underO (n : Nat) : AObj → Bool
  | .row cells _ _ _ _ => underL n cells
  | .map es => es.all fun x => under n x.2
  | .iter .. => true

def Tr.all {α : Type} (p : α → Bool) : Tr α → Bool
  | .nil => true
  | .node l v r => l.all p && (match v with | some a => p a | none => true) && r.all p

def underSt (s : St) : Bool := s.objs.all (underO s.next)

/-- What does something and what stands behind it in the text but may come ahead of it: that must not make what it could know. -/
def knowsOk (bits : Array Nat) (all : List (Ent × Nat)) (y : Ent × Nat) : Bool :=
  (all.all fun x => x.1.cls ≠ 2 || decide (x.2 < y.2) || (bits.getD x.2 0).testBit y.2) ||
    (underSt y.1.s && y.1.o.op.operands.all fun q => under y.1.s.next (y.1.a.eval q))

/-- What does something and is no store at the end. -/
def Eff (bits : Array Nat) (ents : List Ent) (x : Ent) (j : Nat) : Prop := ents[j]? = some x ∧ isEff x = true ∧ isTail bits ents.zipIdx (x, j) = false
def Tail (bits : Array Nat) (ents : List Ent) (x : Ent) (j : Nat) : Prop := ents[j]? = some x ∧ isEff x = true ∧ isTail bits ents.zipIdx (x, j) = true

def effsOf (bits : Array Nat) (ents : List Ent) : List (Ent × Nat) := (ents.zipIdx.filter fun x => isEff x.1).filter fun x => !isTail bits ents.zipIdx x
def tailsOf (bits : Array Nat) (ents : List Ent) : List (Ent × Nat) := (ents.zipIdx.filter fun x => isEff x.1).filter (isTail bits ents.zipIdx)

/-- Sight of what looks at memory. -/
def seenAt (E : Env) (x : Ent) (s : St) : Prop := ∃ s', aVal E x.a.eval x.o s = some (x.v, s')

/-- Does the i-th operation, which looks at memory, see the same wherever it may come? The list: the operations that do something, with their places. -/
def SeesP (E : Env) (bits : Array Nat) (all : List (Ent × Nat)) (sM : St) (x : Ent) (i : Nat) : List (Ent × Nat) → Prop
  | [] => seenAt E x (withMade all.length all sM)
  | (e, k) :: rest =>
    if (bits.getD i 0).testBit k then SeesP E bits all sM x i rest
    else seenAt E x (withMade k all e.s) ∧ ((bits.getD k 0).testBit i = true ∨ e.cls = 4 ∨ SeesP E bits all sM x i rest)

/-- Every order comes to what the text's order comes to. -/
structure Good (E : Env) (bits : Array Nat) (ents : List Ent) (sN : St) : Prop where
  inRow : ∀ x i y j, Eff bits ents x i → Eff bits ents y j → i < j → (bits.getD j 0).testBit i = true
  last : ∀ x i y j, Eff bits ents x i → Tail bits ents y j → (bits.getD j 0).testBit i = true
  apart : ∀ x i y j, Tail bits ents x i → Tail bits ents y j → i < j → (bits.getD j 0).testBit i = true ∨ apartStores x y = true
  knows : ∀ y j, Eff bits ents y j → knowsOk bits ents.zipIdx (y, j) = true
  looks : ∀ e k, Eff bits ents e k → ∀ x i, ents[i]? = some x → x.cls = 1 → x.ran = true → SeesP E bits ents.zipIdx (midSt sN (tailsOf bits ents)) x i (effsOf bits ents)
  makes : ∀ x i y j, ents[i]? = some x → x.cls = 2 → Eff bits ents y j → i < j → y.cls = 4 ∨ (bits.getD j 0).testBit i = true ∨ y.s.get x.s.next = y.s'.get x.s.next

open Classical in
noncomputable def evalDraw (E : Env) (call : Caller) (ops : Array Oper) (a : AAct) (s : St) : Option (X × AAct × St) :=
  match trace E call ops (Region.before ops) ops.toList 0 none a s with
  | some (ents, none, a', s') => if Good E (Region.before ops) ents s' then some (.normal, a', s') else none
  | some (ents, some (_, v, ps), _, s') => if Good E (Region.before ops) ents s' ∧ a.defers = [] then some (.panic v, a, ps) else none
  | none => none

def iter (f : AAct → St → Option (X × AAct × St)) : Nat → AAct → St → Option (X × AAct × St)
  | 0, _, _ => none
  | n + 1, a, s => match f a s with
    | some (.normal, a', s') => iter f n a' s'
    | r => r

noncomputable def evalCode (E : Env) (call : Caller) (N : Nat) : Code → AAct → St → Option (X × AAct × St)
  | .skip, a, s => some (.normal, a, s)
  | .label _, a, s => some (.normal, a, s)
  | .region _ ops false, a, s => evalOps E call ops ops.toList a s
  | .region _ ops true, a, s => evalDraw E call ops a s
  | .seq x y, a, s => match evalCode E call N x a s with
    | some (.normal, a', s') => evalCode E call N y a' s'
    | r => r
  | .cond c x y, a, s => match a.eval c with
    | .bool true => evalCode E call N x a s
    | .bool false => evalCode E call N y a s
    | _ => none
  | .block id c, a, s => match evalCode E call N c a s with
    | some (.exit id', a', s') => if id' = id then some (.normal, a', s') else some (.exit id', a', s')
    | r => r
  | .loop c, a, s => iter (evalCode E call N c) N a s
  | .scope c, a, s => evalCode E call N c a s
  | .exit id, a, s => some (.exit id, a, s)
  | .ret, a, s => some (.ret, a, s)
  | _, _, _ => none

/-- A function's results. -/
def aResult (E : Env) (tmps : List Value) (s : St) : ResultVar → Option Value
  | .tmp t => if isJunk (tmps.getD t undef) then none else some (tmps.getD t undef)
  | .cell a t => aLoad E s t (tmps.getD a undef)

def aResults (E : Env) (tmps : List Value) (s : St) : List ResultVar → Option (List Value)
  | [] => some []
  | r :: rest => match aResult E tmps s r, aResults E tmps s rest with
    | some v, some l => some (v :: l)
    | _, _ => none

def aRet (E : Env) (fn : Func) (tmps : List Value) (s : St) : Option Value :=
  match aResults E tmps s fn.results.toList with
  | some [v] => some v
  | some l => some (.tuple l.toArray)
  | none => none

/-! A call that was put off, made while its maker unwinds. 'u': what it panics with (and whether that has been caught); none: it returns. -/
abbrev Unw := Option (Value × Bool)

def hasRecover : Op → Bool
  | .call { callee := .builtin .recover, .. } => true
  | _ => false

def evalOpsD (E : Env) (call : Caller) (ops : Array Oper) : List Oper → AAct → Unw → St → Option (X × AAct × Unw × St)
  | [], a, u, s => some (.normal, a, u, s)
  | o :: rest, a, u, s =>
    if aWanted ops a.tmps o then
      if hasRecover o.op then
        match u with
        | some (v, false) => evalOpsD E call ops rest (a.put o.dst v) (some (v, true)) s
        | none => evalOpsD E call ops rest (a.put o.dst .nilIface) none s
        | _ => none
      else
      match aOp E call a.eval o s with
      | some (.val v s') => evalOpsD E call ops rest (a.put o.dst v) u s'
      | some (.pan v s') => some (.panic v, a, u, s')
      | _ => none
    else evalOpsD E call ops rest (a.put o.dst undef) u s

def recovers : Code → Bool
  | .region _ ops _ => ops.any fun o => hasRecover o.op
  | .seq x y => recovers x || recovers y
  | .cond _ x y => recovers x || recovers y
  | .block _ x | .loop x | .scope x => recovers x
  | .rangeFunc _ _ x y => recovers x || recovers y
  | _ => false

noncomputable def evalCodeD (E : Env) (call : Caller) (N : Nat) : Code → AAct → Unw → St → Option (X × AAct × Unw × St)
  | .seq x y, a, u, s => match evalCodeD E call N x a u s with
    | some (.normal, a', u', s') => evalCodeD E call N y a' u' s'
    | r => r
  | .cond c x y, a, u, s => match a.eval c with
    | .bool true => evalCodeD E call N x a u s
    | .bool false => evalCodeD E call N y a u s
    | _ => none
  | .region i ops d, a, u, s =>
    if (ops.any fun o => hasRecover o.op) then (if d then none else evalOpsD E call ops ops.toList a u s)
    else match evalCode E call N (.region i ops d) a s with
      | some (x, a', s') => some (x, a', u, s')
      | none => none
  | c, a, u, s => if recovers c then none else match evalCode E call N c a s with
    | some (x, a', s') => some (x, a', u, s')
    | none => none

def enterTmps (fn : Func) (args : List Value) : List Value := args ++ List.replicate (fn.ntmps - args.length) undef

/-- A call that was put off. It must return. -/
noncomputable def evalDeferred (E : Env) (call : Caller) (N : Nat) (d : Deferred) (u : Unw) (s : St) : Option (Unw × St) :=
  match d.target with
  | .fn (.func g) captured => match E.func g with
    | some fn => match fn.body with
      | some c => match evalCodeD E call N c { tmps := enterTmps fn (d.args.toList ++ captured.toList), defers := [] } u s with
        | some (.normal, a, u', s') | some (.ret, a, u', s') => if a.defers.isEmpty then (match aRet E fn a.tmps s' with | some _ => some (u', s') | none => none) else none
        | _ => none
      | none => none
    | none => none
  | _ => none

/-- What is left when a call that was put off has returned. -/
def aSettle : Unw → Unw
  | some (_, true) => none
  | u => u

noncomputable def unwinds (E : Env) (call : Caller) (N : Nat) : List Deferred → Unw → St → Option (Unw × St)
  | [], u, s => some (u, s)
  | d :: ds, u, s => match evalDeferred E call N d u s with
    | some (u', s') => unwinds E call N ds (aSettle u') s'
    | none => none

noncomputable def evalFn (E : Env) (call : Caller) (N : Nat) (g : FuncId) (args : List Value) (s : St) : Option (Ret × St) :=
  match E.func g with
  | none => none
  | some fn => match fn.body with
    | none => none
    | some c => match evalCode E call N c { tmps := enterTmps fn args, defers := [] } s with
      | some (.normal, a, s') | some (.ret, a, s') => match unwinds E call N a.defers none s' with
        | some (none, s'') => (aRet E fn a.tmps s'').map fun v => (.ok v, s'')
        | _ => none
      | some (.panic v, a, s') => match unwinds E call N a.defers (some (v, false)) s' with
        | some (none, s'') => (aRet E fn a.tmps s'').map fun v => (.ok v, s'')
        | some (some (v, false), s'') => some (.pan v, s'')
        | _ => none
      | _ => none

/-- The short run of a call. -/
noncomputable def callN (E : Env) (N : Nat) : Nat → Caller
  | 0 => fun _ _ _ => none
  | n + 1 => evalFn E (callN E N n) N

end Go.Ai
