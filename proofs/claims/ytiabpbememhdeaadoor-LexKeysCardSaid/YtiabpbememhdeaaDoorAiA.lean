/-
  THE SHORT RUN, 1: its data. A machine of our own whose memory holds a row of cells under a number, and a growing row under one number still: what Go leaves open (the order inside a statement, a new array's room) does not show in it.
-/
import Derived.Recover
import Derived.Scope
namespace Go.Ai
open Go

/-! A map from numbers, as a tree. -/
inductive Tr (α : Type) where
  | nil
  | node (l : Tr α) (v : Option α) (r : Tr α)

def Tr.get {α : Type} : Tr α → Nat → Option α
  | .nil, _ => none
  | .node l v r, n =>
    match n with
    | 0 => v
    | n + 1 => if n % 2 = 0 then l.get (n / 2) else r.get (n / 2)

def Tr.set {α : Type} (a : α) : Nat → Tr α → Nat → Tr α
  | 0, t, _ => t
  | f + 1, .nil, n =>
    match n with
    | 0 => .node .nil (some a) .nil
    | n + 1 => if n % 2 = 0 then .node (Tr.set a f .nil (n / 2)) none .nil else .node .nil none (Tr.set a f .nil (n / 2))
  | f + 1, .node l v r, n =>
    match n with
    | 0 => .node l (some a) r
    | n + 1 => if n % 2 = 0 then .node (Tr.set a f l (n / 2)) v r else .node l v (Tr.set a f r (n / 2))

def Tr.put {α : Type} (t : Tr α) (n : Nat) (a : α) : Tr α := Tr.set a (n + 1) t n

theorem Tr.get_set {α : Type} (a : α) : ∀ (f : Nat) (t : Tr α) (n m : Nat), n < f → (Tr.set a f t n).get m = if m = n then some a else t.get m := by
  intro f
  induction f with
  | zero => intro t n m h; omega
  | succ f ih =>
    intro t n m h
    cases t with
    | nil =>
      cases n with
      | zero => cases m <;> simp [Tr.set, Tr.get]
      | succ n =>
        have hn : n / 2 < f := by omega
        simp only [Tr.set]
        split
        · cases m with
          | zero => simp [Tr.get]
          | succ m =>
            simp only [Tr.get]
            split
            · rw [ih _ _ _ hn]
              have : (m / 2 = n / 2) = (m + 1 = n + 1) := by apply propext; omega
              simp [this, Tr.get]
            · have : m + 1 ≠ n + 1 := by omega
              rw [if_neg this]; try rfl
        · cases m with
          | zero => simp [Tr.get]
          | succ m =>
            simp only [Tr.get]
            split
            · have : m + 1 ≠ n + 1 := by omega
              rw [if_neg this]; try rfl
            · rw [ih _ _ _ hn]
              have : (m / 2 = n / 2) = (m + 1 = n + 1) := by apply propext; omega
              simp [this, Tr.get]
    | node l v r =>
      cases n with
      | zero => cases m <;> simp [Tr.set, Tr.get]
      | succ n =>
        have hn : n / 2 < f := by omega
        simp only [Tr.set]
        split
        · cases m with
          | zero => simp [Tr.get]
          | succ m =>
            simp only [Tr.get]
            split
            · rw [ih _ _ _ hn]
              have : (m / 2 = n / 2) = (m + 1 = n + 1) := by apply propext; omega
              simp [this]
            · have : m + 1 ≠ n + 1 := by omega
              rw [if_neg this]; try rfl
        · cases m with
          | zero => simp [Tr.get]
          | succ m =>
            simp only [Tr.get]
            split
            · have : m + 1 ≠ n + 1 := by omega
              rw [if_neg this]; try rfl
            · rw [ih _ _ _ hn]
              have : (m / 2 = n / 2) = (m + 1 = n + 1) := by apply propext; omega
              simp [this]

theorem Tr.get_put {α : Type} (t : Tr α) (n m : Nat) (a : α) : (t.put n a).get m = if m = n then some a else t.get m :=
  Tr.get_set a _ t n m (by omega)

/-- What a number stands for: a row of cells that may have grown ('ep' times; 'hist': how many cells it had before each growth, the last one first; 'lw': in which growth's time it was last written to), a map, a walk along a string. -/
inductive AObj where
  | row (cells : List Value) (esz ep lw : Nat) (hist : List Nat)
  | map (es : List (Value × Value))
  | iter (s : ByteArray) (pos : Nat)

structure St where
  objs : Tr AObj
  next : Nat

def St.get (s : St) (f : Nat) : Option AObj := s.objs.get f
def St.put (s : St) (f : Nat) (o : AObj) : St := { s with objs := s.objs.put f o }
def St.push (s : St) (o : AObj) : St := { objs := s.objs.put s.next o, next := s.next + 1 }

theorem St.get_put (s : St) (f m : Nat) (o : AObj) : (s.put f o).get m = if m = f then some o else s.get m := Tr.get_put _ _ _ _
theorem St.get_push (s : St) (m : Nat) (o : AObj) : (s.push o).get m = if m = s.next then some o else s.get m := Tr.get_put _ _ _ _
theorem St.next_put (s : St) (f : Nat) (o : AObj) : (s.put f o).next = s.next := rfl
theorem St.next_push (s : St) (o : AObj) : (s.push o).next = s.next + 1 := rfl

def St.empty : St := { objs := .nil, next := 0 }

/-- The room of a slice that reaches to its array's end. -/
def unc : Nat := 2 ^ 64

/-- How many cells a row had at a growth's time. -/
def ext (cells : List Value) (ep : Nat) (hist : List Nat) (e : Nat) : Nat :=
  if e = ep then cells.length else (hist[ep - 1 - e]?).getD 0

/- No address in it. -/
mutual
def flat : Value → Bool
  | .bool _ | .int _ _ | .float _ _ | .complex _ _ _ | .string _ | .nilFunc | .nilIface => true
  | .pointer none | .slice none _ _ | .map none | .chan none => true
  | .pointer (some _) | .slice (some _) _ _ | .map (some _) | .chan (some _) => false
  | .iface _ v => flat v
  | .func _ first captured => flatA first && flatA captured
  | .agg cs => flatA cs
  | .tuple vs => flatA vs
def flatA : Array Value → Bool
  | ⟨l⟩ => flatL l
def flatL : List Value → Bool
  | [] => true
  | v :: l => flat v && flatL l
end

/-- Where a growth's time of a row lies in the machine's memory: its block, which of the row's cells is the block's first one, the block's room and cells an element. -/
structure Blk where
  b : Nat
  base : Nat
  cap : Nat
  esz : Nat

abbrev Phi := Nat → Nat → Option Blk

/-- A value of the short run, and the machine's. 'B': the old memory's blocks. -/
inductive V (B : Nat) (φ : Phi) : Value → Value → Prop
  | bool (b) : V B φ (.bool b) (.bool b)
  | int (k n) : V B φ (.int k n) (.int k n)
  | float (k b) : V B φ (.float k b) (.float k b)
  | complex (k a b) : V B φ (.complex k a b) (.complex k a b)
  | string (s) : V B φ (.string s) (.string s)
  | nilFunc : V B φ .nilFunc .nilFunc
  | nilIface : V B φ .nilIface .nilIface
  | pnil : V B φ (.pointer none) (.pointer none)
  | pold (a : Addr) (h : a.block < B) (hs : a.spot = none) : V B φ (.pointer (some a)) (.pointer (some a))
  | pnew (f off e : Nat) (k : Blk) (h : φ f e = some k) (hb : k.base ≤ off) : V B φ (.pointer (some ⟨f, off, some e⟩)) (.pointer (some ⟨k.b, off - k.base, none⟩))
  | snil (l c) : V B φ (.slice none l c) (.slice none l c)
  | sold (a : Addr) (l c) (h : a.block < B) (hs : a.spot = none) : V B φ (.slice (some a) l c) (.slice (some a) l c)
  | snew (f off e l : Nat) (k : Blk) (h : φ f e = some k) (hb : k.base ≤ off) (hz : 0 < k.esz) (hl : (off - k.base) / k.esz + l ≤ k.cap) (hd : (off - k.base) % k.esz = 0) :
      V B φ (.slice (some ⟨f, off, some e⟩) l unc) (.slice (some ⟨k.b, off - k.base, none⟩) l (k.cap - (off - k.base) / k.esz))
  | sfix (f off e l c : Nat) (k : Blk) (h : φ f e = some k) (hb : k.base ≤ off) (hc : c < unc) :
      V B φ (.slice (some ⟨f, off, some e⟩) l c) (.slice (some ⟨k.b, off - k.base, none⟩) l c)
  | snone (f off e o : Nat) (k : Blk) (h : φ f e = some k) (hb : k.base ≤ off) (hz : 0 < k.esz) (hl : k.cap ≤ (off - k.base) / k.esz) (hd : (off - k.base) % k.esz = 0) : V B φ (.slice (some ⟨f, off, some e⟩) 0 unc) (.slice (some ⟨k.b, o, none⟩) 0 0)
  | mnil : V B φ (.map none) (.map none)
  | mnew (f : Nat) (k : Blk) (h : φ f 0 = some k) : V B φ (.map (some f)) (.map (some k.b))
  | cnil : V B φ (.chan none) (.chan none)
  | iface (t : TypeId) {v v' : Value} (h : V B φ v v') : V B φ (.iface t v) (.iface t v')
  | func (fn : Fn) {xs ys zs us : Array Value} (h : xs.size = ys.size) (hi : ∀ (i : Nat) (x y : Value), xs[i]? = some x → ys[i]? = some y → V B φ x y)
      (h' : zs.size = us.size) (hi' : ∀ (i : Nat) (x y : Value), zs[i]? = some x → us[i]? = some y → V B φ x y) : V B φ (.func fn xs zs) (.func fn ys us)
  | agg {xs ys : Array Value} (h : xs.size = ys.size) (hi : ∀ (i : Nat) (x y : Value), xs[i]? = some x → ys[i]? = some y → V B φ x y) : V B φ (.agg xs) (.agg ys)
  | tuple {xs ys : Array Value} (h : xs.size = ys.size) (hi : ∀ (i : Nat) (x y : Value), xs[i]? = some x → ys[i]? = some y → V B φ x y) : V B φ (.tuple xs) (.tuple ys)

/-- Likewise for arrays. -/
def VA (B : Nat) (φ : Phi) (xs ys : Array Value) : Prop := xs.size = ys.size ∧ ∀ (i : Nat) (x y : Value), xs[i]? = some x → ys[i]? = some y → V B φ x y

theorem V.mono {B : Nat} {φ φ' : Phi} (h : ∀ f e k, φ f e = some k → φ' f e = some k) {x y : Value} (hv : V B φ x y) : V B φ' x y := by
  induction hv with
  | bool b => exact .bool b
  | int k n => exact .int k n
  | float k b => exact .float k b
  | complex k a b => exact .complex k a b
  | string s => exact .string s
  | nilFunc => exact .nilFunc
  | nilIface => exact .nilIface
  | pnil => exact .pnil
  | pold a h hs => exact .pold a h hs
  | pnew f off e k hk hb => exact .pnew f off e k (h _ _ _ hk) hb
  | snil l c => exact .snil l c
  | sold a l c h hs => exact .sold a l c h hs
  | snew f off e l k hk hb hz hl hd => exact .snew f off e l k (h _ _ _ hk) hb hz hl hd
  | sfix f off e l c k hk hb hc => exact .sfix f off e l c k (h _ _ _ hk) hb hc
  | snone f off e o k hk hb hz hl hd => exact .snone f off e o k (h _ _ _ hk) hb hz hl hd
  | mnil => exact .mnil
  | mnew f k hk => exact .mnew f k (h _ _ _ hk)
  | cnil => exact .cnil
  | iface t _ ih => exact .iface t ih
  | func fn hs _ hs' _ ih ih' => exact .func fn hs ih hs' ih'
  | agg hs _ ih => exact .agg hs ih
  | tuple hs _ ih => exact .tuple hs ih

theorem VA.mono {B : Nat} {φ φ' : Phi} (h : ∀ f e k, φ f e = some k → φ' f e = some k) {x y : Array Value} (hv : VA B φ x y) : VA B φ' x y :=
  ⟨hv.1, fun i a b ha hb => (hv.2 i a b ha hb).mono h⟩

theorem array_ext_some {α : Type} {xs ys : Array α} (hs : xs.size = ys.size) (h : ∀ (i : Nat) (x y : α), xs[i]? = some x → ys[i]? = some y → x = y) : xs = ys := by
  apply Array.ext hs
  intro i h1 h2
  exact h i _ _ (Array.getElem?_eq_getElem h1) (Array.getElem?_eq_getElem h2)

theorem flatL_iff (l : List Value) : flatL l = true ↔ ∀ (i : Nat) (x : Value), l[i]? = some x → flat x = true := by
  induction l with
  | nil => simp [flatL]
  | cons v l ih =>
    simp only [flatL, Bool.and_eq_true, ih]
    constructor
    · rintro ⟨h1, h2⟩ i x hx
      cases i with
      | zero => simp at hx; exact hx ▸ h1
      | succ i => simp at hx; exact h2 i x hx
    · intro h
      exact ⟨h 0 v (by simp), fun i x hx => h (i + 1) x (by simpa using hx)⟩

theorem flatA_iff (l : Array Value) : flatA l = true ↔ ∀ (i : Nat) (x : Value), l[i]? = some x → flat x = true := by
  obtain ⟨l⟩ := l
  simp only [flatA, flatL_iff, List.getElem?_toArray]

/-- Without an address the two are one. -/
theorem V.eq_of_flat {B : Nat} {φ : Phi} {x y : Value} (h : V B φ x y) : flat x = true → x = y := by
  induction h with
  | iface t _ ih => intro hf; rw [ih (by simpa [flat] using hf)]
  | func fn hs _ hs' _ ih ih' =>
    intro hf
    simp only [flat, Bool.and_eq_true] at hf
    rw [array_ext_some hs fun i x y hx hy => ih i x y hx hy ((flatA_iff _).1 hf.1 i x hx), array_ext_some hs' fun i x y hx hy => ih' i x y hx hy ((flatA_iff _).1 hf.2 i x hx)]
  | agg hs _ ih =>
    intro hf
    simp only [flat] at hf
    rw [array_ext_some hs fun i x y hx hy => ih i x y hx hy ((flatA_iff _).1 hf i x hx)]
  | tuple hs _ ih =>
    intro hf
    simp only [flat] at hf
    rw [array_ext_some hs fun i x y hx hy => ih i x y hx hy ((flatA_iff _).1 hf i x hx)]
  | _ => simp [flat]

mutual
theorem V.refl_of_flat (B : Nat) (φ : Phi) : ∀ (x : Value), flat x = true → V B φ x x
  | .bool b, _ => .bool b
  | .int k n, _ => .int k n
  | .float k b, _ => .float k b
  | .complex k a b, _ => .complex k a b
  | .string s, _ => .string s
  | .nilFunc, _ => .nilFunc
  | .nilIface, _ => .nilIface
  | .pointer none, _ => .pnil
  | .slice none l c, _ => .snil l c
  | .map none, _ => .mnil
  | .chan none, _ => .cnil
  | .pointer (some _), h | .slice (some _) _ _, h | .map (some _), h | .chan (some _), h => by simp [flat] at h
  | .iface t v, h => .iface t (V.refl_of_flat B φ v (by simpa [flat] using h))
  | .func fn first captured, h => by
      simp only [flat, Bool.and_eq_true] at h
      have h1 := VA.refl_of_flat B φ first h.1
      have h2 := VA.refl_of_flat B φ captured h.2
      exact .func fn h1.1 h1.2 h2.1 h2.2
  | .agg cs, h => by
      have h1 := VA.refl_of_flat B φ cs (by simpa [flat] using h)
      exact .agg h1.1 h1.2
  | .tuple cs, h => by
      have h1 := VA.refl_of_flat B φ cs (by simpa [flat] using h)
      exact .tuple h1.1 h1.2
theorem VA.refl_of_flat (B : Nat) (φ : Phi) : ∀ (x : Array Value), flatA x = true → VA B φ x x
  | ⟨l⟩, h => ⟨rfl, fun i a b ha hb => by
      rw [ha] at hb
      obtain rfl : a = b := by simpa using hb
      exact VL.refl_of_flat B φ l (by simpa [flatA] using h) i a (by simpa using ha)⟩
theorem VL.refl_of_flat (B : Nat) (φ : Phi) : ∀ (l : List Value), flatL l = true → ∀ (i : Nat) (x : Value), l[i]? = some x → V B φ x x
  | [], _, i, x, hx => by simp at hx
  | v :: l, h, 0, x, hx => by
      simp only [flatL, Bool.and_eq_true] at h
      obtain rfl : v = x := by simpa using hx
      exact V.refl_of_flat B φ v h.1
  | v :: l, h, i + 1, x, hx => by
      simp only [flatL, Bool.and_eq_true] at h
      exact VL.refl_of_flat B φ l h.2 i x (by simpa using hx)
end

end Go.Ai
