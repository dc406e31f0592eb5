/-
  THE SHORT RUN, 5: what it does: operations, code, calls.
-/
import Derived.Test.YtiabpbememhdeaaDoorAiD
set_option linter.unusedSimpArgs false
set_option linter.unusedVariables false
namespace Go.Ai
open Go

/-- What the short run is told of the program: its types, its functions, old memory, functions that are known by what they answer (where that holds: the Bool). -/
structure Env where
  P : Program
  desc : TypeId → Option TypeDesc
  size : TypeId → Option Nat
  bytes : TypeId → Option Nat
  zero : TypeId → Option Value
  func : FuncId → Option Func
  old : Addr → Option Value
  known : FuncId → Option (List Value → Option (Bool × Value))
  methods : TypeId → String → Option FuncId

/-- A calculation that looks at no memory. -/
def pureRun {α : Type} (P : Program) : Sem α → Option α
  | .pure a => some a
  | .program k => pureRun P (k P)
  | .mark _ k => pureRun P k
  | _ => none

/-- Likewise, where the answer has no address in it. -/
def pureFlat (P : Program) (x : Sem Value) : Option Value :=
  match pureRun P x with
  | some v => if flat v then some v else none
  | none => none

def isAggD : TypeDesc → Bool
  | .struct _ | .array _ _ => true
  | _ => false

structure AAct where
  tmps : List Value
  defers : List Deferred

def AAct.put (a : AAct) (dst : Option Tmp) (v : Value) : AAct :=
  match dst with
  | some d => { a with tmps := a.tmps.set d v }
  | none => a

def AAct.eval (a : AAct) : Operand → Value
  | .tmp t => a.tmps.getD t undef
  | .const v => v
  | .global g => .pointer (some ⟨g, 0, none⟩)
  | .func f => .func (.func f) #[] #[]

/-- A new row. -/
def mkRow (s : St) (cells : List Value) (esz : Nat) : Addr × St := (⟨s.next, 0, some 0⟩, s.push (.row cells esz 0 0 []))

/-- Cells written from an address on. -/
def writeN (s : St) (a : Addr) (vs : List Value) : Option St :=
  match a.spot with
  | none => none
  | some e => match s.get a.block with
    | some (.row cells esz ep lw hist) =>
      if e = ep ∧ lw ≤ ep ∧ a.off + vs.length ≤ cells.length ∧ vs.all isCell = true then some (s.put a.block (.row (splice cells a.off vs) esz ep ep hist)) else none
    | _ => none

def aPart (E : Env) (t : TypeId) (cs : Array Value) (off : Nat) : Option Value :=
  match E.desc t with
  | none => none
  | some d =>
    if isAggD d then (E.size t).map fun n => .agg (cs.extract off (off + n))
    else cs[off]?

def aLoad (E : Env) (s : St) (t : TypeId) (x : Value) : Option Value :=
  match x with
  | .pointer (some a) => match E.desc t with
    | none => none
    | some d =>
      if isAggD d then
        match E.size t with
        | none => none
        | some n => (readN E.old s a n).map fun l => .agg l.toArray
      else match readN E.old s a 1 with
        | some [v] => some v
        | _ => none
  | _ => none

def aStore (E : Env) (s : St) (t : TypeId) (x v : Value) : Option St :=
  match x with
  | .pointer (some a) => match E.size t with
    | none => none
    | some n => if v.cells.size = n then writeN s a v.cells.toList else none
  | _ => none

def aZeros (z : List Value) (n : Nat) : List Value := (List.replicate n z).flatten

def aPlaces (E : Env) (fields : Array Field) : Option (Array (Nat × Nat)) :=
  fields.mapM fun f => (E.size f.type).map fun n => (f.offset, n)

def aBuild (E : Env) (t : TypeId) (parts : Array (Nat × Value)) : Option Value :=
  match E.zero t, E.desc t with
  | some z, some (.struct fields) => match aPlaces E fields with
    | some places => (Instr.fill (places[·]?) z.cells parts.toList).map .agg
    | none => none
  | some z, some (.array _ elem) => match E.size elem with
    | some n => (Instr.fill (fun i => some (i * n, n)) z.cells parts.toList).map .agg
    | none => none
  | _, _ => none

def aBuildSlice (E : Env) (s : St) (t : TypeId) (len : Nat) (parts : Array (Nat × Value)) : Option (Value × St) :=
  match E.desc t with
  | some (.slice elem) => match E.size elem, E.zero elem with
    | some n, some z =>
      if 0 < n ∧ len * n ≤ 2 ^ 24 ∧ z.cells.size = n then
        match Instr.fill (fun i => some (i * n, n)) (aZeros z.cells.toList len).toArray parts.toList with
        | some cells => let (a, s') := mkRow s cells.toList n; some (.slice (some a) len unc, s')
        | none => none
      else none
    | _, _ => none
  | _ => none

/-- '==' where an address may be on a side. -/
def aEq (E : Env) (t : TypeId) (x y : Value) : Option Bool :=
  match E.desc t, x, y with
  | some (.pointer _), .pointer none, .pointer (some _) => some false
  | some (.pointer _), .pointer (some _), .pointer none => some false
  | some (.pointer e), .pointer (some a), .pointer (some b) =>
    match E.size e, a.spot, b.spot with
    | some n, some i, some j => if n ≠ 0 ∧ a.block = b.block ∧ i = j then some (a.off == b.off) else none
    | _, _, _ => none
  | some (.slice _), .slice none _ _, .slice (some _) _ _ => some false
  | some (.slice _), .slice (some _) _ _, .slice none _ _ => some false
  | some (.interface _), .nilIface, .iface _ _ => some false
  | some (.interface _), .iface _ _, .nilIface => some false
  | some (.map _ _), .map none, .map (some _) => some false
  | some (.map _ _), .map (some _), .map none => some false
  | some (.func _ _ _), .nilFunc, .func _ _ _ => some false
  | some (.func _ _ _), .func _ _ _, .nilFunc => some false
  | _, _, _ => none

def aBin (E : Env) (op : BinOp) (t : TypeId) (xo yo : Operand) (x y : Value) : Option Value :=
  if flat x && flat y then pureFlat E.P (do eqGuard op t xo yo x y; binOp op t x y)
  else match op with
    | .eql => (aEq E t x y).map .bool
    | .neq => (aEq E t x y).map fun b => .bool (!b)
    | _ => none

def asNat (i : Int) : Option Nat := if 0 ≤ i then some i.toNat else none

def aInt : Value → Option Int
  | .int _ n => some n
  | _ => none

def aBound (v : Option Value) (dflt : Nat) : Option Nat :=
  match v with
  | none => some dflt
  | some (.int _ n) => asNat n
  | some _ => none

/-- How many elements a row surely has room for, from an address on. -/
def roomAt (s : St) (a : Addr) (n : Nat) : Nat :=
  match a.spot, s.get a.block with
  | some e, some (.row cells esz ep lw _) => if e = ep ∧ lw ≤ ep ∧ esz = n then (cells.length - a.off) / n else 0
  | _, _ => 0

def eszIs (s : St) (a : Addr) (n : Nat) : Bool :=
  match s.get a.block with
  | some (.row _ esz ep lw _) => esz = n && some ep == a.spot && decide (lw ≤ ep)
  | _ => false

def aSlice (E : Env) (s : St) (t : TypeId) (x : Value) (lo hi mx : Option Value) : Option Value :=
  if flat x then
    (if (lo.map flat).getD true && (hi.map flat).getD true && (mx.map flat).getD true then pureFlat E.P (Instr.sliceAt t x lo hi mx) else none)
  else match E.desc t, x with
    | some (.slice elem), .slice (some a) len cap =>
      match E.size elem, aBound lo 0, aBound hi len with
      | some n, some l, some h =>
        if 0 < n then
          if a.spot.isSome ∧ cap = unc then
            if eszIs s a n && decide (l ≤ h) && (decide (h ≤ len) || decide (h ≤ roomAt s a n)) then
              match mx with
              | none => some (.slice (some (aadd a (l * n))) (h - l) unc)
              | some m => match aBound (some m) 0 with
                | some m => if h ≤ m ∧ (m ≤ len ∨ m ≤ roomAt s a n) ∧ m - l < unc ∧ 0 < len then some (.slice (some (if m = l then a else aadd a (l * n))) (h - l) (m - l)) else none
                | none => none
            else none
          else
            match aBound mx cap with
            | some m => if l ≤ h ∧ h ≤ m ∧ m ≤ cap then some (.slice (some (if m = l then a else aadd a (l * n))) (h - l) (m - l)) else none
            | none => none
        else none
      | _, _, _ => none
    | some (.array k elem), .pointer (some a) =>
      match E.size elem, aBound lo 0, aBound hi k, aBound mx k with
      | some n, some l, some h, some m => if l ≤ h ∧ h ≤ m ∧ m ≤ k ∧ m - l < unc then some (.slice (some (if m = l then a else aadd a (l * n))) (h - l) (m - l)) else none
      | _, _, _, _ => none
    | _, _ => none

def aIndexAddr (E : Env) (t : TypeId) (x i : Value) : Option Value :=
  match aInt i with
  | none => none
  | some i =>
    match E.desc t, x with
    | some (.array len elem), .pointer (some a) => match E.size elem with
      | some n => if 0 ≤ i ∧ i < len then some (.pointer (some (aadd a (i.toNat * n)))) else none
      | none => none
    | some (.slice elem), .slice (some a) len _ => match E.size elem with
      | some n => if 0 ≤ i ∧ i < len then some (.pointer (some (aadd a (i.toNat * n)))) else none
      | none => none
    | _, _ => none

def aIndex (E : Env) (t : TypeId) (x i : Value) : Option Value :=
  match x with
  | .string _ => if flat i then pureFlat E.P (Instr.index t x i) else none
  | .agg cs => match aInt i, E.desc t with
    | some i, some (.array len elem) => match E.size elem with
      | some n => if 0 ≤ i ∧ i < len then aPart E elem cs (i.toNat * n) else none
      | none => none
    | _, _ => none
  | _ => none

def aFieldAddr (E : Env) (t : TypeId) (x : Value) (f : Nat) : Option Value :=
  match E.desc t, x with
  | some (.struct fields), .pointer (some a) => match fields[f]? with
    | some fd => match E.size fd.type with
      | some n => if n = 0 then none else some (.pointer (some (aadd a fd.offset)))
      | none => none
    | none => none
  | _, _ => none

def aField (E : Env) (t : TypeId) (x : Value) (f : Nat) : Option Value :=
  match E.desc t, x with
  | some (.struct fields), .agg cs => match fields[f]? with
    | some fd => aPart E fd.type cs fd.offset
    | none => none
  | _, _ => none

def aTypeAssert (E : Env) (x : Value) (asserted : TypeId) (commaOk : Bool) : Option Value :=
  match E.desc asserted with
  | some (.interface _) => none
  | none => none
  | some _ =>
    match x with
    | .iface t v =>
      if t = asserted then some (if commaOk then .tuple #[v, .bool true] else v)
      else if commaOk then (E.zero asserted).map fun z => .tuple #[z, .bool false] else none
    | .nilIface => if commaOk then (E.zero asserted).map fun z => .tuple #[z, .bool false] else none
    | _ => none

def aMakeSlice (E : Env) (s : St) (t : TypeId) (len cap : Value) : Option (Value × St) :=
  match E.desc t, aInt len, aInt cap with
  | some (.slice elem), some l, some c => match E.size elem, E.bytes elem, E.zero elem with
    | some n, some b, some z =>
      if 0 < n ∧ z.cells.size = n ∧ 0 ≤ l ∧ l ≤ c ∧ c < 2 ^ 62 ∧ b * c.toNat ≤ 2 ^ 48 then
        let (a, s') := mkRow s (aZeros z.cells.toList c.toNat) n
        some (.slice (some a) l.toNat unc, s')
      else none
    | _, _, _ => none
  | _, _, _ => none

/-- An element's cells, to be appended or copied. -/
def aSource (E : Env) (s : St) (n : Nat) (size : Nat) (x : Value) : Option (List Value) :=
  match x with
  | .slice none _ _ => some []
  | .slice (some a) _ _ => readN E.old s a (n * size)
  | .string b => if size = 1 then some ((b.extract 0 n).data.toList.map fun b => .int .u8 b.toNat) else none
  | _ => none

def aLen : Value → Option Nat
  | .slice _ n _ => some n
  | .string b => some b.size
  | _ => none

/-- What is to be appended: how many, and the cells. -/
def aNew (E : Env) (s : St) (argTypes : Array TypeId) (n b : Nat) (z : Value) (x : Value) : Option (Nat × List Value) :=
  match argTypes[1]? with
  | some xt => match E.desc xt with
    | some (.int _) => match x with
      | .int _ i => if 0 ≤ i ∧ i < 2 ^ 62 ∧ i.toNat * b ≤ 2 ^ 46 then some (i.toNat, aZeros z.cells.toList i.toNat) else none
      | _ => none
    | some _ => match aLen x with
      | some m => (aSource E s m n x).map fun l => (m, l)
      | none => none
    | none => none
  | none => match aLen x with
    | some m => (aSource E s m n x).map fun l => (m, l)
    | none => none

def aAppend (E : Env) (s : St) (argTypes : Array TypeId) (sl x : Value) : Option (Value × St) :=
  match argTypes[0]? with
  | none => none
  | some st => match E.desc st with
    | some (.slice elem) => match E.size elem, E.bytes elem, E.zero elem with
      | some n, some b, some z =>
        if ¬ (0 < n ∧ z.cells.size = n) then none else
        -- how many, and which cells
        match aNew E s argTypes n b z x with
        | none => none
        | some (m, new) =>
          if ¬ (new.length = m * n ∧ new.all isCell = true) then none else
          match sl with
          | .slice none l c =>
            if l ≠ 0 ∨ c ≠ 0 then none else
            if m = 0 then some (sl, s) else
            if m * b ≤ 2 ^ 46 ∧ m < 2 ^ 62 then let (a, s') := mkRow s new n; some (.slice (some a) m unc, s') else none
          | .slice (some a) len cap =>
            if (len + m) * b ≤ 2 ^ 46 ∧ len + m < 2 ^ 62 then
              match a.spot with
              | some e => match s.get a.block with
                | some (.row cells esz ep lw hist) =>
                  if e = ep ∧ lw ≤ ep ∧ esz = n ∧ a.off ≤ cells.length then
                    if cap = unc then
                      if m = 0 then some (sl, s) else
                      if a.off + (len + m) * n ≤ cells.length then
                        some (.slice (some a) (len + m) unc, s.put a.block (.row (splice cells (a.off + len * n) new) esz ep ep hist))
                      else if a.off + len * n = cells.length then
                        some (.slice (some ⟨a.block, a.off, some (ep + 1)⟩) (len + m) unc, s.put a.block (.row (cells ++ new) esz (ep + 1) lw (cells.length :: hist)))
                      else none
                    else if len + m ≤ cap then
                      if a.off + (len + m) * n ≤ cells.length then
                        some (.slice (some a) (len + m) cap, s.put a.block (.row (splice cells (a.off + len * n) new) esz ep ep hist))
                      else none
                    else match readN E.old s a (len * n) with
                      | some was => let (a', s') := mkRow s (was ++ new) n; some (.slice (some a') (len + m) unc, s')
                      | none => none
                  else none
                | _ => none
              | none =>
                if m = 0 ∧ len ≤ cap then some (sl, s) else
                if len + m ≤ cap then none
                else match readN E.old s a (len * n) with
                  | some was => let (a', s') := mkRow s (was ++ new) n; some (.slice (some a') (len + m) unc, s')
                  | none => none
            else none
          | _ => none
      | _, _, _ => none
    | _ => none

def aCopy (E : Env) (s : St) (argTypes : Array TypeId) (d x : Value) : Option (Value × St) :=
  match argTypes[0]? with
  | none => none
  | some st => match E.desc st, d, aLen x with
    | some (.slice elem), .slice base dl _, some m => match E.size elem with
      | none => none
      | some n => match aSource E s (Nat.min m dl) n x with
        | none => none
        | some l => match base with
          | none => some (goInt (Nat.min m dl), s)
          | some a => if l = [] then some (goInt (Nat.min m dl), s) else (writeN s a l).map fun s' => (goInt (Nat.min m dl), s')
    | _, _, _ => none

/-- A map's keys that can be told apart at sight. -/
def keyIs (k key : Value) : Option Bool :=
  match k, key with
  | .int a n, .int b m => if a = b then some (n == m) else none
  | .string a, .string b => some (a == b)
  | .bool a, .bool b => some (a == b)
  | _, _ => none

/-- A key's kind is its type's. -/
def keyFits (d : TypeDesc) (k : Value) : Bool :=
  match d, k with
  | .int _, .int _ _ | .string, .string _ | .bool, .bool _ => true
  | _, _ => false

def isStructD : TypeDesc → Bool
  | .struct _ => true
  | _ => false

/-- Whether two keys are one. -/
def keyEq (E : Env) (kt : TypeId) (d : TypeDesc) (k key : Value) : Option Bool :=
  if keyFits d k then keyIs k key
  else if isStructD d && flat k && flat key then pureRun E.P (Op.equal kt k key) else none

/-- A key that a map can be asked for. -/
def keyOk (E : Env) (kt : TypeId) (d : TypeDesc) (e : Bool) (k : Value) : Bool :=
  flat k && (keyFits d k || (isStructD d && (pureRun E.P (Instr.checkKey e 10000 kt k)).isSome))

def findAt (eq : Value → Option Bool) : List (Value × Value) → Nat → Option (Option (Nat × Value))
  | [], _ => some none
  | e :: es, i => match eq e.1 with
    | some true => some (some (i, e.2))
    | some false => findAt eq es (i + 1)
    | none => none

def aEntries (s : St) : Value → Option (List (Value × Value))
  | .map none => some []
  | .map (some f) => match s.get f with
    | some (.map es) => some es
    | _ => none
  | _ => none

def aLookup (E : Env) (s : St) (t : TypeId) (x k : Value) (ok : Bool) : Option Value :=
  match E.desc t with
  | some (.map kt et) =>
    match E.desc kt, aEntries s x, E.zero et with
    | some d, some es, some z =>
      if keyOk E kt d es.isEmpty k then
        match findAt (keyEq E kt d k) es 0 with
        | some (some (_, v)) => some (if ok then .tuple #[v, .bool true] else v)
        | some none => some (if ok then .tuple #[z, .bool false] else z)
        | none => none
      else none
    | _, _, _ => none
  | _ => none

def aMapUpdate (E : Env) (s : St) (t : TypeId) (x k v : Value) : Option St :=
  match E.desc t, x with
  | some (.map kt _), .map (some f) =>
    match E.desc kt, s.get f with
    | some d, some (.map es) =>
      if keyOk E kt d false k then
        match findAt (keyEq E kt d k) es 0 with
        | some (some (i, _)) => match es[i]? with
          | some e => if Instr.sameBits 10000 e.1 k && flat e.1 then some (s.put f (.map (es.set i (k, v)))) else none
          | none => none
        | some none => some (s.put f (.map (es ++ [(k, v)])))
        | none => none
      else none
    | _, _ => none
  | _, _ => none

def aMapDelete (E : Env) (s : St) (argTypes : Array TypeId) (x k : Value) : Option St :=
  match argTypes[0]? with
  | none => none
  | some t => match E.desc t, x with
    | some (.map kt _), .map (some f) =>
      match E.desc kt, s.get f with
      | some d, some (.map es) =>
        if keyOk E kt d es.isEmpty k then
          match findAt (keyEq E kt d k) es 0 with
          | some (some (i, _)) => some (s.put f (.map (es.eraseIdx i)))
          | some none => some s
          | none => none
        else none
      | _, _ => none
    | _, _ => none

/-- Cells as bytes. -/
def bytesOf : List Value → Option (List UInt8)
  | [] => some []
  | .int .u8 b :: l => (bytesOf l).map (UInt8.ofNat b.toNat :: ·)
  | _ => none

def toSlice (E : Env) (dst : TypeId) : Bool :=
  match E.desc dst with
  | some (.slice _) => true
  | _ => false

def aConvert (E : Env) (s : St) (src dst : TypeId) (x : Value) : Option (Value × St) :=
  match x with
  | .slice (some a) n _ => match E.desc src, E.desc dst with
    | some (.slice e), some .string => match E.desc e with
      | some (.int .u8) => match readN E.old s a n with
        | some l => (bytesOf l).map fun bs => (.string ⟨bs.toArray⟩, s)
        | none => none
      | _ => none
    | _, _ => none
  | .string b => match E.desc src, E.desc dst with
    | some .string, some .string => some (x, s)
    | some .string, some (.slice e) => match E.desc e with
      | some (.int .u8) => let (a, s') := mkRow s (b.data.toList.map fun b => .int .u8 b.toNat) 1; some (.slice (some a) b.size unc, s')
      | _ => none
    | _, _ => none
  | .slice none _ _ => if toSlice E dst then none else (pureFlat E.P (convert src dst x)).map (·, s)
  | .int _ _ => if toSlice E dst then none else (pureFlat E.P (convert src dst x)).map (·, s)
  | .bool _ => none
  | x => none

def aClear (E : Env) (s : St) (argTypes : Array TypeId) (x : Value) : Option (Value × St) :=
  match argTypes[0]?, x with
  | some t, .slice (some a) n _ => match E.desc t with
    | some (.slice e) => match E.size e, E.zero e with
      | some k, some z => if n = 0 then some (.tuple #[], s) else if z.cells.size = k ∧ 0 < k then (writeN s a (aZeros z.cells.toList n)).map (.tuple #[], ·) else none
      | _, _ => none
    | _ => none
  | _, _ => none

def aBuiltin (E : Env) (s : St) (b : Builtin) (argTypes : Array TypeId) (type : TypeId) (args : List Value) : Option (Value × St) :=
  match b, args with
  | .len, [x] => match x with
    | .slice (some _) n _ => match argTypes[0]? with
      | some t => match E.desc t with
        | some (.slice _) => some (goInt n, s)
        | _ => none
      | none => none
    | .map (some f) => match argTypes[0]?, s.get f with
      | some t, some (.map es) => match E.desc t with
        | some (.map _ _) => some (goInt es.length, s)
        | _ => none
      | _, _ => none
    | x => if flat x then (pureFlat E.P (Builtin.len_ argTypes type #[x])).map (·, s) else none
  | .cap, [x] => match x with
    | .slice (some a) _ c => match argTypes[0]? with
      | some t => match E.desc t with
        | some (.slice _) => if a.spot.isSome ∧ c = unc then none else some (goInt c, s)
        | _ => none
      | none => none
    | x => if flat x then (pureFlat E.P (Builtin.cap_ argTypes type #[x])).map (·, s) else none
  | .append, [x, y] => aAppend E s argTypes x y
  | .copy, [x, y] => aCopy E s argTypes x y
  | .clear, [x] => aClear E s argTypes x
  | .delete, [x, y] => (aMapDelete E s argTypes x y).map (.tuple #[], ·)
  | .min, l => if flatL l then (pureFlat E.P (Builtin.min_ argTypes type l.toArray)).map (·, s) else none
  | .max, l => if flatL l then (pureFlat E.P (Builtin.max_ argTypes type l.toArray)).map (·, s) else none
  | _, _ => none

/-- An operation that is no call. -/
def aVal (E : Env) (ρ : Operand → Value) (o : Oper) (s : St) : Option (Value × St) :=
  match o.op with
  | .move x | .assign x => some (ρ x, s)
  | .pick c a b => match ρ c with
    | .bool t => some (if t then ρ a else ρ b, s)
    | _ => none
  | .alloc t => match E.zero t, E.size t with
    | some z, some n => if z.cells.size = n ∧ 0 < n then let (a, s') := mkRow s z.cells.toList n; some (.pointer (some a), s') else none
    | _, _ => none
  | .box _ x => let v := ρ x; if 0 < v.cells.size then let (a, s') := mkRow s v.cells.toList v.cells.size; some (.pointer (some a), s') else none
  | .build t parts => (aBuild E t (parts.map fun (i, x) => (i, ρ x))).map (·, s)
  | .buildSlice t len parts => aBuildSlice E s t len (parts.map fun (i, x) => (i, ρ x))
  | .load t a => (aLoad E s t (ρ a)).map (·, s)
  | .store t a x => (aStore E s t (ρ a) (ρ x)).map (undef, ·)
  | .nilCheck x => match ρ x with
    | .pointer (some a) => some (.pointer (some a), s)
    | .func (.func f) a b => some (.func (.func f) a b, s)
    | _ => none
  | .binOp op t x y _ => (aBin E op t x y (ρ x) (ρ y)).map (·, s)
  | .unOp op _ x => if flat (ρ x) then (pureFlat E.P (Op.unary op (ρ x))).map (·, s) else none
  | .convert src dst x => aConvert E s src dst (ρ x)
  | .makeInterface t x => match E.desc t with
    | some (.interface _) => none
    | some _ => some (.iface t (ρ x), s)
    | none => none
  | .makeFunc fn first captured => some (.func fn (first.map ρ) (captured.map ρ), s)
  | .makeMap _ none => some (.map (some s.next), s.push (.map []))
  | .makeSlice t l c => aMakeSlice E s t (ρ l) (ρ c)
  | .slice t x lo hi mx => (aSlice E s t (ρ x) (lo.map ρ) (hi.map ρ) (mx.map ρ)).map (·, s)
  | .fieldAddr t x f => (aFieldAddr E t (ρ x) f).map (·, s)
  | .field t x f => (aField E t (ρ x) f).map (·, s)
  | .indexAddr t x i => (aIndexAddr E t (ρ x) (ρ i)).map (·, s)
  | .index t x i => (aIndex E t (ρ x) (ρ i)).map (·, s)
  | .lookup t x k ok => (aLookup E s t (ρ x) (ρ k) ok).map (·, s)
  | .mapUpdate t m k v => (aMapUpdate E s t (ρ m) (ρ k) (ρ v)).map (undef, ·)
  | .range t x => match ρ x, E.desc t with
    | .string b, some .string => some (.pointer (some ⟨s.next, 0, some 0⟩), s.push (.iter b 0))
    | _, _ => none
  | .next it true => match ρ it with
    | .pointer (some ⟨f, 0, some 0⟩) => match s.get f with
      | some (.iter b pos) =>
        if pos < b.size then
          let (c, width) := Utf8.decode b pos
          some (.tuple #[.bool true, goInt pos, .int .i32 c], s.put f (.iter b (pos + width)))
        else some (.tuple #[.bool false], s)
      | _ => none
    | _ => none
  | .typeAssert x _ asserted ok => (aTypeAssert E (ρ x) asserted ok).map (·, s)
  | .extract t i => match ρ t with
    | .tuple vs => (vs[i]?).map (·, s)
    | _ => none
  | .call { callee := .builtin b, args, argTypes } => aBuiltin E s b argTypes o.type (args.toList.map ρ)
  | _ => none

end Go.Ai
