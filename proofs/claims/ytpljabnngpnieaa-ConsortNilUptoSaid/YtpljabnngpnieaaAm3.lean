/-
  The logic AM, part 3: what an operation does to abstract values and states ('aop').
  Own work. No Go text.
-/
import Derived.Test.YtpljabnngpnieaaAm2
namespace Go.Am
open Go.RowKit

def ofCell : Value → Option AV
  | .bool b => some (.bool b)
  | .int k n => some (.int k n)
  | .string s => some (.str s)
  | .pointer none => some .nilp
  | .nilFunc => some .nilf
  | .slice none 0 0 => some (.sl true [])
  | _ => none

def ofCells : List Value → Option (List AV)
  | [] => some []
  | v :: r => match ofCell v, ofCells r with
    | some x, some l => some (x :: l)
    | _, _ => none

def ofValue : Value → Option AV
  | .agg cs => match ofCells cs.toList with
    | some l => some (.agg l)
    | none => none
  | v => ofCell v

def sizeT (P : Program) (t : TypeId) : Option Nat := (P.info? t).map (·.size)
def bytesT (P : Program) (t : TypeId) : Option Nat := (P.info? t).map (·.bytes)
def aggT (P : Program) (t : TypeId) : Option Bool := (P.underlying t).map fun | .struct _ | .array _ _ => true | _ => false
def zeroT (P : Program) (t : TypeId) : Option AV := match (P.info? t).map (·.zero) with
  | some (some v) => ofValue v
  | _ => none
def elemT (P : Program) (t : TypeId) : Option TypeId := match P.underlying t with
  | some (.slice e) => some e
  | _ => none
def arrT (P : Program) (t : TypeId) : Option (Nat × TypeId) := match P.underlying t with
  | some (.array n e) => some (n, e)
  | _ => none
def strT (P : Program) (t : TypeId) : Bool := match P.underlying t with
  | some .string => true
  | _ => false
def intT (P : Program) (t : TypeId) : Option IntKind := match P.underlying t with
  | some (.int k) => some k
  | _ => none
/-- The place and the size of a field. -/
def fieldT (P : Program) (t : TypeId) (i : Nat) : Option (Nat × Nat) := match P.underlying t with
  | some (.struct fs) => match fs[i]? with
    | some f => match sizeT P f.type with
      | some n => some (f.offset, n)
      | none => none
    | none => none
  | _ => none
/-- Every field of a struct has its size. -/
def structT (P : Program) (t : TypeId) : Bool := match P.underlying t with
  | some (.struct fs) => fs.toList.all fun f => (sizeT P f.type).isSome
  | _ => false
def ftypeT (P : Program) (t : TypeId) (i : Nat) : Option TypeId := match P.underlying t with
  | some (.struct fs) => (fs[i]?).map (·.type)
  | _ => none

def oper (env : Env) : Operand → Option AV
  | .tmp t => eget env t
  | .const v => ofValue v
  | .func f => some (.fn f [])
  | .global _ => none

def opers (env : Env) : List Operand → Option (List AV)
  | [] => some []
  | x :: r => match oper env x, opers env r with
    | some v, some l => some (v :: l)
    | _, _ => none

/-- The cells from a pointer on. -/
def cellsAt (s : St) : AV → Option (List AV)
  | .mp id el off => match eget s.heap id with
    | some (.cells _ elems) => match elems[el]? with
      | some e => some (e.cells.drop off)
      | none => none
    | _ => none
  | .ip cells => some cells
  | _ => none

def readT (P : Program) (t : TypeId) (cs : List AV) : Option AV :=
  match aggT P t with
  | some true => match sizeT P t with
    | some n => if n ≤ cs.length then some (.agg (cs.take n)) else none
    | none => none
  | some false => match cs with
    | x :: _ => some x
    | [] => none
  | none => none

def aLoad (P : Program) (t : TypeId) (p : AV) (s : St) : Option AV :=
  match cellsAt s p with
  | some cs => readT P t cs
  | none => none

def splice (cs : List AV) (off : Nat) (new : List AV) : List AV := cs.take off ++ (new ++ cs.drop (off + new.length))

def reElem (e : AV) (cs : List AV) : AV := match e with
  | .agg _ => .agg cs
  | _ => match cs with
    | x :: _ => x
    | [] => .any

def aStore (P : Program) (t : TypeId) (p v : AV) (s : St) : Option St :=
  match p with
  | .mp id el off => match eget s.heap id with
    | some (.cells esz elems) => match elems[el]? with
      | some e => if sizeT P t = some v.cells.length ∧ off + v.cells.length ≤ e.cells.length ∧ v.cells.all AV.scalar = true then
          some ⟨eset s.heap id (.cells esz (elems.set el (reElem e (splice e.cells off v.cells)))), s.cnt⟩
        else none
      | none => none
    | _ => none
  | _ => none

/-- A new variable. -/
def aNew (v : AV) (s : St) : Option (AV × St) :=
  if 0 < v.cells.length ∧ v.cells.all AV.scalar = true then some (.mp s.cnt 0 0, ⟨(s.cnt, .cells v.cells.length [v]) :: s.heap, s.cnt + 1⟩) else none

def aField (P : Program) (t : TypeId) (p : AV) (i : Nat) : Option AV :=
  match fieldT P t i with
  | some (off, n) => if n = 0 then none else match p with
    | .mp id el o => some (.mp id el (o + off))
    | .ip cells => some (.ip (cells.drop off))
    | _ => none
  | none => none

def aPart (P : Program) (t : TypeId) (x : AV) (off : Nat) : Option AV := match x with
  | .agg cs => readT P t (cs.drop off)
  | _ => none

def aFieldV (P : Program) (t : TypeId) (x : AV) (i : Nat) : Option AV :=
  match fieldT P t i, ftypeT P t i with
  | some (off, _), some ft => aPart P ft x off
  | _, _ => none

def aIndexAddr (P : Program) (t : TypeId) (x : AV) (i : AV) (s : St) : Option AV :=
  match i with
  | .int _ n => match elemT P t with
    | some e => match x with
      | .sl _ elems => if 0 ≤ n then match elems[n.toNat]? with
          | some y => if sizeT P e = some y.cells.length then some (.ip y.cells) else none
          | none => none
        else none
      | .ms id start len => match eget s.heap id with
        | some (.cells esz _) => if 0 ≤ n ∧ n < len ∧ sizeT P e = some esz then some (.mp id (start + n.toNat) 0) else none
        | _ => none
      | _ => none
    | none => match arrT P t with
      | some (m, e) => match sizeT P e with
        | some sz => if 0 ≤ n ∧ n < m then match x with
            | .mp id el off => some (.mp id el (off + n.toNat * sz))
            | .ip cells => some (.ip (cells.drop (n.toNat * sz)))
            | _ => none
          else none
        | none => none
      | none => none
  | _ => none

def aIndex (P : Program) (t : TypeId) (x : AV) (i : AV) : Option AV :=
  match i with
  | .int _ n => match x with
    | .str b => if strT P t = true ∧ 0 ≤ n then match b[n.toNat]? with
        | some c => some (.int .u8 c.toNat)
        | none => none
      else none
    | .agg cs => match arrT P t with
      | some (m, e) => match sizeT P e with
        | some sz => if 0 ≤ n ∧ n < m then readT P e (cs.drop (n.toNat * sz)) else none
        | none => none
      | none => none
    | _ => none
  | _ => none

/-- A bound of a slice: a number, or what stands for it. -/
def aBound (env : Env) (x : Option Operand) (d : Nat) : Option Nat := match x with
  | none => some d
  | some o => match oper env o with
    | some (.int _ n) => if 0 ≤ n then some n.toNat else none
    | _ => none

def aSlice (P : Program) (t : TypeId) (x : AV) (env : Env) (lo hi mx : Option Operand) (s : St) : Option AV :=
  match x with
  | .str b => if strT P t = true ∧ mx.isNone = true then match aBound env lo 0, aBound env hi b.size with
      | some l, some h => if l ≤ h ∧ h ≤ b.size then some (.str (b.extract l h)) else none
      | _, _ => none
    else none
  | .sl full elems => match elemT P t with
    | some e => match aBound env lo 0, aBound env hi elems.length, mx with
      | some l, some h, none => if l ≤ h ∧ h ≤ elems.length ∧ (∀ y ∈ elems.head?, sizeT P e = some y.cells.length) ∧ (sizeT P e).isSome = true then
          some (.sl (full && h == elems.length) ((elems.take h).drop l)) else none
      | some l, some h, some m => match aBound env (some m) 0 with
        | some m => if l ≤ h ∧ h ≤ m ∧ m ≤ elems.length ∧ hi.isSome = true ∧ (∀ y ∈ elems.head?, sizeT P e = some y.cells.length) ∧ (sizeT P e).isSome = true then
            some (.sl (m == h) ((elems.take h).drop l)) else none
        | none => none
      | _, _, _ => none
    | none => none
  | .ms id start len => match elemT P t with
    | some e => match eget s.heap id with
      | some (.cells esz _) => match aBound env lo 0, aBound env hi len, mx with
        | some l, some h, none => if l ≤ h ∧ h ≤ len ∧ sizeT P e = some esz then some (.ms id (start + l) (h - l)) else none
        | some l, some h, some m => match aBound env (some m) 0 with
          | some m => if l ≤ h ∧ h ≤ m ∧ m ≤ len ∧ hi.isSome = true ∧ sizeT P e = some esz then some (.ms id (start + l) (h - l)) else none
          | none => none
        | _, _, _ => none
      | _ => none
    | none => none
  | .mc id start len cap => match elemT P t with
    | some e => match eget s.heap id with
      | some (.cells esz _) => match aBound env lo 0, aBound env hi len, mx with
        | some l, some h, none => if l ≤ h ∧ h ≤ cap ∧ sizeT P e = some esz then some (.mc id (start + l) (h - l) (cap - l)) else none
        | _, _, _ => none
      | _ => none
    | none => none
  | _ => none

/-- The elements of a slice. -/
def elemsOf (x : AV) (s : St) : Option (List AV) := match x with
  | .sl _ elems => some elems
  | .ms id start len => match eget s.heap id with
    | some (.cells _ elems) => if start + len ≤ elems.length then some ((elems.drop start).take len) else none
    | _ => none
  | _ => none

def fits (P : Program) (e : TypeId) (l : List AV) : Prop := ∀ y ∈ l.head?, sizeT P e = some y.cells.length

instance (P : Program) (e : TypeId) (l : List AV) : Decidable (fits P e l) := by unfold fits; exact inferInstance

/-- Lists of the slices that are read must have elements of the type's size: of the others it is known. -/
def fitsV (P : Program) (e : TypeId) (x : AV) (s : St) : Prop := match x with
  | .sl _ elems => fits P e elems
  | .ms id _ _ => match eget s.heap id with
    | some (.cells esz _) => sizeT P e = some esz
    | _ => False
  | _ => False

instance (P : Program) (e : TypeId) (x : AV) (s : St) : Decidable (fitsV P e x s) := by
  unfold fitsV; split
  · exact inferInstance
  · split <;> exact inferInstance
  · exact inferInstance

def maxElems : Nat := 4294967296

/-- The zero value of a type has its size. -/
def zeroOk (P : Program) (e : TypeId) (sz : Nat) : Bool := match zeroT P e with
  | some z => z.cells.length == sz && z.cells.all AV.scalar
  | none => false

def aAppend (P : Program) (t : TypeId) (x : AV) (new : List AV) (s : St) : Option (AV × St) :=
  match elemT P t with
  | some e => match sizeT P e, bytesT P e with
    | some sz, some by_ => if 0 < sz ∧ by_ ≤ 4096 ∧ zeroOk P e sz = true then
        match x with
        | .sl full elems => if new = [] then some (.sl full elems, s) else
          if full = true ∧ elems.length + new.length ≤ maxElems ∧ fits P e elems then
            some (.ms s.cnt 0 (elems.length + new.length), ⟨(s.cnt, .cells sz (elems ++ new)) :: s.heap, s.cnt + 1⟩) else none
        | .ms id start len => if new = [] then some (.ms id start len, s) else
          match eget s.heap id with
          | some (.cells esz elems) => if esz = sz ∧ start + len ≤ elems.length ∧ len + new.length ≤ maxElems then
              some (.ms s.cnt 0 (len + new.length), ⟨(s.cnt, .cells sz ((elems.drop start).take len ++ new)) :: edel s.heap id, s.cnt + 1⟩) else none
          | _ => none
        | .mc id start len cap => match eget s.heap id with
          | some (.cells esz elems) => if new ≠ [] ∧ esz = sz ∧ start + len ≤ elems.length ∧ cap < len + new.length ∧ len + new.length ≤ maxElems then
              some (.ms s.cnt 0 (len + new.length), ⟨(s.cnt, .cells sz ((elems.drop start).take len ++ new)) :: s.heap, s.cnt + 1⟩) else none
          | _ => none
        | _ => none
      else none
    | _, _ => none
  | none => none

def aCopy (P : Program) (t : TypeId) (x : AV) (new : List AV) (s : St) : Option (AV × St) :=
  match elemT P t with
  | some e => match x with
    | .ms id start len => match eget s.heap id with
      | some (.cells esz elems) => if sizeT P e = some esz ∧ start + len ≤ elems.length then
          let n := min new.length len
          some (.int .i64 n, ⟨eset s.heap id (.cells esz (elems.take start ++ (new.take n ++ elems.drop (start + n)))), s.cnt⟩) else none
      | _ => none
    | .mc id start len _ => match eget s.heap id with
      | some (.cells esz elems) => if sizeT P e = some esz ∧ start ≤ elems.length then
          let n := min new.length len
          some (.int .i64 n, ⟨eset s.heap id (.cells esz (elems.take start ++ (new.take n ++ elems.drop (start + n)))), s.cnt⟩) else none
      | _ => none
    | .sl _ elems => if min new.length elems.length = 0 ∧ (sizeT P e).isSome = true then some (.int .i64 0, s) else none
    | _ => none
  | none => none

/-- The length of a slice. -/
def lenS : AV → Option Nat
  | .sl _ l => some l.length
  | .ms _ _ n => some n
  | .mc _ _ n _ => some n
  | _ => none

/-- A copy out of a slice whose capacity is known: as many elements as there is place for. -/
def aCopyM (P : Program) (t : TypeId) (x : AV) (id start len : Nat) (s : St) : Option (AV × St) :=
  match elemT P t, eget s.heap id, lenS x with
  | some e, some (.cells esz elems), some n => if sizeT P e = some esz ∧ start + min len n ≤ elems.length then aCopy P t x ((elems.drop start).take (min len n)) s else none
  | _, _, _ => none

def aCap (P : Program) (t : TypeId) (x : AV) : Option AV := match x with
  | .mc _ _ _ cap => if (elemT P t).isSome = true then some (.int .i64 cap) else none
  | .sl true elems => if (elemT P t).isSome = true then some (.int .i64 elems.length) else none
  | _ => none

def aClear (P : Program) (t : TypeId) (x : AV) (s : St) : Option (AV × St) := match elemT P t, x with
  | some e, .ms id start len => match eget s.heap id, zeroT P e with
    | some (.cells esz elems), some z => if sizeT P e = some esz ∧ z.cells.length = esz ∧ z.cells.all AV.scalar = true ∧ start + len ≤ elems.length then
        some (.tup [], ⟨eset s.heap id (.cells esz (elems.take start ++ (List.replicate len z ++ elems.drop (start + len)))), s.cnt⟩) else none
    | _, _ => none
  | _, _ => none

def aLen (P : Program) (t : TypeId) (x : AV) : Option AV := match x with
  | .mc _ _ len _ => if (elemT P t).isSome = true then some (.int .i64 len) else none
  | .sl _ elems => if (elemT P t).isSome = true then some (.int .i64 elems.length) else none
  | .ms _ _ len => if (elemT P t).isSome = true then some (.int .i64 len) else none
  | .str b => if strT P t = true then some (.int .i64 b.size) else none
  | _ => match arrT P t with
    | some (n, _) => some (.int .i64 n)
    | none => none

def aMake (P : Program) (t : TypeId) (l c : AV) (s : St) : Option (AV × St) :=
  match l, c, elemT P t with
  | .int _ n, .int _ m, some e => match sizeT P e, bytesT P e, zeroT P e with
    | some sz, some by_, some z => if 0 ≤ n ∧ n ≤ m ∧ m ≤ maxElems ∧ 0 < sz ∧ z.cells.length = sz ∧ z.cells.all AV.scalar = true ∧ by_ ≤ 4096 then
        some (.ms s.cnt 0 n.toNat, ⟨(s.cnt, .cells sz (List.replicate n.toNat z)) :: s.heap, s.cnt + 1⟩) else none
    | _, _, _ => none
  | _, _, _ => none

def aInt (op : BinOp) (k : IntKind) (x y : Int) : Option AV := match op with
  | .add => some (.int k (k.wrap (x + y)))
  | .sub => some (.int k (k.wrap (x - y)))
  | .mul => some (.int k (k.wrap (x * y)))
  | .quo => if y = 0 then none else some (.int k (k.wrap (x.tdiv y)))
  | .rem => if y = 0 then none else some (.int k (x.tmod y))
  | .eql => some (.bool (decide (x = y)))
  | .neq => some (.bool (decide (x ≠ y)))
  | .lss => some (.bool (decide (x < y)))
  | .leq => some (.bool (decide (x ≤ y)))
  | .gtr => some (.bool (decide (y < x)))
  | .geq => some (.bool (decide (y ≤ x)))
  | .shl => if y < 0 then none else some (.int k (k.wrap (x * 2 ^ (min y.toNat k.bits))))
  | .shr => if y < 0 then none else some (.int k (x.fdiv (2 ^ (min y.toNat k.bits))))
  | .and | .or | .xor | .andNot => none

/-- Two parts of structs, or more. -/
def aEqFields (P : Program) (eq : TypeId → AV → AV → Option Bool) (xs ys : List AV) : List Field → Option Bool
  | [] => some true
  | f :: fs => if f.name = "_" then none else
    match readT P f.type (xs.drop f.offset), readT P f.type (ys.drop f.offset) with
    | some a, some b => match eq f.type a b, aEqFields P eq xs ys fs with
      | some r, some r' => some (r && r')
      | _, _ => none
    | _, _ => none

def aEq (P : Program) : Nat → TypeId → AV → AV → Option Bool
  | 0, _, _, _ => none
  | d + 1, t, x, y =>
    match P.underlying t, x, y with
    | some .bool, .bool a, .bool b => some (a == b)
    | some (.int _), .int k a, .int k' b => if k = k' then some (decide (a = b)) else none
    | some .string, .str a, .str b => some (a.toList == b.toList)
    | some (.pointer _), .nilp, .nilp => some true
    | some (.pointer _), .nilp, .mp _ _ _ => some false
    | some (.pointer _), .mp _ _ _, .nilp => some false
    | some (.func _ _ _), .nilf, .nilf => some true
    | some (.func _ _ _), .nilf, .fn _ _ => some false
    | some (.func _ _ _), .fn _ _, .nilf => some false
    | some (.struct fs), .agg xs, .agg ys => if P.stoodInHeld t = true then none else aEqFields P (aEq P d) xs ys fs.toList
    | _, _, _ => none

def AV.isInt : AV → Bool
  | .int _ _ => true
  | _ => false

def aBin (P : Program) (op : BinOp) (t : TypeId) (x y : AV) : Option AV :=
  match x, y with
  | .int k a, .int k' b => match op with
    | .shl | .shr => aInt op k a b
    | _ => if k = k' then aInt op k a b else none
  | .str a, .str b => match op with
    | .add => if a.size + b.size ≤ maxLen then some (.str (a ++ b)) else none
    | .eql => some (.bool (a.toList == b.toList))
    | .neq => some (.bool !(a.toList == b.toList))
    | .lss => some (.bool (Op.bytesLess a.toList b.toList))
    | .geq => some (.bool !(Op.bytesLess a.toList b.toList))
    | .leq => some (.bool (Op.bytesLess a.toList b.toList || a.toList == b.toList))
    | .gtr => some (.bool !(Op.bytesLess a.toList b.toList || a.toList == b.toList))
    | _ => none
  | x, y => if P.eqGuardType P.depth t = true then none else match op with
    | .eql => match aEq P 8 t x y with
      | some b => some (.bool b)
      | none => none
    | .neq => match aEq P 8 t x y with
      | some b => some (.bool !b)
      | none => none
    | _ => none

def aUn (op : UnOp) (x : AV) : Option AV := match op, x with
  | .not, .bool b => some (.bool !b)
  | .neg, .int k n => some (.int k (k.wrap (0 - n)))
  | _, _ => none

def aConvert (P : Program) (src dst : TypeId) (x : AV) : Option AV := match x with
  | .int _ n => if (P.underlying src).isSome = true then match intT P dst with
      | some k => some (.int k (k.wrap n))
      | none => none
    else none
  | .str b => if (P.underlying src).isSome = true ∧ strT P dst = true then some (.str b) else none
  | _ => none

/-- The parts of a struct laid into its zero value. -/
def aFill (place : Nat → Option (Nat × Nat)) (cells : List AV) : List (Nat × AV) → Option (List AV)
  | [] => some cells
  | (i, v) :: r => match place i with
    | some (off, n) => if v.cells.length = n ∧ v.cells.all AV.scalar = true ∧ off + n ≤ cells.length then aFill place (splice cells off v.cells) r else none
    | none => none

def aParts (env : Env) : List (Nat × Operand) → Option (List (Nat × AV))
  | [] => some []
  | (i, x) :: r => match oper env x, aParts env r with
    | some v, some l => some ((i, v) :: l)
    | _, _ => none

def aBuild (P : Program) (t : TypeId) (parts : List (Nat × AV)) : Option AV :=
  match zeroT P t with
  | some (.agg cs) => if structT P t = true then match aFill (fieldT P t) cs parts with
      | some l => some (.agg l)
      | none => none
    else match arrT P t with
    | some (_, e) => match sizeT P e with
      | some sz => match aFill (fun i => some (i * sz, sz)) cs parts with
        | some l => some (.agg l)
        | none => none
      | none => none
    | none => none
  | _ => none

def numbered (l : List (Nat × AV)) (i : Nat) : Bool := match l with
  | [] => true
  | (j, _) :: r => j == i && numbered r (i + 1)

def aBuildSlice (P : Program) (t : TypeId) (len : Nat) (parts : List (Nat × AV)) : Option AV :=
  match elemT P t with
  | some e => match sizeT P e, zeroT P e with
    | some sz, some z => if parts.length = len ∧ numbered parts 0 = true ∧ (∀ p ∈ parts, p.2.cells.length = sz ∧ p.2.cells.all AV.scalar = true) ∧ len * sz ≤ 16777216 ∧ 0 < sz ∧ z.cells.length = sz then
        some (.sl true (parts.map (·.2))) else none
    | _, _ => none
  | none => none

def aMin : AV → AV → Option AV
  | .int k x, .int k' y => if k = k' then some (.int k (if y < x then y else x)) else none
  | _, _ => none
def aMax : AV → AV → Option AV
  | .int k x, .int k' y => if k = k' then some (.int k (if x < y then y else x)) else none
  | _, _ => none
def aFold (f : AV → AV → Option AV) : AV → List AV → Option AV
  | x, [] => some x
  | x, y :: r => match f x y with
    | some z => aFold f z r
    | none => none

def ekeep (v : Option AV) (s : St) : Option (AV × St) := match v with
  | some v => some (v, s)
  | none => none

/-- What an operation that is no call of a Go function does. -/
def aop (P : Program) (op : Op) (env : Env) (s : St) : Option (AV × St) :=
  match op with
  | .move x | .assign x => ekeep (oper env x) s
  | .pick c a b => match oper env c with
    | some (.bool t) => if t then ekeep (oper env a) s else ekeep (oper env b) s
    | _ => none
  | .alloc t => match zeroT P t with
    | some z => aNew z s
    | none => none
  | .box _ x => match oper env x with
    | some v => aNew v s
    | none => none
  | .build t parts => match aParts env parts.toList with
    | some l => ekeep (aBuild P t l) s
    | none => none
  | .buildSlice t len parts => match aParts env parts.toList with
    | some l => ekeep (aBuildSlice P t len l) s
    | none => none
  | .load t p => match oper env p with
    | some p => ekeep (aLoad P t p s) s
    | none => none
  | .store t p x => match oper env p, oper env x with
    | some p, some x => match aStore P t p x s with
      | some s' => some (.any, s')
      | none => none
    | _, _ => none
  | .nilCheck x => match oper env x with
    | some (.mp id el off) => some (.mp id el off, s)
    | some (.ip cells) => some (.ip cells, s)
    | some (.fn f caps) => some (.fn f caps, s)
    | _ => none
  | .binOp op t x y _ => match oper env x, oper env y with
    | some x, some y => ekeep (aBin P op t x y) s
    | _, _ => none
  | .unOp op _ x => match oper env x with
    | some x => ekeep (aUn op x) s
    | none => none
  | .convert src dst x => match oper env x with
    | some x => ekeep (aConvert P src dst x) s
    | none => none
  | .makeFunc (.func f) first caps => if first.size = 0 then match opers env caps.toList with
      | some l => some (.fn f l, s)
      | none => none
    else none
  | .slice t x lo hi mx => match oper env x with
    | some x => ekeep (aSlice P t x env lo hi mx s) s
    | none => none
  | .fieldAddr t x i => match oper env x with
    | some x => ekeep (aField P t x i) s
    | none => none
  | .field t x i => match oper env x with
    | some x => ekeep (aFieldV P t x i) s
    | none => none
  | .indexAddr t x i => match oper env x, oper env i with
    | some x, some i => ekeep (aIndexAddr P t x i s) s
    | _, _ => none
  | .index t x i => match oper env x, oper env i with
    | some x, some i => ekeep (aIndex P t x i) s
    | _, _ => none
  | .extract x i => match oper env x with
    | some (.tup vs) => ekeep vs[i]? s
    | _ => none
  | .makeSlice t l c => match oper env l, oper env c with
    | some l, some c => aMake P t l c s
    | _, _ => none
  | .call c => match c.callee with
    | .builtin .len => match opers env c.args.toList, c.argTypes[0]? with
      | some [x], some t => ekeep (aLen P t x) s
      | _, _ => none
    | .builtin .append => match opers env c.args.toList, c.argTypes[0]?, c.argTypes[1]? with
      | some [x, y], some t, some u => match y with
        | .int _ n => match elemT P t with
          | some e => match zeroT P e with
            | some z => if 0 ≤ n ∧ n ≤ maxElems ∧ (intT P u).isSome = true ∧ sizeT P e = some z.cells.length ∧ z.cells.all AV.scalar = true then aAppend P t x (List.replicate n.toNat z) s else none
            | none => none
          | none => none
        | y => match elemT P t, elemsOf y s with
          | some e, some new => if fitsV P e y s ∧ (elemT P u).isSome = true then aAppend P t x new s else none
          | _, _ => none
      | _, _, _ => none
    | .builtin .copy => match opers env c.args.toList, c.argTypes[0]? with
      | some [x, y], some t => match y with
        | .mc id start len _ => aCopyM P t x id start len s
        | y => match elemT P t, elemsOf y s with
          | some e, some new => if fitsV P e y s then aCopy P t x new s else none
          | _, _ => none
      | _, _ => none
    | .builtin .cap => match opers env c.args.toList, c.argTypes[0]? with
      | some [x], some t => ekeep (aCap P t x) s
      | _, _ => none
    | .builtin .clear => match opers env c.args.toList, c.argTypes[0]? with
      | some [x], some t => aClear P t x s
      | _, _ => none
    | .builtin .min => match opers env c.args.toList with
      | some (x :: r) => ekeep (aFold aMin x r) s
      | _ => none
    | .builtin .max => match opers env c.args.toList with
      | some (x :: r) => ekeep (aFold aMax x r) s
      | _ => none
    | _ => none
  | _ => none

end Go.Am
