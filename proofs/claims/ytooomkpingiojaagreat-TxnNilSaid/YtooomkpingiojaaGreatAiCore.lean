/- An abstract interpreter over a compact form of the model's code: values, operations, and what a piece of code comes to ('W'). Nothing of worlds stands here. -/
import Derived.WalkKit
namespace Go.Ai
set_option linter.unusedVariables false

/-- Abstract values. 'ptr', 'sl': into blocks that the run owns (by abstract number). 'rp', 'rs': into memory that nobody writes any more, with what lies there. -/
inductive AV where
  | v (x : Value)
  | str (l : List UInt8)
  | ptr (r i off : Nat)
  | rp (cells : List AV)
  | sl (r sz i len : Nat) (cap : Option Nat)
  | rs (nil : Bool) (sz : Nat) (es : List (List AV)) (cap : Option Nat)
  | agg (cells : List AV)
  | tup (vs : List AV)
  | fn (f : Fn) (first cap : List AV)
  | ifc (t : TypeId) (x : AV)
  | ty (t : TypeId) (k : Nat)
  | mp (r : Nat)
  /-- k = 0: a walk over a map's entries ('q': the walk; at q + 1 the map is kept meanwhile; 'r': the map); k = i + 1: the stamp of a map's entry i (the map 'r' is kept at 'q' meanwhile). -/
  | tk (k q r : Nat)

instance : Inhabited AV := ⟨.v undef⟩

abbrev AV.int (k : IntKind) (n : Int) : AV := .v (.int k n)
abbrev AV.bool (b : Bool) : AV := .v (.bool b)

abbrev Blk := List (List AV)
abbrev Heap := Nat → Option Blk
def hupd (h : Heap) (r : Nat) (b : Option Blk) : Heap := fun x => if x = r then b else h x
def hnil : Heap := fun _ => none
def tupd (f : Nat → AV) (t : Nat) (v : AV) : Nat → AV := fun x => if x = t then v else f x

def AV.cells : AV → List AV
  | .agg cs => cs
  | x => [x]

/-- May it stand in one cell? -/
def AV.one : AV → Bool
  | .agg _ | .tup _ | .v (.agg _) | .v (.tuple _) | .ty .. => false
  | _ => true

mutual
/-- No part of it leads into an owned block. -/
def AV.closed : AV → Bool
  | .v _ | .str _ => true
  | .ptr .. | .sl .. | .ty .. | .mp .. | .tk .. => false
  | .rp cs => closedL cs
  | .rs _ _ es _ => closedLL es
  | .agg cs => closedL cs
  | .tup cs => closedL cs
  | .fn _ a b => closedL a && closedL b
  | .ifc _ x => x.closed
def closedL : List AV → Bool
  | [] => true
  | x :: r => x.closed && closedL r
def closedLL : List (List AV) → Bool
  | [] => true
  | x :: r => closedL x && closedLL r
end

/-- A constant as an abstract value. -/
def ofV1 : Value → AV
  | .string b => .str b.data.toList
  | .slice none 0 0 => .rs true 0 [] (some 0)
  | .func f a b => if a.size = 0 && b.size = 0 then .fn f [] [] else .v (.func f a b)
  | x => .v x
def ofV : Value → AV
  | .agg cs => .agg (cs.toList.map ofV1)
  | x => ofV1 x

inductive Opd where
  | t (n : Nat)
  | c (x : AV)

/-- Kinds of cells that are compared. -/
inductive LK where
  | i | s | b

inductive COp where
  | mov (x : Opd)
  | pick (c a b : Opd)
  | alloc (zero : List AV)
  | box (x : Opd)
  | build (zero : List AV) (parts : List (Nat × Nat × Opd))
  | bslice (own : Bool) (sz : Nat) (zero : List (List AV)) (parts : List (Nat × Opd))
  | load (n : Option Nat) (x : Opd)
  | store (n : Nat) (x y : Opd)
  | nilck (x : Opd)
  | bin (op : BinOp) (x y : Opd)
  | eqb (op : BinOp) (x y : Opd)
  | eqn (op : BinOp) (x y : Opd)
  | eqs (neg : Bool) (ks : List LK) (x y : Opd)
  | un (op : UnOp) (x : Opd)
  | conv (k : IntKind) (x : Opd)
  | cstr (x : Opd)
  | s2b (x : Opd)
  | b2s (x : Opd)
  | r2s (x : Opd)
  | sslice (x : Opd) (lo hi : Option Opd)
  | slice (n : Nat) (x : Opd) (lo hi mx : Option Opd)
  | iaddr (n : Nat) (x i : Opd)
  | idx (x i : Opd)
  | fieldA (off : Nat) (x : Opd)
  | field (off : Nat) (n : Option Nat) (x : Opd)
  | ext (x : Opd) (i : Nat)
  | mkif (t : TypeId) (x : Opd)
  | mkfn (f : Fn) (first cap : List Opd)
  | slen (x : Opd)
  | len (x : Opd)
  | cap (x : Opd)
  | min (x y : Opd)
  | max (x y : Opd)
  | append (sz bytes : Nat) (s x : Opd)
  | appz (sz bytes : Nat) (zero : List AV) (s x : Opd)
  | copy (sz : Nat) (d s : Opd)
  | clear (sz : Nat) (zero : List AV) (x : Opd)
  | mkmap
  | mlook (lk : LK) (zero : AV) (ok : Bool) (m k : Opd)
  | mset (lk : LK) (m k v : Opd)
  | mlen (m : Opd)
  | mrange (m : Opd)
  | mnext (x : Opd)
  | mentr (x : Opd)
  | mdel (lk : LK) (m k : Opd)
  | mentry (lk : LK) (zero : AV) (m k : Opd)
  | mestore (m s v : Opd)
  | mkslice (sz bytes : Nat) (zero : List AV) (len cap : Opd)
  | call (f : Nat) (args : List Opd)
  | callv (g : Opd) (args : List Opd)
  | halt
  | talloc (t : TypeId) (zero : List AV)
  | tlit (t : TypeId) (sz : Nat) (zero : List (List AV)) (parts : List (Nat × Opd))
  | tou (x : Opd)
  | ofu (t : TypeId) (k : Nat) (x : Opd)
  | eqp (op : BinOp) (x y : Opd)
  | tapp (t : TypeId) (s x : Opd)
  | sdata (x : Opd)
  | ustr (t : TypeId) (x n : Opd)

structure COper where
  dst : Option Nat
  op : COp
  guard : Option (Nat × Bool)

inductive CCode where
  | skip
  | region (ops : List COper)
  | draw (pre : List (List Nat)) (ops : List COper)
  | seq (a b : CCode)
  | cond (c : Opd) (a b : CCode)
  | block (id : Nat) (a : CCode)
  | loop (a : CCode)
  | exit (id : Nat)
  | ret

inductive RV where
  | t (n : Nat)
  | cell (a : Nat) (n : Option Nat)

structure CFunc where
  np : Nat
  nt : Nat
  body : CCode
  res : List RV

structure St where
  tm : Nat → AV
  hp : Heap
  nx : Nat

def ev (tm : Nat → AV) : Opd → AV
  | .t n => tm n
  | .c x => x

def evo (tm : Nat → AV) : Option Opd → Option AV
  | some x => some (ev tm x)
  | none => none

/-! ### Pure operations -/

def intA (op : BinOp) (k : IntKind) (a b : Int) : Option AV :=
  match op with
  | .add => some (.int k (k.wrap (a + b)))
  | .sub => some (.int k (k.wrap (a - b)))
  | .mul => some (.int k (k.wrap (a * b)))
  | .quo => if b = 0 then none else some (.int k (k.wrap (a.tdiv b)))
  | .rem => if b = 0 then none else some (.int k (a.tmod b))
  | .and => some (.int k (k.wrap (BitVec.ofInt k.bits a &&& BitVec.ofInt k.bits b).toNat))
  | .or => some (.int k (k.wrap (BitVec.ofInt k.bits a ||| BitVec.ofInt k.bits b).toNat))
  | .xor => some (.int k (k.wrap (BitVec.ofInt k.bits a ^^^ BitVec.ofInt k.bits b).toNat))
  | .andNot => some (.int k (k.wrap (BitVec.ofInt k.bits a &&& ~~~ BitVec.ofInt k.bits b).toNat))
  | .eql => some (.bool (decide (a = b)))
  | .neq => some (.bool (!decide (a = b)))
  | .lss => some (.bool (decide (a < b)))
  | .leq => some (.bool (decide (a ≤ b)))
  | .gtr => some (.bool (decide (a > b)))
  | .geq => some (.bool (decide (a ≥ b)))
  | _ => none

def shA (op : BinOp) (k : IntKind) (a b : Int) : Option AV :=
  if b < 0 then none else
  match op with
  | .shl => some (.int k (k.wrap (a * 2 ^ (Nat.min b.toNat k.bits))))
  | .shr => some (.int k (a.fdiv (2 ^ (Nat.min b.toNat k.bits))))
  | _ => none

/-- Go's order of texts. -/
def strLt : List UInt8 → List UInt8 → Bool
  | _, [] => false
  | [], _ :: _ => true
  | a :: x, b :: y => a < b || (a == b && strLt x y)

def strA (op : BinOp) (x y : List UInt8) : Option AV :=
  match op with
  | .add => if x.length + y.length ≤ 9223372036854775807 then some (.str (x ++ y)) else none
  | .eql => some (.bool (decide (x = y)))
  | .neq => some (.bool (!decide (x = y)))
  | .lss => some (.bool (strLt x y))
  | .leq => some (.bool (strLt x y || decide (x = y)))
  | .gtr => some (.bool (!(strLt x y || decide (x = y))))
  | .geq => some (.bool (!strLt x y))
  | _ => none

def eqA (op : BinOp) (b : Bool) : Option AV :=
  match op with
  | .eql => some (.bool b)
  | .neq => some (.bool (!b))
  | _ => none

def binA (op : BinOp) (x y : AV) : Option AV :=
  match x, y with
  | .v (.int k a), .v (.int k' b) =>
    match op with
    | .shl => shA .shl k a b
    | .shr => shA .shr k a b
    | op => if k = k' then intA op k a b else none
  | .str a, .str b => strA op a b
  | _, _ => none

/-- Are two cells the same (whole numbers of one kind, texts, bools)? -/
def eqCell : LK → AV → AV → Option Bool
  | .i, .v (.int k a), .v (.int k' b) => if k = k' then some (decide (a = b)) else none
  | .s, .str a, .str b => some (decide (a = b))
  | .b, .v (.bool a), .v (.bool b) => some (a == b)
  | _, _, _ => none

/-- Where a key stands in a map, with what stands there. -/
def findM (lk : LK) (k : AV) : Blk → Option (Option (Nat × AV))
  | [] => some none
  | [k', v] :: r => match eqCell lk k k' with
    | some true => some (some (0, v))
    | some false => match findM lk k r with
      | some (some (i, x)) => some (some (i + 1, x))
      | some none => some none
      | none => none
    | none => none
  | _ :: _ => none
/-- May it be a key? -/
def keyA : LK → AV → Bool
  | .i, .v (.int _ _) => true
  | .s, .str _ => true
  | .b, .v (.bool _) => true
  | _, _ => false

def eqCells : List LK → List AV → List AV → Option Bool
  | [], [], [] => some true
  | k :: ks, a :: x, b :: y => match eqCell k a b, eqCells ks x y with
    | some p, some q => some (p && q)
    | _, _ => none
  | _, _, _ => none

def unA (op : UnOp) (x : AV) : Option AV :=
  match op, x with
  | .neg, .v (.int k n) => some (.int k (k.wrap (0 - n)))
  | .not, .v (.bool b) => some (.bool (!b))
  | _, _ => none

def spliceL {α : Type} (l : List α) (off : Nat) (new : List α) : List α := l.take off ++ new ++ l.drop (off + new.length)

def fillA (zero : List AV) : List (Nat × Nat × AV) → Option (List AV)
  | [] => some zero
  | (off, n, x) :: r => if x.cells.length = n ∧ off + n ≤ zero.length ∧ x.cells.all AV.one = true then fillA (spliceL zero off x.cells) r else none

def fillS (sz : Nat) (zero : List (List AV)) : List (Nat × AV) → Option (List (List AV))
  | [] => some zero
  | (i, x) :: r => if x.cells.length = sz ∧ i < zero.length ∧ x.cells.all AV.one = true then fillS sz (zero.set i x.cells) r else none

/-- A part of cells: a cell, or an aggregate of n. -/
def partA (cells : List AV) (off : Nat) : Option Nat → Option AV
  | none => cells[off]?
  | some n => if off + n ≤ cells.length then some (.agg ((cells.drop off).take n)) else none

def idxOf : AV → Option Int
  | .v (.int _ n) => some n
  | _ => none

/-- The three bounds of a cut: low, high, and where a capacity ends ('top': up to where the high one may reach). -/
def boundsA (len top : Nat) (lo hi mx : Option AV) : Option (Nat × Nat × Option Nat) :=
  let m : Option (Option Nat) := match mx with
    | none => some none
    | some x => match idxOf x with
      | some i => if 0 ≤ i ∧ i ≤ top then some (some i.toNat) else none
      | none => none
  match m with
  | none => none
  | some m =>
    let h : Option Nat := match hi with
      | none => if m.isSome then none else some len
      | some x => match idxOf x with
        | some i => if 0 ≤ i ∧ i ≤ (m.getD top : Nat) then some i.toNat else none
        | none => none
    match h with
    | none => none
    | some h =>
      let l : Option Nat := match lo with
        | none => some 0
        | some x => match idxOf x with
          | some i => if 0 ≤ i ∧ i ≤ h then some i.toNat else none
          | none => none
      match l with
      | none => none
      | some l => some (l, h, m)

/-- The capacity behind a cut. -/
def capCut (m : Option Nat) (l : Nat) (cap : Option Nat) : Option Nat :=
  match m with
  | some m => some (m - l)
  | none => cap.map (· - l)

def sliceA (n : Nat) (x : AV) (lo hi mx : Option AV) : Option AV :=
  match x with
  | .sl r sz i len cap => if sz = n then
      match boundsA len (cap.getD len) lo hi mx with
      | some (l, h, m) => some (.sl r sz (i + l) (h - l) (capCut m l cap))
      | none => none
    else none
  | .rs nil sz es cap => if nil = true ∨ sz = n then
      match boundsA es.length es.length lo hi mx with
      | some (l, h, m) => some (.rs nil sz ((es.take h).drop l) (capCut m l cap))
      | none => none
    else none
  | _ => none

def sliceStr (x : AV) (lo hi : Option AV) : Option AV :=
  match x with
  | .str s => match boundsA s.length s.length lo hi none with
    | some (l, h, _) => some (.str ((s.take h).drop l))
    | none => none
  | _ => none

def bytesOf (l : List UInt8) : Blk := l.map fun b => [.v (.int .u8 b.toNat)]

def byteCell : List AV → Option UInt8
  | [.v (.int .u8 n)] => some (UInt8.ofNat n.toNat)
  | _ => none
def toBytes : Blk → Option (List UInt8)
  | [] => some []
  | c :: r => match byteCell c, toBytes r with
    | some b, some l => some (b :: l)
    | _, _ => none

/-- Bytes, just as they are laid. -/
def toB8 : Blk → Option (List UInt8)
  | [] => some []
  | c :: r => match byteCell c, toB8 r with
    | some b, some l => match c with
      | [.v (.int .u8 n)] => if n = b.toNat then some (b :: l) else none
      | _ => none
    | _, _ => none

/-- Operations that look at no owned block. -/
def evP (tm : Nat → AV) : COp → Option AV
  | .mov x => some (ev tm x)
  | .pick c a b => match ev tm c with
    | .v (.bool t) => some (if t then ev tm a else ev tm b)
    | _ => none
  | .build zero parts => (fillA zero (parts.map fun p => (p.1, p.2.1, ev tm p.2.2))).map .agg
  | .bslice false sz zero parts => (fillS sz zero (parts.map fun p => (p.1, ev tm p.2))).map fun es => .rs false sz es (some es.length)
  | .load n x => match ev tm x with
    | .rp cells => partA cells 0 n
    | _ => none
  | .nilck x => match ev tm x with
    | .ptr r i o => some (.ptr r i o)
    | .rp cs => some (.rp cs)
    | .fn (.func f) a b => some (.fn (.func f) a b)
    | _ => none
  | .bin op x y => binA op (ev tm x) (ev tm y)
  | .eqb op x y => match ev tm x, ev tm y with
    | .v (.bool a), .v (.bool b) => eqA op (a == b)
    | _, _ => none
  | .eqn op x y => match ev tm x, ev tm y with
    | .rs n _ _ _, .rs true _ _ _ => eqA op n
    | .sl .., .rs true _ _ _ => eqA op false
    | _, _ => none
  | .eqs neg ks x y => match ev tm x, ev tm y with
    | .agg a, .agg b => (eqCells ks a b).map fun q => .bool (if neg then !q else q)
    | _, _ => none
  | .un op x => unA op (ev tm x)
  | .conv k x => match ev tm x with
    | .v (.int _ n) => some (.int k (k.wrap n))
    | _ => none
  | .cstr x => match ev tm x with
    | .str l => some (.str l)
    | _ => none
  | .b2s x => match ev tm x with
    | .rs nil sz es _ => if nil = true ∨ sz = 1 then (toBytes es).map .str else none
    | _ => none
  | .r2s x => match ev tm x with
    | .v (.int _ n) => some (.str (Utf8.encode n).data.toList)
    | _ => none
  | .sslice x lo hi => sliceStr (ev tm x) (evo tm lo) (evo tm hi)
  | .slice n x lo hi mx => sliceA n (ev tm x) (evo tm lo) (evo tm hi) (evo tm mx)
  | .iaddr n x i => match ev tm x, ev tm i with
    | .sl r sz j len _, .v (.int _ k) => if sz = n ∧ 0 ≤ k ∧ k < len then some (.ptr r (j + k.toNat) 0) else none
    | .rs _ sz es _, .v (.int _ k) => if sz = n ∧ 0 ≤ k then (es[k.toNat]?).map .rp else none
    | _, _ => none
  | .idx x i => match ev tm x, ev tm i with
    | .str s, .v (.int _ k) => if 0 ≤ k then (s[k.toNat]?).map fun b => .int .u8 b.toNat else none
    | _, _ => none
  | .fieldA off x => match ev tm x with
    | .ptr r i o => some (.ptr r i (o + off))
    | .rp cells => some (.rp (cells.drop off))
    | _ => none
  | .field off n x => match ev tm x with
    | .agg cs => partA cs off n
    | _ => none
  | .ext x i => match ev tm x with
    | .tup vs => vs[i]?
    | _ => none
  | .mkif t x => some (.ifc t (ev tm x))
  | .mkfn f a b => some (.fn f (a.map (ev tm)) (b.map (ev tm)))
  | .slen x => match ev tm x with
    | .str s => some (.int .i64 s.length)
    | _ => none
  | .len x => match ev tm x with
    | .sl _ _ _ len _ => some (.int .i64 len)
    | .rs _ _ es _ => some (.int .i64 es.length)
    | _ => none
  | .cap x => match ev tm x with
    | .sl _ _ _ _ (some c) => some (.int .i64 c)
    | .rs _ _ _ (some c) => some (.int .i64 c)
    | _ => none
  | .min x y => match ev tm x, ev tm y with
    | .v (.int k a), .v (.int k' b) => some (.int k (if b < a then b else a))
    | _, _ => none
  | .max x y => match ev tm x, ev tm y with
    | .v (.int k a), .v (.int k' b) => some (.int k (if b > a then b else a))
    | _, _ => none
  | .eqp op x y => match ev tm x, ev tm y with
    | .v (.pointer none), .v (.pointer none) => eqA op true
    | .ptr .., .v (.pointer none) => eqA op false
    | .rp _, .v (.pointer none) => eqA op false
    | .ptr r i o, .ptr r' i' o' => if r = r' ∧ i = i' ∧ o = o' then eqA op true else none
    | _, _ => none
  | .sdata x => match ev tm x with
    | .rs true _ _ _ => some (.v (.pointer none))
    | .sl r sz i len _ => if 0 < len ∧ sz = 1 then some (.ptr r i 0) else none
    | _ => none
  | _ => none

/-- Operations that read one owned block. -/
def evR (tm : Nat → AV) (hp : Heap) : COp → Option (AV × Nat)
  | .load n x => match ev tm x with
    | .ptr r i o => match hp r with
      | some es => match es[i]? with
        | some l => (partA l o n).map fun v => (v, r)
        | none => none
      | none => none
    | _ => none
  | .b2s x => match ev tm x with
    | .sl r sz i len _ => match hp r with
      | some es => if sz = 1 ∧ i + len ≤ es.length then (toBytes ((es.drop i).take len)).map fun l => (.str l, r) else none
      | none => none
    | _ => none
  | .tou x => match ev tm x with
    | .ptr r 0 0 => match hp r with
      | some ((_ :: _) :: _) => some (.ptr r 0 0, r)
      | _ => none
    | _ => none
  | .ofu t k x => match ev tm x with
    | .ptr q 0 0 => match hp (q + 1) with
      | some [[.ty t' k']] => if t' = t ∧ k' = k then some (.ptr q 0 0, q + 1) else none
      | _ => none
    | _ => none
  | .mlook lk zero ok m k => match ev tm m with
    | .mp r => match hp r with
      | some es => if keyA lk (ev tm k) = true then
          match findM lk (ev tm k) es with
          | some (some (_, v)) => some (if ok then .tup [v, .bool true] else v, r)
          | some none => some (if ok then .tup [zero, .bool false] else zero, r)
          | none => none
        else none
      | none => none
    | _ => none
  | .mlen m => match ev tm m with
    | .mp r => match hp r with
      | some es => some (.int .i64 es.length, r)
      | none => none
    | _ => none
  | _ => none

/-- The elements of what is appended, or copied. -/
def elemsA (hp : Heap) (sz : Nat) : AV → Option Blk
  | .rs nil z es _ => if nil = true ∨ z = sz then some es else none
  | .sl r z i len _ => if z = sz then match hp r with
      | some es => if i + len ≤ es.length then some ((es.drop i).take len) else none
      | none => none
    else none
  | .str l => if sz = 1 then some (bytesOf l) else none
  | _ => none

def appA (sz bytes : Nat) (s : AV) (new : Blk) (hp : Heap) (nx : Nat) : Option (AV × Heap × Nat) :=
  match s with
  | .rs nil z es cap => if nil = true ∨ z = sz then
      if new.length = 0 then some (.rs nil z es cap, hp, nx)
      else match cap with
        | some c => if c < es.length + new.length ∧ (es.length + new.length) * bytes ≤ 140737488355328 then
            some (.sl nx sz 0 (es.length + new.length) none, hupd hp nx (some (es ++ new)), nx + 1) else none
        | none => none
    else none
  | .sl r z i len cap => if z = sz then
      match hp r with
      | none => none
      | some es => if es.length < i + len then none else
        match cap with
        | some c =>
          if len + new.length ≤ c then
            if i + len + new.length ≤ es.length then some (.sl r sz i (len + new.length) (some c), hupd hp r (some (spliceL es (i + len) new)), nx) else none
          else if (len + new.length) * bytes ≤ 140737488355328 then
            some (.sl nx sz 0 (len + new.length) none, hupd hp nx (some ((es.drop i).take len ++ new)), nx + 1)
          else none
        | none =>
          if i + len + new.length ≤ es.length then some (.sl r sz i (len + new.length) none, hupd hp r (some (spliceL es (i + len) new)), nx)
          else if (len + new.length) * bytes ≤ 140737488355328 then
            some (.sl nx sz 0 (len + new.length) none, hupd (hupd hp r none) nx (some ((es.drop i).take len ++ new)), nx + 1)
          else none
    else none
  | _ => none

/-- An append to bytes whose block's type is told at the number behind it. -/
def tappA (t : TypeId) (s : AV) (new : Blk) (hp : Heap) (nx : Nat) : Option (AV × Heap × Nat) :=
  match s with
  | .rs true z [] (some 0) =>
    if new.length = 0 then some (.rs true z [] (some 0), hp, nx)
    else if new.length ≤ 140737488355328 then some (.sl nx 1 0 new.length none, hupd (hupd hp nx (some new)) (nx + 1) (some [[.ty t 0]]), nx + 2) else none
  | .sl q sz i len none => if sz = 1 ∧ i = 0 then
      match hp (q + 1), hp q with
      | some [[.ty t' k]], some es => if t' = t ∧ len ≤ es.length then
          if len + new.length ≤ es.length then some (.sl q 1 0 (len + new.length) none, hupd hp q (some (spliceL es len new)), nx)
          else if len + new.length ≤ 140737488355328 then
            some (.sl nx 1 0 (len + new.length) none, hupd (hupd (hupd hp q none) nx (some (es.take len ++ new))) (nx + 1) (some [[.ty t 0]]), nx + 2)
          else none
        else none
      | _, _ => none
    else none
  | _ => none

/-- Which entries are still to come. -/
def leftI : Blk → Nat → List Nat
  | [], _ => []
  | [.v (.bool true)] :: r, i => i :: leftI r (i + 1)
  | _ :: r, i => leftI r (i + 1)

/-- Operations that make or change memory. -/
def evE (tm : Nat → AV) (hp : Heap) (nx : Nat) : COp → Option (AV × Heap × Nat)
  | .alloc zero => some (.ptr nx 0 0, hupd hp nx (some [zero]), nx + 1)
  | .box x => if (ev tm x).cells.all AV.one = true then some (.ptr nx 0 0, hupd hp nx (some [(ev tm x).cells]), nx + 1) else none
  | .bslice true sz zero parts => match fillS sz zero (parts.map fun p => (p.1, ev tm p.2)) with
    | some es => some (.sl nx sz 0 es.length (some es.length), hupd hp nx (some es), nx + 1)
    | none => none
  | .store n x y => match ev tm x with
    | .ptr r i o => match hp r with
      | some es => match es[i]? with
        | some l => if (ev tm y).cells.length = n ∧ o + n ≤ l.length ∧ (ev tm y).cells.all AV.one = true then
            some (.v undef, hupd hp r (some (es.set i (spliceL l o (ev tm y).cells))), nx) else none
        | none => none
      | none => none
    | _ => none
  | .s2b x => match ev tm x with
    | .str l => some (.sl nx 1 0 l.length none, hupd hp nx (some (bytesOf l)), nx + 1)
    | _ => none
  | .append sz bytes s x => match elemsA hp sz (ev tm x) with
    | some new => if new.all (fun l => l.all AV.one) = true then appA sz bytes (ev tm s) new hp nx else none
    | none => none
  | .appz sz bytes zero s x => match ev tm x with
    | .v (.int _ n) => if 0 ≤ n ∧ n * bytes ≤ 140737488355328 ∧ n ≤ 140737488355328 ∧ zero.length = sz ∧ zero.all AV.one = true then appA sz bytes (ev tm s) (List.replicate n.toNat zero) hp nx else none
    | _ => none
  | .copy sz d s => match elemsA hp sz (ev tm s) with
    | some src => match ev tm d with
      | .sl r z i len _ => if z = sz then
          match hp r with
          | some es => if i + len ≤ es.length ∧ (src.take len).all (fun l => l.all AV.one) = true then
              some (.int .i64 (Nat.min src.length len), hupd hp r (some (spliceL es i (src.take len))), nx) else none
          | none => none
        else none
      | _ => none
    | none => none
  | .mkmap => some (.mp nx, hupd hp nx (some []), nx + 1)
  | .mset lk m k v => match ev tm m with
    | .mp r => match hp r with
      | some es => if keyA lk (ev tm k) = true then
          match findM lk (ev tm k) es with
          | some (some (i, _)) => some (.v undef, hupd hp r (some (es.set i [ev tm k, ev tm v])), nx)
          | some none => some (.v undef, hupd hp r (some (es ++ [[ev tm k, ev tm v]])), nx)
          | none => none
        else none
      | none => none
    | _ => none
  | .mrange m => match ev tm m with
    | .mp r => match hp r with
      | some es => some (.tk 0 nx r, hupd (hupd (hupd hp nx (some ([.v (.int .i64 0)] :: es.map fun _ => [.v (.bool true)]))) r none) (nx + 1) (some es), nx + 2)
      | none => none
    | _ => none
  | .mnext x => match ev tm x with
    | .tk 0 q r => match hp q, hp (q + 1) with
      | some (_ :: fl), some es => match leftI fl 0 with
        | [] => some (.tup [.v (.bool false)], hupd (hupd (hupd hp q none) (q + 1) none) r (some es), nx)
        | [j] => match es[j]? with
          | some [k, v] => some (.tup [.v (.bool true), k, v], hupd hp q (some ([.v (.int .i64 (j + 1 : Nat))] :: fl.set j [.v (.bool false)])), nx)
          | _ => none
        | _ => none
      | _, _ => none
    | _ => none
  | .mentr x => match ev tm x with
    | .tk 0 q r => match hp q, hp (q + 1) with
      | some ([.v (.int .i64 n)] :: _), some es => if 0 < n then
          match es[n.toNat - 1]? with
          | some [k, v] => some (.tup [k, v], hp, nx)
          | _ => none
        else none
      | _, _ => none
    | _ => none
  | .mdel lk m k => match ev tm m with
    | .mp r => match hp r with
      | some es => if keyA lk (ev tm k) = true then
          match findM lk (ev tm k) es with
          | some (some (i, _)) => some (.v (.tuple #[]), hupd hp r (some (es.eraseIdx i)), nx)
          | some none => some (.v (.tuple #[]), hupd hp r (some es), nx)
          | none => none
        else none
      | none => none
    | _ => none
  | .mentry lk zero m k => match ev tm m with
    | .mp r => match hp r with
      | some es => if keyA lk (ev tm k) = true then
          match findM lk (ev tm k) es with
          | some (some (i, v)) => some (.tup [v, .tk (i + 1) nx r], hupd (hupd (hupd hp r (some (es.set i [ev tm k, v]))) r none) nx (some (es.set i [ev tm k, v])), nx + 1)
          | some none => some (.tup [zero, .tk (es.length + 1) nx r], hupd (hupd (hupd hp r (some (es ++ [[ev tm k, zero]]))) r none) nx (some (es ++ [[ev tm k, zero]])), nx + 1)
          | none => none
        else none
      | none => none
    | _ => none
  | .mestore m s v => match ev tm m, ev tm s with
    | .mp r, .tk (i + 1) q r' => if r = r' then
        match hp q with
        | some es => match es[i]? with
          | some [k, _] => some (.v undef, hupd (hupd (hupd hp q (some (es.set i [k, ev tm v]))) q none) r (some (es.set i [k, ev tm v])), nx)
          | _ => none
        | none => none
      else none
    | _, _ => none
  | .clear sz zero x => match ev tm x with
    | .sl r z i len _ => if z = sz then
        match hp r with
        | some es => if i + len ≤ es.length ∧ zero.length = sz ∧ 0 < sz ∧ zero.all AV.one = true then
            some (.v (.tuple #[]), hupd hp r (some (spliceL es i (List.replicate len zero))), nx) else none
        | none => none
      else none
    | _ => none
  | .mkslice sz bytes zero len cap => match ev tm len, ev tm cap with
    | .v (.int _ n), .v (.int _ c) => if 0 ≤ n ∧ n ≤ c ∧ c * bytes ≤ 140737488355328 ∧ c ≤ 140737488355328 then
        some (.sl nx sz 0 n.toNat (some c.toNat), hupd hp nx (some (List.replicate c.toNat zero)), nx + 1) else none
    | _, _ => none
  | .tlit t sz zero parts => match fillS sz zero (parts.map fun p => (p.1, ev tm p.2)) with
    | some es => some (.sl nx sz 0 es.length (some es.length), hupd (hupd hp nx (some es)) (nx + 1) (some [[.ty t 0], []]), nx + 2)
    | none => none
  | .talloc t zero => some (.ptr nx 0 0, hupd (hupd hp nx (some [zero])) (nx + 1) (some [[.ty t zero.length]]), nx + 2)
  | .tapp t s x => match elemsA hp 1 (ev tm x) with
    | some new => if new.all (fun l => l.all AV.one) = true then tappA t (ev tm s) new hp nx else none
    | none => none
  | .ustr t x n => match ev tm x, ev tm n with
    | .v (.pointer none), .v (.int .i64 0) => some (.str [], hp, nx)
    | .ptr q 0 0, .v (.int .i64 n) => match hp (q + 1), hp q with
      | some [[.ty t' _]], some es => if t' = t ∧ 0 < n ∧ n ≤ es.length ∧ n ≤ 9223372036854775807 then (toB8 (es.take n.toNat)).map fun l => (.str l, hupd hp q none, nx) else none
      | _, _ => none
    | _, _ => none
  | _ => none

/-- What an operation did to memory: nothing; it read an owned block; it made or changed memory; it made a block, no more. -/
inductive Kd where
  | p
  | r (x : Nat)
  | e
  | a

/-- A new block, and nothing else. -/
def kdE : COp → Kd
  | .alloc _ => .a
  | .box _ => .a
  | .mkmap => .a
  | _ => .e

abbrev CallRel := Nat → List AV → Heap → Nat → AV → Heap → Nat → Kd → Prop

def WCall (R : CallRel) (f : Nat) (args : List AV) (hp : Heap) (nx : Nat) (K : AV → Heap → Nat → Kd → Prop) : Prop :=
  ∃ v hp' nx' k, R f args hp nx v hp' nx' k ∧ K v hp' nx' k

/-- One operation. -/
def WOp (R : CallRel) (co : COp) (s : St) (K : AV → Heap → Nat → Kd → Prop) : Prop :=
  match co with
  | .call f args => WCall R f (args.map (ev s.tm)) s.hp s.nx K
  | .callv g args => match ev s.tm g with
    | .fn (.func f) first cap => WCall R f (first ++ args.map (ev s.tm) ++ cap) s.hp s.nx K
    | _ => False
  | co => match evP s.tm co with
    | some v => K v s.hp s.nx .p
    | none => match evR s.tm s.hp co with
      | some (v, r) => K v s.hp s.nx (.r r)
      | none => match evE s.tm s.hp s.nx co with
        | some (v, hp, nx) => K v hp nx (kdE co)
        | none => False

def St.put (s : St) (d : Option Nat) (v : AV) (hp : Heap) (nx : Nat) : St :=
  match d with
  | some d => ⟨tupd s.tm d v, hp, nx⟩
  | none => ⟨s.tm, hp, nx⟩

/-- Is an operation wanted? none: that can't be told. -/
def wantedA (tm : Nat → AV) : Option (Nat × Bool) → Option Bool
  | none => some true
  | some (d, want) => match tm d with
    | .v (.bool b) => some (b == want)
    | .v (.tuple _) => some false
    | _ => none

def WOps (R : CallRel) : List COper → St → (St → Prop) → Prop
  | [], s, Q => Q s
  | o :: rest, s, Q => match wantedA s.tm o.guard with
    | some true => WOp R o.op s fun v hp nx _ => WOps R rest (s.put o.dst v hp nx) Q
    | some false => WOps R rest (s.put o.dst (.v undef) s.hp s.nx) Q
    | none => False

/-- What a region's operations did, for the look whether their order matters. -/
structure Rec where
  k : Kd
  hp : Heap
  hp' : Heap

def WDraw (R : CallRel) : List COper → St → List Rec → (St → List Rec → Prop) → Prop
  | [], s, recs, Q => Q s recs
  | o :: rest, s, recs, Q => match wantedA s.tm o.guard with
    | some true => WOp R o.op s fun v hp nx k => WDraw R rest (s.put o.dst v hp nx) (recs ++ [⟨k, s.hp, hp⟩]) Q
    | some false => WDraw R rest (s.put o.dst (.v undef) s.hp s.nx) (recs ++ [⟨.p, s.hp, s.hp⟩]) Q
    | none => False

/-- May two operations stand in either order, for all that they do to memory? -/
def calm2 (a b : Rec) : Prop :=
  match a.k, b.k with
  | .e, .e => False
  | .a, .e => False
  | .r x, .e => b.hp x = b.hp' x
  | .e, .r x => a.hp x = a.hp' x
  | .r x, .a => b.hp x = b.hp' x
  | .a, .r x => a.hp x = a.hp' x
  | _, _ => True

def Kd.isA : Kd → Bool
  | .a => true
  | _ => false
def Kd.eff : Kd → Bool
  | .a | .e => true
  | _ => false

/-- What hangs on a new block stands behind all that was done to memory ahead of it. 'effs': which operations did something; 'i': which one is looked at. -/
def allocOk (pre : List (List Nat)) : List (Bool × Bool) → List Nat → Nat → Bool
  | [], _, _ => true
  | (a, e) :: r, effs, i => (if a then pre.all fun p => if p.contains i then effs.all fun k => p.contains k else true else true) && allocOk pre r (if e then effs ++ [i] else effs) (i + 1)

/-- Whatever order the edges allow comes to the same. 'pre': for each operation those that always stand ahead of it. -/
def calmAll (pre : List (List Nat)) (recs : List Rec) : Prop := go pre recs [] 0 ∧ allocOk pre (recs.map fun r => (r.k.isA, r.k.eff)) [] 0 = true
where
  one (p : List Nat) (b : Rec) : List Rec → Nat → Prop
    | [], _ => True
    | a :: rest, i => (if p.contains i then True else calm2 a b) ∧ one p b rest (i + 1)
  go : List (List Nat) → List Rec → List Rec → Nat → Prop
    | p :: ps, b :: rest, done, j => one p b done 0 ∧ go ps rest (done ++ [b]) (j + 1)
    | _, [], _, _ => True
    | [], _ :: _, _, _ => False

inductive CExit where
  | normal
  | exit (id : Nat)
  | ret

def loopN (F : (CExit → St → Prop) → St → Prop) (Q : CExit → St → Prop) : Nat → St → Prop
  | 0, _ => False
  | n + 1, s => F (fun e s' => match e with
    | .normal => loopN F Q n s'
    | e => Q e s') s

def W (R : CallRel) : CCode → (CExit → St → Prop) → St → Prop
  | .skip, Q, s => Q .normal s
  | .region ops, Q, s => WOps R ops s (Q .normal)
  | .draw pre ops, Q, s => WDraw R ops s [] fun s' recs => calmAll pre recs ∧ Q .normal s'
  | .seq a b, Q, s => W R a (fun e s' => match e with
    | .normal => W R b Q s'
    | e => Q e s') s
  | .cond c a b, Q, s => match ev s.tm c with
    | .v (.bool t) => if t then W R a Q s else W R b Q s
    | _ => False
  | .block id a, Q, s => W R a (fun e s' => match e with
    | .exit i => if i = id then Q .normal s' else Q (.exit i) s'
    | e => Q e s') s
  | .loop a, Q, s => ∃ n, loopN (W R a) Q n s
  | .exit id, Q, s => Q (.exit id) s
  | .ret, Q, s => Q .ret s

def mapO {α β : Type} (f : α → Option β) : List α → Option (List β)
  | [] => some []
  | x :: r => match f x, mapO f r with
    | some y, some l => some (y :: l)
    | _, _ => none

/-- What a call hands out, its own blocks being written no more. -/
def frz : Nat → Heap → AV → Option AV
  | 0, _, _ => none
  | d + 1, hp, x => if x.closed then some x else
    match x with
    | .sl r sz i len cap => match hp r with
      | some es => if i + len ≤ es.length then (mapO (mapO (frz d hp)) ((es.drop i).take len)).map fun es' => .rs false sz es' cap else none
      | none => none
    | .agg cs => (mapO (frz d hp) cs).map .agg
    | .tup cs => (mapO (frz d hp) cs).map .tup
    | _ => none

mutual
/-- Nothing of it leads into memory. -/
def AV.flat : AV → Bool
  | .v _ | .str _ => true
  | .rs n _ es _ => n && es.isEmpty
  | .agg cs => flatL cs
  | .tup cs => flatL cs
  | _ => false
def flatL : List AV → Bool
  | [] => true
  | x :: r => x.flat && flatL r
end

def restrH (hp : Heap) (L : List Nat) : Heap := fun r => if r ∈ L then hp r else none
def dropH (hp : Heap) (L : List Nat) : Heap := fun r => if r ∈ L then none else hp r

/-- What is handed on: the slices in some blocks as such that are written no more; pointers, and other slices, as they are. -/
def frzP : Nat → Heap → AV → Option AV
  | 0, _, _ => none
  | d + 1, hp, x => if x.closed then some x else
    match x with
    | .ptr r i o => some (.ptr r i o)
    | .mp r => some (.mp r)
    | .sl r sz i len cap => match hp r with
      | some es => if i + len ≤ es.length then (mapO (mapO (frz d hp)) ((es.drop i).take len)).map fun es' => .rs false sz es' cap else none
      | none => some (.sl r sz i len cap)
    | .agg cs => (mapO (frzP d hp) cs).map .agg
    | .tup cs => (mapO (frzP d hp) cs).map .tup
    | .fn f a b => match mapO (frzP d hp) a, mapO (frzP d hp) b with
      | some a', some b' => some (.fn f a' b')
      | _, _ => none
    | _ => none

def resOne (s : St) : RV → Option AV
  | .t n => some (s.tm n)
  | .cell a n => match s.tm a with
    | .ptr r i o => match s.hp r with
      | some es => match es[i]? with
        | some l => partA l o n
        | none => none
      | none => none
    | .rp cells => partA cells 0 n
    | _ => none

def resA (rs : List RV) (s : St) : Option AV :=
  match rs with
  | [r] => resOne s r
  | rs => (mapO (resOne s) rs).map .tup

def init (args : List AV) (hp : Heap) (nx : Nat) : St := ⟨fun t => (args[t]?).getD (.v undef), hp, nx⟩

def Sub (hp' hp : Heap) : Prop := ∀ r, hp' r = hp r ∨ hp' r = none

structure Env where
  fn : Nat → Option CFunc
  prim : CallRel

def Ended (e : CExit) : Prop := e = .normal ∨ e = .ret

def RetN (E : Env) : Nat → CallRel
  | 0 => fun _ _ _ _ _ _ _ _ => False
  | n + 1 => fun f args hp nx v hp' nx' k =>
    E.prim f args hp nx v hp' nx' k ∨
    (∃ cf, E.fn f = some cf ∧ args.length = cf.np ∧
      ((k = .p ∧ hp' = hp ∧ nx' = nx ∧ closedL args = true ∧ W (RetN E n) cf.body (fun e s => Ended e ∧ ∃ v1, resA cf.res s = some v1 ∧ frz 6 s.hp v1 = some v) (init args hnil 0)) ∨
       (k = .e ∧ W (RetN E n) cf.body (fun e s => Ended e ∧ resA cf.res s = some v ∧ Sub hp' s.hp ∧ nx' = s.nx) (init args hp nx)))) ∨
    (k = .e ∧ hp' = hp ∧ nx' = nx ∧ v.flat = true ∧ ∃ args0, mapO (frz 6 hp) args = some args0 ∧ RetN E n f args0 hnil 0 v hnil 0 .p) ∨
    (k = .e ∧ ∃ args0 L k', mapO (frzP 6 (restrH hp L)) args = some args0 ∧ RetN E n f args0 (dropH hp L) nx v hp' nx' k')

def Ret (E : Env) : CallRel := fun f args hp nx v hp' nx' k => ∃ n, RetN E n f args hp nx v hp' nx' k

end Go.Ai
