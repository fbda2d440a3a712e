/- From the model's code to the compact form. -/
import Derived.Test.YtooomkpingiojaaGreatAiCore
namespace Go.Ai
set_option linter.unusedVariables false

def cO : Operand → Opd
  | .tmp t => .t t
  | .const v => .c (ofV v)
  | .global g => .c (.v (.pointer (some ⟨g, 0, none⟩)))
  | .func f => .c (.fn (.func f) [] [])

/-- How a variable of a type is read: none: its one cell; n: an aggregate of n cells. -/
def aggOf (P : Program) (t : TypeId) : Option (Option Nat) :=
  match P.underlying t, P.info? t with
  | some (.struct _), some i | some (.array _ _), some i => some (some i.size)
  | some _, some i => some none
  | _, _ => none

def zeroOf (P : Program) (t : TypeId) : Option (List AV) :=
  match P.info? t with
  | some i => match i.zero with
    | some z => if z.cells.size = i.size then some (z.cells.toList.map ofV1) else none
    | none => none
  | none => none

def compParts (P : Program) (fs : Array Field) : List (Nat × Operand) → Option (List (Nat × Nat × Opd))
  | [] => some []
  | (i, x) :: r => match fs[i]? with
    | some f => match P.info? f.type, compParts P fs r with
      | some j, some l => some ((f.offset, j.size, cO x) :: l)
      | _, _ => none
    | none => none

def compBin (P : Program) (op : BinOp) (t : TypeId) (x y : Operand) : Option COp :=
  match P.underlying t with
  | some (.int _) | some .string => some (.bin op (cO x) (cO y))
  | some .bool => some (.eqb op (cO x) (cO y))
  | some (.slice _) => some (.eqn op (cO x) (cO y))
  | some (.pointer e) => if (P.info? e).isSome ∧ 0 < P.cellsOf e then some (.eqp op (cO x) (cO y)) else none
  | _ => none

def compConv (P : Program) (src dst : TypeId) (x : Operand) : Option COp :=
  match P.underlying src, P.underlying dst with
  | some (.int _), some (.int k) => some (.conv k (cO x))
  | some .string, some .string => some (.cstr (cO x))
  | some .string, some (.slice e) => match P.underlying e with
    | some (.int .u8) => some (.s2b (cO x))
    | _ => none
  | some (.slice e), some .string => match P.underlying e with
    | some (.int .u8) => some (.b2s (cO x))
    | _ => none
  | some (.int _), some .string => some (.r2s (cO x))
  | some (.pointer e), some .unsafePointer => if 0 < P.cellsOf e then some (.tou (cO x)) else none
  | some .unsafePointer, some (.pointer u) => if 0 < P.cellsOf u then some (.ofu u (P.cellsOf u) (cO x)) else none
  | _, _ => none

def hasBody (P : Program) (f : Nat) : Bool :=
  match P.funcs[f]? with
  | some fn => !(fn.name == "runtime.NumGoroutine") && fn.body.isSome
  | none => false

def isU8 (P : Program) (e : TypeId) : Bool := match P.underlying e with
  | some (.int .u8) => true
  | _ => false
theorem isU8_spec {P : Program} {e : TypeId} (h : isU8 P e = true) : P.underlying e = some (.int .u8) := by
  unfold isU8 at h; split at h
  · assumption
  · cases h

/-- An append to bytes, with their block's type told. -/
def compTapp (P : Program) (b : Builtin) (args : List Operand) (ts : Array TypeId) : Option COp :=
  match b, args with
  | .append, [s, x] => match ts[0]?, ts[1]? with
    | some t, some u => match P.underlying t, P.underlying u with
      | some (.slice e), some .string | some (.slice e), some (.slice _) => match zeroOf P e, P.info? e with
        | some z, some i => if i.size = 1 ∧ i.bytes = 1 ∧ isU8 P e = true then some (.tapp e (cO s) (cO x)) else none
        | _, _ => none
      | _, _ => none
    | _, _ => none
  | _, _ => none

def compBuiltin (P : Program) (b : Builtin) (args : List Operand) (ts : Array TypeId) : Option COp :=
  match b, args with
  | .unsafeSliceData, [x] => some (.sdata (cO x))
  | .unsafeString, [x, n] => match (ts[0]?).bind P.underlying, ts.size with
    | some (.pointer e), 2 => if P.cellsOf e = 1 ∧ isU8 P e = true then some (.ustr e (cO x) (cO n)) else none
    | _, _ => none
  | .len, [x] => match (ts[0]?).bind P.underlying with
    | some .string => some (.slen (cO x))
    | some (.slice _) => some (.len (cO x))
    | _ => none
  | .cap, [x] => match (ts[0]?).bind P.underlying with
    | some (.slice _) => some (.cap (cO x))
    | _ => none
  | .min, [x, y] => some (.min (cO x) (cO y))
  | .max, [x, y] => some (.max (cO x) (cO y))
  | .append, [s, x] => match ts[0]?, ts[1]? with
    | some t, some u => match P.underlying t, P.underlying u with
      | some (.slice e), some (.int _) => match zeroOf P e, P.info? e with
        | some z, some i => if 0 < i.size ∧ 0 < i.bytes then some (.appz i.size i.bytes z (cO s) (cO x)) else none
        | _, _ => none
      | some (.slice e), some _ => match zeroOf P e, P.info? e with
        | some z, some i => if 0 < i.size ∧ 0 < i.bytes then some (.append i.size i.bytes (cO s) (cO x)) else none
        | _, _ => none
      | _, _ => none
    | _, _ => none
  | .copy, [d, s] => match (ts[0]?).bind P.underlying with
    | some (.slice e) => match P.info? e with
      | some i => if 0 < i.size then some (.copy i.size (cO d) (cO s)) else none
      | none => none
    | _ => none
  | .clear, [x] => match (ts[0]?).bind P.underlying with
    | some (.slice e) => match zeroOf P e, P.info? e with
      | some z, some i => if 0 < i.size then some (.clear i.size z (cO x)) else none
      | _, _ => none
    | _ => none
  | _, _ => none

/-- 'own': is this slice's literal written to later? -/
def compOp (P : Program) (own : Bool) (o : Oper) : Option COp :=
  match o.op with
  | .move x | .assign x => some (.mov (cO x))
  | .pick c a b => some (.pick (cO c) (cO a) (cO b))
  | .alloc e => if own then (zeroOf P e).map (.talloc e) else (zeroOf P e).map .alloc
  | .panic _ => some .halt
  | .box e x => some (.box (cO x))
  | .build t parts => match P.underlying t, zeroOf P t with
    | some (.struct fs), some z => if fs.all (fun f => (P.info? f.type).isSome) then (compParts P fs parts.toList).map (.build z) else none
    | _, _ => none
  | .buildSlice t len parts => match P.underlying t with
    | some (.slice e) => match zeroOf P e, P.info? e with
      | some z, some i => if 0 < i.size ∧ len * i.size ≤ 16777216 then some (if own then .tlit e i.size (List.replicate len z) (parts.toList.map fun p => (p.1, cO p.2)) else .bslice false i.size (List.replicate len z) (parts.toList.map fun p => (p.1, cO p.2))) else none
      | _, _ => none
    | _ => none
  | .load t a => (aggOf P t).map fun n => .load n (cO a)
  | .store t a x => match P.info? t with
    | some i => if 0 < i.size then some (.store i.size (cO a) (cO x)) else none
    | none => none
  | .nilCheck x => some (.nilck (cO x))
  | .binOp op t x y _ => compBin P op t x y
  | .unOp op _ x => some (.un op (cO x))
  | .convert src dst x => compConv P src dst x
  | .makeInterface t x => match P.underlying t with
    | some (.interface _) | none => none
    | some _ => some (.mkif t (cO x))
  | .makeFunc fn first cap => some (.mkfn fn (first.toList.map cO) (cap.toList.map cO))
  | .makeSlice t l c => match P.underlying t with
    | some (.slice e) => match zeroOf P e, P.info? e with
      | some z, some i => if 0 < i.size ∧ 0 < i.bytes then some (.mkslice i.size i.bytes z (cO l) (cO c)) else none
      | _, _ => none
    | _ => none
  | .slice t x lo hi mx => match P.underlying t with
    | some .string => match mx with
      | none => some (.sslice (cO x) (lo.map cO) (hi.map cO))
      | some _ => none
    | some (.slice e) => (P.info? e).map fun i => .slice i.size (cO x) (lo.map cO) (hi.map cO) (mx.map cO)
    | _ => none
  | .fieldAddr s x f => match P.underlying s with
    | some (.struct fs) => match fs[f]? with
      | some fd => match P.info? fd.type with
        | some i => if i.size = 0 then none else some (.fieldA fd.offset (cO x))
        | none => none
      | none => none
    | _ => none
  | .field t x f => match P.underlying t with
    | some (.struct fs) => match fs[f]? with
      | some fd => (aggOf P fd.type).map fun n => .field fd.offset n (cO x)
      | none => none
    | _ => none
  | .indexAddr t x i => match P.underlying t with
    | some (.slice e) => (P.info? e).map fun j => .iaddr j.size (cO x) (cO i)
    | _ => none
  | .index t x i => match P.underlying t with
    | some .string => some (.idx (cO x) (cO i))
    | _ => none
  | .extract t i => some (.ext (cO t) i)
  | .call c => match c.callee with
    | .value (.func f) => some (.call f (c.args.toList.map cO))
    | .value g => some (.callv (cO g) (c.args.toList.map cO))
    | .builtin b => if own then compTapp P b c.args.toList c.argTypes else compBuiltin P b c.args.toList c.argTypes
    | .invoke _ _ => none
  | _ => none

/-- The kinds of a struct's fields, if each is a whole number, a text or a bool, one cell each, in order. -/
def eqKinds (P : Program) : List Field → Nat → Option (List LK)
  | [], _ => some []
  | f :: r, k => if f.offset = k ∧ f.name ≠ "_" then
      match P.underlying f.type, P.info? f.type, eqKinds P r (k + 1) with
      | some (.int _), some _, some l => some (.i :: l)
      | some .string, some _, some l => some (.s :: l)
      | some .bool, some _, some l => some (.b :: l)
      | _, _, _ => none
    else none

/-- Struct equality, cell by cell. -/
def compEqs (P : Program) (op : BinOp) (t : TypeId) (x y : Operand) : Option COp :=
  match P.underlying t with
  | some (.struct fs) =>
    if P.stoodInHeld t then none
    else if P.eqGuardType P.depth t then none
    else match eqKinds P fs.toList 0 with
      | some ks => match op with
        | .eql => some (.eqs false ks (cO x) (cO y))
        | .neq => some (.eqs true ks (cO x) (cO y))
        | _ => none
      | none => none
  | _ => none

/-- The kind of a map's keys. -/
def lkOf (P : Program) (k : TypeId) : Option LK := match P.underlying k with
  | some (.int _) => some .i
  | some .string => some .s
  | some .bool => some .b
  | _ => none
/-- Maps. -/
def compMap (P : Program) : Op → Option COp
  | .makeMap t none => match P.underlying t with
    | some (.map _ _) => some .mkmap
    | _ => none
  | .lookup t x k ok => match P.underlying t with
    | some (.map kt et) => match lkOf P kt, (P.info? et).bind (·.zero) with
      | some lk, some z => some (.mlook lk (ofV z) ok (cO x) (cO k))
      | _, _ => none
    | _ => none
  | .mapUpdate t m k x => match P.underlying t with
    | some (.map kt _) => (lkOf P kt).map fun lk => .mset lk (cO m) (cO k) (cO x)
    | _ => none
  | .call ⟨.builtin .len, args, ts⟩ => match args.toList, (ts[0]?).bind P.underlying with
    | [x], some (.map _ _) => some (.mlen (cO x))
    | _, _ => none
  | .call ⟨.builtin .delete, args, ts⟩ => match args.toList, (ts[0]?).bind P.underlying with
    | [m, k], some (.map kt _) => (lkOf P kt).map fun lk => .mdel lk (cO m) (cO k)
    | _, _ => none
  | .range t x => match P.underlying t with
    | some (.map _ _) => some (.mrange (cO x))
    | _ => none
  | .next x false => some (.mnext (cO x))
  | .entry x => some (.mentr (cO x))
  | .mapEntry t m k => match P.underlying t with
    | some (.map kt et) => match lkOf P kt, (P.info? et).bind (·.zero) with
      | some lk, some z => some (.mentry lk (ofV z) (cO m) (cO k))
      | _, _ => none
    | _ => none
  | .entryStore _ m s x => some (.mestore (cO m) (cO s) (cO x))
  | _ => none

inductive MapOp (P : Program) : Op → COp → Prop where
  | mk {t kt et : TypeId} (h : P.underlying t = some (.map kt et)) : MapOp P (.makeMap t none) .mkmap
  | look {t kt et : TypeId} {x k : Operand} {ok : Bool} {lk : LK} {i : TypeInfo} {z : Value} (h : P.underlying t = some (.map kt et)) (hl : lkOf P kt = some lk) (hi : P.info? et = some i) (hz : i.zero = some z) : MapOp P (.lookup t x k ok) (.mlook lk (ofV z) ok (cO x) (cO k))
  | set {t kt et : TypeId} {m k x : Operand} {lk : LK} (h : P.underlying t = some (.map kt et)) (hl : lkOf P kt = some lk) : MapOp P (.mapUpdate t m k x) (.mset lk (cO m) (cO k) (cO x))
  | len {t kt et : TypeId} {x : Operand} {args : Array Operand} {ts : Array TypeId} (ha : args.toList = [x]) (ht : ts[0]? = some t) (h : P.underlying t = some (.map kt et)) : MapOp P (.call ⟨.builtin .len, args, ts⟩) (.mlen (cO x))
  | del {t kt et : TypeId} {m k : Operand} {args : Array Operand} {ts : Array TypeId} {lk : LK} (ha : args.toList = [m, k]) (ht : ts[0]? = some t) (h : P.underlying t = some (.map kt et)) (hl : lkOf P kt = some lk) : MapOp P (.call ⟨.builtin .delete, args, ts⟩) (.mdel lk (cO m) (cO k))
  | range {t kt et : TypeId} {x : Operand} (h : P.underlying t = some (.map kt et)) : MapOp P (.range t x) (.mrange (cO x))
  | next {x : Operand} : MapOp P (.next x false) (.mnext (cO x))
  | entr {x : Operand} : MapOp P (.entry x) (.mentr (cO x))
  | entry {t kt et : TypeId} {m k : Operand} {lk : LK} {i : TypeInfo} {z : Value} (h : P.underlying t = some (.map kt et)) (hl : lkOf P kt = some lk) (hi : P.info? et = some i) (hz : i.zero = some z) : MapOp P (.mapEntry t m k) (.mentry lk (ofV z) (cO m) (cO k))
  | estore {t : TypeId} {m s x : Operand} : MapOp P (.entryStore t m s x) (.mestore (cO m) (cO s) (cO x))
theorem compMap_cases {P : Program} {op : Op} {co : COp} (h : compMap P op = some co) : MapOp P op co := by
  unfold compMap at h
  split at h
  · split at h
    · rename_i hu
      simp only [Option.some.injEq] at h; subst h
      exact .mk hu
    · cases h
  · split at h
    · rename_i hu
      split at h
      · rename_i lk z hl hz
        simp only [Option.some.injEq] at h; subst h
        obtain ⟨i, hi, hz⟩ := Option.bind_eq_some_iff.1 hz
        exact .look hu hl hi hz
      · cases h
    · cases h
  · split at h
    · rename_i hu
      simp only [Option.map_eq_some_iff] at h
      obtain ⟨lk, hl, rfl⟩ := h
      exact .set hu hl
    · cases h
  · split at h
    · rename_i x kt et ha ht
      simp only [Option.some.injEq] at h; subst h
      obtain ⟨t, h1, h2⟩ := Option.bind_eq_some_iff.1 ht
      exact .len ha h1 h2
    · cases h
  · split at h
    · rename_i m k kt et ha ht
      simp only [Option.map_eq_some_iff] at h
      obtain ⟨lk, hl, rfl⟩ := h
      obtain ⟨t, h1, h2⟩ := Option.bind_eq_some_iff.1 ht
      exact .del ha h1 h2 hl
    · cases h
  · split at h
    · rename_i hu
      simp only [Option.some.injEq] at h; subst h
      exact .range hu
    · cases h
  · simp only [Option.some.injEq] at h; subst h
    exact .next
  · simp only [Option.some.injEq] at h; subst h
    exact .entr
  · split at h
    · rename_i hu
      split at h
      · rename_i lk z hl hz
        simp only [Option.some.injEq] at h; subst h
        obtain ⟨i, hi, hz⟩ := Option.bind_eq_some_iff.1 hz
        exact .entry hu hl hi hz
      · cases h
    · cases h
  · simp only [Option.some.injEq] at h; subst h
    exact .estore
  · cases h

def compOp' (P : Program) (own : Bool) (o : Oper) : Option COp :=
  match compOp P own o with
  | some c => some c
  | none => match o.op with
    | .binOp op t x y _ => compEqs P op t x y
    | op => compMap P op

def Opd.tms : Opd → List Nat
  | .t n => [n]
  | .c _ => []
def otms : Option Opd → List Nat
  | some x => x.tms
  | none => []
def ltms (l : List Opd) : List Nat := l.flatMap Opd.tms

/-- Temporaries that an operation looks at. -/
def COp.tms : COp → List Nat
  | .halt | .talloc .. => []
  | .tou x | .ofu _ _ x | .sdata x | .clear _ _ x | .mlen x | .mrange x | .mnext x | .mentr x => x.tms
  | .mkmap => []
  | .mlook _ _ _ m k | .mdel _ m k | .mentry _ _ m k => m.tms ++ k.tms
  | .mset _ m k v | .mestore m k v => m.tms ++ k.tms ++ v.tms
  | .eqp _ x y | .tapp _ x y | .ustr _ x y => x.tms ++ y.tms
  | .mov x | .box x | .load _ x | .nilck x | .un _ x | .conv _ x | .cstr x | .s2b x | .b2s x | .r2s x | .fieldA _ x | .field _ _ x | .ext x _ | .mkif _ x | .slen x | .len x | .cap x => x.tms
  | .pick a b c => a.tms ++ b.tms ++ c.tms
  | .alloc _ => []
  | .build _ ps => ltms (ps.map (·.2.2))
  | .bslice _ _ _ ps | .tlit _ _ _ ps => ltms (ps.map (·.2))
  | .store _ x y | .bin _ x y | .eqb _ x y | .eqn _ x y | .eqs _ _ x y | .iaddr _ x y | .idx x y | .min x y | .max x y | .append _ _ x y | .appz _ _ _ x y | .copy _ x y | .mkslice _ _ _ x y => x.tms ++ y.tms
  | .sslice x lo hi => x.tms ++ otms lo ++ otms hi
  | .slice _ x lo hi mx => x.tms ++ otms lo ++ otms hi ++ otms mx
  | .mkfn _ a b => ltms a ++ ltms b
  | .call _ as => ltms as
  | .callv g as => g.tms ++ ltms as

def COper.looks (o : COper) : List Nat :=
  o.op.tms ++ (match o.guard with
    | some (g, _) => [g]
    | none => [])

def compGuard (ops : Array Oper) : Option (Nat × Bool) → Option (Option (Nat × Bool))
  | none => some none
  | some (j, want) => match (ops[j]?).bind (·.dst) with
    | some d => some (some (d, want))
    | none => none

def compOper (P : Program) (nt : Nat) (own : Bool) (ops : Array Oper) (o : Oper) : Option COper :=
  match compOp' P own o, compGuard ops o.guard with
  | some c, some g => if o.dst.all (· < nt) then some ⟨o.dst, c, g⟩ else none
  | _, _ => none

def compOpers (P : Program) (nt : Nat) (own : Nat → Bool) (ops : Array Oper) : List Oper → Nat → Option (List COper)
  | [], _ => some []
  | o :: r, i => match compOper P nt (own i) ops o, compOpers P nt own ops r (i + 1) with
    | some c, some l => some (c :: l)
    | _, _ => none

/-- Those that stand ahead of an operation in every order that the edges allow. -/
def preOf (ops : Array Oper) : List (List Nat) :=
  ops.toList.foldl (init := []) fun acc o =>
    acc ++ [(o.after.toList.filter (fun e => Region.binds .any e && e.on < acc.length)).foldl (fun s e => s ++ e.on :: acc.getD e.on []) [] |>.eraseDups]

/-- Edges lead back, and 'pre' is what they say. -/
def preOk (ops : Array Oper) (pre : List (List Nat)) : Bool :=
  (List.range ops.size).all fun j => match ops[j]? with
    | some o => (o.after.toList.all fun e => !Region.binds .any e || e.on < j) &&
        ((pre.getD j []).all fun i => i < j && o.after.toList.any fun e => Region.binds .any e && (e.on == i || (pre.getD e.on []).contains i))
    | none => true

/-- Whoever writes a temporary stands in a fixed order with whoever reads or writes it. -/
def tempsOk (cl : List COper) (pre : List (List Nat)) : Bool :=
  (List.range cl.length).all fun i => (List.range cl.length).all fun j =>
    i == j || match cl[i]?, cl[j]? with
      | some a, some b => match a.dst with
        | some d => !(b.looks.contains d || b.dst == some d) || (pre.getD j []).contains i || (pre.getD i []).contains j
        | none => true
      | _, _ => true

/-- Which slices' literals are written to later: (region, operation). -/
abbrev Owns := List (Nat × Nat)

def compCode (P : Program) (nt : Nat) (ow : Owns) : Code → Option CCode
  | .skip => some .skip
  | .region id ops false => (compOpers P nt (fun i => ow.contains (id, i)) ops ops.toList 0).map .region
  | .region id ops true => match compOpers P nt (fun i => ow.contains (id, i)) ops ops.toList 0 with
    | some cl => if preOk ops (preOf ops) && tempsOk cl (preOf ops) then some (.draw (preOf ops) cl) else none
    | none => none
  | .seq a b => match compCode P nt ow a, compCode P nt ow b with
    | some x, some y => some (.seq x y)
    | _, _ => none
  | .cond c a b => match compCode P nt ow a, compCode P nt ow b with
    | some x, some y => some (.cond (cO c) x y)
    | _, _ => none
  | .block id a => (compCode P nt ow a).map (.block id)
  | .loop a => (compCode P nt ow a).map .loop
  | .exit id => some (.exit id)
  | .ret => some .ret
  | .refuse .. => some (.region [⟨none, .halt, none⟩])
  | _ => none

def compRes (P : Program) : List ResultVar → Option (List RV)
  | [] => some []
  | .tmp t :: r => (compRes P r).map (RV.t t :: ·)
  | .cell a t :: r => match aggOf P t, compRes P r with
    | some n, some l => some (.cell a n :: l)
    | _, _ => none

def compF (P : Program) (ow : Owns) (f : Nat) : Option CFunc :=
  match P.funcs[f]? with
  | some fn => match fn.body with
    | some c => match compCode P fn.ntmps ow c, compRes P fn.results.toList with
      | some b, some rs => if fn.params.size + fn.nfree ≤ fn.ntmps then some ⟨fn.params.size + fn.nfree, fn.ntmps, b, rs⟩ else none
      | _, _ => none
    | none => none
  | none => none

end Go.Ai
