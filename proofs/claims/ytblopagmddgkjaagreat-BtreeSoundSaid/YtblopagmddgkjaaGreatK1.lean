/- Part 1 of what the proof rests on. -/
import Derived.WalkKit
import Derived.Lib.Strings
import Derived.Lib.UnsafeStr
import Derived.LaidEql
import Derived.Lib.Builder
import Derived.Laws.Externs
import Derived.Lib.SmallJoins
import Derived.Laws.BytesString
import Derived.Laws.StructEq
import Derived.Laws.Cells
import Derived.Laws.Append
import Derived.MapKept
import Derived.Maps.RangeRun
import Derived.LoopN
import Derived.Lib.Overlaps
import Derived.Test.YtblopagmddgkjaaGreatProg
import Derived.KernelRfl
import Derived.Orders
import Derived.Lib.Bytealg
import Derived.Lib.MakeNoZero
import Derived.ProofKit
import Derived.ReadAgain
set_option linter.unusedVariables false
set_option linter.unusedSimpArgs false
set_option maxHeartbeats 4000000
namespace Go
abbrev zOi := @Option.some.injEq
abbrev zPi := @Prod.mk.injEq
abbrev zA := @List.getElem?_eq_getElem
abbrev zB := @List.getElem?_eq_some_iff
abbrev zC := @Option.map_eq_some_iff
abbrev zD := @Nat.le_refl
abbrev zE := @Array.getElem?_eq_some_iff
abbrev zF := @List.append_assoc
abbrev zG := @List.length_append
abbrev zH := @List.mem_cons
abbrev zI := @List.take_of_length_le
abbrev zJ := @List.mem_append
abbrev zK := @Bool.false_eq_true
abbrev zL := @Array.getElem?_eq_getElem
abbrev zM := @List.getElem?_map
abbrev zN := @Bool.and_eq_true
abbrev zO := @List.drop_eq_getElem_cons
abbrev zP := @List.getElem_mem
abbrev zQ := @List.all_eq_true
abbrev zR := @List.getElem?_append_left
abbrev zS := @List.length_nil
abbrev zT := @List.append_nil
abbrev zU := @Nat.lt_of_lt_of_le
abbrev zV := @List.length_cons
abbrev zW := @List.take_length
abbrev zX := @Nat.mul_le_mul_right
abbrev zY := @List.getElem_of_mem
abbrev zZ := @List.length_map
abbrev za := @List.getElem?_append_right
abbrev zb := @List.drop_zero
abbrev ze := @Nat.add_mul
abbrev zf := @List.length_eq_zero_iff
abbrev zg := @List.map_append
abbrev zh := @List.nil_append
abbrev zj := @Nat.lt_or_ge
abbrev zl := @Int.toNat_natCast
abbrev zm := @Option.bind_eq_some_iff
abbrev zp := @List.nodup_cons
abbrev zq := @List.nodup_append
abbrev zr := @List.drop_eq_nil_of_le
abbrev zt := @List.length_pos_iff
abbrev zu := @List.mem_cons_of_mem
abbrev zw := @List.mem_of_mem_take
abbrev zx := @List.mem_of_mem_drop
abbrev zy := @List.take_append_drop
abbrev zz := @List.take_add_one
abbrev wB := @List.getElem?_take
abbrev wC := @List.filter_eq_nil_iff
abbrev wD := @List.length_take
abbrev wE := @List.getElem?_drop
abbrev wF := @Nat.le_trans
abbrev wH := @Nat.add_zero
abbrev wI := @List.map_cons
abbrev wJ := @Option.getD_some
abbrev wK := @List.take_append_of_le_length
abbrev wL := @List.mem_range
abbrev wM := @Option.isSome_iff_exists
abbrev wN := @List.length_drop
abbrev wO := @List.not_mem_nil
abbrev wP := @List.getElem?_replicate
abbrev wQ := @Array.getElem?_setIfInBounds_ne
abbrev wR := @List.map_take
abbrev wS := @List.map_drop
abbrev wT := @Nat.zero_le
abbrev wU := @List.filter_append
abbrev wV := @List.sum_append
abbrev wW := @Array.getElem?_push
abbrev wX := @List.filter_eq_self
abbrev wY := @Array.getElem?_modify
abbrev wZ := @List.getElem?_eq_none
abbrev wa := @Nat.add_sub_cancel_left
abbrev wb := @Array.getD_eq_getD_getElem?
abbrev we := @List.getElem?_set_ne
abbrev wg := @List.flatten_cons
abbrev wh := @Bool.not_eq_true'
abbrev wj := @List.getElem_append_right
abbrev wk := @List.mem_map
abbrev wm := @List.length_filter_le
abbrev wo := @List.mem_singleton
abbrev wq := @List.getElem_append_left
abbrev wt := @List.drop_append_of_le_length
abbrev wu := @List.drop_length
abbrev wv := @Nat.pow_le_pow_right
abbrev ww := @List.getElem?_cons_succ
abbrev wx := @List.getElem?_set
abbrev wy := @List.getElem_take
abbrev qA := @List.getElem_drop
abbrev qB := @Bool.or_eq_true
abbrev qC := @List.flatten_append
abbrev qD := @Int.fdiv_eq_ediv_of_nonneg
abbrev qE := @List.filter_cons
abbrev qF := @Nat.add_assoc
abbrev qG := @Nat.eq_zero_or_pos
abbrev qH := @List.length_replicate
abbrev qI := @Bool.or_eq_false_iff
abbrev qJ := @Nat.min_eq_left
abbrev qK := @List.of_mem_zip
abbrev qL := @Array.length_toList
abbrev qM := @Option.getD_none
abbrev qN := @List.drop_left
abbrev qO := @Array.getElem?_setIfInBounds
abbrev qP := @Option.map_some
abbrev qQ := @List.mem_iff_getElem?
abbrev qR := @List.range_succ
abbrev qS := @List.zip_append
abbrev qT := @Array.range_zero'
abbrev qU := @Nat.succ_le_of_lt
abbrev qV := @Array.getElem?_append_left
abbrev qW := @List.nodup_iff_pairwise_ne
abbrev qX := @List.pairwise_iff_getElem
abbrev qY := @List.take_left
abbrev qZ := @Array.toList_inj
abbrev qe := @List.mem_flatten
abbrev qf := @List.flatMap_append
abbrev qh := @List.perm_iff_count
abbrev qi := @List.map_nil
abbrev qj := @List.getElem?_cons_zero
abbrev qk := @Array.ext_getElem?
abbrev qn := @List.zip_cons_cons
abbrev qo := @Array.getElem?_eq_none
abbrev qp := @Nat.div_div_eq_div_mul
abbrev qr := @List.ext_getElem?
abbrev qt := @List.drop_take
abbrev qu := @Nat.mul_le_mul
abbrev qv := @List.drop_drop
abbrev qw := @Nat.zero_mul
abbrev qx := @List.map_map
abbrev qz := @Nat.succ_mul
abbrev jA := @List.getElem_map
abbrev jB := @List.sum_cons
abbrev jC := @Nat.mod_lt
abbrev jD := @List.foldl_cons
abbrev jE := @Array.toList_append
abbrev jF := @List.map_congr_left
abbrev jG := @List.zip_eq_zipWith
abbrev jH := @Option.isSome_some
abbrev jI := @Nat.pow_succ
abbrev jJ := @Option.toList_some
abbrev jK := @Int.natCast_nonneg
abbrev jL := @List.getElem_range
abbrev jM := @Bool.not_false
abbrev jN := @Bool.not_true
end Go
namespace Go.Ai
inductive AV where
 |v (x:Value)
 |str (l:List UInt8)
 |ptr (r i off:Nat)
 |rp (cells:List AV)
 |sl (r sz i len:Nat) (cap:Option Nat)
 |rs (nil:Bool) (sz:Nat) (es:List (List AV)) (cap:Option Nat)
 |agg (cells:List AV)
 |bE (vs:List AV)
 |fn (f:Fn) (first cap:List AV)
 |Bx (t:TypeId) (x:AV)
 |ty (t:TypeId) (k:Nat)
 |mp (r:Nat)
 |tk (k q r:Nat)
 |any
instance:Inhabited AV:=⟨.v undef⟩
abbrev AV.int (k:IntKind) (n:Int):AV:=.v (.int k n)
abbrev AV.bool (b:Bool):AV:=.v (.bool b)
abbrev bN:=List (List AV)
abbrev Heap:=Nat->Option bN
def ab (h:Heap) (r:Nat) (b:Option bN):Heap:=fun x=>if x=r then b else h x
def cG:Heap:=fun _=>none
def jY (f:Nat->AV) (t:Nat) (v:AV):Nat->AV:=fun x=>if x=t then v else f x
def AV.cells:AV->List AV
 |.agg cs=>cs
 |x=>[x]
def AV.one:AV->Bool
 |.agg _ | .bE _ | .v (.agg _) | .v (.tuple _) | .ty .. | .any=>false
 |_=>true
mutual
def AV.closed:AV->Bool
 |.v _ | .str _ | .any=>true
 |.ptr .. | .sl .. | .ty .. | .mp .. | .tk .. => false
 |.rp cs=>bT cs
 |.rs _ _ es _=>bl es
 |.agg cs=>bT cs
 |.bE cs=>bT cs
 |.fn _ a b=>bT a&&bT b
 |.Bx _ x=>x.closed
def bT:List AV->Bool
 |[]=>true
 |x::r=>x.closed&&bT r
def bl:List (List AV)->Bool
 |[]=>true
 |x::r=>bT x&&bl r
end
def js:Value->AV
 |.string b=>.str b.data.toList
 |.slice none 0 0=>.rs true 0 [] (some 0)
 |.func f a b=>if a.size=0&&b.size=0 then .fn f [] [] else .v (.func f a b)
 |x=>.v x
def QJ:Value->AV
 |.agg cs=>.agg (cs.toList.map js)
 |x=>js x
inductive fg where
 |t (n:Nat)
 |c (x:AV)
inductive LK where
 |i|s|b
inductive jg where
 |dm (x:fg)
 |pick (c a b:fg)
 |alloc (zero:List AV)
 |box (x:fg)
 |build (zero:List AV) (parts:List (Nat×Nat×fg))
 |bp (own:Bool) (sz:Nat) (zero:List (List AV)) (parts:List (Nat×fg))
 |load (n:Option Nat) (x:fg)
 |store (n:Nat) (x y:fg)
 |yr (x:fg)
 |bin (op:BinOp) (x y:fg)
 |Uy (op:BinOp) (x y:fg)
 |Xt (op:BinOp) (x y:fg)
 |Y1 (neg:Bool) (ks:List LK) (x y:fg)
 |un (op:UnOp) (x:fg)
 |conv (k:IntKind) (x:fg)
 |XA (x:fg)
 |ZY (x:fg)
 |Mk (x:fg)
 |r2s (x:fg)
 |nB (x:fg) (lo hi:Option fg)
 |slice (n:Nat) (x:fg) (lo hi mx:Option fg)
 |lO (n:Nat) (x i:fg)
 |idx (x i:fg)
 |s8 (off:Nat) (x:fg)
 |field (off:Nat) (n:Option Nat) (x:fg)
 |ext (x:fg) (i:Nat)
 |GU (t:TypeId) (x:fg)
 |sa (f:Fn) (first cap:List fg)
 |gA (x:fg)
 |len (x:fg)
 |cap (x:fg)
 |min (x y:fg)
 |max (x y:fg)
 |append (sz bytes:Nat) (s x:fg)
 |FK (sz bytes:Nat) (zero:List AV) (s x:fg)
 |copy (sz:Nat) (d s:fg)
 |clear (sz:Nat) (zero:List AV) (x:fg)
 |sn
 |vt (lk:LK) (zero:AV) (ok:Bool) (m k:fg)
 |Er (lk:LK) (m k v:fg)
 |M3 (m:fg)
 |sP (m:fg)
 |tJ (x:fg)
 |yx (x:fg)
 |M6 (lk:LK) (m k:fg)
 |yw (lk:LK) (zero:AV) (m k:fg)
 |tK (m s v:fg)
 |kM (sz bytes:Nat) (zero:List AV) (len cap:fg)
 |call (f:Nat) (args:List fg)
 |kH (g:fg) (args:List fg)
 |halt
 |xR (t:TypeId) (zero:List AV)
 |Gj (t:TypeId) (sz:Nat) (zero:List (List AV)) (parts:List (Nat×fg))
 |X8 (x:fg)
 |Yg (t:TypeId) (k:Nat) (x:fg)
 |z8 (op:BinOp) (x y:fg)
 |Ko (t:TypeId) (s x:fg)
 |Ed (x:fg)
 |Mr (t:TypeId) (x n:fg)
structure aL where
 dst:Option Nat
 op:jg
 guard:Option (Nat×Bool)
inductive cC where
 |skip
 |region (ops:List aL)
 |draw (pre:List (List Nat)) (ops:List aL)
 |seq (a b:cC)
 |cond (c:fg) (a b:cC)
 |block (id:Nat) (a:cC)
 |loop (a:cC)
 |exit (id:Nat)
 |ret
 |choose (d:Nat) (x:fg) (ops:List aL)
 |ah (l:List Nat)
inductive RV where
 |t (n:Nat)
 |cell (a:Nat) (n:Option Nat)
structure au where
 np:Nat
 nt:Nat
 body:cC
 kK:List RV
structure St where
 tm:Nat->AV
 hp:Heap
 nx:Nat
def ev (tm:Nat->AV):fg->AV
 |.t n=>tm n
 |.c x=>x
def HG (tm:Nat->AV):Option fg->Option AV
 |some x=>some (ev tm x)
 |none=>none
def sU (op:BinOp) (k:IntKind) (a b:Int):Option AV :=
 match op with
 |.add=>some (.int k (k.wrap (a+b)))
 |.sub=>some (.int k (k.wrap (a-b)))
 |.mul=>some (.int k (k.wrap (a*b)))
 |.quo=>if b=0 then none else some (.int k (k.wrap (a.tdiv b)))
 |.rem=>if b=0 then none else some (.int k (a.tmod b))
 |.and=>some (.int k (k.wrap (BitVec.ofInt k.bits a &&& BitVec.ofInt k.bits b).toNat))
 |.or=>some (.int k (k.wrap (BitVec.ofInt k.bits a ||| BitVec.ofInt k.bits b).toNat))
 |.xor=>some (.int k (k.wrap (BitVec.ofInt k.bits a ^^^ BitVec.ofInt k.bits b).toNat))
 |.andNot=>some (.int k (k.wrap (BitVec.ofInt k.bits a &&& ~~~ BitVec.ofInt k.bits b).toNat))
 |.eql=>some (.bool (decide (a=b)))
 |.neq=>some (.bool (!decide (a=b)))
 |.lss=>some (.bool (decide (a<b)))
 |.leq=>some (.bool (decide (a<=b)))
 |.gtr=>some (.bool (decide (a>b)))
 |.geq=>some (.bool (decide (a≥b)))
 |_=>none
def Cn (op:BinOp) (k:IntKind) (a b:Int):Option AV :=
 if b<0 then none else
 match op with
 |.shl=>some (.int k (k.wrap (a*2 ^ (Nat.min b.toNat k.bits))))
 |.shr=>some (.int k (a.fdiv (2 ^ (Nat.min b.toNat k.bits))))
 |_=>none
def al:List UInt8->List UInt8->Bool
 |_,[]=>false
 |[],_::_=>true
 |a::x,b::y=>a<b||(a==b&&al x y)
def uy (op:BinOp) (x y:List UInt8):Option AV :=
 match op with
 |.add=>if x.length+y.length<=9223372036854775807 then some (.str (x++y)) else none
 |.eql=>some (.bool (decide (x=y)))
 |.neq=>some (.bool (!decide (x=y)))
 |.lss=>some (.bool (al x y))
 |.leq=>some (.bool (al x y||decide (x=y)))
 |.gtr=>some (.bool (!(al x y||decide (x=y))))
 |.geq=>some (.bool (!al x y))
 |_=>none
def xl (op:BinOp) (b:Bool):Option AV :=
 match op with
 |.eql=>some (.bool b)
 |.neq=>some (.bool (!b))
 |_=>none
def dN (op:BinOp) (x y:AV):Option AV :=
 match x,y with
 |.v (.int k a),.v (.int k' b) =>
  match op with
  |.shl=>Cn .shl k a b
  |.shr=>Cn .shr k a b
  |op=>if k=k' then sU op k a b else none
 |.str a,.str b=>uy op a b
 |_,_=>none
def iR:LK->AV->AV->Option Bool
 |.i,.v (.int k a),.v (.int k' b)=>if k=k' then some (decide (a=b)) else none
 |.s,.str a,.str b=>some (decide (a=b))
 |.b,.v (.bool a),.v (.bool b)=>some (a==b)
 |_,_,_=>none
def iQ (lk:LK) (k:AV):bN->Option (Option (Nat×AV))
 |[]=>some none
 |[k',v]::r=>match iR lk k k' with
  |some true=>some (some (0,v))
  |some false=>match iQ lk k r with
   |some (some (i,x))=>some (some (i+1,x))
   |some none=>some none
   |none=>none
  |none=>none
 |_::_=>none
def sT:LK->AV->Bool
 |.i,.v (.int _ _)=>true
 |.s,.str _=>true
 |.b,.v (.bool _)=>true
 |_,_=>false
def eU:List LK->List AV->List AV->Option Bool
 |[],[],[]=>some true
 |k::ks,a::x,b::y=>match iR k a b,eU ks x y with
  |some p,some q=>some (p&&q)
  |_,_=>none
 |_,_,_=>none
def unA (op:UnOp) (x:AV):Option AV :=
 match op,x with
 |.neg,.v (.int k n)=>some (.int k (k.wrap (0-n)))
 |.not,.v (.bool b)=>some (.bool (!b))
 |_,_=>none
def aa {α:Type} (l:List α) (off:Nat) (new:List α):List α:=l.take off++new++l.drop (off+new.length)
def sw (zero:List AV):List (Nat×Nat×AV)->Option (List AV)
 |[]=>some zero
 |(off,n,x)::r=>if x.cells.length=n/\off+n<=zero.length/\x.cells.all AV.one=true then sw (aa zero off x.cells) r else none
def kG (sz:Nat) (zero:List (List AV)):List (Nat×AV)->Option (List (List AV))
 |[]=>some zero
 |(i,x)::r=>if x.cells.length=sz/\i<zero.length/\x.cells.all AV.one=true then kG sz (zero.set i x.cells) r else none
def gv (cells:List AV) (off:Nat):Option Nat->Option AV
 |none=>cells[off]?
 |some n=>if off+n<=cells.length then some (.agg ((cells.drop off).take n)) else none
def idxOf:AV->Option Int
 |.v (.int _ n)=>some n
 |_=>none
def bV (len top:Nat) (lo hi mx:Option AV):Option (Nat×Nat×Option Nat) :=
 let m:Option (Option Nat):=match mx with
  |none=>some none
  |some x=>match idxOf x with
   |some i=>if 0<=i/\i<=top then some (some i.toNat) else none
   |none=>none
 match m with
 |none=>none
 |some m =>
  let h:Option Nat:=match hi with
   |none=>if m.isSome then none else some len
   |some x=>match idxOf x with
    |some i=>if 0<=i/\i<=(m.getD top:Nat) then some i.toNat else none
    |none=>none
  match h with
  |none=>none
  |some h =>
   let l:Option Nat:=match lo with
    |none=>some 0
    |some x=>match idxOf x with
     |some i=>if 0<=i/\i<=h then some i.toNat else none
     |none=>none
   match l with
   |none=>none
   |some l=>some (l,h,m)
def ef (m:Option Nat) (l:Nat) (cap:Option Nat):Option Nat :=
 match m with
 |some m=>some (m-l)
 |none=>cap.map (· - l)
def b9 (n:Nat) (x:AV) (lo hi mx:Option AV):Option AV :=
 match x with
 |.sl r sz i len cap=>if sz=n then
   match bV len (cap.getD len) lo hi mx with
   |some (l,h,m)=>some (.sl r sz (i+l) (h-l) (ef m l cap))
   |none=>none
  else none
 |.rs nil sz es cap=>if nil=true\/sz=n then
   match bV es.length es.length lo hi mx with
   |some (l,h,m)=>some (.rs nil sz ((es.take h).drop l) (ef m l cap))
   |none=>none
  else none
 |_=>none
def eW (x:AV) (lo hi:Option AV):Option AV :=
 match x with
 |.str s=>match bV s.length s.length lo hi none with
  |some (l,h,_)=>some (.str ((s.take h).drop l))
  |none=>none
 |_=>none
def bytesOf (l:List UInt8):bN:=l.map fun b=>[.v (.int .u8 b.toNat)]
def pP:List AV->Option UInt8
 |[.v (.int .u8 n)]=>some (UInt8.ofNat n.toNat)
 |_=>none
def eT:bN->Option (List UInt8)
 |[]=>some []
 |c::r=>match pP c,eT r with
  |some b,some l=>some (b::l)
  |_,_=>none
def AF:bN->Option (List UInt8)
 |[]=>some []
 |c::r=>match pP c,AF r with
  |some b,some l=>match c with
   |[.v (.int .u8 n)]=>if n=b.toNat then some (b::l) else none
   |_=>none
  |_,_=>none
def fV (tm:Nat->AV):jg->Option AV
 |.dm x=>some (ev tm x)
 |.pick c a b=>match ev tm c with
  |.v (.bool t)=>some (if t then ev tm a else ev tm b)
  |_=>none
 |.build zero parts=>(sw zero (parts.map fun p=>(p.1,p.2.1,ev tm p.2.2))).map .agg
 |.bp false sz zero parts=>(kG sz zero (parts.map fun p=>(p.1,ev tm p.2))).map fun es=>.rs false sz es (some es.length)
 |.load n x=>match ev tm x with
  |.rp cells=>gv cells 0 n
  |_=>none
 |.yr x=>match ev tm x with
  |.ptr r i o=>some (.ptr r i o)
  |.rp cs=>some (.rp cs)
  |.fn (.func f) a b=>some (.fn (.func f) a b)
  |_=>none
 |.bin op x y=>dN op (ev tm x) (ev tm y)
 |.Uy op x y=>match ev tm x,ev tm y with
  |.v (.bool a),.v (.bool b)=>xl op (a==b)
  |_,_=>none
 |.Xt op x y=>match ev tm x,ev tm y with
  |.rs n _ _ _,.rs true _ _ _=>xl op n
  |.sl ..,.rs true _ _ _=>xl op false
  |_,_=>none
 |.Y1 neg ks x y=>match ev tm x,ev tm y with
  |.agg a,.agg b=>(eU ks a b).map fun q=>.bool (if neg then !q else q)
  |_,_=>none
 |.un op x=>unA op (ev tm x)
 |.conv k x=>match ev tm x with
  |.v (.int _ n)=>some (.int k (k.wrap n))
  |_=>none
 |.XA x=>match ev tm x with
  |.str l=>some (.str l)
  |_=>none
 |.Mk x=>match ev tm x with
  |.rs nil sz es _=>if nil=true\/sz=1 then (eT es).map .str else none
  |_=>none
 |.r2s x=>match ev tm x with
  |.v (.int _ n)=>some (.str (Utf8.encode n).data.toList)
  |_=>none
 |.nB x lo hi=>eW (ev tm x) (HG tm lo) (HG tm hi)
 |.slice n x lo hi mx=>b9 n (ev tm x) (HG tm lo) (HG tm hi) (HG tm mx)
 |.lO n x i=>match ev tm x,ev tm i with
  |.sl r sz j len _,.v (.int _ k)=>if sz=n/\0<=k/\k<len then some (.ptr r (j+k.toNat) 0) else none
  |.rs _ sz es _,.v (.int _ k)=>if sz=n/\0<=k then (es[k.toNat]?).map .rp else none
  |_,_=>none
 |.idx x i=>match ev tm x,ev tm i with
  |.str s,.v (.int _ k)=>if 0<=k then (s[k.toNat]?).map fun b=>.int .u8 b.toNat else none
  |_,_=>none
 |.s8 off x=>match ev tm x with
  |.ptr r i o=>some (.ptr r i (o+off))
  |.rp cells=>some (.rp (cells.drop off))
  |_=>none
 |.field off n x=>match ev tm x with
  |.agg cs=>gv cs off n
  |_=>none
 |.ext x i=>match ev tm x with
  |.bE vs=>vs[i]?
  |_=>none
 |.GU t x=>some (.Bx t (ev tm x))
 |.sa f a b=>some (.fn f (a.map (ev tm)) (b.map (ev tm)))
 |.gA x=>match ev tm x with
  |.str s=>some (.int .i64 s.length)
  |_=>none
 |.len x=>match ev tm x with
  |.sl _ _ _ len _=>some (.int .i64 len)
  |.rs _ _ es _=>some (.int .i64 es.length)
  |_=>none
 |.cap x=>match ev tm x with
  |.sl _ _ _ _ (some c)=>some (.int .i64 c)
  |.rs _ _ _ (some c)=>some (.int .i64 c)
  |_=>none
 |.min x y=>match ev tm x,ev tm y with
  |.v (.int k a),.v (.int k' b)=>some (.int k (if b<a then b else a))
  |_,_=>none
 |.max x y=>match ev tm x,ev tm y with
  |.v (.int k a),.v (.int k' b)=>some (.int k (if b>a then b else a))
  |_,_=>none
 |.z8 op x y=>match ev tm x,ev tm y with
  |.v (.pointer none),.v (.pointer none)=>xl op true
  |.ptr ..,.v (.pointer none)=>xl op false
  |.rp _,.v (.pointer none)=>xl op false
  |.ptr r i o,.ptr r' i' o'=>if r=r'/\i=i'/\o=o' then xl op true else none
  |_,_=>none
 |.Ed x=>match ev tm x with
  |.rs true _ _ _=>some (.v (.pointer none))
  |.sl r sz i len _=>if 0<len/\sz=1 then some (.ptr r i 0) else none
  |_=>none
 |_=>none
def lF (tm:Nat->AV) (hp:Heap):jg->Option (AV×Nat)
 |.load n x=>match ev tm x with
  |.ptr r i o=>match hp r with
   |some es=>match es[i]? with
    |some l=>(gv l o n).map fun v=>(v,r)
    |none=>none
   |none=>none
  |_=>none
 |.Mk x=>match ev tm x with
  |.sl r sz i len _=>match hp r with
   |some es=>if sz=1/\i+len<=es.length then (eT ((es.drop i).take len)).map fun l=>(.str l,r) else none
   |none=>none
  |_=>none
 |.X8 x=>match ev tm x with
  |.ptr r 0 0=>match hp r with
   |some ((_::_)::_)=>some (.ptr r 0 0,r)
   |_=>none
  |_=>none
 |.Yg t k x=>match ev tm x with
  |.ptr q 0 0=>match hp (q+1) with
   |some [[.ty t' k']]=>if t'=t/\k'=k then some (.ptr q 0 0,q+1) else none
   |_=>none
  |_=>none
 |.vt lk zero ok m k=>match ev tm m with
  |.mp r=>match hp r with
   |some es=>if sT lk (ev tm k)=true then
     match iQ lk (ev tm k) es with
     |some (some (_,v))=>some (if ok then .bE [v,.bool true] else v,r)
     |some none=>some (if ok then .bE [zero,.bool false] else zero,r)
     |none=>none
    else none
   |none=>none
  |_=>none
 |.M3 m=>match ev tm m with
  |.mp r=>match hp r with
   |some es=>some (.int .i64 es.length,r)
   |none=>none
  |_=>none
 |_=>none
def aR (hp:Heap) (sz:Nat):AV->Option bN
 |.rs nil z es _=>if nil=true\/z=sz then some es else none
 |.sl r z i len _=>if z=sz then match hp r with
   |some es=>if i+len<=es.length then some ((es.drop i).take len) else none
   |none=>none
  else none
 |.str l=>if sz=1 then some (bytesOf l) else none
 |_=>none
def cI (sz bytes:Nat) (s:AV) (new:bN) (hp:Heap) (nx:Nat):Option (AV×Heap×Nat) :=
 match s with
 |.rs nil z es cap=>if nil=true\/z=sz then
   if new.length=0 then some (.rs nil z es cap,hp,nx)
   else match cap with
    |some c=>if c<es.length+new.length/\(es.length+new.length)*bytes<=140737488355328 then
      some (.sl nx sz 0 (es.length+new.length) none,ab hp nx (some (es++new)),nx+1) else none
    |none=>none
  else none
 |.sl r z i len cap=>if z=sz then
   match hp r with
   |none=>none
   |some es=>if es.length<i+len then none else
    match cap with
    |some c =>
     if len+new.length<=c then
      if i+len+new.length<=es.length then some (.sl r sz i (len+new.length) (some c),ab hp r (some (aa es (i+len) new)),nx) else none
     else if (len+new.length)*bytes<=140737488355328 then
      some (.sl nx sz 0 (len+new.length) none,ab hp nx (some ((es.drop i).take len++new)),nx+1)
     else none
    |none =>
     if i+len+new.length<=es.length then some (.sl r sz i (len+new.length) none,ab hp r (some (aa es (i+len) new)),nx)
     else if (len+new.length)*bytes<=140737488355328 then
      some (.sl nx sz 0 (len+new.length) none,ab (ab hp r none) nx (some ((es.drop i).take len++new)),nx+1)
     else none
  else none
 |_=>none
def vj (t:TypeId) (s:AV) (new:bN) (hp:Heap) (nx:Nat):Option (AV×Heap×Nat) :=
 match s with
 |.rs true z [] (some 0) =>
  if new.length=0 then some (.rs true z [] (some 0),hp,nx)
  else if new.length<=140737488355328 then some (.sl nx 1 0 new.length none,ab (ab hp nx (some new)) (nx+1) (some [[.ty t 0]]),nx+2) else none
 |.sl q sz i len none=>if sz=1/\i=0 then
   match hp (q+1),hp q with
   |some [[.ty t' k]],some es=>if t'=t/\len<=es.length then
     if len+new.length<=es.length then some (.sl q 1 0 (len+new.length) none,ab hp q (some (aa es len new)),nx)
     else if len+new.length<=140737488355328 then
      some (.sl nx 1 0 (len+new.length) none,ab (ab (ab hp q none) nx (some (es.take len++new))) (nx+1) (some [[.ty t 0]]),nx+2)
     else none
    else none
   |_,_=>none
  else none
 |_=>none
def ij:bN->Nat->List Nat
 |[],_=>[]
 |[.v (.bool true)]::r,i=>i::ij r (i+1)
 |_::r,i=>ij r (i+1)
def fb (tm:Nat->AV) (hp:Heap) (nx:Nat):jg->Option (AV×Heap×Nat)
 |.alloc zero=>some (.ptr nx 0 0,ab hp nx (some [zero]),nx+1)
 |.box x=>if (ev tm x).cells.all AV.one=true then some (.ptr nx 0 0,ab hp nx (some [(ev tm x).cells]),nx+1) else none
 |.bp true sz zero parts=>match kG sz zero (parts.map fun p=>(p.1,ev tm p.2)) with
  |some es=>some (.sl nx sz 0 es.length (some es.length),ab hp nx (some es),nx+1)
  |none=>none
 |.store n x y=>match ev tm x with
  |.ptr r i o=>match hp r with
   |some es=>match es[i]? with
    |some l=>if (ev tm y).cells.length=n/\o+n<=l.length/\(ev tm y).cells.all AV.one=true then
      some (.v undef,ab hp r (some (es.set i (aa l o (ev tm y).cells))),nx) else none
    |none=>none
   |none=>none
  |_=>none
 |.ZY x=>match ev tm x with
  |.str l=>some (.sl nx 1 0 l.length none,ab hp nx (some (bytesOf l)),nx+1)
  |_=>none
 |.append sz bytes s x=>match aR hp sz (ev tm x) with
  |some new=>if new.all (fun l=>l.all AV.one)=true then cI sz bytes (ev tm s) new hp nx else none
  |none=>none
 |.FK sz bytes zero s x=>match ev tm x with
  |.v (.int _ n)=>if 0<=n/\n*bytes<=140737488355328/\n<=140737488355328/\zero.length=sz/\zero.all AV.one=true then cI sz bytes (ev tm s) (List.replicate n.toNat zero) hp nx else none
  |_=>none
 |.copy sz d s=>match aR hp sz (ev tm s) with
  |some src=>match ev tm d with
   |.sl r z i len _=>if z=sz then
     match hp r with
     |some es=>if i+len<=es.length/\(src.take len).all (fun l=>l.all AV.one)=true then
       some (.int .i64 (Nat.min src.length len),ab hp r (some (aa es i (src.take len))),nx) else none
     |none=>none
    else none
   |_=>none
  |none=>none
 |.sn=>some (.mp nx,ab hp nx (some []),nx+1)
 |.Er lk m k v=>match ev tm m with
  |.mp r=>match hp r with
   |some es=>if sT lk (ev tm k)=true then
     match iQ lk (ev tm k) es with
     |some (some (i,_))=>some (.v undef,ab hp r (some (es.set i [ev tm k,ev tm v])),nx)
     |some none=>some (.v undef,ab hp r (some (es++[[ev tm k,ev tm v]])),nx)
     |none=>none
    else none
   |none=>none
  |_=>none
 |.sP m=>match ev tm m with
  |.mp r=>match hp r with
   |some es=>some (.tk 0 nx r,ab (ab (ab hp nx (some ([.v (.int .i64 0)]::es.map fun _=>[.v (.bool true)]))) r none) (nx+1) (some es),nx+2)
   |none=>none
  |_=>none
 |.tJ x=>match ev tm x with
  |.tk 0 q r=>match hp q,hp (q+1) with
   |some (_::fl),some es=>match ij fl 0 with
    |[]=>some (.bE [.v (.bool false)],ab (ab (ab hp q none) (q+1) none) r (some es),nx)
    |[j]=>match es[j]? with
     |some [k,v]=>some (.bE [.v (.bool true),k,v],ab hp q (some ([.v (.int .i64 (j+1:Nat))]::fl.set j [.v (.bool false)])),nx)
     |_=>none
    |_=>none
   |_,_=>none
  |_=>none
 |.yx x=>match ev tm x with
  |.tk 0 q r=>match hp q,hp (q+1) with
   |some ([.v (.int .i64 n)]::_),some es=>if 0<n then
     match es[n.toNat-1]? with
     |some [k,v]=>some (.bE [k,v],hp,nx)
     |_=>none
    else none
   |_,_=>none
  |_=>none
 |.M6 lk m k=>match ev tm m with
  |.mp r=>match hp r with
   |some es=>if sT lk (ev tm k)=true then
     match iQ lk (ev tm k) es with
     |some (some (i,_))=>some (.v (.tuple #[]),ab hp r (some (es.eraseIdx i)),nx)
     |some none=>some (.v (.tuple #[]),ab hp r (some es),nx)
     |none=>none
    else none
   |none=>none
  |_=>none
 |.yw lk zero m k=>match ev tm m with
  |.mp r=>match hp r with
   |some es=>if sT lk (ev tm k)=true then
     match iQ lk (ev tm k) es with
     |some (some (i,v))=>some (.bE [v,.tk (i+1) nx r],ab (ab (ab hp r (some (es.set i [ev tm k,v]))) r none) nx (some (es.set i [ev tm k,v])),nx+1)
     |some none=>some (.bE [zero,.tk (es.length+1) nx r],ab (ab (ab hp r (some (es++[[ev tm k,zero]]))) r none) nx (some (es++[[ev tm k,zero]])),nx+1)
     |none=>none
    else none
   |none=>none
  |_=>none
 |.tK m s v=>match ev tm m,ev tm s with
  |.mp r,.tk (i+1) q r'=>if r=r' then
    match hp q with
    |some es=>match es[i]? with
     |some [k,_]=>some (.v undef,ab (ab (ab hp q (some (es.set i [k,ev tm v]))) q none) r (some (es.set i [k,ev tm v])),nx)
     |_=>none
    |none=>none
   else none
  |_,_=>none
 |.clear sz zero x=>match ev tm x with
  |.sl r z i len _=>if z=sz then
    match hp r with
    |some es=>if i+len<=es.length/\zero.length=sz/\0<sz/\zero.all AV.one=true then
      some (.v (.tuple #[]),ab hp r (some (aa es i (List.replicate len zero))),nx) else none
    |none=>none
   else none
  |_=>none
 |.kM sz bytes zero len cap=>match ev tm len,ev tm cap with
  |.v (.int _ n),.v (.int _ c)=>if 0<=n/\n<=c/\c*bytes<=140737488355328/\c<=140737488355328 then
    some (.sl nx sz 0 n.toNat (some c.toNat),ab hp nx (some (List.replicate c.toNat zero)),nx+1) else none
  |_,_=>none
 |.Gj t sz zero parts=>match kG sz zero (parts.map fun p=>(p.1,ev tm p.2)) with
  |some es=>some (.sl nx sz 0 es.length (some es.length),ab (ab hp nx (some es)) (nx+1) (some [[.ty t 0],[]]),nx+2)
  |none=>none
 |.xR t zero=>some (.ptr nx 0 0,ab (ab hp nx (some [zero])) (nx+1) (some [[.ty t zero.length]]),nx+2)
 |.Ko t s x=>match aR hp 1 (ev tm x) with
  |some new=>if new.all (fun l=>l.all AV.one)=true then vj t (ev tm s) new hp nx else none
  |none=>none
 |.Mr t x n=>match ev tm x,ev tm n with
  |.v (.pointer none),.v (.int .i64 0)=>some (.str [],hp,nx)
  |.ptr q 0 0,.v (.int .i64 n)=>match hp (q+1),hp q with
   |some [[.ty t' _]],some es=>if t'=t/\0<n/\n<=es.length/\n<=9223372036854775807 then (AF (es.take n.toNat)).map fun l=>(.str l,ab hp q none,nx) else none
   |_,_=>none
  |_,_=>none
 |_=>none
inductive Kd where
 |p
 |r (x:Nat)
 |e
 |a
def No:jg->Kd
 |.alloc _=>.a
 |.box _=>.a
 |.sn=>.a
 |_=>.e
abbrev aQ:=Nat->List AV->Heap->Nat->AV->Heap->Nat->Kd->Prop
def gQ (R:aQ) (f:Nat) (args:List AV) (hp:Heap) (nx:Nat) (K:AV->Heap->Nat->Kd->Prop):Prop :=
 ∃v hp' nx' k,R f args hp nx v hp' nx' k/\K v hp' nx' k
def ey (R:aQ) (co:jg) (s:St) (K:AV->Heap->Nat->Kd->Prop):Prop :=
 match co with
 |.call f args=>gQ R f (args.map (ev s.tm)) s.hp s.nx K
 |.kH g args=>match ev s.tm g with
  |.fn (.func f) first cap=>gQ R f (first++args.map (ev s.tm)++cap) s.hp s.nx K
  |_=>False
 |co=>match fV s.tm co with
  |some v=>K v s.hp s.nx .p
  |none=>match lF s.tm s.hp co with
   |some (v,r)=>K v s.hp s.nx (.r r)
   |none=>match fb s.tm s.hp s.nx co with
    |some (v,hp,nx)=>K v hp nx (No co)
    |none=>False
def St.put (s:St) (d:Option Nat) (v:AV) (hp:Heap) (nx:Nat):St :=
 match d with
 |some d=>⟨jY s.tm d v,hp,nx⟩
 |none=>⟨s.tm,hp,nx⟩
def gR (tm:Nat->AV):Option (Nat×Bool)->Option Bool
 |none=>some true
 |some (d,want)=>match tm d with
  |.v (.bool b)=>some (b==want)
  |.v (.tuple _)=>some false
  |_=>none
def gq (R:aQ):List aL->St->(St->Prop)->Prop
 |[],s,Q=>Q s
 |o::rest,s,Q=>match gR s.tm o.guard with
  |some true=>ey R o.op s fun v hp nx _=>gq R rest (s.put o.dst v hp nx) Q
  |some false=>gq R rest (s.put o.dst (.v undef) s.hp s.nx) Q
  |none=>False
structure Rec where
 k:Kd
 hp:Heap
 hp':Heap
def eg (R:aQ):List aL->St->List Rec->(St->List Rec->Prop)->Prop
 |[],s,bj,Q=>Q s bj
 |o::rest,s,bj,Q=>match gR s.tm o.guard with
  |some true=>ey R o.op s fun v hp nx k=>eg R rest (s.put o.dst v hp nx) (bj++[⟨k,s.hp,hp⟩]) Q
  |some false=>eg R rest (s.put o.dst (.v undef) s.hp s.nx) (bj++[⟨.p,s.hp,s.hp⟩]) Q
  |none=>False
def gz (a b:Rec):Prop :=
 match a.k,b.k with
 |.e,.e=>False
 |.a,.e=>False
 |.r x,.e=>b.hp x=b.hp' x
 |.e,.r x=>a.hp x=a.hp' x
 |.r x,.a=>b.hp x=b.hp' x
 |.a,.r x=>a.hp x=a.hp' x
 |_,_=>True
def Kd.IH:Kd->Bool
 |.a=>true
 |_=>false
def Kd.xJ:Kd->Bool
 |.a | .e=>true
 |_=>false
def iW (pre:List (List Nat)):List (Bool×Bool)->List Nat->Nat->Bool
 |[],_,_=>true
 |(a,e)::r,lJ,i=>(if a then pre.all fun p=>if p.contains i then lJ.all fun k=>p.contains k else true else true)&&iW pre r (if e then lJ++[i] else lJ) (i+1)
def cZ (pre:List (List Nat)) (bj:List Rec):Prop:=go pre bj [] 0/\iW pre (bj.map fun r=>(r.k.IH,r.k.xJ)) [] 0=true
where
 one (p:List Nat) (b:Rec):List Rec->Nat->Prop
  |[],_=>True
  |a::rest,i=>(if p.contains i then True else gz a b)/\one p b rest (i+1)
 go:List (List Nat)->List Rec->List Rec->Nat->Prop
  |p::ps,b::rest,done,j=>one p b done 0/\go ps rest (done++[b]) (j+1)
  |_,[],_,_=>True
  |[],_::_,_,_=>False
inductive eS where
 |normal
 |exit (id:Nat)
 |ret
def jj (F:(eS->St->Prop)->St->Prop) (Q:eS->St->Prop):Nat->St->Prop
 |0,_=>False
 |n+1,s=>F (fun e s'=>match e with
  |.normal=>jj F Q n s'
  |e=>Q e s') s
def MU (hp:Heap) (q:Nat) (fl es:bN) (j:Nat):Option (AV×Heap) :=
 match es[j]? with
 |some [k,v]=>some (.bE [.v (.bool true),k,v],ab hp q (some ([.v (.int .i64 (j+1:Nat))]::fl.set j [.v (.bool false)])))
 |_=>none
def Ap (tm:Nat->AV) (hp:Heap) (x:fg) (K:AV->Heap->Prop):Prop :=
 ∃q r hd fl es,ev tm x=.tk 0 q r/\hp q=some (hd::fl)/\hp (q+1)=some es /\
  (ij fl 0=[]->K (.bE [.v (.bool false)]) (ab (ab (ab hp q none) (q+1) none) r (some es))) /\
  ∀j∈ij fl 0,∃p,MU hp q fl es j=some p/\K p.1 p.2
def W (R:aQ):cC->(eS->St->Prop)->St->Prop
 |.skip,Q,s=>Q .normal s
 |.region ops,Q,s=>gq R ops s (Q .normal)
 |.draw pre ops,Q,s=>eg R ops s [] fun s' bj=>cZ pre bj/\Q .normal s'
 |.seq a b,Q,s=>W R a (fun e s'=>match e with
  |.normal=>W R b Q s'
  |e=>Q e s') s
 |.cond c a b,Q,s=>match ev s.tm c with
  |.v (.bool t)=>if t then W R a Q s else W R b Q s
  |_=>False
 |.block id a,Q,s=>W R a (fun e s'=>match e with
  |.exit i=>if i=id then Q .normal s' else Q (.exit i) s'
  |e=>Q e s') s
 |.loop a,Q,s=>∃n,jj (W R a) Q n s
 |.exit id,Q,s=>Q (.exit id) s
 |.ret,Q,s=>Q .ret s
 |.choose d x ops,Q,s=>Ap s.tm s.hp x fun v hp=>gq R ops ⟨jY s.tm d v,hp,s.nx⟩ (Q .normal)
 |.ah l,Q,s=>Q .normal ⟨fun t=>if l.contains t=true then s.tm t else .any,s.hp,s.nx⟩
def dW {α β:Type} (f:α->Option β):List α->Option (List β)
 |[]=>some []
 |x::r=>match f x,dW f r with
  |some y,some l=>some (y::l)
  |_,_=>none
def kh:Nat->Heap->AV->Option AV
 |0,_,_=>none
 |d+1,hp,x=>if x.closed then some x else
  match x with
  |.sl r sz i len cap=>match hp r with
   |some es=>if i+len<=es.length then (dW (dW (kh d hp)) ((es.drop i).take len)).map fun es'=>.rs false sz es' cap else none
   |none=>none
  |.agg cs=>(dW (kh d hp) cs).map .agg
  |.bE cs=>(dW (kh d hp) cs).map .bE
  |_=>none
mutual
def AV.flat:AV->Bool
 |.v _ | .str _ | .any=>true
 |.rs n _ es _=>n&&es.isEmpty
 |.agg cs=>Fg cs
 |.bE cs=>Fg cs
 |_=>false
def Fg:List AV->Bool
 |[]=>true
 |x::r=>x.flat&&Fg r
end
def di (hp:Heap) (L:List Nat):Heap:=fun r=>if r∈L then hp r else none
def kl (hp:Heap) (L:List Nat):Heap:=fun r=>if r∈L then none else hp r
def fO:Nat->Heap->AV->Option AV
 |0,_,_=>none
 |d+1,hp,x=>if x.closed then some x else
  match x with
  |.ptr r i o=>some (.ptr r i o)
  |.mp r=>some (.mp r)
  |.sl r sz i len cap=>match hp r with
   |some es=>if i+len<=es.length then (dW (dW (kh d hp)) ((es.drop i).take len)).map fun es'=>.rs false sz es' cap else none
   |none=>some (.sl r sz i len cap)
  |.agg cs=>(dW (fO d hp) cs).map .agg
  |.bE cs=>(dW (fO d hp) cs).map .bE
  |.fn f a b=>match dW (fO d hp) a,dW (fO d hp) b with
   |some a',some b'=>some (.fn f a' b')
   |_,_=>none
  |_=>none
def kx (s:St):RV->Option AV
 |.t n=>some (s.tm n)
 |.cell a n=>match s.tm a with
  |.ptr r i o=>match s.hp r with
   |some es=>match es[i]? with
    |some l=>gv l o n
    |none=>none
   |none=>none
  |.rp cells=>gv cells 0 n
  |_=>none
def ma (rs:List RV) (s:St):Option AV :=
 match rs with
 |[r]=>kx s r
 |rs=>(dW (kx s) rs).map .bE
def init (args:List AV) (hp:Heap) (nx:Nat):St:=⟨fun t=>(args[t]?).getD .any,hp,nx⟩
def Sub (hp' hp:Heap):Prop:=∀r,hp' r=hp r\/hp' r=none
structure Env where
 fn:Nat->Option au
 AH:aQ
def kI (e:eS):Prop:=e=.normal\/e=.ret
def vd (E:Env):Nat->aQ
 |0=>fun _ _ _ _ _ _ _ _=>False
 |n+1=>fun f args hp nx v hp' nx' k =>
  E.AH f args hp nx v hp' nx' k \/
  (∃cf,E.fn f=some cf/\args.length=cf.np /\
   ((k=.p/\hp'=hp/\nx'=nx/\bT args=true/\W (vd E n) cf.body (fun e s=>kI e/\∃v1,ma cf.kK s=some v1/\kh 6 s.hp v1=some v) (init args cG 0)) \/
    (k=.e/\W (vd E n) cf.body (fun e s=>kI e/\ma cf.kK s=some v/\Sub hp' s.hp/\nx'=s.nx) (init args hp nx)))) \/
  (k=.e/\hp'=hp/\nx'=nx/\v.flat=true/\∃args0,dW (kh 6 hp) args=some args0/\vd E n f args0 cG 0 v cG 0 .p) \/
  (k=.e/\∃args0 L k',dW (fO 6 (di hp L)) args=some args0/\vd E n f args0 (kl hp L) nx v hp' nx' k') \/
  (k=.e/\hp'=hp/\nx'=nx/\v.flat=true/\∃nx1,vd E n f args hp nx v hp nx1 .e)
def aY (E:Env):aQ:=fun f args hp nx v hp' nx' k=>∃n,vd E n f args hp nx v hp' nx' k
def I2:Nat->Option (List Value):=fun _=>none
theorem C2:∀g vs,I2 g≠some vs:=fun _ _ h=>nomatch h
structure Place where
 B:Nat
 O:Nat
 sz:Nat
 N:Nat
 aux:List Nat
abbrev Inj:=Nat->Option Place
def ad8 (ι:Inj) (hp:Heap) (B:Nat):Prop:=∃r p,hp r≠none/\ι r=some p/\p.B=B
structure Rl where
 F:Nat->Prop
 G:List Deferred
instance:CoeFun Rl (fun _=>Nat->Prop):=⟨Rl.F⟩
structure Cx where
 F:Rl
 ι:Inj
 hp:Heap
 w:World
def Cx.own (c:Cx) (B:Nat):Prop:=ad8 c.ι c.hp B
def Cx.ro (c:Cx) (B:Nat):Prop:=B<c.w.heap.size/\¬c.own B/\¬c.F B
inductive aC (c:Cx):AV->Value->Prop
 |v (x:Value):aC c (.v x) x
 |str (l:List UInt8):aC c (.str l) (.string ⟨l.toArray⟩)
 |ptr {r i off:Nat} {p:Place} (h:c.ι r=some p) (hm:p.O<=p.N):aC c (.ptr r i off) (.pointer (some ⟨p.B,p.O+i*p.sz+off,none⟩))
 |rp {cells:List AV} {B O:Nat} (g:Nat->Value) (bZ:cells≠[]->c.ro B)
   (hc:∀(k:Nat) (av:AV),cells[k]?=some av->c.w.cell? ⟨B,O+k,none⟩=some (g k)) (hv:∀(k:Nat) (av:AV),cells[k]?=some av->aC c av (g k)) :
   aC c (.rp cells) (.pointer (some ⟨B,O,none⟩))
 |sl {r sz i len n:Nat} {cap:Option Nat} {p:Place} {a:Addr} (hι:c.ι r=some p) (hs:p.sz=sz) (ha:n≠0->a=⟨p.B,p.O+i*sz,none⟩)
   (hl:len<=n) (dq:∀m,cap=some m->m=n) (hN:n≠0->p.O+(i+n)*sz<=p.N) (hE:cap=none->p.O+(i+n)*sz=p.N) (hm:p.O<=p.N):aC c (.sl r sz i len cap) (.slice (some a) len n)
 |mp {r:Nat} {p:Place} (h:c.ι r=some p) (hm:p.O=p.N+1):aC c (.mp r) (.map (some p.B))
 |it {q r:Nat} {p p' pr:Place} (h:c.ι q=some p) (h':c.ι (q+1)=some p') (hr:c.ι r=some pr) (hm:p.O=p.N+2) (rJ:p'.O=p'.N+3) (sb:pr.O=pr.N+1) (e1:p'.B=pr.B) (e2:p.N=pr.B) (e3:p'.aux=p.aux) (e4:p'.sz=p.sz) :
   aC c (.tk 0 q r) (.pointer (some ⟨p.B,0,none⟩))
 |Gr {i q r s:Nat} {p pr:Place} (h:c.ι q=some p) (hr:c.ι r=some pr) (hm:p.O=p.N+3) (sb:pr.O=pr.N+1) (e1:p.B=pr.B) (hs:p.aux[i]?=some s):aC c (.tk (i+1) q r) (.int .i64 s)
 |nil {sz:Nat} {cap:Option Nat} (dq:∀m,cap=some m->m=0):aC c (.rs true sz [] cap) (.slice none 0 0)
 |rs {sz n len:Nat} {es:List (List AV)} {cap:Option Nat} {a:Addr} (g:Nat->Nat->Value) (hlen:es.length=len) (hl:len<=n) (dq:∀m,cap=some m->m=n)
   (ew:∀(i:Nat) (l:List AV),es[i]?=some l->l.length=sz) (bZ:es≠[]->c.ro a.block/\a.spot=none)
   (hc:∀(i j:Nat) (l:List AV) (av:AV),es[i]?=some l->l[j]?=some av->c.w.cell? ⟨a.block,a.off+i*sz+j,none⟩=some (g i j))
   (hv:∀(i j:Nat) (l:List AV) (av:AV),es[i]?=some l->l[j]?=some av->aC c av (g i j)):aC c (.rs false sz es cap) (.slice (some a) len n)
 |agg {cells:List AV} {cs:Array Value} (hl:cells.length=cs.size) (hv:∀(k:Nat) (av:AV) (u:Value),cells[k]?=some av->cs[k]?=some u->aC c av u):aC c (.agg cells) (.agg cs)
 |bE {cells:List AV} {cs:Array Value} (hl:cells.length=cs.size) (hv:∀(k:Nat) (av:AV) (u:Value),cells[k]?=some av->cs[k]?=some u->aC c av u):aC c (.bE cells) (.tuple cs)
 |fn {f:Fn} {x y:List AV} {cx cy:Array Value} (h1:x.length=cx.size) (h2:y.length=cy.size)
   (hx:∀(k:Nat) (av:AV) (u:Value),x[k]?=some av->cx[k]?=some u->aC c av u) (hy:∀(k:Nat) (av:AV) (u:Value),y[k]?=some av->cy[k]?=some u->aC c av u):aC c (.fn f x y) (.func f cx cy)
 |Bx {t:TypeId} {x:AV} {u:Value} (h:aC c x u):aC c (.Bx t x) (.iface t u)
 |any (u:Value):aC c .any u
structure Ext (c c':Cx):Prop where
 F:c'.F=c.F
 ι:∀r p,c.ι r=some p->c'.ι r=some p
 size:c.w.heap.size<=c'.w.heap.size
 ah:∀B,B<c.w.heap.size->¬c.own B->¬c'.own B/\c'.w.heap[B]?=c.w.heap[B]?
 os:c'.w.os=c.w.os
 tape:c'.w.tape=c.w.tape
 output:c'.w.output=c.w.output
theorem Ext.refl (c:Cx):Ext c c:=⟨rfl,fun _ _ h=>h,zD _,fun _ _ h=>⟨h,rfl⟩,rfl,rfl,rfl⟩
theorem Ext.trans {a b c:Cx} (h:Ext a b) (k:Ext b c):Ext a c :=
 ⟨k.F.trans h.F,fun r p e=>k.ι r p (h.ι r p e),wF h.size k.size,fun B hB ho=>by
  obtain ⟨h1,h2⟩:=h.ah B hB ho
  obtain ⟨h3,h4⟩:=k.ah B (zU hB h.size) h1
  exact ⟨h3,h4.trans h2⟩,k.os.trans h.os,k.tape.trans h.tape,k.output.trans h.output⟩
theorem Ext.ro {c c':Cx} (h:Ext c c') {B:Nat} (hB:c.ro B):c'.ro B :=
 ⟨zU hB.1 h.size,(h.ah B hB.1 hB.2.1).1,by rw[h.F];exact hB.2.2⟩
theorem cell?_of_heap {w w':World} {a:Addr} (h:w'.heap[a.block]?=w.heap[a.block]?):w'.cell? a=w.cell? a:=by simp only[World.cell?,h]
theorem Ext.cell {c c':Cx} (h:Ext c c') {a:Addr} (hB:c.ro a.block):c'.w.cell? a=c.w.cell? a:=cell?_of_heap (h.ah _ hB.1 hB.2.1).2
theorem cj {α:Type} {l:List α} {k:Nat} {x:α} (h:l[k]?=some x):l≠[]:=by
 intro e;subst e;simp at h
theorem aC.mono {c c':Cx} (e:Ext c c') {x:AV} {u:Value} (h:aC c x u):aC c' x u:=by
 induction h with
 |v x=>exact .v x
 |str l=>exact .str l
 |ptr h hm=>exact .ptr (e.ι _ _ h) hm
 |mp h hm=>exact .mp (e.ι _ _ h) hm
 |it h h' hr hm rJ sb e1 e2 e3 e4=>exact .it (e.ι _ _ h) (e.ι _ _ h') (e.ι _ _ hr) hm rJ sb e1 e2 e3 e4
 |Gr h hr hm sb e1 hs=>exact .Gr (e.ι _ _ h) (e.ι _ _ hr) hm sb e1 hs
 |rp g bZ hc hv ih=>exact .rp g (fun h=>e.ro (bZ h)) (fun k av h=>by rw[e.cell (bZ (cj h))];exact hc k av h) ih
 |sl hι hs ha hl dq hN hE hm=>exact .sl (e.ι _ _ hι) hs ha hl dq hN hE hm
 |nil h=>exact .nil h
 |rs g hlen hl dq ew bZ hc hv ih =>
  exact .rs g hlen hl dq ew (fun h=>⟨e.ro (bZ h).1,(bZ h).2⟩) (fun i j l av h1 h2=>(e.cell (a:=⟨_,_,none⟩) (bZ (cj h1)).1).trans (hc i j l av h1 h2)) ih
 |agg hl hv ih=>exact .agg hl ih
 |bE hl hv ih=>exact .bE hl ih
 |fn h1 h2 hx hy QQ QP=>exact .fn h1 h2 QQ QP
 |Bx h ih=>exact .Bx ih
 |any u=>exact .any u
def Kb (c:Cx):Prop:=∀r t k,c.hp (r+1)=some [[.ty t k]]->∃p cs fz,c.ι r=some p/\p.O=0/\c.w.heap[p.B]?=some (.cells cs t fz)/\k<=cs.size
def afS (c:Cx):Prop:=∀r t,c.hp (r+1)=some [[.ty t 0],[]]->∃p cs fz,c.ι r=some p/\c.w.heap[p.B]?=some (.cells cs t fz)/\(c.hp r≠none->fz=(0,0))
def A0 (c:Cx):Prop:=Kb c/\afS c
theorem Kb.to {c c':Cx} (h:Kb c) (ni:∀r t k rest,c'.hp r=some ([.ty t k]::rest)->c.hp r=some ([.ty t k]::rest)) (hι:∀r p,c.ι r=some p->c'.ι r=some p)
  (hw:∀(B:Nat) (cs:Array Value) (t:TypeId) (fz:Nat×Nat),c.w.heap[B]?=some (.cells cs t fz)->∃cs' I4,c'.w.heap[B]?=some (.cells cs' t I4)/\cs'.size=cs.size):Kb c':=by
 intro r t k hr
 obtain ⟨p,cs,fz,h1,h2,h3,h4⟩:=h r t k (ni (r+1) t k _ hr)
 obtain ⟨cs',I4,h5,h6⟩:=hw _ _ _ _ h3
 exact ⟨p,cs',I4,hι _ _ h1,h2,h5,by omega⟩
theorem A0.to {c c':Cx} (h:A0 c) (ni:∀r t k rest,c'.hp r=some ([.ty t k]::rest)->c.hp r=some ([.ty t k]::rest)) (hι:∀r p,c.ι r=some p->c'.ι r=some p)
  (hw:∀(B:Nat) (cs:Array Value) (t:TypeId) (fz:Nat×Nat),c.w.heap[B]?=some (.cells cs t fz)->∃cs',c'.w.heap[B]?=some (.cells cs' t fz)/\cs'.size=cs.size)
  (abd:∀r,c.hp (r+1)≠none->c.ι r≠none->c'.hp r≠none->c.hp r≠none):A0 c':=by
 refine ⟨h.1.to ni hι fun B cs t fz hB=>let ⟨cs',h1,h2⟩:=hw B cs t fz hB;⟨cs',fz,h1,h2⟩,fun r t hr => ?_⟩
 have sr:=ni (r+1) t 0 _ hr
 obtain ⟨p,cs,fz,h1,h3,h4⟩:=h.2 r t sr
 obtain ⟨cs',h5,_⟩:=hw _ _ _ _ h3
 exact ⟨p,cs',fz,hι _ _ h1,h5,fun hn=>h4 (abd r (by rw[sr];simp) (by rw[h1];simp) hn)⟩
theorem aC.yo {c:Cx} {t k} {u:Value} (h:aC c (.ty t k) u):False:=by cases h
def nc (c:Cx) (es:bN) (ents:Array MapEntry):Prop:=es.length=ents.size/\∀(i:Nat) (l:List AV) (e:MapEntry),es[i]?=some l->ents[i]?=some e->∃k v,l=[k,v]/\aC c k e.key/\aC c v e.val
def lu (ents:Array MapEntry) (clock:Nat):Prop:=(∀(i:Nat) (e:MapEntry),ents[i]?=some e->e.born<clock)/\∀(i j:Nat) (e e':MapEntry),ents[i]?=some e->ents[j]?=some e'->e.born=e'.born->i=j
def ac0 (c:Cx) (es:bN) (p:Place) (cs:Array Value):Prop:=∀(i:Nat) (l:List AV),es[i]?=some l->l.length=p.sz/\∀j av,l[j]?=some av->∃u,cs[p.O+i*p.sz+j]?=some u/\aC c av u
def acX (es:bN) (p:Place) (seen:Array Nat):Prop:=∃(n:Nat) (fl:bN),es=[.v (.int .i64 n)]::fl/\fl.length=p.aux.length /\
 (∀(i:Nat) (l:List AV) (s:Nat),fl[i]?=some l->p.aux[i]?=some s->∃b,l=[.v (.bool b)]/\seen.contains s = !b)/\∀j,n=j+1->∃s,p.aux[j]?=some s/\seen.back?=some s
def pX (c:Cx) (es:bN) (p:Place) (o:Obj):Prop :=
 (p.O<=p.N/\∃cs e fz,o=.cells cs e fz/\cs.size=p.N/\(∀q,q<p.N->¬(fz.1<=q/\q<fz.2))/\ac0 c es p cs) \/
 (p.O=p.N+1/\∃ents clock,o=.map ents clock/\nc c es ents/\lu ents clock) \/
 (p.O=p.N+2/\∃seen,o=.mapIter (some p.N) p.sz seen p.sz/\acX es p seen) \/
 (p.O=p.N+3/\∃ents,o=.map ents p.sz/\nc c es ents/\lu ents p.sz/\ents.toList.map (·.born)=p.aux)
theorem nc.move {c c':Cx} {es:bN} {ents:Array MapEntry} (h:nc c es ents) (mv:∀x u,aC c x u->aC c' x u):nc c' es ents :=
 ⟨h.1,fun i l e hl he=>let ⟨k,v,g1,g2,g3⟩:=h.2 i l e hl he;⟨k,v,g1,mv _ _ g2,mv _ _ g3⟩⟩
theorem pX.move {c c':Cx} {es:bN} {p:Place} {o:Obj} (h:pX c es p o) (mv:∀x u,aC c x u->aC c' x u):pX c' es p o:=by
 rcases h with ⟨h0,cs,e,fz,h1,h2,h3,h4⟩|⟨h0,ents,clock,h1,h2,h3⟩|h|⟨h0,ents,h1,h2,h3⟩
 ·exact .inl ⟨h0,cs,e,fz,h1,h2,h3,fun i l hl=>⟨(h4 i l hl).1,fun j av hj=>let ⟨u,g1,g2⟩:=(h4 i l hl).2 j av hj;⟨u,g1,mv _ _ g2⟩⟩⟩
 ·exact .inr (.inl ⟨h0,ents,clock,h1,h2.move mv,h3⟩)
 ·exact .inr (.inr (.inl h))
 ·exact .inr (.inr (.inr ⟨h0,ents,h1,h2.move mv,h3⟩))
def ve (c:Cx):Prop:=∀g vs,I2 g=some vs->c.ro g/\∃e fz,c.w.heap[g]?=some (.cells vs.toArray e fz)
theorem ve.to {c c':Cx} (h:ve c) (hG:c'.F.G=c.F.G) (bZ:∀B,c.ro B->c'.ro B) (hw:∀B,c.ro B->c'.w.heap[B]?=c.w.heap[B]?):ve c':=fun g vs hg =>
 let ⟨h1,e,fz,h2⟩:=h g vs hg
 ⟨bZ g h1,e,fz,(hw g h1).trans h2⟩
theorem ve.to2 {c c':Cx} (h:ve c) (bZ:∀B,c.ro B->c'.ro B) (hw:∀B,c.ro B->c'.w.heap[B]?=c.w.heap[B]?):ve c':=fun g vs hg =>
 let ⟨h1,e,fz,h2⟩:=h g vs hg
 ⟨bZ g h1,e,fz,(hw g h1).trans h2⟩
theorem ve.ext {c c':Cx} (h:ve c) (e:Ext c c'):ve c':=h.to (by rw[e.F]) (fun _ hB=>e.ro hB) fun B hB=>(e.ah B hB.1 hB.2.1).2
structure bg (c:Cx) (nx:Nat):Prop where
 uT:∀r,c.hp r≠none->r<nx
 lt:∀r p,c.ι r=some p->r<nx
 sd:∀r es p,c.hp r=some es->c.ι r=some p->¬c.F p.B/\∃o,c.w.heap[p.B]?=some o/\pX c es p o
 inj:∀r r' p p',c.hp r≠none->c.hp r'≠none->c.ι r=some p->c.ι r'=some p'->p.B=p'.B->r=r'
 F:∀B,c.F B->B<c.w.heap.size
 ty:A0 c
 gl:ve c
theorem bg.cells {c:Cx} {nx:Nat} (h:bg c nx) {r:Nat} {es:bN} {p:Place} (h1:c.hp r=some es) (h2:c.ι r=some p) (hm:p.O<=p.N) :
  ¬c.F p.B/\∃cs e fz,c.w.heap[p.B]?=some (.cells cs e fz)/\cs.size=p.N/\(∀o,o<p.N->¬(fz.1<=o/\o<fz.2)) /\
  (∀(i:Nat) (l:List AV),es[i]?=some l->l.length=p.sz/\∀j av,l[j]?=some av->∃u,cs[p.O+i*p.sz+j]?=some u/\aC c av u):=by
 obtain ⟨hF,o,h3,h4⟩:=h.sd r es p h1 h2
 refine ⟨hF,?_⟩
 rcases h4 with ⟨_,cs,e,fz,rfl,g2,g3,g4⟩|⟨h0,_⟩|⟨h0,_⟩|⟨h0,_⟩
 ·exact ⟨cs,e,fz,h3,g2,g3,g4⟩
 all_goals omega
theorem bg.map {c:Cx} {nx:Nat} (h:bg c nx) {r:Nat} {es:bN} {p:Place} (h1:c.hp r=some es) (h2:c.ι r=some p) (hm:p.O=p.N+1) :
  ¬c.F p.B/\∃ents clock,c.w.heap[p.B]?=some (.map ents clock)/\nc c es ents/\lu ents clock:=by
 obtain ⟨hF,o,h3,h4⟩:=h.sd r es p h1 h2
 refine ⟨hF,?_⟩
 rcases h4 with ⟨h0,_⟩|⟨_,ents,clock,rfl,g2,g3⟩|⟨h0,_⟩|⟨h0,_⟩
 ·omega
 ·exact ⟨ents,clock,h3,g2,g3⟩
 all_goals omega
theorem bg.walk {c:Cx} {nx:Nat} (h:bg c nx) {r:Nat} {es:bN} {p:Place} (h1:c.hp r=some es) (h2:c.ι r=some p) (hm:p.O=p.N+2) :
  ¬c.F p.B/\∃seen,c.w.heap[p.B]?=some (.mapIter (some p.N) p.sz seen p.sz)/\acX es p seen:=by
 obtain ⟨hF,o,h3,h4⟩:=h.sd r es p h1 h2
 refine ⟨hF,?_⟩
 rcases h4 with ⟨h0,_⟩|⟨h0,_⟩|⟨_,seen,rfl,g⟩|⟨h0,_⟩
 ·omega
 ·omega
 ·exact ⟨seen,h3,g⟩
 ·omega
theorem bg.kept {c:Cx} {nx:Nat} (h:bg c nx) {r:Nat} {es:bN} {p:Place} (h1:c.hp r=some es) (h2:c.ι r=some p) (hm:p.O=p.N+3) :
  ¬c.F p.B/\∃ents,c.w.heap[p.B]?=some (.map ents p.sz)/\nc c es ents/\lu ents p.sz/\ents.toList.map (·.born)=p.aux:=by
 obtain ⟨hF,o,h3,h4⟩:=h.sd r es p h1 h2
 refine ⟨hF,?_⟩
 rcases h4 with ⟨h0,_⟩|⟨h0,_⟩|⟨h0,_⟩|⟨_,ents,rfl,g⟩
 ·omega
 ·omega
 ·omega
 ·exact ⟨ents,h3,g⟩
theorem bg.fresh {c:Cx} {nx:Nat} (h:bg c nx):c.ι nx=none:=by
 cases e:c.ι nx with
 |none=>rfl
 |some p=>exact absurd (h.lt nx p e) (by omega)
theorem bg.uM {c:Cx} {nx:Nat} (h:bg c nx):c.hp nx=none:=by
 cases e:c.hp nx with
 |none=>rfl
 |some es =>
  exact absurd (h.uT nx (by simp[e])) (by omega)
theorem bg.oX {c:Cx} {nx:Nat} (h:bg c nx) {B:Nat} (ho:c.own B):B<c.w.heap.size:=by
 obtain ⟨r,p,h1,h2,h3⟩:=ho
 cases e:c.hp r with
 |none=>exact absurd e h1
 |some es =>
  obtain ⟨_,o,h4,_⟩:=h.sd r es p e h2
  subst h3
  exact (zE.1 h4).1
def cO:Operand->fg
 |.tmp t=>.t t
 |.const v=>.c (QJ v)
 |.global g=>.c (.v (.pointer (some ⟨g,0,none⟩)))
 |.func f=>.c (.fn (.func f) [] [])
def uh (P:Program) (t:TypeId):Option (Option Nat) :=
 match P.underlying t,P.info? t with
 |some (.struct _),some i|some (.array _ _),some i=>some (some i.size)
 |some _,some i=>some none
 |_,_=>none
def zeroOf (P:Program) (t:TypeId):Option (List AV) :=
 match P.info? t with
 |some i=>match i.zero with
  |some z=>if z.cells.size=i.size then some (z.cells.toList.map js) else none
  |none=>none
 |none=>none
def jy (P:Program) (fs:Array Field):List (Nat×Operand)->Option (List (Nat×Nat×fg))
 |[]=>some []
 |(i,x)::r=>match fs[i]? with
  |some f=>match P.info? f.type,jy P fs r with
   |some j,some l=>some ((f.offset,j.size,cO x)::l)
   |_,_=>none
  |none=>none
def jX (P:Program) (op:BinOp) (t:TypeId) (x y:Operand):Option jg :=
 match P.underlying t with
 |some (.int _)|some .string=>some (.bin op (cO x) (cO y))
 |some .bool=>some (.Uy op (cO x) (cO y))
 |some (.slice _)=>some (.Xt op (cO x) (cO y))
 |some (.pointer e)=>if (P.info? e).isSome/\0<P.cellsOf e then some (.z8 op (cO x) (cO y)) else none
 |_=>none
def gM (P:Program) (src dst:TypeId) (x:Operand):Option jg :=
 match P.underlying src,P.underlying dst with
 |some (.int _),some (.int k)=>some (.conv k (cO x))
 |some .string,some .string=>some (.XA (cO x))
 |some .string,some (.slice e)=>match P.underlying e with
  |some (.int .u8)=>some (.ZY (cO x))
  |_=>none
 |some (.slice e),some .string=>match P.underlying e with
  |some (.int .u8)=>some (.Mk (cO x))
  |_=>none
 |some (.int _),some .string=>some (.r2s (cO x))
 |some (.pointer e),some .unsafePointer=>if 0<P.cellsOf e then some (.X8 (cO x)) else none
 |some .unsafePointer,some (.pointer u)=>if 0<P.cellsOf u then some (.Yg u (P.cellsOf u) (cO x)) else none
 |_,_=>none
def gk (P:Program) (f:Nat):Bool :=
 match P.funcs[f]? with
 |some fn => !(fn.name == "runtime.NumGoroutine")&&fn.body.isSome
 |none=>false
def V0 (P:Program) (e:TypeId):Bool:=match P.underlying e with
 |some (.int .u8)=>true
 |_=>false
def gh (P:Program) (b:Builtin) (args:List Operand) (ts:Array TypeId):Option jg :=
 match b,args with
 |.append,[s,x]=>match ts[0]?,ts[1]? with
  |some t,some u=>match P.underlying t,P.underlying u with
   |some (.slice e),some .string|some (.slice e),some (.slice _)=>match zeroOf P e,P.info? e with
    |some z,some i=>if i.size=1/\i.bytes=1/\V0 P e=true then some (.Ko e (cO s) (cO x)) else none
    |_,_=>none
   |_,_=>none
  |_,_=>none
 |_,_=>none
def dg (P:Program) (b:Builtin) (args:List Operand) (ts:Array TypeId):Option jg :=
 match b,args with
 |.unsafeSliceData,[x]=>some (.Ed (cO x))
 |.unsafeString,[x,n]=>match (ts[0]?).bind P.underlying,ts.size with
  |some (.pointer e),2=>if P.cellsOf e=1/\V0 P e=true then some (.Mr e (cO x) (cO n)) else none
  |_,_=>none
 |.len,[x]=>match (ts[0]?).bind P.underlying with
  |some .string=>some (.gA (cO x))
  |some (.slice _)=>some (.len (cO x))
  |_=>none
 |.cap,[x]=>match (ts[0]?).bind P.underlying with
  |some (.slice _)=>some (.cap (cO x))
  |_=>none
 |.min,[x,y]=>some (.min (cO x) (cO y))
 |.max,[x,y]=>some (.max (cO x) (cO y))
 |.append,[s,x]=>match ts[0]?,ts[1]? with
  |some t,some u=>match P.underlying t,P.underlying u with
   |some (.slice e),some (.int _)=>match zeroOf P e,P.info? e with
    |some z,some i=>if 0<i.size/\0<i.bytes then some (.FK i.size i.bytes z (cO s) (cO x)) else none
    |_,_=>none
   |some (.slice e),some _=>match zeroOf P e,P.info? e with
    |some z,some i=>if 0<i.size/\0<i.bytes then some (.append i.size i.bytes (cO s) (cO x)) else none
    |_,_=>none
   |_,_=>none
  |_,_=>none
 |.copy,[d,s]=>match (ts[0]?).bind P.underlying with
  |some (.slice e)=>match P.info? e with
   |some i=>if 0<i.size then some (.copy i.size (cO d) (cO s)) else none
   |none=>none
  |_=>none
 |.clear,[x]=>match (ts[0]?).bind P.underlying with
  |some (.slice e)=>match zeroOf P e,P.info? e with
   |some z,some i=>if 0<i.size then some (.clear i.size z (cO x)) else none
   |_,_=>none
  |_=>none
 |_,_=>none
def ml (P:Program) (own:Bool) (o:Oper):Option jg :=
 match o.op with
 |.move x | .assign x=>some (.dm (cO x))
 |.pick c a b=>some (.pick (cO c) (cO a) (cO b))
 |.alloc e=>if own then (zeroOf P e).map (.xR e) else (zeroOf P e).map .alloc
 |.panic _=>some .halt
 |.box e x=>some (.box (cO x))
 |.build t parts=>match P.underlying t,zeroOf P t with
  |some (.struct fs),some z=>if fs.all (fun f=>(P.info? f.type).isSome) then (jy P fs parts.toList).map (.build z) else none
  |_,_=>none
 |.buildSlice t len parts=>match P.underlying t with
  |some (.slice e)=>match zeroOf P e,P.info? e with
   |some z,some i=>if 0<i.size/\len*i.size<=16777216 then some (if own then .Gj e i.size (List.replicate len z) (parts.toList.map fun p=>(p.1,cO p.2)) else .bp false i.size (List.replicate len z) (parts.toList.map fun p=>(p.1,cO p.2))) else none
   |_,_=>none
  |_=>none
 |.load t a=>(uh P t).map fun n=>.load n (cO a)
 |.store t a x=>match P.info? t with
  |some i=>if 0<i.size then some (.store i.size (cO a) (cO x)) else none
  |none=>none
 |.nilCheck x=>some (.yr (cO x))
 |.binOp op t x y _=>jX P op t x y
 |.unOp op _ x=>some (.un op (cO x))
 |.convert src dst x=>gM P src dst x
 |.makeInterface t x=>match P.underlying t with
  |some (.interface _)|none=>none
  |some _=>some (.GU t (cO x))
 |.makeFunc fn first cap=>some (.sa fn (first.toList.map cO) (cap.toList.map cO))
 |.makeSlice t l c=>match P.underlying t with
  |some (.slice e)=>match zeroOf P e,P.info? e with
   |some z,some i=>if 0<i.size/\0<i.bytes then some (.kM i.size i.bytes z (cO l) (cO c)) else none
   |_,_=>none
  |_=>none
 |.slice t x lo hi mx=>match P.underlying t with
  |some .string=>match mx with
   |none=>some (.nB (cO x) (lo.map cO) (hi.map cO))
   |some _=>none
  |some (.slice e)=>(P.info? e).map fun i=>.slice i.size (cO x) (lo.map cO) (hi.map cO) (mx.map cO)
  |_=>none
 |.fieldAddr s x f=>match P.underlying s with
  |some (.struct fs)=>match fs[f]? with
   |some fd=>match P.info? fd.type with
    |some i=>if i.size=0 then none else some (.s8 fd.offset (cO x))
    |none=>none
   |none=>none
  |_=>none
 |.field t x f=>match P.underlying t with
  |some (.struct fs)=>match fs[f]? with
   |some fd=>(uh P fd.type).map fun n=>.field fd.offset n (cO x)
   |none=>none
  |_=>none
 |.indexAddr t x i=>match P.underlying t with
  |some (.slice e)=>(P.info? e).map fun j=>.lO j.size (cO x) (cO i)
  |_=>none
 |.index t x i=>match P.underlying t with
  |some .string=>some (.idx (cO x) (cO i))
  |_=>none
 |.extract t i=>some (.ext (cO t) i)
 |.call c=>match c.callee with
  |.value (.func f)=>some (.call f (c.args.toList.map cO))
  |.value g=>some (.kH (cO g) (c.args.toList.map cO))
  |.builtin b=>if own then gh P b c.args.toList c.argTypes else dg P b c.args.toList c.argTypes
  |.invoke _ _=>none
 |_=>none
def rP (P:Program):List Field->Nat->Option (List LK)
 |[],_=>some []
 |f::r,k=>if f.offset=k/\f.name ≠ "_" then
   match P.underlying f.type,P.info? f.type,rP P r (k+1) with
   |some (.int _),some _,some l=>some (.i::l)
   |some .string,some _,some l=>some (.s::l)
   |some .bool,some _,some l=>some (.b::l)
   |_,_,_=>none
  else none
def iS (P:Program) (op:BinOp) (t:TypeId) (x y:Operand):Option jg :=
 match P.underlying t with
 |some (.struct fs) =>
  if P.stoodInHeld t then none
  else if P.eqGuardType P.depth t then none
  else match rP P fs.toList 0 with
   |some ks=>match op with
    |.eql=>some (.Y1 false ks (cO x) (cO y))
    |.neq=>some (.Y1 true ks (cO x) (cO y))
    |_=>none
   |none=>none
 |_=>none
def w7 (P:Program) (k:TypeId):Option LK:=match P.underlying k with
 |some (.int _)=>some .i
 |some .string=>some .s
 |some .bool=>some .b
 |_=>none
def Di (P:Program):Op->Option jg
 |.makeMap t none=>match P.underlying t with
  |some (.map _ _)=>some .sn
  |_=>none
 |.lookup t x k ok=>match P.underlying t with
  |some (.map kt et)=>match w7 P kt,(P.info? et).bind (·.zero) with
   |some lk,some z=>some (.vt lk (QJ z) ok (cO x) (cO k))
   |_,_=>none
  |_=>none
 |.mapUpdate t m k x=>match P.underlying t with
  |some (.map kt _)=>(w7 P kt).map fun lk=>.Er lk (cO m) (cO k) (cO x)
  |_=>none
 |.call ⟨.builtin .len,args,ts⟩=>match args.toList,(ts[0]?).bind P.underlying with
  |[x],some (.map _ _)=>some (.M3 (cO x))
  |_,_=>none
 |.call ⟨.builtin .delete,args,ts⟩=>match args.toList,(ts[0]?).bind P.underlying with
  |[m,k],some (.map kt _)=>(w7 P kt).map fun lk=>.M6 lk (cO m) (cO k)
  |_,_=>none
 |.range t x=>match P.underlying t with
  |some (.map _ _)=>some (.sP (cO x))
  |_=>none
 |.next x false=>some (.tJ (cO x))
 |.entry x=>some (.yx (cO x))
 |.mapEntry t m k=>match P.underlying t with
  |some (.map kt et)=>match w7 P kt,(P.info? et).bind (·.zero) with
   |some lk,some z=>some (.yw lk (QJ z) (cO m) (cO k))
   |_,_=>none
  |_=>none
 |.entryStore _ m s x=>some (.tK (cO m) (cO s) (cO x))
 |_=>none
inductive nb (P:Program):Op->jg->Prop where
 |mk {t kt et:TypeId} (h:P.underlying t=some (.map kt et)):nb P (.makeMap t none) .sn
 |look {t kt et:TypeId} {x k:Operand} {ok:Bool} {lk:LK} {i:TypeInfo} {z:Value} (h:P.underlying t=some (.map kt et)) (hl:w7 P kt=some lk) (hi:P.info? et=some i) (hz:i.zero=some z):nb P (.lookup t x k ok) (.vt lk (QJ z) ok (cO x) (cO k))
 |set {t kt et:TypeId} {m k x:Operand} {lk:LK} (h:P.underlying t=some (.map kt et)) (hl:w7 P kt=some lk):nb P (.mapUpdate t m k x) (.Er lk (cO m) (cO k) (cO x))
 |len {t kt et:TypeId} {x:Operand} {args:Array Operand} {ts:Array TypeId} (ha:args.toList=[x]) (ht:ts[0]?=some t) (h:P.underlying t=some (.map kt et)):nb P (.call ⟨.builtin .len,args,ts⟩) (.M3 (cO x))
 |del {t kt et:TypeId} {m k:Operand} {args:Array Operand} {ts:Array TypeId} {lk:LK} (ha:args.toList=[m,k]) (ht:ts[0]?=some t) (h:P.underlying t=some (.map kt et)) (hl:w7 P kt=some lk):nb P (.call ⟨.builtin .delete,args,ts⟩) (.M6 lk (cO m) (cO k))
 |range {t kt et:TypeId} {x:Operand} (h:P.underlying t=some (.map kt et)):nb P (.range t x) (.sP (cO x))
 |next {x:Operand}:nb P (.next x false) (.tJ (cO x))
 |Xu {x:Operand}:nb P (.entry x) (.yx (cO x))
 |entry {t kt et:TypeId} {m k:Operand} {lk:LK} {i:TypeInfo} {z:Value} (h:P.underlying t=some (.map kt et)) (hl:w7 P kt=some lk) (hi:P.info? et=some i) (hz:i.zero=some z):nb P (.mapEntry t m k) (.yw lk (QJ z) (cO m) (cO k))
 |HH {t:TypeId} {m s x:Operand}:nb P (.entryStore t m s x) (.tK (cO m) (cO s) (cO x))
theorem dx {P:Program} {op:Op} {co:jg} (h:Di P op=some co):nb P op co:=by
 unfold Di at h
 split at h
 ·split at h
  ·rename_i hu
   simp only[zOi]at h;subst h
   exact .mk hu
  ·cases h
 ·split at h
  ·rename_i hu
   split at h
   ·rename_i lk z hl hz
    simp only[zOi]at h;subst h
    obtain ⟨i,hi,hz⟩:=zm.1 hz
    exact .look hu hl hi hz
   ·cases h
  ·cases h
 ·split at h
  ·rename_i hu
   simp only[zC]at h
   obtain ⟨lk,hl,rfl⟩:=h
   exact .set hu hl
  ·cases h
 ·split at h
  ·rename_i x kt et ha ht
   simp only[zOi]at h;subst h
   obtain ⟨t,h1,h2⟩:=zm.1 ht
   exact .len ha h1 h2
  ·cases h
 ·split at h
  ·rename_i m k kt et ha ht
   simp only[zC]at h
   obtain ⟨lk,hl,rfl⟩:=h
   obtain ⟨t,h1,h2⟩:=zm.1 ht
   exact .del ha h1 h2 hl
  ·cases h
 ·split at h
  ·rename_i hu
   simp only[zOi]at h;subst h
   exact .range hu
  ·cases h
 ·simp only[zOi]at h;subst h
  exact .next
 ·simp only[zOi]at h;subst h
  exact .Xu
 ·split at h
  ·rename_i hu
   split at h
   ·rename_i lk z hl hz
    simp only[zOi]at h;subst h
    obtain ⟨i,hi,hz⟩:=zm.1 hz
    exact .entry hu hl hi hz
   ·cases h
  ·cases h
 ·simp only[zOi]at h;subst h
  exact .HH
 ·cases h
def dH (P:Program) (own:Bool) (o:Oper):Option jg :=
 match ml P own o with
 |some c=>some c
 |none=>match o.op with
  |.binOp op t x y _=>iS P op t x y
  |op=>Di P op
def fg.ot:fg->List Nat
 |.t n=>[n]
 |.c _=>[]
def KL:Option fg->List Nat
 |some x=>x.ot
 |none=>[]
def CE (l:List fg):List Nat:=l.flatMap fg.ot
def jg.ot:jg->List Nat
 |.halt | .xR .. => []
 |.X8 x | .Yg _ _ x | .Ed x | .clear _ _ x | .M3 x | .sP x | .tJ x | .yx x=>x.ot
 |.sn=>[]
 |.vt _ _ _ m k | .M6 _ m k | .yw _ _ m k=>m.ot++k.ot
 |.Er _ m k v | .tK m k v=>m.ot++k.ot++v.ot
 |.z8 _ x y | .Ko _ x y | .Mr _ x y=>x.ot++y.ot
 |.dm x | .box x | .load _ x | .yr x | .un _ x | .conv _ x | .XA x | .ZY x | .Mk x | .r2s x | .s8 _ x | .field _ _ x | .ext x _ | .GU _ x | .gA x | .len x | .cap x=>x.ot
 |.pick a b c=>a.ot++b.ot++c.ot
 |.alloc _=>[]
 |.build _ ps=>CE (ps.map (·.2.2))
 |.bp _ _ _ ps | .Gj _ _ _ ps=>CE (ps.map (·.2))
 |.store _ x y | .bin _ x y | .Uy _ x y | .Xt _ x y | .Y1 _ _ x y | .lO _ x y | .idx x y | .min x y | .max x y | .append _ _ x y | .FK _ _ _ x y | .copy _ x y | .kM _ _ _ x y=>x.ot++y.ot
 |.nB x lo hi=>x.ot++KL lo++KL hi
 |.slice _ x lo hi mx=>x.ot++KL lo++KL hi++KL mx
 |.sa _ a b=>CE a++CE b
 |.call _ L1=>CE L1
 |.kH g L1=>g.ot++CE L1
def aL.looks (o:aL):List Nat :=
 o.op.ot++(match o.guard with
  |some (g,_)=>[g]
  |none=>[])
def rR (ops:Array Oper):Option (Nat×Bool)->Option (Option (Nat×Bool))
 |none=>some none
 |some (j,want)=>match (ops[j]?).bind (·.dst) with
  |some d=>some (some (d,want))
  |none=>none
def mW (P:Program) (nt:Nat) (own:Bool) (ops:Array Oper) (o:Oper):Option aL :=
 match dH P own o,rR ops o.guard with
 |some c,some g=>if o.dst.all (· < nt) then some ⟨o.dst,c,g⟩ else none
 |_,_=>none
def dr (P:Program) (nt:Nat) (own:Nat->Bool) (ops:Array Oper):List Oper->Nat->Option (List aL)
 |[],_=>some []
 |o::r,i=>match mW P nt (own i) ops o,dr P nt own ops r (i+1) with
  |some c,some l=>some (c::l)
  |_,_=>none
def yg (ops:Array Oper):List (List Nat) :=
 ops.toList.foldl (init:=[]) fun acc o =>
  acc++[(o.after.toList.filter (fun e=>Region.binds .any e&&e.on<acc.length)).foldl (fun s e=>s++e.on::acc.getD e.on []) [] |>.eraseDups]
def Iq (ops:Array Oper) (pre:List (List Nat)):Bool :=
 (List.range ops.size).all fun j=>match ops[j]? with
  |some o=>(o.after.toList.all fun e => !Region.binds .any e||e.on<j) &&
    ((pre.getD j []).all fun i=>i<j&&o.after.toList.any fun e=>Region.binds .any e&&(e.on==i||(pre.getD e.on []).contains i))
  |none=>true
def Ca (cl:List aL) (pre:List (List Nat)):Bool :=
 (List.range cl.length).all fun i=>(List.range cl.length).all fun j =>
  i==j||match cl[i]?,cl[j]? with
   |some a,some b=>match a.dst with
    |some d => !(b.looks.contains d||b.dst==some d)||(pre.getD j []).contains i||(pre.getD i []).contains j
    |none=>true
   |_,_=>true
abbrev L6:=List (Nat×Nat)
def keeps (ow:L6) (id:Nat):List Nat:=(ow.filter fun p=>p.1==id&&Nat.ble 1000000 p.2).map (·.2-1000000)
def VI (ow:L6) (id:Nat) (cl:List aL):cC :=
 match cl with
 |⟨some d,.tJ x,none⟩::rest=>if ow.contains (id,999999) then .choose d x rest else .region cl
 |_=>match keeps ow id with
  |[]=>.region cl
  |l=>.seq (.region cl) (.ah l)
def Uk:cC:=.region [⟨none,.halt,none⟩]
def nH:Code->Bool
 |.region _ ops _=>ops.all fun o=>match o.op with
  |.defer _=>false
  |_=>true
 |.seq a b=>nH a&&nH b
 |.cond _ a b=>nH a&&nH b
 |.block _ a=>nH a
 |.loop a=>nH a
 |.skip | .exit _ | .ret | .refuse .. => true
 |_=>false
def Cy (a:Code):Option cC->Option cC
 |some x=>some x
 |none=>if nH a then some Uk else none
def ct (P:Program) (nt:Nat) (ow:L6):Code->Option cC
 |.skip=>some .skip
 |.region id ops false=>(dr P nt (fun i=>ow.contains (id,i)) ops ops.toList 0).map (VI ow id)
 |.region id ops true=>match dr P nt (fun i=>ow.contains (id,i)) ops ops.toList 0 with
  |some cl=>if Iq ops (yg ops)&&Ca cl (yg ops) then some (.draw (yg ops) cl) else none
  |none=>none
 |.seq a b=>match ct P nt ow a,ct P nt ow b with
  |some x,some y=>some (.seq x y)
  |_,_=>none
 |.cond c a b=>match Cy a (ct P nt ow a),Cy b (ct P nt ow b) with
  |some x,some y=>some (.cond (cO c) x y)
  |_,_=>none
 |.block id a=>(ct P nt ow a).map (.block id)
 |.loop a=>(ct P nt ow a).map .loop
 |.exit id=>some (.exit id)
 |.ret=>some .ret
 |.refuse .. => some (.region [⟨none,.halt,none⟩])
 |_=>none
def jW (P:Program):List ResultVar->Option (List RV)
 |[]=>some []
 |.tmp t::r=>(jW P r).map (RV.t t :: ·)
 |.cell a t::r=>match uh P t,jW P r with
  |some n,some l=>some (.cell a n::l)
  |_,_=>none
def vQ (P:Program) (ow:L6) (f:Nat):Option au :=
 match P.funcs[f]? with
 |some fn=>match fn.body with
  |some c=>match ct P fn.ntmps ow c,jW P fn.results.toList with
   |some b,some rs=>if fn.params.size+fn.nfree<=fn.ntmps then some ⟨fn.params.size+fn.nfree,fn.ntmps,b,rs⟩ else none
   |_,_=>none
  |none=>none
 |none=>none
def fJ (c:Cx) (tm:Nat->AV) (a:Act):Prop:=∀t,aC c (tm t) (a.tmps.getD t undef)
theorem fJ.mono {c c':Cx} (e:Ext c c') {tm:Nat->AV} {a:Act} (h:fJ c tm a):fJ c' tm a:=fun t=>(h t).mono e
theorem tB (c:Cx) (b:ByteArray):aC c (.str b.data.toList) (.string b):=by
 have:=aC.str (c:=c) b.data.toList
 simpa using this
theorem tG (c:Cx) (x:Value):aC c (js x) x:=by
 unfold js
 split
 ·exact tB c _
 ·exact .nil (fun m h=>by cases h;rfl)
 ·rename_i f a b
  split
  ·rename_i h
   simp only[zN,decide_eq_true_eq]at h
   have ha:a = #[]:=by simpa using h.1
   have hb:b = #[]:=by simpa using h.2
   subst ha;subst hb
   exact .fn rfl rfl (fun k av u h=>by simp at h) (fun k av u h=>by simp at h)
  ·exact .v _
 ·exact .v _
theorem tF (c:Cx) (x:Value):aC c (QJ x) x:=by
 unfold QJ
 split
 ·rename_i cs
  refine .agg (by simp) (fun k av u h1 h2 => ?_)
  simp only[zM,zC]at h1
  obtain ⟨y,hy,rfl⟩:=h1
  have:y=u:=by
   have h3:cs.toList[k]?=some u:=by simpa using h2
   rw[hy]at h3;exact Option.some.inj h3
  subst this
  exact tG c y
 ·exact tG c _
theorem aE {c:Cx} {tm:Nat->AV} {a:Act} (h:fJ c tm a) (x:Operand):aC c (ev tm (cO x)) (a.eval x):=by
 cases x with
 |tmp t=>exact h t
 |const v=>exact tF c v
 |global g=>exact .v _
 |func f=>exact .fn rfl rfl (fun k av u h=>by simp at h) (fun k av u h=>by simp at h)
theorem aC.b8 {c:Cx} {x u:Value} (h:aC c (.v x) u):u=x:=by cases h;rfl
theorem aC.fQ {c:Cx} {l:List UInt8} {u:Value} (h:aC c (.str l) u):u=.string ⟨l.toArray⟩:=by cases h;rfl
structure Grow (w w':World):Prop where
 size:w.heap.size<=w'.heap.size
 ah:∀B,B<w.heap.size->w'.heap[B]?=w.heap[B]?
 os:w'.os=w.os
 tape:w'.tape=w.tape
 output:w'.output=w.output
theorem Grow.refl (w:World):Grow w w:=⟨zD _,fun _ _=>rfl,rfl,rfl,rfl⟩
theorem Grow.push (w:World) (o:Obj):Grow w { w with heap:=w.heap.push o } :=
 ⟨by simp,fun B h=>by simp[wW];omega,rfl,rfl,rfl⟩
theorem Ext.tE {c:Cx} {nx:Nat} {w':World} (h:Grow c.w w'):Ext c { c with w:=w' } :=
 ⟨rfl,fun _ _ h=>h,h.size,fun B hB ho=>⟨ho,h.ah B hB⟩,h.os,h.tape,h.output⟩
theorem bg.grow {c:Cx} {nx:Nat} {w':World} (hh:bg c nx) (h:Grow c.w w'):bg { c with w:=w' } nx:=by
 have e:Ext c { c with w:=w' }:=Ext.tE (nx:=nx) h
 refine ⟨hh.uT,hh.lt,?_,hh.inj,fun B hB=>zU (hh.F B hB) h.size,hh.ty.to (fun _ _ _ _ h=>h) (fun _ _ h=>h) (fun B cs t fz hB=>⟨cs,by show w'.heap[B]?=_;rw[h.ah B (zE.1 hB).1];exact hB,rfl⟩) (fun _ _ _ h=>h),hh.gl.ext e⟩
 intro r es p h1 h2
 obtain ⟨hF,o,h3,h4⟩:=hh.sd r es p h1 h2
 have az:p.B<c.w.heap.size:=(zE.1 h3).1
 exact ⟨hF,o,by show w'.heap[p.B]?=_;rw[h.ah _ az];exact h3,h4.move fun x u hv=>hv.mono e⟩
def iX (P:Program) (o:Oper) (a:Act) (w:World) (u:Value) (w':World):Prop :=
 (execOp a.eval o).run P w=.ok (.value u) w'\/((execOp a.eval o).run P w=.ok .skip w'/\u=undef)
def oq (P:Program) (o:Oper) (a:Act) (c:Cx) (v:AV):Prop:=∃u w',iX P o a c.w u w'/\Grow c.w w'/\aC { c with w:=w' } v u
theorem oq.same {P:Program} {o:Oper} {a:Act} {c:Cx} {v:AV} {u:Value} (h:(execOp a.eval o).run P c.w=.ok (.value u) c.w) (hv:aC c v u):oq P o a c v :=
 ⟨u,c.w,.inl h,Grow.refl _,hv⟩
theorem q0 (b:ByteArray):b.toList=b.data.toList:=ByteArray.toList_eq b
theorem ue {α:Type} [BEq α] [LawfulBEq α] [DecidableEq α] (a b:α):(a==b)=decide (a=b):=by
 rw[Bool.eq_iff_iff];simp
theorem Mx (x y:List UInt8):Op.bytesLess x y=al x y:=by
 induction x generalizing y with
 |nil=>cases y<;>rfl
 |cons a x ih=>cases y with
  |nil=>rfl
  |cons b y=>simp only[Op.bytesLess,al,ih]
theorem Ns {P:Program} {w:World} {op:BinOp} {t:TypeId} {k:IntKind} {a b:Int} {v:AV} (hop:op≠.shl/\op≠.shr) (h:sU op k a b=some v) :
  ∃x,v=.v x/\(binOp op t (.int k a) (.int k b)).run P w=.ok x w:=by
 cases op<;>simp only[sU,zOi,reduceCtorEq]at h
 case quo =>
  split at h
  ·simp at h
  ·rename_i hb;simp only[zOi]at h;subst h
   exact ⟨_,rfl,by simp[binOp_quo,Op.intDiv,hb]⟩
 case rem =>
  split at h
  ·simp at h
  ·rename_i hb;simp only[zOi]at h;subst h
   exact ⟨_,rfl,by simp[binOp_rem,Op.intDiv,hb]⟩
 all_goals
  subst h
  refine ⟨_,rfl,?_⟩
  simp[binOp,Op.intArith,Op.intBits,Op.intCmp,ue,bne,Nat.min]
theorem Ig {P:Program} {w:World} {op:BinOp} {t:TypeId} {k k':IntKind} {a b:Int} {v:AV} (hop:op=.shl\/op=.shr) (h:Cn op k a b=some v) :
  ∃x,v=.v x/\(binOp op t (.int k a) (.int k' b)).run P w=.ok x w:=by
 unfold Cn at h
 split at h
 ·simp at h
 ·rename_i hb
  rcases hop with rfl|rfl<;>simp only[zOi]at h<;>subst h<;>refine ⟨_,rfl,?_⟩ <;>
   simp[binOp,Op.shift,hb,Nat.min_def,Nat.min]
theorem My {P:Program} {w:World} (c:Cx) {op:BinOp} {t:TypeId} {x y:List UInt8} {v:AV} (h:uy op x y=some v) :
  ∃u,aC c v u/\(binOp op t (.string ⟨x.toArray⟩) (.string ⟨y.toArray⟩)).run P w=.ok u w:=by
 have hx:(⟨x.toArray⟩:ByteArray).toList=x:=by rw[q0]
 have hy:(⟨y.toArray⟩:ByteArray).toList=y:=by rw[q0]
 cases op<;>simp only[uy,zOi,reduceCtorEq]at h
 case add =>
  split at h
  ·rename_i hle
   simp only[zOi]at h;subst h
   refine ⟨_,.str _,?_⟩
   have ew:¬(((⟨x.toArray⟩:ByteArray).size+(⟨y.toArray⟩:ByteArray).size:Nat):Int)>IntKind.i64.max:=by
    simp only[ByteArray.size,List.size_toArray]
    have:IntKind.i64.max=9223372036854775807:=by decide
    omega
   have sX:(⟨x.toArray⟩:ByteArray)++⟨y.toArray⟩=⟨(x++y).toArray⟩:=by
    apply ByteArray.ext
    apply Array.ext'
    rw[Joins.data_append]
   simp only[binOp,Op.stringOp,Sem.run_ite,if_neg ew,Sem.run_pure,sX]
  ·simp at h
 all_goals
  subst h
  refine ⟨_,.v _,?_⟩
  simp[binOp,Op.stringOp,hx,hy,Mx,ue]
inductive uq (c:Cx):Option AV->Option Value->Prop
 |none:uq c none none
 |some {x u} (h:aC c x u):uq c (some x) (some u)
theorem lT {c:Cx} {tm:Nat->AV} {a:Act} (h:fJ c tm a) (x:Option Operand):uq c (HG tm (x.map cO)) (x.map a.eval):=by
 cases x with
 |none=>exact .none
 |some x=>exact .some (aE h x)
theorem uI {c:Cx} {x:AV} {u:Value} {i:Int} (hv:aC c x u) (h:idxOf x=some i):∃k,u=.int k i:=by
 unfold idxOf at h
 split at h
 ·simp only[zOi]at h;subst h;exact ⟨_,hv.b8⟩
 ·simp at h
theorem iE {P:Program} {w:World} {k:IntKind} {i:Int} {y:Nat} {code:BoundsCode} (h:0<=i/\i<=y) :
  (Instr.sliceBound (.int k i) y code).run P w=.ok i.toNat w:=by
 simp[Instr.sliceBound,asIntOf,h]
theorem nU {P:Program} {c:Cx} {isS:Bool} {len top cap:Nat} {lo hi mx:Option AV} {Gd HO HL:Option Value} {l h:Nat} {m:Option Nat}
  (oE:uq c lo Gd) (DN:uq c hi HO) (WG:uq c mx HL) (ht:top<=cap) (hb:bV len top lo hi mx=some (l,h,m)) :
  (Instr.sliceBounds isS len cap Gd HO HL).run P c.w=.ok (l,h,m.getD cap) c.w/\l<=h/\(h<=m.getD top\/(h=len/\m=none))/\(∀k,m=some k->k<=top):=by
 unfold bV at hb
 dsimp only at hb
 split at hb
 ·simp at hb
 ·rename_i m' hm
  split at hb
  ·simp at hb
  ·rename_i h' hh
   split at hb
   ·simp at hb
   ·rename_i l' hl
    simp only[zOi,zPi]at hb
    obtain ⟨rfl,rfl,rfl⟩:=hb
    have EQ:(match HL with|some v=>Instr.sliceBound v cap (if isS then .slice3Acap else .slice3Alen)|none=>pure cap).run P c.w=.ok (m'.getD cap) c.w/\(∀k,m'=some k->k<=top)/\(m'=none↔HL=none):=by
     cases WG with
     |none=>simp only[zOi]at hm;subst hm;simp
     |some hv =>
      simp only at hm
      split at hm
      ·rename_i i hi
       split at hm
       ·rename_i hb
        simp only[zOi]at hm;subst hm
        obtain ⟨k,rfl⟩:=uI hv hi
        refine ⟨?_,?_,by simp⟩
        ·simp only[wJ];exact iE ⟨hb.1,by omega⟩
        ·intro k hk;simp only[zOi]at hk;omega
       ·simp at hm
      ·simp at hm
    obtain ⟨EQ,T4,Hh⟩:=EQ
    have BG:(match HO,HL with
      |some v,some _=>Instr.sliceBound v (m'.getD cap) .slice3B
      |some v,none=>Instr.sliceBound v (m'.getD cap) (if isS then .sliceAcap else .sliceAlen)
      |none,none=>pure len
      |none,some _=>stuck "Slice: max without high").run P c.w=.ok h' c.w/\(h'<=m'.getD top\/(h'=len/\m'=none)):=by
     cases DN with
     |none =>
      simp only at hh
      split at hh
      ·simp at hh
      ·rename_i hms
       simp only[zOi]at hh;subst hh
       have:m'=none:=by simpa using hms
       have hc:=Hh.1 this
       subst hc
       exact ⟨by simp,.inr ⟨rfl,this⟩⟩
     |some hv =>
      simp only at hh
      split at hh
      ·rename_i i hi
       split at hh
       ·rename_i hb
        simp only[zOi]at hh;subst hh
        obtain ⟨k,rfl⟩:=uI hv hi
        have hle:(m'.getD top)<=(m'.getD cap):=by cases m' with|none=>exact ht|some _=>exact zD _
        refine ⟨?_,.inl (by omega)⟩
        cases HL with
        |none=>exact iE ⟨hb.1,by omega⟩
        |some v=>exact iE ⟨hb.1,by omega⟩
       ·simp at hh
      ·simp at hh
    obtain ⟨BG,hhl⟩:=BG
    have tP:(match Gd with
      |some v=>Instr.sliceBound v h' (if HL.isSome then .slice3C else .sliceB)
      |none=>pure 0).run P c.w=.ok l' c.w/\l'<=h':=by
     cases oE with
     |none=>simp only[zOi]at hl;subst hl;simp
     |some hv =>
      simp only at hl
      split at hl
      ·rename_i i hi
       split at hl
       ·rename_i hb
        simp only[zOi]at hl;subst hl
        obtain ⟨k,rfl⟩:=uI hv hi
        exact ⟨iE ⟨hb.1,by omega⟩,by omega⟩
       ·simp at hl
      ·simp at hl
    refine ⟨?_,tP.2,hhl,T4⟩
    obtain ⟨tP,_⟩:=tP
    clear hm hh hl oE DN WG T4 hhl
    have Rz:∀{x y:Nat},(pure x:Sem Nat).run P c.w=.ok y c.w->x=y:=fun h=>by simpa using h
    cases HL with
    |none =>
     obtain rfl:=Hh.2 rfl
     cases HO with
     |none =>
      obtain rfl:=Rz BG
      cases Gd with
      |none=>obtain rfl:=Rz tP;simp[Instr.sliceBounds]
      |some v=>have h3:(Instr.sliceBound v len .sliceB).run P c.w=.ok l' c.w:=tP;simp[Instr.sliceBounds,h3]
     |some u =>
      have h2:(Instr.sliceBound u cap (if isS then .sliceAcap else .sliceAlen)).run P c.w=.ok h' c.w:=BG
      cases Gd with
      |none=>obtain rfl:=Rz tP;simp[Instr.sliceBounds,h2]
      |some v=>have h3:(Instr.sliceBound v h' .sliceB).run P c.w=.ok l' c.w:=tP;simp[Instr.sliceBounds,h2,h3]
    |some x =>
     cases m' with
     |none=>exact absurd (Hh.1 rfl) (by simp)
     |some k =>
      have h1:(Instr.sliceBound x cap (if isS then .slice3Acap else .slice3Alen)).run P c.w=.ok k c.w:=EQ
      cases HO with
      |none=>simp at BG
      |some u =>
       have h2:(Instr.sliceBound u k .slice3B).run P c.w=.ok h' c.w:=BG
       cases Gd with
       |none=>obtain rfl:=Rz tP;simp[Instr.sliceBounds,h1,h2]
       |some v=>have h3:(Instr.sliceBound v h' .slice3C).run P c.w=.ok l' c.w:=tP;simp[Instr.sliceBounds,h1,h2,h3]
theorem gO (b o n:Nat):(⟨b,o,none⟩:Addr).add n=⟨b,o+n,none⟩:=by
 unfold Addr.add;split<;>simp_all
theorem Ch {P:Program} {c:Cx} {t e:TypeId} {i:TypeInfo} {r sz j len:Nat} {cap:Option Nat} {u:Value} {lo hi mx:Option AV} {Gd HO HL:Option Value} {v:AV}
  (ht:P.underlying t=some (.slice e)) (kO:P.info? e=some i) (hv:aC c (.sl r sz j len cap) u)
  (oE:uq c lo Gd) (DN:uq c hi HO) (WG:uq c mx HL) (h:b9 i.size (.sl r sz j len cap) lo hi mx=some v) :
  ∃u',(Instr.sliceAt t u Gd HO HL).run P c.w=.ok u' c.w/\aC c v u':=by
 cases hv with
 |sl hι hs ha hl dq hN hE eP =>
  rename_i n p a
  unfold b9 at h
  dsimp only at h
  split at h
  ·rename_i ew
   split at h
   ·rename_i l h' m hb
    simp only[zOi]at h;subst h
    have R1:cap.getD len<=n:=by
     cases cap with
     |none=>exact hl
     |some k=>have:=dq k rfl;simp;omega
    obtain ⟨bR,hlh,WW,WH⟩:=nU (P:=P) (isS:=true) oE DN WG R1 hb
    have oD:m.getD n<=n:=by
     cases m with
     |none=>exact zD _
     |some k=>have:=WH k rfl;simp;omega
    have abi:h'<=m.getD n:=by
     rcases WW with hh|⟨hh,hm⟩
     ·cases m with
      |none=>simp at hh ⊢;omega
      |some k=>simpa using hh
     ·subst hm;simp;omega
    refine ⟨.slice (if m.getD n=l then some a else (some a).map (·.add (l*i.size))) (h'-l) (m.getD n-l),?_,?_⟩
    ·simp only[Instr.sliceAt,Instr.slice,Sem.run_bind,run_underlying ht,Result.andThen_ok,bR]
     simp[sizeOf,typeInfo,kO]
    ·have key:aC c (.sl r sz (j+l) (h'-l) (ef m l cap)) (.slice (some (if m.getD n=l then a else a.add (l*i.size))) (h'-l) (m.getD n-l)):=by
      refine .sl hι hs ?_ (by omega) ?_ ?_ ?_ eP
      ·intro bt
       have aeO:m.getD n≠l:=by omega
       rw[if_neg aeO,ha (by omega),<-ew,gO]
       simp only[Addr.mk.injEq,true_and,and_true]
       rw[ze,qF]
      ·intro k hk
       unfold ef at hk
       cases m with
       |some m=>simp at hk ⊢;exact hk.symm
       |none =>
        simp only[zC]at hk
        obtain ⟨k',jn,rfl⟩:=hk
        simp[dq k' jn]
      ·intro bt
       have:=hN (by omega)
       refine wF ?_ this
       apply Nat.add_le_add_left
       apply zX
       omega
      ·intro bt
       unfold ef at bt
       cases m with
       |some m=>simp at bt
       |none =>
        simp only[Option.map_eq_none_iff]at bt
        rw[<-hE bt]
        have fq:l<=n:=by simp at abi;omega
        simp only[qM]
        congr 2;omega
     have WT:(if m.getD n=l then some a else (some a).map (·.add (l*i.size)))=some (if m.getD n=l then a else a.add (l*i.size)):=by split<;>rfl
     rw[WT];exact key
   ·simp at h
  ·simp at h
theorem Ci {P:Program} {c:Cx} {t e:TypeId} {i:TypeInfo} {nil:Bool} {sz:Nat} {es:List (List AV)} {cap:Option Nat} {u:Value} {lo hi mx:Option AV} {Gd HO HL:Option Value} {v:AV}
  (ht:P.underlying t=some (.slice e)) (kO:P.info? e=some i) (hv:aC c (.rs nil sz es cap) u)
  (oE:uq c lo Gd) (DN:uq c hi HO) (WG:uq c mx HL) (h:b9 i.size (.rs nil sz es cap) lo hi mx=some v) :
  ∃u',(Instr.sliceAt t u Gd HO HL).run P c.w=.ok u' c.w/\aC c v u':=by
 unfold b9 at h
 dsimp only at h
 split at h
 ·rename_i ew
  split at h
  ·rename_i l h' m hb
   simp only[zOi]at h;subst h
   cases hv with
   |nil dq =>
    obtain ⟨bR,hlh,WW,WH⟩:=nU (P:=P) (isS:=true) (cap:=0) oE DN WG (zD _) hb
    have yR:m.getD 0=0:=by
     cases m with
     |none=>rfl
     |some k=>exact Nat.le_zero.1 (WH k rfl)
    have hh0:h'=0:=by
     rcases WW with hh|⟨hh,hm⟩
     ·have h2:h'<=m.getD 0:=hh;omega
     ·simpa using hh
    have Ls:l=0:=by omega
    subst hh0;subst Ls
    refine ⟨.slice none 0 0,?_,?_⟩
    ·have aaK:(Instr.sliceBounds true 0 0 Gd HO HL).run P c.w=.ok (0,0,m.getD 0) c.w:=bR
     simp only[Instr.sliceAt,Instr.slice,Sem.run_bind,run_underlying ht,Result.andThen_ok,aaK]
     simp[sizeOf,typeInfo,kO,yR]
    ·simp only[List.take_nil,List.drop_nil]
     refine .nil ?_
     intro k hk
     unfold ef at hk
     cases m with
     |some m=>simp at hk yR;omega
     |none =>
      simp only[zC]at hk
      obtain ⟨k',jn,rfl⟩:=hk
      simp[dq k' jn]
   |rs g hlen hl dq cW bZ hc me =>
    rename_i n len a
    have R3:sz=i.size:=by simpa using ew
    have R1:es.length<=n:=by omega
    obtain ⟨bR,hlh,WW,WH⟩:=nU (P:=P) (isS:=true) oE DN WG R1 hb
    have oD:m.getD n<=n:=by
     cases m with
     |none=>exact zD _
     |some k=>have:=WH k rfl;simp;omega
    have hhe:h'<=es.length:=by
     rcases WW with hh|⟨hh,hm⟩
     ·cases m with
      |none=>simpa using hh
      |some k=>have:=WH k rfl;simp at hh;omega
     ·omega
    have abi:h'<=m.getD n:=by
     rcases WW with hh|⟨hh,hm⟩
     ·cases m with
      |none=>simp at hh ⊢;omega
      |some k=>simpa using hh
     ·subst hm;simp;omega
    refine ⟨.slice (if m.getD n=l then some a else (some a).map (·.add (l*i.size))) (h'-l) (m.getD n-l),?_,?_⟩
    ·rw[<-hlen]
     simp only[Instr.sliceAt,Instr.slice,Sem.run_bind,run_underlying ht,Result.andThen_ok,bR]
     simp[sizeOf,typeInfo,kO]
    ·have bH:∀(k:Nat) (x:List AV),((es.take h').drop l)[k]?=some x->es[l+k]?=some x/\l+k<h':=by
      intro k x hk
      rw[wE,wB]at hk
      split at hk
      ·exact ⟨hk,by assumption⟩
      ·simp at hk
     have key:aC c (.rs false sz ((es.take h').drop l) (ef m l cap)) (.slice (some (if m.getD n=l then a else a.add (l*i.size))) (h'-l) (m.getD n-l)):=by
      refine .rs (fun k j=>g (l+k) j) (by simp;omega) (by omega) ?_ ?_ ?_ ?_ ?_
      ·intro k hk
       unfold ef at hk
       cases m with
       |some m=>simp at hk ⊢;exact hk.symm
       |none =>
        simp only[zC]at hk
        obtain ⟨k',jn,rfl⟩:=hk
        simp[dq k' jn]
      ·exact fun k x hk=>cW _ _ (bH k x hk).1
      ·intro bt
       have:es≠[]:=by rintro rfl;simp at bt
       obtain ⟨h1,h2⟩:=bZ this
       split
       ·exact ⟨h1,h2⟩
       ·unfold Addr.add;split
        ·exact ⟨h1,h2⟩
        ·exact ⟨h1,rfl⟩
      ·intro k j x av h1 h2
       obtain ⟨h3,h4⟩:=bH k x h1
       have bt:m.getD n≠l:=by omega
       rw[if_neg bt]
       have h5:=hc (l+k) j x av h3 h2
       have h6:((a.add (l*i.size)).block=a.block)/\((a.add (l*i.size)).off=a.off+l*sz):=by
        unfold Addr.add;split
        ·rename_i h0;rw[R3,h0];simp
        ·rw[R3];simp
       rw[h6.1,h6.2,show a.off+l*sz+k*sz+j=a.off+(l+k)*sz+j by rw[ze];omega]
       exact h5
      ·exact fun k j x av h1 h2=>me (l+k) j x av (bH k x h1).1 h2
     have WT:(if m.getD n=l then some a else (some a).map (·.add (l*i.size)))=some (if m.getD n=l then a else a.add (l*i.size)):=by split<;>rfl
     rw[WT];exact key
  ·simp at h
 ·simp at h
theorem AG {P:Program} {c:Cx} {t:TypeId} {s:List UInt8} {lo hi:Option AV} {Gd HO:Option Value} {v:AV}
  (ht:P.underlying t=some .string)
  (oE:uq c lo Gd) (DN:uq c hi HO) (h:eW (.str s) lo hi=some v) :
  ∃u',(Instr.sliceAt t (.string ⟨s.toArray⟩) Gd HO none).run P c.w=.ok u' c.w/\aC c v u':=by
 unfold eW at h
 dsimp only at h
 split at h
 ·rename_i l h' m hb
  simp only[zOi]at h;subst h
  obtain ⟨bR,hlh,WW,WH⟩:=nU (P:=P) (isS:=false) oE DN .none (zD _) hb
  refine ⟨.string ((⟨s.toArray⟩:ByteArray).extract l h'),?_,?_⟩
  ·have ew:(⟨s.toArray⟩:ByteArray).size=s.length:=by simp[ByteArray.size]
   simp only[Instr.sliceAt,Instr.slice,Sem.run_bind,run_underlying ht,Result.andThen_ok,ew,bR]
   simp[bR]
  ·have:=tB c ((⟨s.toArray⟩:ByteArray).extract l h')
   rw[Lib.extract_data]at this
   simpa [qt] using this
 ·simp at h
theorem aC.rV {c:Cx} {cs:List AV} {u:Value} (h:aC c (.agg cs) u):∃us,u=.agg us/\cs.length=us.size/\∀(k:Nat) (av:AV) (x:Value),cs[k]?=some av->us[k]?=some x->aC c av x:=by
 cases h with
 |agg hl hv=>exact ⟨_,rfl,hl,hv⟩
theorem aC.xz {c:Cx} {cs:List AV} {u:Value} (h:aC c (.bE cs) u):∃us,u=.tuple us/\cs.length=us.size/\∀(k:Nat) (av:AV) (x:Value),cs[k]?=some av->us[k]?=some x->aC c av x:=by
 cases h with
 |bE hl hv=>exact ⟨_,rfl,hl,hv⟩
def cE (c:Cx) (x:List AV) (y:List Value):Prop:=x.length=y.length/\∀(k:Nat) (av:AV) (u:Value),x[k]?=some av->y[k]?=some u->aC c av u
theorem mX {c:Cx} {x:AV} {u:Value} (h:aC c x u) (hx:(∀y,x≠.v (.agg y))/\x≠.any):cE c x.cells u.cells.toList:=by
 have one:∀{x:AV} {u:Value},aC c x u->cE c [x] [u]:=fun h=>⟨rfl,fun k av w h1 h2=>by
  cases k with
  |zero=>simp at h1 h2;subst h1;subst h2;exact h
  |succ k=>simp at h1⟩
 cases h with
 |agg hl hv=>exact ⟨by simpa [AV.cells,Value.cells] using hl,fun k av w h1 h2=>hv k av w h1 (by simpa [Value.cells] using h2)⟩
 |v =>
  cases u<;>first|exact one (.v _)|exact absurd rfl (hx.1 _)
 |str l=>exact one (.str l)
 |ptr h eP=>exact one (.ptr h eP)
 |mp h eP=>exact one (.mp h eP)
 |it h h' hr hm rJ sb e1 e2 e3 e4=>exact one (.it h h' hr hm rJ sb e1 e2 e3 e4)
 |Gr h hr hm sb e1 hs=>exact one (.Gr h hr hm sb e1 hs)
 |rp g a b d=>exact one (.rp g a b d)
 |sl a b d e f g h eP=>exact one (.sl a b d e f g h eP)
 |nil h=>exact one (.nil h)
 |rs g a b d e f g h=>exact one (.rs _ a b d e f g h)
 |bE a b=>exact one (.bE a b)
 |fn a b d e=>exact one (.fn a b d e)
 |Bx h=>exact one (.Bx h)
 |any u=>exact absurd rfl hx.2
theorem cE.get {c:Cx} {x:List AV} {y:List Value} (h:cE c x y) {k:Nat} {av:AV} (hk:x[k]?=some av):∃u,y[k]?=some u/\aC c av u:=by
 have az:k<x.length:=(zB.1 hk).1
 have mh:k<y.length:=h.1▸az
 exact ⟨y[k],zA mh,h.2 k av _ hk (zA mh)⟩
theorem getElem?_spliceL {α:Type} (l:List α) (off:Nat) (new:List α) (h:off+new.length<=l.length) (k:Nat) :
  (aa l off new)[k]?=if off<=k/\k<off+new.length then new[k-off]? else l[k]?:=by
 unfold aa
 rw[zF]
 have hto:(l.take off).length=off:=by simp;omega
 by_cases h1:k<off
 ·rw[zR (by omega),wB,if_pos h1,if_neg (by omega)]
 ·rw[za (by omega),hto]
  by_cases h2:k<off+new.length
  ·rw[zR (by omega),if_pos ⟨by omega,h2⟩]
  ·rw[za (by omega),if_neg (by omega),wE]
   congr 1;omega
theorem dZ {α:Type} (l:List α) (off:Nat) (new:List α) (h:off+new.length<=l.length):(aa l off new).length=l.length:=by
 unfold aa;simp;omega
theorem cE.MB {c:Cx} {x new:List AV} {y ny:List Value} (h:cE c x y) (hn:cE c new ny) {off:Nat} (ho:off+new.length<=x.length):cE c (aa x off new) (aa y off ny):=by
 have Sd:off+ny.length<=y.length:=by rw[<-hn.1,<-h.1];exact ho
 refine ⟨by rw[dZ _ _ _ ho,dZ _ _ _ Sd,h.1],fun k av u h1 h2 => ?_⟩
 rw[getElem?_spliceL _ _ _ ho]at h1
 rw[getElem?_spliceL _ _ _ Sd]at h2
 rw[<-hn.1]at h2
 split at h1
 ·rename_i hk;rw[if_pos hk]at h2;exact hn.2 _ _ _ h1 h2
 ·rename_i hk;rw[if_neg hk]at h2;exact h.2 _ _ _ h1 h2
theorem vN (cs:List Value) (off:Nat) (y:Array Value) (h:off+cs.length<=y.size) :
  (cs.zipIdx.foldl (fun (a:Array Value) (p:Value×Nat)=>a.setIfInBounds (off+p.2) p.1) y).toList=aa y.toList off cs:=by
 have key:∀(cs:List Value) (i:Nat) (y:Array Value),off+i+cs.length<=y.size ->
   ((cs.zipIdx i).foldl (fun (a:Array Value) (p:Value×Nat)=>a.setIfInBounds (off+p.2) p.1) y).toList=aa y.toList (off+i) cs:=by
  intro cs
  induction cs with
  |nil=>intro i y _;simp[aa]
  |cons v r ih =>
   intro i y hle
   have az:off+i<y.size:=by simp at hle;omega
   simp only[List.zipIdx_cons,jD]
   rw[ih (i+1) _ (by simp at hle ⊢;omega)]
   apply qr
   intro k
   simp only[zV]at hle
   rw[getElem?_spliceL _ _ _ (by simp;omega),getElem?_spliceL _ _ _ (by simp;omega)]
   simp only[zV,Array.toList_setIfInBounds]
   by_cases hk:k=off+i
   ·subst hk
    rw[if_neg (by omega),if_pos (by omega)]
    simp[az]
   ·by_cases nf:off+i<k/\k<off+i+(r.length+1)
    ·rw[if_pos (by omega),if_pos (by omega)]
     rw[show k-(off+i)=(k-(off+(i+1)))+1 by omega,ww]
    ·rw[if_neg (by omega),if_neg (by omega),we (by omega)]
 have:=key cs 0 y (by omega)
 simpa using this
theorem getElem?_arr {α:Type} (a:Array α) (k:Nat):a.toList[k]?=a[k]?:=by simp
theorem gb {x:AV} (h:x.cells.all AV.one=true):(∀y:Array Value,x≠.v (.agg y))/\x≠.any :=
 ⟨by rintro y rfl;simp[AV.cells,AV.one]at h,by rintro rfl;simp[AV.cells,AV.one]at h⟩
theorem Fj {c:Cx} {place:Nat->Option (Nat×Nat)}:∀{parts:List (Nat×Nat×AV)} {cparts:List (Nat×Value)} {zero:List AV} {gL:Array Value} {cells:List AV},
  parts.length=cparts.length->(∀(k:Nat) (p:Nat×Nat×AV) (q:Nat×Value),parts[k]?=some p->cparts[k]?=some q->place q.1=some (p.1,p.2.1)/\aC c p.2.2 q.2) ->
  cE c zero gL.toList->sw zero parts=some cells->∃Af,Instr.fill place gL cparts=some Af/\cE c cells Af.toList
 |[],[],zero,gL,cells,_,_,hz,h=>by
  simp only[sw,zOi]at h;subst h
  exact ⟨gL,rfl,hz⟩
 |[],_::_,_,_,_,hl,_,_,_=>by simp at hl
 |_::_,[],_,_,_,hl,_,_,_=>by simp at hl
 |(off,n,x)::r,(i,u)::r',zero,gL,cells,hl,hp,hz,h=>by
  simp only[sw]at h
  split at h
  ·rename_i hc
   obtain ⟨hn,hle,cV⟩:=hc
   have hn:x.cells.length=n:=hn
   have hle:off+n<=zero.length:=hle
   obtain ⟨Lm,hv⟩:=hp 0 (off,n,x) (i,u) rfl rfl
   have hcr:=mX hv (gb cV)
   have T3:u.cells.size=n:=by have:=hcr.1;simp at this;omega
   have ew:zero.length=gL.size:=by have:=hz.1;simpa using this
   have EY:=vN u.cells.toList off gL (by simp;omega)
   have L9:cE c (aa zero off x.cells) (u.cells.zipIdx.foldl (fun cs (p:Value×Nat)=>cs.setIfInBounds (off+p.2) p.1) gL).toList:=by
    have:(u.cells.zipIdx.foldl (fun cs (p:Value×Nat)=>cs.setIfInBounds (off+p.2) p.1) gL)=(u.cells.toList.zipIdx.foldl (fun (a:Array Value) (p:Value×Nat)=>a.setIfInBounds (off+p.2) p.1) gL):=by
     rw[<-Array.foldl_toList,Array.toList_zipIdx]
    rw[this,EY]
    exact hz.MB hcr (show off+x.cells.length<=zero.length by omega)
   obtain ⟨cc,h1,h2⟩:=Fj (parts:=r) (cparts:=r') (by simpa using hl) (fun k p q h1 h2=>hp (k+1) p q h1 h2) L9 h
   refine ⟨cc,?_,h2⟩
   simp only[Instr.fill,Lm]
   rw[if_neg (by simp[T3];omega)]
   exact h1
  ·simp at h
theorem Bj {P:Program} {w:World} {t:TypeId} {n:Option Nat} (h:uh P t=some n) :
  (isAgg t).run P w=.ok n.isSome w/\(∀k,n=some k->(sizeOf t).run P w=.ok k w):=by
 unfold uh at h
 split at h<;>simp only[zOi,reduceCtorEq]at h<;>subst h
 ·rename_i fs i hu hi
  exact ⟨by simp[isAgg,run_underlying hu],fun k hk=>by simp only[zOi]at hk;subst hk;simp[sizeOf,typeInfo,hi]⟩
 ·rename_i a b i hu hi
  exact ⟨by simp[isAgg,run_underlying hu],fun k hk=>by simp only[zOi]at hk;subst hk;simp[sizeOf,typeInfo,hi]⟩
 ·rename_i d i EO BE hu hi
  refine ⟨?_,fun k hk=>by simp at hk⟩
  have:(isAgg t).run P w=.ok false w:=by
   simp only[isAgg,Sem.run_bind,run_underlying hu,Result.andThen_ok]
   cases d<;>first|rfl|exact absurd rfl (EO _ _ · )|skip
   all_goals first|rfl|(exact (EO _ _ hu hi).elim)|(exact (BE _ _ _ hu hi).elim)
  simpa using this
theorem lM {P:Program} {c:Cx} {t:TypeId} {n:Option Nat} (ht:uh P t=some n) {B O off:Nat} {cells:List AV} {v:AV}
  (hc:∀(k:Nat) (av:AV),cells[k]?=some av->∃u,c.w.cell? ⟨B,O+k,none⟩=some u/\aC c av u) (h:gv cells off n=some v) :
  ∃u,(loadVar t ⟨B,O+off,none⟩).run P c.w=.ok u c.w/\aC c v u:=by
 obtain ⟨h1,h2⟩:=Bj (P:=P) (w:=c.w) ht
 cases n with
 |none =>
  simp only[gv]at h
  obtain ⟨u,h3,h4⟩:=hc off v h
  refine ⟨u,?_,h4⟩
  simp only[loadVar,Sem.run_bind,h1,Result.andThen_ok]
  simp[h3]
 |some k =>
  simp only[gv]at h
  split at h
  ·rename_i hle
   simp only[zOi]at h;subst h
   have hex:∃us:List Value,us.length=k/\∀(j:Nat) (u:Value),us[j]?=some u->c.w.cell? ⟨B,O+off+j,none⟩=some u/\∀av,(cells.drop off)[j]?=some av->aC c av u:=by
    refine ⟨(List.range k).map (fun j=>(c.w.cell? ⟨B,O+off+j,none⟩).getD undef),by simp,fun j u hj => ?_⟩
    simp only[zM,zC]at hj
    obtain ⟨j',hj',rfl⟩:=hj
    have Ua:j<k/\j'=j:=by
     have:=zB.1 hj'
     obtain ⟨h5,h6⟩:=this
     simp at h5 h6;exact ⟨h5,h6.symm⟩
    obtain ⟨Ua,rfl⟩:=Ua
    have az:off+j'<cells.length:=by omega
    obtain ⟨u,h3,h4⟩:=hc (off+j') _ (zA az)
    rw[<-qF]at h3
    rw[h3]
    refine ⟨rfl,fun av YI => ?_⟩
    rw[wE,zA az,zOi]at YI
    subst YI;exact h4
   obtain ⟨us,hl,Wf⟩:=hex
   refine ⟨.agg us.toArray,?_,?_⟩
   ·simp only[loadVar,Sem.run_bind,h1,Result.andThen_ok,jH,if_true,h2 k rfl]
    have BF:=run_loadCells_list (P:=P) c.w ⟨B,O+off,none⟩ us (fun j u hj=>by rw[gO];exact (Wf j u hj).1)
    rw[hl]at BF
    simp[BF]
   ·refine .agg (by simp;omega) (fun j av u h3 h4 => ?_)
    have h5:us[j]?=some u:=by simpa using h4
    rw[wB]at h3
    split at h3
    ·exact (Wf j u h5).2 av h3
    ·simp at h3
  ·simp at h
theorem MM {P:Program} {c:Cx} {t:TypeId} {n:Option Nat} (ht:uh P t=some n) {off:Nat} {cells:List AV} {us:Array Value} {v:AV}
  (hl:cells.length=us.size) (hv:∀(k:Nat) (av:AV) (u:Value),cells[k]?=some av->us[k]?=some u->aC c av u) (h:gv cells off n=some v) :
  ∃u,(part t us off).run P c.w=.ok u c.w/\aC c v u:=by
 obtain ⟨h1,h2⟩:=Bj (P:=P) (w:=c.w) ht
 cases n with
 |none =>
  simp only[gv]at h
  have az:off<us.size:=by have:=(zB.1 h).1;omega
  refine ⟨us[off],?_,hv off v _ h (by simp[az])⟩
  simp only[part,Sem.run_bind,h1,Result.andThen_ok]
  simp[az]
 |some k =>
  simp only[gv]at h
  split at h
  ·rename_i hle
   simp only[zOi]at h;subst h
   refine ⟨.agg (us.extract off (off+k)),?_,?_⟩
   ·simp only[part,Sem.run_bind,h1,Result.andThen_ok,jH,if_true,h2 k rfl]
    simp
   ·refine .agg (by simp;omega) (fun j av u h3 h4 => ?_)
    rw[wB]at h3
    split at h3
    ·rename_i hj
     rw[wE]at h3
     refine hv (off+j) av u h3 ?_
     rw[Array.getElem?_extract]at h4
     split at h4
     ·exact h4
     ·simp at h4
    ·simp at h3
  ·simp at h
theorem vO {α:Type} {sz:Nat}:∀(zero:List (List α)) (i:Nat) (cells:List α),i<zero.length->(∀(i:Nat) (l:List α),zero[i]?=some l->l.length=sz)->cells.length=sz ->
  (zero.set i cells).flatten=aa zero.flatten (i*sz) cells
 |[],i,cells,h,_,_=>by simp at h
 |l::r,0,cells,h,hz,hc=>by
  have hl:=hz 0 l rfl
  simp[aa,hc,<-hl]
 |l::r,i+1,cells,h,hz,hc=>by
  have hl:=hz 0 l rfl
  have ih:=vO r i cells (by simpa using h) (fun i l h=>hz (i+1) l h) hc
  simp only[List.set_cons_succ,wg,ih,aa]
  rw[show (i+1)*sz=l.length+i*sz by rw[hl,ze];omega,List.take_length_add_append,qF,List.drop_length_add_append]
  simp
theorem mQ {α:Type} {sz:Nat}:∀(es:List (List α)) (i j:Nat) (l:List α) (x:α),(∀(i:Nat) (l:List α),es[i]?=some l->l.length=sz)->es[i]?=some l->l[j]?=some x->es.flatten[i*sz+j]?=some x
 |[],i,j,l,x,_,h,_=>by simp at h
 |e::r,0,j,l,x,hz,h,hj=>by
  simp at h;subst h
  have:=(zB.1 hj).1
  simp only[wg,qw,Nat.zero_add]
  rw[zR this];exact hj
 |e::r,i+1,j,l,x,hz,h,hj=>by
  have hl:=hz 0 e rfl
  have ih:=mQ r i j l x (fun i l h=>hz (i+1) l h) (by simpa using h) hj
  simp only[wg]
  rw[show (i+1)*sz+j=e.length+(i*sz+j) by rw[hl,ze];omega,za (by omega)]
  simpa using ih
theorem eK {α:Type} {sz:Nat}:∀(es:List (List α)),(∀(i:Nat) (l:List α),es[i]?=some l->l.length=sz)->es.flatten.length=es.length*sz
 |[],_=>by simp
 |e::r,hz=>by
  have hl:=hz 0 e rfl
  have ih:=eK r (fun i l h=>hz (i+1) l h)
  simp only[wg,zG,zV,ih,hl,ze];omega
theorem BM {c:Cx} {sz n:Nat}:∀{parts:List (Nat×AV)} {cparts:List (Nat×Value)} {zero:List (List AV)} {gL:Array Value} {es:List (List AV)},
  parts.length=cparts.length->(∀(k:Nat) (p:Nat×AV) (q:Nat×Value),parts[k]?=some p->cparts[k]?=some q->q.1=p.1/\aC c p.2 q.2) ->
  zero.length=n->(∀(i:Nat) (l:List AV),zero[i]?=some l->l.length=sz)->cE c zero.flatten gL.toList->kG sz zero parts=some es ->
  ∃Af,Instr.fill (fun i=>some (i*sz,sz)) gL cparts=some Af/\es.length=n/\(∀(i:Nat) (l:List AV),es[i]?=some l->l.length=sz)/\cE c es.flatten Af.toList
 |[],[],zero,gL,es,_,_,hn,hz,hr,h=>by
  simp only[kG,zOi]at h;subst h
  exact ⟨gL,rfl,hn,hz,hr⟩
 |[],_::_,_,_,_,hl,_,_,_,_,_=>by simp at hl
 |_::_,[],_,_,_,hl,_,_,_,_,_=>by simp at hl
 |(i,x)::r,(i',u)::r',zero,gL,es,hl,hp,hn,hz,hr,h=>by
  simp only[kG]at h
  split at h
  ·rename_i hc
   obtain ⟨TI,az,cV⟩:=hc
   have TI:x.cells.length=sz:=TI
   have az:i<zero.length:=az
   obtain ⟨NV,hv⟩:=hp 0 (i,x) (i',u) rfl rfl
   simp only at NV;subst NV
   have hcr:=mX hv (gb cV)
   have hu:u.cells.size=sz:=by have:=hcr.1;simp at this;omega
   have E1:=eK zero hz
   have AT:gL.size=zero.length*sz:=by have:=hr.1;simp only[qL]at this;omega
   have hle:i'*sz+sz<=zero.length*sz:=by
    have:(i'+1)*sz<=zero.length*sz:=zX _ az
    rw[ze]at this;omega
   have EY:=vN u.cells.toList (i'*sz) gL (by simp;omega)
   have sr:cE c (zero.set i' x.cells).flatten (u.cells.zipIdx.foldl (fun cs (p:Value×Nat)=>cs.setIfInBounds (i'*sz+p.2) p.1) gL).toList:=by
    have:(u.cells.zipIdx.foldl (fun cs (p:Value×Nat)=>cs.setIfInBounds (i'*sz+p.2) p.1) gL)=(u.cells.toList.zipIdx.foldl (fun (a:Array Value) (p:Value×Nat)=>a.setIfInBounds (i'*sz+p.2) p.1) gL):=by
     rw[<-Array.foldl_toList,Array.toList_zipIdx]
    rw[this,EY,vO zero i' x.cells az hz TI]
    exact hr.MB hcr (by rw[TI,E1];exact hle)
   obtain ⟨cc,h1,h2⟩:=BM (parts:=r) (cparts:=r') (zero:=zero.set i' x.cells) (by simpa using hl) (fun k p q h1 h2=>hp (k+1) p q h1 h2) (by simpa using hn)
    (fun k l hk=>by
     rw[wx]at hk
     split at hk
     ·simp only[zOi]at hk;subst hk;exact TI
     ·exact hz k l hk) sr h
   refine ⟨cc,?_,h2⟩
   simp only[Instr.fill]
   rw[if_neg (by simp[hu,AT];omega)]
   exact h1
  ·simp at h
theorem tu (c:Cx) {z:Value} {n:Nat} (h:z.cells.size=n):cE c (z.cells.toList.map js) z.cells.toList:=by
 refine ⟨by simp,fun k av u h1 h2 => ?_⟩
 simp only[zM,h2,qP,zOi]at h1
 subst h1;exact tG c u
theorem dz {P:Program} {t:TypeId} {z:List AV} (h:zeroOf P t=some z):∃i zv,P.info? t=some i/\i.zero=some zv/\zv.cells.size=i.size/\z=zv.cells.toList.map js:=by
 unfold zeroOf at h
 split at h
 ·rename_i i hi
  split at h
  ·rename_i zv hz
   split at h
   ·rename_i hs
    simp only[zOi]at h
    exact ⟨i,zv,hi,hz,hs,h.symm⟩
   ·simp at h
  ·simp at h
 ·simp at h
theorem nr (c:Cx) {z:Value} {sz len:Nat} (hz:z.cells.size=sz) (hs:0<sz) :
  cE c (List.replicate len (z.cells.toList.map js)).flatten ((Array.range (len*sz)).map (z.cells[· % z.cells.size]!)).toList:=by
 have hlen:∀(i:Nat) (l:List AV),(List.replicate len (z.cells.toList.map js))[i]?=some l->l.length=sz:=by
  intro i l h
  simp only[wP]at h
  split at h
  ·simp only[zOi]at h;subst h;simpa using hz
  ·simp at h
 refine ⟨by rw[eK _ hlen];simp,fun k av u h1 h2 => ?_⟩
 simp only[Array.toList_map,zM,zC]at h2
 obtain ⟨k',jn,rfl⟩:=h2
 have hk:k<len*sz/\k'=k:=by
  have:=zB.1 jn
  obtain ⟨h5,h6⟩:=this
  simp at h5 h6;exact ⟨h5,h6.symm⟩
 obtain ⟨hk,rfl⟩:=hk
 have hq:k' / sz<len:=by rw[Nat.div_lt_iff_lt_mul hs];exact hk
 have hr:k' % sz<sz:=jC _ hs
 have sr:k' % sz<z.cells.size:=by omega
 have h3:=mQ (sz:=sz) _ (k' / sz) (k' % sz) (z.cells.toList.map js) (js z.cells[k' % sz]) hlen (by simp[wP,hq]) (by simp[zA,sr])
 rw[Nat.mul_comm,Nat.div_add_mod,h1,zOi]at h3
 subst h3
 rw[hz,getElem!_pos z.cells (k' % sz) sr]
 exact tG c _
theorem ou {P:Program} {w:World} (d:Nat) {t e:TypeId} (h:P.underlying t=some (.slice e)) (ad:Option Addr) (n m:Nat):(Op.equalIn (d+1) t (.slice ad n m) (.slice none 0 0)).run P w=.ok ad.isNone w:=by
 cases ad<;>simp[Op.equalIn,run_underlying h]
theorem gB {P:Program} {w:World} (d:Nat) {t e:TypeId} (h:P.underlying t=some (.pointer e)) (ad:Option Addr):(Op.equalIn (d+1) t (.pointer ad) (.pointer none)).run P w=.ok ad.isNone w:=by
 cases ad<;>simp[Op.equalIn,run_underlying h]
theorem oP {P:Program} {w:World} (d:Nat) {t e:TypeId} {j:TypeInfo} (h:P.underlying t=some (.pointer e)) (hj:P.info? e=some j) (ad:Addr):(Op.equalIn (d+1) t (.pointer (some ad)) (.pointer (some ad))).run P w=.ok true w:=by
 simp[Op.equalIn,run_underlying h,sizeOf,typeInfo,hj,run_sameAddr_same]
theorem fold_push:∀(ns:List Int) (s:ByteArray),(ns.foldl (fun r n=>r.push (UInt8.ofNat n.toNat)) s).data.toList=s.data.toList++ns.map (fun n=>UInt8.ofNat n.toNat)
 |[],s=>by simp
 |n::r,s=>by
  simp only[jD,wI]
  rw[fold_push r]
  simp[ByteArray.push]
theorem nu:∀{es:bN} {l:List UInt8},eT es=some l->∃ns:List Int,es=ns.map (fun n=>[.v (.int .u8 n)])/\l=ns.map (fun n=>UInt8.ofNat n.toNat)
 |[],l,h=>by simp only[eT,zOi]at h;exact ⟨[],rfl,h.symm⟩
 |c::r,l,h=>by
  simp only[eT]at h
  split at h
  ·rename_i b l' hb hr
   simp only[zOi]at h
   obtain ⟨ns,h1,h2⟩:=nu hr
   unfold pP at hb
   split at hb
   ·rename_i n
    simp only[zOi]at hb
    exact ⟨n::ns,by simp[h1],by rw[<-h,<-hb,h2];rfl⟩
   ·simp at hb
  ·simp at h
theorem mU {P:Program} {fs:Array Field}:∀{parts:List (Nat×Operand)} {Rb:List (Nat×Nat×fg)},jy P fs parts=some Rb->Rb.length=parts.length
 |[],Rb,h=>by simp only[jy,zOi]at h;subst h;rfl
 |(i,x)::r,Rb,h=>by
  simp only[jy]at h
  split at h
  ·split at h
   ·rename_i j l hj hl
    simp only[zOi]at h;subst h
    simp[mU hl]
   ·simp at h
  ·simp at h
theorem sB {P:Program} {fs:Array Field} {c:Cx} {tm:Nat->AV} {a:Act} {places:Array (Nat×Nat)}:∀{parts:List (Nat×Operand)} {Rb:List (Nat×Nat×fg)},jy P fs parts=some Rb ->
  (∀(k:Nat) (f:Field) (j:TypeInfo),fs[k]?=some f->P.info? f.type=some j->places[k]?=some (f.offset,j.size))->fJ c tm a ->
  ∀(k:Nat) (p:Nat×Nat×AV) (q:Nat×Value),(Rb.map fun p=>(p.1,p.2.1,ev tm p.2.2))[k]?=some p->(parts.map fun p=>(p.1,a.eval p.2))[k]?=some q->places[q.1]?=some (p.1,p.2.1)/\aC c p.2.2 q.2
 |[],Rb,h,_,_,k,p,q,_,h2=>by simp at h2
 |(i,x)::r,Rb,h,Lm,ht,k,p,q,h1,h2=>by
  simp only[jy]at h
  split at h
  ·rename_i f hf
   split at h
   ·rename_i j l hj hl
    simp only[zOi]at h;subst h
    cases k with
    |zero =>
     simp only[wI,qj,zOi]at h1 h2
     subst h1;subst h2
     exact ⟨Lm i f j hf hj,aE ht x⟩
    |succ k =>
     simp only[wI,ww]at h1 h2
     exact sB hl Lm ht k p q h1 h2
   ·simp at h
  ·simp at h
theorem GH {P:Program} {w:World} (fs:Array Field) (jc:fs.all (fun f=>(P.info? f.type).isSome)=true) :
  ∃places:Array (Nat×Nat),((fs.mapM fun f=>do pure (f.offset,<-sizeOf f.type)):Sem (Array (Nat×Nat))).run P w=.ok places w /\
   (∀(k:Nat) (f:Field) (j:TypeInfo),fs[k]?=some f->P.info? f.type=some j->places[k]?=some (f.offset,j.size)):=by
 have key:∀(l:List Field),(∀f∈l,(P.info? f.type).isSome)->((l.mapM fun f=>do pure (f.offset,<-sizeOf f.type)):Sem (List (Nat×Nat))).run P w=.ok (l.map fun f=>(f.offset,P.cellsOf f.type)) w:=by
  intro l
  induction l with
  |nil=>intro _;rfl
  |cons f r ih =>
   intro h
   have h1:=h f (by simp)
   obtain ⟨i,hi⟩:=wM.1 h1
   have ih:=ih (fun g hg=>h g (by simp[hg]))
   have hs:(sizeOf f.type).run P w=.ok (P.cellsOf f.type) w:=by simp[sizeOf,typeInfo,hi,Program.cellsOf]
   simp only[List.mapM_cons,Sem.run_bind,hs,Result.andThen_ok,Sem.run_pure,ih,wI]
 have hl:=key fs.toList (fun f hf=>by
  rw[Array.all_eq_true_iff_forall_mem]at jc
  exact jc f (by simpa using hf))
 refine ⟨(fs.toList.map fun f=>(f.offset,P.cellsOf f.type)).toArray,?_,?_⟩
 ·rw[Array.mapM_eq_mapM_toList]
  simp only[Sem.run_map,hl,Result.andThen_ok]
 ·intro k f j hf hj
  simp[hf,Program.cellsOf,hj]
theorem Al {P:Program} {c:Cx} {tm:Nat->AV} {a:Act} {sz n:Nat} {zv:Value} {parts:Array (Nat×Operand)} {es:List (List AV)} (hs:0<sz) (hz:zv.cells.size=sz) (ht:fJ c tm a)
  (h:kG sz (List.replicate n (zv.cells.toList.map js)) ((parts.toList.map fun p=>(p.1,cO p.2)).map fun p=>(p.1,ev tm p.2))=some es) :
  ∃cc,Instr.fill (fun i=>some (i*sz,sz)) ((Array.range (n*sz)).map (zv.cells[· % zv.cells.size]!)) (parts.toList.map fun p=>(p.1,a.eval p.2))=some cc/\es.length=n/\(∀(i:Nat) (l:List AV),es[i]?=some l->l.length=sz)/\cE c es.flatten cc.toList:=by
 refine BM (n:=n) ?_ ?_ (by simp) ?_ (nr c hz hs) h
 ·simp
 ·intro k p q h1 h2
  simp only[qx,zM,zC,Function.comp_apply]at h1 h2
  obtain ⟨y,hy,rfl⟩:=h1
  obtain ⟨y',AK,rfl⟩:=h2
  rw[hy]at AK;simp only[zOi]at AK;subst AK
  exact ⟨rfl,aE ht y.2⟩
 ·intro i l hl
  simp only[wP]at hl
  split at hl
  ·simp only[zOi]at hl;subst hl;simpa using hz
  ·simp at hl
theorem vV {P:Program} {w:World} {a:Act} {t e:TypeId} {i:TypeInfo} {zv:Value} {n:Nat} {parts:Array (Nat×Operand)} {cc:Array Value} {dst:Option Tmp} {type:TypeId} {pos:String} {after:Array Edge} {guard:Option (Nat×Bool)}
  (hu:P.underlying t=some (.slice e)) (hi:P.info? e=some i) (oe:i.zero=some zv) (EI:0<i.size) (NP:n*i.size<=16777216)
  (h1:Instr.fill (fun k=>some (k*i.size,i.size)) ((Array.range (n*i.size)).map (zv.cells[· % zv.cells.size]!)) (parts.toList.map fun p=>(p.1,a.eval p.2))=some cc) :
  (execOp a.eval ⟨dst,.buildSlice t n parts,type,pos,after,guard⟩).run P w=.ok (.value (.slice (some ⟨w.heap.size,0,none⟩) n n)) { w with heap:=w.heap.push (.cells cc e) }:=by
 have NO:(parts.map fun (i,x)=>(i,a.eval x)).toList=parts.toList.map fun p=>(p.1,a.eval p.2):=by simp
 have abe:¬(n*i.size>2 ^ 24):=by omega
 simp only[execOp,Instr.buildSlice,Sem.run_bind,run_underlying hu,Result.andThen_ok,NO]
 by_cases h0:n*i.size=0
 ·have hn:n=0:=by
   rcases Nat.mul_eq_zero.1 h0 with h|h
   ·exact h
   ·omega
  subst hn
  simp only[qw]at h1
  have xg:Instr.fill (fun k=>some (k*i.size,i.size)) #[] (parts.toList.map fun p=>(p.1,a.eval p.2))=some cc:=by simpa [qT] using h1
  simp[sizeOf,typeInfo,hi,newRow,qT,xg]
 ·simp[sizeOf,typeInfo,hi,abe,h0,zeroValue,oe,h1,newRow]
theorem CD {α β:Type} {f:α->β} {xs:Array α} {x:α} (h:xs.toList=[x]):xs.map f = #[f x]:=by
 have:xs = #[x]:=qZ.1 (by simpa using h)
 subst this;simp
theorem mE {α β:Type} {f:α->β} {xs:Array α} {x y:α} (h:xs.toList=[x,y]):xs.map f = #[f x,f y]:=by
 have:xs = #[x,y]:=qZ.1 (by simpa using h)
 subst this;simp
theorem Ee {P:Program} {w:World} {ts:Array TypeId} {t ty:TypeId} (h0:ts[0]?=some t) (h:P.underlying t=some .string) (b:ByteArray) :
  (Builtin.len_ ts ty #[.string b]).run P w=.ok (.int .i64 b.size) w:=by
 unfold Builtin.len_
 rw[h0,show (#[Value.string b]:Array Value)[0]?=some (.string b) from rfl]
 simp only[Sem.run_bind,run_underlying h,Result.andThen_ok,Sem.run_pure,goInt]
theorem Gx {P:Program} {w:World} {ts:Array TypeId} {t ty e:TypeId} (h0:ts[0]?=some t) (h:P.underlying t=some (.slice e)) (ad:Option Addr) (n m:Nat) :
  (Builtin.len_ ts ty #[.slice ad n m]).run P w=.ok (.int .i64 n) w:=by
 unfold Builtin.len_
 rw[h0,show (#[Value.slice ad n m]:Array Value)[0]?=some (.slice ad n m) from rfl]
 simp only[Sem.run_bind,run_underlying h,Result.andThen_ok,Sem.run_pure,goInt]
theorem Gy {P:Program} {w:World} {ts:Array TypeId} {t ty e:TypeId} (h0:ts[0]?=some t) (h:P.underlying t=some (.slice e)) (ad:Option Addr) (n m:Nat) :
  (Builtin.cap_ ts ty #[.slice ad n m]).run P w=.ok (.int .i64 m) w:=by
 unfold Builtin.cap_
 rw[h0,show (#[Value.slice ad n m]:Array Value)[0]?=some (.slice ad n m) from rfl]
 simp only[Sem.run_bind,run_underlying h,Result.andThen_ok,Sem.run_pure,goInt]
theorem cH {P:Program} {w:World} {a:Act} {b:Builtin} {args:Array Operand} {ts:Array TypeId} {dst:Option Tmp} {type:TypeId} {pos:String} {after:Array Edge} {guard:Option (Nat×Bool)} {u:Value} {w':World}
  (h:(builtin b ts type (args.map fun | .const _=>true|_=>false) (args.map a.eval)).run P w=.ok (.value u) w') :
  (execOp a.eval ⟨dst,.call ⟨.builtin b,args,ts⟩,type,pos,after,guard⟩).run P w=.ok (.value u) w':=by
 simp only[execOp,resolve,Sem.run_bind,Sem.run_pure,Result.andThen_ok,invoke]
 exact h
theorem Fk {P:Program} {b:Builtin} {args:Array Operand} {ts:Array TypeId} {dst:Option Tmp} {type:TypeId} {pos:String} {after:Array Edge} {guard:Option (Nat×Bool)} {co:jg} {tm:Nat->AV} {a:Act} {c:Cx} {v:AV} {nx:Nat}
  (ao:dg P b args.toList ts=some co) (he:fV tm co=some v) (ht:fJ c tm a) (hh:bg c nx) :
  oq P ⟨dst,.call ⟨.builtin b,args,ts⟩,type,pos,after,guard⟩ a c v:=by
 have go:∀{u:Value},(builtin b ts type (args.map fun | .const _=>true|_=>false) (args.map a.eval)).run P c.w=.ok (.value u) c.w->aC c v u->oq P ⟨dst,.call ⟨.builtin b,args,ts⟩,type,pos,after,guard⟩ a c v :=
  fun h hv=>.same (cH h) hv
 unfold dg at ao
 split at ao
 ·
  rename_i x bz
  have hm:=CD (f:=a.eval) bz
  have h1:=aE ht x
  simp only[zOi]at ao;subst ao
  simp only[fV]at he
  split at he
  ·rename_i z es cp hx
   simp only[zOi]at he;subst he
   rw[hx]at h1
   generalize e1:a.eval x=u1 at h1
   cases h1 with
   |nil hc =>
    refine go (u:=.pointer none) ?_ (.v _)
    rw[hm,e1]
    simp only[builtin,Sem.run_bind,Lib.run_unsafeSliceData_nil,Result.andThen_ok,Sem.run_pure]
  ·rename_i r sz i len cap hx
   split at he
   ·rename_i hb
    obtain ⟨h0,rfl⟩:=hb
    simp only[zOi]at he;subst he
    rw[hx]at h1
    generalize e1:a.eval x=u1 at h1
    cases h1 with
    |sl hι hs ha hl dq hN hE eP =>
     rename_i n p ad
     have Hs:=ha (by omega)
     refine go (u:=.pointer (some ad)) ?_ ?_
     ·rw[hm,e1]
      simp only[builtin,Sem.run_bind,Lib.run_unsafeSliceData_row _ _ _ _ _ _ (show n≠0 by omega),Result.andThen_ok,Sem.run_pure]
     ·rw[Hs,<-hs]
      exact aC.ptr (off:=0) hι eP
   ·simp at he
  ·simp at he
 ·
  split at ao
  ·split at ao
   ·simp only[zOi]at ao;subst ao;simp[fV]at he
   ·simp at ao
  ·simp at ao
 ·
  rename_i x bz
  have hm:=CD (f:=a.eval) bz
  have h1:=aE ht x
  split at ao
  ·rename_i AL
   simp only[zOi]at ao;subst ao
   simp only[zm]at AL
   obtain ⟨t,BA,RZ⟩:=AL
   simp only[fV]at he
   split at he
   ·rename_i s hx
    simp only[zOi]at he;subst he
    rw[hx]at h1
    have ew:(⟨s.toArray⟩:ByteArray).size=s.length:=by simp[ByteArray.size]
    refine go (u:=.int .i64 s.length) ?_ (.v _)
    rw[hm,h1.fQ]
    simp only[builtin,Sem.run_bind,Ee BA RZ,ew,Result.andThen_ok,Sem.run_pure]
   ·simp at he
  ·rename_i e AL
   simp only[zOi]at ao;subst ao
   simp only[zm]at AL
   obtain ⟨t,BA,RZ⟩:=AL
   simp only[fV]at he
   have key:∀(ad:Option Addr) (n m:Nat),a.eval x=.slice ad n m->v=.int .i64 n->oq P ⟨dst,.call ⟨.builtin .len,args,ts⟩,type,pos,after,guard⟩ a c v:=by
    intro ad n m e1 hv
    subst hv
    refine go (u:=.int .i64 n) ?_ (.v _)
    rw[hm,e1]
    simp only[builtin,Sem.run_bind,Gx BA RZ,Result.andThen_ok,Sem.run_pure]
   split at he
   ·rename_i hx
    simp only[zOi]at he
    rw[hx]at h1
    generalize e1:a.eval x=u at h1
    cases h1 with
    |sl a1 a2 a3 a4 a5 a6 a7 a8=>exact key _ _ _ e1 he.symm
   ·rename_i hx
    simp only[zOi]at he
    rw[hx]at h1
    generalize e1:a.eval x=u at h1
    cases h1 with
    |nil _=>exact key _ _ _ e1 he.symm
    |rs g a1 a2 a3 a4 a5 a6 a7=>exact key _ _ _ e1 (by rw[<-he,a1])
   ·simp at he
  ·simp at ao
 ·
  rename_i x bz
  have hm:=CD (f:=a.eval) bz
  have h1:=aE ht x
  split at ao
  ·rename_i e AL
   simp only[zOi]at ao;subst ao
   simp only[zm]at AL
   obtain ⟨t,BA,RZ⟩:=AL
   simp only[fV]at he
   have key:∀(ad:Option Addr) (n m:Nat),a.eval x=.slice ad n m->v=.int .i64 m->oq P ⟨dst,.call ⟨.builtin .cap,args,ts⟩,type,pos,after,guard⟩ a c v:=by
    intro ad n m e1 hv
    subst hv
    refine go (u:=.int .i64 m) ?_ (.v _)
    rw[hm,e1]
    simp only[builtin,Sem.run_bind,Gy BA RZ,Result.andThen_ok,Sem.run_pure]
   split at he
   ·rename_i hx
    simp only[zOi]at he
    rw[hx]at h1
    generalize e1:a.eval x=u at h1
    cases h1 with
    |sl a1 a2 a3 a4 a5 a6 a7 a8=>exact key _ _ _ e1 (by rw[<-he,a5 _ rfl])
   ·rename_i hx
    simp only[zOi]at he
    rw[hx]at h1
    generalize e1:a.eval x=u at h1
    cases h1 with
    |nil hc=>exact key _ _ _ e1 (by rw[<-he,hc _ rfl])
    |rs g a1 a2 a3 a4 a5 a6 a7=>exact key _ _ _ e1 (by rw[<-he,a3 _ rfl])
   ·simp at he
  ·simp at ao
 ·
  rename_i x y bz
  have hm:=mE (f:=a.eval) bz
  have h1:=aE ht x
  have h2:=aE ht y
  simp only[zOi]at ao;subst ao
  simp only[fV]at he
  split at he
  ·rename_i hx hy
   simp only[zOi]at he;subst he
   rw[hx]at h1;rw[hy]at h2
   refine go ?_ (.v _)
   rw[hm,h1.b8,h2.b8]
   simp[builtin,Builtin.min_,Builtin.min2]
  ·simp at he
 ·
  rename_i x y bz
  have hm:=mE (f:=a.eval) bz
  have h1:=aE ht x
  have h2:=aE ht y
  simp only[zOi]at ao;subst ao
  simp only[fV]at he
  split at he
  ·rename_i hx hy
   simp only[zOi]at he;subst he
   rw[hx]at h1;rw[hy]at h2
   refine go ?_ (.v _)
   rw[hm,h1.b8,h2.b8]
   simp[builtin,Builtin.max_,Builtin.max2]
  ·simp at he
 ·
  split at ao
  ·split at ao
   ·split at ao
    ·split at ao
     ·simp only[zOi]at ao;subst ao;simp[fV]at he
     ·simp at ao
    ·simp at ao
   ·split at ao
    ·split at ao
     ·simp only[zOi]at ao;subst ao;simp[fV]at he
     ·simp at ao
    ·simp at ao
   ·simp at ao
  ·simp at ao
 ·
  split at ao
  ·split at ao
   ·split at ao
    ·simp only[zOi]at ao;subst ao;simp[fV]at he
    ·simp at ao
   ·simp at ao
  ·simp at ao
 ·
  (repeat' split at ao)<;>first|(simp at ao;done)|(simp only[zOi]at ao;subst ao;simp[fV]at he)
 ·simp at ao
theorem vP {P:Program} {c:Cx} (d:Nat) {us ws:Array Value}:∀(fs:List Field) (k:Nat) {ks:List LK} {x y:List AV} {b:Bool},rP P fs k=some ks->eU ks x y=some b ->
  (∀(j:Nat) (av:AV),x[j]?=some av->∃u,us[k+j]?=some u/\aC c av u)->(∀(j:Nat) (av:AV),y[j]?=some av->∃u,ws[k+j]?=some u/\aC c av u) ->
  (Op.eqFields (d+1) us ws fs).run P c.w=.ok b c.w
 |[],k,ks,x,y,b,hk,hb,hx,hy=>by
  simp only[rP,zOi]at hk;subst hk
  unfold eU at hb
  split at hb
  ·simp only[zOi]at hb;subst hb;rfl
  ·contradiction
  ·simp at hb
 |f::r,k,ks,x,y,b,hk,hb,hx,hy=>by
  simp only[rP]at hk
  split at hk
  ·rename_i hf
   obtain ⟨aeK,aa7⟩:=hf
   have step:∀{lk:LK} {l:List LK} {i:TypeInfo},P.info? f.type=some i->(isAgg f.type).run P c.w=.ok false c.w->rP P r (k+1)=some l->eU (lk::l) x y=some b ->
     (∀{p q:AV} {u w:Value} {b:Bool},iR lk p q=some b->aC c p u->aC c q w->(Op.equalIn (d+1) f.type u w).run P c.w=.ok b c.w)->(Op.eqFields (d+1) us ws (f::r)).run P c.w=.ok b c.w:=by
    intro lk l i hi hag hl hb fj
    cases x with
    |nil=>simp[eU]at hb
    |cons p x' =>
    cases y with
    |nil=>simp[eU]at hb
    |cons q y' =>
     simp only[eU]at hb
     split at hb
     ·rename_i b1 b2 tn vJ
      simp only[zOi]at hb;subst hb
      obtain ⟨u,hu,hpu⟩:=hx 0 p rfl
      obtain ⟨w,hw,TU⟩:=hy 0 q rfl
      rw[wH]at hu hw
      have TY:∀{zs:Array Value} {z:Value},zs[k]?=some z->(part f.type zs f.offset).run P c.w=.ok z c.w:=by
       intro zs z hz
       simp only[part,Sem.run_bind,hag,Result.andThen_ok,aeK]
       simp[hz]
      have ih:=vP d (us:=us) (ws:=ws) r (k+1) hl vJ (fun j av hj=>by have:=hx (j+1) av hj;rwa [show k+(j+1)=k+1+j by omega]at this) (fun j av hj=>by have:=hy (j+1) av hj;rwa [show k+(j+1)=k+1+j by omega]at this)
      simp only[Op.eqFields]
      rw[if_pos aa7]
      simp only[Sem.run_bind,TY hu,TY hw,Result.andThen_ok,fj tn hpu TU]
      cases b1 with
      |false=>simp
      |true=>simp only[jN,zK,if_false,Bool.true_and];exact ih
     ·simp at hb
   split at hk
   ·rename_i kk i l hu hi hl
    simp only[zOi]at hk;subst hk
    refine step (i:=i) hi (by simp[isAgg,run_underlying hu]) hl hb ?_
    intro p q u w b h hp hq
    unfold iR at h
    split at h
    ·split at h
     ·rename_i IU;subst IU
      simp only[zOi]at h;subst h
      rw[hp.b8,hq.b8,run_equalIn_int c.w d f.type _ _ _ _ hu,ue]
     ·simp at h
    ·contradiction
    ·contradiction
    ·simp at h
   ·rename_i i l hu hi hl
    simp only[zOi]at hk;subst hk
    refine step (i:=i) hi (by simp[isAgg,run_underlying hu]) hl hb ?_
    intro p q u w b h hp hq
    unfold iR at h
    split at h
    ·contradiction
    ·simp only[zOi]at h;subst h
     rw[hp.fQ,hq.fQ,run_equalIn_string c.w d f.type _ _ hu,q0,q0,ue]
    ·contradiction
    ·simp at h
   ·rename_i i l hu hi hl
    simp only[zOi]at hk;subst hk
    refine step (i:=i) hi (by simp[isAgg,run_underlying hu]) hl hb ?_
    intro p q u w b h hp hq
    unfold iR at h
    split at h
    ·contradiction
    ·contradiction
    ·simp only[zOi]at h;subst h
     rw[hp.b8,hq.b8,run_equalIn_bool' c.w d f.type _ _ hu]
    ·simp at h
   ·simp at hk
  ·simp at hk
theorem SH {P:Program} {op:BinOp} {t yt:TypeId} {x y:Operand} {dst:Option Tmp} {type:TypeId} {pos:String} {after:Array Edge} {guard:Option (Nat×Bool)} {co:jg} {tm:Nat->AV} {a:Act} {c:Cx} {v:AV}
  (ao:iS P op t x y=some co) (he:fV tm co=some v) (ht:fJ c tm a) :
  oq P ⟨dst,.binOp op t x y yt,type,pos,after,guard⟩ a c v:=by
 unfold iS at ao
 split at ao
 ·rename_i fs hu
  split at ao
  ·simp at ao
  ·rename_i bU
   split at ao
   ·simp at ao
   ·rename_i hg
    split at ao
    ·rename_i ks NR
     have hfo:P.fieldsOf t=fs:=by simp[Program.fieldsOf,hu]
     have h1:=aE ht x
     have h2:=aE ht y
     have key:∀(p q:List AV) (b:Bool),ev tm (cO x)=.agg p->ev tm (cO y)=.agg q->eU ks p q=some b->∃us ws,a.eval x=.agg us/\a.eval y=.agg ws/\(Op.equalIn 10000 t (.agg us) (.agg ws)).run P c.w=.ok b c.w:=by
      intro p q b hx hy hb
      rw[hx]at h1;rw[hy]at h2
      obtain ⟨us,e1,l1,v1⟩:=h1.rV
      obtain ⟨ws,e2,l2,v2⟩:=h2.rV
      refine ⟨us,ws,e1,e2,?_⟩
      rw[run_equalIn_struct c.w 9999 t us ws (by rw[hfo];exact hu) (by simpa using bU),hfo]
      refine vP 9998 fs.toList 0 NR hb ?_ ?_
      ·intro j av hj
       have az:j<us.size:=by have:=(zB.1 hj).1;omega
       exact ⟨us[j],by simp[az],v1 j av _ hj (by simp[az])⟩
      ·intro j av hj
       have az:j<ws.size:=by have:=(zB.1 hj).1;omega
       exact ⟨ws[j],by simp[az],v2 j av _ hj (by simp[az])⟩
     have Lu:P.eqGuardType P.depth t=false:=by simpa using hg
     split at ao
     ·simp only[zOi]at ao;subst ao
      simp only[fV]at he
      split at he
      ·rename_i p q hx hy
       simp only[zC]at he
       obtain ⟨b,hb,rfl⟩:=he
       obtain ⟨us,ws,e1,e2,hr⟩:=key p q b hx hy hb
       refine .same (u:=.bool b) ?_ (by simpa using aC.v _)
       simp only[execOp,Sem.run_bind,e1,e2,run_eqGuard_agg c.w .eql t x y us ws Lu,Result.andThen_ok,run_eql_struct,hr,Sem.run_pure]
      ·simp at he
     ·simp only[zOi]at ao;subst ao
      simp only[fV]at he
      split at he
      ·rename_i p q hx hy
       simp only[zC]at he
       obtain ⟨b,hb,rfl⟩:=he
       obtain ⟨us,ws,e1,e2,hr⟩:=key p q b hx hy hb
       refine .same (u:=.bool (!b)) ?_ (by simpa using aC.v _)
       simp only[execOp,Sem.run_bind,e1,e2,run_eqGuard_agg c.w .neq t x y us ws Lu,Result.andThen_ok,run_neq_struct,hr,Sem.run_pure]
      ·simp at he
     ·simp at ao
    ·simp at ao
 ·simp at ao
theorem LG {P:Program} {own:Bool} {o:Oper} {co:jg} {tm:Nat->AV} {a:Act} {c:Cx} {v:AV} (hc:dH P own o=some co) (he:fV tm co=some v) {nx:Nat} (ht:fJ c tm a) (hh:bg c nx) :
  oq P o a c v:=by
 obtain ⟨dst,op,type,pos,after,guard⟩:=o
 unfold dH at hc
 split at hc
 ·rename_i Rc ao
  simp only[zOi]at hc;subst hc
  cases op<;>simp only[ml]at ao
  case move x =>
   simp only[zOi]at ao;subst ao
   simp only[fV,zOi]at he;subst he
   exact .same rfl (aE ht x)
  case assign x =>
   simp only[zOi]at ao;subst ao
   simp only[fV,zOi]at he;subst he
   exact .same rfl (aE ht x)
  case pick x y z =>
   simp only[zOi]at ao;subst ao
   simp only[fV]at he
   split at he
   ·rename_i b hb
    simp only[zOi]at he;subst he
    have h1:=aE ht x
    rw[hb]at h1
    have h2:=h1.b8
    refine .same (u:=if b then a.eval y else a.eval z) ?_ ?_
    ·simp[execOp,h2,asBool]
    ·cases b
     ·exact aE ht z
     ·exact aE ht y
   ·simp at he
  case alloc e =>
   split at ao<;>simp only[zC]at ao<;>obtain ⟨z,_,rfl⟩:=ao<;>simp[fV]at he
  case panic x=>simp only[zOi]at ao;subst ao;simp[fV]at he
  case box e x=>simp only[zOi]at ao;subst ao;simp[fV]at he
  case build t parts =>
   split at ao
   ·rename_i fs z hu hz
    split at ao
    ·rename_i jc
     simp only[zC]at ao
     obtain ⟨Rb,abn,rfl⟩:=ao
     simp only[fV,zC]at he
     obtain ⟨cells,CX,rfl⟩:=he
     obtain ⟨i,zv,hi,oe,oz,rfl⟩:=dz hz
     have Sb:∃places:Array (Nat×Nat),((fs.mapM fun f=>do pure (f.offset,<-sizeOf f.type)):Sem (Array (Nat×Nat))).run P c.w=.ok places c.w /\
       (∀(k:Nat) (f:Field) (j:TypeInfo),fs[k]?=some f->P.info? f.type=some j->places[k]?=some (f.offset,j.size)):=GH (P:=P) (w:=c.w) fs jc
     obtain ⟨places,QV,Lm⟩:=Sb
     obtain ⟨cc,h1,h2⟩:=Fj (c:=c) (place:=(places[·]?)) (cparts:=parts.toList.map fun p=>(p.1,a.eval p.2)) (by simpa using mU abn) (sB abn Lm ht) (tu c oz) CX
     refine .same (u:=.agg cc) ?_ (.agg (by simpa using h2.1) (fun k av u h3 h4=>h2.2 k av u h3 (by rw[getElem?_arr];exact h4)))
     have NO:(parts.map fun (i,x)=>(i,a.eval x)).toList=parts.toList.map fun p=>(p.1,a.eval p.2):=by simp
     have Yt:(zeroValue t).run P c.w=.ok zv c.w:=by simp[zeroValue,typeInfo,hi,oe]
     simp only[execOp,Instr.build,Sem.run_bind,Yt,run_underlying hu,Result.andThen_ok,QV,NO,h1,Sem.run_pure]
    ·simp at ao
   ·simp at ao
  case buildSlice t n parts =>
   split at ao
   ·rename_i e hu
    split at ao
    ·rename_i z i hz hi
     split at ao
     ·rename_i hc
      obtain ⟨EI,NP⟩:=hc
      simp only[zOi]at ao;subst ao
      cases own with
      |true=>simp[fV]at he
      |false =>
       simp only[zK,↓reduceIte,fV,zC]at he
       obtain ⟨es,cW,rfl⟩:=he
       obtain ⟨i',zv,kO,oe,oz,rfl⟩:=dz hz
       rw[hi]at kO;simp only[zOi]at kO;subst kO
       obtain ⟨cc,h1,h2,h3,h4⟩:=Al (P:=P) EI oz ht cW
       refine ⟨.slice (some ⟨c.w.heap.size,0,none⟩) n n,{ c.w with heap:=c.w.heap.push (.cells cc e) },.inl ?_,Grow.push _ _,?_⟩
       ·exact vV hu hi oe EI NP h1
       ·have ew:es.flatten.length=cc.size:=by simpa using h4.1
        refine .rs (fun p q=>(cc[p*i.size+q]?).getD undef) h2 (zD _) (fun m hm=>by simp only[zOi]at hm;omega) h3 ?_ ?_ ?_
        ·intro _
         refine ⟨⟨by simp,?_,?_⟩,rfl⟩
         ·intro ho;exact absurd (hh.oX ho) (Nat.lt_irrefl _)
         ·intro hF;exact absurd (hh.F _ hF) (Nat.lt_irrefl _)
        ·intro p q l av hp hq
         have h5:=mQ es p q l av h3 hp hq
         obtain ⟨u,h6,h7⟩:=h4.get h5
         rw[getElem?_arr]at h6
         simp[World.cell?,h6]
        ·intro p q l av hp hq
         have h5:=mQ es p q l av h3 hp hq
         obtain ⟨u,h6,h7⟩:=h4.get h5
         rw[getElem?_arr]at h6
         simp only[h6,wJ]
         exact h7.mono (Ext.tE (nx:=nx) (Grow.push _ _))
     ·simp at ao
    ·simp at ao
   ·simp at ao
  case load t x =>
   simp only[zC]at ao
   obtain ⟨n,hn,rfl⟩:=ao
   simp only[fV]at he
   split at he
   ·rename_i cells hx
    have h1:=aE ht x
    rw[hx]at h1
    generalize hu:a.eval x=u at h1
    cases h1 with
    |rp g bZ fj me =>
     rename_i B O
     obtain ⟨u,h2,h3⟩:=lM (P:=P) hn (B:=B) (O:=O) (off:=0) (cells:=cells) (fun k av hk=>⟨g k,fj k av hk,me k av hk⟩) he
     exact .same (by simp only[execOp,hu,Instr.loadAt,Instr.sureAddr,Sem.run_bind,Sem.run_pure,Result.andThen_ok];simp only[wH]at h2;simp[h2]) h3
   ·simp at he
  case store t x y =>
   split at ao
   ·split at ao
    ·simp only[zOi]at ao;subst ao;simp[fV]at he
    ·simp at ao
   ·simp at ao
  case nilCheck x =>
   simp only[zOi]at ao;subst ao
   simp only[fV]at he
   have h1:=aE ht x
   generalize hu:a.eval x=u at h1
   split at he
   ·rename_i hx;rw[hx]at h1;simp only[zOi]at he;subst he
    cases h1 with
    |ptr hp eP=>exact .same (by simp[execOp,hu]) (.ptr hp eP)
   ·rename_i hx;rw[hx]at h1;simp only[zOi]at he;subst he
    cases h1 with
    |rp g a b d=>exact .same (by simp[execOp,hu]) (.rp g a b d)
   ·rename_i hx;rw[hx]at h1;simp only[zOi]at he;subst he
    cases h1 with
    |fn a b d e=>exact .same (by simp[execOp,hu]) (.fn a b d e)
   ·simp at he
  case binOp op t x y yt =>
   unfold jX at ao
   split at ao
   iterate 2
    next hu =>
     simp only[zOi]at ao;subst ao
     simp only[fV,dN]at he
     have h1:=aE ht x
     have h2:=aE ht y
     split at he
     ·rename_i k p k' q hx hy
      rw[hx]at h1;rw[hy]at h2
      have e1:=h1.b8
      have e2:=h2.b8
      have hex:∀u,(binOp op t (.int k p) (.int k' q)).run P c.w=.ok u c.w->(execOp a.eval ⟨dst,.binOp op t x y yt,type,pos,after,guard⟩).run P c.w=.ok (.value u) c.w:=by
       intro u h
       simp only[execOp,e1,e2,eqGuard_at_int]
       simp[h]
      split at he
      ·obtain ⟨u,rfl,hr⟩:=Ig (P:=P) (w:=c.w) (t:=t) (k':=k') (.inl rfl) he
       exact .same (hex u hr) (.v u)
      ·obtain ⟨u,rfl,hr⟩:=Ig (P:=P) (w:=c.w) (t:=t) (k':=k') (.inr rfl) he
       exact .same (hex u hr) (.v u)
      ·rename_i EO BE
       split at he
       ·rename_i hk;subst hk
        obtain ⟨u,rfl,hr⟩:=Ns (P:=P) (w:=c.w) (t:=t) ⟨fun h=>EO h,fun h=>BE h⟩ he
        exact .same (hex u hr) (.v u)
       ·simp at he
     ·rename_i p q hx hy
      rw[hx]at h1;rw[hy]at h2
      have e1:=h1.fQ
      have e2:=h2.fQ
      obtain ⟨u,hv,hr⟩:=My (P:=P) (w:=c.w) c (t:=t) he
      exact .same (by simp only[execOp,e1,e2,eqGuard_at_string];simp[hr]) hv
     ·simp at he
   ·rename_i hu
    simp only[zOi]at ao;subst ao
    simp only[fV]at he
    have h1:=aE ht x
    have h2:=aE ht y
    split at he
    ·rename_i p q hx hy
     rw[hx]at h1;rw[hy]at h2
     have e1:=h1.b8
     have e2:=h2.b8
     cases op<;>simp only[xl,zOi,reduceCtorEq]at he<;>subst he
     ·exact .same (by simp only[execOp,e1,e2,eqGuard_at_bool];simp[binOp,Op.equal,Op.maxDepth,run_equalIn_bool' c.w 9999 t p q hu]) (.v _)
     ·exact .same (by simp only[execOp,e1,e2,eqGuard_at_bool];simp[binOp,Op.equal,Op.maxDepth,run_equalIn_bool' c.w 9999 t p q hu]) (.v _)
    ·simp at he
   ·rename_i e hu
    simp only[zOi]at ao;subst ao
    simp only[fV]at he
    have h1:=aE ht x
    have h2:=aE ht y
    have cG:=fun (ad:Option Addr) (n m:Nat)=>ou (P:=P) (w:=c.w) 9999 hu ad n m
    have hex:∀(ad:Option Addr) (n m:Nat) (v:AV),a.eval x=.slice ad n m->a.eval y=.slice none 0 0->xl op ad.isNone=some v->oq P ⟨dst,.binOp op t x y yt,type,pos,after,guard⟩ a c v:=by
     intro ad n m v e1 e2 h
     cases op<;>simp only[xl,zOi,reduceCtorEq]at h<;>subst h
     ·exact .same (by simp only[execOp,e1,e2,eqGuard_at_slice];simp[binOp,Op.equal,Op.maxDepth,cG]) (.v _)
     ·exact .same (by simp only[execOp,e1,e2,eqGuard_at_slice];simp[binOp,Op.equal,Op.maxDepth,cG]) (.v _)
    split at he
    ·rename_i nl _ _ _ _ _ _ hx hy
     rw[hx]at h1;rw[hy]at h2
     generalize e2:a.eval y=u2 at h2
     generalize e1:a.eval x=u1 at h1
     cases h2 with
     |nil E3 =>
      cases h1 with
      |nil Lw=>exact hex none 0 0 _ e1 e2 he
      |rs g b d e f g' h i=>exact hex (some _) _ _ _ e1 e2 he
    ·rename_i hx hy
     rw[hx]at h1;rw[hy]at h2
     generalize e2:a.eval y=u2 at h2
     generalize e1:a.eval x=u1 at h1
     cases h2 with
     |nil E3 =>
      cases h1 with
      |sl a b d e f g' h' h9=>exact hex (some _) _ _ _ e1 e2 he
    ·simp at he
   ·rename_i e hu
    split at ao
    ·rename_i Me
     obtain ⟨j,hj⟩:=wM.1 Me.1
     simp only[zOi]at ao;subst ao
     simp only[fV]at he
     have h1:=aE ht x
     have h2:=aE ht y
     have hex:∀(u1 u2:Option Addr) (b:Bool) (v:AV),a.eval x=.pointer u1->a.eval y=.pointer u2->(Op.equalIn (9999+1) t (.pointer u1) (.pointer u2)).run P c.w=.ok b c.w->xl op b=some v->oq P ⟨dst,.binOp op t x y yt,type,pos,after,guard⟩ a c v:=by
      intro u1 u2 b v e1 e2 hr h
      cases op<;>simp only[xl,zOi,reduceCtorEq]at h<;>subst h
      ·exact .same (by simp only[execOp,e1,e2,eqGuard_at_pointer];simp[binOp,Op.equal,Op.maxDepth,hr]) (.v _)
      ·exact .same (by simp only[execOp,e1,e2,eqGuard_at_pointer];simp[binOp,Op.equal,Op.maxDepth,hr]) (.v _)
     split at he
     ·rename_i hx hy
      rw[hx]at h1;rw[hy]at h2
      exact hex none none true v h1.b8 h2.b8 (gB 9999 hu none) he
     ·rename_i r i o hx hy
      rw[hx]at h1;rw[hy]at h2
      have e2:=h2.b8
      generalize e1:a.eval x=u1 at h1
      cases h1 with
      |ptr h h9=>exact hex (some _) none false v e1 e2 (gB 9999 hu (some _)) he
     ·rename_i cs hx hy
      rw[hx]at h1;rw[hy]at h2
      have e2:=h2.b8
      generalize e1:a.eval x=u1 at h1
      cases h1 with
      |rp g b d f=>exact hex (some _) none false v e1 e2 (gB 9999 hu (some _)) he
     ·rename_i r i o r' i' o' hx hy
      split at he
      ·rename_i ll
       obtain ⟨rfl,rfl,rfl⟩:=ll
       rw[hx]at h1;rw[hy]at h2
       generalize e1:a.eval x=u1 at h1
       generalize e2:a.eval y=u2 at h2
       cases h1 with
       |ptr k1 k19 =>
        cases h2 with
        |ptr k2 k29 =>
         rw[k1]at k2;simp only[zOi]at k2;subst k2
         exact hex (some _) (some _) true v e1 e2 (oP 9999 hu hj _) he
      ·simp at he
     ·simp at he
    ·simp at ao
   ·simp at ao
  case unOp op t x =>
   simp only[zOi]at ao;subst ao
   simp only[fV,unA]at he
   have h1:=aE ht x
   split at he
   ·rename_i k n hx
    simp only[zOi]at he;subst he
    rw[hx]at h1
    exact .same (by simp only[execOp,h1.b8,Op.unary,Op.intArith];rfl) (.v _)
   ·rename_i b hx
    simp only[zOi]at he;subst he
    rw[hx]at h1
    exact .same (by simp[execOp,h1.b8,Op.unary]) (.v _)
   ·simp at he
  case convert src Da x =>
   have h1:=aE ht x
   unfold gM at ao
   split at ao
   ·rename_i k0 k hs hd
    simp only[zOi]at ao;subst ao
    simp only[fV]at he
    split at he
    ·rename_i k1 n hx
     simp only[zOi]at he;subst he
     rw[hx]at h1
     exact .same (by simp only[execOp,h1.b8,convert,Sem.run_bind,run_underlying hs,run_underlying hd,Result.andThen_ok];rfl) (.v _)
    ·simp at he
   ·rename_i hs hd
    simp only[zOi]at ao;subst ao
    simp only[fV]at he
    split at he
    ·rename_i l hx
     simp only[zOi]at he;subst he
     rw[hx]at h1
     exact .same (by simp only[execOp,h1.fQ,convert,Sem.run_bind,run_underlying hs,run_underlying hd,Result.andThen_ok];rfl) (.str l)
    ·simp at he
   ·rename_i e hs hd
    split at ao
    ·simp only[zOi]at ao;subst ao;simp[fV]at he
    ·simp at ao
   ·rename_i e hs hd
    split at ao
    ·rename_i RY
     simp only[zOi]at ao;subst ao
     simp only[fV]at he
     split at he
     ·rename_i nl sz es cp hx
      split at he
      ·rename_i ew
       simp only[zC]at he
       obtain ⟨l,hl,rfl⟩:=he
       rw[hx]at h1
       generalize e1:a.eval x=u at h1
       cases h1 with
       |nil dq =>
        simp only[eT,zOi]at hl;subst hl
        refine .same (u:=.string ByteArray.empty) ?_ (.str [])
        simp only[execOp,e1,convert,Sem.run_bind,run_underlying hs,run_underlying hd,run_underlying RY,Result.andThen_ok]
        rfl
       |rs g hlen hle dq cW bZ fj me =>
        rename_i n len ad
        have Wh:sz=1:=by simpa using ew
        subst Wh
        obtain ⟨ns,IQ,rfl⟩:=nu hl
        have BF:(loadCells ad len).run P c.w=.ok (ns.map (Value.int .u8)).toArray c.w:=by
         have Az:(ns.map (Value.int .u8)).length=len:=by rw[<-hlen,IQ];simp
         rw[<-Az]
         refine run_loadCells_list c.w ad _ (fun j u hj => ?_)
         simp only[zM,zC]at hj
         obtain ⟨q,hq,rfl⟩:=hj
         have h5:es[j]?=some [.v (.int .u8 q)]:=by rw[IQ];simp[hq]
         obtain ⟨YA,yN⟩:=bZ (cj h5)
         obtain ⟨B,O,sp⟩:=ad
         simp only at yN;subst yN
         have h6:=fj j 0 _ _ h5 rfl
         have h7:=(me j 0 _ _ h5 rfl).b8
         rw[h7]at h6
         rw[gO]
         simpa using h6
        refine .same (u:=.string (ns.foldl (fun r n=>r.push (UInt8.ofNat n.toNat)) ByteArray.empty)) ?_ ?_
        ·have bR:=run_bytesToString c.w ad len n ns BF
         have hcv:=run_convert_bytes_string c.w src Da e (some ad) len n hs RY hd
         simp only[execOp,e1,Sem.run_bind,hcv,bR,Result.andThen_ok,Sem.run_pure]
        ·have:=tB c (ns.foldl (fun r n=>r.push (UInt8.ofNat n.toNat)) ByteArray.empty)
         rw[fold_push]at this
         simpa using this
      ·simp at he
     ·simp at he
    ·simp at ao
   ·rename_i k hs hd
    simp only[zOi]at ao;subst ao
    simp only[fV]at he
    split at he
    ·rename_i k1 n hx
     simp only[zOi]at he;subst he
     rw[hx]at h1
     exact .same (u:=.string (Utf8.encode n)) (by simp only[execOp,h1.b8,convert,Sem.run_bind,run_underlying hs,run_underlying hd,Result.andThen_ok];rfl) (tB c _)
    ·simp at he
   ·split at ao
    ·simp only[zOi]at ao;subst ao;simp[fV]at he
    ·simp at ao
   ·split at ao
    ·simp only[zOi]at ao;subst ao;simp[fV]at he
    ·simp at ao
   ·simp at ao
  case makeInterface t x =>
   split at ao
   ·simp at ao
   ·simp at ao
   ·rename_i d hd hu
    simp only[zOi]at ao;subst ao
    simp only[fV,zOi]at he;subst he
    refine .same (u:=.iface t (a.eval x)) ?_ (.Bx (aE ht x))
    simp only[execOp,Instr.makeInterface,Sem.run_bind,run_underlying hu,Result.andThen_ok]
    cases d<;>first|rfl|skip
    all_goals exact absurd rfl (hd _)
  case makeFunc fn first cap =>
   simp only[zOi]at ao;subst ao
   simp only[fV,zOi]at he;subst he
   have hl:∀(xs:Array Operand) (k:Nat) (av:AV) (u:Value),((xs.toList.map cO).map (ev tm))[k]?=some av->(xs.map a.eval)[k]?=some u->aC c av u:=by
    intro xs k av u h1 h2
    simp only[zM,zC,Array.getElem?_map]at h1 h2
    obtain ⟨y,⟨z,hz,rfl⟩,rfl⟩:=h1
    obtain ⟨z',L9,rfl⟩:=h2
    rw[getElem?_arr]at hz
    rw[hz]at L9
    simp only[zOi]at L9;subst L9
    exact aE ht z
   exact .same (by simp[execOp,Instr.makeFunc]) (.fn (by simp) (by simp) (hl first) (hl cap))
  case makeSlice t l n =>
   split at ao
   ·split at ao
    ·split at ao
     ·simp only[zOi]at ao;subst ao;simp[fV]at he
     ·simp at ao
    ·simp at ao
   ·simp at ao
  case slice t x lo hi mx =>
   have h1:=aE ht x
   split at ao
   ·rename_i hu
    split at ao
    ·simp only[zOi]at ao;subst ao
     simp only[fV]at he
     cases hx:ev tm (cO x)<;>rw[hx]at he h1<;>(try (simp[eW]at he;done))
     have e1:=h1.fQ
     obtain ⟨u,h2,h3⟩:=AG (P:=P) hu (lT ht lo) (lT ht hi) he
     exact .same (by simp only[execOp,e1];simp[h2]) h3
    ·simp at ao
   ·rename_i e hu
    simp only[zC]at ao
    obtain ⟨i,kO,rfl⟩:=ao
    simp only[fV]at he
    cases hx:ev tm (cO x)<;>rw[hx]at he h1<;>(try (simp[b9]at he;done))
    ·obtain ⟨u,h2,h3⟩:=Ch (P:=P) hu kO h1 (lT ht lo) (lT ht hi) (lT ht mx) he
     exact .same (by simp only[execOp];simp[h2]) h3
    ·obtain ⟨u,h2,h3⟩:=Ci (P:=P) hu kO h1 (lT ht lo) (lT ht hi) (lT ht mx) he
     exact .same (by simp only[execOp];simp[h2]) h3
   ·simp at ao
  case fieldAddr s x f =>
   split at ao
   ·rename_i fs hu
    split at ao
    ·rename_i fd hf
     split at ao
     ·rename_i i hi
      split at ao
      ·simp at ao
      ·rename_i ew
       simp only[zOi]at ao;subst ao
       simp only[fV]at he
       have h1:=aE ht x
       generalize e1:a.eval x=u at h1
       have hex:∀(B O:Nat),u=.pointer (some ⟨B,O,none⟩)->(execOp a.eval ⟨dst,.fieldAddr s x f,type,pos,after,guard⟩).run P c.w=.ok (.value (.pointer (some ⟨B,O+fd.offset,none⟩))) c.w:=by
        rintro B O rfl
        simp only[execOp,e1,Instr.fieldAt,Sem.run_bind,run_underlying hu,Result.andThen_ok]
        simp[hf,Instr.sureAddr,fieldPlace,sizeOf,typeInfo,hi,ew,gO]
       split at he
       ·rename_i hx;rw[hx]at h1;simp only[zOi]at he;subst he
        cases h1 with
        |ptr hp eP=>exact .same (hex _ _ rfl) (by rw[qF];exact .ptr hp eP)
       ·rename_i cells hx;rw[hx]at h1;simp only[zOi]at he;subst he
        cases h1 with
        |rp g bZ fj me =>
         refine .same (hex _ _ rfl) (.rp (fun k=>g (fd.offset+k)) ?_ ?_ ?_)
         ·intro bt;exact bZ (by rintro rfl;simp at bt)
         ·intro k av hk;rw[wE]at hk;rw[qF];exact fj _ av hk
         ·intro k av hk;rw[wE]at hk;exact me _ av hk
       ·simp at he
     ·simp at ao
    ·simp at ao
   ·simp at ao
  case field t x f =>
   split at ao
   ·rename_i fs hu
    split at ao
    ·rename_i fd hf
     simp only[zC]at ao
     obtain ⟨n,hn,rfl⟩:=ao
     simp only[fV]at he
     split at he
     ·rename_i cs hx
      have h1:=aE ht x
      rw[hx]at h1
      obtain ⟨us,e1,hl,hv⟩:=h1.rV
      obtain ⟨u,h2,h3⟩:=MM (P:=P) hn hl hv he
      exact .same (by simp only[execOp,e1,Instr.field,Sem.run_bind,run_underlying hu,Result.andThen_ok];simp[hf,asAgg,h2]) h3
     ·simp at he
    ·simp at ao
   ·simp at ao
  case indexAddr t x i =>
   split at ao
   ·rename_i e hu
    simp only[zC]at ao
    obtain ⟨j,hj,rfl⟩:=ao
    simp only[fV]at he
    have h1:=aE ht x
    have h2:=aE ht i
    split at he
    ·rename_i r sz k len cp kd n hx hi
     split at he
     ·rename_i hb
      obtain ⟨ew,h0,az⟩:=hb
      simp only[zOi]at he;subst he
      rw[hx]at h1;rw[hi]at h2
      have e2:=h2.b8
      generalize e1:a.eval x=u at h1
      cases h1 with
      |sl hι hs ha hl dq hN hE eP =>
       rename_i m p ad
       have Hs:=ha (by omega)
       subst Hs
       refine .same (u:=.pointer (some ((⟨p.B,p.O+k*sz,none⟩:Addr).add (n.toNat*j.size)))) ?_ ?_
       ·simp only[execOp,e1,e2,Instr.indexAt,asIntOf,Sem.run_bind,Sem.run_pure,run_underlying hu,Result.andThen_ok]
        simp[h0,az,sizeOf,typeInfo,hj]
       ·rw[gO,<-ew]
        have:=aC.ptr (c:=c) (i:=k+n.toNat) (off:=0) hι eP
        rw[hs,ze]at this
        simpa [qF] using this
     ·simp at he
    ·rename_i nl sz es cp kd n hx hi
     split at he
     ·rename_i hb
      obtain ⟨ew,h0⟩:=hb
      simp only[zC]at he
      obtain ⟨l,hl,rfl⟩:=he
      rw[hx]at h1;rw[hi]at h2
      have e2:=h2.b8
      generalize e1:a.eval x=u at h1
      cases h1 with
      |nil _=>simp at hl
      |rs g hlen hle dq cW bZ fj me =>
       rename_i m len ad
       have az:n<len:=by
        have:=(zB.1 hl).1
        omega
       have bt:es≠[]:=cj hl
       obtain ⟨YA,yN⟩:=bZ bt
       obtain ⟨B,O,sp⟩:=ad
       simp only at yN;subst yN
       refine .same (u:=.pointer (some ((⟨B,O,none⟩:Addr).add (n.toNat*j.size)))) ?_ ?_
       ·simp only[execOp,e1,e2,Instr.indexAt,asIntOf,Sem.run_bind,Sem.run_pure,run_underlying hu,Result.andThen_ok]
        simp[h0,az,sizeOf,typeInfo,hj]
       ·rw[gO,<-ew]
        exact .rp (fun q=>g n.toNat q) (fun _=>YA) (fun q av hq=>fj n.toNat q l av hl hq) (fun q av hq=>me n.toNat q l av hl hq)
     ·simp at he
    ·simp at he
   ·simp at ao
  case index t x i =>
   split at ao
   ·rename_i hu
    simp only[zOi]at ao;subst ao
    simp only[fV]at he
    split at he
    ·rename_i s kd n hx hi
     split at he
     ·rename_i h0
      simp only[zC]at he
      obtain ⟨b,hb,rfl⟩:=he
      have h1:=aE ht x
      have h2:=aE ht i
      rw[hx]at h1;rw[hi]at h2
      have az:n.toNat<s.length:=(zB.1 hb).1
      have CZ:s[n.toNat]=b:=(zB.1 hb).2
      refine .same (u:=.int .u8 b.toNat) ?_ (.v _)
      simp only[execOp,h1.fQ,h2.b8,Instr.index,asIntOf,Sem.run_bind,Sem.run_pure,run_underlying hu,Result.andThen_ok]
      have bH:(⟨s.toArray⟩:ByteArray)[n.toNat]?=some b:=by
       rw[<-CZ,getElem?_pos (⟨s.toArray⟩:ByteArray) n.toNat (by simpa [ByteArray.size] using az)]
       simp[ByteArray.getElem_eq_getElem_data]
      simp[h0,bH]
     ·simp at he
    ·simp at he
   ·simp at ao
  case extract x i =>
   simp only[zOi]at ao;subst ao
   simp only[fV]at he
   split at he
   ·rename_i vs hx
    have h1:=aE ht x
    rw[hx]at h1
    obtain ⟨us,e1,hl,hv⟩:=h1.xz
    have az:i<us.size:=by have:=(zB.1 he).1;omega
    exact .same (u:=us[i]) (by simp[execOp,e1,Instr.extract,az]) (hv i v _ he (by simp[az]))
   ·simp at he
  case call cl =>
   obtain ⟨callee,args,ts⟩:=cl
   cases callee with
   |value f =>
    cases f<;>simp only[]at ao<;>(try (split at ao))<;>simp only[zOi,reduceCtorEq]at ao<;>subst ao<;>simp[fV]at he
   |invoke r m=>simp at ao
   |builtin b =>
    simp only[]at ao
    split at ao
    ·unfold gh at ao
     (repeat' split at ao)<;>simp only[zOi,reduceCtorEq]at ao<;>subst ao<;>simp[fV]at he
    ·exact Fk ao he ht hh
  all_goals (first|(simp at ao;done)|skip)
 ·rename_i hn
  cases op
  case binOp=>exact SH hc he ht
  all_goals
   exfalso
   have hm:=dx hc
   cases hm<;>simp[fV]at he
def cn (ι:Inj) (r:Nat) (p:Place):Inj:=fun x=>if x=r then some p else ι x
theorem tC {c:Cx} {nx:Nat} (hh:bg c nx) {w':World} {cs:Array Value} {e:TypeId} {fz:Nat×Nat} {es:bN} {sz:Nat}
  (cF:w'.heap=c.w.heap.push (.cells cs e fz)) (AN:w'.os=c.w.os) (gK:w'.tape=c.w.tape) (gF:w'.output=c.w.output)
  (CU:∀o,o<cs.size->¬(fz.1<=o/\o<fz.2))
  (cW:∀(i:Nat) (l:List AV),es[i]?=some l->l.length=sz/\∀(j:Nat) (av:AV),l[j]?=some av->∃u,cs[i*sz+j]?=some u/\aC c av u) :
  let c':Cx:=⟨c.F,cn c.ι nx ⟨c.w.heap.size,0,sz,cs.size,[]⟩,ab c.hp nx (some es),w'⟩
  bg c' (nx+1)/\Ext c c':=by
 intro c'
 have bH:∀B,B<c.w.heap.size->w'.heap[B]?=c.w.heap[B]?:=by
  intro B hB;rw[cF,wW,if_neg (by omega)]
 have EN:w'.heap[c.w.heap.size]?=some (.cells cs e fz):=by rw[cF];simp
 have Sl:=hh.fresh
 have hfh:=hh.uM
 have hι:∀r,r≠nx->c'.ι r=c.ι r:=fun r hr=>by show cn _ _ _ r=_;simp[cn,hr]
 have xE:c'.ι nx=some ⟨c.w.heap.size,0,sz,cs.size,[]⟩:=by show cn _ _ _ nx=_;simp[cn]
 have ni:∀r,r≠nx->c'.hp r=c.hp r:=fun r hr=>by show ab _ _ _ r=_;simp[ab,hr]
 have IT:c'.hp nx=some es:=by show ab _ _ _ nx=_;simp[ab]
 have pu:∀B,B<c.w.heap.size->c'.own B->c.own B:=by
  rintro B hB ⟨r,p,h1,h2,h3⟩
  by_cases hr:r=nx
  ·subst hr;rw[xE,zOi]at h2;subst h2;simp at h3;omega
  ·rw[ni r hr]at h1;rw[hι r hr]at h2;exact ⟨r,p,h1,h2,h3⟩
 have bm:Ext c c':=by
  refine ⟨rfl,?_,?_,?_,AN,gK,gF⟩
  ·intro r p h
   by_cases hr:r=nx
   ·subst hr;rw[Sl]at h;simp at h
   ·rw[hι r hr];exact h
  ·show c.w.heap.size<=w'.heap.size
   rw[cF];simp
  ·exact fun B hB ho=>⟨fun h=>ho (pu B hB h),bH B hB⟩
 refine ⟨⟨?_,?_,?_,?_,?_,hh.ty.to ?_ bm.ι (fun B AX t Mj hB=>⟨AX,by show w'.heap[B]?=_;rw[bH B (zE.1 hB).1];exact hB,rfl⟩) (fun r g1 _ g2=>by
  have:r≠nx:=by rintro rfl;have:=hh.uT _ g1;omega
  rw[ni r this]at g2;exact g2),hh.gl.ext bm⟩,bm⟩
 rotate_right
 ·intro r t k rest hr
  by_cases he:r=nx
  ·subst he
   rw[IT,zOi]at hr;subst hr
   obtain ⟨u,_,hu⟩:=(cW 0 _ rfl).2 0 _ rfl
   exact hu.yo.elim
  ·rw[ni r he]at hr;exact hr
 ·intro r hr
  by_cases he:r=nx
  ·omega
  ·rw[ni r he]at hr;have:=hh.uT r hr;omega
 ·intro r p h
  by_cases he:r=nx
  ·omega
  ·rw[hι r he]at h;have:=hh.lt r p h;omega
 ·intro r es' p h1 h2
  by_cases he:r=nx
  ·subst he
   rw[IT,zOi]at h1;subst h1
   rw[xE,zOi]at h2;subst h2
   refine ⟨fun hF=>absurd (hh.F _ hF) (Nat.lt_irrefl _),.cells cs e fz,EN,.inl ⟨wT _,cs,e,fz,rfl,rfl,CU,fun i l hl => ?_⟩⟩
   obtain ⟨h3,h4⟩:=cW i l hl
   exact ⟨h3,fun j av hj=>let ⟨u,h5,h6⟩:=h4 j av hj;⟨u,by rw[Nat.zero_add];exact h5,h6.mono bm⟩⟩
  ·rw[ni r he]at h1;rw[hι r he]at h2
   obtain ⟨hF,o,h3,h4⟩:=hh.sd r es' p h1 h2
   have az:p.B<c.w.heap.size:=(zE.1 h3).1
   exact ⟨hF,o,by show w'.heap[p.B]?=_;rw[bH _ az];exact h3,h4.move fun x u h=>h.mono bm⟩
 ·have az:∀r p,c.hp r≠none->c.ι r=some p->p.B<c.w.heap.size:=by
   intro r p h1 h2
   exact hh.oX ⟨r,p,h1,h2,rfl⟩
  intro r r' p p' h1 h2 h3 h4 h5
  by_cases he:r=nx
  ·by_cases AR:r'=nx
   ·omega
   ·subst he
    rw[xE,zOi]at h3;subst h3
    rw[ni r' AR]at h2;rw[hι r' AR]at h4
    have:=az r' p' h2 h4;simp at h5;omega
  ·by_cases AR:r'=nx
   ·subst AR
    rw[xE,zOi]at h4;subst h4
    rw[ni r he]at h1;rw[hι r he]at h3
    have:=az r p h1 h3;simp at h5;omega
   ·rw[ni r he]at h1;rw[hι r he]at h3;rw[ni r' AR]at h2;rw[hι r' AR]at h4
    exact hh.inj r r' p p' h1 h2 h3 h4 h5
 ·intro B hB
  have:=hh.F B hB
  show B<w'.heap.size
  rw[cF];simp;omega
theorem Ce {c:Cx} {nx:Nat} (hh:bg c nx) {hp':Heap} (hs:Sub hp' c.hp):bg { c with hp:=hp' } nx/\Ext c { c with hp:=hp' }:=by
 have bt:∀r,hp' r≠none->hp' r=c.hp r:=fun r h=>(hs r).resolve_right h
 have bm:Ext c { c with hp:=hp' }:=by
  refine ⟨rfl,fun _ _ h=>h,zD _,?_,rfl,rfl,rfl⟩
  rintro B hB ho
  refine ⟨?_,rfl⟩
  rintro ⟨r,p,h1,h2,h3⟩
  exact ho ⟨r,p,by rw[<-bt r h1];exact h1,h2,h3⟩
 refine ⟨⟨?_,hh.lt,?_,?_,hh.F,hh.ty.to (fun r t k rest hr=>by
   have hr:hp' r=_:=hr
   rw[<-bt r (by simp[hr])];exact hr) (fun _ _ h=>h) (fun B cs t fz hB=>⟨cs,hB,rfl⟩) (fun r _ _ hr=>by
   have hr:hp' r≠none:=hr
   rw[bt r hr]at hr;exact hr),hh.gl.ext bm⟩,bm⟩
 ·intro r h;exact hh.uT r (by rw[<-bt r h];exact h)
 ·intro r es p h1 h2
  have xg:hp' r=some es:=h1
  have:c.hp r=some es:=by rw[<-bt r (by simp[xg])];exact h1
  obtain ⟨hF,o,h3,h4⟩:=hh.sd r es p this h2
  exact ⟨hF,o,h3,h4.move fun x u h=>h.mono bm⟩
 ·intro r r' p p' h1 h2 h3 h4 h5
  exact hh.inj r r' p p' (by rw[<-bt r h1];exact h1) (by rw[<-bt r' h2];exact h2) h3 h4 h5
theorem kU {c:Cx} {nx:Nat} (hh:bg c nx) {r:Nat} {es es':bN} {p:Place} (hr:c.hp r=some es) (hp:c.ι r=some p) {w':World} {cs cs':Array Value} {e:TypeId} {fz:Nat×Nat}
  (hb:c.w.heap[p.B]?=some (.cells cs e fz)) (cF:w'.heap=c.w.heap.setIfInBounds p.B (.cells cs' e fz)) (ew:cs'.size=cs.size)
  (AN:w'.os=c.w.os) (gK:w'.tape=c.w.tape) (gF:w'.output=c.w.output)
  (cW:∀(i:Nat) (l:List AV),es'[i]?=some l->l.length=p.sz/\∀(j:Nat) (av:AV),l[j]?=some av->∃u,cs'[p.O+i*p.sz+j]?=some u/\aC c av u) :
  let c':Cx:=⟨c.F,c.ι,ab c.hp r (some es'),w'⟩
  bg c' nx/\Ext c c':=by
 intro c'
 have az:p.B<c.w.heap.size:=(zE.1 hb).1
 have F8:c'.hp r=some es':=by show ab _ _ _ r=_;simp[ab]
 have lI:∀q,q≠r->c'.hp q=c.hp q:=fun q hq=>by show ab _ _ _ q=_;simp[ab,hq]
 have yW:∀q,c'.hp q≠none↔c.hp q≠none:=by
  intro q
  by_cases hq:q=r
  ·subst hq;rw[F8,hr];simp
  ·rw[lI q hq]
 have pj:w'.heap.size=c.w.heap.size:=by rw[cF];simp
 have pC:∀B,B≠p.B->w'.heap[B]?=c.w.heap[B]?:=by
  intro B hB;rw[cF,wQ (by omega)]
 have Q0:w'.heap[p.B]?=some (.cells cs' e fz):=by rw[cF];simp[az]
 have mf:c.own p.B:=⟨r,p,by simp[hr],hp,rfl⟩
 have bm:Ext c c':=by
  refine ⟨rfl,fun _ _ h=>h,by show _<=w'.heap.size;omega,?_,AN,gK,gF⟩
  intro B hB ho
  refine ⟨?_,pC B (by rintro rfl;exact ho mf)⟩
  rintro ⟨q,p',h1,h2,h3⟩
  exact ho ⟨q,p',(yW q).1 h1,h2,h3⟩
 have FX:A0 c':=hh.ty.to (fun q t k rest hq=>by
   by_cases he:q=r
   ·subst he
    rw[F8,zOi]at hq;subst hq
    obtain ⟨u,_,hu⟩:=(cW 0 _ rfl).2 0 _ rfl
    exact hu.yo.elim
   ·rw[lI q he]at hq;exact hq) (fun _ _ h=>h) (fun B AX t Mj hB=>by
   by_cases he:B=p.B
   ·subst he
    rw[hb,zOi,Obj.cells.injEq]at hB
    obtain ⟨rfl,rfl,rfl⟩:=hB
    exact ⟨cs',Q0,ew⟩
   ·exact ⟨AX,(pC B he).trans hB,rfl⟩) fun q _ _ h=>(yW q).1 h
 refine ⟨⟨fun q h=>hh.uT q ((yW q).1 h),hh.lt,?_,?_,?_,FX,hh.gl.ext bm⟩,bm⟩
 ·intro q SJ p' h1 h2
  by_cases hq:q=r
  ·subst hq
   rw[F8,zOi]at h1;subst h1
   have AD:c.ι q=some p':=h2
   rw[hp,zOi]at AD;subst AD
   obtain ⟨hF,o,h3,h4⟩:=hh.sd q es p hr hp
   rw[hb,zOi]at h3;subst h3
   rcases h4 with ⟨hm,AX,e0,Mj,h4,h5,h6,h7⟩|⟨_,_,_,h4,_⟩|⟨_,_,h4,_⟩|⟨_,_,h4,_⟩
   ·rw[Obj.cells.injEq]at h4
    obtain ⟨rfl,rfl,rfl⟩:=h4
    exact ⟨hF,.cells cs' e fz,Q0,.inl ⟨hm,cs',e,fz,rfl,ew.trans h5,h6,fun i l hl=>let ⟨h7,h8⟩:=cW i l hl;⟨h7,fun j av hj=>let ⟨u,h9,iC⟩:=h8 j av hj;⟨u,h9,iC.mono bm⟩⟩⟩⟩
   all_goals cases h4
  ·rw[lI q hq]at h1
   obtain ⟨hF,o,h3,h4⟩:=hh.sd q SJ p' h1 h2
   have bt:p'.B≠p.B:=fun h=>hq (hh.inj q r p' p (by simp[h1]) (by simp[hr]) h2 hp h)
   exact ⟨hF,o,by show w'.heap[p'.B]?=_;rw[pC _ bt];exact h3,h4.move fun x u h=>h.mono bm⟩
 ·intro q q' p1 p2 h1 h2 h3 h4 h5
  exact hh.inj q q' p1 p2 ((yW q).1 h1) ((yW q').1 h2) h3 h4 h5
 ·intro B hB
  have:=hh.F B hB
  show B<w'.heap.size
  omega
theorem M2 {c:Cx} {nx:Nat} (hh:bg c nx) {r:Nat} {es es':bN} {p p':Place} (hr:c.hp r=some es) (hp:c.ι r=some p) {w':World} {cs cs':Array Value} {e:TypeId} {fz:Nat×Nat}
  (hb:c.w.heap[p.B]?=some (.cells cs e fz)) (cF:w'.heap=c.w.heap.setIfInBounds p.B (.cells cs' e fz)) (ew:cs'.size=cs.size) (Ln:p'.B=p.B) (hpN:p'.N=p.N) (hpO:p'.O<=p'.N)
  (AN:w'.os=c.w.os) (gK:w'.tape=c.w.tape) (gF:w'.output=c.w.output)
  (cW:∀(i:Nat) (l:List AV),es'[i]?=some l->l.length=p'.sz/\∀(j:Nat) (av:AV),l[j]?=some av->∃u,cs'[p'.O+i*p'.sz+j]?=some u/\aC c av u) :
  let c':Cx:=⟨c.F,cn c.ι nx p',ab (ab c.hp r none) nx (some es'),w'⟩
  bg c' (nx+1)/\Ext c c':=by
 intro c'
 have az:p.B<c.w.heap.size:=(zE.1 hb).1
 have IN:r≠nx:=fun h=>by have:=hh.lt r p hp;omega
 have IT:c'.hp nx=some es':=by show ab _ _ _ nx=_;simp[ab]
 have F8:c'.hp r=none:=by show ab _ _ _ r=_;simp[ab,IN]
 have lI:∀q,q≠r->q≠nx->c'.hp q=c.hp q:=fun q hq EK=>by show ab _ _ _ q=_;simp[ab,hq,EK]
 have hι:∀q,q≠nx->c'.ι q=c.ι q:=fun q hq=>by show cn _ _ _ q=_;simp[cn,hq]
 have xE:c'.ι nx=some p':=by show cn _ _ _ nx=_;simp[cn]
 have pj:w'.heap.size=c.w.heap.size:=by rw[cF];simp
 have pC:∀B,B≠p.B->w'.heap[B]?=c.w.heap[B]?:=by
  intro B hB;rw[cF,wQ (by omega)]
 have Q0:w'.heap[p.B]?=some (.cells cs' e fz):=by rw[cF];simp[az]
 have mf:c.own p.B:=⟨r,p,by simp[hr],hp,rfl⟩
 have E2:∀q,c'.hp q≠none->q≠nx->c.hp q≠none/\q≠r:=by
  intro q h hq
  have ur:q≠r:=by rintro rfl;exact h F8
  rw[lI q ur hq]at h;exact ⟨h,ur⟩
 have bm:Ext c c':=by
  refine ⟨rfl,?_,by show _<=w'.heap.size;omega,?_,AN,gK,gF⟩
  ·intro q pq h
   by_cases hq:q=nx
   ·subst hq;rw[hh.fresh]at h;simp at h
   ·rw[hι q hq];exact h
  ·intro B hB ho
   refine ⟨?_,pC B (by rintro rfl;exact ho mf)⟩
   rintro ⟨q,pq,h1,h2,h3⟩
   by_cases hq:q=nx
   ·subst hq;rw[xE,zOi]at h2;subst h2;rw[<-h3,Ln]at ho;exact ho mf
   ·rw[hι q hq]at h2;exact ho ⟨q,pq,(E2 q h1 hq).1,h2,h3⟩
 have FX:A0 c':=hh.ty.to (fun q t k rest hq=>by
   by_cases he:q=nx
   ·subst he
    rw[IT,zOi]at hq;subst hq
    obtain ⟨u,_,hu⟩:=(cW 0 _ rfl).2 0 _ rfl
    exact hu.yo.elim
   ·by_cases Sn:q=r
    ·subst Sn;rw[F8]at hq;cases hq
    ·rw[lI q Sn he]at hq;exact hq) bm.ι (fun B AX t Mj hB=>by
   by_cases he:B=p.B
   ·subst he
    rw[hb,zOi,Obj.cells.injEq]at hB
    obtain ⟨rfl,rfl,rfl⟩:=hB
    exact ⟨cs',Q0,ew⟩
   ·exact ⟨AX,(pC B he).trans hB,rfl⟩) fun q g1 _ g2=>by
   have hq:q≠nx:=by rintro rfl;have:=hh.uT _ g1;omega
   exact (E2 q g2 hq).1
 refine ⟨⟨?_,?_,?_,?_,?_,FX,hh.gl.ext bm⟩,bm⟩
 ·intro q h
  by_cases hq:q=nx
  ·omega
  ·have:=hh.uT q (E2 q h hq).1;omega
 ·intro q pq h
  by_cases hq:q=nx
  ·omega
  ·rw[hι q hq]at h;have:=hh.lt q pq h;omega
 ·intro q SJ pq h1 h2
  by_cases hq:q=nx
  ·subst hq
   rw[IT,zOi]at h1;subst h1
   rw[xE,zOi]at h2;subst h2
   obtain ⟨hF,o,h3,h4⟩:=hh.sd r es p hr hp
   rw[hb,zOi]at h3;subst h3
   rcases h4 with ⟨hm,AX,e0,Mj,h4,h5,h6,h7⟩|⟨_,_,_,h4,_⟩|⟨_,_,h4,_⟩|⟨_,_,h4,_⟩
   ·rw[Obj.cells.injEq]at h4
    obtain ⟨rfl,rfl,rfl⟩:=h4
    refine ⟨by rw[Ln];exact hF,.cells cs' e fz,by show w'.heap[p'.B]?=_;rw[Ln];exact Q0,.inl ⟨hpO,cs',e,fz,rfl,by rw[hpN];exact ew.trans h5,by rw[hpN];exact h6,?_⟩⟩
    exact fun i l hl=>let ⟨h7,h8⟩:=cW i l hl;⟨h7,fun j av hj=>let ⟨u,h9,iC⟩:=h8 j av hj;⟨u,h9,iC.mono bm⟩⟩
   all_goals cases h4
  ·have xg:c'.hp q≠none:=by simp[h1]
   obtain ⟨h3,ur⟩:=E2 q xg hq
   rw[lI q ur hq]at h1;rw[hι q hq]at h2
   obtain ⟨hF,o,h3,h4⟩:=hh.sd q SJ pq h1 h2
   have bt:pq.B≠p.B:=fun h=>ur (hh.inj q r pq p (by simp[h1]) (by simp[hr]) h2 hp h)
   exact ⟨hF,o,by show w'.heap[pq.B]?=_;rw[pC _ bt];exact h3,h4.move fun x u h=>h.mono bm⟩
 ·have bt:∀q pq,c'.hp q≠none->q≠nx->c.ι q=some pq->pq.B≠p.B:=by
   intro q pq h1 hq h2 h3
   obtain ⟨h4,h5⟩:=E2 q h1 hq
   exact h5 (hh.inj q r pq p h4 (by simp[hr]) h2 hp h3)
  intro q q' p1 p2 h1 h2 h3 h4 h5
  by_cases hq:q=nx
  ·by_cases EK:q'=nx
   ·omega
   ·subst hq
    rw[xE,zOi]at h3;subst h3
    rw[hι q' EK]at h4
    exact absurd (h5.symm.trans Ln) (bt q' p2 h2 EK h4)
  ·by_cases EK:q'=nx
   ·subst EK
    rw[xE,zOi]at h4;subst h4
    rw[hι q hq]at h3
    exact absurd (h5.trans Ln) (bt q p1 h1 hq h3)
   ·rw[hι q hq]at h3;rw[hι q' EK]at h4
    exact hh.inj q q' p1 p2 (E2 q h1 hq).1 (E2 q' h2 EK).1 h3 h4 h5
 ·intro B hB
  have:=hh.F B hB
  show B<w'.heap.size
  omega
theorem gT {α:Type} (a:Array α) (i:Nat) (x:α) (h:a[i]?=some x):a.setIfInBounds i x=a:=by
 apply qk
 intro j
 rw[qO]
 split
 ·rename_i hj;subst hj;rw[if_pos (zE.1 h).1,h]
 ·rfl
theorem Co {w:World} {B o:Nat} {cs:Array Value} {e:TypeId} {fz:Nat×Nat} (h:w.heap[B]?=some (.cells cs e fz)) (v:Value) :
  (w.setCell ⟨B,o,none⟩ v).heap=w.heap.setIfInBounds B (.cells (cs.setIfInBounds o v) e fz):=by
 apply qk
 intro j
 simp only[World.setCell,wY,qO]
 have az:=(zE.1 h).1
 split
 ·rename_i hj;subst hj
  have bH:w.heap[B]=.cells cs e fz:=(zE.1 h).2
  simp[az,bH]
 ·rfl
theorem hY {α:Type} (l:List α) (o:Nat):aa l o []=l:=by simp[aa]
theorem Cg {α:Type} (l:List α) (o:Nat) (x:α) (r:List α) (h:o+(r.length+1)<=l.length):aa l o (x::r)=aa (l.set o x) (o+1) r:=by
 apply qr
 intro k
 rw[getElem?_spliceL _ _ _ (by simpa using h),getElem?_spliceL _ _ _ (by simp;omega)]
 simp only[zV]
 by_cases h1:k=o
 ·subst h1
  rw[if_pos (by omega),if_neg (by omega),List.getElem?_set_self (by omega)]
  simp
 ·by_cases h2:o+1<=k/\k<o+1+r.length
  ·rw[if_pos (by omega),if_pos h2,show k-o=(k-(o+1))+1 by omega,ww]
  ·rw[if_neg (by omega),if_neg h2,we (by omega)]
theorem fZ {P:Program} {B o:Nat} {e:TypeId} {fz:Nat×Nat}:∀(vs:List Value) (i:Nat) (w:World) (cs:Array Value),w.heap[B]?=some (.cells cs e fz)->o+i+vs.length<=cs.size ->
  (∀k,k<cs.size->¬(fz.1<=k/\k<fz.2))->(∀v∈vs,v.oneCell'=true) ->
  ∃w' cs',(storeCells ⟨B,o,none⟩ vs i).run P w=.ok () w'/\w'.heap=w.heap.setIfInBounds B (.cells cs' e fz)/\cs'.toList=aa cs.toList (o+i) vs/\w'.os=w.os/\w'.tape=w.tape/\w'.output=w.output
 |[],i,w,cs,h,_,_,_=>⟨w,cs,rfl,(gT _ _ _ h).symm,(hY _ _).symm,rfl,rfl,rfl⟩
 |v::r,i,w,cs,h,hle,CU,h1=>by
  simp only[zV]at hle
  have az:=(zE.1 h).1
  have fj:w.cell? ⟨B,o+i,none⟩=some cs[o+i]:=by simp[World.cell?,h,show o+i<cs.size by omega]
  have yV:w.frozen? ⟨B,o+i,none⟩=false:=by
   simp only[World.frozen?,h]
   have:=CU (o+i) (by omega)
   simpa using this
  have bU:(store ((⟨B,o,none⟩:Addr).add i) v).run P w=.ok () (w.setCell ⟨B,o+i,none⟩ v):=by
   rw[gO,run_store P w _ v _ (h1 v (by simp)),fj,yV];rfl
  have cF:=Co (o:=o+i) h v
  have ha:(w.setCell ⟨B,o+i,none⟩ v).heap[B]?=some (.cells (cs.setIfInBounds (o+i) v) e fz):=by rw[cF];simp[az]
  have hb:o+(i+1)+r.length<=(cs.setIfInBounds (o+i) v).size:=by simp;omega
  have hc:∀k,k<(cs.setIfInBounds (o+i) v).size->¬(fz.1<=k/\k<fz.2):=by simpa using CU
  obtain ⟨w',cs',h2,h3,h4,h5,h6,h7⟩:=fZ (P:=P) r (i+1) (w.setCell ⟨B,o+i,none⟩ v) _ ha hb hc (fun x hx=>h1 x (by simp[hx]))
  refine ⟨w',cs',?_,?_,?_,h5,h6,h7⟩
  ·simp only[storeCells,Sem.run_bind,bU,Result.andThen_ok,h2]
  ·rw[h3,cF,Array.setIfInBounds_setIfInBounds]
  ·rw[h4,Cg _ _ _ _ (by simp;omega),Array.toList_setIfInBounds,qF]
theorem MQ {c:Cx} {x:AV} {u:Value} (h:aC c x u) (hx:x.one=true):u.oneCell'=true:=by
 cases h with
 |v=>cases u<;>first|rfl|simp[AV.one]at hx
 |agg _ _=>simp[AV.one]at hx
 |bE _ _=>simp[AV.one]at hx
 |any _=>simp[AV.one]at hx
 |_=>rfl
theorem rE {c:Cx} {x:List AV} {y:List Value} (h:cE c x y) (hx:x.all AV.one=true):∀v∈y,v.oneCell'=true:=by
 intro v hv
 obtain ⟨k,hk,rfl⟩:=List.mem_iff_getElem.1 hv
 have az:k<x.length:=by rw[h.1];exact hk
 have h1:=h.2 k x[k] y[k] (zA az) (zA hk)
 exact MQ h1 (zQ.1 hx _ (zP az))
theorem jw {P:Program} {c:Cx} {nx sz:Nat} {x:AV} {u:Value} {new:bN} (hh:bg c nx) (hv:aC c x u) (h:aR c.hp sz x=some new) :
  (Builtin.lenOf u).run P c.w=.ok new.length c.w/\(∀(i:Nat) (l:List AV),new[i]?=some l->l.length=sz) /\
  ∀n,n<=new.length->∃ys:List Value,(∀w:World,w.heap=c.w.heap->(Builtin.firstCells sz n u).run P w=.ok ys.toArray w)/\cE c (new.take n).flatten ys:=by
 have gen:∀(ad:Addr) (m:Nat),(new≠[]->ad.spot=none)->(∀(i:Nat) (l:List AV),new[i]?=some l->l.length=sz) ->
   (∀(i j:Nat) (l:List AV) (av:AV),new[i]?=some l->l[j]?=some av->∃w,c.w.cell? ⟨ad.block,ad.off+i*sz+j,none⟩=some w/\aC c av w) ->
   ∀n,n<=new.length->∃ys:List Value,(∀w:World,w.heap=c.w.heap->(Builtin.firstCells sz n (.slice (some ad) new.length m)).run P w=.ok ys.toArray w)/\cE c (new.take n).flatten ys:=by
  intro ad m hsp hlen fj n hn
  have az:∀(i:Nat) (l:List AV),(new.take n)[i]?=some l->l.length=sz:=by
   intro i l hl
   rw[wB]at hl
   split at hl
   ·exact hlen i l hl
   ·simp at hl
  have E1:=eK _ az
  have TP:(new.take n).length=n:=by simp;omega
  rw[TP]at E1
  have hc:∀k,k<n*sz->∃u,c.w.cell? ⟨ad.block,ad.off+k,none⟩=some u/\∀av,(new.take n).flatten[k]?=some av->aC c av u:=by
   intro k hk
   have hs:0<sz:=by
    rcases qG sz with h|h
    ·subst h;simp at hk
    ·exact h
   have hq:k / sz<n:=by rw[Nat.div_lt_iff_lt_mul hs];exact hk
   have hr:k % sz<sz:=jC _ hs
   have TV:k / sz<new.length:=by omega
   have hl:=hlen (k / sz) _ (zA TV)
   have hj:k % sz<(new[k / sz]).length:=by omega
   obtain ⟨u,h1,h2⟩:=fj (k / sz) (k % sz) _ _ (zA TV) (zA hj)
   have jn:k / sz*sz+k % sz=k:=by rw[Nat.mul_comm];exact Nat.div_add_mod k sz
   rw[qF,jn]at h1
   refine ⟨u,h1,fun av YI => ?_⟩
   have h3:=mQ (new.take n) (k / sz) (k % sz) _ _ az (by rw[wB,if_pos hq];exact zA TV) (zA hj)
   rw[jn,YI,zOi]at h3
   subst h3;exact h2
  refine ⟨(List.range (n*sz)).map (fun k=>(c.w.cell? ⟨ad.block,ad.off+k,none⟩).getD undef),?_,by simp[E1],?_⟩
  ·intro w hw
   by_cases h0:n*sz=0
   ·simp[Builtin.firstCells,h0,loadCells,loadCellsFrom]
   ·have bt:new≠[]:=by
     rintro rfl
     simp at hn;subst hn;simp at h0
    obtain ⟨B,O,sp⟩:=ad
    have aaJ:=hsp bt
    simp only at aaJ;subst aaJ
    have:=run_loadCells (P:=P) w ⟨B,O,none⟩ (n*sz) (fun k=>(c.w.cell? ⟨B,O+k,none⟩).getD undef) (fun k hk=>by
     obtain ⟨u,h1,_⟩:=hc k hk
     rw[gO,h1]
     have:w.cell? ⟨B,O+k,none⟩=c.w.cell? ⟨B,O+k,none⟩:=by simp only[World.cell?,hw]
     rw[this,h1];rfl)
    simpa [Builtin.firstCells] using this
  ·intro k av u h1 h2
   simp only[zM,zC]at h2
   obtain ⟨k',jn,rfl⟩:=h2
   have hk:k<n*sz/\k'=k:=by
    obtain ⟨h5,h6⟩:=zB.1 jn
    simp at h5 h6;exact ⟨h5,h6.symm⟩
   obtain ⟨hk,rfl⟩:=hk
   obtain ⟨u,h3,h4⟩:=hc k' hk
   rw[h3];exact h4 av h1
 unfold aR at h
 split at h
 ·
  split at h
  ·rename_i ew
   simp only[zOi]at h;subst h
   cases hv with
   |nil hc =>
    refine ⟨rfl,fun i l h=>by simp at h,fun n hn=>⟨[],fun w hw => ?_,by simp[cE]⟩⟩
    rfl
   |rs g hlen hle dq cW bZ fj me =>
    rename_i m len ad
    have R3:=ew.resolve_left (by simp)
    subst R3
    refine ⟨by rw[hlen];rfl,cW,?_⟩
    have:=gen ad m (fun bt=>(bZ bt).2) cW (fun i j l av h1 h2=>⟨g i j,fj i j l av h1 h2,me i j l av h1 h2⟩)
    rw[hlen]at this
    rw[hlen];exact this
  ·simp at h
 ·
  rename_i r z i len agD
  split at h
  ·rename_i ew
   split at h
   ·rename_i es cW
    split at h
    ·rename_i hle
     simp only[zOi]at h;subst h
     subst ew
     cases hv with
     |sl hι hs ha hl dq hN hE eP =>
      rename_i m p ad
      obtain ⟨hF,cs,e,fz,h3,h4,h5,h6⟩:=hh.cells cW hι eP
      have hlen:((es.drop i).take len).length=len:=by simp;omega
      have bH:∀(k:Nat) (l:List AV),((es.drop i).take len)[k]?=some l->es[i+k]?=some l/\k<len:=by
       intro k l hk
       rw[wB]at hk
       split at hk
       ·rw[wE]at hk;exact ⟨hk,by assumption⟩
       ·simp at hk
      have N8:((es.drop i).take len)≠[]->ad=⟨p.B,p.O+i*p.sz,none⟩:=by
       intro bt
       have h0:len≠0:=by rintro rfl;simp at bt
       rw[hs];exact ha (by omega)
      refine ⟨by rw[hlen];rfl,fun k l hk=>by rw[<-hs];exact (h6 _ l (bH k l hk).1).1,?_⟩
      have:=gen ad m (fun bt=>by rw[N8 bt]) (fun k l hk=>by rw[<-hs];exact (h6 _ l (bH k l hk).1).1) (fun k j l av h1 h2=>by
       obtain ⟨h7,h8⟩:=h6 _ l (bH k l h1).1
       obtain ⟨u,h9,iC⟩:=h8 j av h2
       refine ⟨u,?_,iC⟩
       have Xa:=N8 (cj h1)
       subst Xa
       simp only[World.cell?,h3]
       rw[<-hs,show p.O+i*p.sz+k*p.sz+j=p.O+(i+k)*p.sz+j by rw[ze];omega]
       simpa using h9)
      rw[hlen]at this
      rw[hlen];exact this
    ·simp at h
   ·simp at h
  ·simp at h
 ·
  split at h
  ·rename_i l ew
   simp only[zOi]at h;subst h
   subst ew
   have e1:=hv.fQ
   subst e1
   refine ⟨by simp[Builtin.lenOf,bytesOf,ByteArray.size],fun i x hx => ?_,fun n hn => ?_⟩
   ·simp only[bytesOf,zM,zC]at hx
    obtain ⟨b,_,rfl⟩:=hx;rfl
   ·refine ⟨(l.take n).map (fun b=>Value.int .u8 b.toNat),fun w hw => ?_,?_⟩
    ·have:((⟨l.toArray⟩:ByteArray).extract 0 n).data=(l.take n).toArray:=by
      apply Array.ext'
      rw[Lib.extract_data];simp
     simp[Builtin.firstCells,this]
    ·have E1:((bytesOf l).take n).flatten=(l.take n).map (fun b=>AV.v (.int .u8 b.toNat)):=by
      simp only[bytesOf,<-wR]
      induction l.take n with
      |nil=>rfl
      |cons a r ih=>simp[ih]
     rw[E1]
     refine ⟨by simp,fun k av u h1 h2 => ?_⟩
     simp only[zM,zC]at h1 h2
     obtain ⟨b,hb,rfl⟩:=h1
     obtain ⟨b',CZ,rfl⟩:=h2
     rw[hb]at CZ;simp only[zOi]at CZ;subst CZ
     exact .v _
  ·simp at h
 ·simp at h
def LKd:LK->TypeDesc->Prop
 |.i,d=>∃q,d=.int q
 |.s,d=>d=.string
 |.b,d=>d=.bool
theorem rH {P:Program} {k:TypeId} {lk:LK} (h:w7 P k=some lk):∃d,P.underlying k=some d/\LKd lk d:=by
 unfold w7 at h
 split at h<;>first|(cases h;done)|(rename_i hu;cases h;exact ⟨_,hu,by first|rfl|exact ⟨_,rfl⟩⟩)
theorem xZ {c:Cx} {lk:LK} {d:TypeDesc} (hl:LKd lk d) {k k':AV} {kv FW:Value} {b:Bool} (h:iR lk k k'=some b) (h1:aC c k kv) (h2:aC c k' FW):Instr.sameNow d kv FW=some b/\(b=true->FW=kv):=by
 unfold iR at h
 split at h
 ·split at h
  ·rename_i hk
   subst hk
   simp only[zOi]at h;subst h
   have e1:=h1.b8
   have e2:=h2.b8
   subst e1;subst e2
   obtain ⟨q,rfl⟩:=hl
   refine ⟨by simp[Instr.sameNow,ue],fun h => ?_⟩
   have:=of_decide_eq_true h
   rw[this]
  ·cases h
 ·rename_i a b'
  simp only[zOi]at h;subst h
  have e1:=h1.fQ
  have e2:=h2.fQ
  subst e1;subst e2
  have hl:d=.string:=hl
  subst hl
  refine ⟨?_,fun h => ?_⟩
  ·simp only[Instr.sameNow,zOi]
   rw[Bool.eq_iff_iff,MapKept.bytes_beq]
   simp
  ·have:=of_decide_eq_true h
   rw[this]
 ·simp only[zOi]at h;subst h
  have e1:=h1.b8
  have e2:=h2.b8
  subst e1;subst e2
  have hl:d=.bool:=hl
  subst hl
  refine ⟨rfl,fun h => ?_⟩
  simp only[beq_iff_eq]at h
  rw[h]
 ·cases h
theorem mR {c:Cx} {lk:LK} {d:TypeDesc} (hl:LKd lk d) {k:AV} {kv:Value} (hk:aC c k kv):∀(es:bN) (l:List MapEntry) (i0:Nat),es.length=l.length ->
  (∀(i:Nat) (row:List AV) (e:MapEntry),es[i]?=some row->l[i]?=some e->∃k' v',row=[k',v']/\aC c k' e.key/\aC c v' e.val)->∀kK,iQ lk k es=some kK ->
  match kK with
  |none=>Instr.findNow d kv l i0=some none
  |some (j,v)=>∃e,l[j]?=some e/\aC c v e.val/\e.key=kv/\Instr.findNow d kv l i0=some (some (i0+j,e.val))
 |[],[],i0,_,_,kK,h=>by simp only[iQ,zOi]at h;subst h;rfl
 |[],_::_,i0,hlen,_,kK,h=>by simp at hlen
 |_::_,[],i0,hlen,_,kK,h=>by simp at hlen
 |row::es,e::l,i0,hlen,aX,kK,h=>by
  obtain ⟨k',v',rfl,jn,RX⟩:=aX 0 _ e rfl rfl
  simp only[iQ]at h
  split at h
  ·rename_i IU
   simp only[zOi]at h;subst h
   obtain ⟨g1,g2⟩:=xZ hl IU hk jn
   exact ⟨e,rfl,RX,g2 rfl,by simp only[Instr.findNow,g1,wH]⟩
  ·rename_i IU
   obtain ⟨g1,_⟩:=xZ hl IU hk jn
   have ih:=mR hl hk es l (i0+1) (by simpa using hlen) (fun i ad3 e' h1 h2=>aX (i+1) ad3 e' (by simpa using h1) (by simpa using h2))
   cases hf:iQ lk k es with
   |none=>rw[hf]at h;cases h
   |some r =>
    have ih:=ih r hf
    rw[hf]at h
    cases r with
    |none =>
     simp only[zOi]at h;subst h
     simp only[Instr.findNow,g1];exact ih
    |some p =>
     obtain ⟨j,v⟩:=p
     simp only[zOi]at h;subst h
     obtain ⟨e',h1,h2,h3,h4⟩:=ih
     refine ⟨e',by simpa using h1,h2,h3,?_⟩
     simp only[Instr.findNow,g1]
     rw[h4];congr 2;simp only[zPi,and_true];omega
  ·cases h
theorem kR {P:Program} {w:World} {kt:TypeId} {lk:LK} {d:TypeDesc} (hd:P.underlying kt=some d) (hl:LKd lk d) (em:Bool) (v:Value):(Instr.checkKey em 10000 kt v).run P w=.ok () w:=by
 unfold Instr.checkKey
 cases lk with
 |i=>obtain ⟨q,rfl⟩:=hl;simp[run_underlying hd,Result.andThen]
 |s=>have hl:d=.string:=hl;subst hl;simp[run_underlying hd,Result.andThen]
 |b=>have hl:d=.bool:=hl;subst hl;simp[run_underlying hd,Result.andThen]
theorem SG {P:Program} {op:Op} {co:jg} (hm:nb P op co) {dst:Option Tmp} {type:TypeId} {pos:String} {after:Array Edge} {guard:Option (Nat×Bool)} {tm:Nat->AV} {a:Act} {c:Cx} {v:AV} {r:Nat} (he:lF tm c.hp co=some (v,r)) {nx:Nat} (ht:fJ c tm a) (hh:bg c nx) :
  oq P ⟨dst,op,type,pos,after,guard⟩ a c v:=by
 cases hm with
 |mk h=>simp[lF]at he
 |set h hl=>simp[lF]at he
 |del ha h0 h hl=>simp[lF]at he
 |range h=>simp[lF]at he
 |next=>simp[lF]at he
 |Xu=>simp[lF]at he
 |entry h hl hi hz=>simp[lF]at he
 |HH=>simp[lF]at he
 | @look t kt et x k ok lk i z h hl hi hz =>
  simp only[lF]at he
  split at he
  ·rename_i r' hx
   split at he
   ·rename_i es cW
    split at he
    ·have h1:=aE ht x
     have h2:=aE ht k
     rw[hx]at h1
     generalize yE:a.eval x=ux at h1
     cases h1 with
     |mp hι eP =>
      rename_i p
      obtain ⟨_,ents,clock,hb,aX,_⟩:=hh.map cW hι eP
      obtain ⟨d,hd,NQ⟩:=rH hl
      have oe:(zeroValue et).run P c.w=.ok z c.w:=by simp[zeroValue,typeInfo,hi,hz]
      have Hp:=fun em=>kR (P:=P) (w:=c.w) hd NQ em (a.eval k)
      have key:=mR NQ h2 es ents.toList 0 (by simpa using aX.1) (fun i row e h3 h4=>aX.2 i row e h3 (by simpa using h4))
      split at he
      ·rename_i j v' hf
       simp only[zOi,zPi]at he
       obtain ⟨rfl,rfl⟩:=he
       obtain ⟨e,h3,h4,_,h5⟩:=key _ hf
       have bR:(Instr.lookup t (.map (some p.B)) (a.eval k) ok).run P c.w=.ok (if ok then .tuple #[e.val,.bool true] else e.val) c.w:=by
        unfold Instr.lookup
        simp[run_underlying h,MapKept.run_getObj_map hb,Hp,MapKept.run_findKey hd h5,Result.andThen]
       refine .same (u:=if ok then .tuple #[e.val,.bool true] else e.val) (by simp only[execOp,yE];simp[bR]) ?_
       cases ok
       ·exact h4
       ·exact .bE rfl fun q av u h6 h7=>by
         match q with
         |0=>simp at h6 h7;subst h6;subst h7;exact h4
         |1=>simp at h6 h7;subst h6;subst h7;exact .v _
         |q+2=>simp at h6
      ·rename_i hf
       simp only[zOi,zPi]at he
       obtain ⟨rfl,rfl⟩:=he
       have h5:=key _ hf
       have bR:(Instr.lookup t (.map (some p.B)) (a.eval k) ok).run P c.w=.ok (if ok then .tuple #[z,.bool false] else z) c.w:=by
        unfold Instr.lookup
        simp[run_underlying h,MapKept.run_getObj_map hb,Hp,MapKept.run_findKey hd h5,oe,Result.andThen]
       refine .same (u:=if ok then .tuple #[z,.bool false] else z) (by simp only[execOp,yE];simp[bR]) ?_
       cases ok
       ·exact tF c z
       ·exact .bE rfl fun q av u h6 h7=>by
         match q with
         |0=>simp at h6 h7;subst h6;subst h7;exact tF c z
         |1=>simp at h6 h7;subst h6;subst h7;exact .v _
         |q+2=>simp at h6
      ·cases he
    ·cases he
   ·cases he
  ·cases he
 | @len t kt et x args ts ha h0 h =>
  simp only[lF]at he
  split at he
  ·rename_i r' hx
   split at he
   ·rename_i es cW
    simp only[zOi,zPi]at he
    obtain ⟨rfl,rfl⟩:=he
    have h1:=aE ht x
    rw[hx]at h1
    generalize yE:a.eval x=ux at h1
    cases h1 with
    |mp hι eP =>
     rename_i p
     obtain ⟨_,ents,clock,hb,aX,_⟩:=hh.map cW hι eP
     have hm:args.map a.eval = #[.map (some p.B)]:=by
      have:args = #[x]:=qZ.1 (by simpa using ha)
      subst this;simp[yE]
     have bR:(Builtin.len_ ts type #[.map (some p.B)]).run P c.w=.ok (goInt ents.size) c.w:=by
      unfold Builtin.len_
      rw[h0,show (#[Value.map (some p.B)]:Array Value)[0]?=some (.map (some p.B)) from rfl]
      simp[run_underlying h,MapKept.run_getObj_map hb,Result.andThen]
     refine .same (u:=goInt ents.size) (cH ?_) ?_
     ·rw[hm];simp only[builtin,Sem.run_bind,bR,Result.andThen_ok,Sem.run_pure]
     ·rw[aX.1];exact .v _
   ·cases he
  ·cases he
def dw (P:Program) (o:Oper) (a:Act) (c:Cx) (v:AV) (hp':Heap) (nx':Nat):Prop :=
 ∃u w' ι',iX P o a c.w u w'/\Ext c ⟨c.F,ι',hp',w'⟩/\bg ⟨c.F,ι',hp',w'⟩ nx'/\aC ⟨c.F,ι',hp',w'⟩ v u
theorem sq {P:Program} {e:TypeId} (h:0<P.cellsOf e):∃j,P.info? e=some j/\j.size=P.cellsOf e/\j.size≠0:=by
 unfold Program.cellsOf at h ⊢
 cases hi:P.info? e with
 |none=>simp[hi]at h
 |some j=>exact ⟨j,rfl,by simp,by simp[hi]at h;omega⟩
theorem Ex {P:Program} {u:TypeId} (hc:0<P.cellsOf u) (count:Nat) (hn:1<=count):liesAt P P.depth u count 0 u 1=true:=by
 have hd:P.depth=(2*(P.types.size+Made.depth)+1)+1:=rfl
 rw[hd]
 simp only[liesAt,qB]
 left
 rw[hd]
 have h0:P.cellsOf u≠0:=by omega
 simp[rowAt,h0,hn,sameLayout]
theorem LF {P:Program} {own:Bool} {o:Oper} {co:jg} {tm:Nat->AV} {a:Act} {c:Cx} {v:AV} {r:Nat} (hc:dH P own o=some co) (he:lF tm c.hp co=some (v,r)) {nx:Nat} (ht:fJ c tm a) (hh:bg c nx) :
  oq P o a c v:=by
 obtain ⟨dst,op,type,pos,after,guard⟩:=o
 unfold dH at hc
 split at hc
 ·rename_i Rc ao
  simp only[zOi]at hc;subst hc
  cases op<;>simp only[ml]at ao
  case load t x =>
   simp only[zC]at ao
   obtain ⟨n,hn,rfl⟩:=ao
   simp only[lF]at he
   split at he
   ·rename_i r' i o hx
    split at he
    ·rename_i es cW
     split at he
     ·rename_i l hl
      simp only[zC,zPi]at he
      obtain ⟨v',RX,rfl,rfl⟩:=he
      have h1:=aE ht x
      rw[hx]at h1
      generalize hu:a.eval x=u at h1
      cases h1 with
      |ptr hι eP =>
       rename_i p
       obtain ⟨hF,cs,e,fz,h3,h4,h5,h6⟩:=hh.cells cW hι eP
       obtain ⟨h7,h8⟩:=h6 i l hl
       obtain ⟨u,h9,iC⟩:=lM (P:=P) hn (B:=p.B) (O:=p.O+i*p.sz) (off:=o) (cells:=l) (fun k av hk=>by
        obtain ⟨u,vM,xf⟩:=h8 k av hk
        refine ⟨u,?_,xf⟩
        simp only[World.cell?,h3]
        simpa using vM) RX
       exact .same (by simp only[execOp,hu,Instr.loadAt,Instr.sureAddr,Sem.run_bind,Sem.run_pure,Result.andThen_ok,h9]) iC
     ·simp at he
    ·simp at he
   ·simp at he
  case convert src Da x =>
   unfold gM at ao
   split at ao
   ·simp only[zOi]at ao;subst ao;simp[lF]at he
   ·simp only[zOi]at ao;subst ao;simp[lF]at he
   ·split at ao
    ·simp only[zOi]at ao;subst ao;simp[lF]at he
    ·simp at ao
   ·rename_i e hs hd
    split at ao
    ·rename_i RY
     simp only[zOi]at ao;subst ao
     simp only[lF]at he
     split at he
     ·rename_i r' sz i len cp hx
      split at he
      ·rename_i es cW
       split at he
       ·rename_i hle
        obtain ⟨ew,hle⟩:=hle
        simp only[zC,zPi]at he
        obtain ⟨l,hl,rfl,rfl⟩:=he
        have h1:=aE ht x
        rw[hx]at h1
        have sW:aR c.hp 1 (.sl r' sz i len cp)=some ((es.drop i).take len):=by simp[aR,ew,cW,hle]
        generalize e1:a.eval x=u at h1
        obtain ⟨hlen,aX,uN⟩:=jw (P:=P) hh h1 sW
        obtain ⟨ns,IQ,rfl⟩:=nu hl
        obtain ⟨ys,aaE,bP⟩:=uN ((es.drop i).take len).length (zD _)
        have hys:=aaE c.w rfl
        clear aaE
        rw[zW]at bP
        have E1:((es.drop i).take len).flatten=ns.map (fun n=>AV.v (.int .u8 n)):=by
         rw[IQ]
         clear IQ hl
         induction ns with
         |nil=>rfl
         |cons q r ih=>simp[ih]
        have hyv:ys=ns.map (Value.int .u8):=by
         apply qr
         intro k
         rw[E1]at bP
         by_cases hk:k<ns.length
         ·obtain ⟨u,h3,h4⟩:=bP.get (k:=k) (av:=.v (.int .u8 ns[k])) (by simp[hk])
          rw[h3,h4.b8];simp[hk]
         ·have:=bP.1
          rw[wZ (by simp at this;omega),wZ (by simp;omega)]
        cases h1 with
        |sl hι jt ha hll dq hN hE eP =>
         rename_i m p ad
         have abf:((es.drop i).take len).length=len:=by simp;omega
         have BF:(loadCells ad len).run P c.w=.ok (ns.map (Value.int .u8)).toArray c.w:=by
          have:=hys
          rw[abf,hyv]at this
          simpa [Builtin.firstCells] using this
         refine .same (u:=.string (ns.foldl (fun r n=>r.push (UInt8.ofNat n.toNat)) ByteArray.empty)) ?_ ?_
         ·have bR:=run_bytesToString c.w ad len m ns BF
          have hcv:=run_convert_bytes_string c.w src Da e (some ad) len m hs RY hd
          simp only[execOp,e1,Sem.run_bind,hcv,bR,Result.andThen_ok,Sem.run_pure]
         ·have:=tB c (ns.foldl (fun r n=>r.push (UInt8.ofNat n.toNat)) ByteArray.empty)
          rw[fold_push]at this
          simpa using this
       ·simp at he
      ·simp at he
     ·simp at he
    ·simp at ao
   ·simp only[zOi]at ao;subst ao;simp[lF]at he
   ·rename_i e hs hd
    split at ao
    ·rename_i h0
     simp only[zOi]at ao;subst ao
     simp only[lF]at he
     split at he
     ·rename_i r' hx
      split at he
      ·rename_i l0 lr es cW
       simp only[zOi,zPi]at he
       obtain ⟨rfl,rfl⟩:=he
       have h1:=aE ht x
       rw[hx]at h1
       have xg:=h1
       generalize e1:a.eval x=u1 at h1
       cases h1 with
       |ptr hι eP =>
        rename_i p
        obtain ⟨_,cs,el,fz,h3,h4,h5,h6⟩:=hh.cells cW hι eP
        obtain ⟨h7,h8⟩:=h6 0 _ rfl
        obtain ⟨u,h9,_⟩:=h8 0 _ rfl
        obtain ⟨j,hj,Md,NU⟩:=sq h0
        have az:p.O<cs.size:=by
         have:=(zE.1 h9).1
         omega
        have G9:c.w.shape? p.B=some (el,cs.size):=by simp[World.shape?,h3]
        refine .same (u:=.pointer (some ⟨p.B,p.O+0*p.sz+0,none⟩)) ?_ (.ptr hι eP)
        have hr:=Lib.run_to_unsafe (P:=P) c.w (src:=src) (dst:=Da) (⟨p.B,p.O+0*p.sz+0,none⟩:Addr) hs hd hj NU G9 (by simpa using az)
        simp only[execOp,e1,Sem.run_bind,hr,Result.andThen_ok,Sem.run_pure]
      ·simp at he
     ·simp at he
    ·simp at ao
   ·rename_i u0 hs hd
    split at ao
    ·rename_i h0
     simp only[zOi]at ao;subst ao
     simp only[lF]at he
     split at he
     ·rename_i q hx
      split at he
      ·rename_i t' k' cW
       split at he
       ·rename_i hb
        obtain ⟨rfl,rfl⟩:=hb
        simp only[zOi,zPi]at he
        obtain ⟨rfl,rfl⟩:=he
        have h1:=aE ht x
        rw[hx]at h1
        generalize e1:a.eval x=u1 at h1
        cases h1 with
        |ptr hι eP =>
         rename_i p
         obtain ⟨p',cs,fz,g1,g2,g3,g4⟩:=hh.ty.1 q _ _ cW
         rw[hι]at g1;simp only[zOi]at g1;subst g1
         obtain ⟨j,hj,Md,NU⟩:=sq h0
         have G9:c.w.shape? p.B=some (t',cs.size):=by simp[World.shape?,g3]
         refine .same (u:=.pointer (some ⟨p.B,p.O+0*p.sz+0,none⟩)) ?_ (.ptr hι eP)
         have hz:p.O+0*p.sz+0=0:=by rw[g2];simp
         have hr:=Lib.run_from_unsafe (P:=P) c.w (src:=src) (dst:=Da) (⟨p.B,p.O+0*p.sz+0,none⟩:Addr) hs hd hj G9 (by
          show liesAt P P.depth t' (cs.size / P.cellsOf t') (p.O+0*p.sz+0) t' 1=true
          rw[hz]
          exact Ex h0 _ ((Nat.le_div_iff_mul_le h0).2 (by omega)))
         simp only[execOp,e1,Sem.run_bind,hr,Result.andThen_ok,Sem.run_pure]
       ·simp at he
      ·simp at he
     ·simp at he
    ·simp at ao
   ·simp at ao
  case alloc e=>split at ao<;>simp only[zC]at ao<;>obtain ⟨z,_,rfl⟩:=ao<;>simp[lF]at he
  case call cl =>
   obtain ⟨callee,args,ts⟩:=cl
   cases callee with
   |value f =>
    cases f<;>simp only[]at ao<;>(try (split at ao))<;>simp only[zOi,reduceCtorEq]at ao<;>subst ao<;>simp[lF]at he
   |invoke r m=>simp at ao
   |builtin b =>
    unfold gh dg at ao
    (repeat' split at ao)<;>simp only[zOi,reduceCtorEq]at ao<;>(try subst ao)<;>simp[lF]at he
  all_goals (first|(simp at ao;done)|skip)
  all_goals ((try unfold jX at ao);(repeat' split at ao)<;>(first|(simp only[zOi,reduceCtorEq]at ao;done)|(simp only[zOi]at ao;subst ao;simp[lF]at he;done)|(simp only[zC]at ao;obtain ⟨_,_,rfl⟩:=ao;simp[lF]at he;done)))
 ·cases op
  case binOp =>
   unfold iS at hc
   (repeat' split at hc)<;>simp only[zOi,reduceCtorEq]at hc<;>subst hc<;>simp[lF]at he
  all_goals exact SG (dx hc) he ht hh
theorem dw.push {P:Program} {o:Oper} {a:Act} {c:Cx} {nx:Nat} (hh:bg c nx) {v:AV} {u:Value} {w':World} {cs:Array Value} {e:TypeId} {fz:Nat×Nat} {es:bN} {sz:Nat}
  (bR:iX P o a c.w u w') (cF:w'.heap=c.w.heap.push (.cells cs e fz)) (AN:w'.os=c.w.os) (gK:w'.tape=c.w.tape) (gF:w'.output=c.w.output)
  (CU:∀o,o<cs.size->¬(fz.1<=o/\o<fz.2))
  (cW:∀(i:Nat) (l:List AV),es[i]?=some l->l.length=sz/\∀(j:Nat) (av:AV),l[j]?=some av->∃u,cs[i*sz+j]?=some u/\aC c av u)
  (hv:∀c':Cx,c'.ι nx=some ⟨c.w.heap.size,0,sz,cs.size,[]⟩->aC c' v u):dw P o a c v (ab c.hp nx (some es)) (nx+1):=by
 obtain ⟨h1,h2⟩:=tC hh cF AN gK gF CU cW
 exact ⟨u,w',_,bR,h2,h1,hv _ (by simp[cn])⟩
theorem nE {c:Cx} {sz:Nat} {es:bN} {cs:List Value} (cW:∀(i:Nat) (l:List AV),es[i]?=some l->l.length=sz) (h:cE c es.flatten cs) :
  ∀(i:Nat) (l:List AV),es[i]?=some l->l.length=sz/\∀(j:Nat) (av:AV),l[j]?=some av->∃u,cs[i*sz+j]?=some u/\aC c av u :=
 fun i l hl=>⟨cW i l hl,fun j av hj=>h.get (mQ es i j l av cW hl hj)⟩
theorem Cz {c:Cx} {l:List AV} {cs:List Value} (h:cE c l cs) :
  ∀(i:Nat) (x:List AV),[l][i]?=some x->x.length=l.length/\∀(j:Nat) (av:AV),x[j]?=some av->∃u,cs[i*l.length+j]?=some u/\aC c av u:=by
 intro i x hx
 cases i with
 |zero =>
  simp at hx;subst hx
  exact ⟨rfl,fun j av hj=>by rw[qw,Nat.zero_add];exact h.get hj⟩
 |succ i=>simp at hx
theorem HW {P:Program} {a:Act} {c:Cx} {nx:Nat} (hh:bg c nx) {e:TypeId} {z:List AV} (hz:zeroOf P e=some z) {dst:Option Tmp} {type:TypeId} {pos:String} {after:Array Edge} {guard:Option (Nat×Bool)} :
  dw P ⟨dst,.alloc e,type,pos,after,guard⟩ a c (.ptr nx 0 0) (ab c.hp nx (some [z])) (nx+1):=by
 obtain ⟨i,zv,hi,oe,oz,rfl⟩:=dz hz
 refine dw.push hh (u:=.pointer (some ⟨c.w.heap.size,0,none⟩)) (w':={ c.w with heap:=c.w.heap.push (.cells zv.cells e) }) (cs:=zv.cells) (e:=e) (fz:=(0,0)) (sz:=(zv.cells.toList.map js).length) (.inl ?_) rfl rfl rfl rfl (by intro o h;simp) ?_ ?_
 ·simp[execOp,Instr.alloc,zeroValue,typeInfo,hi,oe,newVar,newRow]
 ·intro k x hx
  obtain ⟨h1,h2⟩:=Cz (tu c oz) k x hx
  exact ⟨h1,fun j av hj=>let ⟨u,h3,h4⟩:=h2 j av hj;⟨u,by rw[<-getElem?_arr];exact h3,h4⟩⟩
 ·intro c' Gb
  simpa using aC.ptr (i:=0) (off:=0) Gb (wT _)
theorem Qp {P:Program} {a:Act} {c:Cx} {nx:Nat} (hh:bg c nx) {e:TypeId} {x:Operand} {tm:Nat->AV} (ht:fJ c tm a) (cV:(ev tm (cO x)).cells.all AV.one=true) {dst:Option Tmp} {type:TypeId} {pos:String} {after:Array Edge} {guard:Option (Nat×Bool)} :
  dw P ⟨dst,.box e x,type,pos,after,guard⟩ a c (.ptr nx 0 0) (ab c.hp nx (some [(ev tm (cO x)).cells])) (nx+1):=by
 have hr:=mX (aE ht x) (gb cV)
 refine dw.push hh (u:=.pointer (some ⟨c.w.heap.size,0,none⟩)) (w':={ c.w with heap:=c.w.heap.push (.cells (a.eval x).cells e) }) (cs:=(a.eval x).cells) (e:=e) (fz:=(0,0)) (sz:=(ev tm (cO x)).cells.length) (.inl ?_) rfl rfl rfl rfl (by intro o h;simp) ?_ ?_
 ·simp[execOp,Instr.box,newVar,newRow]
 ·intro k y hy
  obtain ⟨h1,h2⟩:=Cz hr k y hy
  exact ⟨h1,fun j av hj=>let ⟨u,h3,h4⟩:=h2 j av hj;⟨u,by rw[<-getElem?_arr];exact h3,h4⟩⟩
 ·intro c' Gb
  simpa using aC.ptr (i:=0) (off:=0) Gb (wT _)
theorem Gn {P:Program} {a:Act} {c:Cx} {nx:Nat} (hh:bg c nx) {t:TypeId} {inf:TypeInfo} {x y:Operand} {tm:Nat->AV} (ht:fJ c tm a) (hi:P.info? t=some inf) (h0:0<inf.size) {r i o:Nat} {es:bN} {l:List AV}
  (hx:ev tm (cO x)=.ptr r i o) (cW:c.hp r=some es) (hl:es[i]?=some l) (hlen:(ev tm (cO y)).cells.length=inf.size) (hle:o+inf.size<=l.length) (cV:(ev tm (cO y)).cells.all AV.one=true)
  {dst:Option Tmp} {type:TypeId} {pos:String} {after:Array Edge} {guard:Option (Nat×Bool)} :
  dw P ⟨dst,.store t x y,type,pos,after,guard⟩ a c (.v undef) (ab c.hp r (some (es.set i (aa l o (ev tm (cO y)).cells)))) nx:=by
 have h1:=aE ht x
 rw[hx]at h1
 have hr:=mX (aE ht y) (gb cV)
 generalize yE:a.eval x=ux at h1
 cases h1 with
 |ptr hι eP =>
  rename_i p
  obtain ⟨hF,cs,e,fz,h3,h4,h5,h6⟩:=hh.cells cW hι eP
  obtain ⟨h7,h8⟩:=h6 i l hl
  have ew:(a.eval y).cells.size=inf.size:=by have:=hr.1;simp at this;omega
  have eI:p.O+i*p.sz+l.length<=cs.size:=by
   have ET:l.length-1<l.length:=by omega
   obtain ⟨u,h9,_⟩:=h8 (l.length-1) _ (zA ET)
   have:=(zE.1 h9).1
   omega
  obtain ⟨w',cs',s1,s2,s3,s4,s5,s6⟩:=fZ (P:=P) (B:=p.B) (o:=p.O+i*p.sz+o) (a.eval y).cells.toList 0 c.w cs h3 (by simp;omega) (by intro k hk;rw[h4]at hk;exact h5 k hk) (rE hr cV)
  obtain ⟨g1,g2⟩:=kU hh cW hι h3 s2 (by
    have:=congrArg List.length s3
    rw[dZ _ _ _ (by simp;omega)]at this
    simpa using this) s4 s5 s6 (es':=es.set i (aa l o (ev tm (cO y)).cells)) (by
   intro k x hk
   rw[wx]at hk
   have iM:=(zB.1 hl).1
   have bH:∀q,cs'[q]?=if p.O+i*p.sz+o<=q/\q<p.O+i*p.sz+o+inf.size then (a.eval y).cells.toList[q-(p.O+i*p.sz+o)]? else cs[q]?:=by
    intro q
    rw[<-getElem?_arr,s3,wH,getElem?_spliceL _ _ _ (by simp;omega)]
    simp only[qL,ew,getElem?_arr]
   split at hk
   ·rename_i xc
    simp only[zOi]at hk;subst hk;subst xc
    have BB:(aa l o (ev tm (cO y)).cells).length=l.length:=dZ _ _ _ (by omega)
    refine ⟨BB.trans h7,fun j av hj => ?_⟩
    rw[getElem?_spliceL _ _ _ (by omega)]at hj
    rw[bH]
    split at hj
    ·rename_i hjo
     obtain ⟨u,h9,iC⟩:=hr.get hj
     refine ⟨u,?_,iC⟩
     rw[if_pos (by omega),show p.O+i*p.sz+j-(p.O+i*p.sz+o)=j-o by omega]
     exact h9
    ·rename_i hjo
     rw[if_neg (by omega)]
     exact h8 j av hj
   ·rename_i xc
    obtain ⟨h9,iC⟩:=h6 k x hk
    refine ⟨h9,fun j av hj => ?_⟩
    rw[bH]
    have tU:=(zB.1 hj).1
    have bt:¬(p.O+i*p.sz+o<=p.O+k*p.sz+j/\p.O+k*p.sz+j<p.O+i*p.sz+o+inf.size):=by
     rintro ⟨q1,q2⟩
     rcases Nat.lt_or_gt_of_ne xc with az|pB
     ·have:=zX p.sz (qU az)
      rw[qz]at this;omega
     ·have:=zX p.sz (qU pB)
      rw[qz]at this;omega
    rw[if_neg bt]
    exact iC j av hj)
  refine ⟨undef,w',c.ι,.inr ⟨?_,rfl⟩,g2,g1,.v _⟩
  have pj:(sizeOf t).run P c.w=.ok inf.size c.w:=by simp[sizeOf,typeInfo,hi]
  simp only[execOp,yE,Instr.storeAt,Instr.sureAddr,storeVar,Sem.run_bind,Sem.run_pure,Result.andThen_ok,pj]
  simp only[ne_eq,ew,not_true_eq_false,if_false,Sem.run_pure,Result.andThen_ok,Sem.run_bind]
  simp[s1]
section
variable {P:Program} {ts:Array TypeId} {t t2 ty e:TypeId} {i:TypeInfo} {d2:TypeDesc}
theorem om {w w':World} {base:Option Addr} {sLen sCap n:Nat} {x:Value} {arr:Array Value} (h0:ts[0]?=some t) (h1:ts[1]?=some t2) (hu:P.underlying t=some (.slice e)) (uK:P.underlying t2=some d2) (hd:∀k,d2≠.int k) (hi:P.info? e=some i)
  (hl:(Builtin.lenOf x).run P w=.ok n w) (hf:(Builtin.firstCells i.size n x).run P w=.ok arr w) (fH:sLen+n<=sCap)
  (bU:(match base with|some a=>storeCells (a.add (sLen*i.size)) arr.toList|none=>pure ()).run P w=.ok () w') :
  (Builtin.append_ ts ty #[.slice base sLen sCap,x]).run P w=.ok (.slice base (sLen+n) sCap) w':=by
 have L9:(d2 matches .int _)=false:=by cases d2<;>first|rfl|exact absurd rfl (hd _)
 have ew:(sizeOf e).run P w=.ok i.size w:=by simp[sizeOf,typeInfo,hi]
 unfold Builtin.append_
 rw[h0,h1,show (#[Value.slice base sLen sCap,x]:Array Value)[0]?=some (.slice base sLen sCap) from rfl,show (#[Value.slice base sLen sCap,x]:Array Value)[1]?=some x from rfl]
 simp only[Sem.run_bind,run_underlying hu,run_underlying uK,ew,Result.andThen_ok,Sem.run_pure]
 simp only[L9,zK,if_false,hl,Result.andThen_ok,fH,if_true,jM,Sem.run_bind,hf]
 cases base with
 |none=>simp at bU;subst bU;simp
 |some ad=>simp only at bU;simp[bU]
theorem oj {w:World} {base:Option Addr} {sLen sCap n:Nat} {x:Value} {old arr:Array Value} {zv:Value} (h0:ts[0]?=some t) (h1:ts[1]?=some t2) (hu:P.underlying t=some (.slice e)) (uK:P.underlying t2=some d2) (hd:∀k,d2≠.int k) (hi:P.info? e=some i) (oe:i.zero=some zv)
  (hl:(Builtin.lenOf x).run P w=.ok n w) (hf:∀w',w'.heap=w.heap->(Builtin.firstCells i.size n x).run P w'=.ok arr w') (ho:∀w',w'.heap=w.heap->(Builtin.firstCells i.size sLen (.slice base sLen sCap)).run P w'=.ok old w')
  (fH:¬sLen+n<=sCap) (hb:0<i.bytes) (yX:(sLen+n)*i.bytes<=140737488355328) :
  ∃cap w',sLen+n<=cap/\(Builtin.append_ ts ty #[.slice base sLen sCap,x]).run P w=.ok (.slice (some ⟨w.heap.size,0,none⟩) (sLen+n) cap) w' /\
   w'.heap=w.heap.push (.cells (old++arr++Builtin.zeroCells zv.cells (cap-(sLen+n))) e)/\w'.os=w.os/\w'.tape=w.tape/\w'.output=w.output:=by
 have L9:(d2 matches .int _)=false:=by cases d2<;>first|rfl|exact absurd rfl (hd _)
 have ew:∀w',(sizeOf e).run P w'=.ok i.size w':=fun w'=>by simp[sizeOf,typeInfo,hi]
 have FY:∀w',(typeInfo e).run P w'=.ok i w':=fun w'=>by simp[typeInfo,hi]
 have Lj:∀w',(zeroValue e).run P w'=.ok zv w':=fun w'=>by simp[zeroValue,typeInfo,hi,oe]
 have hg:=growslice_fits (need:=sLen+n) (old:=sCap) (bytes:=i.bytes) (by omega) yX
 have Lu:¬(Builtin.nextslicecap (sLen+n) sCap*i.bytes>2 ^ 48):=by
  have:(2:Nat) ^ 48=281474976710656:=by decide
  omega
 have T2:¬(((sLen+n:Nat):Int)>IntKind.i64.max/\(false=true\/i.bytes=0)):=by
  rintro ⟨_,h|h⟩
  ·simp at h
  ·omega
 let q:Question:=.appendCap (sLen+n) sCap e
 refine ⟨q.cut (w.tape w.drawn q),{ w with drawn:=w.drawn+1,heap:=w.heap.push (.cells (old++arr++Builtin.zeroCells zv.cells (q.cut (w.tape w.drawn q)-(sLen+n))) e) },?_,?_,rfl,rfl,rfl,rfl⟩
 ·show sLen+n<=sLen+n+_ ;omega
 ·unfold Builtin.append_
  rw[h0,h1,show (#[Value.slice base sLen sCap,x]:Array Value)[0]?=some (.slice base sLen sCap) from rfl,show (#[Value.slice base sLen sCap,x]:Array Value)[1]?=some x from rfl]
  simp only[Sem.run_bind,run_underlying hu,run_underlying uK,ew,Result.andThen_ok,Sem.run_pure]
  simp only[L9,zK,if_false,hl,Result.andThen_ok,fH,jM,if_true,Sem.run_bind,FY]
  have tV:(Question.appendCap (sLen+n) sCap e).forced=false:=rfl
  rw[if_neg (by rintro ⟨_,h|h⟩;exact h.elim;omega)]
  simp only[Sem.run_bind,FY,Result.andThen_ok]
  rw[if_neg Lu]
  simp only[Sem.run_bind,run_choose,tV,zK,if_false,Result.andThen_ok,FY,run_askRoom,ho { w with drawn:=w.drawn+1 } rfl,hf { w with drawn:=w.drawn+1 } rfl,Lj]
  simp[newRow,q]
  rfl
theorem wrap_small {m:Int} (h0:0<=m) (h:m<=140737488355328):IntKind.i64.wrap m=m:=IntWalk.i64_in m ⟨by omega,by omega⟩
theorem jR {z:Array Value} {n size:Nat} (hz:z.size=size) (h:n*size=0):Builtin.zeroCells z n = #[]:=by
 unfold Builtin.zeroCells
 rw[hz,h];simp[qT]
theorem AZ {w w':World} {base:Option Addr} {sLen sCap:Nat} {k:IntKind} {m:Int} {kk:IntKind} {zv:Value} (h0:ts[0]?=some t) (h1:ts[1]?=some t2) (hu:P.underlying t=some (.slice e)) (uK:P.underlying t2=some (.int kk)) (hi:P.info? e=some i) (oe:i.zero=some zv) (oz:zv.cells.size=i.size)
  (yR:0<=m) (hm:m<=140737488355328) (hmb:m*i.bytes<=140737488355328) (fH:sLen+m.toNat<=sCap)
  (bU:(match base with|some a=>storeCells (a.add (sLen*i.size)) (Builtin.zeroCells zv.cells m.toNat).toList|none=>pure ()).run P w=.ok () w') :
  (Builtin.append_ ts ty #[.slice base sLen sCap,.int k m]).run P w=.ok (.slice base (sLen+m.toNat) sCap) w':=by
 have ew:(sizeOf e).run P w=.ok i.size w:=by simp[sizeOf,typeInfo,hi]
 have FY:(typeInfo e).run P w=.ok i w:=by simp[typeInfo,hi]
 have Lj:(zeroValue e).run P w=.ok zv w:=by simp[zeroValue,typeInfo,hi,oe]
 have hw:=wrap_small yR hm
 unfold Builtin.append_
 rw[h0,h1,show (#[Value.slice base sLen sCap,.int k m]:Array Value)[0]?=some (.slice base sLen sCap) from rfl,show (#[Value.slice base sLen sCap,.int k m]:Array Value)[1]?=some (.int k m) from rfl]
 simp only[Sem.run_bind,run_underlying hu,run_underlying uK,ew,Result.andThen_ok,Sem.run_pure]
 simp only[if_true,asInt,asIntOf,Sem.run_bind,Sem.run_pure,Result.andThen_ok,hw,FY]
 rw[if_neg (by omega)]
 simp only[Sem.run_bind,FY,Result.andThen_ok]
 have h48:¬(m*(i.bytes:Int)>2 ^ 48):=by
  have:(2:Int) ^ 48=281474976710656:=by decide
  omega
 rw[if_neg h48]
 simp only[Sem.run_pure,Result.andThen_ok,fH,if_true,jN,zK,if_false]
 have hap:(if m.toNat*i.size=0 then pure #[] else do pure (Builtin.zeroCells (<-zeroValue e).cells m.toNat):Sem (Array Value)).run P w=.ok (Builtin.zeroCells zv.cells m.toNat) w:=by
  split
  ·rename_i h;rw[jR oz h];rfl
  ·simp only[Sem.run_bind,Lj,Result.andThen_ok,Sem.run_pure]
 have cG:=jR (z:=zv.cells) (n:=m.toNat) (size:=i.size) oz
 cases base with
 |none =>
  simp at bU;subst bU
  simp only[Sem.run_bind,Sem.run_ite,Sem.run_pure,Result.andThen_ok,fH,if_true]
  split<;>simp[Lj]
 |some ad =>
  simp only at bU
  simp only[Sem.run_bind,Sem.run_ite,Sem.run_pure,Result.andThen_ok,fH,if_true]
  split
  ·rename_i h
   rw[cG h]at bU
   simp at bU
   simp[bU]
  ·simp[Lj,bU]
theorem AY {w:World} {base:Option Addr} {sLen sCap:Nat} {k:IntKind} {m:Int} {kk:IntKind} {old:Array Value} {zv:Value} (h0:ts[0]?=some t) (h1:ts[1]?=some t2) (hu:P.underlying t=some (.slice e)) (uK:P.underlying t2=some (.int kk)) (hi:P.info? e=some i) (oe:i.zero=some zv) (oz:zv.cells.size=i.size)
  (yR:0<=m) (hm:m<=140737488355328) (hmb:m*i.bytes<=140737488355328) (ho:∀w',w'.heap=w.heap->(Builtin.firstCells i.size sLen (.slice base sLen sCap)).run P w'=.ok old w')
  (fH:¬sLen+m.toNat<=sCap) (hb:0<i.bytes) (yX:(sLen+m.toNat)*i.bytes<=140737488355328) :
  ∃cap w',sLen+m.toNat<=cap/\(Builtin.append_ ts ty #[.slice base sLen sCap,.int k m]).run P w=.ok (.slice (some ⟨w.heap.size,0,none⟩) (sLen+m.toNat) cap) w' /\
   w'.heap=w.heap.push (.cells (old++Builtin.zeroCells zv.cells m.toNat++Builtin.zeroCells zv.cells (cap-(sLen+m.toNat))) e)/\w'.os=w.os/\w'.tape=w.tape/\w'.output=w.output:=by
 have ew:∀w',(sizeOf e).run P w'=.ok i.size w':=fun w'=>by simp[sizeOf,typeInfo,hi]
 have FY:∀w',(typeInfo e).run P w'=.ok i w':=fun w'=>by simp[typeInfo,hi]
 have Lj:∀w',(zeroValue e).run P w'=.ok zv w':=fun w'=>by simp[zeroValue,typeInfo,hi,oe]
 have hw:=wrap_small yR hm
 have hg:=growslice_fits (need:=sLen+m.toNat) (old:=sCap) (bytes:=i.bytes) (by omega) yX
 have Lu:¬(Builtin.nextslicecap (sLen+m.toNat) sCap*i.bytes>2 ^ 48):=by
  have:(2:Nat) ^ 48=281474976710656:=by decide
  omega
 have T2:¬(((sLen+m.toNat:Nat):Int)>IntKind.i64.max/\(True\/i.bytes=0)):=by
  rintro ⟨h,_⟩
  have h2:IntKind.i64.max=9223372036854775807:=by decide
  have h3:sLen+m.toNat<=(sLen+m.toNat)*i.bytes:=Nat.le_mul_of_pos_right _ hb
  omega
 have h48:¬(m*(i.bytes:Int)>2 ^ 48):=by
  have:(2:Int) ^ 48=281474976710656:=by decide
  omega
 let q:Question:=.appendCap (sLen+m.toNat) sCap e
 refine ⟨q.cut (w.tape w.drawn q),{ w with drawn:=w.drawn+1,heap:=w.heap.push (.cells (old++Builtin.zeroCells zv.cells m.toNat++Builtin.zeroCells zv.cells (q.cut (w.tape w.drawn q)-(sLen+m.toNat))) e) },?_,?_,rfl,rfl,rfl,rfl⟩
 ·show sLen+m.toNat<=sLen+m.toNat+_ ;omega
 ·unfold Builtin.append_
  rw[h0,h1,show (#[Value.slice base sLen sCap,.int k m]:Array Value)[0]?=some (.slice base sLen sCap) from rfl,show (#[Value.slice base sLen sCap,.int k m]:Array Value)[1]?=some (.int k m) from rfl]
  simp only[Sem.run_bind,run_underlying hu,run_underlying uK,ew,Result.andThen_ok,Sem.run_pure]
  simp only[if_true,asInt,asIntOf,Sem.run_bind,Sem.run_pure,Result.andThen_ok,hw,FY]
  rw[if_neg (by omega)]
  simp only[Sem.run_bind,FY,Result.andThen_ok]
  rw[if_neg h48]
  simp only[Sem.run_pure,Result.andThen_ok,fH,if_false,jN,zK,Sem.run_bind,FY]
  have tV:(Question.appendCap (sLen+m.toNat) sCap e).forced=false:=rfl
  rw[if_neg T2]
  simp only[Sem.run_bind,FY,Result.andThen_ok]
  rw[if_neg Lu]
  have hap:(if m.toNat*i.size=0 then pure #[] else do pure (Builtin.zeroCells (<-zeroValue e).cells m.toNat):Sem (Array Value)).run P { w with drawn:=w.drawn+1 }=.ok (Builtin.zeroCells zv.cells m.toNat) { w with drawn:=w.drawn+1 }:=by
   split
   ·rename_i h;rw[jR oz h];rfl
   ·simp only[Sem.run_bind,Lj,Result.andThen_ok,Sem.run_pure]
  simp only[Sem.run_bind,run_choose,tV,zK,if_false,Result.andThen_ok,FY,run_askRoom,ho { w with drawn:=w.drawn+1 } rfl,hap,Lj]
  simp[newRow,q]
  rfl
end
theorem cE.append {c:Cx} {x y:List AV} {u w:List Value} (h:cE c x u) (k:cE c y w):cE c (x++y) (u++w):=by
 refine ⟨by simp[h.1,k.1],fun q av z h1 h2 => ?_⟩
 by_cases hq:q<x.length
 ·rw[zR hq]at h1
  rw[zR (by rw[<-h.1];exact hq)]at h2
  exact h.2 q av z h1 h2
 ·rw[za (by omega)]at h1
  rw[za (by rw[<-h.1];omega),<-h.1]at h2
  exact k.2 _ av z h1 h2
theorem Ef {α:Type} {sz:Nat} {x y:List (List α)} (hx:∀(i:Nat) (l:List α),x[i]?=some l->l.length=sz) (hy:∀(i:Nat) (l:List α),y[i]?=some l->l.length=sz) :
  ∀(i:Nat) (l:List α),(x++y)[i]?=some l->l.length=sz:=by
 intro i l h
 by_cases hi:i<x.length
 ·rw[zR hi]at h;exact hx i l h
 ·rw[za (by omega)]at h;exact hy _ l h
theorem size_zeroCells {z:Array Value} {n sz:Nat} (hz:z.size=sz):(Builtin.zeroCells z n).size=n*sz:=by simp[Builtin.zeroCells,hz]
theorem Hy {P:Program} {o:Oper} {a:Act} {c:Cx} {nx:Nat} (hh:bg c nx) {sz need cap:Nat} {es:bN} {old arr zs:Array Value} {e:TypeId} {w':World}
  (hn:es.length=need) (dq:need<=cap) (aX:∀(i:Nat) (l:List AV),es[i]?=some l->l.length=sz) (bP:cE c es.flatten (old++arr).toList) (oz:zs.size=(cap-need)*sz)
  (bR:iX P o a c.w (.slice (some ⟨c.w.heap.size,0,none⟩) need cap) w') (cF:w'.heap=c.w.heap.push (.cells (old++arr++zs) e)) (AN:w'.os=c.w.os) (gK:w'.tape=c.w.tape) (gF:w'.output=c.w.output) :
  dw P o a c (.sl nx sz 0 need none) (ab c.hp nx (some es)) (nx+1):=by
 have pj:(old++arr).size=need*sz:=by
  have:=bP.1
  rw[eK es aX,hn]at this
  simpa using this.symm
 have aet:(old++arr++zs).size=cap*sz:=by
  have h1:(old++arr++zs).size=(old++arr).size+zs.size:=Array.size_append
  rw[h1,pj,oz,<-ze]
  congr 1;omega
 refine dw.push hh bR cF AN gK gF (by intro q _;simp) (sz:=sz) ?_ ?_
 ·intro k y hy
  obtain ⟨h5,h6⟩:=nE aX bP k y hy
  refine ⟨h5,fun j av hj => ?_⟩
  obtain ⟨u,h7,h8⟩:=h6 j av hj
  refine ⟨u,?_,h8⟩
  rw[getElem?_arr]at h7
  have az:=(zE.1 h7).1
  rw[qV az];exact h7
 ·intro c' Gb
  have hq:0+(0+cap)*sz=(old++arr++zs).size:=by rw[aet];simp
  exact .sl Gb rfl (fun _=>by simp) dq (fun m hm=>by simp at hm) (fun _=>Nat.le_of_eq hq) (fun _=>hq) (wT _)
theorem afC (c:Cx):(⟨c.F,c.ι,c.hp,c.w⟩:Cx)=c:=rfl
theorem uZ {P:Program} {o:Oper} {a:Act} {c:Cx} {nx:Nat} (hh:bg c nx) {ts:Array TypeId} {ty e:TypeId} {sz bytes n:Nat} {s:AV} {su x:Value} {new:bN} {arr zc:Array Value} {v:AV} {hp':Heap} {nx':Nat}
  (mL:∀u w',(Builtin.append_ ts ty #[su,x]).run P c.w=.ok u w'->iX P o a c.w u w') (hs:aC c s su) (hn:new.length=n) (aev:0<sz) (hz:zc.size=sz)
  (aX:∀(i:Nat) (l:List AV),new[i]?=some l->l.length=sz) (bP:cE c new.flatten arr.toList) (cV:new.all (fun l=>l.all AV.one)=true)
  (Fh:∀(base:Option Addr) (sLen sCap:Nat) (w':World),sLen+n<=sCap->(match base with|some ad=>storeCells (ad.add (sLen*sz)) arr.toList|none=>pure ()).run P c.w=.ok () w'->(Builtin.append_ ts ty #[.slice base sLen sCap,x]).run P c.w=.ok (.slice base (sLen+n) sCap) w')
  (E8:∀(base:Option Addr) (sLen sCap:Nat) (old:Array Value),(∀w',w'.heap=c.w.heap->(Builtin.firstCells sz sLen (.slice base sLen sCap)).run P w'=.ok old w')->¬sLen+n<=sCap->(sLen+n)*bytes<=140737488355328 ->
   ∃cap w',sLen+n<=cap/\(Builtin.append_ ts ty #[.slice base sLen sCap,x]).run P c.w=.ok (.slice (some ⟨c.w.heap.size,0,none⟩) (sLen+n) cap) w' /\
   w'.heap=c.w.heap.push (.cells (old++arr++Builtin.zeroCells zc (cap-(sLen+n))) e)/\w'.os=c.w.os/\w'.tape=c.w.tape/\w'.output=c.w.output)
  (hA:cI sz bytes s new c.hp nx=some (v,hp',nx')):dw P o a c v hp' nx':=by
 subst hn
 have E5:arr.size=new.length*sz:=by
  have:=bP.1
  rw[eK new aX]at this
  simpa using this.symm
 have fresh:∀(xj:bN) (base:Option Addr) (sLen sCap:Nat),su=.slice base sLen sCap->xj.length=sLen->(∀(i:Nat) (l:List AV),xj[i]?=some l->l.length=sz) ->
   (∃old:Array Value,cE c xj.flatten old.toList/\∀w',w'.heap=c.w.heap->(Builtin.firstCells sz sLen (.slice base sLen sCap)).run P w'=.ok old w')->¬sLen+new.length<=sCap->(sLen+new.length)*bytes<=140737488355328 ->
   dw P o a c (.sl nx sz 0 (sLen+new.length) none) (ab c.hp nx (some (xj++new))) (nx+1):=by
  rintro xj base sLen sCap rfl Ls NG ⟨old,T1,ho2⟩ fH yX
  obtain ⟨cap,w',g1,g2,g3,g4,g5,g6⟩:=E8 base sLen sCap old ho2 fH yX
  refine Hy hh (by simp[Ls]) g1 (Ef NG aX) ?_ (size_zeroCells hz) (mL _ _ g2) g3 g4 g5 g6
  rw[qC,jE]
  exact T1.append bP
 unfold cI at hA
 split at hA
 ·
  rename_i nl z es cap
  split at hA
  ·rename_i ew
   split at hA
   ·rename_i h0
    simp only[zOi,zPi]at hA
    obtain ⟨rfl,rfl,rfl⟩:=hA
    have yQ:new.length=0:=by omega
    have vK:arr.toList=[]:=by
     have:arr.size=0:=by rw[E5,yQ];simp
     simpa using this
    have ll:∀base sLen sCap,su=.slice base sLen sCap->sLen<=sCap->dw P o a c (.rs nl z es cap) c.hp nx:=by
     rintro base sLen sCap rfl hle
     have:=Fh base sLen sCap c.w (by omega) (by rw[vK];cases base<;>rfl)
     simp only[yQ,wH]at this
     exact ⟨_,c.w,c.ι,mL _ _ this,Ext.refl c,hh,hs⟩
    cases hs with
    |nil hc=>exact ll none 0 0 rfl (zD _)
    |rs g hlen hle dq cW bZ fj me=>exact ll _ _ _ rfl hle
   ·rename_i h0
    split at hA
    ·rename_i cp
     split at hA
     ·rename_i hc
      simp only[zOi,zPi]at hA
      obtain ⟨rfl,rfl,rfl⟩:=hA
      obtain ⟨az,IW⟩:=hc
      have sW:aR c.hp sz (.rs nl z es (some cp))=some es:=by simp[aR,ew]
      obtain ⟨e1,e2,e3⟩:=jw (P:=P) hh hs sW
      have uN:∀base sLen sCap,su=.slice base sLen sCap->es.length=sLen->∃old:Array Value,cE c es.flatten old.toList/\∀w',w'.heap=c.w.heap->(Builtin.firstCells sz sLen (.slice base sLen sCap)).run P w'=.ok old w':=by
       rintro base sLen sCap rfl hl
       obtain ⟨ys,h1,h2⟩:=e3 es.length (zD _)
       rw[zW]at h2
       exact ⟨ys.toArray,by simpa using h2,fun w' Yy=>by rw[<-h1 w' Yy,hl]⟩
      cases hs with
      |nil hc =>
       have:=fresh [] none 0 0 rfl rfl (by simp) (uN none 0 0 rfl rfl) (by omega) (by simpa using IW)
       simpa using this
      |rs g hlen hle dq cW bZ fj me =>
       rename_i m len ad
       have h9:=dq cp rfl
       have:=fresh es (some ad) len m rfl hlen e2 (uN _ _ _ rfl hlen) (by omega) (by rw[<-hlen];exact IW)
       rw[hlen];exact this
     ·simp at hA
    ·simp at hA
  ·simp at hA
 ·
  rename_i r z i len cap
  split at hA
  ·rename_i CM
   subst CM
   split at hA
   ·simp at hA
   ·rename_i es cW
    split at hA
    ·simp at hA
    ·rename_i ng
     have ng:i+len<=es.length:=by omega
     have sW:aR c.hp z (.sl r z i len cap)=some ((es.drop i).take len):=by simp[aR,cW,ng]
     obtain ⟨e1,e2,e3⟩:=jw (P:=P) hh hs sW
     have Q4:((es.drop i).take len).length=len:=by simp;omega
     have jt:=hs
     cases hs with
     |sl hι EL ha hl dq hN hE eP =>
      rename_i m p ad
      obtain ⟨hF,cs,ee,fz,h3,h4,h5,h6⟩:=hh.cells cW hι eP
      have uN:∃old:Array Value,cE c ((es.drop i).take len).flatten old.toList/\∀w',w'.heap=c.w.heap->(Builtin.firstCells z len (.slice (some ad) len m)).run P w'=.ok old w':=by
       obtain ⟨ys,h1,h2⟩:=e3 ((es.drop i).take len).length (zD _)
       rw[zW]at h2
       exact ⟨ys.toArray,by simpa using h2,fun w' Yy=>by rw[<-h1 w' Yy,Q4]⟩
      have uM:=fresh ((es.drop i).take len) (some ad) len m rfl Q4 e2 uN
      have aaN:cap=none->es.length<=i+m:=by
       intro hc0
       have hE0:=hE hc0
       rcases qG es.length with h0|h0
       ·omega
       ·have ET:es.length-1<es.length:=by omega
        obtain ⟨h7,h8⟩:=h6 (es.length-1) _ (zA ET)
        have hj:z-1<(es[es.length-1]).length:=by rw[h7,EL];omega
        obtain ⟨u,h9,_⟩:=h8 (z-1) _ (zA hj)
        have iC:=(zE.1 h9).1
        rw[h4,<-hE0,EL]at iC
        have vM:(es.length-1)*z+z=es.length*z:=by rw[<-qz];congr 1;omega
        have xf:es.length*z<=(i+m)*z:=by omega
        exact Nat.le_of_mul_le_mul_right xf aev
      have IJ:len+new.length<=m->∃w' cs',(Builtin.append_ ts ty #[.slice (some ad) len m,x]).run P c.w=.ok (.slice (some ad) (len+new.length) m) w'/\w'.heap=c.w.heap.setIfInBounds p.B (.cells cs' ee fz)/\cs'.toList=aa cs.toList (p.O+(i+len)*z) arr.toList/\(new.length≠0->p.O+(i+len)*z+new.length*z<=cs.size)/\w'.os=c.w.os/\w'.tape=c.w.tape/\w'.output=c.w.output:=by
       intro fH
       by_cases yQ:new.length=0
       ·have vK:arr.toList=[]:=by
         have:arr.size=0:=by rw[E5,yQ];simp
         simpa using this
        refine ⟨c.w,cs,Fh _ _ _ _ fH (by rw[vK];rfl),(gT _ _ _ h3).symm,by rw[vK,hY],fun h=>absurd yQ h,rfl,rfl,rfl⟩
       ·have yR:m≠0:=by omega
        have N8:=ha yR
        have YL:=hN yR
        have hle:p.O+(i+len)*z+new.length*z<=cs.size:=by
         rw[h4]
         have:(i+len)*z+new.length*z<=(i+m)*z:=by
          rw[<-ze]
          exact zX _ (by omega)
         omega
        obtain ⟨w',cs',s1,s2,s3,s4,s5,s6⟩:=fZ (P:=P) (B:=p.B) (o:=p.O+(i+len)*z) arr.toList 0 c.w cs h3 (by simp[E5];omega) (by intro k hk;rw[h4]at hk;exact h5 k hk) (rE bP (by
         rw[zQ]at cV ⊢
         intro y hy
         obtain ⟨l,uL,Az⟩:=qe.1 hy
         exact zQ.1 (cV l uL) y Az))
        refine ⟨w',cs',Fh _ _ _ _ fH ?_,s2,by rw[s3];simp,fun _=>hle,s4,s5,s6⟩
        subst N8
        simp only[gO]
        rw[show p.O+i*z+len*z=p.O+(i+len)*z by rw[ze];omega]
        exact s1
      have CX:∀(w':World) (cs':Array Value),cs'.toList=aa cs.toList (p.O+(i+len)*z) arr.toList->(new.length≠0->p.O+(i+len)*z+new.length*z<=cs.size) ->
        (∀q,cs'[q]?=if p.O+(i+len)*z<=q/\q<p.O+(i+len)*z+new.length*z then arr[q-(p.O+(i+len)*z)]? else cs[q]?):=by
       intro w' cs' AT hle q
       by_cases yQ:new.length=0
       ·have vK:arr.toList=[]:=by
         have:arr.size=0:=by rw[E5,yQ];simp
         simpa using this
        rw[vK,hY]at AT
        rw[<-getElem?_arr,AT,getElem?_arr,if_neg (by rw[yQ];omega)]
       ·rw[<-getElem?_arr,AT,getElem?_spliceL _ _ _ (by simp[E5];exact hle yQ)]
        simp only[qL,E5,getElem?_arr]
      have IM:=nE aX bP
      have pj:∀(cs':Array Value),cs'.toList=aa cs.toList (p.O+(i+len)*z) arr.toList->(new.length≠0->p.O+(i+len)*z+new.length*z<=cs.size)->cs'.size=cs.size:=by
       intro cs' AT hle
       by_cases yQ:new.length=0
       ·have vK:arr.toList=[]:=by
         have:arr.size=0:=by rw[E5,yQ];simp
         simpa using this
        rw[vK,hY]at AT
        have:=congrArg List.length AT;simpa using this
       ·have:=congrArg List.length AT
        rw[dZ _ _ _ (by simp[E5];exact hle yQ)]at this
        simpa using this
      have inside:len+new.length<=m->i+len+new.length<=es.length->dw P o a c (.sl r z i (len+new.length) cap) (ab c.hp r (some (aa es (i+len) new))) nx:=by
       intro fH hle
       obtain ⟨w',cs',g1,g2,g3,g4,g5,g6,g7⟩:=IJ fH
       have bH:=CX w' cs' g3 g4
       obtain ⟨k1,k2⟩:=kU hh cW hι h3 g2 (pj cs' g3 g4) g5 g6 g7 (es':=aa es (i+len) new) (by
        intro k y hk
        rw[getElem?_spliceL _ _ _ (by omega)]at hk
        split at hk
        ·rename_i hkr
         obtain ⟨h7,h8⟩:=IM _ y hk
         refine ⟨h7.trans EL.symm,fun j av hj => ?_⟩
         obtain ⟨u,h9,iC⟩:=h8 j av hj
         refine ⟨u,?_,iC⟩
         have tU:=(zB.1 hj).1
         rw[EL,bH]
         have hq:p.O+k*z+j=p.O+(i+len)*z+((k-(i+len))*z+j):=by
          have:k*z=(i+len)*z+(k-(i+len))*z:=by rw[<-ze];congr 1;omega
          omega
         have fN:(k-(i+len))*z+j<new.length*z:=by
          have:=zX z (show (k-(i+len))+1<=new.length by omega)
          rw[ze]at this;omega
         rw[if_pos (by omega),hq,wa]
         rw[<-getElem?_arr];exact h9
        ·rename_i hkr
         obtain ⟨h7,h8⟩:=h6 k y hk
         refine ⟨h7,fun j av hj => ?_⟩
         have tU:=(zB.1 hj).1
         rw[bH,if_neg]
         ·exact h8 j av hj
         ·rintro ⟨q1,q2⟩
          rw[EL]at q1 q2 h7
          rcases zj k (i+len) with az|NX
          ·have:=zX z (qU az)
           rw[qz]at this;omega
          ·have nf:i+len+new.length<=k:=by omega
           have:=zX z nf
           rw[ze]at this;omega)
       exact ⟨_,w',c.ι,mL _ _ g1,k2,k1,.sl hι EL ha (by omega) dq hN hE eP⟩
      split at hA
      ·
       rename_i cp
       have vI:=dq cp rfl
       split at hA
       ·split at hA
        ·simp only[zOi,zPi]at hA
         obtain ⟨rfl,rfl,rfl⟩:=hA
         exact inside (by omega) (by omega)
        ·simp at hA
       ·split at hA
        ·simp only[zOi,zPi]at hA
         obtain ⟨rfl,rfl,rfl⟩:=hA
         exact uM (by omega) (by assumption)
        ·simp at hA
      ·split at hA
       ·rename_i hle
        simp only[zOi,zPi]at hA
        obtain ⟨rfl,rfl,rfl⟩:=hA
        have aex:=aaN rfl
        exact inside (by omega) (by omega)
       ·rename_i hle
        split at hA
        ·rename_i IW
         simp only[zOi,zPi]at hA
         obtain ⟨rfl,rfl,rfl⟩:=hA
         by_cases fH:len+new.length<=m
         ·obtain ⟨w',cs',g1,g2,g3,g4,g5,g6,g7⟩:=IJ fH
          have bH:=CX w' cs' g3 g4
          have yR:m≠0:=by omega
          obtain ⟨k1,k2⟩:=M2 hh cW hι h3 g2 (pj cs' g3 g4) (p':=⟨p.B,p.O+i*z,z,p.N,[]⟩) rfl rfl (by have vM:=hN yR;rw[ze]at vM;show p.O+i*z<=p.N;omega) g5 g6 g7 (es':=(es.drop i).take len++new) (by
           intro k y hk
           by_cases lP:k<len
           ·rw[zR (by omega),wB,if_pos lP,wE]at hk
            obtain ⟨h7,h8⟩:=h6 _ y hk
            refine ⟨h7.trans EL,fun j av hj => ?_⟩
            have tU:=(zB.1 hj).1
            obtain ⟨u,h9,iC⟩:=h8 j av hj
            refine ⟨u,?_,iC⟩
            rw[EL]at h9 h7
            have lH:p.O+i*z+k*z+j=p.O+(i+k)*z+j:=by rw[ze];omega
            have az:(i+k+1)*z<=(i+len)*z:=zX _ (by omega)
            rw[ze (i+k) 1]at az
            rw[lH,bH,if_neg (by omega)];exact h9
           ·rw[za (by omega),Q4]at hk
            obtain ⟨h7,h8⟩:=IM _ y hk
            refine ⟨h7,fun j av hj => ?_⟩
            have tU:=(zB.1 hj).1
            have hkn:=(zB.1 hk).1
            obtain ⟨u,h9,iC⟩:=h8 j av hj
            refine ⟨u,?_,iC⟩
            have hq:p.O+i*z+k*z+j=p.O+(i+len)*z+((k-len)*z+j):=by
             have vM:k*z=len*z+(k-len)*z:=by rw[<-ze];congr 1;omega
             rw[ze];omega
            have fN:(k-len)*z+j<new.length*z:=by
             have:=zX z (show (k-len)+1<=new.length by omega)
             rw[ze]at this;omega
            rw[hq,bH,if_pos (by omega),wa,<-getElem?_arr];exact h9)
          refine ⟨_,w',_,mL _ _ g1,k2,k1,.sl (p:=⟨p.B,p.O+i*z,z,p.N,[]⟩) (by simp[cn]) rfl (fun h=>by rw[ha yR];simp) fH (fun m hm=>by simp at hm) (fun _ => ?_) (fun _ => ?_) (by have vM:=hN yR;rw[ze]at vM;show p.O+i*z<=p.N;omega)⟩
          ·have:=hN yR
           show p.O+i*z+(0+m)*z<=p.N
           rw[ze]at this;simp;omega
          ·have:=hE rfl
           show p.O+i*z+(0+m)*z=p.N
           rw[ze]at this;simp;omega
         ·obtain ⟨u,w',ι',q1,q2,q3,q4⟩:=uM fH IW
          have IN:r≠nx:=fun h=>by have:=hh.lt r p hι;omega
          obtain ⟨k1,k2⟩:=Ce q3 (hp':=ab (ab c.hp r none) nx (some ((es.drop i).take len++new))) (by
           intro q
           by_cases hq:q=nx
           ·left;simp[ab,hq]
           ·by_cases FZ:q=r
            ·right;subst FZ;simp[ab,hq]
            ·left;simp[ab,hq,FZ])
          exact ⟨u,w',ι',q1,q2.trans k2,k1,q4.mono k2⟩
        ·simp at hA
  ·simp at hA
 ·simp at hA
theorem HR (l:List UInt8):∀(i:Nat) (x:List AV),(bytesOf l)[i]?=some x->x.length=1:=by
 intro i x h
 simp only[bytesOf,zM,zC]at h
 obtain ⟨b,_,rfl⟩:=h;rfl
theorem HS (l:List UInt8):(bytesOf l).flatten=l.map (fun b=>AV.v (.int .u8 b.toNat)):=by
 simp only[bytesOf]
 induction l with
 |nil=>rfl
 |cons a r ih=>simp[ih]
theorem ME {P:Program} {a:Act} {c:Cx} {nx:Nat} (hh:bg c nx) {src Da e:TypeId} {x:Operand} {l:List UInt8} (hs:P.underlying src=some .string) (hd:P.underlying Da=some (.slice e)) (RY:P.underlying e=some (.int .u8))
  (hx:a.eval x=.string ⟨l.toArray⟩) {dst:Option Tmp} {type:TypeId} {pos:String} {after:Array Edge} {guard:Option (Nat×Bool)} :
  dw P ⟨dst,.convert src Da x,type,pos,after,guard⟩ a c (.sl nx 1 0 l.length none) (ab c.hp nx (some (bytesOf l))) (nx+1):=by
 let q:Question:=.appendCap l.length 0 e
 let cap:=q.cut (c.w.tape c.w.drawn q)
 have dq:l.length<=cap:=by show l.length<=l.length+_;omega
 let cs:Array Value:=(l.map (fun b=>Value.int .u8 b.toNat)).toArray++Array.replicate (cap-l.length) (.int .u8 0)
 have AT:cs.size=cap:=by simp[cs];omega
 let w1:World:={ c.w with drawn:=c.w.drawn+1,heap:=c.w.heap.push (.cells cs e) }
 have ew:(⟨l.toArray⟩:ByteArray).size=l.length:=by simp[ByteArray.size]
 have Sm:(w1.freeze ⟨c.w.heap.size,cap,none⟩ 1).heap=c.w.heap.push (.cells cs e (cap,cap+1)):=by
  apply qk
  intro j
  simp only[World.freeze,Nat.one_ne_zero,if_false,wY,w1]
  rw[wW,wW]
  by_cases hj:j=c.w.heap.size
  ·subst hj;simp
  ·simp only[hj,if_false]
   rw[if_neg (fun h=>hj h.symm)]
 refine dw.push hh (u:=.slice (some ⟨c.w.heap.size,0,none⟩) l.length cap) (w':=w1.freeze ⟨c.w.heap.size,cap,none⟩ 1) (cs:=cs) (e:=e) (fz:=(cap,cap+1)) (sz:=1) (.inl ?_) Sm rfl rfl rfl (by intro o h;rw[AT]at h;simp only[];omega) ?_ ?_
 ·have tV:(Question.appendCap l.length 0 e).forced=false:=rfl
  have NO:(⟨l.toArray⟩:ByteArray).data.map (fun b=>Value.int .u8 b.toNat)=(l.map (fun b=>Value.int .u8 b.toNat)).toArray:=by simp
  simp only[execOp,hx,convert,Sem.run_bind,run_underlying hs,run_underlying hd,run_underlying RY,Result.andThen_ok,Conv.stringToBytes,ew,run_choose,tV,zK,if_false,NO,newRow,run_newObj,Sem.run_pure,markStringish,run_shape]
  have Wk:w1.shape? c.w.heap.size=some (e,cap):=by simp[World.shape?,w1,AT]
  have pC:World.shape? { heap:=c.w.heap.push (.cells ((l.map (fun b=>Value.int .u8 b.toNat)).toArray++Array.replicate (q.cut (c.w.tape c.w.drawn q)-l.length) (.int .u8 0)) e),tape:=c.w.tape,drawn:=c.w.drawn+1,os:=c.w.os,output:=c.w.output } c.w.heap.size=some (e,cap):=Wk
  simp only[q]at pC
  rw[pC]
  simp[q,w1,cs,cap]
 ·intro k y hy
  have bP:cE c (bytesOf l).flatten (l.map (fun b=>Value.int .u8 b.toNat)):=by
   rw[HS]
   refine ⟨by simp,fun k av u h1 h2 => ?_⟩
   simp only[zM,zC]at h1 h2
   obtain ⟨b,hb,rfl⟩:=h1
   obtain ⟨b',CZ,rfl⟩:=h2
   rw[hb]at CZ;simp only[zOi]at CZ;subst CZ
   exact .v _
  obtain ⟨h5,h6⟩:=nE (HR l) bP k y hy
  refine ⟨h5,fun j av hj => ?_⟩
  obtain ⟨u,h7,h8⟩:=h6 j av hj
  refine ⟨u,?_,h8⟩
  have az:=(zB.1 h7).1
  simp only[cs]
  rw[qV (by simpa using az)]
  simpa using h7
 ·intro c' Gb
  have hq:0+(0+cap)*1=cs.size:=by rw[AT];simp
  exact .sl Gb rfl (fun _=>by simp) dq (fun m hm=>by simp at hm) (fun _=>Nat.le_of_eq hq) (fun _=>hq) (wT _)
theorem CC {P:Program} {a:Act} {c:Cx} {nx:Nat} (hh:bg c nx) {t e:TypeId} {i:TypeInfo} {zv:Value} {x y:Operand} {k1 k2:IntKind} {n m:Int}
  (hu:P.underlying t=some (.slice e)) (hi:P.info? e=some i) (oe:i.zero=some zv) (oz:zv.cells.size=i.size) (EI:0<i.size)
  (hx:a.eval x=.int k1 n) (hy:a.eval y=.int k2 m) (h0:0<=n) (WC:n<=m) (hb:m*i.bytes<=140737488355328) (hm:m<=140737488355328)
  {dst:Option Tmp} {type:TypeId} {pos:String} {after:Array Edge} {guard:Option (Nat×Bool)} :
  dw P ⟨dst,.makeSlice t x y,type,pos,after,guard⟩ a c (.sl nx i.size 0 n.toNat (some m.toNat)) (ab c.hp nx (some (List.replicate m.toNat (zv.cells.toList.map js)))) (nx+1):=by
 have Yw:=wrap_small h0 (by omega:n<=140737488355328)
 have hwm:=wrap_small (by omega:0<=m) hm
 let cs:=(Array.range (m.toNat*i.size)).map (zv.cells[· % zv.cells.size]!)
 have bP:=nr c (len:=m.toNat) oz EI
 have AT:cs.size=m.toNat*i.size:=by simp[cs]
 have aX:∀(q:Nat) (l:List AV),(List.replicate m.toNat (zv.cells.toList.map js))[q]?=some l->l.length=i.size:=by
  intro q l h
  simp only[wP]at h
  split at h
  ·simp only[zOi]at h;subst h;simpa using oz
  ·simp at h
 refine dw.push hh (u:=.slice (some ⟨c.w.heap.size,0,none⟩) n.toNat m.toNat) (w':={ c.w with heap:=c.w.heap.push (.cells cs e) }) (cs:=cs) (e:=e) (fz:=(0,0)) (sz:=i.size) (.inl ?_) rfl rfl rfl rfl (by intro o h;simp) ?_ ?_
 ·have FY:∀w',(typeInfo e).run P w'=.ok i w':=fun w'=>by simp[typeInfo,hi]
  have ew:∀w',(sizeOf e).run P w'=.ok i.size w':=fun w'=>by simp[sizeOf,typeInfo,hi]
  have Lj:∀w',(zeroValue e).run P w'=.ok zv w':=fun w'=>by simp[zeroValue,typeInfo,hi,oe]
  have h48:(2:Int) ^ 48=281474976710656:=by decide
  have abq:(i.bytes:Int)*m=m*i.bytes:=Int.mul_comm _ _
  have TP:(decide (m<0)||decide ((i.bytes:Int)*m>2 ^ 48))=false:=by
   simp only[qI,decide_eq_false_iff_not]
   rw[abq,h48];omega
  simp only[execOp,Instr.makeSlice,Sem.run_bind,run_underlying hu,hx,hy,asInt,asIntOf,Sem.run_pure,Result.andThen_ok,FY,Yw,hwm,TP]
  rw[if_neg (by simp;omega)]
  have V5:(if m.toNat*i.size=0 then pure #[] else do pure (<-zeroValue e).cells:Sem (Array Value)).run P c.w=.ok (if m.toNat*i.size=0 then #[] else zv.cells) c.w:=by
   split
   ·rfl
   ·simp only[Sem.run_bind,Lj,Result.andThen_ok,Sem.run_pure]
  simp only[Sem.run_bind,run_askRoom,Result.andThen_ok,ew]
  by_cases h00:m.toNat*i.size=0
  ·have afc:cs = #[]:=by simp only[cs,h00];simp[qT]
   simp[h00,newRow,afc,qT]
  ·simp only[h00,if_false,Sem.run_bind,Lj,Result.andThen_ok,Sem.run_pure,newRow,run_newObj]
   rfl
 ·intro k l hl
  obtain ⟨h5,h6⟩:=nE aX bP k l hl
  exact ⟨h5,fun j av hj=>let ⟨u,h7,h8⟩:=h6 j av hj;⟨u,by rw[<-getElem?_arr];exact h7,h8⟩⟩
 ·intro c' Gb
  exact .sl Gb rfl (fun _=>by simp) (by omega) (fun q hq=>by simp only[zOi]at hq;exact hq.symm) (fun _=>by simp[AT]) (fun h=>by simp at h) (wT _)
theorem LS {P:Program} {a:Act} {c:Cx} {nx:Nat} (hh:bg c nx) {ts:Array TypeId} {t e:TypeId} {inf:TypeInfo} {args:Array Operand} {d s:Operand} {tm:Nat->AV} (ht:fJ c tm a) {src:bN} {r i len:Nat} {cap:Option Nat} {es:bN}
  (h0:ts[0]?=some t) (hu:P.underlying t=some (.slice e)) (hi:P.info? e=some inf) (bz:args.toList=[d,s])
  (Wi:aR c.hp inf.size (ev tm (cO s))=some src) (hd:ev tm (cO d)=.sl r inf.size i len cap) (cW:c.hp r=some es) (ng:i+len<=es.length) (cV:(src.take len).all (fun l=>l.all AV.one)=true)
  {dst:Option Tmp} {type:TypeId} {pos:String} {after:Array Edge} {guard:Option (Nat×Bool)} :
  dw P ⟨dst,.call ⟨.builtin .copy,args,ts⟩,type,pos,after,guard⟩ a c (.int .i64 (Nat.min src.length len)) (ab c.hp r (some (aa es i (src.take len)))) nx:=by
 have hm:=mE (f:=a.eval) bz
 have h1:=aE ht d
 have h2:=aE ht s
 rw[hd]at h1
 generalize hud:a.eval d=ud at h1 hm
 generalize Wf:a.eval s=us at h2 hm
 obtain ⟨e1,e2,e3⟩:=jw (P:=P) hh h2 Wi
 cases h1 with
 |sl hι EL ha hl dq hN hE eP =>
  rename_i m p ad
  obtain ⟨hF,cs,ee,fz,g3,g4,g5,g6⟩:=hh.cells cW hι eP
  have EP:Nat.min src.length len<=src.length:=Nat.min_le_left _ _
  have af6:Nat.min src.length len<=len:=Nat.min_le_right _ _
  obtain ⟨ys,y1,y2⟩:=e3 (Nat.min src.length len) EP
  have y1:=y1 c.w rfl
  have vF:src.take (Nat.min src.length len)=src.take len:=by
   rw[List.take_eq_take_iff]
   show min (min src.length len) src.length=min len src.length
   omega
  rw[vF]at y2
  have Hc:∀(k:Nat) (l:List AV),(src.take len)[k]?=some l->l.length=inf.size:=by
   intro k l hk
   rw[wB]at hk
   split at hk
   ·exact e2 k l hk
   ·simp at hk
  have vC:ys.length=Nat.min src.length len*inf.size:=by
   have:=y2.1
   rw[eK _ Hc]at this
   rw[<-this]
   congr 1
   simp only[wD]
   show min len src.length=min src.length len
   omega
  have mL:∀w',(match some ad with|some ad=>storeCells ad ys|none=>pure ():Sem Unit).run P c.w=.ok () w'->iX P ⟨dst,.call ⟨.builtin .copy,args,ts⟩,type,pos,after,guard⟩ a c.w (.int .i64 (Nat.min src.length len)) w':=by
   intro w' Yy
   refine .inl (cH ?_)
   rw[hm]
   have ew:(sizeOf e).run P c.w=.ok inf.size c.w:=by simp[sizeOf,typeInfo,hi]
   have bR:(Builtin.copy_ ts type #[.slice (some ad) len m,us]).run P c.w=.ok (goInt (Nat.min src.length len)) w':=by
    unfold Builtin.copy_
    rw[h0,show (#[Value.slice (some ad) len m,us]:Array Value)[0]?=some (.slice (some ad) len m) from rfl,show (#[Value.slice (some ad) len m,us]:Array Value)[1]?=some us from rfl]
    simp only[Sem.run_bind,run_underlying hu,e1,Result.andThen_ok,ew,y1,Sem.run_pure]
    simp only at Yy
    simp[Yy]
   simp only[builtin,Sem.run_bind,bR,Result.andThen_ok,Sem.run_pure,goInt]
  have NL:∀v∈ys,v.oneCell'=true:=rE y2 (by
   rw[zQ]at cV ⊢
   intro y hy
   obtain ⟨l,uL,Az⟩:=qe.1 hy
   exact zQ.1 (cV l uL) y Az)
  by_cases hz:ys=[]
  ·
   have ll:aa es i (src.take len)=es\/inf.size=0:=by
    rw[hz]at vC
    rcases Nat.mul_eq_zero.1 vC.symm with h|h
    ·left
     have:src.take len=[]:=by
      rw[<-vF]
      have h':Nat.min src.length len=0:=h
      rw[h'];rfl
     rw[this,hY]
    ·right;exact h
   rcases ll with ll|h0s
   ·refine ⟨_,c.w,c.ι,mL c.w (by rw[hz];rfl),?_,?_,.v _⟩
    ·rw[ll]
     have:ab c.hp r (some es)=c.hp:=by
      funext q;unfold ab;split
      ·rename_i h;rw[h,cW]
      ·rfl
     rw[this];exact Ext.refl c
    ·rw[ll]
     have:ab c.hp r (some es)=c.hp:=by
      funext q;unfold ab;split
      ·rename_i h;rw[h,cW]
      ·rfl
     rw[this];exact hh
   ·
    obtain ⟨k1,k2⟩:=kU hh cW hι g3 (w':=c.w) (cs':=cs) (gT _ _ _ g3).symm rfl rfl rfl rfl (es':=aa es i (src.take len)) (by
     intro k l hk
     have az:i+(src.take len).length<=es.length:=by simp;omega
     rw[getElem?_spliceL _ _ _ az]at hk
     split at hk
     ·have h9:=Hc _ l hk
      refine ⟨by rw[h9,EL],fun j av hj => ?_⟩
      have:=(zB.1 hj).1
      omega
     ·exact g6 k l hk)
    exact ⟨_,c.w,c.ι,mL c.w (by rw[hz];rfl),k2,k1,.v _⟩
  ·have EI:0<inf.size/\0<Nat.min src.length len:=by
    have:0<ys.length:=zt.2 hz
    rw[vC]at this
    exact ⟨Nat.pos_of_mul_pos_left this,Nat.pos_of_mul_pos_right this⟩
   have yR:m≠0:=by omega
   have N8:=ha yR
   have hle:p.O+i*inf.size+ys.length<=cs.size:=by
    rw[g4,vC]
    have:=hN yR
    have h9:i*inf.size+Nat.min src.length len*inf.size<=(i+m)*inf.size:=by
     rw[<-ze];exact zX _ (by omega)
    omega
   obtain ⟨w',cs',s1,s2,s3,s4,s5,s6⟩:=fZ (P:=P) (B:=p.B) (o:=p.O+i*inf.size) ys 0 c.w cs g3 (by omega) (by intro k hk;rw[g4]at hk;exact g5 k hk) NL
   rw[wH]at s3
   have bH:∀q,cs'[q]?=if p.O+i*inf.size<=q/\q<p.O+i*inf.size+ys.length then ys[q-(p.O+i*inf.size)]? else cs[q]?:=by
    intro q
    rw[<-getElem?_arr,s3,getElem?_spliceL _ _ _ (by simpa using hle)]
    simp only[getElem?_arr]
   have abw:(src.take len).length=Nat.min src.length len:=by
    simp only[wD]
    show min len src.length=min src.length len
    omega
   obtain ⟨k1,k2⟩:=kU hh cW hι g3 s2 (by
     have:=congrArg List.length s3
     rw[dZ _ _ _ (by simpa using hle)]at this
     simpa using this) s4 s5 s6 (es':=aa es i (src.take len)) (by
    intro k l hk
    have az:i+(src.take len).length<=es.length:=by omega
    rw[getElem?_spliceL _ _ _ az]at hk
    split at hk
    ·rename_i hkr
     obtain ⟨h7,h8⟩:=nE Hc y2 _ l hk
     refine ⟨h7.trans EL.symm,fun j av hj => ?_⟩
     obtain ⟨u,h9,iC⟩:=h8 j av hj
     refine ⟨u,?_,iC⟩
     have tU:=(zB.1 hj).1
     rw[EL,bH]
     have hq:p.O+k*inf.size+j=p.O+i*inf.size+((k-i)*inf.size+j):=by
      have:k*inf.size=i*inf.size+(k-i)*inf.size:=by rw[<-ze];congr 1;omega
      omega
     have fN:(k-i)*inf.size+j<ys.length:=(zB.1 h9).1
     rw[if_pos (by omega),hq,wa];exact h9
    ·rename_i hkr
     obtain ⟨h7,h8⟩:=g6 k l hk
     refine ⟨h7,fun j av hj => ?_⟩
     have tU:=(zB.1 hj).1
     rw[bH,if_neg]
     ·exact h8 j av hj
     ·rintro ⟨q1,q2⟩
      rw[EL]at q1 q2 h7
      rw[vC]at q2
      rcases zj k i with az|NX
      ·have:=zX inf.size (qU az)
       rw[qz]at this;omega
      ·have nf:i+Nat.min src.length len<=k:=by omega
       have:=zX inf.size nf
       rw[ze]at this;omega)
   exact ⟨_,w',c.ι,mL w' (by subst N8;exact s1),k2,k1,.v _⟩
theorem bg.up {c:Cx} {nx:Nat} (h:bg c nx):bg c (nx+1) :=
 ⟨fun r h1=>by have:=h.uT r h1;omega,fun r p h1=>by have:=h.lt r p h1;omega,h.sd,h.inj,h.F,h.ty,h.gl⟩
theorem J9 {c:Cx} {nx q:Nat} (hh:bg c nx) (hq:q+1<nx) (hι:c.ι (q+1)=none) {t:TypeId} {k:Nat} {p:Place} {cs:Array Value} {fz:Nat×Nat} (h1:c.ι q=some p) (h2:p.O=0) (h3:c.w.heap[p.B]?=some (.cells cs t fz)) (h4:k<=cs.size) :
  bg ⟨c.F,c.ι,ab c.hp (q+1) (some [[.ty t k]]),c.w⟩ nx/\Ext c ⟨c.F,c.ι,ab c.hp (q+1) (some [[.ty t k]]),c.w⟩:=by
 let c':Cx:=⟨c.F,c.ι,ab c.hp (q+1) (some [[.ty t k]]),c.w⟩
 have lI:∀r,r≠q+1->c'.hp r=c.hp r:=fun r hr=>by show ab _ _ _ r=_;simp[ab,hr]
 have WV:c'.hp (q+1)=some [[.ty t k]]:=by show ab _ _ _ (q+1)=_;simp[ab]
 have bt:∀r p,c'.ι r=some p->r≠q+1:=by rintro r p h rfl;have h:c.ι (q+1)=some p:=h;rw[hι]at h;cases h
 have bm:Ext c c':=by
  refine ⟨rfl,fun _ _ h=>h,zD _,?_,rfl,rfl,rfl⟩
  intro B hB ho
  refine ⟨?_,rfl⟩
  rintro ⟨r,p,e1,e2,e3⟩
  exact ho ⟨r,p,by rw[<-lI r (bt r p e2)];exact e1,e2,e3⟩
 refine ⟨⟨?_,hh.lt,?_,?_,hh.F,⟨?_,?_⟩,hh.gl.ext bm⟩,bm⟩
 ·intro r hr
  by_cases he:r=q+1
  ·omega
  ·have hr:c'.hp r≠none:=hr
   rw[lI r he]at hr;exact hh.uT r hr
 ·intro r es p' e1 e2
  have e1:c'.hp r=some es:=e1
  rw[lI r (bt r p' e2)]at e1
  obtain ⟨hF,o,h3,h4⟩:=hh.sd r es p' e1 e2
  exact ⟨hF,o,h3,h4.move fun x u h=>h.mono bm⟩
 ·intro r r' p1 p2 e1 e2 e3 e4 e5
  have e1:c'.hp r≠none:=e1
  have e2:c'.hp r'≠none:=e2
  rw[lI r (bt r p1 e3)]at e1;rw[lI r' (bt r' p2 e4)]at e2
  exact hh.inj r r' p1 p2 e1 e2 e3 e4 e5
 ·intro r t' k' hr
  have hr:c'.hp (r+1)=_:=hr
  by_cases he:r=q
  ·subst he
   rw[WV]at hr;simp only[zOi,List.cons.injEq,AV.ty.injEq,and_true]at hr
   obtain ⟨rfl,rfl⟩:=hr
   exact ⟨p,cs,fz,h1,h2,h3,h4⟩
  ·rw[lI (r+1) (by omega)]at hr;exact hh.ty.1 r t' k' hr
 ·intro r t' hr
  have hr:c'.hp (r+1)=_:=hr
  by_cases he:r=q
  ·subst he;rw[WV]at hr;simp at hr
  ·rw[lI (r+1) (by omega)]at hr
   obtain ⟨p',cs',I4,g1,g2,g3⟩:=hh.ty.2 r t' hr
   exact ⟨p',cs',I4,g1,g2,fun hn=>g3 (by
    by_cases h8:r=q+1
    ·subst h8;rw[hι]at g1;cases g1
    ·rw[<-lI r h8];exact hn)⟩
theorem acF {c:Cx} {nx q:Nat} (hh:bg c nx) (hq:q+1<nx) (hι:c.ι (q+1)=none) {t:TypeId} {p:Place} {cs:Array Value} (h1:c.ι q=some p) (h3:c.w.heap[p.B]?=some (.cells cs t (0,0))) :
  bg ⟨c.F,c.ι,ab c.hp (q+1) (some [[.ty t 0],[]]),c.w⟩ nx/\Ext c ⟨c.F,c.ι,ab c.hp (q+1) (some [[.ty t 0],[]]),c.w⟩:=by
 let c':Cx:=⟨c.F,c.ι,ab c.hp (q+1) (some [[.ty t 0],[]]),c.w⟩
 have lI:∀r,r≠q+1->c'.hp r=c.hp r:=fun r hr=>by show ab _ _ _ r=_;simp[ab,hr]
 have WV:c'.hp (q+1)=some [[.ty t 0],[]]:=by show ab _ _ _ (q+1)=_;simp[ab]
 have bt:∀r p,c'.ι r=some p->r≠q+1:=by rintro r p h rfl;have h:c.ι (q+1)=some p:=h;rw[hι]at h;cases h
 have bm:Ext c c':=by
  refine ⟨rfl,fun _ _ h=>h,zD _,?_,rfl,rfl,rfl⟩
  intro B hB ho
  refine ⟨?_,rfl⟩
  rintro ⟨r,p,e1,e2,e3⟩
  exact ho ⟨r,p,by rw[<-lI r (bt r p e2)];exact e1,e2,e3⟩
 refine ⟨⟨?_,hh.lt,?_,?_,hh.F,⟨?_,?_⟩,hh.gl.ext bm⟩,bm⟩
 ·intro r hr
  by_cases he:r=q+1
  ·omega
  ·have hr:c'.hp r≠none:=hr
   rw[lI r he]at hr;exact hh.uT r hr
 ·intro r es p' e1 e2
  have e1:c'.hp r=some es:=e1
  rw[lI r (bt r p' e2)]at e1
  obtain ⟨hF,o,h3,h4⟩:=hh.sd r es p' e1 e2
  exact ⟨hF,o,h3,h4.move fun x u h=>h.mono bm⟩
 ·intro r r' p1 p2 e1 e2 e3 e4 e5
  have e1:c'.hp r≠none:=e1
  have e2:c'.hp r'≠none:=e2
  rw[lI r (bt r p1 e3)]at e1;rw[lI r' (bt r' p2 e4)]at e2
  exact hh.inj r r' p1 p2 e1 e2 e3 e4 e5
 ·intro r t' k' hr
  have hr:c'.hp (r+1)=_:=hr
  by_cases he:r=q
  ·subst he
   rw[WV]at hr;simp at hr
  ·rw[lI (r+1) (by omega)]at hr;exact hh.ty.1 r t' k' hr
 ·intro r t' hr
  have hr:c'.hp (r+1)=_:=hr
  by_cases he:r=q
  ·subst he
   rw[WV]at hr;simp only[zOi,List.cons.injEq,AV.ty.injEq,and_true]at hr
   subst hr
   exact ⟨p,cs,_,h1,h3,fun _=>rfl⟩
  ·rw[lI (r+1) (by omega)]at hr
   obtain ⟨p',cs',I4,g1,g2,g3⟩:=hh.ty.2 r t' hr
   exact ⟨p',cs',I4,g1,g2,fun hn=>g3 (by
    by_cases h8:r=q+1
    ·subst h8;rw[hι]at g1;cases g1
    ·rw[<-lI r h8];exact hn)⟩
theorem Kn {P:Program} {a:Act} {c:Cx} {nx:Nat} (hh:bg c nx) {t e:TypeId} {i:TypeInfo} {zv:Value} {n:Nat} {parts:Array (Nat×Operand)} {tm:Nat->AV} (ht:fJ c tm a) {es:bN}
  (hu:P.underlying t=some (.slice e)) (hi:P.info? e=some i) (oe:i.zero=some zv) (oz:zv.cells.size=i.size) (EI:0<i.size) (NP:n*i.size<=16777216)
  (cW:kG i.size (List.replicate n (zv.cells.toList.map js)) ((parts.toList.map fun p=>(p.1,cO p.2)).map fun p=>(p.1,ev tm p.2))=some es) {dst:Option Tmp} {type:TypeId} {pos:String} {after:Array Edge} {guard:Option (Nat×Bool)} :
  dw P ⟨dst,.buildSlice t n parts,type,pos,after,guard⟩ a c (.sl nx i.size 0 es.length (some es.length)) (ab (ab c.hp nx (some es)) (nx+1) (some [[.ty e 0],[]])) (nx+2):=by
 obtain ⟨cc,h1,h2,h3,h4⟩:=Al (P:=P) EI oz ht cW
 have AT:cc.size=n*i.size:=by
  have:=h4.1
  rw[eK es h3,h2]at this
  simpa using this.symm
 let w':World:={ c.w with heap:=c.w.heap.push (.cells cc e) }
 obtain ⟨k1,k2⟩:=tC (nx:=nx) hh (w':=w') (cs:=cc) (e:=e) (fz:=(0,0)) (es:=es) (sz:=i.size) rfl rfl rfl rfl (by intro o h;simp) (by
  intro k y hy
  obtain ⟨h5,h6⟩:=nE h3 h4 k y hy
  exact ⟨h5,fun j av hj=>let ⟨u,h7,h8⟩:=h6 j av hj;⟨u,by rw[<-getElem?_arr];exact h7,h8⟩⟩)
 obtain ⟨m1,m2⟩:=acF (q:=nx) (t:=e) (p:=⟨c.w.heap.size,0,i.size,cc.size,[]⟩) (cs:=cc) k1.up (by omega) k1.fresh (by show cn _ _ _ nx=_;simp[cn]) (by show (c.w.heap.push _)[c.w.heap.size]?=_;simp)
 refine ⟨.slice (some ⟨c.w.heap.size,0,none⟩) n n,w',_,.inl (vV hu hi oe EI NP h1),k2.trans m2,m1,?_⟩
 rw[h2]
 exact .sl (p:=⟨c.w.heap.size,0,i.size,cc.size,[]⟩) (by show cn _ _ _ nx=_;simp[cn]) rfl (fun _=>by simp) (zD _) (fun m hm=>by simp only[zOi]at hm;exact hm.symm) (fun _=>by simp[AT]) (fun h=>by simp at h) (wT _)
theorem DZ {P:Program} {a:Act} {c:Cx} {nx:Nat} (hh:bg c nx) {e:TypeId} {z:List AV} (hz:zeroOf P e=some z) {dst:Option Tmp} {type:TypeId} {pos:String} {after:Array Edge} {guard:Option (Nat×Bool)} :
  dw P ⟨dst,.alloc e,type,pos,after,guard⟩ a c (.ptr nx 0 0) (ab (ab c.hp nx (some [z])) (nx+1) (some [[.ty e z.length]])) (nx+2):=by
 obtain ⟨i,zv,hi,oe,oz,rfl⟩:=dz hz
 let w':World:={ c.w with heap:=c.w.heap.push (.cells zv.cells e) }
 obtain ⟨h1,h2⟩:=tC (nx:=nx) hh (w':=w') (cs:=zv.cells) (e:=e) (fz:=(0,0)) (es:=[zv.cells.toList.map js]) (sz:=(zv.cells.toList.map js).length) rfl rfl rfl rfl (by intro o h;simp) (by
  intro k x hx
  obtain ⟨h1,h2⟩:=Cz (tu c oz) k x hx
  exact ⟨h1,fun j av hj=>let ⟨u,h3,h4⟩:=h2 j av hj;⟨u,by rw[<-getElem?_arr];exact h3,h4⟩⟩)
 obtain ⟨h3,h4⟩:=J9 (q:=nx) (t:=e) (k:=(zv.cells.toList.map js).length) (p:=⟨c.w.heap.size,0,(zv.cells.toList.map js).length,zv.cells.size,[]⟩) (cs:=zv.cells) (fz:=(0,0)) h1.up (by omega)
  h1.fresh (by show cn _ _ _ nx=_;simp[cn]) rfl (by show (c.w.heap.push _)[c.w.heap.size]?=_;simp) (by simp)
 refine ⟨.pointer (some ⟨c.w.heap.size,0,none⟩),w',_,.inl ?_,h2.trans h4,h3,?_⟩
 ·simp[execOp,Instr.alloc,zeroValue,typeInfo,hi,oe,newVar,newRow,w']
 ·have:=aC.ptr (c:=⟨c.F,cn c.ι nx ⟨c.w.heap.size,0,(zv.cells.toList.map js).length,zv.cells.size,[]⟩,ab (ab c.hp nx (some [zv.cells.toList.map js])) (nx+1) (some [[.ty e (zv.cells.toList.map js).length]]),w'⟩) (r:=nx) (i:=0) (off:=0) (p:=⟨c.w.heap.size,0,(zv.cells.toList.map js).length,zv.cells.size,[]⟩) (by show cn _ _ _ nx=_;simp[cn]) (wT _)
  simpa using this
theorem xr {P:Program} {ts:Array TypeId} {ty t e t2:TypeId} {d2:TypeDesc} {i:TypeInfo} {w w':World} {base:Option Addr} {sLen sCap n:Nat} {x u:Value} {arr:Array Value} (h0:ts[0]?=some t) (h1:ts[1]?=some t2) (hu:P.underlying t=some (.slice e)) (uK:P.underlying t2=some d2) (hd:∀k,d2≠.int k) (hi:P.info? e=some i)
  (hl:(Builtin.lenOf x).run P w=.ok n w) (hf:(Builtin.firstCells i.size n x).run P w=.ok arr w) (fH:sLen+n<=sCap)
  (hr:(Builtin.append_ ts ty #[.slice base sLen sCap,x]).run P w=.ok u w'):u=.slice base (sLen+n) sCap:=by
 have L9:(d2 matches .int _)=false:=by cases d2<;>first|rfl|exact absurd rfl (hd _)
 have ew:(sizeOf e).run P w=.ok i.size w:=by simp[sizeOf,typeInfo,hi]
 unfold Builtin.append_ at hr
 rw[h0,h1,show (#[Value.slice base sLen sCap,x]:Array Value)[0]?=some (.slice base sLen sCap) from rfl,show (#[Value.slice base sLen sCap,x]:Array Value)[1]?=some x from rfl]at hr
 simp only[Sem.run_bind,run_underlying hu,run_underlying uK,ew,Result.andThen_ok,Sem.run_pure]at hr
 simp only[L9,zK,if_false,hl,Result.andThen_ok,fH,if_true,jM,Sem.run_bind,hf]at hr
 cases base with
 |none=>simp at hr;exact hr.1.symm
 |some ad =>
  simp only at hr
  cases bU:(storeCells (ad.add (sLen*i.size)) arr.toList).run P w with
  |ok y w2=>simp[bU]at hr;exact hr.1.symm
  |_=>simp[bU]at hr
theorem Gk {P:Program} {o:Oper} {a:Act} {c:Cx} {nx:Nat} (hh:bg c nx) {ts:Array TypeId} {ty e:TypeId} {s:AV} {su x:Value} {new:bN} {arr zc:Array Value} {v:AV} {hp':Heap} {nx':Nat}
  (mL:∀u w',(Builtin.append_ ts ty #[su,x]).run P c.w=.ok u w'->iX P o a c.w u w') (hinv:∀u w',iX P o a c.w u w'->(Builtin.append_ ts ty #[su,x]).run P c.w=.ok u w') (hs:aC c s su) (hz:zc.size=1)
  (aX:∀(i:Nat) (l:List AV),new[i]?=some l->l.length=1) (bP:cE c new.flatten arr.toList) (cV:new.all (fun l=>l.all AV.one)=true)
  (Fh:∀(base:Option Addr) (sLen sCap:Nat) (w':World),sLen+new.length<=sCap->(match base with|some ad=>storeCells (ad.add (sLen*1)) arr.toList|none=>pure ()).run P c.w=.ok () w'->(Builtin.append_ ts ty #[.slice base sLen sCap,x]).run P c.w=.ok (.slice base (sLen+new.length) sCap) w')
  (abH:∀(base:Option Addr) (sLen sCap:Nat) (u:Value) (w':World),sLen+new.length<=sCap->(Builtin.append_ ts ty #[.slice base sLen sCap,x]).run P c.w=.ok u w'->u=.slice base (sLen+new.length) sCap)
  (E8:∀(base:Option Addr) (sLen sCap:Nat) (old:Array Value),(∀w',w'.heap=c.w.heap->(Builtin.firstCells 1 sLen (.slice base sLen sCap)).run P w'=.ok old w')->¬sLen+new.length<=sCap->(sLen+new.length)*1<=140737488355328 ->
   ∃cap w',sLen+new.length<=cap/\(Builtin.append_ ts ty #[.slice base sLen sCap,x]).run P c.w=.ok (.slice (some ⟨c.w.heap.size,0,none⟩) (sLen+new.length) cap) w' /\
   w'.heap=c.w.heap.push (.cells (old++arr++Builtin.zeroCells zc (cap-(sLen+new.length))) e)/\w'.os=c.w.os/\w'.tape=c.w.tape/\w'.output=c.w.output)
  (hA:vj e s new c.hp nx=some (v,hp',nx')):dw P o a c v hp' nx':=by
 have plain:=fun {v:AV} {hp1:Heap} {nx1:Nat}=>uZ (P:=P) (o:=o) (a:=a) (nx:=nx) (v:=v) (hp':=hp1) (nx':=nx1) hh (bytes:=1) (sz:=1) mL hs rfl (by omega) hz aX bP cV Fh E8
 unfold vj at hA
 split at hA
 ·rename_i z
  split at hA
  ·rename_i h0
   simp only[zOi,zPi]at hA
   obtain ⟨rfl,rfl,rfl⟩:=hA
   exact plain (by simp[cI,h0])
  ·rename_i h0
   split at hA
   ·rename_i hle
    simp only[zOi,zPi]at hA
    obtain ⟨rfl,rfl,rfl⟩:=hA
    have lH:0<new.length:=by omega
    obtain ⟨u,w',ι',hr,hx,og,hv⟩:=plain (v:=.sl nx 1 0 new.length none) (hp1:=ab c.hp nx (some new)) (nx1:=nx+1) (by
     simp only[cI,true_or,if_true]
     rw[if_neg h0]
     simp[lH,hle])
    have hsu:su=.slice none 0 0:=by cases hs with|nil _=>rfl
    have bR:=hinv u w' hr
    rw[hsu]at bR
    obtain ⟨cap,w2,hc,yI,cF,_⟩:=E8 none 0 0 #[] (fun w' _=>by simp[Builtin.firstCells]) (by omega) (by omega)
    rw[bR]at yI
    simp only[Result.ok.injEq]at yI
    obtain ⟨rfl,rfl⟩:=yI
    rw[Nat.zero_add]at hv
    have RX:=hv
    cases hv with
    |sl hι jt ha hl dq hN hE eP =>
     rename_i p
     have Hs:=ha (by omega)
     simp only[Addr.mk.injEq,qw,wH,and_true]at Hs
     obtain ⟨g1,g2⟩:=Hs
     obtain ⟨k1,k2⟩:=J9 (q:=nx) (t:=e) (k:=0) (p:=p) (fz:=(0,0)) og.up (by omega) og.fresh hι g2.symm (by show w'.heap[p.B]?=_;rw[<-g1,cF];simp;rfl) (wT _)
     exact ⟨_,w',ι',hr,hx.trans k2,k1,by rw[Nat.zero_add];exact RX.mono k2⟩
   ·cases hA
 ·rename_i q sz i len
  split at hA
  ·rename_i hb
   obtain ⟨rfl,rfl⟩:=hb
   split at hA
   ·rename_i t' k es FX cW
    split at hA
    ·rename_i hb
     obtain ⟨rfl,hle⟩:=hb
     split at hA
     ·rename_i fH
      simp only[zOi,zPi]at hA
      obtain ⟨rfl,rfl,rfl⟩:=hA
      exact plain (by simp only[cI,if_true,cW,Nat.zero_add];rw[if_neg (by omega),if_pos fH])
     ·rename_i aa4
      split at hA
      ·rename_i NP
       simp only[zOi,zPi]at hA
       obtain ⟨rfl,rfl,rfl⟩:=hA
       obtain ⟨u,w',ι',hr,hx,og,hv⟩:=plain (v:=.sl nx 1 0 (len+new.length) none) (hp1:=ab (ab c.hp q none) nx (some (es.take len++new))) (nx1:=nx+1) (by
        simp only[cI,if_true,cW,Nat.zero_add,zb]
        rw[if_neg (by omega),if_neg aa4,if_pos (by omega)])
       have sW:aR c.hp 1 (.sl q 1 0 len none)=some ((es.drop 0).take len):=by simp[aR,cW,hle]
       obtain ⟨_,_,ae7⟩:=jw (P:=P) hh hs sW
       obtain ⟨ys,y1,_⟩:=ae7 ((es.drop 0).take len).length (zD _)
       have hlen:((es.drop 0).take len).length=len:=by simp;omega
       rw[hlen]at y1
       have bR:=hinv u w' hr
       have RX:=hv
       cases hs with
       | @sl _ _ _ _ m _ p ad hι jt ha hl dq hN hE =>
        have EN:0<new.length:=by omega
        cases hv with
        | @sl _ _ _ _ m2 _ p2 ad2 QR hs2 ha2 Az af8 DO hE2 =>
         have DM:m2≠0:=by omega
         have Hr:=ha2 DM
         have key:p2.O=0/\∃cs fz,w'.heap[p2.B]?=some (.cells cs t' fz):=by
          by_cases hf:len+new.length<=m
          ·have hu:=abH _ _ _ _ _ hf bR
           simp only[Value.slice.injEq,zOi]at hu
           obtain ⟨rfl,_,rfl⟩:=hu
           have Hs:=ha DM
           rw[Hs]at Hr
           simp only[Addr.mk.injEq,qw,wH,and_true]at Hr
           obtain ⟨p0,cs,fz,g1,g2,g3,g4⟩:=og.ty.1 q t' k (by
            show ab _ _ _ (q+1)=_
            have TV:q+1<nx:=hh.uT (q+1) (by rw[FX];simp)
            simp[ab,show ¬q+1=nx by omega,FX])
           have:ι' q=some p:=hx.ι q p hι
           have g1:ι' q=some p0:=g1
           rw[this]at g1;simp only[zOi]at g1;subst g1
           exact ⟨by rw[<-Hr.2,g2],cs,fz,by rw[<-Hr.1];exact g3⟩
          ·obtain ⟨cap,w2,hc,yI,cF,_⟩:=E8 _ _ _ _ y1 hf (by omega)
           rw[bR]at yI
           simp only[Result.ok.injEq,Value.slice.injEq,zOi]at yI
           obtain ⟨⟨rfl,_,_⟩,rfl⟩:=yI
           simp only[Addr.mk.injEq,qw,wH,and_true]at Hr
           exact ⟨Hr.2.symm,_,_,by rw[<-Hr.1,cF];exact Array.getElem?_push_size⟩
         obtain ⟨hO,cs,fz,hc⟩:=key
         obtain ⟨k1,k2⟩:=J9 (q:=nx) (t:=t') (k:=0) (p:=p2) og.up (by omega) og.fresh QR hO hc (wT _)
         exact ⟨_,w',ι',hr,hx.trans k2,k1,RX.mono k2⟩
      ·cases hA
    ·cases hA
   ·cases hA
  ·cases hA
 ·cases hA
theorem A3:∀{es:bN} {l:List UInt8},AF es=some l->es=bytesOf l
 |[],l,h=>by simp[AF]at h;subst h;rfl
 |c::r,l,h=>by
  simp only[AF]at h
  split at h
  ·rename_i b l' hb hl
   split at h
   ·rename_i n
    split at h
    ·rename_i hn
     simp only[zOi]at h;subst h
     rw[A3 hl,hn];rfl
    ·cases h
   ·cases h
  ·cases h
theorem OE {c:Cx} {nx:Nat} (hh:bg c nx) {q:Nat} {es:bN} {p:Place} (hq:c.hp q=some es) (hp:c.ι q=some p) {w':World} {cs:Array Value} {e:TypeId} {fz I4:Nat×Nat}
  (hb:c.w.heap[p.B]?=some (.cells cs e fz)) (pj:w'.heap.size=c.w.heap.size) (pC:∀B,B≠p.B->w'.heap[B]?=c.w.heap[B]?) (Q0:w'.heap[p.B]?=some (.cells cs e I4))
  (AN:w'.os=c.w.os) (gK:w'.tape=c.w.tape) (gF:w'.output=c.w.output) :
  let c':Cx:=⟨c.F,c.ι,ab c.hp q none,w'⟩
  bg c' nx/\Ext c c':=by
 intro c'
 have WV:c'.hp q=none:=by show ab _ _ _ q=_;simp[ab]
 have lI:∀r,r≠q->c'.hp r=c.hp r:=fun r hr=>by show ab _ _ _ r=_;simp[ab,hr]
 have bt:∀r,c'.hp r≠none->r≠q:=by rintro r h rfl;exact h WV
 have mf:c.own p.B:=⟨q,p,by simp[hq],hp,rfl⟩
 have bm:Ext c c':=by
  refine ⟨rfl,fun _ _ h=>h,by show _<=w'.heap.size;omega,?_,AN,gK,gF⟩
  intro B hB ho
  refine ⟨?_,pC B (by rintro rfl;exact ho mf)⟩
  rintro ⟨r,p',e1,e2,e3⟩
  exact ho ⟨r,p',by rw[<-lI r (bt r e1)];exact e1,e2,e3⟩
 refine ⟨⟨?_,hh.lt,?_,?_,?_,?_,hh.gl.ext bm⟩,bm⟩
 ·intro r hr;exact hh.uT r (by rw[<-lI r (bt r hr)];exact hr)
 ·intro r es' p' e1 e2
  have hr:r≠q:=bt r (by rw[e1];simp)
  have Y3:c.hp r=some es':=by rw[<-lI r hr];exact e1
  obtain ⟨hF,o,h3,h4⟩:=hh.sd r es' p' Y3 e2
  have hB:p'.B≠p.B:=fun h=>hr (hh.inj r q p' p (by simp[Y3]) (by simp[hq]) e2 hp h)
  exact ⟨hF,o,(pC _ hB).trans h3,h4.move fun x u h=>h.mono bm⟩
 ·intro r r' p1 p2 e1 e2 e3 e4 e5
  exact hh.inj r r' p1 p2 (by rw[<-lI r (bt r e1)];exact e1) (by rw[<-lI r' (bt r' e2)];exact e2) e3 e4 e5
 ·intro B hB
  have:=hh.F B hB
  show B<w'.heap.size
  omega
 ·refine ⟨hh.ty.1.to (fun r t k rest hr=>by
   have sr:c'.hp r=_:=hr
   rw[<-lI r (bt r (by rw[sr];simp))];exact sr) (fun _ _ h=>h) fun B cs1 t fz1 hB => ?_,fun r t hr => ?_⟩
  ·by_cases he:B=p.B
   ·subst he
    rw[hb,zOi,Obj.cells.injEq]at hB
    obtain ⟨rfl,rfl,rfl⟩:=hB
    exact ⟨cs,I4,Q0,rfl⟩
   ·exact ⟨cs1,fz1,(pC B he).trans hB,rfl⟩
  ·have sr:c'.hp (r+1)=_:=hr
   rw[lI _ (bt _ (by rw[sr];simp))]at sr
   obtain ⟨p',cs',f',g1,g2,g3⟩:=hh.ty.2 r t sr
   by_cases hB:p'.B=p.B
   ·rw[hB,hb,zOi,Obj.cells.injEq]at g2
    obtain ⟨rfl,rfl,rfl⟩:=g2
    refine ⟨p',cs,I4,g1,by show w'.heap[p'.B]?=_;rw[hB];exact Q0,fun hn => ?_⟩
    have hn:c'.hp r≠none:=hn
    have Hb:=bt r hn
    exact absurd (hh.inj r q p' p (by rw[<-lI r Hb];exact hn) (by simp[hq]) g1 hp hB) Hb
   ·exact ⟨p',cs',f',g1,(pC _ hB).trans g2,fun hn=>g3 (by
     have hn:c'.hp r≠none:=hn
     rw[<-lI r (bt r hn)];exact hn)⟩
theorem Kj {P:Program} {o:Oper} {a:Act} {c:Cx} {nx:Nat} (hh:bg c nx) {pt it ty e:TypeId} {q n:Nat} {xu:Value} {es:bN} {l:List UInt8} {k:Nat} (hp:P.underlying pt=some (.pointer e)) (hc:P.cellsOf e=1)
  (mL:∀u w',(Builtin.unsafeString_ #[pt,it] ty #[xu,.int .i64 n]).run P c.w=.ok u w'->iX P o a c.w u w') (hx:aC c (.ptr q 0 0) xu) (FX:c.hp (q+1)=some [[.ty e k]]) (cW:c.hp q=some es) (h0:0<n) (hn:n<=es.length) (hl:AF (es.take n)=some l) (h63:n<=9223372036854775807) :
  dw P o a c (.str l) (ab c.hp q none) nx:=by
 cases hx with
 | @ptr _ _ _ p hι eP =>
  obtain ⟨p0,AX,Mj,g1,g2,g3,_⟩:=hh.ty.1 q e k FX
  rw[hι]at g1;simp only[zOi]at g1;subst g1
  obtain ⟨_,cs,e',fz,h3,h4,h5,h6⟩:=hh.cells cW hι eP
  rw[g3,zOi,Obj.cells.injEq]at h3
  obtain ⟨rfl,rfl,rfl⟩:=h3
  have IQ:=A3 hl
  have hlen:l.length=n:=by
   have:=congrArg List.length IQ
   simp[bytesOf]at this;omega
  have YJ:∀(j:Nat) (x:UInt8),l[j]?=some x->AX[j]?=some (Value.int .u8 x.toNat):=by
   intro j x hj
   have tU:j<n:=by have:=(zB.1 hj).1;omega
   have h7:es[j]?=some [.v (.int .u8 x.toNat)]:=by
    have h8:(es.take n)[j]?=some [.v (.int .u8 x.toNat)]:=by rw[IQ];simp[bytesOf,hj]
    rw[wB,if_pos tU]at h8;exact h8
   obtain ⟨h8,h9⟩:=h6 j _ h7
   obtain ⟨u,iC,vM⟩:=h9 0 _ rfl
   have h8:p.sz=1:=by simpa using h8.symm
   rw[vM.b8,h8,g2]at iC
   simpa using iC
  have eI:∀(j:Nat) (x:UInt8),l[j]?=some x->c.w.cell? ((⟨p.B,0,none⟩:Addr).add j)=some (.int .u8 x.toNat):=by
   intro j x hj
   rw[gO]
   simp only[World.cell?,g3]
   simpa using YJ j x hj
  have ew:l.length<=AX.size:=by
   have ET:l.length-1<l.length:=by omega
   have:=YJ (l.length-1) _ (zA ET)
   have:=(zE.1 this).1
   omega
  have bR:=Lib.run_unsafeString_row (P:=P) c.w pt it ty e hp hc p.B AX.size (by simp[World.shape?,g3]) l (by intro h;subst h;simp at hlen;omega) ew (by omega) eI
  rw[hlen]at bR
  have uJ:(⟨p.B,p.O+0*p.sz+0,none⟩:Addr)=⟨p.B,0,none⟩:=by rw[g2];simp
  rw[uJ]at mL
  have az:p.B<c.w.heap.size:=(zE.1 g3).1
  have bt:¬n=0:=by omega
  have yV:∃I4,(c.w.freeze ⟨p.B,0,none⟩ n).heap[p.B]?=some (.cells AX e I4):=by
   obtain ⟨lo,hi⟩:=Mj
   simp[World.freeze,bt,wY,g3]
  obtain ⟨I4,yV⟩:=yV
  obtain ⟨k1,k2⟩:=OE hh cW hι (w':=c.w.freeze ⟨p.B,0,none⟩ n) g3 (by simp[World.freeze,bt]) (fun B hB=>by
   simp[World.freeze,bt,wY,Ne.symm hB]) yV (by simp[World.freeze,bt]) (by simp[World.freeze,bt]) (by simp[World.freeze,bt])
  exact ⟨_,_,c.ι,mL _ _ bR,k2,k1,.str _⟩
theorem OB {P:Program} {b:Builtin} {args:Array Operand} {ts:Array TypeId} {dst:Option Tmp} {type:TypeId} {pos:String} {after:Array Edge} {guard:Option (Nat×Bool)} {co:jg} {tm:Nat->AV} {a:Act} {c:Cx} {v:AV} {hp':Heap} {nx nx':Nat}
  (ao:gh P b args.toList ts=some co) (he:fb tm c.hp nx co=some (v,hp',nx')) (ht:fJ c tm a) (hh:bg c nx) :
  dw P ⟨dst,.call ⟨.builtin b,args,ts⟩,type,pos,after,guard⟩ a c v hp' nx':=by
 unfold gh at ao
 split at ao
 ·rename_i s x bz
  have hm:=mE (f:=a.eval) bz
  have h1:=aE ht s
  have h2:=aE ht x
  split at ao
  ·rename_i t t2 BA TR
   have go:∀(e:TypeId) (d2:TypeDesc) (z:List AV) (i:TypeInfo),P.underlying t=some (.slice e)->P.underlying t2=some d2->(∀k,d2≠.int k)->zeroOf P e=some z->P.info? e=some i->i.size=1/\i.bytes=1/\V0 P e=true->co=.Ko e (cO s) (cO x) ->
     dw P ⟨dst,.call ⟨.builtin .append,args,ts⟩,type,pos,after,guard⟩ a c v hp' nx':=by
    intro e d2 z i hu uK hd hz hi hb afg
    subst afg
    obtain ⟨hs1,tn,RY⟩:=hb
    obtain ⟨i',zv,kO,oe,oz,rfl⟩:=dz hz
    rw[hi]at kO;simp only[zOi]at kO;subst kO
    simp only[fb]at he
    split at he
    ·rename_i new sW
     split at he
     ·rename_i cV
      generalize hsu:a.eval s=su at h1 hm
      generalize hxu:a.eval x=xu at h2 hm
      obtain ⟨e1,e2,e3⟩:=jw (P:=P) hh h2 sW
      obtain ⟨ys,y1,y2⟩:=e3 new.length (zD _)
      rw[zW]at y2
      have y1':∀w':World,w'.heap=c.w.heap->(Builtin.firstCells i.size new.length xu).run P w'=.ok ys.toArray w':=by rw[hs1];exact y1
      refine Gk (ts:=ts) (ty:=type) (x:=xu) (arr:=ys.toArray) (zc:=zv.cells) hh ?_ ?_ h1 (by rw[oz,hs1]) e2 (by simpa using y2) cV ?_ ?_ ?_ he
      ·intro u w' bR
       refine .inl (cH ?_)
       rw[hm]
       simp only[builtin,Sem.run_bind,bR,Result.andThen_ok,Sem.run_pure]
      ·intro u w' hr
       have hbe:(execOp a.eval ⟨dst,.call ⟨.builtin .append,args,ts⟩,type,pos,after,guard⟩).run P c.w=((Builtin.append_ ts type #[su,xu]).run P c.w).andThen fun v w'=>.ok (.value v) w':=by
        simp only[execOp,resolve,Sem.run_bind,Sem.run_pure,Result.andThen_ok,invoke]
        rw[hm]
        simp only[builtin,Sem.run_bind,Sem.run_pure]
       rcases hr with hr|⟨hr,_⟩
       ·rw[hbe]at hr
        cases hq:(Builtin.append_ ts type #[su,xu]).run P c.w with
        |ok u2 w2=>rw[hq]at hr;simp at hr;rw[hr.1,hr.2]
        |_=>rw[hq]at hr;simp[Result.andThen]at hr
       ·rw[hbe]at hr
        cases hq:(Builtin.append_ ts type #[su,xu]).run P c.w with
        |ok u2 w2=>rw[hq]at hr;simp at hr
        |_=>rw[hq]at hr;simp[Result.andThen]at hr
      ·intro base sLen sCap w' fH bU
       have:=om (P:=P) (ty:=type) (x:=xu) (n:=new.length) (arr:=ys.toArray) BA TR hu uK hd hi e1 (y1' c.w rfl) fH (w':=w') (base:=base) (sLen:=sLen) (sCap:=sCap) (by rw[hs1];exact bU)
       exact this
      ·intro base sLen sCap u w' fH hr
       exact xr BA TR hu uK hd hi e1 (y1' c.w rfl) fH hr
      ·intro base sLen sCap old ho fH IW
       exact oj BA TR hu uK hd hi oe e1 y1' (by rw[hs1];exact ho) fH (by omega) (by rw[tn];exact IW)
     ·simp at he
    ·simp at he
   split at ao
   ·rename_i e hu uK
    split at ao
    ·rename_i z i hz hi
     split at ao
     ·rename_i hb
      simp only[zOi]at ao
      exact go e _ z i hu uK (fun k h=>by cases h) hz hi hb ao.symm
     ·simp at ao
    ·simp at ao
   ·rename_i e q hu uK
    split at ao
    ·rename_i z i hz hi
     split at ao
     ·rename_i hb
      simp only[zOi]at ao
      exact go e _ z i hu uK (fun k h=>by cases h) hz hi hb ao.symm
     ·simp at ao
    ·simp at ao
   ·simp at ao
  ·simp at ao
 ·simp at ao
end Go.Ai
