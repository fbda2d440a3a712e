/- Part 1 of what the proof of BtreePlays rests on. -/
import Derived.WalkKit
import Derived.Lib.Strings
import Derived.Lib.UnsafeStr
import Derived.LaidEql
import Derived.Lib.Builder
import Derived.Laws.Externs
import Derived.Lib.SmallJoins
import Derived.Laws.BytesString
import Derived.Laws.StructEq
import Derived.Laws.Cells
import Derived.Laws.Append
import Derived.MapKept
import Derived.Maps.RangeRun
import Derived.LoopN
import Derived.Lib.Overlaps
import Derived.Test.YtblopagmddgkjaaGreatProg
import Derived.KernelRfl
import Derived.Orders
import Derived.Lib.Bytealg
import Derived.Lib.MakeNoZero
import Derived.ProofKit
import Derived.ReadAgain
set_option linter.unusedVariables false
set_option linter.unusedSimpArgs false
set_option maxHeartbeats 4000000
namespace Go
abbrev zOi := @Option.some.injEq
abbrev zPi := @Prod.mk.injEq
abbrev zA := @List.getElem?_eq_getElem
abbrev zB := @List.getElem?_eq_some_iff
abbrev zC := @Option.map_eq_some_iff
abbrev zD := @Nat.le_refl
abbrev zE := @Array.getElem?_eq_some_iff
abbrev zF := @List.append_assoc
abbrev zG := @List.length_append
abbrev zH := @List.mem_cons
abbrev zI := @List.take_of_length_le
abbrev zJ := @List.mem_append
abbrev zK := @Bool.false_eq_true
abbrev zL := @Array.getElem?_eq_getElem
abbrev zM := @Bool.and_eq_true
abbrev zN := @List.drop_eq_getElem_cons
abbrev zO := @List.getElem?_map
abbrev zP := @List.getElem_mem
abbrev zQ := @List.all_eq_true
abbrev zR := @List.getElem?_append_left
abbrev zS := @List.length_nil
abbrev zT := @List.append_nil
abbrev zU := @Nat.lt_of_lt_of_le
abbrev zV := @List.length_cons
abbrev zW := @List.take_length
abbrev zX := @Nat.mul_le_mul_right
abbrev zY := @List.getElem_of_mem
abbrev zZ := @List.length_map
abbrev za := @List.getElem?_append_right
abbrev zb := @List.drop_zero
abbrev ze := @Nat.add_mul
abbrev zf := @List.map_append
abbrev zg := @List.length_eq_zero_iff
abbrev zh := @List.nil_append
abbrev zj := @Nat.lt_or_ge
abbrev zl := @Int.toNat_natCast
abbrev zm := @Option.bind_eq_some_iff
abbrev zp := @List.nodup_cons
abbrev zq := @List.nodup_append
abbrev zr := @List.drop_eq_nil_of_le
abbrev zt := @List.length_pos_iff
abbrev zu := @List.mem_cons_of_mem
abbrev zw := @List.mem_of_mem_take
abbrev zx := @List.mem_of_mem_drop
abbrev zy := @List.take_append_drop
abbrev zz := @List.take_add_one
abbrev wB := @List.getElem?_take
abbrev wC := @List.filter_eq_nil_iff
abbrev wD := @List.length_take
abbrev wE := @List.getElem?_drop
abbrev wF := @Nat.add_zero
abbrev wH := @Nat.le_trans
abbrev wI := @List.map_cons
abbrev wJ := @Option.getD_some
abbrev wK := @List.take_append_of_le_length
abbrev wL := @List.mem_range
abbrev wM := @Option.isSome_iff_exists
abbrev wN := @List.length_drop
abbrev wO := @List.not_mem_nil
abbrev wP := @List.getElem?_replicate
abbrev wQ := @Array.getElem?_setIfInBounds_ne
abbrev wR := @List.map_take
abbrev wS := @List.map_drop
abbrev wT := @Nat.zero_le
abbrev wU := @List.filter_append
abbrev wV := @List.sum_append
abbrev wW := @Array.getElem?_push
abbrev wX := @List.filter_eq_self
abbrev wY := @Array.getElem?_modify
abbrev wZ := @List.getElem?_eq_none
abbrev wa := @Nat.add_sub_cancel_left
abbrev wb := @Array.getD_eq_getD_getElem?
abbrev we := @List.getElem?_set_ne
abbrev wg := @List.flatten_cons
abbrev wh := @Bool.not_eq_true'
abbrev wj := @List.getElem_append_right
abbrev wk := @List.mem_map
abbrev wm := @List.mem_singleton
abbrev wo := @List.getElem_append_left
abbrev wq := @List.drop_append_of_le_length
abbrev wt := @List.drop_length
abbrev wu := @Nat.pow_le_pow_right
abbrev wv := @List.getElem?_cons_succ
abbrev ww := @List.getElem?_set
abbrev wx := @List.getElem_take
abbrev wy := @List.getElem_drop
abbrev qA := @Bool.or_eq_true
abbrev qB := @List.flatten_append
abbrev qC := @Int.fdiv_eq_ediv_of_nonneg
abbrev qD := @List.filter_cons
abbrev qE := @Nat.add_assoc
abbrev qF := @Nat.eq_zero_or_pos
abbrev qG := @List.length_replicate
abbrev qH := @List.length_filter_le
abbrev qI := @Bool.or_eq_false_iff
abbrev qJ := @Nat.min_eq_left
abbrev qK := @List.of_mem_zip
abbrev qL := @Array.length_toList
abbrev qM := @Option.getD_none
abbrev qN := @List.drop_left
abbrev qO := @Array.getElem?_setIfInBounds
abbrev qP := @Option.map_some
abbrev qQ := @List.mem_iff_getElem?
abbrev qR := @List.range_succ
abbrev qS := @List.zip_append
abbrev qT := @Array.range_zero'
abbrev qU := @Nat.succ_le_of_lt
abbrev qV := @Array.getElem?_append_left
abbrev qW := @List.nodup_iff_pairwise_ne
abbrev qX := @List.pairwise_iff_getElem
abbrev qY := @List.take_left
abbrev qZ := @Array.toList_inj
abbrev qe := @List.mem_flatten
abbrev qf := @List.flatMap_append
abbrev qh := @List.perm_iff_count
abbrev qi := @List.map_nil
abbrev qj := @List.getElem?_cons_zero
abbrev qk := @Array.ext_getElem?
abbrev qn := @List.zip_cons_cons
abbrev qo := @Array.getElem?_eq_none
abbrev qp := @Nat.div_div_eq_div_mul
abbrev qr := @List.ext_getElem?
abbrev qt := @List.drop_take
abbrev qu := @Nat.mul_le_mul
abbrev qv := @List.drop_drop
abbrev qw := @Nat.zero_mul
abbrev qx := @List.map_map
abbrev qz := @Nat.succ_mul
abbrev jA := @List.getElem_map
abbrev jB := @List.sum_cons
abbrev jC := @Nat.mod_lt
abbrev jD := @List.foldl_cons
abbrev jE := @Array.toList_append
abbrev jF := @List.map_congr_left
abbrev jG := @List.zip_eq_zipWith
abbrev jH := @Option.isSome_some
abbrev jI := @Nat.pow_succ
abbrev jJ := @Option.toList_some
abbrev jK := @Int.natCast_nonneg
abbrev jL := @List.getElem_range
abbrev jM := @Bool.not_false
abbrev jN := @Bool.not_true
end Go
namespace Go.Ai
inductive AV where
 |v (x:Value)
 |str (l:List UInt8)
 |ptr (r i off:Nat)
 |rp (cells:List AV)
 |sl (r sz i len:Nat) (cap:Option Nat)
 |rs (nil:Bool) (sz:Nat) (es:List (List AV)) (cap:Option Nat)
 |agg (cells:List AV)
 |bE (vs:List AV)
 |fn (f:Fn) (first cap:List AV)
 |Bi (t:TypeId) (x:AV)
 |ty (t:TypeId) (k:Nat)
 |mp (r:Nat)
 |tk (k q r:Nat)
 |any
instance:Inhabited AV:=⟨.v undef⟩
abbrev AV.int (k:IntKind) (n:Int):AV:=.v (.int k n)
abbrev AV.bool (b:Bool):AV:=.v (.bool b)
abbrev bN:=List (List AV)
abbrev Heap:=Nat->Option bN
def ab (h:Heap) (r:Nat) (b:Option bN):Heap:=fun x=>if x=r then b else h x
def cG:Heap:=fun _=>none
def jR (f:Nat->AV) (t:Nat) (v:AV):Nat->AV:=fun x=>if x=t then v else f x
def AV.cells:AV->List AV
 |.agg cs=>cs
 |x=>[x]
def AV.one:AV->Bool
 |.agg _ | .bE _ | .v (.agg _) | .v (.tuple _) | .ty .. | .any=>false
 |_=>true
mutual
def AV.closed:AV->Bool
 |.v _ | .str _ | .any=>true
 |.ptr .. | .sl .. | .ty .. | .mp .. | .tk .. => false
 |.rp cs=>bT cs
 |.rs _ _ es _=>bl es
 |.agg cs=>bT cs
 |.bE cs=>bT cs
 |.fn _ a b=>bT a&&bT b
 |.Bi _ x=>x.closed
def bT:List AV->Bool
 |[]=>true
 |x::r=>x.closed&&bT r
def bl:List (List AV)->Bool
 |[]=>true
 |x::r=>bT x&&bl r
end
def jk:Value->AV
 |.string b=>.str b.data.toList
 |.slice none 0 0=>.rs true 0 [] (some 0)
 |.func f a b=>if a.size=0&&b.size=0 then .fn f [] [] else .v (.func f a b)
 |x=>.v x
def Qn:Value->AV
 |.agg cs=>.agg (cs.toList.map jk)
 |x=>jk x
inductive fc where
 |t (n:Nat)
 |c (x:AV)
inductive LK where
 |i|s|b
inductive iZ where
 |dj (x:fc)
 |pick (c a b:fc)
 |alloc (zero:List AV)
 |box (x:fc)
 |build (zero:List AV) (parts:List (Nat×Nat×fc))
 |bp (own:Bool) (sz:Nat) (zero:List (List AV)) (parts:List (Nat×fc))
 |load (n:Option Nat) (x:fc)
 |store (n:Nat) (x y:fc)
 |x8 (x:fc)
 |bin (op:BinOp) (x y:fc)
 |YF (op:BinOp) (x y:fc)
 |W3 (op:BinOp) (x y:fc)
 |YE (neg:Bool) (ks:List LK) (x y:fc)
 |un (op:UnOp) (x:fc)
 |conv (k:IntKind) (x:fc)
 |Xa (x:fc)
 |ZC (x:fc)
 |L0 (x:fc)
 |r2s (x:fc)
 |nr (x:fc) (lo hi:Option fc)
 |slice (n:Nat) (x:fc) (lo hi mx:Option fc)
 |lJ (n:Nat) (x i:fc)
 |idx (x i:fc)
 |sQ (off:Nat) (x:fc)
 |field (off:Nat) (n:Option Nat) (x:fc)
 |ext (x:fc) (i:Nat)
 |GD (t:TypeId) (x:fc)
 |rQ (f:Fn) (first cap:List fc)
 |iu (x:fc)
 |len (x:fc)
 |cap (x:fc)
 |min (x y:fc)
 |max (x y:fc)
 |append (sz bytes:Nat) (s x:fc)
 |Fu (sz bytes:Nat) (zero:List AV) (s x:fc)
 |copy (sz:Nat) (d s:fc)
 |clear (sz:Nat) (zero:List AV) (x:fc)
 |sb
 |vg (lk:LK) (zero:AV) (ok:Bool) (m k:fc)
 |D9 (lk:LK) (m k v:fc)
 |ML (m:fc)
 |sD (m:fc)
 |tB (x:fc)
 |yf (x:fc)
 |MO (lk:LK) (m k:fc)
 |ye (lk:LK) (zero:AV) (m k:fc)
 |tC (m s v:fc)
 |kD (sz bytes:Nat) (zero:List AV) (len cap:fc)
 |call (f:Nat) (args:List fc)
 |kr (g:fc) (args:List fc)
 |halt
 |xE (t:TypeId) (zero:List AV)
 |FX (t:TypeId) (sz:Nat) (zero:List (List AV)) (parts:List (Nat×fc))
 |XI (x:fc)
 |XR (t:TypeId) (k:Nat) (x:fc)
 |Am (op:BinOp) (x y:fc)
 |J3 (t:TypeId) (s x:fc)
 |DV (x:fc)
 |L7 (t:TypeId) (x n:fc)
structure aK where
 dst:Option Nat
 op:iZ
 guard:Option (Nat×Bool)
inductive cC where
 |skip
 |region (ops:List aK)
 |draw (pre:List (List Nat)) (ops:List aK)
 |seq (a b:cC)
 |cond (c:fc) (a b:cC)
 |block (id:Nat) (a:cC)
 |loop (a:cC)
 |exit (id:Nat)
 |ret
 |choose (d:Nat) (x:fc) (ops:List aK)
 |ah (l:List Nat)
inductive RV where
 |t (n:Nat)
 |cell (a:Nat) (n:Option Nat)
structure au where
 np:Nat
 nt:Nat
 body:cC
 kx:List RV
structure St where
 tm:Nat->AV
 hp:Heap
 nx:Nat
def ev (tm:Nat->AV):fc->AV
 |.t n=>tm n
 |.c x=>x
def Hq (tm:Nat->AV):Option fc->Option AV
 |some x=>some (ev tm x)
 |none=>none
def sI (op:BinOp) (k:IntKind) (a b:Int):Option AV :=
 match op with
 |.add=>some (.int k (k.wrap (a+b)))
 |.sub=>some (.int k (k.wrap (a-b)))
 |.mul=>some (.int k (k.wrap (a*b)))
 |.quo=>if b=0 then none else some (.int k (k.wrap (a.tdiv b)))
 |.rem=>if b=0 then none else some (.int k (a.tmod b))
 |.and=>some (.int k (k.wrap (BitVec.ofInt k.bits a &&& BitVec.ofInt k.bits b).toNat))
 |.or=>some (.int k (k.wrap (BitVec.ofInt k.bits a ||| BitVec.ofInt k.bits b).toNat))
 |.xor=>some (.int k (k.wrap (BitVec.ofInt k.bits a ^^^ BitVec.ofInt k.bits b).toNat))
 |.andNot=>some (.int k (k.wrap (BitVec.ofInt k.bits a &&& ~~~ BitVec.ofInt k.bits b).toNat))
 |.eql=>some (.bool (decide (a=b)))
 |.neq=>some (.bool (!decide (a=b)))
 |.lss=>some (.bool (decide (a<b)))
 |.leq=>some (.bool (decide (a<=b)))
 |.gtr=>some (.bool (decide (a>b)))
 |.geq=>some (.bool (decide (a≥b)))
 |_=>none
def B9 (op:BinOp) (k:IntKind) (a b:Int):Option AV :=
 if b<0 then none else
 match op with
 |.shl=>some (.int k (k.wrap (a*2 ^ (Nat.min b.toNat k.bits))))
 |.shr=>some (.int k (a.fdiv (2 ^ (Nat.min b.toNat k.bits))))
 |_=>none
def al:List UInt8->List UInt8->Bool
 |_,[]=>false
 |[],_::_=>true
 |a::x,b::y=>a<b||(a==b&&al x y)
def uh (op:BinOp) (x y:List UInt8):Option AV :=
 match op with
 |.add=>if x.length+y.length<=9223372036854775807 then some (.str (x++y)) else none
 |.eql=>some (.bool (decide (x=y)))
 |.neq=>some (.bool (!decide (x=y)))
 |.lss=>some (.bool (al x y))
 |.leq=>some (.bool (al x y||decide (x=y)))
 |.gtr=>some (.bool (!(al x y||decide (x=y))))
 |.geq=>some (.bool (!al x y))
 |_=>none
def w6 (op:BinOp) (b:Bool):Option AV :=
 match op with
 |.eql=>some (.bool b)
 |.neq=>some (.bool (!b))
 |_=>none
def dJ (op:BinOp) (x y:AV):Option AV :=
 match x,y with
 |.v (.int k a),.v (.int k' b) =>
  match op with
  |.shl=>B9 .shl k a b
  |.shr=>B9 .shr k a b
  |op=>if k=k' then sI op k a b else none
 |.str a,.str b=>uh op a b
 |_,_=>none
def iI:LK->AV->AV->Option Bool
 |.i,.v (.int k a),.v (.int k' b)=>if k=k' then some (decide (a=b)) else none
 |.s,.str a,.str b=>some (decide (a=b))
 |.b,.v (.bool a),.v (.bool b)=>some (a==b)
 |_,_,_=>none
def iH (lk:LK) (k:AV):bN->Option (Option (Nat×AV))
 |[]=>some none
 |[k',v]::r=>match iI lk k k' with
  |some true=>some (some (0,v))
  |some false=>match iH lk k r with
   |some (some (i,x))=>some (some (i+1,x))
   |some none=>some none
   |none=>none
  |none=>none
 |_::_=>none
def sH:LK->AV->Bool
 |.i,.v (.int _ _)=>true
 |.s,.str _=>true
 |.b,.v (.bool _)=>true
 |_,_=>false
def eR:List LK->List AV->List AV->Option Bool
 |[],[],[]=>some true
 |k::ks,a::x,b::y=>match iI k a b,eR ks x y with
  |some p,some q=>some (p&&q)
  |_,_=>none
 |_,_,_=>none
def unA (op:UnOp) (x:AV):Option AV :=
 match op,x with
 |.neg,.v (.int k n)=>some (.int k (k.wrap (0-n)))
 |.not,.v (.bool b)=>some (.bool (!b))
 |_,_=>none
def aa {α:Type} (l:List α) (off:Nat) (new:List α):List α:=l.take off++new++l.drop (off+new.length)
def sh (zero:List AV):List (Nat×Nat×AV)->Option (List AV)
 |[]=>some zero
 |(off,n,x)::r=>if x.cells.length=n/\off+n<=zero.length/\x.cells.all AV.one=true then sh (aa zero off x.cells) r else none
def kq (sz:Nat) (zero:List (List AV)):List (Nat×AV)->Option (List (List AV))
 |[]=>some zero
 |(i,x)::r=>if x.cells.length=sz/\i<zero.length/\x.cells.all AV.one=true then kq sz (zero.set i x.cells) r else none
def gj (cells:List AV) (off:Nat):Option Nat->Option AV
 |none=>cells[off]?
 |some n=>if off+n<=cells.length then some (.agg ((cells.drop off).take n)) else none
def idxOf:AV->Option Int
 |.v (.int _ n)=>some n
 |_=>none
def bV (len top:Nat) (lo hi mx:Option AV):Option (Nat×Nat×Option Nat) :=
 let m:Option (Option Nat):=match mx with
  |none=>some none
  |some x=>match idxOf x with
   |some i=>if 0<=i/\i<=top then some (some i.toNat) else none
   |none=>none
 match m with
 |none=>none
 |some m =>
  let h:Option Nat:=match hi with
   |none=>if m.isSome then none else some len
   |some x=>match idxOf x with
    |some i=>if 0<=i/\i<=(m.getD top:Nat) then some i.toNat else none
    |none=>none
  match h with
  |none=>none
  |some h =>
   let l:Option Nat:=match lo with
    |none=>some 0
    |some x=>match idxOf x with
     |some i=>if 0<=i/\i<=h then some i.toNat else none
     |none=>none
   match l with
   |none=>none
   |some l=>some (l,h,m)
def dY (m:Option Nat) (l:Nat) (cap:Option Nat):Option Nat :=
 match m with
 |some m=>some (m-l)
 |none=>cap.map (· - l)
def b8 (n:Nat) (x:AV) (lo hi mx:Option AV):Option AV :=
 match x with
 |.sl r sz i len cap=>if sz=n then
   match bV len (cap.getD len) lo hi mx with
   |some (l,h,m)=>some (.sl r sz (i+l) (h-l) (dY m l cap))
   |none=>none
  else none
 |.rs nil sz es cap=>if nil=true\/sz=n then
   match bV es.length es.length lo hi mx with
   |some (l,h,m)=>some (.rs nil sz ((es.take h).drop l) (dY m l cap))
   |none=>none
  else none
 |_=>none
def eS (x:AV) (lo hi:Option AV):Option AV :=
 match x with
 |.str s=>match bV s.length s.length lo hi none with
  |some (l,h,_)=>some (.str ((s.take h).drop l))
  |none=>none
 |_=>none
def bytesOf (l:List UInt8):bN:=l.map fun b=>[.v (.int .u8 b.toNat)]
def pE:List AV->Option UInt8
 |[.v (.int .u8 n)]=>some (UInt8.ofNat n.toNat)
 |_=>none
def eQ:bN->Option (List UInt8)
 |[]=>some []
 |c::r=>match pE c,eQ r with
  |some b,some l=>some (b::l)
  |_,_=>none
def Ap:bN->Option (List UInt8)
 |[]=>some []
 |c::r=>match pE c,Ap r with
  |some b,some l=>match c with
   |[.v (.int .u8 n)]=>if n=b.toNat then some (b::l) else none
   |_=>none
  |_,_=>none
def fQ (tm:Nat->AV):iZ->Option AV
 |.dj x=>some (ev tm x)
 |.pick c a b=>match ev tm c with
  |.v (.bool t)=>some (if t then ev tm a else ev tm b)
  |_=>none
 |.build zero parts=>(sh zero (parts.map fun p=>(p.1,p.2.1,ev tm p.2.2))).map .agg
 |.bp false sz zero parts=>(kq sz zero (parts.map fun p=>(p.1,ev tm p.2))).map fun es=>.rs false sz es (some es.length)
 |.load n x=>match ev tm x with
  |.rp cells=>gj cells 0 n
  |_=>none
 |.x8 x=>match ev tm x with
  |.ptr r i o=>some (.ptr r i o)
  |.rp cs=>some (.rp cs)
  |.fn (.func f) a b=>some (.fn (.func f) a b)
  |_=>none
 |.bin op x y=>dJ op (ev tm x) (ev tm y)
 |.YF op x y=>match ev tm x,ev tm y with
  |.v (.bool a),.v (.bool b)=>w6 op (a==b)
  |_,_=>none
 |.W3 op x y=>match ev tm x,ev tm y with
  |.rs n _ _ _,.rs true _ _ _=>w6 op n
  |.sl ..,.rs true _ _ _=>w6 op false
  |_,_=>none
 |.YE neg ks x y=>match ev tm x,ev tm y with
  |.agg a,.agg b=>(eR ks a b).map fun q=>.bool (if neg then !q else q)
  |_,_=>none
 |.un op x=>unA op (ev tm x)
 |.conv k x=>match ev tm x with
  |.v (.int _ n)=>some (.int k (k.wrap n))
  |_=>none
 |.Xa x=>match ev tm x with
  |.str l=>some (.str l)
  |_=>none
 |.L0 x=>match ev tm x with
  |.rs nil sz es _=>if nil=true\/sz=1 then (eQ es).map .str else none
  |_=>none
 |.r2s x=>match ev tm x with
  |.v (.int _ n)=>some (.str (Utf8.encode n).data.toList)
  |_=>none
 |.nr x lo hi=>eS (ev tm x) (Hq tm lo) (Hq tm hi)
 |.slice n x lo hi mx=>b8 n (ev tm x) (Hq tm lo) (Hq tm hi) (Hq tm mx)
 |.lJ n x i=>match ev tm x,ev tm i with
  |.sl r sz j len _,.v (.int _ k)=>if sz=n/\0<=k/\k<len then some (.ptr r (j+k.toNat) 0) else none
  |.rs _ sz es _,.v (.int _ k)=>if sz=n/\0<=k then (es[k.toNat]?).map .rp else none
  |_,_=>none
 |.idx x i=>match ev tm x,ev tm i with
  |.str s,.v (.int _ k)=>if 0<=k then (s[k.toNat]?).map fun b=>.int .u8 b.toNat else none
  |_,_=>none
 |.sQ off x=>match ev tm x with
  |.ptr r i o=>some (.ptr r i (o+off))
  |.rp cells=>some (.rp (cells.drop off))
  |_=>none
 |.field off n x=>match ev tm x with
  |.agg cs=>gj cs off n
  |_=>none
 |.ext x i=>match ev tm x with
  |.bE vs=>vs[i]?
  |_=>none
 |.GD t x=>some (.Bi t (ev tm x))
 |.rQ f a b=>some (.fn f (a.map (ev tm)) (b.map (ev tm)))
 |.iu x=>match ev tm x with
  |.str s=>some (.int .i64 s.length)
  |_=>none
 |.len x=>match ev tm x with
  |.sl _ _ _ len _=>some (.int .i64 len)
  |.rs _ _ es _=>some (.int .i64 es.length)
  |_=>none
 |.cap x=>match ev tm x with
  |.sl _ _ _ _ (some c)=>some (.int .i64 c)
  |.rs _ _ _ (some c)=>some (.int .i64 c)
  |_=>none
 |.min x y=>match ev tm x,ev tm y with
  |.v (.int k a),.v (.int k' b)=>some (.int k (if b<a then b else a))
  |_,_=>none
 |.max x y=>match ev tm x,ev tm y with
  |.v (.int k a),.v (.int k' b)=>some (.int k (if b>a then b else a))
  |_,_=>none
 |.Am op x y=>match ev tm x,ev tm y with
  |.v (.pointer none),.v (.pointer none)=>w6 op true
  |.ptr ..,.v (.pointer none)=>w6 op false
  |.rp _,.v (.pointer none)=>w6 op false
  |.ptr r i o,.ptr r' i' o'=>if r=r'/\i=i'/\o=o' then w6 op true else none
  |_,_=>none
 |.DV x=>match ev tm x with
  |.rs true _ _ _=>some (.v (.pointer none))
  |.sl r sz i len _=>if 0<len/\sz=1 then some (.ptr r i 0) else none
  |_=>none
 |_=>none
def ls (tm:Nat->AV) (hp:Heap):iZ->Option (AV×Nat)
 |.load n x=>match ev tm x with
  |.ptr r i o=>match hp r with
   |some es=>match es[i]? with
    |some l=>(gj l o n).map fun v=>(v,r)
    |none=>none
   |none=>none
  |_=>none
 |.L0 x=>match ev tm x with
  |.sl r sz i len _=>match hp r with
   |some es=>if sz=1/\i+len<=es.length then (eQ ((es.drop i).take len)).map fun l=>(.str l,r) else none
   |none=>none
  |_=>none
 |.XI x=>match ev tm x with
  |.ptr r 0 0=>match hp r with
   |some ((_::_)::_)=>some (.ptr r 0 0,r)
   |_=>none
  |_=>none
 |.XR t k x=>match ev tm x with
  |.ptr q 0 0=>match hp (q+1) with
   |some [[.ty t' k']]=>if t'=t/\k'=k then some (.ptr q 0 0,q+1) else none
   |_=>none
  |_=>none
 |.vg lk zero ok m k=>match ev tm m with
  |.mp r=>match hp r with
   |some es=>if sH lk (ev tm k)=true then
     match iH lk (ev tm k) es with
     |some (some (_,v))=>some (if ok then .bE [v,.bool true] else v,r)
     |some none=>some (if ok then .bE [zero,.bool false] else zero,r)
     |none=>none
    else none
   |none=>none
  |_=>none
 |.ML m=>match ev tm m with
  |.mp r=>match hp r with
   |some es=>some (.int .i64 es.length,r)
   |none=>none
  |_=>none
 |_=>none
def aR (hp:Heap) (sz:Nat):AV->Option bN
 |.rs nil z es _=>if nil=true\/z=sz then some es else none
 |.sl r z i len _=>if z=sz then match hp r with
   |some es=>if i+len<=es.length then some ((es.drop i).take len) else none
   |none=>none
  else none
 |.str l=>if sz=1 then some (bytesOf l) else none
 |_=>none
def cF (sz bytes:Nat) (s:AV) (new:bN) (hp:Heap) (nx:Nat):Option (AV×Heap×Nat) :=
 match s with
 |.rs nil z es cap=>if nil=true\/z=sz then
   if new.length=0 then some (.rs nil z es cap,hp,nx)
   else match cap with
    |some c=>if c<es.length+new.length/\(es.length+new.length)*bytes<=140737488355328 then
      some (.sl nx sz 0 (es.length+new.length) none,ab hp nx (some (es++new)),nx+1) else none
    |none=>none
  else none
 |.sl r z i len cap=>if z=sz then
   match hp r with
   |none=>none
   |some es=>if es.length<i+len then none else
    match cap with
    |some c =>
     if len+new.length<=c then
      if i+len+new.length<=es.length then some (.sl r sz i (len+new.length) (some c),ab hp r (some (aa es (i+len) new)),nx) else none
     else if (len+new.length)*bytes<=140737488355328 then
      some (.sl nx sz 0 (len+new.length) none,ab hp nx (some ((es.drop i).take len++new)),nx+1)
     else none
    |none =>
     if i+len+new.length<=es.length then some (.sl r sz i (len+new.length) none,ab hp r (some (aa es (i+len) new)),nx)
     else if (len+new.length)*bytes<=140737488355328 then
      some (.sl nx sz 0 (len+new.length) none,ab (ab hp r none) nx (some ((es.drop i).take len++new)),nx+1)
     else none
  else none
 |_=>none
def va (t:TypeId) (s:AV) (new:bN) (hp:Heap) (nx:Nat):Option (AV×Heap×Nat) :=
 match s with
 |.rs true z [] (some 0) =>
  if new.length=0 then some (.rs true z [] (some 0),hp,nx)
  else if new.length<=140737488355328 then some (.sl nx 1 0 new.length none,ab (ab hp nx (some new)) (nx+1) (some [[.ty t 0]]),nx+2) else none
 |.sl q sz i len none=>if sz=1/\i=0 then
   match hp (q+1),hp q with
   |some [[.ty t' k]],some es=>if t'=t/\len<=es.length then
     if len+new.length<=es.length then some (.sl q 1 0 (len+new.length) none,ab hp q (some (aa es len new)),nx)
     else if len+new.length<=140737488355328 then
      some (.sl nx 1 0 (len+new.length) none,ab (ab (ab hp q none) nx (some (es.take len++new))) (nx+1) (some [[.ty t 0]]),nx+2)
     else none
    else none
   |_,_=>none
  else none
 |_=>none
def g9:bN->Nat->List Nat
 |[],_=>[]
 |[.v (.bool true)]::r,i=>i::g9 r (i+1)
 |_::r,i=>g9 r (i+1)
def eX (tm:Nat->AV) (hp:Heap) (nx:Nat):iZ->Option (AV×Heap×Nat)
 |.alloc zero=>some (.ptr nx 0 0,ab hp nx (some [zero]),nx+1)
 |.box x=>if (ev tm x).cells.all AV.one=true then some (.ptr nx 0 0,ab hp nx (some [(ev tm x).cells]),nx+1) else none
 |.bp true sz zero parts=>match kq sz zero (parts.map fun p=>(p.1,ev tm p.2)) with
  |some es=>some (.sl nx sz 0 es.length (some es.length),ab hp nx (some es),nx+1)
  |none=>none
 |.store n x y=>match ev tm x with
  |.ptr r i o=>match hp r with
   |some es=>match es[i]? with
    |some l=>if (ev tm y).cells.length=n/\o+n<=l.length/\(ev tm y).cells.all AV.one=true then
      some (.v undef,ab hp r (some (es.set i (aa l o (ev tm y).cells))),nx) else none
    |none=>none
   |none=>none
  |_=>none
 |.ZC x=>match ev tm x with
  |.str l=>some (.sl nx 1 0 l.length none,ab hp nx (some (bytesOf l)),nx+1)
  |_=>none
 |.append sz bytes s x=>match aR hp sz (ev tm x) with
  |some new=>if new.all (fun l=>l.all AV.one)=true then cF sz bytes (ev tm s) new hp nx else none
  |none=>none
 |.Fu sz bytes zero s x=>match ev tm x with
  |.v (.int _ n)=>if 0<=n/\n*bytes<=140737488355328/\n<=140737488355328/\zero.length=sz/\zero.all AV.one=true then cF sz bytes (ev tm s) (List.replicate n.toNat zero) hp nx else none
  |_=>none
 |.copy sz d s=>match aR hp sz (ev tm s) with
  |some src=>match ev tm d with
   |.sl r z i len _=>if z=sz then
     match hp r with
     |some es=>if i+len<=es.length/\(src.take len).all (fun l=>l.all AV.one)=true then
       some (.int .i64 (Nat.min src.length len),ab hp r (some (aa es i (src.take len))),nx) else none
     |none=>none
    else none
   |_=>none
  |none=>none
 |.sb=>some (.mp nx,ab hp nx (some []),nx+1)
 |.D9 lk m k v=>match ev tm m with
  |.mp r=>match hp r with
   |some es=>if sH lk (ev tm k)=true then
     match iH lk (ev tm k) es with
     |some (some (i,_))=>some (.v undef,ab hp r (some (es.set i [ev tm k,ev tm v])),nx)
     |some none=>some (.v undef,ab hp r (some (es++[[ev tm k,ev tm v]])),nx)
     |none=>none
    else none
   |none=>none
  |_=>none
 |.sD m=>match ev tm m with
  |.mp r=>match hp r with
   |some es=>some (.tk 0 nx r,ab (ab (ab hp nx (some ([.v (.int .i64 0)]::es.map fun _=>[.v (.bool true)]))) r none) (nx+1) (some es),nx+2)
   |none=>none
  |_=>none
 |.tB x=>match ev tm x with
  |.tk 0 q r=>match hp q,hp (q+1) with
   |some (_::fl),some es=>match g9 fl 0 with
    |[]=>some (.bE [.v (.bool false)],ab (ab (ab hp q none) (q+1) none) r (some es),nx)
    |[j]=>match es[j]? with
     |some [k,v]=>some (.bE [.v (.bool true),k,v],ab hp q (some ([.v (.int .i64 (j+1:Nat))]::fl.set j [.v (.bool false)])),nx)
     |_=>none
    |_=>none
   |_,_=>none
  |_=>none
 |.yf x=>match ev tm x with
  |.tk 0 q r=>match hp q,hp (q+1) with
   |some ([.v (.int .i64 n)]::_),some es=>if 0<n then
     match es[n.toNat-1]? with
     |some [k,v]=>some (.bE [k,v],hp,nx)
     |_=>none
    else none
   |_,_=>none
  |_=>none
 |.MO lk m k=>match ev tm m with
  |.mp r=>match hp r with
   |some es=>if sH lk (ev tm k)=true then
     match iH lk (ev tm k) es with
     |some (some (i,_))=>some (.v (.tuple #[]),ab hp r (some (es.eraseIdx i)),nx)
     |some none=>some (.v (.tuple #[]),ab hp r (some es),nx)
     |none=>none
    else none
   |none=>none
  |_=>none
 |.ye lk zero m k=>match ev tm m with
  |.mp r=>match hp r with
   |some es=>if sH lk (ev tm k)=true then
     match iH lk (ev tm k) es with
     |some (some (i,v))=>some (.bE [v,.tk (i+1) nx r],ab (ab (ab hp r (some (es.set i [ev tm k,v]))) r none) nx (some (es.set i [ev tm k,v])),nx+1)
     |some none=>some (.bE [zero,.tk (es.length+1) nx r],ab (ab (ab hp r (some (es++[[ev tm k,zero]]))) r none) nx (some (es++[[ev tm k,zero]])),nx+1)
     |none=>none
    else none
   |none=>none
  |_=>none
 |.tC m s v=>match ev tm m,ev tm s with
  |.mp r,.tk (i+1) q r'=>if r=r' then
    match hp q with
    |some es=>match es[i]? with
     |some [k,_]=>some (.v undef,ab (ab (ab hp q (some (es.set i [k,ev tm v]))) q none) r (some (es.set i [k,ev tm v])),nx)
     |_=>none
    |none=>none
   else none
  |_,_=>none
 |.clear sz zero x=>match ev tm x with
  |.sl r z i len _=>if z=sz then
    match hp r with
    |some es=>if i+len<=es.length/\zero.length=sz/\0<sz/\zero.all AV.one=true then
      some (.v (.tuple #[]),ab hp r (some (aa es i (List.replicate len zero))),nx) else none
    |none=>none
   else none
  |_=>none
 |.kD sz bytes zero len cap=>match ev tm len,ev tm cap with
  |.v (.int _ n),.v (.int _ c)=>if 0<=n/\n<=c/\c*bytes<=140737488355328/\c<=140737488355328 then
    some (.sl nx sz 0 n.toNat (some c.toNat),ab hp nx (some (List.replicate c.toNat zero)),nx+1) else none
  |_,_=>none
 |.FX t sz zero parts=>match kq sz zero (parts.map fun p=>(p.1,ev tm p.2)) with
  |some es=>some (.sl nx sz 0 es.length (some es.length),ab (ab hp nx (some es)) (nx+1) (some [[.ty t 0],[]]),nx+2)
  |none=>none
 |.xE t zero=>some (.ptr nx 0 0,ab (ab hp nx (some [zero])) (nx+1) (some [[.ty t zero.length]]),nx+2)
 |.J3 t s x=>match aR hp 1 (ev tm x) with
  |some new=>if new.all (fun l=>l.all AV.one)=true then va t (ev tm s) new hp nx else none
  |none=>none
 |.L7 t x n=>match ev tm x,ev tm n with
  |.v (.pointer none),.v (.int .i64 0)=>some (.str [],hp,nx)
  |.ptr q 0 0,.v (.int .i64 n)=>match hp (q+1),hp q with
   |some [[.ty t' _]],some es=>if t'=t/\0<n/\n<=es.length/\n<=9223372036854775807 then (Ap (es.take n.toNat)).map fun l=>(.str l,ab hp q none,nx) else none
   |_,_=>none
  |_,_=>none
 |_=>none
inductive Kd where
 |p
 |r (x:Nat)
 |e
 |a
def M3:iZ->Kd
 |.alloc _=>.a
 |.box _=>.a
 |.sb=>.a
 |_=>.e
abbrev aQ:=Nat->List AV->Heap->Nat->AV->Heap->Nat->Kd->Prop
def gK (R:aQ) (f:Nat) (args:List AV) (hp:Heap) (nx:Nat) (K:AV->Heap->Nat->Kd->Prop):Prop :=
 ∃v hp' nx' k,R f args hp nx v hp' nx' k/\K v hp' nx' k
def eu (R:aQ) (co:iZ) (s:St) (K:AV->Heap->Nat->Kd->Prop):Prop :=
 match co with
 |.call f args=>gK R f (args.map (ev s.tm)) s.hp s.nx K
 |.kr g args=>match ev s.tm g with
  |.fn (.func f) first cap=>gK R f (first++args.map (ev s.tm)++cap) s.hp s.nx K
  |_=>False
 |co=>match fQ s.tm co with
  |some v=>K v s.hp s.nx .p
  |none=>match ls s.tm s.hp co with
   |some (v,r)=>K v s.hp s.nx (.r r)
   |none=>match eX s.tm s.hp s.nx co with
    |some (v,hp,nx)=>K v hp nx (M3 co)
    |none=>False
def St.put (s:St) (d:Option Nat) (v:AV) (hp:Heap) (nx:Nat):St :=
 match d with
 |some d=>⟨jR s.tm d v,hp,nx⟩
 |none=>⟨s.tm,hp,nx⟩
def gL (tm:Nat->AV):Option (Nat×Bool)->Option Bool
 |none=>some true
 |some (d,want)=>match tm d with
  |.v (.bool b)=>some (b==want)
  |.v (.tuple _)=>some false
  |_=>none
def gi (R:aQ):List aK->St->(St->Prop)->Prop
 |[],s,Q=>Q s
 |o::rest,s,Q=>match gL s.tm o.guard with
  |some true=>eu R o.op s fun v hp nx _=>gi R rest (s.put o.dst v hp nx) Q
  |some false=>gi R rest (s.put o.dst (.v undef) s.hp s.nx) Q
  |none=>False
structure Rec where
 k:Kd
 hp:Heap
 hp':Heap
def dZ (R:aQ):List aK->St->List Rec->(St->List Rec->Prop)->Prop
 |[],s,bh,Q=>Q s bh
 |o::rest,s,bh,Q=>match gL s.tm o.guard with
  |some true=>eu R o.op s fun v hp nx k=>dZ R rest (s.put o.dst v hp nx) (bh++[⟨k,s.hp,hp⟩]) Q
  |some false=>dZ R rest (s.put o.dst (.v undef) s.hp s.nx) (bh++[⟨.p,s.hp,s.hp⟩]) Q
  |none=>False
def gn (a b:Rec):Prop :=
 match a.k,b.k with
 |.e,.e=>False
 |.a,.e=>False
 |.r x,.e=>b.hp x=b.hp' x
 |.e,.r x=>a.hp x=a.hp' x
 |.r x,.a=>b.hp x=b.hp' x
 |.a,.r x=>a.hp x=a.hp' x
 |_,_=>True
def Kd.Ik:Kd->Bool
 |.a=>true
 |_=>false
def Kd.xx:Kd->Bool
 |.a | .e=>true
 |_=>false
def iM (pre:List (List Nat)):List (Bool×Bool)->List Nat->Nat->Bool
 |[],_,_=>true
 |(a,e)::r,lF,i=>(if a then pre.all fun p=>if p.contains i then lF.all fun k=>p.contains k else true else true)&&iM pre r (if e then lF++[i] else lF) (i+1)
def cW (pre:List (List Nat)) (bh:List Rec):Prop:=go pre bh [] 0/\iM pre (bh.map fun r=>(r.k.Ik,r.k.xx)) [] 0=true
where
 one (p:List Nat) (b:Rec):List Rec->Nat->Prop
  |[],_=>True
  |a::rest,i=>(if p.contains i then True else gn a b)/\one p b rest (i+1)
 go:List (List Nat)->List Rec->List Rec->Nat->Prop
  |p::ps,b::rest,done,j=>one p b done 0/\go ps rest (done++[b]) (j+1)
  |_,[],_,_=>True
  |[],_::_,_,_=>False
inductive eP where
 |normal
 |exit (id:Nat)
 |ret
def jb (F:(eP->St->Prop)->St->Prop) (Q:eP->St->Prop):Nat->St->Prop
 |0,_=>False
 |n+1,s=>F (fun e s'=>match e with
  |.normal=>jb F Q n s'
  |e=>Q e s') s
def MC (hp:Heap) (q:Nat) (fl es:bN) (j:Nat):Option (AV×Heap) :=
 match es[j]? with
 |some [k,v]=>some (.bE [.v (.bool true),k,v],ab hp q (some ([.v (.int .i64 (j+1:Nat))]::fl.set j [.v (.bool false)])))
 |_=>none
def z8 (tm:Nat->AV) (hp:Heap) (x:fc) (K:AV->Heap->Prop):Prop :=
 ∃q r hd fl es,ev tm x=.tk 0 q r/\hp q=some (hd::fl)/\hp (q+1)=some es /\
  (g9 fl 0=[]->K (.bE [.v (.bool false)]) (ab (ab (ab hp q none) (q+1) none) r (some es))) /\
  ∀j∈g9 fl 0,∃p,MC hp q fl es j=some p/\K p.1 p.2
def W (R:aQ):cC->(eP->St->Prop)->St->Prop
 |.skip,Q,s=>Q .normal s
 |.region ops,Q,s=>gi R ops s (Q .normal)
 |.draw pre ops,Q,s=>dZ R ops s [] fun s' bh=>cW pre bh/\Q .normal s'
 |.seq a b,Q,s=>W R a (fun e s'=>match e with
  |.normal=>W R b Q s'
  |e=>Q e s') s
 |.cond c a b,Q,s=>match ev s.tm c with
  |.v (.bool t)=>if t then W R a Q s else W R b Q s
  |_=>False
 |.block id a,Q,s=>W R a (fun e s'=>match e with
  |.exit i=>if i=id then Q .normal s' else Q (.exit i) s'
  |e=>Q e s') s
 |.loop a,Q,s=>∃n,jb (W R a) Q n s
 |.exit id,Q,s=>Q (.exit id) s
 |.ret,Q,s=>Q .ret s
 |.choose d x ops,Q,s=>z8 s.tm s.hp x fun v hp=>gi R ops ⟨jR s.tm d v,hp,s.nx⟩ (Q .normal)
 |.ah l,Q,s=>Q .normal ⟨fun t=>if l.contains t=true then s.tm t else .any,s.hp,s.nx⟩
def dS {α β:Type} (f:α->Option β):List α->Option (List β)
 |[]=>some []
 |x::r=>match f x,dS f r with
  |some y,some l=>some (y::l)
  |_,_=>none
def j5:Nat->Heap->AV->Option AV
 |0,_,_=>none
 |d+1,hp,x=>if x.closed then some x else
  match x with
  |.sl r sz i len cap=>match hp r with
   |some es=>if i+len<=es.length then (dS (dS (j5 d hp)) ((es.drop i).take len)).map fun es'=>.rs false sz es' cap else none
   |none=>none
  |.agg cs=>(dS (j5 d hp) cs).map .agg
  |.bE cs=>(dS (j5 d hp) cs).map .bE
  |_=>none
mutual
def AV.flat:AV->Bool
 |.v _ | .str _ | .any=>true
 |.rs n _ es _=>n&&es.isEmpty
 |.agg cs=>EW cs
 |.bE cs=>EW cs
 |_=>false
def EW:List AV->Bool
 |[]=>true
 |x::r=>x.flat&&EW r
end
def de (hp:Heap) (L:List Nat):Heap:=fun r=>if r∈L then hp r else none
def j7 (hp:Heap) (L:List Nat):Heap:=fun r=>if r∈L then none else hp r
def fJ:Nat->Heap->AV->Option AV
 |0,_,_=>none
 |d+1,hp,x=>if x.closed then some x else
  match x with
  |.ptr r i o=>some (.ptr r i o)
  |.mp r=>some (.mp r)
  |.sl r sz i len cap=>match hp r with
   |some es=>if i+len<=es.length then (dS (dS (j5 d hp)) ((es.drop i).take len)).map fun es'=>.rs false sz es' cap else none
   |none=>some (.sl r sz i len cap)
  |.agg cs=>(dS (fJ d hp) cs).map .agg
  |.bE cs=>(dS (fJ d hp) cs).map .bE
  |.fn f a b=>match dS (fJ d hp) a,dS (fJ d hp) b with
   |some a',some b'=>some (.fn f a' b')
   |_,_=>none
  |_=>none
def kg (s:St):RV->Option AV
 |.t n=>some (s.tm n)
 |.cell a n=>match s.tm a with
  |.ptr r i o=>match s.hp r with
   |some es=>match es[i]? with
    |some l=>gj l o n
    |none=>none
   |none=>none
  |.rp cells=>gj cells 0 n
  |_=>none
def lY (rs:List RV) (s:St):Option AV :=
 match rs with
 |[r]=>kg s r
 |rs=>(dS (kg s) rs).map .bE
def init (args:List AV) (hp:Heap) (nx:Nat):St:=⟨fun t=>(args[t]?).getD .any,hp,nx⟩
def Sub (hp' hp:Heap):Prop:=∀r,hp' r=hp r\/hp' r=none
structure Env where
 fn:Nat->Option au
 Ar:aQ
def ku (e:eP):Prop:=e=.normal\/e=.ret
def uV (E:Env):Nat->aQ
 |0=>fun _ _ _ _ _ _ _ _=>False
 |n+1=>fun f args hp nx v hp' nx' k =>
  E.Ar f args hp nx v hp' nx' k \/
  (∃cf,E.fn f=some cf/\args.length=cf.np /\
   ((k=.p/\hp'=hp/\nx'=nx/\bT args=true/\W (uV E n) cf.body (fun e s=>ku e/\∃v1,lY cf.kx s=some v1/\j5 6 s.hp v1=some v) (init args cG 0)) \/
    (k=.e/\W (uV E n) cf.body (fun e s=>ku e/\lY cf.kx s=some v/\Sub hp' s.hp/\nx'=s.nx) (init args hp nx)))) \/
  (k=.e/\hp'=hp/\nx'=nx/\v.flat=true/\∃args0,dS (j5 6 hp) args=some args0/\uV E n f args0 cG 0 v cG 0 .p) \/
  (k=.e/\∃args0 L k',dS (fJ 6 (de hp L)) args=some args0/\uV E n f args0 (j7 hp L) nx v hp' nx' k') \/
  (k=.e/\hp'=hp/\nx'=nx/\v.flat=true/\∃nx1,uV E n f args hp nx v hp nx1 .e)
def aZ (E:Env):aQ:=fun f args hp nx v hp' nx' k=>∃n,uV E n f args hp nx v hp' nx' k
def IG:Nat->Option (List Value):=fun _=>none
theorem CQ:∀g vs,IG g≠some vs:=fun _ _ h=>nomatch h
structure Place where
 B:Nat
 O:Nat
 sz:Nat
 N:Nat
 aux:List Nat
abbrev Inj:=Nat->Option Place
def adW (ι:Inj) (hp:Heap) (B:Nat):Prop:=∃r p,hp r≠none/\ι r=some p/\p.B=B
structure QX where
 F:Nat->Prop
 G:List Deferred
instance:CoeFun QX (fun _=>Nat->Prop):=⟨QX.F⟩
structure Cx where
 F:QX
 ι:Inj
 hp:Heap
 w:World
def Cx.own (c:Cx) (B:Nat):Prop:=adW c.ι c.hp B
def Cx.ro (c:Cx) (B:Nat):Prop:=B<c.w.heap.size/\¬c.own B/\¬c.F B
inductive aC (c:Cx):AV->Value->Prop
 |v (x:Value):aC c (.v x) x
 |str (l:List UInt8):aC c (.str l) (.string ⟨l.toArray⟩)
 |ptr {r i off:Nat} {p:Place} (h:c.ι r=some p) (hm:p.O<=p.N):aC c (.ptr r i off) (.pointer (some ⟨p.B,p.O+i*p.sz+off,none⟩))
 |rp {cells:List AV} {B O:Nat} (g:Nat->Value) (ck:cells≠[]->c.ro B)
   (hc:∀(k:Nat) (av:AV),cells[k]?=some av->c.w.cell? ⟨B,O+k,none⟩=some (g k)) (hv:∀(k:Nat) (av:AV),cells[k]?=some av->aC c av (g k)) :
   aC c (.rp cells) (.pointer (some ⟨B,O,none⟩))
 |sl {r sz i len n:Nat} {cap:Option Nat} {p:Place} {a:Addr} (hι:c.ι r=some p) (hs:p.sz=sz) (ha:n≠0->a=⟨p.B,p.O+i*sz,none⟩)
   (hl:len<=n) (dm:∀m,cap=some m->m=n) (hN:n≠0->p.O+(i+n)*sz<=p.N) (hE:cap=none->p.O+(i+n)*sz=p.N) (hm:p.O<=p.N):aC c (.sl r sz i len cap) (.slice (some a) len n)
 |mp {r:Nat} {p:Place} (h:c.ι r=some p) (hm:p.O=p.N+1):aC c (.mp r) (.map (some p.B))
 |it {q r:Nat} {p p' pr:Place} (h:c.ι q=some p) (h':c.ι (q+1)=some p') (hr:c.ι r=some pr) (hm:p.O=p.N+2) (rq:p'.O=p'.N+3) (rR:pr.O=pr.N+1) (e1:p'.B=pr.B) (e2:p.N=pr.B) (e3:p'.aux=p.aux) (e4:p'.sz=p.sz) :
   aC c (.tk 0 q r) (.pointer (some ⟨p.B,0,none⟩))
 |Gb {i q r s:Nat} {p pr:Place} (h:c.ι q=some p) (hr:c.ι r=some pr) (hm:p.O=p.N+3) (rR:pr.O=pr.N+1) (e1:p.B=pr.B) (hs:p.aux[i]?=some s):aC c (.tk (i+1) q r) (.int .i64 s)
 |nil {sz:Nat} {cap:Option Nat} (dm:∀m,cap=some m->m=0):aC c (.rs true sz [] cap) (.slice none 0 0)
 |rs {sz n len:Nat} {es:List (List AV)} {cap:Option Nat} {a:Addr} (g:Nat->Nat->Value) (hlen:es.length=len) (hl:len<=n) (dm:∀m,cap=some m->m=n)
   (eo:∀(i:Nat) (l:List AV),es[i]?=some l->l.length=sz) (ck:es≠[]->c.ro a.block/\a.spot=none)
   (hc:∀(i j:Nat) (l:List AV) (av:AV),es[i]?=some l->l[j]?=some av->c.w.cell? ⟨a.block,a.off+i*sz+j,none⟩=some (g i j))
   (hv:∀(i j:Nat) (l:List AV) (av:AV),es[i]?=some l->l[j]?=some av->aC c av (g i j)):aC c (.rs false sz es cap) (.slice (some a) len n)
 |agg {cells:List AV} {cs:Array Value} (hl:cells.length=cs.size) (hv:∀(k:Nat) (av:AV) (u:Value),cells[k]?=some av->cs[k]?=some u->aC c av u):aC c (.agg cells) (.agg cs)
 |bE {cells:List AV} {cs:Array Value} (hl:cells.length=cs.size) (hv:∀(k:Nat) (av:AV) (u:Value),cells[k]?=some av->cs[k]?=some u->aC c av u):aC c (.bE cells) (.tuple cs)
 |fn {f:Fn} {x y:List AV} {cx cy:Array Value} (h1:x.length=cx.size) (h2:y.length=cy.size)
   (hx:∀(k:Nat) (av:AV) (u:Value),x[k]?=some av->cx[k]?=some u->aC c av u) (hy:∀(k:Nat) (av:AV) (u:Value),y[k]?=some av->cy[k]?=some u->aC c av u):aC c (.fn f x y) (.func f cx cy)
 |Bi {t:TypeId} {x:AV} {u:Value} (h:aC c x u):aC c (.Bi t x) (.iface t u)
 |any (u:Value):aC c .any u
structure Ext (c c':Cx):Prop where
 F:c'.F=c.F
 ι:∀r p,c.ι r=some p->c'.ι r=some p
 size:c.w.heap.size<=c'.w.heap.size
 ah:∀B,B<c.w.heap.size->¬c.own B->¬c'.own B/\c'.w.heap[B]?=c.w.heap[B]?
 os:c'.w.os=c.w.os
 tape:c'.w.tape=c.w.tape
 output:c'.w.output=c.w.output
theorem Ext.refl (c:Cx):Ext c c:=⟨rfl,fun _ _ h=>h,zD _,fun _ _ h=>⟨h,rfl⟩,rfl,rfl,rfl⟩
theorem Ext.trans {a b c:Cx} (h:Ext a b) (k:Ext b c):Ext a c :=
 ⟨k.F.trans h.F,fun r p e=>k.ι r p (h.ι r p e),wH h.size k.size,fun B hB ho=>by
  obtain ⟨h1,h2⟩:=h.ah B hB ho
  obtain ⟨h3,h4⟩:=k.ah B (zU hB h.size) h1
  exact ⟨h3,h4.trans h2⟩,k.os.trans h.os,k.tape.trans h.tape,k.output.trans h.output⟩
theorem Ext.ro {c c':Cx} (h:Ext c c') {B:Nat} (hB:c.ro B):c'.ro B :=
 ⟨zU hB.1 h.size,(h.ah B hB.1 hB.2.1).1,by rw[h.F];exact hB.2.2⟩
theorem cell?_of_heap {w w':World} {a:Addr} (h:w'.heap[a.block]?=w.heap[a.block]?):w'.cell? a=w.cell? a:=by simp only[World.cell?,h]
theorem Ext.cell {c c':Cx} (h:Ext c c') {a:Addr} (hB:c.ro a.block):c'.w.cell? a=c.w.cell? a:=cell?_of_heap (h.ah _ hB.1 hB.2.1).2
theorem ch {α:Type} {l:List α} {k:Nat} {x:α} (h:l[k]?=some x):l≠[]:=by
 intro e;subst e;simp at h
theorem aC.mono {c c':Cx} (e:Ext c c') {x:AV} {u:Value} (h:aC c x u):aC c' x u:=by
 induction h with
 |v x=>exact .v x
 |str l=>exact .str l
 |ptr h hm=>exact .ptr (e.ι _ _ h) hm
 |mp h hm=>exact .mp (e.ι _ _ h) hm
 |it h h' hr hm rq rR e1 e2 e3 e4=>exact .it (e.ι _ _ h) (e.ι _ _ h') (e.ι _ _ hr) hm rq rR e1 e2 e3 e4
 |Gb h hr hm rR e1 hs=>exact .Gb (e.ι _ _ h) (e.ι _ _ hr) hm rR e1 hs
 |rp g ck hc hv ih=>exact .rp g (fun h=>e.ro (ck h)) (fun k av h=>by rw[e.cell (ck (ch h))];exact hc k av h) ih
 |sl hι hs ha hl dm hN hE hm=>exact .sl (e.ι _ _ hι) hs ha hl dm hN hE hm
 |nil h=>exact .nil h
 |rs g hlen hl dm eo ck hc hv ih =>
  exact .rs g hlen hl dm eo (fun h=>⟨e.ro (ck h).1,(ck h).2⟩) (fun i j l av h1 h2=>(e.cell (a:=⟨_,_,none⟩) (ck (ch h1)).1).trans (hc i j l av h1 h2)) ih
 |agg hl hv ih=>exact .agg hl ih
 |bE hl hv ih=>exact .bE hl ih
 |fn h1 h2 hx hy Qu Qt=>exact .fn h1 h2 Qu Qt
 |Bi h ih=>exact .Bi ih
 |any u=>exact .any u
def JQ (c:Cx):Prop:=∀r t k,c.hp (r+1)=some [[.ty t k]]->∃p cs fz,c.ι r=some p/\p.O=0/\c.w.heap[p.B]?=some (.cells cs t fz)/\k<=cs.size
def afF (c:Cx):Prop:=∀r t,c.hp (r+1)=some [[.ty t 0],[]]->∃p cs fz,c.ι r=some p/\c.w.heap[p.B]?=some (.cells cs t fz)/\(c.hp r≠none->fz=(0,0))
def AN (c:Cx):Prop:=JQ c/\afF c
theorem JQ.to {c c':Cx} (h:JQ c) (nc:∀r t k rest,c'.hp r=some ([.ty t k]::rest)->c.hp r=some ([.ty t k]::rest)) (hι:∀r p,c.ι r=some p->c'.ι r=some p)
  (hw:∀(B:Nat) (cs:Array Value) (t:TypeId) (fz:Nat×Nat),c.w.heap[B]?=some (.cells cs t fz)->∃cs' IJ,c'.w.heap[B]?=some (.cells cs' t IJ)/\cs'.size=cs.size):JQ c':=by
 intro r t k hr
 obtain ⟨p,cs,fz,h1,h2,h3,h4⟩:=h r t k (nc (r+1) t k _ hr)
 obtain ⟨cs',IJ,h5,h6⟩:=hw _ _ _ _ h3
 exact ⟨p,cs',IJ,hι _ _ h1,h2,h5,by omega⟩
theorem AN.to {c c':Cx} (h:AN c) (nc:∀r t k rest,c'.hp r=some ([.ty t k]::rest)->c.hp r=some ([.ty t k]::rest)) (hι:∀r p,c.ι r=some p->c'.ι r=some p)
  (hw:∀(B:Nat) (cs:Array Value) (t:TypeId) (fz:Nat×Nat),c.w.heap[B]?=some (.cells cs t fz)->∃cs',c'.w.heap[B]?=some (.cells cs' t fz)/\cs'.size=cs.size)
  (aa0:∀r,c.hp (r+1)≠none->c.ι r≠none->c'.hp r≠none->c.hp r≠none):AN c':=by
 refine ⟨h.1.to nc hι fun B cs t fz hB=>let ⟨cs',h1,h2⟩:=hw B cs t fz hB;⟨cs',fz,h1,h2⟩,fun r t hr => ?_⟩
 have se:=nc (r+1) t 0 _ hr
 obtain ⟨p,cs,fz,h1,h3,h4⟩:=h.2 r t se
 obtain ⟨cs',h5,_⟩:=hw _ _ _ _ h3
 exact ⟨p,cs',fz,hι _ _ h1,h5,fun hn=>h4 (aa0 r (by rw[se];simp) (by rw[h1];simp) hn)⟩
theorem aC.xZ {c:Cx} {t k} {u:Value} (h:aC c (.ty t k) u):False:=by cases h
def m8 (c:Cx) (es:bN) (ents:Array MapEntry):Prop:=es.length=ents.size/\∀(i:Nat) (l:List AV) (e:MapEntry),es[i]?=some l->ents[i]?=some e->∃k v,l=[k,v]/\aC c k e.key/\aC c v e.val
def lf (ents:Array MapEntry) (clock:Nat):Prop:=(∀(i:Nat) (e:MapEntry),ents[i]?=some e->e.born<clock)/\∀(i j:Nat) (e e':MapEntry),ents[i]?=some e->ents[j]?=some e'->e.born=e'.born->i=j
def acO (c:Cx) (es:bN) (p:Place) (cs:Array Value):Prop:=∀(i:Nat) (l:List AV),es[i]?=some l->l.length=p.sz/\∀j av,l[j]?=some av->∃u,cs[p.O+i*p.sz+j]?=some u/\aC c av u
def acL (es:bN) (p:Place) (seen:Array Nat):Prop:=∃(n:Nat) (fl:bN),es=[.v (.int .i64 n)]::fl/\fl.length=p.aux.length /\
 (∀(i:Nat) (l:List AV) (s:Nat),fl[i]?=some l->p.aux[i]?=some s->∃b,l=[.v (.bool b)]/\seen.contains s = !b)/\∀j,n=j+1->∃s,p.aux[j]?=some s/\seen.back?=some s
def pL (c:Cx) (es:bN) (p:Place) (o:Obj):Prop :=
 (p.O<=p.N/\∃cs e fz,o=.cells cs e fz/\cs.size=p.N/\(∀q,q<p.N->¬(fz.1<=q/\q<fz.2))/\acO c es p cs) \/
 (p.O=p.N+1/\∃ents clock,o=.map ents clock/\m8 c es ents/\lf ents clock) \/
 (p.O=p.N+2/\∃seen,o=.mapIter (some p.N) p.sz seen p.sz/\acL es p seen) \/
 (p.O=p.N+3/\∃ents,o=.map ents p.sz/\m8 c es ents/\lf ents p.sz/\ents.toList.map (·.born)=p.aux)
theorem m8.move {c c':Cx} {es:bN} {ents:Array MapEntry} (h:m8 c es ents) (mv:∀x u,aC c x u->aC c' x u):m8 c' es ents :=
 ⟨h.1,fun i l e hl he=>let ⟨k,v,g1,g2,g3⟩:=h.2 i l e hl he;⟨k,v,g1,mv _ _ g2,mv _ _ g3⟩⟩
theorem pL.move {c c':Cx} {es:bN} {p:Place} {o:Obj} (h:pL c es p o) (mv:∀x u,aC c x u->aC c' x u):pL c' es p o:=by
 rcases h with ⟨h0,cs,e,fz,h1,h2,h3,h4⟩|⟨h0,ents,clock,h1,h2,h3⟩|h|⟨h0,ents,h1,h2,h3⟩
 ·exact .inl ⟨h0,cs,e,fz,h1,h2,h3,fun i l hl=>⟨(h4 i l hl).1,fun j av hj=>let ⟨u,g1,g2⟩:=(h4 i l hl).2 j av hj;⟨u,g1,mv _ _ g2⟩⟩⟩
 ·exact .inr (.inl ⟨h0,ents,clock,h1,h2.move mv,h3⟩)
 ·exact .inr (.inr (.inl h))
 ·exact .inr (.inr (.inr ⟨h0,ents,h1,h2.move mv,h3⟩))
def uW (c:Cx):Prop:=∀g vs,IG g=some vs->c.ro g/\∃e fz,c.w.heap[g]?=some (.cells vs.toArray e fz)
theorem uW.to {c c':Cx} (h:uW c) (hG:c'.F.G=c.F.G) (ck:∀B,c.ro B->c'.ro B) (hw:∀B,c.ro B->c'.w.heap[B]?=c.w.heap[B]?):uW c':=fun g vs hg =>
 let ⟨h1,e,fz,h2⟩:=h g vs hg
 ⟨ck g h1,e,fz,(hw g h1).trans h2⟩
theorem uW.to2 {c c':Cx} (h:uW c) (ck:∀B,c.ro B->c'.ro B) (hw:∀B,c.ro B->c'.w.heap[B]?=c.w.heap[B]?):uW c':=fun g vs hg =>
 let ⟨h1,e,fz,h2⟩:=h g vs hg
 ⟨ck g h1,e,fz,(hw g h1).trans h2⟩
theorem uW.ext {c c':Cx} (h:uW c) (e:Ext c c'):uW c':=h.to (by rw[e.F]) (fun _ hB=>e.ro hB) fun B hB=>(e.ah B hB.1 hB.2.1).2
structure bf (c:Cx) (nx:Nat):Prop where
 uK:∀r,c.hp r≠none->r<nx
 lt:∀r p,c.ι r=some p->r<nx
 rU:∀r es p,c.hp r=some es->c.ι r=some p->¬c.F p.B/\∃o,c.w.heap[p.B]?=some o/\pL c es p o
 inj:∀r r' p p',c.hp r≠none->c.hp r'≠none->c.ι r=some p->c.ι r'=some p'->p.B=p'.B->r=r'
 F:∀B,c.F B->B<c.w.heap.size
 ty:AN c
 gl:uW c
theorem bf.cells {c:Cx} {nx:Nat} (h:bf c nx) {r:Nat} {es:bN} {p:Place} (h1:c.hp r=some es) (h2:c.ι r=some p) (hm:p.O<=p.N) :
  ¬c.F p.B/\∃cs e fz,c.w.heap[p.B]?=some (.cells cs e fz)/\cs.size=p.N/\(∀o,o<p.N->¬(fz.1<=o/\o<fz.2)) /\
  (∀(i:Nat) (l:List AV),es[i]?=some l->l.length=p.sz/\∀j av,l[j]?=some av->∃u,cs[p.O+i*p.sz+j]?=some u/\aC c av u):=by
 obtain ⟨hF,o,h3,h4⟩:=h.rU r es p h1 h2
 refine ⟨hF,?_⟩
 rcases h4 with ⟨_,cs,e,fz,rfl,g2,g3,g4⟩|⟨h0,_⟩|⟨h0,_⟩|⟨h0,_⟩
 ·exact ⟨cs,e,fz,h3,g2,g3,g4⟩
 all_goals omega
theorem bf.map {c:Cx} {nx:Nat} (h:bf c nx) {r:Nat} {es:bN} {p:Place} (h1:c.hp r=some es) (h2:c.ι r=some p) (hm:p.O=p.N+1) :
  ¬c.F p.B/\∃ents clock,c.w.heap[p.B]?=some (.map ents clock)/\m8 c es ents/\lf ents clock:=by
 obtain ⟨hF,o,h3,h4⟩:=h.rU r es p h1 h2
 refine ⟨hF,?_⟩
 rcases h4 with ⟨h0,_⟩|⟨_,ents,clock,rfl,g2,g3⟩|⟨h0,_⟩|⟨h0,_⟩
 ·omega
 ·exact ⟨ents,clock,h3,g2,g3⟩
 all_goals omega
theorem bf.walk {c:Cx} {nx:Nat} (h:bf c nx) {r:Nat} {es:bN} {p:Place} (h1:c.hp r=some es) (h2:c.ι r=some p) (hm:p.O=p.N+2) :
  ¬c.F p.B/\∃seen,c.w.heap[p.B]?=some (.mapIter (some p.N) p.sz seen p.sz)/\acL es p seen:=by
 obtain ⟨hF,o,h3,h4⟩:=h.rU r es p h1 h2
 refine ⟨hF,?_⟩
 rcases h4 with ⟨h0,_⟩|⟨h0,_⟩|⟨_,seen,rfl,g⟩|⟨h0,_⟩
 ·omega
 ·omega
 ·exact ⟨seen,h3,g⟩
 ·omega
theorem bf.kept {c:Cx} {nx:Nat} (h:bf c nx) {r:Nat} {es:bN} {p:Place} (h1:c.hp r=some es) (h2:c.ι r=some p) (hm:p.O=p.N+3) :
  ¬c.F p.B/\∃ents,c.w.heap[p.B]?=some (.map ents p.sz)/\m8 c es ents/\lf ents p.sz/\ents.toList.map (·.born)=p.aux:=by
 obtain ⟨hF,o,h3,h4⟩:=h.rU r es p h1 h2
 refine ⟨hF,?_⟩
 rcases h4 with ⟨h0,_⟩|⟨h0,_⟩|⟨h0,_⟩|⟨_,ents,rfl,g⟩
 ·omega
 ·omega
 ·omega
 ·exact ⟨ents,h3,g⟩
theorem bf.fresh {c:Cx} {nx:Nat} (h:bf c nx):c.ι nx=none:=by
 cases e:c.ι nx with
 |none=>rfl
 |some p=>exact absurd (h.lt nx p e) (by omega)
theorem bf.uE {c:Cx} {nx:Nat} (h:bf c nx):c.hp nx=none:=by
 cases e:c.hp nx with
 |none=>rfl
 |some es =>
  exact absurd (h.uK nx (by simp[e])) (by omega)
theorem bf.oP {c:Cx} {nx:Nat} (h:bf c nx) {B:Nat} (ho:c.own B):B<c.w.heap.size:=by
 obtain ⟨r,p,h1,h2,h3⟩:=ho
 cases e:c.hp r with
 |none=>exact absurd e h1
 |some es =>
  obtain ⟨_,o,h4,_⟩:=h.rU r es p e h2
  subst h3
  exact (zE.1 h4).1
def cO:Operand->fc
 |.tmp t=>.t t
 |.const v=>.c (Qn v)
 |.global g=>.c (.v (.pointer (some ⟨g,0,none⟩)))
 |.func f=>.c (.fn (.func f) [] [])
def tY (P:Program) (t:TypeId):Option (Option Nat) :=
 match P.underlying t,P.info? t with
 |some (.struct _),some i|some (.array _ _),some i=>some (some i.size)
 |some _,some i=>some none
 |_,_=>none
def zeroOf (P:Program) (t:TypeId):Option (List AV) :=
 match P.info? t with
 |some i=>match i.zero with
  |some z=>if z.cells.size=i.size then some (z.cells.toList.map jk) else none
  |none=>none
 |none=>none
def jq (P:Program) (fs:Array Field):List (Nat×Operand)->Option (List (Nat×Nat×fc))
 |[]=>some []
 |(i,x)::r=>match fs[i]? with
  |some f=>match P.info? f.type,jq P fs r with
   |some j,some l=>some ((f.offset,j.size,cO x)::l)
   |_,_=>none
  |none=>none
def jQ (P:Program) (op:BinOp) (t:TypeId) (x y:Operand):Option iZ :=
 match P.underlying t with
 |some (.int _)|some .string=>some (.bin op (cO x) (cO y))
 |some .bool=>some (.YF op (cO x) (cO y))
 |some (.slice _)=>some (.W3 op (cO x) (cO y))
 |some (.pointer e)=>if (P.info? e).isSome/\0<P.cellsOf e then some (.Am op (cO x) (cO y)) else none
 |_=>none
def gG (P:Program) (src dst:TypeId) (x:Operand):Option iZ :=
 match P.underlying src,P.underlying dst with
 |some (.int _),some (.int k)=>some (.conv k (cO x))
 |some .string,some .string=>some (.Xa (cO x))
 |some .string,some (.slice e)=>match P.underlying e with
  |some (.int .u8)=>some (.ZC (cO x))
  |_=>none
 |some (.slice e),some .string=>match P.underlying e with
  |some (.int .u8)=>some (.L0 (cO x))
  |_=>none
 |some (.int _),some .string=>some (.r2s (cO x))
 |some (.pointer e),some .unsafePointer=>if 0<P.cellsOf e then some (.XI (cO x)) else none
 |some .unsafePointer,some (.pointer u)=>if 0<P.cellsOf u then some (.XR u (P.cellsOf u) (cO x)) else none
 |_,_=>none
def gg (P:Program) (f:Nat):Bool :=
 match P.funcs[f]? with
 |some fn => !(fn.name == "runtime.NumGoroutine")&&fn.body.isSome
 |none=>false
def VD (P:Program) (e:TypeId):Bool:=match P.underlying e with
 |some (.int .u8)=>true
 |_=>false
def fY (P:Program) (b:Builtin) (args:List Operand) (ts:Array TypeId):Option iZ :=
 match b,args with
 |.append,[s,x]=>match ts[0]?,ts[1]? with
  |some t,some u=>match P.underlying t,P.underlying u with
   |some (.slice e),some .string|some (.slice e),some (.slice _)=>match zeroOf P e,P.info? e with
    |some z,some i=>if i.size=1/\i.bytes=1/\VD P e=true then some (.J3 e (cO s) (cO x)) else none
    |_,_=>none
   |_,_=>none
  |_,_=>none
 |_,_=>none
def cZ (P:Program) (b:Builtin) (args:List Operand) (ts:Array TypeId):Option iZ :=
 match b,args with
 |.unsafeSliceData,[x]=>some (.DV (cO x))
 |.unsafeString,[x,n]=>match (ts[0]?).bind P.underlying,ts.size with
  |some (.pointer e),2=>if P.cellsOf e=1/\VD P e=true then some (.L7 e (cO x) (cO n)) else none
  |_,_=>none
 |.len,[x]=>match (ts[0]?).bind P.underlying with
  |some .string=>some (.iu (cO x))
  |some (.slice _)=>some (.len (cO x))
  |_=>none
 |.cap,[x]=>match (ts[0]?).bind P.underlying with
  |some (.slice _)=>some (.cap (cO x))
  |_=>none
 |.min,[x,y]=>some (.min (cO x) (cO y))
 |.max,[x,y]=>some (.max (cO x) (cO y))
 |.append,[s,x]=>match ts[0]?,ts[1]? with
  |some t,some u=>match P.underlying t,P.underlying u with
   |some (.slice e),some (.int _)=>match zeroOf P e,P.info? e with
    |some z,some i=>if 0<i.size/\0<i.bytes then some (.Fu i.size i.bytes z (cO s) (cO x)) else none
    |_,_=>none
   |some (.slice e),some _=>match zeroOf P e,P.info? e with
    |some z,some i=>if 0<i.size/\0<i.bytes then some (.append i.size i.bytes (cO s) (cO x)) else none
    |_,_=>none
   |_,_=>none
  |_,_=>none
 |.copy,[d,s]=>match (ts[0]?).bind P.underlying with
  |some (.slice e)=>match P.info? e with
   |some i=>if 0<i.size then some (.copy i.size (cO d) (cO s)) else none
   |none=>none
  |_=>none
 |.clear,[x]=>match (ts[0]?).bind P.underlying with
  |some (.slice e)=>match zeroOf P e,P.info? e with
   |some z,some i=>if 0<i.size then some (.clear i.size z (cO x)) else none
   |_,_=>none
  |_=>none
 |_,_=>none
def mg (P:Program) (own:Bool) (o:Oper):Option iZ :=
 match o.op with
 |.move x | .assign x=>some (.dj (cO x))
 |.pick c a b=>some (.pick (cO c) (cO a) (cO b))
 |.alloc e=>if own then (zeroOf P e).map (.xE e) else (zeroOf P e).map .alloc
 |.panic _=>some .halt
 |.box e x=>some (.box (cO x))
 |.build t parts=>match P.underlying t,zeroOf P t with
  |some (.struct fs),some z=>if fs.all (fun f=>(P.info? f.type).isSome) then (jq P fs parts.toList).map (.build z) else none
  |_,_=>none
 |.buildSlice t len parts=>match P.underlying t with
  |some (.slice e)=>match zeroOf P e,P.info? e with
   |some z,some i=>if 0<i.size/\len*i.size<=16777216 then some (if own then .FX e i.size (List.replicate len z) (parts.toList.map fun p=>(p.1,cO p.2)) else .bp false i.size (List.replicate len z) (parts.toList.map fun p=>(p.1,cO p.2))) else none
   |_,_=>none
  |_=>none
 |.load t a=>(tY P t).map fun n=>.load n (cO a)
 |.store t a x=>match P.info? t with
  |some i=>if 0<i.size then some (.store i.size (cO a) (cO x)) else none
  |none=>none
 |.nilCheck x=>some (.x8 (cO x))
 |.binOp op t x y _=>jQ P op t x y
 |.unOp op _ x=>some (.un op (cO x))
 |.convert src dst x=>gG P src dst x
 |.makeInterface t x=>match P.underlying t with
  |some (.interface _)|none=>none
  |some _=>some (.GD t (cO x))
 |.makeFunc fn first cap=>some (.rQ fn (first.toList.map cO) (cap.toList.map cO))
 |.makeSlice t l c=>match P.underlying t with
  |some (.slice e)=>match zeroOf P e,P.info? e with
   |some z,some i=>if 0<i.size/\0<i.bytes then some (.kD i.size i.bytes z (cO l) (cO c)) else none
   |_,_=>none
  |_=>none
 |.slice t x lo hi mx=>match P.underlying t with
  |some .string=>match mx with
   |none=>some (.nr (cO x) (lo.map cO) (hi.map cO))
   |some _=>none
  |some (.slice e)=>(P.info? e).map fun i=>.slice i.size (cO x) (lo.map cO) (hi.map cO) (mx.map cO)
  |_=>none
 |.fieldAddr s x f=>match P.underlying s with
  |some (.struct fs)=>match fs[f]? with
   |some fd=>match P.info? fd.type with
    |some i=>if i.size=0 then none else some (.sQ fd.offset (cO x))
    |none=>none
   |none=>none
  |_=>none
 |.field t x f=>match P.underlying t with
  |some (.struct fs)=>match fs[f]? with
   |some fd=>(tY P fd.type).map fun n=>.field fd.offset n (cO x)
   |none=>none
  |_=>none
 |.indexAddr t x i=>match P.underlying t with
  |some (.slice e)=>(P.info? e).map fun j=>.lJ j.size (cO x) (cO i)
  |_=>none
 |.index t x i=>match P.underlying t with
  |some .string=>some (.idx (cO x) (cO i))
  |_=>none
 |.extract t i=>some (.ext (cO t) i)
 |.call c=>match c.callee with
  |.value (.func f)=>some (.call f (c.args.toList.map cO))
  |.value g=>some (.kr (cO g) (c.args.toList.map cO))
  |.builtin b=>if own then fY P b c.args.toList c.argTypes else cZ P b c.args.toList c.argTypes
  |.invoke _ _=>none
 |_=>none
def rE (P:Program):List Field->Nat->Option (List LK)
 |[],_=>some []
 |f::r,k=>if f.offset=k/\f.name ≠ "_" then
   match P.underlying f.type,P.info? f.type,rE P r (k+1) with
   |some (.int _),some _,some l=>some (.i::l)
   |some .string,some _,some l=>some (.s::l)
   |some .bool,some _,some l=>some (.b::l)
   |_,_,_=>none
  else none
def iJ (P:Program) (op:BinOp) (t:TypeId) (x y:Operand):Option iZ :=
 match P.underlying t with
 |some (.struct fs) =>
  if P.stoodInHeld t then none
  else if P.eqGuardType P.depth t then none
  else match rE P fs.toList 0 with
   |some ks=>match op with
    |.eql=>some (.YE false ks (cO x) (cO y))
    |.neq=>some (.YE true ks (cO x) (cO y))
    |_=>none
   |none=>none
 |_=>none
def vV (P:Program) (k:TypeId):Option LK:=match P.underlying k with
 |some (.int _)=>some .i
 |some .string=>some .s
 |some .bool=>some .b
 |_=>none
def C4 (P:Program):Op->Option iZ
 |.makeMap t none=>match P.underlying t with
  |some (.map _ _)=>some .sb
  |_=>none
 |.lookup t x k ok=>match P.underlying t with
  |some (.map kt et)=>match vV P kt,(P.info? et).bind (·.zero) with
   |some lk,some z=>some (.vg lk (Qn z) ok (cO x) (cO k))
   |_,_=>none
  |_=>none
 |.mapUpdate t m k x=>match P.underlying t with
  |some (.map kt _)=>(vV P kt).map fun lk=>.D9 lk (cO m) (cO k) (cO x)
  |_=>none
 |.call ⟨.builtin .len,args,ts⟩=>match args.toList,(ts[0]?).bind P.underlying with
  |[x],some (.map _ _)=>some (.ML (cO x))
  |_,_=>none
 |.call ⟨.builtin .delete,args,ts⟩=>match args.toList,(ts[0]?).bind P.underlying with
  |[m,k],some (.map kt _)=>(vV P kt).map fun lk=>.MO lk (cO m) (cO k)
  |_,_=>none
 |.range t x=>match P.underlying t with
  |some (.map _ _)=>some (.sD (cO x))
  |_=>none
 |.next x false=>some (.tB (cO x))
 |.entry x=>some (.yf (cO x))
 |.mapEntry t m k=>match P.underlying t with
  |some (.map kt et)=>match vV P kt,(P.info? et).bind (·.zero) with
   |some lk,some z=>some (.ye lk (Qn z) (cO m) (cO k))
   |_,_=>none
  |_=>none
 |.entryStore _ m s x=>some (.tC (cO m) (cO s) (cO x))
 |_=>none
inductive m7 (P:Program):Op->iZ->Prop where
 |mk {t kt et:TypeId} (h:P.underlying t=some (.map kt et)):m7 P (.makeMap t none) .sb
 |look {t kt et:TypeId} {x k:Operand} {ok:Bool} {lk:LK} {i:TypeInfo} {z:Value} (h:P.underlying t=some (.map kt et)) (hl:vV P kt=some lk) (hi:P.info? et=some i) (hz:i.zero=some z):m7 P (.lookup t x k ok) (.vg lk (Qn z) ok (cO x) (cO k))
 |set {t kt et:TypeId} {m k x:Operand} {lk:LK} (h:P.underlying t=some (.map kt et)) (hl:vV P kt=some lk):m7 P (.mapUpdate t m k x) (.D9 lk (cO m) (cO k) (cO x))
 |len {t kt et:TypeId} {x:Operand} {args:Array Operand} {ts:Array TypeId} (ha:args.toList=[x]) (ht:ts[0]?=some t) (h:P.underlying t=some (.map kt et)):m7 P (.call ⟨.builtin .len,args,ts⟩) (.ML (cO x))
 |del {t kt et:TypeId} {m k:Operand} {args:Array Operand} {ts:Array TypeId} {lk:LK} (ha:args.toList=[m,k]) (ht:ts[0]?=some t) (h:P.underlying t=some (.map kt et)) (hl:vV P kt=some lk):m7 P (.call ⟨.builtin .delete,args,ts⟩) (.MO lk (cO m) (cO k))
 |range {t kt et:TypeId} {x:Operand} (h:P.underlying t=some (.map kt et)):m7 P (.range t x) (.sD (cO x))
 |next {x:Operand}:m7 P (.next x false) (.tB (cO x))
 |W4 {x:Operand}:m7 P (.entry x) (.yf (cO x))
 |entry {t kt et:TypeId} {m k:Operand} {lk:LK} {i:TypeInfo} {z:Value} (h:P.underlying t=some (.map kt et)) (hl:vV P kt=some lk) (hi:P.info? et=some i) (hz:i.zero=some z):m7 P (.mapEntry t m k) (.ye lk (Qn z) (cO m) (cO k))
 |Hr {t:TypeId} {m s x:Operand}:m7 P (.entryStore t m s x) (.tC (cO m) (cO s) (cO x))
theorem dt {P:Program} {op:Op} {co:iZ} (h:C4 P op=some co):m7 P op co:=by
 unfold C4 at h
 split at h
 ·split at h
  ·rename_i hu
   simp only[zOi]at h;subst h
   exact .mk hu
  ·cases h
 ·split at h
  ·rename_i hu
   split at h
   ·rename_i lk z hl hz
    simp only[zOi]at h;subst h
    obtain ⟨i,hi,hz⟩:=zm.1 hz
    exact .look hu hl hi hz
   ·cases h
  ·cases h
 ·split at h
  ·rename_i hu
   simp only[zC]at h
   obtain ⟨lk,hl,rfl⟩:=h
   exact .set hu hl
  ·cases h
 ·split at h
  ·rename_i x kt et ha ht
   simp only[zOi]at h;subst h
   obtain ⟨t,h1,h2⟩:=zm.1 ht
   exact .len ha h1 h2
  ·cases h
 ·split at h
  ·rename_i m k kt et ha ht
   simp only[zC]at h
   obtain ⟨lk,hl,rfl⟩:=h
   obtain ⟨t,h1,h2⟩:=zm.1 ht
   exact .del ha h1 h2 hl
  ·cases h
 ·split at h
  ·rename_i hu
   simp only[zOi]at h;subst h
   exact .range hu
  ·cases h
 ·simp only[zOi]at h;subst h
  exact .next
 ·simp only[zOi]at h;subst h
  exact .W4
 ·split at h
  ·rename_i hu
   split at h
   ·rename_i lk z hl hz
    simp only[zOi]at h;subst h
    obtain ⟨i,hi,hz⟩:=zm.1 hz
    exact .entry hu hl hi hz
   ·cases h
  ·cases h
 ·simp only[zOi]at h;subst h
  exact .Hr
 ·cases h
def dC (P:Program) (own:Bool) (o:Oper):Option iZ :=
 match mg P own o with
 |some c=>some c
 |none=>match o.op with
  |.binOp op t x y _=>iJ P op t x y
  |op=>C4 P op
def fc.oi:fc->List Nat
 |.t n=>[n]
 |.c _=>[]
def Kq:Option fc->List Nat
 |some x=>x.oi
 |none=>[]
def Cs (l:List fc):List Nat:=l.flatMap fc.oi
def iZ.oi:iZ->List Nat
 |.halt | .xE .. => []
 |.XI x | .XR _ _ x | .DV x | .clear _ _ x | .ML x | .sD x | .tB x | .yf x=>x.oi
 |.sb=>[]
 |.vg _ _ _ m k | .MO _ m k | .ye _ _ m k=>m.oi++k.oi
 |.D9 _ m k v | .tC m k v=>m.oi++k.oi++v.oi
 |.Am _ x y | .J3 _ x y | .L7 _ x y=>x.oi++y.oi
 |.dj x | .box x | .load _ x | .x8 x | .un _ x | .conv _ x | .Xa x | .ZC x | .L0 x | .r2s x | .sQ _ x | .field _ _ x | .ext x _ | .GD _ x | .iu x | .len x | .cap x=>x.oi
 |.pick a b c=>a.oi++b.oi++c.oi
 |.alloc _=>[]
 |.build _ ps=>Cs (ps.map (·.2.2))
 |.bp _ _ _ ps | .FX _ _ _ ps=>Cs (ps.map (·.2))
 |.store _ x y | .bin _ x y | .YF _ x y | .W3 _ x y | .YE _ _ x y | .lJ _ x y | .idx x y | .min x y | .max x y | .append _ _ x y | .Fu _ _ _ x y | .copy _ x y | .kD _ _ _ x y=>x.oi++y.oi
 |.nr x lo hi=>x.oi++Kq lo++Kq hi
 |.slice _ x lo hi mx=>x.oi++Kq lo++Kq hi++Kq mx
 |.rQ _ a b=>Cs a++Cs b
 |.call _ LD=>Cs LD
 |.kr g LD=>g.oi++Cs LD
def aK.looks (o:aK):List Nat :=
 o.op.oi++(match o.guard with
  |some (g,_)=>[g]
  |none=>[])
def rG (ops:Array Oper):Option (Nat×Bool)->Option (Option (Nat×Bool))
 |none=>some none
 |some (j,want)=>match (ops[j]?).bind (·.dst) with
  |some d=>some (some (d,want))
  |none=>none
def mR (P:Program) (nt:Nat) (own:Bool) (ops:Array Oper) (o:Oper):Option aK :=
 match dC P own o,rG ops o.guard with
 |some c,some g=>if o.dst.all (· < nt) then some ⟨o.dst,c,g⟩ else none
 |_,_=>none
def dp (P:Program) (nt:Nat) (own:Nat->Bool) (ops:Array Oper):List Oper->Nat->Option (List aK)
 |[],_=>some []
 |o::r,i=>match mR P nt (own i) ops o,dp P nt own ops r (i+1) with
  |some c,some l=>some (c::l)
  |_,_=>none
def xS (ops:Array Oper):List (List Nat) :=
 ops.toList.foldl (init:=[]) fun acc o =>
  acc++[(o.after.toList.filter (fun e=>Region.binds .any e&&e.on<acc.length)).foldl (fun s e=>s++e.on::acc.getD e.on []) [] |>.eraseDups]
def HX (ops:Array Oper) (pre:List (List Nat)):Bool :=
 (List.range ops.size).all fun j=>match ops[j]? with
  |some o=>(o.after.toList.all fun e => !Region.binds .any e||e.on<j) &&
    ((pre.getD j []).all fun i=>i<j&&o.after.toList.any fun e=>Region.binds .any e&&(e.on==i||(pre.getD e.on []).contains i))
  |none=>true
def BY (cl:List aK) (pre:List (List Nat)):Bool :=
 (List.range cl.length).all fun i=>(List.range cl.length).all fun j =>
  i==j||match cl[i]?,cl[j]? with
   |some a,some b=>match a.dst with
    |some d => !(b.looks.contains d||b.dst==some d)||(pre.getD j []).contains i||(pre.getD i []).contains j
    |none=>true
   |_,_=>true
abbrev LJ:=List (Nat×Nat)
def keeps (ow:LJ) (id:Nat):List Nat:=(ow.filter fun p=>p.1==id&&Nat.ble 1000000 p.2).map (·.2-1000000)
def Vl (ow:LJ) (id:Nat) (cl:List aK):cC :=
 match cl with
 |⟨some d,.tB x,none⟩::rest=>if ow.contains (id,999999) then .choose d x rest else .region cl
 |_=>match keeps ow id with
  |[]=>.region cl
  |l=>.seq (.region cl) (.ah l)
def T0:cC:=.region [⟨none,.halt,none⟩]
def nw:Code->Bool
 |.region _ ops _=>ops.all fun o=>match o.op with
  |.defer _=>false
  |_=>true
 |.seq a b=>nw a&&nw b
 |.cond _ a b=>nw a&&nw b
 |.block _ a=>nw a
 |.loop a=>nw a
 |.skip | .exit _ | .ret | .refuse .. => true
 |_=>false
def Cl (a:Code):Option cC->Option cC
 |some x=>some x
 |none=>if nw a then some T0 else none
def cq (P:Program) (nt:Nat) (ow:LJ):Code->Option cC
 |.skip=>some .skip
 |.region id ops false=>(dp P nt (fun i=>ow.contains (id,i)) ops ops.toList 0).map (Vl ow id)
 |.region id ops true=>match dp P nt (fun i=>ow.contains (id,i)) ops ops.toList 0 with
  |some cl=>if HX ops (xS ops)&&BY cl (xS ops) then some (.draw (xS ops) cl) else none
  |none=>none
 |.seq a b=>match cq P nt ow a,cq P nt ow b with
  |some x,some y=>some (.seq x y)
  |_,_=>none
 |.cond c a b=>match Cl a (cq P nt ow a),Cl b (cq P nt ow b) with
  |some x,some y=>some (.cond (cO c) x y)
  |_,_=>none
 |.block id a=>(cq P nt ow a).map (.block id)
 |.loop a=>(cq P nt ow a).map .loop
 |.exit id=>some (.exit id)
 |.ret=>some .ret
 |.refuse .. => some (.region [⟨none,.halt,none⟩])
 |_=>none
def jP (P:Program):List ResultVar->Option (List RV)
 |[]=>some []
 |.tmp t::r=>(jP P r).map (RV.t t :: ·)
 |.cell a t::r=>match tY P t,jP P r with
  |some n,some l=>some (.cell a n::l)
  |_,_=>none
def vG (P:Program) (ow:LJ) (f:Nat):Option au :=
 match P.funcs[f]? with
 |some fn=>match fn.body with
  |some c=>match cq P fn.ntmps ow c,jP P fn.results.toList with
   |some b,some rs=>if fn.params.size+fn.nfree<=fn.ntmps then some ⟨fn.params.size+fn.nfree,fn.ntmps,b,rs⟩ else none
   |_,_=>none
  |none=>none
 |none=>none
def fD (c:Cx) (tm:Nat->AV) (a:Act):Prop:=∀t,aC c (tm t) (a.tmps.getD t undef)
theorem fD.mono {c c':Cx} (e:Ext c c') {tm:Nat->AV} {a:Act} (h:fD c tm a):fD c' tm a:=fun t=>(h t).mono e
theorem tj (c:Cx) (b:ByteArray):aC c (.str b.data.toList) (.string b):=by
 have:=aC.str (c:=c) b.data.toList
 simpa using this
theorem tw (c:Cx) (x:Value):aC c (jk x) x:=by
 unfold jk
 split
 ·exact tj c _
 ·exact .nil (fun m h=>by cases h;rfl)
 ·rename_i f a b
  split
  ·rename_i h
   simp only[zM,decide_eq_true_eq]at h
   have ha:a = #[]:=by simpa using h.1
   have hb:b = #[]:=by simpa using h.2
   subst ha;subst hb
   exact .fn rfl rfl (fun k av u h=>by simp at h) (fun k av u h=>by simp at h)
  ·exact .v _
 ·exact .v _
theorem tu (c:Cx) (x:Value):aC c (Qn x) x:=by
 unfold Qn
 split
 ·rename_i cs
  refine .agg (by simp) (fun k av u h1 h2 => ?_)
  simp only[zO,zC]at h1
  obtain ⟨y,hy,rfl⟩:=h1
  have:y=u:=by
   have h3:cs.toList[k]?=some u:=by simpa using h2
   rw[hy]at h3;exact Option.some.inj h3
  subst this
  exact tw c y
 ·exact tw c _
theorem aD {c:Cx} {tm:Nat->AV} {a:Act} (h:fD c tm a) (x:Operand):aC c (ev tm (cO x)) (a.eval x):=by
 cases x with
 |tmp t=>exact h t
 |const v=>exact tu c v
 |global g=>exact .v _
 |func f=>exact .fn rfl rfl (fun k av u h=>by simp at h) (fun k av u h=>by simp at h)
theorem aC.bZ {c:Cx} {x u:Value} (h:aC c (.v x) u):u=x:=by cases h;rfl
theorem aC.fL {c:Cx} {l:List UInt8} {u:Value} (h:aC c (.str l) u):u=.string ⟨l.toArray⟩:=by cases h;rfl
structure Grow (w w':World):Prop where
 size:w.heap.size<=w'.heap.size
 ah:∀B,B<w.heap.size->w'.heap[B]?=w.heap[B]?
 os:w'.os=w.os
 tape:w'.tape=w.tape
 output:w'.output=w.output
theorem Grow.refl (w:World):Grow w w:=⟨zD _,fun _ _=>rfl,rfl,rfl,rfl⟩
theorem Grow.push (w:World) (o:Obj):Grow w { w with heap:=w.heap.push o } :=
 ⟨by simp,fun B h=>by simp[wW];omega,rfl,rfl,rfl⟩
theorem Ext.tt {c:Cx} {nx:Nat} {w':World} (h:Grow c.w w'):Ext c { c with w:=w' } :=
 ⟨rfl,fun _ _ h=>h,h.size,fun B hB ho=>⟨ho,h.ah B hB⟩,h.os,h.tape,h.output⟩
theorem bf.grow {c:Cx} {nx:Nat} {w':World} (hh:bf c nx) (h:Grow c.w w'):bf { c with w:=w' } nx:=by
 have e:Ext c { c with w:=w' }:=Ext.tt (nx:=nx) h
 refine ⟨hh.uK,hh.lt,?_,hh.inj,fun B hB=>zU (hh.F B hB) h.size,hh.ty.to (fun _ _ _ _ h=>h) (fun _ _ h=>h) (fun B cs t fz hB=>⟨cs,by show w'.heap[B]?=_;rw[h.ah B (zE.1 hB).1];exact hB,rfl⟩) (fun _ _ _ h=>h),hh.gl.ext e⟩
 intro r es p h1 h2
 obtain ⟨hF,o,h3,h4⟩:=hh.rU r es p h1 h2
 have az:p.B<c.w.heap.size:=(zE.1 h3).1
 exact ⟨hF,o,by show w'.heap[p.B]?=_;rw[h.ah _ az];exact h3,h4.move fun x u hv=>hv.mono e⟩
def iN (P:Program) (o:Oper) (a:Act) (w:World) (u:Value) (w':World):Prop :=
 (execOp a.eval o).run P w=.ok (.value u) w'\/((execOp a.eval o).run P w=.ok .skip w'/\u=undef)
def oh (P:Program) (o:Oper) (a:Act) (c:Cx) (v:AV):Prop:=∃u w',iN P o a c.w u w'/\Grow c.w w'/\aC { c with w:=w' } v u
theorem oh.same {P:Program} {o:Oper} {a:Act} {c:Cx} {v:AV} {u:Value} (h:(execOp a.eval o).run P c.w=.ok (.value u) c.w) (hv:aC c v u):oh P o a c v :=
 ⟨u,c.w,.inl h,Grow.refl _,hv⟩
theorem pP (b:ByteArray):b.toList=b.data.toList:=ByteArray.toList_eq b
theorem tV {α:Type} [BEq α] [LawfulBEq α] [DecidableEq α] (a b:α):(a==b)=decide (a=b):=by
 rw[Bool.eq_iff_iff];simp
theorem Md (x y:List UInt8):Op.bytesLess x y=al x y:=by
 induction x generalizing y with
 |nil=>cases y<;>rfl
 |cons a x ih=>cases y with
  |nil=>rfl
  |cons b y=>simp only[Op.bytesLess,al,ih]
theorem M7 {P:Program} {w:World} {op:BinOp} {t:TypeId} {k:IntKind} {a b:Int} {v:AV} (hop:op≠.shl/\op≠.shr) (h:sI op k a b=some v) :
  ∃x,v=.v x/\(binOp op t (.int k a) (.int k b)).run P w=.ok x w:=by
 cases op<;>simp only[sI,zOi,reduceCtorEq]at h
 case quo =>
  split at h
  ·simp at h
  ·rename_i hb;simp only[zOi]at h;subst h
   exact ⟨_,rfl,by simp[binOp_quo,Op.intDiv,hb]⟩
 case rem =>
  split at h
  ·simp at h
  ·rename_i hb;simp only[zOi]at h;subst h
   exact ⟨_,rfl,by simp[binOp_rem,Op.intDiv,hb]⟩
 all_goals
  subst h
  refine ⟨_,rfl,?_⟩
  simp[binOp,Op.intArith,Op.intBits,Op.intCmp,tV,bne,Nat.min]
theorem HR {P:Program} {w:World} {op:BinOp} {t:TypeId} {k k':IntKind} {a b:Int} {v:AV} (hop:op=.shl\/op=.shr) (h:B9 op k a b=some v) :
  ∃x,v=.v x/\(binOp op t (.int k a) (.int k' b)).run P w=.ok x w:=by
 unfold B9 at h
 split at h
 ·simp at h
 ·rename_i hb
  rcases hop with rfl|rfl<;>simp only[zOi]at h<;>subst h<;>refine ⟨_,rfl,?_⟩ <;>
   simp[binOp,Op.shift,hb,Nat.min_def,Nat.min]
theorem Me {P:Program} {w:World} (c:Cx) {op:BinOp} {t:TypeId} {x y:List UInt8} {v:AV} (h:uh op x y=some v) :
  ∃u,aC c v u/\(binOp op t (.string ⟨x.toArray⟩) (.string ⟨y.toArray⟩)).run P w=.ok u w:=by
 have hx:(⟨x.toArray⟩:ByteArray).toList=x:=by rw[pP]
 have hy:(⟨y.toArray⟩:ByteArray).toList=y:=by rw[pP]
 cases op<;>simp only[uh,zOi,reduceCtorEq]at h
 case add =>
  split at h
  ·rename_i hle
   simp only[zOi]at h;subst h
   refine ⟨_,.str _,?_⟩
   have eo:¬(((⟨x.toArray⟩:ByteArray).size+(⟨y.toArray⟩:ByteArray).size:Nat):Int)>IntKind.i64.max:=by
    simp only[ByteArray.size,List.size_toArray]
    have:IntKind.i64.max=9223372036854775807:=by decide
    omega
   have sL:(⟨x.toArray⟩:ByteArray)++⟨y.toArray⟩=⟨(x++y).toArray⟩:=by
    apply ByteArray.ext
    apply Array.ext'
    rw[Joins.data_append]
   simp only[binOp,Op.stringOp,Sem.run_ite,if_neg eo,Sem.run_pure,sL]
  ·simp at h
 all_goals
  subst h
  refine ⟨_,.v _,?_⟩
  simp[binOp,Op.stringOp,hx,hy,Md,tV]
inductive ue (c:Cx):Option AV->Option Value->Prop
 |none:ue c none none
 |some {x u} (h:aC c x u):ue c (some x) (some u)
theorem lQ {c:Cx} {tm:Nat->AV} {a:Act} (h:fD c tm a) (x:Option Operand):ue c (Hq tm (x.map cO)) (x.map a.eval):=by
 cases x with
 |none=>exact .none
 |some x=>exact .some (aD h x)
theorem uA {c:Cx} {x:AV} {u:Value} {i:Int} (hv:aC c x u) (h:idxOf x=some i):∃k,u=.int k i:=by
 unfold idxOf at h
 split at h
 ·simp only[zOi]at h;subst h;exact ⟨_,hv.bZ⟩
 ·simp at h
theorem ir {P:Program} {w:World} {k:IntKind} {i:Int} {y:Nat} {code:BoundsCode} (h:0<=i/\i<=y) :
  (Instr.sliceBound (.int k i) y code).run P w=.ok i.toNat w:=by
 simp[Instr.sliceBound,asIntOf,h]
theorem nO {P:Program} {c:Cx} {isS:Bool} {len top cap:Nat} {lo hi mx:Option AV} {FR Hy Hv:Option Value} {l h:Nat} {m:Option Nat}
  (oy:ue c lo FR) (Dy:ue c hi Hy) (Wg:ue c mx Hv) (ht:top<=cap) (hb:bV len top lo hi mx=some (l,h,m)) :
  (Instr.sliceBounds isS len cap FR Hy Hv).run P c.w=.ok (l,h,m.getD cap) c.w/\l<=h/\(h<=m.getD top\/(h=len/\m=none))/\(∀k,m=some k->k<=top):=by
 unfold bV at hb
 dsimp only at hb
 split at hb
 ·simp at hb
 ·rename_i m' hm
  split at hb
  ·simp at hb
  ·rename_i h' hh
   split at hb
   ·simp at hb
   ·rename_i l' hl
    simp only[zOi,zPi]at hb
    obtain ⟨rfl,rfl,rfl⟩:=hb
    have EA:(match Hv with|some v=>Instr.sliceBound v cap (if isS then .slice3Acap else .slice3Alen)|none=>pure cap).run P c.w=.ok (m'.getD cap) c.w/\(∀k,m'=some k->k<=top)/\(m'=none↔Hv=none):=by
     cases Wg with
     |none=>simp only[zOi]at hm;subst hm;simp
     |some hv =>
      simp only at hm
      split at hm
      ·rename_i i hi
       split at hm
       ·rename_i hb
        simp only[zOi]at hm;subst hm
        obtain ⟨k,rfl⟩:=uA hv hi
        refine ⟨?_,?_,by simp⟩
        ·simp only[wJ];exact ir ⟨hb.1,by omega⟩
        ·intro k hk;simp only[zOi]at hk;omega
       ·simp at hm
      ·simp at hm
    obtain ⟨EA,TH,GZ⟩:=EA
    have Br:(match Hy,Hv with
      |some v,some _=>Instr.sliceBound v (m'.getD cap) .slice3B
      |some v,none=>Instr.sliceBound v (m'.getD cap) (if isS then .sliceAcap else .sliceAlen)
      |none,none=>pure len
      |none,some _=>stuck "Slice: max without high").run P c.w=.ok h' c.w/\(h'<=m'.getD top\/(h'=len/\m'=none)):=by
     cases Dy with
     |none =>
      simp only at hh
      split at hh
      ·simp at hh
      ·rename_i hms
       simp only[zOi]at hh;subst hh
       have:m'=none:=by simpa using hms
       have hc:=GZ.1 this
       subst hc
       exact ⟨by simp,.inr ⟨rfl,this⟩⟩
     |some hv =>
      simp only at hh
      split at hh
      ·rename_i i hi
       split at hh
       ·rename_i hb
        simp only[zOi]at hh;subst hh
        obtain ⟨k,rfl⟩:=uA hv hi
        have hle:(m'.getD top)<=(m'.getD cap):=by cases m' with|none=>exact ht|some _=>exact zD _
        refine ⟨?_,.inl (by omega)⟩
        cases Hv with
        |none=>exact ir ⟨hb.1,by omega⟩
        |some v=>exact ir ⟨hb.1,by omega⟩
       ·simp at hh
      ·simp at hh
    obtain ⟨Br,hhl⟩:=Br
    have tG:(match FR with
      |some v=>Instr.sliceBound v h' (if Hv.isSome then .slice3C else .sliceB)
      |none=>pure 0).run P c.w=.ok l' c.w/\l'<=h':=by
     cases oy with
     |none=>simp only[zOi]at hl;subst hl;simp
     |some hv =>
      simp only at hl
      split at hl
      ·rename_i i hi
       split at hl
       ·rename_i hb
        simp only[zOi]at hl;subst hl
        obtain ⟨k,rfl⟩:=uA hv hi
        exact ⟨ir ⟨hb.1,by omega⟩,by omega⟩
       ·simp at hl
      ·simp at hl
    refine ⟨?_,tG.2,hhl,TH⟩
    obtain ⟨tG,_⟩:=tG
    clear hm hh hl oy Dy Wg TH hhl
    have Re:∀{x y:Nat},(pure x:Sem Nat).run P c.w=.ok y c.w->x=y:=fun h=>by simpa using h
    cases Hv with
    |none =>
     obtain rfl:=GZ.2 rfl
     cases Hy with
     |none =>
      obtain rfl:=Re Br
      cases FR with
      |none=>obtain rfl:=Re tG;simp[Instr.sliceBounds]
      |some v=>have h3:(Instr.sliceBound v len .sliceB).run P c.w=.ok l' c.w:=tG;simp[Instr.sliceBounds,h3]
     |some u =>
      have h2:(Instr.sliceBound u cap (if isS then .sliceAcap else .sliceAlen)).run P c.w=.ok h' c.w:=Br
      cases FR with
      |none=>obtain rfl:=Re tG;simp[Instr.sliceBounds,h2]
      |some v=>have h3:(Instr.sliceBound v h' .sliceB).run P c.w=.ok l' c.w:=tG;simp[Instr.sliceBounds,h2,h3]
    |some x =>
     cases m' with
     |none=>exact absurd (GZ.1 rfl) (by simp)
     |some k =>
      have h1:(Instr.sliceBound x cap (if isS then .slice3Acap else .slice3Alen)).run P c.w=.ok k c.w:=EA
      cases Hy with
      |none=>simp at Br
      |some u =>
       have h2:(Instr.sliceBound u k .slice3B).run P c.w=.ok h' c.w:=Br
       cases FR with
       |none=>obtain rfl:=Re tG;simp[Instr.sliceBounds,h1,h2]
       |some v=>have h3:(Instr.sliceBound v h' .slice3C).run P c.w=.ok l' c.w:=tG;simp[Instr.sliceBounds,h1,h2,h3]
theorem gH (b o n:Nat):(⟨b,o,none⟩:Addr).add n=⟨b,o+n,none⟩:=by
 unfold Addr.add;split<;>simp_all
theorem B4 {P:Program} {c:Cx} {t e:TypeId} {i:TypeInfo} {r sz j len:Nat} {cap:Option Nat} {u:Value} {lo hi mx:Option AV} {FR Hy Hv:Option Value} {v:AV}
  (ht:P.underlying t=some (.slice e)) (kG:P.info? e=some i) (hv:aC c (.sl r sz j len cap) u)
  (oy:ue c lo FR) (Dy:ue c hi Hy) (Wg:ue c mx Hv) (h:b8 i.size (.sl r sz j len cap) lo hi mx=some v) :
  ∃u',(Instr.sliceAt t u FR Hy Hv).run P c.w=.ok u' c.w/\aC c v u':=by
 cases hv with
 |sl hι hs ha hl dm hN hE eK =>
  rename_i n p a
  unfold b8 at h
  dsimp only at h
  split at h
  ·rename_i eo
   split at h
   ·rename_i l h' m hb
    simp only[zOi]at h;subst h
    have RH:cap.getD len<=n:=by
     cases cap with
     |none=>exact hl
     |some k=>have:=dm k rfl;simp;omega
    obtain ⟨bR,hlh,Ww,Wh⟩:=nO (P:=P) (isS:=true) oy Dy Wg RH hb
    have ox:m.getD n<=n:=by
     cases m with
     |none=>exact zD _
     |some k=>have:=Wh k rfl;simp;omega
    have aa4:h'<=m.getD n:=by
     rcases Ww with hh|⟨hh,hm⟩
     ·cases m with
      |none=>simp at hh ⊢;omega
      |some k=>simpa using hh
     ·subst hm;simp;omega
    refine ⟨.slice (if m.getD n=l then some a else (some a).map (·.add (l*i.size))) (h'-l) (m.getD n-l),?_,?_⟩
    ·simp only[Instr.sliceAt,Instr.slice,Sem.run_bind,run_underlying ht,Result.andThen_ok,bR]
     simp[sizeOf,typeInfo,kG]
    ·have key:aC c (.sl r sz (j+l) (h'-l) (dY m l cap)) (.slice (some (if m.getD n=l then a else a.add (l*i.size))) (h'-l) (m.getD n-l)):=by
      refine .sl hι hs ?_ (by omega) ?_ ?_ ?_ eK
      ·intro bt
       have aeB:m.getD n≠l:=by omega
       rw[if_neg aeB,ha (by omega),<-eo,gH]
       simp only[Addr.mk.injEq,true_and,and_true]
       rw[ze,qE]
      ·intro k hk
       unfold dY at hk
       cases m with
       |some m=>simp at hk ⊢;exact hk.symm
       |none =>
        simp only[zC]at hk
        obtain ⟨k',jf,rfl⟩:=hk
        simp[dm k' jf]
      ·intro bt
       have:=hN (by omega)
       refine wH ?_ this
       apply Nat.add_le_add_left
       apply zX
       omega
      ·intro bt
       unfold dY at bt
       cases m with
       |some m=>simp at bt
       |none =>
        simp only[Option.map_eq_none_iff]at bt
        rw[<-hE bt]
        have gd:l<=n:=by simp at aa4;omega
        simp only[qM]
        congr 2;omega
     have Wt:(if m.getD n=l then some a else (some a).map (·.add (l*i.size)))=some (if m.getD n=l then a else a.add (l*i.size)):=by split<;>rfl
     rw[Wt];exact key
   ·simp at h
  ·simp at h
theorem B5 {P:Program} {c:Cx} {t e:TypeId} {i:TypeInfo} {nil:Bool} {sz:Nat} {es:List (List AV)} {cap:Option Nat} {u:Value} {lo hi mx:Option AV} {FR Hy Hv:Option Value} {v:AV}
  (ht:P.underlying t=some (.slice e)) (kG:P.info? e=some i) (hv:aC c (.rs nil sz es cap) u)
  (oy:ue c lo FR) (Dy:ue c hi Hy) (Wg:ue c mx Hv) (h:b8 i.size (.rs nil sz es cap) lo hi mx=some v) :
  ∃u',(Instr.sliceAt t u FR Hy Hv).run P c.w=.ok u' c.w/\aC c v u':=by
 unfold b8 at h
 dsimp only at h
 split at h
 ·rename_i eo
  split at h
  ·rename_i l h' m hb
   simp only[zOi]at h;subst h
   cases hv with
   |nil dm =>
    obtain ⟨bR,hlh,Ww,Wh⟩:=nO (P:=P) (isS:=true) (cap:=0) oy Dy Wg (zD _) hb
    have yC:m.getD 0=0:=by
     cases m with
     |none=>rfl
     |some k=>exact Nat.le_zero.1 (Wh k rfl)
    have hh0:h'=0:=by
     rcases Ww with hh|⟨hh,hm⟩
     ·have h2:h'<=m.getD 0:=hh;omega
     ·simpa using hh
    have K7:l=0:=by omega
    subst hh0;subst K7
    refine ⟨.slice none 0 0,?_,?_⟩
    ·have aax:(Instr.sliceBounds true 0 0 FR Hy Hv).run P c.w=.ok (0,0,m.getD 0) c.w:=bR
     simp only[Instr.sliceAt,Instr.slice,Sem.run_bind,run_underlying ht,Result.andThen_ok,aax]
     simp[sizeOf,typeInfo,kG,yC]
    ·simp only[List.take_nil,List.drop_nil]
     refine .nil ?_
     intro k hk
     unfold dY at hk
     cases m with
     |some m=>simp at hk yC;omega
     |none =>
      simp only[zC]at hk
      obtain ⟨k',jf,rfl⟩:=hk
      simp[dm k' jf]
   |rs g hlen hl dm cT ck hc l8 =>
    rename_i n len a
    have RJ:sz=i.size:=by simpa using eo
    have RH:es.length<=n:=by omega
    obtain ⟨bR,hlh,Ww,Wh⟩:=nO (P:=P) (isS:=true) oy Dy Wg RH hb
    have ox:m.getD n<=n:=by
     cases m with
     |none=>exact zD _
     |some k=>have:=Wh k rfl;simp;omega
    have hhe:h'<=es.length:=by
     rcases Ww with hh|⟨hh,hm⟩
     ·cases m with
      |none=>simpa using hh
      |some k=>have:=Wh k rfl;simp at hh;omega
     ·omega
    have aa4:h'<=m.getD n:=by
     rcases Ww with hh|⟨hh,hm⟩
     ·cases m with
      |none=>simp at hh ⊢;omega
      |some k=>simpa using hh
     ·subst hm;simp;omega
    refine ⟨.slice (if m.getD n=l then some a else (some a).map (·.add (l*i.size))) (h'-l) (m.getD n-l),?_,?_⟩
    ·rw[<-hlen]
     simp only[Instr.sliceAt,Instr.slice,Sem.run_bind,run_underlying ht,Result.andThen_ok,bR]
     simp[sizeOf,typeInfo,kG]
    ·have bH:∀(k:Nat) (x:List AV),((es.take h').drop l)[k]?=some x->es[l+k]?=some x/\l+k<h':=by
      intro k x hk
      rw[wE,wB]at hk
      split at hk
      ·exact ⟨hk,by assumption⟩
      ·simp at hk
     have key:aC c (.rs false sz ((es.take h').drop l) (dY m l cap)) (.slice (some (if m.getD n=l then a else a.add (l*i.size))) (h'-l) (m.getD n-l)):=by
      refine .rs (fun k j=>g (l+k) j) (by simp;omega) (by omega) ?_ ?_ ?_ ?_ ?_
      ·intro k hk
       unfold dY at hk
       cases m with
       |some m=>simp at hk ⊢;exact hk.symm
       |none =>
        simp only[zC]at hk
        obtain ⟨k',jf,rfl⟩:=hk
        simp[dm k' jf]
      ·exact fun k x hk=>cT _ _ (bH k x hk).1
      ·intro bt
       have:es≠[]:=by rintro rfl;simp at bt
       obtain ⟨h1,h2⟩:=ck this
       split
       ·exact ⟨h1,h2⟩
       ·unfold Addr.add;split
        ·exact ⟨h1,h2⟩
        ·exact ⟨h1,rfl⟩
      ·intro k j x av h1 h2
       obtain ⟨h3,h4⟩:=bH k x h1
       have bt:m.getD n≠l:=by omega
       rw[if_neg bt]
       have h5:=hc (l+k) j x av h3 h2
       have h6:((a.add (l*i.size)).block=a.block)/\((a.add (l*i.size)).off=a.off+l*sz):=by
        unfold Addr.add;split
        ·rename_i h0;rw[RJ,h0];simp
        ·rw[RJ];simp
       rw[h6.1,h6.2,show a.off+l*sz+k*sz+j=a.off+(l+k)*sz+j by rw[ze];omega]
       exact h5
      ·exact fun k j x av h1 h2=>l8 (l+k) j x av (bH k x h1).1 h2
     have Wt:(if m.getD n=l then some a else (some a).map (·.add (l*i.size)))=some (if m.getD n=l then a else a.add (l*i.size)):=by split<;>rfl
     rw[Wt];exact key
  ·simp at h
 ·simp at h
theorem Aq {P:Program} {c:Cx} {t:TypeId} {s:List UInt8} {lo hi:Option AV} {FR Hy:Option Value} {v:AV}
  (ht:P.underlying t=some .string)
  (oy:ue c lo FR) (Dy:ue c hi Hy) (h:eS (.str s) lo hi=some v) :
  ∃u',(Instr.sliceAt t (.string ⟨s.toArray⟩) FR Hy none).run P c.w=.ok u' c.w/\aC c v u':=by
 unfold eS at h
 dsimp only at h
 split at h
 ·rename_i l h' m hb
  simp only[zOi]at h;subst h
  obtain ⟨bR,hlh,Ww,Wh⟩:=nO (P:=P) (isS:=false) oy Dy .none (zD _) hb
  refine ⟨.string ((⟨s.toArray⟩:ByteArray).extract l h'),?_,?_⟩
  ·have eo:(⟨s.toArray⟩:ByteArray).size=s.length:=by simp[ByteArray.size]
   simp only[Instr.sliceAt,Instr.slice,Sem.run_bind,run_underlying ht,Result.andThen_ok,eo,bR]
   simp[bR]
  ·have:=tj c ((⟨s.toArray⟩:ByteArray).extract l h')
   rw[Lib.extract_data]at this
   simpa [qt] using this
 ·simp at h
theorem aC.rK {c:Cx} {cs:List AV} {u:Value} (h:aC c (.agg cs) u):∃us,u=.agg us/\cs.length=us.size/\∀(k:Nat) (av:AV) (x:Value),cs[k]?=some av->us[k]?=some x->aC c av x:=by
 cases h with
 |agg hl hv=>exact ⟨_,rfl,hl,hv⟩
theorem aC.xm {c:Cx} {cs:List AV} {u:Value} (h:aC c (.bE cs) u):∃us,u=.tuple us/\cs.length=us.size/\∀(k:Nat) (av:AV) (x:Value),cs[k]?=some av->us[k]?=some x->aC c av x:=by
 cases h with
 |bE hl hv=>exact ⟨_,rfl,hl,hv⟩
def cu (c:Cx) (x:List AV) (y:List Value):Prop:=x.length=y.length/\∀(k:Nat) (av:AV) (u:Value),x[k]?=some av->y[k]?=some u->aC c av u
theorem mS {c:Cx} {x:AV} {u:Value} (h:aC c x u) (hx:(∀y,x≠.v (.agg y))/\x≠.any):cu c x.cells u.cells.toList:=by
 have one:∀{x:AV} {u:Value},aC c x u->cu c [x] [u]:=fun h=>⟨rfl,fun k av w h1 h2=>by
  cases k with
  |zero=>simp at h1 h2;subst h1;subst h2;exact h
  |succ k=>simp at h1⟩
 cases h with
 |agg hl hv=>exact ⟨by simpa [AV.cells,Value.cells] using hl,fun k av w h1 h2=>hv k av w h1 (by simpa [Value.cells] using h2)⟩
 |v =>
  cases u<;>first|exact one (.v _)|exact absurd rfl (hx.1 _)
 |str l=>exact one (.str l)
 |ptr h eK=>exact one (.ptr h eK)
 |mp h eK=>exact one (.mp h eK)
 |it h h' hr hm rq rR e1 e2 e3 e4=>exact one (.it h h' hr hm rq rR e1 e2 e3 e4)
 |Gb h hr hm rR e1 hs=>exact one (.Gb h hr hm rR e1 hs)
 |rp g a b d=>exact one (.rp g a b d)
 |sl a b d e f g h eK=>exact one (.sl a b d e f g h eK)
 |nil h=>exact one (.nil h)
 |rs g a b d e f g h=>exact one (.rs _ a b d e f g h)
 |bE a b=>exact one (.bE a b)
 |fn a b d e=>exact one (.fn a b d e)
 |Bi h=>exact one (.Bi h)
 |any u=>exact absurd rfl hx.2
theorem cu.get {c:Cx} {x:List AV} {y:List Value} (h:cu c x y) {k:Nat} {av:AV} (hk:x[k]?=some av):∃u,y[k]?=some u/\aC c av u:=by
 have az:k<x.length:=(zB.1 hk).1
 have mc:k<y.length:=h.1▸az
 exact ⟨y[k],zA mc,h.2 k av _ hk (zA mc)⟩
theorem getElem?_spliceL {α:Type} (l:List α) (off:Nat) (new:List α) (h:off+new.length<=l.length) (k:Nat) :
  (aa l off new)[k]?=if off<=k/\k<off+new.length then new[k-off]? else l[k]?:=by
 unfold aa
 rw[zF]
 have hto:(l.take off).length=off:=by simp;omega
 by_cases h1:k<off
 ·rw[zR (by omega),wB,if_pos h1,if_neg (by omega)]
 ·rw[za (by omega),hto]
  by_cases h2:k<off+new.length
  ·rw[zR (by omega),if_pos ⟨by omega,h2⟩]
  ·rw[za (by omega),if_neg (by omega),wE]
   congr 1;omega
theorem dV {α:Type} (l:List α) (off:Nat) (new:List α) (h:off+new.length<=l.length):(aa l off new).length=l.length:=by
 unfold aa;simp;omega
theorem cu.Mi {c:Cx} {x new:List AV} {y ny:List Value} (h:cu c x y) (hn:cu c new ny) {off:Nat} (ho:off+new.length<=x.length):cu c (aa x off new) (aa y off ny):=by
 have RU:off+ny.length<=y.length:=by rw[<-hn.1,<-h.1];exact ho
 refine ⟨by rw[dV _ _ _ ho,dV _ _ _ RU,h.1],fun k av u h1 h2 => ?_⟩
 rw[getElem?_spliceL _ _ _ ho]at h1
 rw[getElem?_spliceL _ _ _ RU]at h2
 rw[<-hn.1]at h2
 split at h1
 ·rename_i hk;rw[if_pos hk]at h2;exact hn.2 _ _ _ h1 h2
 ·rename_i hk;rw[if_neg hk]at h2;exact h.2 _ _ _ h1 h2
theorem vD (cs:List Value) (off:Nat) (y:Array Value) (h:off+cs.length<=y.size) :
  (cs.zipIdx.foldl (fun (a:Array Value) (p:Value×Nat)=>a.setIfInBounds (off+p.2) p.1) y).toList=aa y.toList off cs:=by
 have key:∀(cs:List Value) (i:Nat) (y:Array Value),off+i+cs.length<=y.size ->
   ((cs.zipIdx i).foldl (fun (a:Array Value) (p:Value×Nat)=>a.setIfInBounds (off+p.2) p.1) y).toList=aa y.toList (off+i) cs:=by
  intro cs
  induction cs with
  |nil=>intro i y _;simp[aa]
  |cons v r ih =>
   intro i y hle
   have az:off+i<y.size:=by simp at hle;omega
   simp only[List.zipIdx_cons,jD]
   rw[ih (i+1) _ (by simp at hle ⊢;omega)]
   apply qr
   intro k
   simp only[zV]at hle
   rw[getElem?_spliceL _ _ _ (by simp;omega),getElem?_spliceL _ _ _ (by simp;omega)]
   simp only[zV,Array.toList_setIfInBounds]
   by_cases hk:k=off+i
   ·subst hk
    rw[if_neg (by omega),if_pos (by omega)]
    simp[az]
   ·by_cases m9:off+i<k/\k<off+i+(r.length+1)
    ·rw[if_pos (by omega),if_pos (by omega)]
     rw[show k-(off+i)=(k-(off+(i+1)))+1 by omega,wv]
    ·rw[if_neg (by omega),if_neg (by omega),we (by omega)]
 have:=key cs 0 y (by omega)
 simpa using this
theorem getElem?_arr {α:Type} (a:Array α) (k:Nat):a.toList[k]?=a[k]?:=by simp
theorem fU {x:AV} (h:x.cells.all AV.one=true):(∀y:Array Value,x≠.v (.agg y))/\x≠.any :=
 ⟨by rintro y rfl;simp[AV.cells,AV.one]at h,by rintro rfl;simp[AV.cells,AV.one]at h⟩
theorem EZ {c:Cx} {place:Nat->Option (Nat×Nat)}:∀{parts:List (Nat×Nat×AV)} {cparts:List (Nat×Value)} {zero:List AV} {gF:Array Value} {cells:List AV},
  parts.length=cparts.length->(∀(k:Nat) (p:Nat×Nat×AV) (q:Nat×Value),parts[k]?=some p->cparts[k]?=some q->place q.1=some (p.1,p.2.1)/\aC c p.2.2 q.2) ->
  cu c zero gF.toList->sh zero parts=some cells->∃yS,Instr.fill place gF cparts=some yS/\cu c cells yS.toList
 |[],[],zero,gF,cells,_,_,hz,h=>by
  simp only[sh,zOi]at h;subst h
  exact ⟨gF,rfl,hz⟩
 |[],_::_,_,_,_,hl,_,_,_=>by simp at hl
 |_::_,[],_,_,_,hl,_,_,_=>by simp at hl
 |(off,n,x)::r,(i,u)::r',zero,gF,cells,hl,hp,hz,h=>by
  simp only[sh]at h
  split at h
  ·rename_i hc
   obtain ⟨hn,hle,cS⟩:=hc
   have hn:x.cells.length=n:=hn
   have hle:off+n<=zero.length:=hle
   obtain ⟨KX,hv⟩:=hp 0 (off,n,x) (i,u) rfl rfl
   have hcr:=mS hv (fU cS)
   have TG:u.cells.size=n:=by have:=hcr.1;simp at this;omega
   have eo:zero.length=gF.size:=by have:=hz.1;simpa using this
   have EI:=vD u.cells.toList off gF (by simp;omega)
   have LO:cu c (aa zero off x.cells) (u.cells.zipIdx.foldl (fun cs (p:Value×Nat)=>cs.setIfInBounds (off+p.2) p.1) gF).toList:=by
    have:(u.cells.zipIdx.foldl (fun cs (p:Value×Nat)=>cs.setIfInBounds (off+p.2) p.1) gF)=(u.cells.toList.zipIdx.foldl (fun (a:Array Value) (p:Value×Nat)=>a.setIfInBounds (off+p.2) p.1) gF):=by
     rw[<-Array.foldl_toList,Array.toList_zipIdx]
    rw[this,EI]
    exact hz.Mi hcr (show off+x.cells.length<=zero.length by omega)
   obtain ⟨cc,h1,h2⟩:=EZ (parts:=r) (cparts:=r') (by simpa using hl) (fun k p q h1 h2=>hp (k+1) p q h1 h2) LO h
   refine ⟨cc,?_,h2⟩
   simp only[Instr.fill,KX]
   rw[if_neg (by simp[TG];omega)]
   exact h1
  ·simp at h
theorem A6 {P:Program} {w:World} {t:TypeId} {n:Option Nat} (h:tY P t=some n) :
  (isAgg t).run P w=.ok n.isSome w/\(∀k,n=some k->(sizeOf t).run P w=.ok k w):=by
 unfold tY at h
 split at h<;>simp only[zOi,reduceCtorEq]at h<;>subst h
 ·rename_i fs i hu hi
  exact ⟨by simp[isAgg,run_underlying hu],fun k hk=>by simp only[zOi]at hk;subst hk;simp[sizeOf,typeInfo,hi]⟩
 ·rename_i a b i hu hi
  exact ⟨by simp[isAgg,run_underlying hu],fun k hk=>by simp only[zOi]at hk;subst hk;simp[sizeOf,typeInfo,hi]⟩
 ·rename_i d i Ey Bp hu hi
  refine ⟨?_,fun k hk=>by simp at hk⟩
  have:(isAgg t).run P w=.ok false w:=by
   simp only[isAgg,Sem.run_bind,run_underlying hu,Result.andThen_ok]
   cases d<;>first|rfl|exact absurd rfl (Ey _ _ · )|skip
   all_goals first|rfl|(exact (Ey _ _ hu hi).elim)|(exact (Bp _ _ _ hu hi).elim)
  simpa using this
theorem lI {P:Program} {c:Cx} {t:TypeId} {n:Option Nat} (ht:tY P t=some n) {B O off:Nat} {cells:List AV} {v:AV}
  (hc:∀(k:Nat) (av:AV),cells[k]?=some av->∃u,c.w.cell? ⟨B,O+k,none⟩=some u/\aC c av u) (h:gj cells off n=some v) :
  ∃u,(loadVar t ⟨B,O+off,none⟩).run P c.w=.ok u c.w/\aC c v u:=by
 obtain ⟨h1,h2⟩:=A6 (P:=P) (w:=c.w) ht
 cases n with
 |none =>
  simp only[gj]at h
  obtain ⟨u,h3,h4⟩:=hc off v h
  refine ⟨u,?_,h4⟩
  simp only[loadVar,Sem.run_bind,h1,Result.andThen_ok]
  simp[h3]
 |some k =>
  simp only[gj]at h
  split at h
  ·rename_i hle
   simp only[zOi]at h;subst h
   have hex:∃us:List Value,us.length=k/\∀(j:Nat) (u:Value),us[j]?=some u->c.w.cell? ⟨B,O+off+j,none⟩=some u/\∀av,(cells.drop off)[j]?=some av->aC c av u:=by
    refine ⟨(List.range k).map (fun j=>(c.w.cell? ⟨B,O+off+j,none⟩).getD undef),by simp,fun j u hj => ?_⟩
    simp only[zO,zC]at hj
    obtain ⟨j',hj',rfl⟩:=hj
    have TP:j<k/\j'=j:=by
     have:=zB.1 hj'
     obtain ⟨h5,h6⟩:=this
     simp at h5 h6;exact ⟨h5,h6.symm⟩
    obtain ⟨TP,rfl⟩:=TP
    have az:off+j'<cells.length:=by omega
    obtain ⟨u,h3,h4⟩:=hc (off+j') _ (zA az)
    rw[<-qE]at h3
    rw[h3]
    refine ⟨rfl,fun av Yk => ?_⟩
    rw[wE,zA az,zOi]at Yk
    subst Yk;exact h4
   obtain ⟨us,hl,VR⟩:=hex
   refine ⟨.agg us.toArray,?_,?_⟩
   ·simp only[loadVar,Sem.run_bind,h1,Result.andThen_ok,jH,if_true,h2 k rfl]
    have Bq:=run_loadCells_list (P:=P) c.w ⟨B,O+off,none⟩ us (fun j u hj=>by rw[gH];exact (VR j u hj).1)
    rw[hl]at Bq
    simp[Bq]
   ·refine .agg (by simp;omega) (fun j av u h3 h4 => ?_)
    have h5:us[j]?=some u:=by simpa using h4
    rw[wB]at h3
    split at h3
    ·exact (VR j u h5).2 av h3
    ·simp at h3
  ·simp at h
theorem Mu {P:Program} {c:Cx} {t:TypeId} {n:Option Nat} (ht:tY P t=some n) {off:Nat} {cells:List AV} {us:Array Value} {v:AV}
  (hl:cells.length=us.size) (hv:∀(k:Nat) (av:AV) (u:Value),cells[k]?=some av->us[k]?=some u->aC c av u) (h:gj cells off n=some v) :
  ∃u,(part t us off).run P c.w=.ok u c.w/\aC c v u:=by
 obtain ⟨h1,h2⟩:=A6 (P:=P) (w:=c.w) ht
 cases n with
 |none =>
  simp only[gj]at h
  have az:off<us.size:=by have:=(zB.1 h).1;omega
  refine ⟨us[off],?_,hv off v _ h (by simp[az])⟩
  simp only[part,Sem.run_bind,h1,Result.andThen_ok]
  simp[az]
 |some k =>
  simp only[gj]at h
  split at h
  ·rename_i hle
   simp only[zOi]at h;subst h
   refine ⟨.agg (us.extract off (off+k)),?_,?_⟩
   ·simp only[part,Sem.run_bind,h1,Result.andThen_ok,jH,if_true,h2 k rfl]
    simp
   ·refine .agg (by simp;omega) (fun j av u h3 h4 => ?_)
    rw[wB]at h3
    split at h3
    ·rename_i hj
     rw[wE]at h3
     refine hv (off+j) av u h3 ?_
     rw[Array.getElem?_extract]at h4
     split at h4
     ·exact h4
     ·simp at h4
    ·simp at h3
  ·simp at h
theorem vE {α:Type} {sz:Nat}:∀(zero:List (List α)) (i:Nat) (cells:List α),i<zero.length->(∀(i:Nat) (l:List α),zero[i]?=some l->l.length=sz)->cells.length=sz ->
  (zero.set i cells).flatten=aa zero.flatten (i*sz) cells
 |[],i,cells,h,_,_=>by simp at h
 |l::r,0,cells,h,hz,hc=>by
  have hl:=hz 0 l rfl
  simp[aa,hc,<-hl]
 |l::r,i+1,cells,h,hz,hc=>by
  have hl:=hz 0 l rfl
  have ih:=vE r i cells (by simpa using h) (fun i l h=>hz (i+1) l h) hc
  simp only[List.set_cons_succ,wg,ih,aa]
  rw[show (i+1)*sz=l.length+i*sz by rw[hl,ze];omega,List.take_length_add_append,qE,List.drop_length_add_append]
  simp
theorem mL {α:Type} {sz:Nat}:∀(es:List (List α)) (i j:Nat) (l:List α) (x:α),(∀(i:Nat) (l:List α),es[i]?=some l->l.length=sz)->es[i]?=some l->l[j]?=some x->es.flatten[i*sz+j]?=some x
 |[],i,j,l,x,_,h,_=>by simp at h
 |e::r,0,j,l,x,hz,h,hj=>by
  simp at h;subst h
  have:=(zB.1 hj).1
  simp only[wg,qw,Nat.zero_add]
  rw[zR this];exact hj
 |e::r,i+1,j,l,x,hz,h,hj=>by
  have hl:=hz 0 e rfl
  have ih:=mL r i j l x (fun i l h=>hz (i+1) l h) (by simpa using h) hj
  simp only[wg]
  rw[show (i+1)*sz+j=e.length+(i*sz+j) by rw[hl,ze];omega,za (by omega)]
  simpa using ih
theorem eG {α:Type} {sz:Nat}:∀(es:List (List α)),(∀(i:Nat) (l:List α),es[i]?=some l->l.length=sz)->es.flatten.length=es.length*sz
 |[],_=>by simp
 |e::r,hz=>by
  have hl:=hz 0 e rfl
  have ih:=eG r (fun i l h=>hz (i+1) l h)
  simp only[wg,zG,zV,ih,hl,ze];omega
theorem Bz {c:Cx} {sz n:Nat}:∀{parts:List (Nat×AV)} {cparts:List (Nat×Value)} {zero:List (List AV)} {gF:Array Value} {es:List (List AV)},
  parts.length=cparts.length->(∀(k:Nat) (p:Nat×AV) (q:Nat×Value),parts[k]?=some p->cparts[k]?=some q->q.1=p.1/\aC c p.2 q.2) ->
  zero.length=n->(∀(i:Nat) (l:List AV),zero[i]?=some l->l.length=sz)->cu c zero.flatten gF.toList->kq sz zero parts=some es ->
  ∃yS,Instr.fill (fun i=>some (i*sz,sz)) gF cparts=some yS/\es.length=n/\(∀(i:Nat) (l:List AV),es[i]?=some l->l.length=sz)/\cu c es.flatten yS.toList
 |[],[],zero,gF,es,_,_,hn,hz,hr,h=>by
  simp only[kq,zOi]at h;subst h
  exact ⟨gF,rfl,hn,hz,hr⟩
 |[],_::_,_,_,_,hl,_,_,_,_,_=>by simp at hl
 |_::_,[],_,_,_,hl,_,_,_,_,_=>by simp at hl
 |(i,x)::r,(i',u)::r',zero,gF,es,hl,hp,hn,hz,hr,h=>by
  simp only[kq]at h
  split at h
  ·rename_i hc
   obtain ⟨Tp,az,cS⟩:=hc
   have Tp:x.cells.length=sz:=Tp
   have az:i<zero.length:=az
   obtain ⟨NA,hv⟩:=hp 0 (i,x) (i',u) rfl rfl
   simp only at NA;subst NA
   have hcr:=mS hv (fU cS)
   have hu:u.cells.size=sz:=by have:=hcr.1;simp at this;omega
   have EK:=eG zero hz
   have AF:gF.size=zero.length*sz:=by have:=hr.1;simp only[qL]at this;omega
   have hle:i'*sz+sz<=zero.length*sz:=by
    have:(i'+1)*sz<=zero.length*sz:=zX _ az
    rw[ze]at this;omega
   have EI:=vD u.cells.toList (i'*sz) gF (by simp;omega)
   have se:cu c (zero.set i' x.cells).flatten (u.cells.zipIdx.foldl (fun cs (p:Value×Nat)=>cs.setIfInBounds (i'*sz+p.2) p.1) gF).toList:=by
    have:(u.cells.zipIdx.foldl (fun cs (p:Value×Nat)=>cs.setIfInBounds (i'*sz+p.2) p.1) gF)=(u.cells.toList.zipIdx.foldl (fun (a:Array Value) (p:Value×Nat)=>a.setIfInBounds (i'*sz+p.2) p.1) gF):=by
     rw[<-Array.foldl_toList,Array.toList_zipIdx]
    rw[this,EI,vE zero i' x.cells az hz Tp]
    exact hr.Mi hcr (by rw[Tp,EK];exact hle)
   obtain ⟨cc,h1,h2⟩:=Bz (parts:=r) (cparts:=r') (zero:=zero.set i' x.cells) (by simpa using hl) (fun k p q h1 h2=>hp (k+1) p q h1 h2) (by simpa using hn)
    (fun k l hk=>by
     rw[ww]at hk
     split at hk
     ·simp only[zOi]at hk;subst hk;exact Tp
     ·exact hz k l hk) se h
   refine ⟨cc,?_,h2⟩
   simp only[Instr.fill]
   rw[if_neg (by simp[hu,AF];omega)]
   exact h1
  ·simp at h
theorem tc (c:Cx) {z:Value} {n:Nat} (h:z.cells.size=n):cu c (z.cells.toList.map jk) z.cells.toList:=by
 refine ⟨by simp,fun k av u h1 h2 => ?_⟩
 simp only[zO,h2,qP,zOi]at h1
 subst h1;exact tw c u
theorem du {P:Program} {t:TypeId} {z:List AV} (h:zeroOf P t=some z):∃i zv,P.info? t=some i/\i.zero=some zv/\zv.cells.size=i.size/\z=zv.cells.toList.map jk:=by
 unfold zeroOf at h
 split at h
 ·rename_i i hi
  split at h
  ·rename_i zv hz
   split at h
   ·rename_i hs
    simp only[zOi]at h
    exact ⟨i,zv,hi,hz,hs,h.symm⟩
   ·simp at h
  ·simp at h
 ·simp at h
theorem ng (c:Cx) {z:Value} {sz len:Nat} (hz:z.cells.size=sz) (hs:0<sz) :
  cu c (List.replicate len (z.cells.toList.map jk)).flatten ((Array.range (len*sz)).map (z.cells[· % z.cells.size]!)).toList:=by
 have hlen:∀(i:Nat) (l:List AV),(List.replicate len (z.cells.toList.map jk))[i]?=some l->l.length=sz:=by
  intro i l h
  simp only[wP]at h
  split at h
  ·simp only[zOi]at h;subst h;simpa using hz
  ·simp at h
 refine ⟨by rw[eG _ hlen];simp,fun k av u h1 h2 => ?_⟩
 simp only[Array.toList_map,zO,zC]at h2
 obtain ⟨k',jf,rfl⟩:=h2
 have hk:k<len*sz/\k'=k:=by
  have:=zB.1 jf
  obtain ⟨h5,h6⟩:=this
  simp at h5 h6;exact ⟨h5,h6.symm⟩
 obtain ⟨hk,rfl⟩:=hk
 have hq:k' / sz<len:=by rw[Nat.div_lt_iff_lt_mul hs];exact hk
 have hr:k' % sz<sz:=jC _ hs
 have se:k' % sz<z.cells.size:=by omega
 have h3:=mL (sz:=sz) _ (k' / sz) (k' % sz) (z.cells.toList.map jk) (jk z.cells[k' % sz]) hlen (by simp[wP,hq]) (by simp[zA,se])
 rw[Nat.mul_comm,Nat.div_add_mod,h1,zOi]at h3
 subst h3
 rw[hz,getElem!_pos z.cells (k' % sz) se]
 exact tw c _
theorem oj {P:Program} {w:World} (d:Nat) {t e:TypeId} (h:P.underlying t=some (.slice e)) (ad:Option Addr) (n m:Nat):(Op.equalIn (d+1) t (.slice ad n m) (.slice none 0 0)).run P w=.ok ad.isNone w:=by
 cases ad<;>simp[Op.equalIn,run_underlying h]
theorem gq {P:Program} {w:World} (d:Nat) {t e:TypeId} (h:P.underlying t=some (.pointer e)) (ad:Option Addr):(Op.equalIn (d+1) t (.pointer ad) (.pointer none)).run P w=.ok ad.isNone w:=by
 cases ad<;>simp[Op.equalIn,run_underlying h]
theorem oG {P:Program} {w:World} (d:Nat) {t e:TypeId} {j:TypeInfo} (h:P.underlying t=some (.pointer e)) (hj:P.info? e=some j) (ad:Addr):(Op.equalIn (d+1) t (.pointer (some ad)) (.pointer (some ad))).run P w=.ok true w:=by
 simp[Op.equalIn,run_underlying h,sizeOf,typeInfo,hj,run_sameAddr_same]
theorem fold_push:∀(ns:List Int) (s:ByteArray),(ns.foldl (fun r n=>r.push (UInt8.ofNat n.toNat)) s).data.toList=s.data.toList++ns.map (fun n=>UInt8.ofNat n.toNat)
 |[],s=>by simp
 |n::r,s=>by
  simp only[jD,wI]
  rw[fold_push r]
  simp[ByteArray.push]
theorem nh:∀{es:bN} {l:List UInt8},eQ es=some l->∃ns:List Int,es=ns.map (fun n=>[.v (.int .u8 n)])/\l=ns.map (fun n=>UInt8.ofNat n.toNat)
 |[],l,h=>by simp only[eQ,zOi]at h;exact ⟨[],rfl,h.symm⟩
 |c::r,l,h=>by
  simp only[eQ]at h
  split at h
  ·rename_i b l' hb hr
   simp only[zOi]at h
   obtain ⟨ns,h1,h2⟩:=nh hr
   unfold pE at hb
   split at hb
   ·rename_i n
    simp only[zOi]at hb
    exact ⟨n::ns,by simp[h1],by rw[<-h,<-hb,h2];rfl⟩
   ·simp at hb
  ·simp at h
theorem mQ {P:Program} {fs:Array Field}:∀{parts:List (Nat×Operand)} {QO:List (Nat×Nat×fc)},jq P fs parts=some QO->QO.length=parts.length
 |[],QO,h=>by simp only[jq,zOi]at h;subst h;rfl
 |(i,x)::r,QO,h=>by
  simp only[jq]at h
  split at h
  ·split at h
   ·rename_i j l hj hl
    simp only[zOi]at h;subst h
    simp[mQ hl]
   ·simp at h
  ·simp at h
theorem sk {P:Program} {fs:Array Field} {c:Cx} {tm:Nat->AV} {a:Act} {places:Array (Nat×Nat)}:∀{parts:List (Nat×Operand)} {QO:List (Nat×Nat×fc)},jq P fs parts=some QO ->
  (∀(k:Nat) (f:Field) (j:TypeInfo),fs[k]?=some f->P.info? f.type=some j->places[k]?=some (f.offset,j.size))->fD c tm a ->
  ∀(k:Nat) (p:Nat×Nat×AV) (q:Nat×Value),(QO.map fun p=>(p.1,p.2.1,ev tm p.2.2))[k]?=some p->(parts.map fun p=>(p.1,a.eval p.2))[k]?=some q->places[q.1]?=some (p.1,p.2.1)/\aC c p.2.2 q.2
 |[],QO,h,_,_,k,p,q,_,h2=>by simp at h2
 |(i,x)::r,QO,h,KX,ht,k,p,q,h1,h2=>by
  simp only[jq]at h
  split at h
  ·rename_i f hf
   split at h
   ·rename_i j l hj hl
    simp only[zOi]at h;subst h
    cases k with
    |zero =>
     simp only[wI,qj,zOi]at h1 h2
     subst h1;subst h2
     exact ⟨KX i f j hf hj,aD ht x⟩
    |succ k =>
     simp only[wI,wv]at h1 h2
     exact sk hl KX ht k p q h1 h2
   ·simp at h
  ·simp at h
theorem Gr {P:Program} {w:World} (fs:Array Field) (iU:fs.all (fun f=>(P.info? f.type).isSome)=true) :
  ∃places:Array (Nat×Nat),((fs.mapM fun f=>do pure (f.offset,<-sizeOf f.type)):Sem (Array (Nat×Nat))).run P w=.ok places w /\
   (∀(k:Nat) (f:Field) (j:TypeInfo),fs[k]?=some f->P.info? f.type=some j->places[k]?=some (f.offset,j.size)):=by
 have key:∀(l:List Field),(∀f∈l,(P.info? f.type).isSome)->((l.mapM fun f=>do pure (f.offset,<-sizeOf f.type)):Sem (List (Nat×Nat))).run P w=.ok (l.map fun f=>(f.offset,P.cellsOf f.type)) w:=by
  intro l
  induction l with
  |nil=>intro _;rfl
  |cons f r ih =>
   intro h
   have h1:=h f (by simp)
   obtain ⟨i,hi⟩:=wM.1 h1
   have ih:=ih (fun g hg=>h g (by simp[hg]))
   have hs:(sizeOf f.type).run P w=.ok (P.cellsOf f.type) w:=by simp[sizeOf,typeInfo,hi,Program.cellsOf]
   simp only[List.mapM_cons,Sem.run_bind,hs,Result.andThen_ok,Sem.run_pure,ih,wI]
 have hl:=key fs.toList (fun f hf=>by
  rw[Array.all_eq_true_iff_forall_mem]at iU
  exact iU f (by simpa using hf))
 refine ⟨(fs.toList.map fun f=>(f.offset,P.cellsOf f.type)).toArray,?_,?_⟩
 ·rw[Array.mapM_eq_mapM_toList]
  simp only[Sem.run_map,hl,Result.andThen_ok]
 ·intro k f j hf hj
  simp[hf,Program.cellsOf,hj]
theorem yX {P:Program} {c:Cx} {tm:Nat->AV} {a:Act} {sz n:Nat} {zv:Value} {parts:Array (Nat×Operand)} {es:List (List AV)} (hs:0<sz) (hz:zv.cells.size=sz) (ht:fD c tm a)
  (h:kq sz (List.replicate n (zv.cells.toList.map jk)) ((parts.toList.map fun p=>(p.1,cO p.2)).map fun p=>(p.1,ev tm p.2))=some es) :
  ∃cc,Instr.fill (fun i=>some (i*sz,sz)) ((Array.range (n*sz)).map (zv.cells[· % zv.cells.size]!)) (parts.toList.map fun p=>(p.1,a.eval p.2))=some cc/\es.length=n/\(∀(i:Nat) (l:List AV),es[i]?=some l->l.length=sz)/\cu c es.flatten cc.toList:=by
 refine Bz (n:=n) ?_ ?_ (by simp) ?_ (ng c hz hs) h
 ·simp
 ·intro k p q h1 h2
  simp only[qx,zO,zC,Function.comp_apply]at h1 h2
  obtain ⟨y,hy,rfl⟩:=h1
  obtain ⟨y',Au,rfl⟩:=h2
  rw[hy]at Au;simp only[zOi]at Au;subst Au
  exact ⟨rfl,aD ht y.2⟩
 ·intro i l hl
  simp only[wP]at hl
  split at hl
  ·simp only[zOi]at hl;subst hl;simpa using hz
  ·simp at hl
theorem vL {P:Program} {w:World} {a:Act} {t e:TypeId} {i:TypeInfo} {zv:Value} {n:Nat} {parts:Array (Nat×Operand)} {cc:Array Value} {dst:Option Tmp} {type:TypeId} {pos:String} {after:Array Edge} {guard:Option (Nat×Bool)}
  (hu:P.underlying t=some (.slice e)) (hi:P.info? e=some i) (nY:i.zero=some zv) (Es:0<i.size) (Nu:n*i.size<=16777216)
  (h1:Instr.fill (fun k=>some (k*i.size,i.size)) ((Array.range (n*i.size)).map (zv.cells[· % zv.cells.size]!)) (parts.toList.map fun p=>(p.1,a.eval p.2))=some cc) :
  (execOp a.eval ⟨dst,.buildSlice t n parts,type,pos,after,guard⟩).run P w=.ok (.value (.slice (some ⟨w.heap.size,0,none⟩) n n)) { w with heap:=w.heap.push (.cells cc e) }:=by
 have Nt:(parts.map fun (i,x)=>(i,a.eval x)).toList=parts.toList.map fun p=>(p.1,a.eval p.2):=by simp
 have aa1:¬(n*i.size>2 ^ 24):=by omega
 simp only[execOp,Instr.buildSlice,Sem.run_bind,run_underlying hu,Result.andThen_ok,Nt]
 by_cases h0:n*i.size=0
 ·have hn:n=0:=by
   rcases Nat.mul_eq_zero.1 h0 with h|h
   ·exact h
   ·omega
  subst hn
  simp only[qw]at h1
  have v8:Instr.fill (fun k=>some (k*i.size,i.size)) #[] (parts.toList.map fun p=>(p.1,a.eval p.2))=some cc:=by simpa [qT] using h1
  simp[sizeOf,typeInfo,hi,newRow,qT,v8]
 ·simp[sizeOf,typeInfo,hi,aa1,h0,zeroValue,nY,h1,newRow]
theorem Cr {α β:Type} {f:α->β} {xs:Array α} {x:α} (h:xs.toList=[x]):xs.map f = #[f x]:=by
 have:xs = #[x]:=qZ.1 (by simpa using h)
 subst this;simp
theorem mz {α β:Type} {f:α->β} {xs:Array α} {x y:α} (h:xs.toList=[x,y]):xs.map f = #[f x,f y]:=by
 have:xs = #[x,y]:=qZ.1 (by simpa using h)
 subst this;simp
theorem DW {P:Program} {w:World} {ts:Array TypeId} {t ty:TypeId} (h0:ts[0]?=some t) (h:P.underlying t=some .string) (b:ByteArray) :
  (Builtin.len_ ts ty #[.string b]).run P w=.ok (.int .i64 b.size) w:=by
 unfold Builtin.len_
 rw[h0,show (#[Value.string b]:Array Value)[0]?=some (.string b) from rfl]
 simp only[Sem.run_bind,run_underlying h,Result.andThen_ok,Sem.run_pure,goInt]
theorem Gh {P:Program} {w:World} {ts:Array TypeId} {t ty e:TypeId} (h0:ts[0]?=some t) (h:P.underlying t=some (.slice e)) (ad:Option Addr) (n m:Nat) :
  (Builtin.len_ ts ty #[.slice ad n m]).run P w=.ok (.int .i64 n) w:=by
 unfold Builtin.len_
 rw[h0,show (#[Value.slice ad n m]:Array Value)[0]?=some (.slice ad n m) from rfl]
 simp only[Sem.run_bind,run_underlying h,Result.andThen_ok,Sem.run_pure,goInt]
theorem Gi {P:Program} {w:World} {ts:Array TypeId} {t ty e:TypeId} (h0:ts[0]?=some t) (h:P.underlying t=some (.slice e)) (ad:Option Addr) (n m:Nat) :
  (Builtin.cap_ ts ty #[.slice ad n m]).run P w=.ok (.int .i64 m) w:=by
 unfold Builtin.cap_
 rw[h0,show (#[Value.slice ad n m]:Array Value)[0]?=some (.slice ad n m) from rfl]
 simp only[Sem.run_bind,run_underlying h,Result.andThen_ok,Sem.run_pure,goInt]
theorem cE {P:Program} {w:World} {a:Act} {b:Builtin} {args:Array Operand} {ts:Array TypeId} {dst:Option Tmp} {type:TypeId} {pos:String} {after:Array Edge} {guard:Option (Nat×Bool)} {u:Value} {w':World}
  (h:(builtin b ts type (args.map fun | .const _=>true|_=>false) (args.map a.eval)).run P w=.ok (.value u) w') :
  (execOp a.eval ⟨dst,.call ⟨.builtin b,args,ts⟩,type,pos,after,guard⟩).run P w=.ok (.value u) w':=by
 simp only[execOp,resolve,Sem.run_bind,Sem.run_pure,Result.andThen_ok,invoke]
 exact h
theorem E1 {P:Program} {b:Builtin} {args:Array Operand} {ts:Array TypeId} {dst:Option Tmp} {type:TypeId} {pos:String} {after:Array Edge} {guard:Option (Nat×Bool)} {co:iZ} {tm:Nat->AV} {a:Act} {c:Cx} {v:AV} {nx:Nat}
  (ao:cZ P b args.toList ts=some co) (he:fQ tm co=some v) (ht:fD c tm a) (hh:bf c nx) :
  oh P ⟨dst,.call ⟨.builtin b,args,ts⟩,type,pos,after,guard⟩ a c v:=by
 have go:∀{u:Value},(builtin b ts type (args.map fun | .const _=>true|_=>false) (args.map a.eval)).run P c.w=.ok (.value u) c.w->aC c v u->oh P ⟨dst,.call ⟨.builtin b,args,ts⟩,type,pos,after,guard⟩ a c v :=
  fun h hv=>.same (cE h) hv
 unfold cZ at ao
 split at ao
 ·
  rename_i x bz
  have hm:=Cr (f:=a.eval) bz
  have h1:=aD ht x
  simp only[zOi]at ao;subst ao
  simp only[fQ]at he
  split at he
  ·rename_i z es cp hx
   simp only[zOi]at he;subst he
   rw[hx]at h1
   generalize e1:a.eval x=u1 at h1
   cases h1 with
   |nil hc =>
    refine go (u:=.pointer none) ?_ (.v _)
    rw[hm,e1]
    simp only[builtin,Sem.run_bind,Lib.run_unsafeSliceData_nil,Result.andThen_ok,Sem.run_pure]
  ·rename_i r sz i len cap hx
   split at he
   ·rename_i hb
    obtain ⟨h0,rfl⟩:=hb
    simp only[zOi]at he;subst he
    rw[hx]at h1
    generalize e1:a.eval x=u1 at h1
    cases h1 with
    |sl hι hs ha hl dm hN hE eK =>
     rename_i n p ad
     have Hc:=ha (by omega)
     refine go (u:=.pointer (some ad)) ?_ ?_
     ·rw[hm,e1]
      simp only[builtin,Sem.run_bind,Lib.run_unsafeSliceData_row _ _ _ _ _ _ (show n≠0 by omega),Result.andThen_ok,Sem.run_pure]
     ·rw[Hc,<-hs]
      exact aC.ptr (off:=0) hι eK
   ·simp at he
  ·simp at he
 ·
  split at ao
  ·split at ao
   ·simp only[zOi]at ao;subst ao;simp[fQ]at he
   ·simp at ao
  ·simp at ao
 ·
  rename_i x bz
  have hm:=Cr (f:=a.eval) bz
  have h1:=aD ht x
  split at ao
  ·rename_i Av
   simp only[zOi]at ao;subst ao
   simp only[zm]at Av
   obtain ⟨t,Bl,RG⟩:=Av
   simp only[fQ]at he
   split at he
   ·rename_i s hx
    simp only[zOi]at he;subst he
    rw[hx]at h1
    have eo:(⟨s.toArray⟩:ByteArray).size=s.length:=by simp[ByteArray.size]
    refine go (u:=.int .i64 s.length) ?_ (.v _)
    rw[hm,h1.fL]
    simp only[builtin,Sem.run_bind,DW Bl RG,eo,Result.andThen_ok,Sem.run_pure]
   ·simp at he
  ·rename_i e Av
   simp only[zOi]at ao;subst ao
   simp only[zm]at Av
   obtain ⟨t,Bl,RG⟩:=Av
   simp only[fQ]at he
   have key:∀(ad:Option Addr) (n m:Nat),a.eval x=.slice ad n m->v=.int .i64 n->oh P ⟨dst,.call ⟨.builtin .len,args,ts⟩,type,pos,after,guard⟩ a c v:=by
    intro ad n m e1 hv
    subst hv
    refine go (u:=.int .i64 n) ?_ (.v _)
    rw[hm,e1]
    simp only[builtin,Sem.run_bind,Gh Bl RG,Result.andThen_ok,Sem.run_pure]
   split at he
   ·rename_i hx
    simp only[zOi]at he
    rw[hx]at h1
    generalize e1:a.eval x=u at h1
    cases h1 with
    |sl a1 a2 a3 a4 a5 a6 a7 a8=>exact key _ _ _ e1 he.symm
   ·rename_i hx
    simp only[zOi]at he
    rw[hx]at h1
    generalize e1:a.eval x=u at h1
    cases h1 with
    |nil _=>exact key _ _ _ e1 he.symm
    |rs g a1 a2 a3 a4 a5 a6 a7=>exact key _ _ _ e1 (by rw[<-he,a1])
   ·simp at he
  ·simp at ao
 ·
  rename_i x bz
  have hm:=Cr (f:=a.eval) bz
  have h1:=aD ht x
  split at ao
  ·rename_i e Av
   simp only[zOi]at ao;subst ao
   simp only[zm]at Av
   obtain ⟨t,Bl,RG⟩:=Av
   simp only[fQ]at he
   have key:∀(ad:Option Addr) (n m:Nat),a.eval x=.slice ad n m->v=.int .i64 m->oh P ⟨dst,.call ⟨.builtin .cap,args,ts⟩,type,pos,after,guard⟩ a c v:=by
    intro ad n m e1 hv
    subst hv
    refine go (u:=.int .i64 m) ?_ (.v _)
    rw[hm,e1]
    simp only[builtin,Sem.run_bind,Gi Bl RG,Result.andThen_ok,Sem.run_pure]
   split at he
   ·rename_i hx
    simp only[zOi]at he
    rw[hx]at h1
    generalize e1:a.eval x=u at h1
    cases h1 with
    |sl a1 a2 a3 a4 a5 a6 a7 a8=>exact key _ _ _ e1 (by rw[<-he,a5 _ rfl])
   ·rename_i hx
    simp only[zOi]at he
    rw[hx]at h1
    generalize e1:a.eval x=u at h1
    cases h1 with
    |nil hc=>exact key _ _ _ e1 (by rw[<-he,hc _ rfl])
    |rs g a1 a2 a3 a4 a5 a6 a7=>exact key _ _ _ e1 (by rw[<-he,a3 _ rfl])
   ·simp at he
  ·simp at ao
 ·
  rename_i x y bz
  have hm:=mz (f:=a.eval) bz
  have h1:=aD ht x
  have h2:=aD ht y
  simp only[zOi]at ao;subst ao
  simp only[fQ]at he
  split at he
  ·rename_i hx hy
   simp only[zOi]at he;subst he
   rw[hx]at h1;rw[hy]at h2
   refine go ?_ (.v _)
   rw[hm,h1.bZ,h2.bZ]
   simp[builtin,Builtin.min_,Builtin.min2]
  ·simp at he
 ·
  rename_i x y bz
  have hm:=mz (f:=a.eval) bz
  have h1:=aD ht x
  have h2:=aD ht y
  simp only[zOi]at ao;subst ao
  simp only[fQ]at he
  split at he
  ·rename_i hx hy
   simp only[zOi]at he;subst he
   rw[hx]at h1;rw[hy]at h2
   refine go ?_ (.v _)
   rw[hm,h1.bZ,h2.bZ]
   simp[builtin,Builtin.max_,Builtin.max2]
  ·simp at he
 ·
  split at ao
  ·split at ao
   ·split at ao
    ·split at ao
     ·simp only[zOi]at ao;subst ao;simp[fQ]at he
     ·simp at ao
    ·simp at ao
   ·split at ao
    ·split at ao
     ·simp only[zOi]at ao;subst ao;simp[fQ]at he
     ·simp at ao
    ·simp at ao
   ·simp at ao
  ·simp at ao
 ·
  split at ao
  ·split at ao
   ·split at ao
    ·simp only[zOi]at ao;subst ao;simp[fQ]at he
    ·simp at ao
   ·simp at ao
  ·simp at ao
 ·
  (repeat' split at ao)<;>first|(simp at ao;done)|(simp only[zOi]at ao;subst ao;simp[fQ]at he)
 ·simp at ao
theorem vF {P:Program} {c:Cx} (d:Nat) {us ws:Array Value}:∀(fs:List Field) (k:Nat) {ks:List LK} {x y:List AV} {b:Bool},rE P fs k=some ks->eR ks x y=some b ->
  (∀(j:Nat) (av:AV),x[j]?=some av->∃u,us[k+j]?=some u/\aC c av u)->(∀(j:Nat) (av:AV),y[j]?=some av->∃u,ws[k+j]?=some u/\aC c av u) ->
  (Op.eqFields (d+1) us ws fs).run P c.w=.ok b c.w
 |[],k,ks,x,y,b,hk,hb,hx,hy=>by
  simp only[rE,zOi]at hk;subst hk
  unfold eR at hb
  split at hb
  ·simp only[zOi]at hb;subst hb;rfl
  ·contradiction
  ·simp at hb
 |f::r,k,ks,x,y,b,hk,hb,hx,hy=>by
  simp only[rE]at hk
  split at hk
  ·rename_i hf
   obtain ⟨aex,aaU⟩:=hf
   have step:∀{lk:LK} {l:List LK} {i:TypeInfo},P.info? f.type=some i->(isAgg f.type).run P c.w=.ok false c.w->rE P r (k+1)=some l->eR (lk::l) x y=some b ->
     (∀{p q:AV} {u w:Value} {b:Bool},iI lk p q=some b->aC c p u->aC c q w->(Op.equalIn (d+1) f.type u w).run P c.w=.ok b c.w)->(Op.eqFields (d+1) us ws (f::r)).run P c.w=.ok b c.w:=by
    intro lk l i hi hag hl hb fg
    cases x with
    |nil=>simp[eR]at hb
    |cons p x' =>
    cases y with
    |nil=>simp[eR]at hb
    |cons q y' =>
     simp only[eR]at hb
     split at hb
     ·rename_i b1 b2 ta vx
      simp only[zOi]at hb;subst hb
      obtain ⟨u,hu,hpu⟩:=hx 0 p rfl
      obtain ⟨w,hw,Tx⟩:=hy 0 q rfl
      rw[wF]at hu hw
      have TA:∀{zs:Array Value} {z:Value},zs[k]?=some z->(part f.type zs f.offset).run P c.w=.ok z c.w:=by
       intro zs z hz
       simp only[part,Sem.run_bind,hag,Result.andThen_ok,aex]
       simp[hz]
      have ih:=vF d (us:=us) (ws:=ws) r (k+1) hl vx (fun j av hj=>by have:=hx (j+1) av hj;rwa [show k+(j+1)=k+1+j by omega]at this) (fun j av hj=>by have:=hy (j+1) av hj;rwa [show k+(j+1)=k+1+j by omega]at this)
      simp only[Op.eqFields]
      rw[if_pos aaU]
      simp only[Sem.run_bind,TA hu,TA hw,Result.andThen_ok,fg ta hpu Tx]
      cases b1 with
      |false=>simp
      |true=>simp only[jN,zK,if_false,Bool.true_and];exact ih
     ·simp at hb
   split at hk
   ·rename_i kk i l hu hi hl
    simp only[zOi]at hk;subst hk
    refine step (i:=i) hi (by simp[isAgg,run_underlying hu]) hl hb ?_
    intro p q u w b h hp hq
    unfold iI at h
    split at h
    ·split at h
     ·rename_i Iy;subst Iy
      simp only[zOi]at h;subst h
      rw[hp.bZ,hq.bZ,run_equalIn_int c.w d f.type _ _ _ _ hu,tV]
     ·simp at h
    ·contradiction
    ·contradiction
    ·simp at h
   ·rename_i i l hu hi hl
    simp only[zOi]at hk;subst hk
    refine step (i:=i) hi (by simp[isAgg,run_underlying hu]) hl hb ?_
    intro p q u w b h hp hq
    unfold iI at h
    split at h
    ·contradiction
    ·simp only[zOi]at h;subst h
     rw[hp.fL,hq.fL,run_equalIn_string c.w d f.type _ _ hu,pP,pP,tV]
    ·contradiction
    ·simp at h
   ·rename_i i l hu hi hl
    simp only[zOi]at hk;subst hk
    refine step (i:=i) hi (by simp[isAgg,run_underlying hu]) hl hb ?_
    intro p q u w b h hp hq
    unfold iI at h
    split at h
    ·contradiction
    ·contradiction
    ·simp only[zOi]at h;subst h
     rw[hp.bZ,hq.bZ,run_equalIn_bool' c.w d f.type _ _ hu]
    ·simp at h
   ·simp at hk
  ·simp at hk
theorem Sm {P:Program} {op:BinOp} {t yt:TypeId} {x y:Operand} {dst:Option Tmp} {type:TypeId} {pos:String} {after:Array Edge} {guard:Option (Nat×Bool)} {co:iZ} {tm:Nat->AV} {a:Act} {c:Cx} {v:AV}
  (ao:iJ P op t x y=some co) (he:fQ tm co=some v) (ht:fD c tm a) :
  oh P ⟨dst,.binOp op t x y yt,type,pos,after,guard⟩ a c v:=by
 unfold iJ at ao
 split at ao
 ·rename_i fs hu
  split at ao
  ·simp at ao
  ·rename_i bU
   split at ao
   ·simp at ao
   ·rename_i hg
    split at ao
    ·rename_i ks Nw
     have hfo:P.fieldsOf t=fs:=by simp[Program.fieldsOf,hu]
     have h1:=aD ht x
     have h2:=aD ht y
     have key:∀(p q:List AV) (b:Bool),ev tm (cO x)=.agg p->ev tm (cO y)=.agg q->eR ks p q=some b->∃us ws,a.eval x=.agg us/\a.eval y=.agg ws/\(Op.equalIn 10000 t (.agg us) (.agg ws)).run P c.w=.ok b c.w:=by
      intro p q b hx hy hb
      rw[hx]at h1;rw[hy]at h2
      obtain ⟨us,e1,l1,v1⟩:=h1.rK
      obtain ⟨ws,e2,l2,v2⟩:=h2.rK
      refine ⟨us,ws,e1,e2,?_⟩
      rw[run_equalIn_struct c.w 9999 t us ws (by rw[hfo];exact hu) (by simpa using bU),hfo]
      refine vF 9998 fs.toList 0 Nw hb ?_ ?_
      ·intro j av hj
       have az:j<us.size:=by have:=(zB.1 hj).1;omega
       exact ⟨us[j],by simp[az],v1 j av _ hj (by simp[az])⟩
      ·intro j av hj
       have az:j<ws.size:=by have:=(zB.1 hj).1;omega
       exact ⟨ws[j],by simp[az],v2 j av _ hj (by simp[az])⟩
     have K9:P.eqGuardType P.depth t=false:=by simpa using hg
     split at ao
     ·simp only[zOi]at ao;subst ao
      simp only[fQ]at he
      split at he
      ·rename_i p q hx hy
       simp only[zC]at he
       obtain ⟨b,hb,rfl⟩:=he
       obtain ⟨us,ws,e1,e2,hr⟩:=key p q b hx hy hb
       refine .same (u:=.bool b) ?_ (by simpa using aC.v _)
       simp only[execOp,Sem.run_bind,e1,e2,run_eqGuard_agg c.w .eql t x y us ws K9,Result.andThen_ok,run_eql_struct,hr,Sem.run_pure]
      ·simp at he
     ·simp only[zOi]at ao;subst ao
      simp only[fQ]at he
      split at he
      ·rename_i p q hx hy
       simp only[zC]at he
       obtain ⟨b,hb,rfl⟩:=he
       obtain ⟨us,ws,e1,e2,hr⟩:=key p q b hx hy hb
       refine .same (u:=.bool (!b)) ?_ (by simpa using aC.v _)
       simp only[execOp,Sem.run_bind,e1,e2,run_eqGuard_agg c.w .neq t x y us ws K9,Result.andThen_ok,run_neq_struct,hr,Sem.run_pure]
      ·simp at he
     ·simp at ao
    ·simp at ao
 ·simp at ao
theorem Lk {P:Program} {own:Bool} {o:Oper} {co:iZ} {tm:Nat->AV} {a:Act} {c:Cx} {v:AV} (hc:dC P own o=some co) (he:fQ tm co=some v) {nx:Nat} (ht:fD c tm a) (hh:bf c nx) :
  oh P o a c v:=by
 obtain ⟨dst,op,type,pos,after,guard⟩:=o
 unfold dC at hc
 split at hc
 ·rename_i QP ao
  simp only[zOi]at hc;subst hc
  cases op<;>simp only[mg]at ao
  case move x =>
   simp only[zOi]at ao;subst ao
   simp only[fQ,zOi]at he;subst he
   exact .same rfl (aD ht x)
  case assign x =>
   simp only[zOi]at ao;subst ao
   simp only[fQ,zOi]at he;subst he
   exact .same rfl (aD ht x)
  case pick x y z =>
   simp only[zOi]at ao;subst ao
   simp only[fQ]at he
   split at he
   ·rename_i b hb
    simp only[zOi]at he;subst he
    have h1:=aD ht x
    rw[hb]at h1
    have h2:=h1.bZ
    refine .same (u:=if b then a.eval y else a.eval z) ?_ ?_
    ·simp[execOp,h2,asBool]
    ·cases b
     ·exact aD ht z
     ·exact aD ht y
   ·simp at he
  case alloc e =>
   split at ao<;>simp only[zC]at ao<;>obtain ⟨z,_,rfl⟩:=ao<;>simp[fQ]at he
  case panic x=>simp only[zOi]at ao;subst ao;simp[fQ]at he
  case box e x=>simp only[zOi]at ao;subst ao;simp[fQ]at he
  case build t parts =>
   split at ao
   ·rename_i fs z hu hz
    split at ao
    ·rename_i iU
     simp only[zC]at ao
     obtain ⟨QO,aa9,rfl⟩:=ao
     simp only[fQ,zC]at he
     obtain ⟨cells,CL,rfl⟩:=he
     obtain ⟨i,zv,hi,nY,oq,rfl⟩:=du hz
     have RR:∃places:Array (Nat×Nat),((fs.mapM fun f=>do pure (f.offset,<-sizeOf f.type)):Sem (Array (Nat×Nat))).run P c.w=.ok places c.w /\
       (∀(k:Nat) (f:Field) (j:TypeInfo),fs[k]?=some f->P.info? f.type=some j->places[k]?=some (f.offset,j.size)):=Gr (P:=P) (w:=c.w) fs iU
     obtain ⟨places,QA,KX⟩:=RR
     obtain ⟨cc,h1,h2⟩:=EZ (c:=c) (place:=(places[·]?)) (cparts:=parts.toList.map fun p=>(p.1,a.eval p.2)) (by simpa using mQ aa9) (sk aa9 KX ht) (tc c oq) CL
     refine .same (u:=.agg cc) ?_ (.agg (by simpa using h2.1) (fun k av u h3 h4=>h2.2 k av u h3 (by rw[getElem?_arr];exact h4)))
     have Nt:(parts.map fun (i,x)=>(i,a.eval x)).toList=parts.toList.map fun p=>(p.1,a.eval p.2):=by simp
     have X5:(zeroValue t).run P c.w=.ok zv c.w:=by simp[zeroValue,typeInfo,hi,nY]
     simp only[execOp,Instr.build,Sem.run_bind,X5,run_underlying hu,Result.andThen_ok,QA,Nt,h1,Sem.run_pure]
    ·simp at ao
   ·simp at ao
  case buildSlice t n parts =>
   split at ao
   ·rename_i e hu
    split at ao
    ·rename_i z i hz hi
     split at ao
     ·rename_i hc
      obtain ⟨Es,Nu⟩:=hc
      simp only[zOi]at ao;subst ao
      cases own with
      |true=>simp[fQ]at he
      |false =>
       simp only[zK,↓reduceIte,fQ,zC]at he
       obtain ⟨es,cT,rfl⟩:=he
       obtain ⟨i',zv,kG,nY,oq,rfl⟩:=du hz
       rw[hi]at kG;simp only[zOi]at kG;subst kG
       obtain ⟨cc,h1,h2,h3,h4⟩:=yX (P:=P) Es oq ht cT
       refine ⟨.slice (some ⟨c.w.heap.size,0,none⟩) n n,{ c.w with heap:=c.w.heap.push (.cells cc e) },.inl ?_,Grow.push _ _,?_⟩
       ·exact vL hu hi nY Es Nu h1
       ·have eo:es.flatten.length=cc.size:=by simpa using h4.1
        refine .rs (fun p q=>(cc[p*i.size+q]?).getD undef) h2 (zD _) (fun m hm=>by simp only[zOi]at hm;omega) h3 ?_ ?_ ?_
        ·intro _
         refine ⟨⟨by simp,?_,?_⟩,rfl⟩
         ·intro ho;exact absurd (hh.oP ho) (Nat.lt_irrefl _)
         ·intro hF;exact absurd (hh.F _ hF) (Nat.lt_irrefl _)
        ·intro p q l av hp hq
         have h5:=mL es p q l av h3 hp hq
         obtain ⟨u,h6,h7⟩:=h4.get h5
         rw[getElem?_arr]at h6
         simp[World.cell?,h6]
        ·intro p q l av hp hq
         have h5:=mL es p q l av h3 hp hq
         obtain ⟨u,h6,h7⟩:=h4.get h5
         rw[getElem?_arr]at h6
         simp only[h6,wJ]
         exact h7.mono (Ext.tt (nx:=nx) (Grow.push _ _))
     ·simp at ao
    ·simp at ao
   ·simp at ao
  case load t x =>
   simp only[zC]at ao
   obtain ⟨n,hn,rfl⟩:=ao
   simp only[fQ]at he
   split at he
   ·rename_i cells hx
    have h1:=aD ht x
    rw[hx]at h1
    generalize hu:a.eval x=u at h1
    cases h1 with
    |rp g ck fg l8 =>
     rename_i B O
     obtain ⟨u,h2,h3⟩:=lI (P:=P) hn (B:=B) (O:=O) (off:=0) (cells:=cells) (fun k av hk=>⟨g k,fg k av hk,l8 k av hk⟩) he
     exact .same (by simp only[execOp,hu,Instr.loadAt,Instr.sureAddr,Sem.run_bind,Sem.run_pure,Result.andThen_ok];simp only[wF]at h2;simp[h2]) h3
   ·simp at he
  case store t x y =>
   split at ao
   ·split at ao
    ·simp only[zOi]at ao;subst ao;simp[fQ]at he
    ·simp at ao
   ·simp at ao
  case nilCheck x =>
   simp only[zOi]at ao;subst ao
   simp only[fQ]at he
   have h1:=aD ht x
   generalize hu:a.eval x=u at h1
   split at he
   ·rename_i hx;rw[hx]at h1;simp only[zOi]at he;subst he
    cases h1 with
    |ptr hp eK=>exact .same (by simp[execOp,hu]) (.ptr hp eK)
   ·rename_i hx;rw[hx]at h1;simp only[zOi]at he;subst he
    cases h1 with
    |rp g a b d=>exact .same (by simp[execOp,hu]) (.rp g a b d)
   ·rename_i hx;rw[hx]at h1;simp only[zOi]at he;subst he
    cases h1 with
    |fn a b d e=>exact .same (by simp[execOp,hu]) (.fn a b d e)
   ·simp at he
  case binOp op t x y yt =>
   unfold jQ at ao
   split at ao
   iterate 2
    next hu =>
     simp only[zOi]at ao;subst ao
     simp only[fQ,dJ]at he
     have h1:=aD ht x
     have h2:=aD ht y
     split at he
     ·rename_i k p k' q hx hy
      rw[hx]at h1;rw[hy]at h2
      have e1:=h1.bZ
      have e2:=h2.bZ
      have hex:∀u,(binOp op t (.int k p) (.int k' q)).run P c.w=.ok u c.w->(execOp a.eval ⟨dst,.binOp op t x y yt,type,pos,after,guard⟩).run P c.w=.ok (.value u) c.w:=by
       intro u h
       simp only[execOp,e1,e2,eqGuard_at_int]
       simp[h]
      split at he
      ·obtain ⟨u,rfl,hr⟩:=HR (P:=P) (w:=c.w) (t:=t) (k':=k') (.inl rfl) he
       exact .same (hex u hr) (.v u)
      ·obtain ⟨u,rfl,hr⟩:=HR (P:=P) (w:=c.w) (t:=t) (k':=k') (.inr rfl) he
       exact .same (hex u hr) (.v u)
      ·rename_i Ey Bp
       split at he
       ·rename_i hk;subst hk
        obtain ⟨u,rfl,hr⟩:=M7 (P:=P) (w:=c.w) (t:=t) ⟨fun h=>Ey h,fun h=>Bp h⟩ he
        exact .same (hex u hr) (.v u)
       ·simp at he
     ·rename_i p q hx hy
      rw[hx]at h1;rw[hy]at h2
      have e1:=h1.fL
      have e2:=h2.fL
      obtain ⟨u,hv,hr⟩:=Me (P:=P) (w:=c.w) c (t:=t) he
      exact .same (by simp only[execOp,e1,e2,eqGuard_at_string];simp[hr]) hv
     ·simp at he
   ·rename_i hu
    simp only[zOi]at ao;subst ao
    simp only[fQ]at he
    have h1:=aD ht x
    have h2:=aD ht y
    split at he
    ·rename_i p q hx hy
     rw[hx]at h1;rw[hy]at h2
     have e1:=h1.bZ
     have e2:=h2.bZ
     cases op<;>simp only[w6,zOi,reduceCtorEq]at he<;>subst he
     ·exact .same (by simp only[execOp,e1,e2,eqGuard_at_bool];simp[binOp,Op.equal,Op.maxDepth,run_equalIn_bool' c.w 9999 t p q hu]) (.v _)
     ·exact .same (by simp only[execOp,e1,e2,eqGuard_at_bool];simp[binOp,Op.equal,Op.maxDepth,run_equalIn_bool' c.w 9999 t p q hu]) (.v _)
    ·simp at he
   ·rename_i e hu
    simp only[zOi]at ao;subst ao
    simp only[fQ]at he
    have h1:=aD ht x
    have h2:=aD ht y
    have cG:=fun (ad:Option Addr) (n m:Nat)=>oj (P:=P) (w:=c.w) 9999 hu ad n m
    have hex:∀(ad:Option Addr) (n m:Nat) (v:AV),a.eval x=.slice ad n m->a.eval y=.slice none 0 0->w6 op ad.isNone=some v->oh P ⟨dst,.binOp op t x y yt,type,pos,after,guard⟩ a c v:=by
     intro ad n m v e1 e2 h
     cases op<;>simp only[w6,zOi,reduceCtorEq]at h<;>subst h
     ·exact .same (by simp only[execOp,e1,e2,eqGuard_at_slice];simp[binOp,Op.equal,Op.maxDepth,cG]) (.v _)
     ·exact .same (by simp only[execOp,e1,e2,eqGuard_at_slice];simp[binOp,Op.equal,Op.maxDepth,cG]) (.v _)
    split at he
    ·rename_i nl _ _ _ _ _ _ hx hy
     rw[hx]at h1;rw[hy]at h2
     generalize e2:a.eval y=u2 at h2
     generalize e1:a.eval x=u1 at h1
     cases h2 with
     |nil EM =>
      cases h1 with
      |nil Lb=>exact hex none 0 0 _ e1 e2 he
      |rs g b d e f g' h i=>exact hex (some _) _ _ _ e1 e2 he
    ·rename_i hx hy
     rw[hx]at h1;rw[hy]at h2
     generalize e2:a.eval y=u2 at h2
     generalize e1:a.eval x=u1 at h1
     cases h2 with
     |nil EM =>
      cases h1 with
      |sl a b d e f g' h' h9=>exact hex (some _) _ _ _ e1 e2 he
    ·simp at he
   ·rename_i e hu
    split at ao
    ·rename_i LS
     obtain ⟨j,hj⟩:=wM.1 LS.1
     simp only[zOi]at ao;subst ao
     simp only[fQ]at he
     have h1:=aD ht x
     have h2:=aD ht y
     have hex:∀(u1 u2:Option Addr) (b:Bool) (v:AV),a.eval x=.pointer u1->a.eval y=.pointer u2->(Op.equalIn (9999+1) t (.pointer u1) (.pointer u2)).run P c.w=.ok b c.w->w6 op b=some v->oh P ⟨dst,.binOp op t x y yt,type,pos,after,guard⟩ a c v:=by
      intro u1 u2 b v e1 e2 hr h
      cases op<;>simp only[w6,zOi,reduceCtorEq]at h<;>subst h
      ·exact .same (by simp only[execOp,e1,e2,eqGuard_at_pointer];simp[binOp,Op.equal,Op.maxDepth,hr]) (.v _)
      ·exact .same (by simp only[execOp,e1,e2,eqGuard_at_pointer];simp[binOp,Op.equal,Op.maxDepth,hr]) (.v _)
     split at he
     ·rename_i hx hy
      rw[hx]at h1;rw[hy]at h2
      exact hex none none true v h1.bZ h2.bZ (gq 9999 hu none) he
     ·rename_i r i o hx hy
      rw[hx]at h1;rw[hy]at h2
      have e2:=h2.bZ
      generalize e1:a.eval x=u1 at h1
      cases h1 with
      |ptr h h9=>exact hex (some _) none false v e1 e2 (gq 9999 hu (some _)) he
     ·rename_i cs hx hy
      rw[hx]at h1;rw[hy]at h2
      have e2:=h2.bZ
      generalize e1:a.eval x=u1 at h1
      cases h1 with
      |rp g b d f=>exact hex (some _) none false v e1 e2 (gq 9999 hu (some _)) he
     ·rename_i r i o r' i' o' hx hy
      split at he
      ·rename_i k7
       obtain ⟨rfl,rfl,rfl⟩:=k7
       rw[hx]at h1;rw[hy]at h2
       generalize e1:a.eval x=u1 at h1
       generalize e2:a.eval y=u2 at h2
       cases h1 with
       |ptr k1 k19 =>
        cases h2 with
        |ptr k2 k29 =>
         rw[k1]at k2;simp only[zOi]at k2;subst k2
         exact hex (some _) (some _) true v e1 e2 (oG 9999 hu hj _) he
      ·simp at he
     ·simp at he
    ·simp at ao
   ·simp at ao
  case unOp op t x =>
   simp only[zOi]at ao;subst ao
   simp only[fQ,unA]at he
   have h1:=aD ht x
   split at he
   ·rename_i k n hx
    simp only[zOi]at he;subst he
    rw[hx]at h1
    exact .same (by simp only[execOp,h1.bZ,Op.unary,Op.intArith];rfl) (.v _)
   ·rename_i b hx
    simp only[zOi]at he;subst he
    rw[hx]at h1
    exact .same (by simp[execOp,h1.bZ,Op.unary]) (.v _)
   ·simp at he
  case convert src CW x =>
   have h1:=aD ht x
   unfold gG at ao
   split at ao
   ·rename_i k0 k hs hd
    simp only[zOi]at ao;subst ao
    simp only[fQ]at he
    split at he
    ·rename_i k1 n hx
     simp only[zOi]at he;subst he
     rw[hx]at h1
     exact .same (by simp only[execOp,h1.bZ,convert,Sem.run_bind,run_underlying hs,run_underlying hd,Result.andThen_ok];rfl) (.v _)
    ·simp at he
   ·rename_i hs hd
    simp only[zOi]at ao;subst ao
    simp only[fQ]at he
    split at he
    ·rename_i l hx
     simp only[zOi]at he;subst he
     rw[hx]at h1
     exact .same (by simp only[execOp,h1.fL,convert,Sem.run_bind,run_underlying hs,run_underlying hd,Result.andThen_ok];rfl) (.str l)
    ·simp at he
   ·rename_i e hs hd
    split at ao
    ·simp only[zOi]at ao;subst ao;simp[fQ]at he
    ·simp at ao
   ·rename_i e hs hd
    split at ao
    ·rename_i RF
     simp only[zOi]at ao;subst ao
     simp only[fQ]at he
     split at he
     ·rename_i nl sz es cp hx
      split at he
      ·rename_i eo
       simp only[zC]at he
       obtain ⟨l,hl,rfl⟩:=he
       rw[hx]at h1
       generalize e1:a.eval x=u at h1
       cases h1 with
       |nil dm =>
        simp only[eQ,zOi]at hl;subst hl
        refine .same (u:=.string ByteArray.empty) ?_ (.str [])
        simp only[execOp,e1,convert,Sem.run_bind,run_underlying hs,run_underlying hd,run_underlying RF,Result.andThen_ok]
        rfl
       |rs g hlen hle dm cT ck fg l8 =>
        rename_i n len ad
        have VT:sz=1:=by simpa using eo
        subst VT
        obtain ⟨ns,Iu,rfl⟩:=nh hl
        have Bq:(loadCells ad len).run P c.w=.ok (ns.map (Value.int .u8)).toArray c.w:=by
         have Ag:(ns.map (Value.int .u8)).length=len:=by rw[<-hlen,Iu];simp
         rw[<-Ag]
         refine run_loadCells_list c.w ad _ (fun j u hj => ?_)
         simp only[zO,zC]at hj
         obtain ⟨q,hq,rfl⟩:=hj
         have h5:es[j]?=some [.v (.int .u8 q)]:=by rw[Iu];simp[hq]
         obtain ⟨Yc,yy⟩:=ck (ch h5)
         obtain ⟨B,O,sp⟩:=ad
         simp only at yy;subst yy
         have h6:=fg j 0 _ _ h5 rfl
         have h7:=(l8 j 0 _ _ h5 rfl).bZ
         rw[h7]at h6
         rw[gH]
         simpa using h6
        refine .same (u:=.string (ns.foldl (fun r n=>r.push (UInt8.ofNat n.toNat)) ByteArray.empty)) ?_ ?_
        ·have bR:=run_bytesToString c.w ad len n ns Bq
         have hcv:=run_convert_bytes_string c.w src CW e (some ad) len n hs RF hd
         simp only[execOp,e1,Sem.run_bind,hcv,bR,Result.andThen_ok,Sem.run_pure]
        ·have:=tj c (ns.foldl (fun r n=>r.push (UInt8.ofNat n.toNat)) ByteArray.empty)
         rw[fold_push]at this
         simpa using this
      ·simp at he
     ·simp at he
    ·simp at ao
   ·rename_i k hs hd
    simp only[zOi]at ao;subst ao
    simp only[fQ]at he
    split at he
    ·rename_i k1 n hx
     simp only[zOi]at he;subst he
     rw[hx]at h1
     exact .same (u:=.string (Utf8.encode n)) (by simp only[execOp,h1.bZ,convert,Sem.run_bind,run_underlying hs,run_underlying hd,Result.andThen_ok];rfl) (tj c _)
    ·simp at he
   ·split at ao
    ·simp only[zOi]at ao;subst ao;simp[fQ]at he
    ·simp at ao
   ·split at ao
    ·simp only[zOi]at ao;subst ao;simp[fQ]at he
    ·simp at ao
   ·simp at ao
  case makeInterface t x =>
   split at ao
   ·simp at ao
   ·simp at ao
   ·rename_i d hd hu
    simp only[zOi]at ao;subst ao
    simp only[fQ,zOi]at he;subst he
    refine .same (u:=.iface t (a.eval x)) ?_ (.Bi (aD ht x))
    simp only[execOp,Instr.makeInterface,Sem.run_bind,run_underlying hu,Result.andThen_ok]
    cases d<;>first|rfl|skip
    all_goals exact absurd rfl (hd _)
  case makeFunc fn first cap =>
   simp only[zOi]at ao;subst ao
   simp only[fQ,zOi]at he;subst he
   have hl:∀(xs:Array Operand) (k:Nat) (av:AV) (u:Value),((xs.toList.map cO).map (ev tm))[k]?=some av->(xs.map a.eval)[k]?=some u->aC c av u:=by
    intro xs k av u h1 h2
    simp only[zO,zC,Array.getElem?_map]at h1 h2
    obtain ⟨y,⟨z,hz,rfl⟩,rfl⟩:=h1
    obtain ⟨z',LO,rfl⟩:=h2
    rw[getElem?_arr]at hz
    rw[hz]at LO
    simp only[zOi]at LO;subst LO
    exact aD ht z
   exact .same (by simp[execOp,Instr.makeFunc]) (.fn (by simp) (by simp) (hl first) (hl cap))
  case makeSlice t l n =>
   split at ao
   ·split at ao
    ·split at ao
     ·simp only[zOi]at ao;subst ao;simp[fQ]at he
     ·simp at ao
    ·simp at ao
   ·simp at ao
  case slice t x lo hi mx =>
   have h1:=aD ht x
   split at ao
   ·rename_i hu
    split at ao
    ·simp only[zOi]at ao;subst ao
     simp only[fQ]at he
     cases hx:ev tm (cO x)<;>rw[hx]at he h1<;>(try (simp[eS]at he;done))
     have e1:=h1.fL
     obtain ⟨u,h2,h3⟩:=Aq (P:=P) hu (lQ ht lo) (lQ ht hi) he
     exact .same (by simp only[execOp,e1];simp[h2]) h3
    ·simp at ao
   ·rename_i e hu
    simp only[zC]at ao
    obtain ⟨i,kG,rfl⟩:=ao
    simp only[fQ]at he
    cases hx:ev tm (cO x)<;>rw[hx]at he h1<;>(try (simp[b8]at he;done))
    ·obtain ⟨u,h2,h3⟩:=B4 (P:=P) hu kG h1 (lQ ht lo) (lQ ht hi) (lQ ht mx) he
     exact .same (by simp only[execOp];simp[h2]) h3
    ·obtain ⟨u,h2,h3⟩:=B5 (P:=P) hu kG h1 (lQ ht lo) (lQ ht hi) (lQ ht mx) he
     exact .same (by simp only[execOp];simp[h2]) h3
   ·simp at ao
  case fieldAddr s x f =>
   split at ao
   ·rename_i fs hu
    split at ao
    ·rename_i fd hf
     split at ao
     ·rename_i i hi
      split at ao
      ·simp at ao
      ·rename_i eo
       simp only[zOi]at ao;subst ao
       simp only[fQ]at he
       have h1:=aD ht x
       generalize e1:a.eval x=u at h1
       have hex:∀(B O:Nat),u=.pointer (some ⟨B,O,none⟩)->(execOp a.eval ⟨dst,.fieldAddr s x f,type,pos,after,guard⟩).run P c.w=.ok (.value (.pointer (some ⟨B,O+fd.offset,none⟩))) c.w:=by
        rintro B O rfl
        simp only[execOp,e1,Instr.fieldAt,Sem.run_bind,run_underlying hu,Result.andThen_ok]
        simp[hf,Instr.sureAddr,fieldPlace,sizeOf,typeInfo,hi,eo,gH]
       split at he
       ·rename_i hx;rw[hx]at h1;simp only[zOi]at he;subst he
        cases h1 with
        |ptr hp eK=>exact .same (hex _ _ rfl) (by rw[qE];exact .ptr hp eK)
       ·rename_i cells hx;rw[hx]at h1;simp only[zOi]at he;subst he
        cases h1 with
        |rp g ck fg l8 =>
         refine .same (hex _ _ rfl) (.rp (fun k=>g (fd.offset+k)) ?_ ?_ ?_)
         ·intro bt;exact ck (by rintro rfl;simp at bt)
         ·intro k av hk;rw[wE]at hk;rw[qE];exact fg _ av hk
         ·intro k av hk;rw[wE]at hk;exact l8 _ av hk
       ·simp at he
     ·simp at ao
    ·simp at ao
   ·simp at ao
  case field t x f =>
   split at ao
   ·rename_i fs hu
    split at ao
    ·rename_i fd hf
     simp only[zC]at ao
     obtain ⟨n,hn,rfl⟩:=ao
     simp only[fQ]at he
     split at he
     ·rename_i cs hx
      have h1:=aD ht x
      rw[hx]at h1
      obtain ⟨us,e1,hl,hv⟩:=h1.rK
      obtain ⟨u,h2,h3⟩:=Mu (P:=P) hn hl hv he
      exact .same (by simp only[execOp,e1,Instr.field,Sem.run_bind,run_underlying hu,Result.andThen_ok];simp[hf,asAgg,h2]) h3
     ·simp at he
    ·simp at ao
   ·simp at ao
  case indexAddr t x i =>
   split at ao
   ·rename_i e hu
    simp only[zC]at ao
    obtain ⟨j,hj,rfl⟩:=ao
    simp only[fQ]at he
    have h1:=aD ht x
    have h2:=aD ht i
    split at he
    ·rename_i r sz k len cp kd n hx hi
     split at he
     ·rename_i hb
      obtain ⟨eo,h0,az⟩:=hb
      simp only[zOi]at he;subst he
      rw[hx]at h1;rw[hi]at h2
      have e2:=h2.bZ
      generalize e1:a.eval x=u at h1
      cases h1 with
      |sl hι hs ha hl dm hN hE eK =>
       rename_i m p ad
       have Hc:=ha (by omega)
       subst Hc
       refine .same (u:=.pointer (some ((⟨p.B,p.O+k*sz,none⟩:Addr).add (n.toNat*j.size)))) ?_ ?_
       ·simp only[execOp,e1,e2,Instr.indexAt,asIntOf,Sem.run_bind,Sem.run_pure,run_underlying hu,Result.andThen_ok]
        simp[h0,az,sizeOf,typeInfo,hj]
       ·rw[gH,<-eo]
        have:=aC.ptr (c:=c) (i:=k+n.toNat) (off:=0) hι eK
        rw[hs,ze]at this
        simpa [qE] using this
     ·simp at he
    ·rename_i nl sz es cp kd n hx hi
     split at he
     ·rename_i hb
      obtain ⟨eo,h0⟩:=hb
      simp only[zC]at he
      obtain ⟨l,hl,rfl⟩:=he
      rw[hx]at h1;rw[hi]at h2
      have e2:=h2.bZ
      generalize e1:a.eval x=u at h1
      cases h1 with
      |nil _=>simp at hl
      |rs g hlen hle dm cT ck fg l8 =>
       rename_i m len ad
       have az:n<len:=by
        have:=(zB.1 hl).1
        omega
       have bt:es≠[]:=ch hl
       obtain ⟨Yc,yy⟩:=ck bt
       obtain ⟨B,O,sp⟩:=ad
       simp only at yy;subst yy
       refine .same (u:=.pointer (some ((⟨B,O,none⟩:Addr).add (n.toNat*j.size)))) ?_ ?_
       ·simp only[execOp,e1,e2,Instr.indexAt,asIntOf,Sem.run_bind,Sem.run_pure,run_underlying hu,Result.andThen_ok]
        simp[h0,az,sizeOf,typeInfo,hj]
       ·rw[gH,<-eo]
        exact .rp (fun q=>g n.toNat q) (fun _=>Yc) (fun q av hq=>fg n.toNat q l av hl hq) (fun q av hq=>l8 n.toNat q l av hl hq)
     ·simp at he
    ·simp at he
   ·simp at ao
  case index t x i =>
   split at ao
   ·rename_i hu
    simp only[zOi]at ao;subst ao
    simp only[fQ]at he
    split at he
    ·rename_i s kd n hx hi
     split at he
     ·rename_i h0
      simp only[zC]at he
      obtain ⟨b,hb,rfl⟩:=he
      have h1:=aD ht x
      have h2:=aD ht i
      rw[hx]at h1;rw[hi]at h2
      have az:n.toNat<s.length:=(zB.1 hb).1
      have CN:s[n.toNat]=b:=(zB.1 hb).2
      refine .same (u:=.int .u8 b.toNat) ?_ (.v _)
      simp only[execOp,h1.fL,h2.bZ,Instr.index,asIntOf,Sem.run_bind,Sem.run_pure,run_underlying hu,Result.andThen_ok]
      have bH:(⟨s.toArray⟩:ByteArray)[n.toNat]?=some b:=by
       rw[<-CN,getElem?_pos (⟨s.toArray⟩:ByteArray) n.toNat (by simpa [ByteArray.size] using az)]
       simp[ByteArray.getElem_eq_getElem_data]
      simp[h0,bH]
     ·simp at he
    ·simp at he
   ·simp at ao
  case extract x i =>
   simp only[zOi]at ao;subst ao
   simp only[fQ]at he
   split at he
   ·rename_i vs hx
    have h1:=aD ht x
    rw[hx]at h1
    obtain ⟨us,e1,hl,hv⟩:=h1.xm
    have az:i<us.size:=by have:=(zB.1 he).1;omega
    exact .same (u:=us[i]) (by simp[execOp,e1,Instr.extract,az]) (hv i v _ he (by simp[az]))
   ·simp at he
  case call cl =>
   obtain ⟨callee,args,ts⟩:=cl
   cases callee with
   |value f =>
    cases f<;>simp only[]at ao<;>(try (split at ao))<;>simp only[zOi,reduceCtorEq]at ao<;>subst ao<;>simp[fQ]at he
   |invoke r m=>simp at ao
   |builtin b =>
    simp only[]at ao
    split at ao
    ·unfold fY at ao
     (repeat' split at ao)<;>simp only[zOi,reduceCtorEq]at ao<;>subst ao<;>simp[fQ]at he
    ·exact E1 ao he ht hh
  all_goals (first|(simp at ao;done)|skip)
 ·rename_i hn
  cases op
  case binOp=>exact Sm hc he ht
  all_goals
   exfalso
   have hm:=dt hc
   cases hm<;>simp[fQ]at he
def cj (ι:Inj) (r:Nat) (p:Place):Inj:=fun x=>if x=r then some p else ι x
theorem tl {c:Cx} {nx:Nat} (hh:bf c nx) {w':World} {cs:Array Value} {e:TypeId} {fz:Nat×Nat} {es:bN} {sz:Nat}
  (cv:w'.heap=c.w.heap.push (.cells cs e fz)) (Ay:w'.os=c.w.os) (gD:w'.tape=c.w.tape) (gw:w'.output=c.w.output)
  (CI:∀o,o<cs.size->¬(fz.1<=o/\o<fz.2))
  (cT:∀(i:Nat) (l:List AV),es[i]?=some l->l.length=sz/\∀(j:Nat) (av:AV),l[j]?=some av->∃u,cs[i*sz+j]?=some u/\aC c av u) :
  let c':Cx:=⟨c.F,cj c.ι nx ⟨c.w.heap.size,0,sz,cs.size,[]⟩,ab c.hp nx (some es),w'⟩
  bf c' (nx+1)/\Ext c c':=by
 intro c'
 have bH:∀B,B<c.w.heap.size->w'.heap[B]?=c.w.heap[B]?:=by
  intro B hB;rw[cv,wW,if_neg (by omega)]
 have Ex:w'.heap[c.w.heap.size]?=some (.cells cs e fz):=by rw[cv];simp
 have R3:=hh.fresh
 have hfh:=hh.uE
 have hι:∀r,r≠nx->c'.ι r=c.ι r:=fun r hr=>by show cj _ _ _ r=_;simp[cj,hr]
 have xq:c'.ι nx=some ⟨c.w.heap.size,0,sz,cs.size,[]⟩:=by show cj _ _ _ nx=_;simp[cj]
 have nc:∀r,r≠nx->c'.hp r=c.hp r:=fun r hr=>by show ab _ _ _ r=_;simp[ab,hr]
 have Ix:c'.hp nx=some es:=by show ab _ _ _ nx=_;simp[ab]
 have o8:∀B,B<c.w.heap.size->c'.own B->c.own B:=by
  rintro B hB ⟨r,p,h1,h2,h3⟩
  by_cases hr:r=nx
  ·subst hr;rw[xq,zOi]at h2;subst h2;simp at h3;omega
  ·rw[nc r hr]at h1;rw[hι r hr]at h2;exact ⟨r,p,h1,h2,h3⟩
 have bm:Ext c c':=by
  refine ⟨rfl,?_,?_,?_,Ay,gD,gw⟩
  ·intro r p h
   by_cases hr:r=nx
   ·subst hr;rw[R3]at h;simp at h
   ·rw[hι r hr];exact h
  ·show c.w.heap.size<=w'.heap.size
   rw[cv];simp
  ·exact fun B hB ho=>⟨fun h=>ho (o8 B hB h),bH B hB⟩
 refine ⟨⟨?_,?_,?_,?_,?_,hh.ty.to ?_ bm.ι (fun B AI t LY hB=>⟨AI,by show w'.heap[B]?=_;rw[bH B (zE.1 hB).1];exact hB,rfl⟩) (fun r g1 _ g2=>by
  have:r≠nx:=by rintro rfl;have:=hh.uK _ g1;omega
  rw[nc r this]at g2;exact g2),hh.gl.ext bm⟩,bm⟩
 rotate_right
 ·intro r t k rest hr
  by_cases he:r=nx
  ·subst he
   rw[Ix,zOi]at hr;subst hr
   obtain ⟨u,_,hu⟩:=(cT 0 _ rfl).2 0 _ rfl
   exact hu.xZ.elim
  ·rw[nc r he]at hr;exact hr
 ·intro r hr
  by_cases he:r=nx
  ·omega
  ·rw[nc r he]at hr;have:=hh.uK r hr;omega
 ·intro r p h
  by_cases he:r=nx
  ·omega
  ·rw[hι r he]at h;have:=hh.lt r p h;omega
 ·intro r es' p h1 h2
  by_cases he:r=nx
  ·subst he
   rw[Ix,zOi]at h1;subst h1
   rw[xq,zOi]at h2;subst h2
   refine ⟨fun hF=>absurd (hh.F _ hF) (Nat.lt_irrefl _),.cells cs e fz,Ex,.inl ⟨wT _,cs,e,fz,rfl,rfl,CI,fun i l hl => ?_⟩⟩
   obtain ⟨h3,h4⟩:=cT i l hl
   exact ⟨h3,fun j av hj=>let ⟨u,h5,h6⟩:=h4 j av hj;⟨u,by rw[Nat.zero_add];exact h5,h6.mono bm⟩⟩
  ·rw[nc r he]at h1;rw[hι r he]at h2
   obtain ⟨hF,o,h3,h4⟩:=hh.rU r es' p h1 h2
   have az:p.B<c.w.heap.size:=(zE.1 h3).1
   exact ⟨hF,o,by show w'.heap[p.B]?=_;rw[bH _ az];exact h3,h4.move fun x u h=>h.mono bm⟩
 ·have az:∀r p,c.hp r≠none->c.ι r=some p->p.B<c.w.heap.size:=by
   intro r p h1 h2
   exact hh.oP ⟨r,p,h1,h2,rfl⟩
  intro r r' p p' h1 h2 h3 h4 h5
  by_cases he:r=nx
  ·by_cases AD:r'=nx
   ·omega
   ·subst he
    rw[xq,zOi]at h3;subst h3
    rw[nc r' AD]at h2;rw[hι r' AD]at h4
    have:=az r' p' h2 h4;simp at h5;omega
  ·by_cases AD:r'=nx
   ·subst AD
    rw[xq,zOi]at h4;subst h4
    rw[nc r he]at h1;rw[hι r he]at h3
    have:=az r p h1 h3;simp at h5;omega
   ·rw[nc r he]at h1;rw[hι r he]at h3;rw[nc r' AD]at h2;rw[hι r' AD]at h4
    exact hh.inj r r' p p' h1 h2 h3 h4 h5
 ·intro B hB
  have:=hh.F B hB
  show B<w'.heap.size
  rw[cv];simp;omega
theorem B1 {c:Cx} {nx:Nat} (hh:bf c nx) {hp':Heap} (hs:Sub hp' c.hp):bf { c with hp:=hp' } nx/\Ext c { c with hp:=hp' }:=by
 have bt:∀r,hp' r≠none->hp' r=c.hp r:=fun r h=>(hs r).resolve_right h
 have bm:Ext c { c with hp:=hp' }:=by
  refine ⟨rfl,fun _ _ h=>h,zD _,?_,rfl,rfl,rfl⟩
  rintro B hB ho
  refine ⟨?_,rfl⟩
  rintro ⟨r,p,h1,h2,h3⟩
  exact ho ⟨r,p,by rw[<-bt r h1];exact h1,h2,h3⟩
 refine ⟨⟨?_,hh.lt,?_,?_,hh.F,hh.ty.to (fun r t k rest hr=>by
   have hr:hp' r=_:=hr
   rw[<-bt r (by simp[hr])];exact hr) (fun _ _ h=>h) (fun B cs t fz hB=>⟨cs,hB,rfl⟩) (fun r _ _ hr=>by
   have hr:hp' r≠none:=hr
   rw[bt r hr]at hr;exact hr),hh.gl.ext bm⟩,bm⟩
 ·intro r h;exact hh.uK r (by rw[<-bt r h];exact h)
 ·intro r es p h1 h2
  have v8:hp' r=some es:=h1
  have:c.hp r=some es:=by rw[<-bt r (by simp[v8])];exact h1
  obtain ⟨hF,o,h3,h4⟩:=hh.rU r es p this h2
  exact ⟨hF,o,h3,h4.move fun x u h=>h.mono bm⟩
 ·intro r r' p p' h1 h2 h3 h4 h5
  exact hh.inj r r' p p' (by rw[<-bt r h1];exact h1) (by rw[<-bt r' h2];exact h2) h3 h4 h5
theorem kM {c:Cx} {nx:Nat} (hh:bf c nx) {r:Nat} {es es':bN} {p:Place} (hr:c.hp r=some es) (hp:c.ι r=some p) {w':World} {cs cs':Array Value} {e:TypeId} {fz:Nat×Nat}
  (hb:c.w.heap[p.B]?=some (.cells cs e fz)) (cv:w'.heap=c.w.heap.setIfInBounds p.B (.cells cs' e fz)) (eo:cs'.size=cs.size)
  (Ay:w'.os=c.w.os) (gD:w'.tape=c.w.tape) (gw:w'.output=c.w.output)
  (cT:∀(i:Nat) (l:List AV),es'[i]?=some l->l.length=p.sz/\∀(j:Nat) (av:AV),l[j]?=some av->∃u,cs'[p.O+i*p.sz+j]?=some u/\aC c av u) :
  let c':Cx:=⟨c.F,c.ι,ab c.hp r (some es'),w'⟩
  bf c' nx/\Ext c c':=by
 intro c'
 have az:p.B<c.w.heap.size:=(zE.1 hb).1
 have FM:c'.hp r=some es':=by show ab _ _ _ r=_;simp[ab]
 have lC:∀q,q≠r->c'.hp q=c.hp q:=fun q hq=>by show ab _ _ _ q=_;simp[ab,hq]
 have yH:∀q,c'.hp q≠none↔c.hp q≠none:=by
  intro q
  by_cases hq:q=r
  ·subst hq;rw[FM,hr];simp
  ·rw[lC q hq]
 have o5:w'.heap.size=c.w.heap.size:=by rw[cv];simp
 have pc:∀B,B≠p.B->w'.heap[B]?=c.w.heap[B]?:=by
  intro B hB;rw[cv,wQ (by omega)]
 have QF:w'.heap[p.B]?=some (.cells cs' e fz):=by rw[cv];simp[az]
 have ma:c.own p.B:=⟨r,p,by simp[hr],hp,rfl⟩
 have bm:Ext c c':=by
  refine ⟨rfl,fun _ _ h=>h,by show _<=w'.heap.size;omega,?_,Ay,gD,gw⟩
  intro B hB ho
  refine ⟨?_,pc B (by rintro rfl;exact ho ma)⟩
  rintro ⟨q,p',h1,h2,h3⟩
  exact ho ⟨q,p',(yH q).1 h1,h2,h3⟩
 have FI:AN c':=hh.ty.to (fun q t k rest hq=>by
   by_cases he:q=r
   ·subst he
    rw[FM,zOi]at hq;subst hq
    obtain ⟨u,_,hu⟩:=(cT 0 _ rfl).2 0 _ rfl
    exact hu.xZ.elim
   ·rw[lC q he]at hq;exact hq) (fun _ _ h=>h) (fun B AI t LY hB=>by
   by_cases he:B=p.B
   ·subst he
    rw[hb,zOi,Obj.cells.injEq]at hB
    obtain ⟨rfl,rfl,rfl⟩:=hB
    exact ⟨cs',QF,eo⟩
   ·exact ⟨AI,(pc B he).trans hB,rfl⟩) fun q _ _ h=>(yH q).1 h
 refine ⟨⟨fun q h=>hh.uK q ((yH q).1 h),hh.lt,?_,?_,?_,FI,hh.gl.ext bm⟩,bm⟩
 ·intro q So p' h1 h2
  by_cases hq:q=r
  ·subst hq
   rw[FM,zOi]at h1;subst h1
   have Al:c.ι q=some p':=h2
   rw[hp,zOi]at Al;subst Al
   obtain ⟨hF,o,h3,h4⟩:=hh.rU q es p hr hp
   rw[hb,zOi]at h3;subst h3
   rcases h4 with ⟨hm,AI,e0,LY,h4,h5,h6,h7⟩|⟨_,_,_,h4,_⟩|⟨_,_,h4,_⟩|⟨_,_,h4,_⟩
   ·rw[Obj.cells.injEq]at h4
    obtain ⟨rfl,rfl,rfl⟩:=h4
    exact ⟨hF,.cells cs' e fz,QF,.inl ⟨hm,cs',e,fz,rfl,eo.trans h5,h6,fun i l hl=>let ⟨h7,h8⟩:=cT i l hl;⟨h7,fun j av hj=>let ⟨u,h9,im⟩:=h8 j av hj;⟨u,h9,im.mono bm⟩⟩⟩⟩
   all_goals cases h4
  ·rw[lC q hq]at h1
   obtain ⟨hF,o,h3,h4⟩:=hh.rU q So p' h1 h2
   have bt:p'.B≠p.B:=fun h=>hq (hh.inj q r p' p (by simp[h1]) (by simp[hr]) h2 hp h)
   exact ⟨hF,o,by show w'.heap[p'.B]?=_;rw[pc _ bt];exact h3,h4.move fun x u h=>h.mono bm⟩
 ·intro q q' p1 p2 h1 h2 h3 h4 h5
  exact hh.inj q q' p1 p2 ((yH q).1 h1) ((yH q').1 h2) h3 h4 h5
 ·intro B hB
  have:=hh.F B hB
  show B<w'.heap.size
  omega
theorem MK {c:Cx} {nx:Nat} (hh:bf c nx) {r:Nat} {es es':bN} {p p':Place} (hr:c.hp r=some es) (hp:c.ι r=some p) {w':World} {cs cs':Array Value} {e:TypeId} {fz:Nat×Nat}
  (hb:c.w.heap[p.B]?=some (.cells cs e fz)) (cv:w'.heap=c.w.heap.setIfInBounds p.B (.cells cs' e fz)) (eo:cs'.size=cs.size) (KY:p'.B=p.B) (hpN:p'.N=p.N) (hpO:p'.O<=p'.N)
  (Ay:w'.os=c.w.os) (gD:w'.tape=c.w.tape) (gw:w'.output=c.w.output)
  (cT:∀(i:Nat) (l:List AV),es'[i]?=some l->l.length=p'.sz/\∀(j:Nat) (av:AV),l[j]?=some av->∃u,cs'[p'.O+i*p'.sz+j]?=some u/\aC c av u) :
  let c':Cx:=⟨c.F,cj c.ι nx p',ab (ab c.hp r none) nx (some es'),w'⟩
  bf c' (nx+1)/\Ext c c':=by
 intro c'
 have az:p.B<c.w.heap.size:=(zE.1 hb).1
 have Is:r≠nx:=fun h=>by have:=hh.lt r p hp;omega
 have Ix:c'.hp nx=some es':=by show ab _ _ _ nx=_;simp[ab]
 have FM:c'.hp r=none:=by show ab _ _ _ r=_;simp[ab,Is]
 have lC:∀q,q≠r->q≠nx->c'.hp q=c.hp q:=fun q hq Eu=>by show ab _ _ _ q=_;simp[ab,hq,Eu]
 have hι:∀q,q≠nx->c'.ι q=c.ι q:=fun q hq=>by show cj _ _ _ q=_;simp[cj,hq]
 have xq:c'.ι nx=some p':=by show cj _ _ _ nx=_;simp[cj]
 have o5:w'.heap.size=c.w.heap.size:=by rw[cv];simp
 have pc:∀B,B≠p.B->w'.heap[B]?=c.w.heap[B]?:=by
  intro B hB;rw[cv,wQ (by omega)]
 have QF:w'.heap[p.B]?=some (.cells cs' e fz):=by rw[cv];simp[az]
 have ma:c.own p.B:=⟨r,p,by simp[hr],hp,rfl⟩
 have EL:∀q,c'.hp q≠none->q≠nx->c.hp q≠none/\q≠r:=by
  intro q h hq
  have uf:q≠r:=by rintro rfl;exact h FM
  rw[lC q uf hq]at h;exact ⟨h,uf⟩
 have bm:Ext c c':=by
  refine ⟨rfl,?_,by show _<=w'.heap.size;omega,?_,Ay,gD,gw⟩
  ·intro q pq h
   by_cases hq:q=nx
   ·subst hq;rw[hh.fresh]at h;simp at h
   ·rw[hι q hq];exact h
  ·intro B hB ho
   refine ⟨?_,pc B (by rintro rfl;exact ho ma)⟩
   rintro ⟨q,pq,h1,h2,h3⟩
   by_cases hq:q=nx
   ·subst hq;rw[xq,zOi]at h2;subst h2;rw[<-h3,KY]at ho;exact ho ma
   ·rw[hι q hq]at h2;exact ho ⟨q,pq,(EL q h1 hq).1,h2,h3⟩
 have FI:AN c':=hh.ty.to (fun q t k rest hq=>by
   by_cases he:q=nx
   ·subst he
    rw[Ix,zOi]at hq;subst hq
    obtain ⟨u,_,hu⟩:=(cT 0 _ rfl).2 0 _ rfl
    exact hu.xZ.elim
   ·by_cases R5:q=r
    ·subst R5;rw[FM]at hq;cases hq
    ·rw[lC q R5 he]at hq;exact hq) bm.ι (fun B AI t LY hB=>by
   by_cases he:B=p.B
   ·subst he
    rw[hb,zOi,Obj.cells.injEq]at hB
    obtain ⟨rfl,rfl,rfl⟩:=hB
    exact ⟨cs',QF,eo⟩
   ·exact ⟨AI,(pc B he).trans hB,rfl⟩) fun q g1 _ g2=>by
   have hq:q≠nx:=by rintro rfl;have:=hh.uK _ g1;omega
   exact (EL q g2 hq).1
 refine ⟨⟨?_,?_,?_,?_,?_,FI,hh.gl.ext bm⟩,bm⟩
 ·intro q h
  by_cases hq:q=nx
  ·omega
  ·have:=hh.uK q (EL q h hq).1;omega
 ·intro q pq h
  by_cases hq:q=nx
  ·omega
  ·rw[hι q hq]at h;have:=hh.lt q pq h;omega
 ·intro q So pq h1 h2
  by_cases hq:q=nx
  ·subst hq
   rw[Ix,zOi]at h1;subst h1
   rw[xq,zOi]at h2;subst h2
   obtain ⟨hF,o,h3,h4⟩:=hh.rU r es p hr hp
   rw[hb,zOi]at h3;subst h3
   rcases h4 with ⟨hm,AI,e0,LY,h4,h5,h6,h7⟩|⟨_,_,_,h4,_⟩|⟨_,_,h4,_⟩|⟨_,_,h4,_⟩
   ·rw[Obj.cells.injEq]at h4
    obtain ⟨rfl,rfl,rfl⟩:=h4
    refine ⟨by rw[KY];exact hF,.cells cs' e fz,by show w'.heap[p'.B]?=_;rw[KY];exact QF,.inl ⟨hpO,cs',e,fz,rfl,by rw[hpN];exact eo.trans h5,by rw[hpN];exact h6,?_⟩⟩
    exact fun i l hl=>let ⟨h7,h8⟩:=cT i l hl;⟨h7,fun j av hj=>let ⟨u,h9,im⟩:=h8 j av hj;⟨u,h9,im.mono bm⟩⟩
   all_goals cases h4
  ·have v8:c'.hp q≠none:=by simp[h1]
   obtain ⟨h3,uf⟩:=EL q v8 hq
   rw[lC q uf hq]at h1;rw[hι q hq]at h2
   obtain ⟨hF,o,h3,h4⟩:=hh.rU q So pq h1 h2
   have bt:pq.B≠p.B:=fun h=>uf (hh.inj q r pq p (by simp[h1]) (by simp[hr]) h2 hp h)
   exact ⟨hF,o,by show w'.heap[pq.B]?=_;rw[pc _ bt];exact h3,h4.move fun x u h=>h.mono bm⟩
 ·have bt:∀q pq,c'.hp q≠none->q≠nx->c.ι q=some pq->pq.B≠p.B:=by
   intro q pq h1 hq h2 h3
   obtain ⟨h4,h5⟩:=EL q h1 hq
   exact h5 (hh.inj q r pq p h4 (by simp[hr]) h2 hp h3)
  intro q q' p1 p2 h1 h2 h3 h4 h5
  by_cases hq:q=nx
  ·by_cases Eu:q'=nx
   ·omega
   ·subst hq
    rw[xq,zOi]at h3;subst h3
    rw[hι q' Eu]at h4
    exact absurd (h5.symm.trans KY) (bt q' p2 h2 Eu h4)
  ·by_cases Eu:q'=nx
   ·subst Eu
    rw[xq,zOi]at h4;subst h4
    rw[hι q hq]at h3
    exact absurd (h5.trans KY) (bt q p1 h1 hq h3)
   ·rw[hι q hq]at h3;rw[hι q' Eu]at h4
    exact hh.inj q q' p1 p2 (EL q h1 hq).1 (EL q' h2 Eu).1 h3 h4 h5
 ·intro B hB
  have:=hh.F B hB
  show B<w'.heap.size
  omega
theorem gO {α:Type} (a:Array α) (i:Nat) (x:α) (h:a[i]?=some x):a.setIfInBounds i x=a:=by
 apply qk
 intro j
 rw[qO]
 split
 ·rename_i hj;subst hj;rw[if_pos (zE.1 h).1,h]
 ·rfl
theorem Ca {w:World} {B o:Nat} {cs:Array Value} {e:TypeId} {fz:Nat×Nat} (h:w.heap[B]?=some (.cells cs e fz)) (v:Value) :
  (w.setCell ⟨B,o,none⟩ v).heap=w.heap.setIfInBounds B (.cells (cs.setIfInBounds o v) e fz):=by
 apply qk
 intro j
 simp only[World.setCell,wY,qO]
 have az:=(zE.1 h).1
 split
 ·rename_i hj;subst hj
  have bH:w.heap[B]=.cells cs e fz:=(zE.1 h).2
  simp[az,bH]
 ·rfl
theorem gW {α:Type} (l:List α) (o:Nat):aa l o []=l:=by simp[aa]
theorem B3 {α:Type} (l:List α) (o:Nat) (x:α) (r:List α) (h:o+(r.length+1)<=l.length):aa l o (x::r)=aa (l.set o x) (o+1) r:=by
 apply qr
 intro k
 rw[getElem?_spliceL _ _ _ (by simpa using h),getElem?_spliceL _ _ _ (by simp;omega)]
 simp only[zV]
 by_cases h1:k=o
 ·subst h1
  rw[if_pos (by omega),if_neg (by omega),List.getElem?_set_self (by omega)]
  simp
 ·by_cases h2:o+1<=k/\k<o+1+r.length
  ·rw[if_pos (by omega),if_pos h2,show k-o=(k-(o+1))+1 by omega,wv]
  ·rw[if_neg (by omega),if_neg h2,we (by omega)]
theorem fT {P:Program} {B o:Nat} {e:TypeId} {fz:Nat×Nat}:∀(vs:List Value) (i:Nat) (w:World) (cs:Array Value),w.heap[B]?=some (.cells cs e fz)->o+i+vs.length<=cs.size ->
  (∀k,k<cs.size->¬(fz.1<=k/\k<fz.2))->(∀v∈vs,v.oneCell'=true) ->
  ∃w' cs',(storeCells ⟨B,o,none⟩ vs i).run P w=.ok () w'/\w'.heap=w.heap.setIfInBounds B (.cells cs' e fz)/\cs'.toList=aa cs.toList (o+i) vs/\w'.os=w.os/\w'.tape=w.tape/\w'.output=w.output
 |[],i,w,cs,h,_,_,_=>⟨w,cs,rfl,(gO _ _ _ h).symm,(gW _ _).symm,rfl,rfl,rfl⟩
 |v::r,i,w,cs,h,hle,CI,h1=>by
  simp only[zV]at hle
  have az:=(zE.1 h).1
  have fg:w.cell? ⟨B,o+i,none⟩=some cs[o+i]:=by simp[World.cell?,h,show o+i<cs.size by omega]
  have Ah:w.frozen? ⟨B,o+i,none⟩=false:=by
   simp only[World.frozen?,h]
   have:=CI (o+i) (by omega)
   simpa using this
  have bU:(store ((⟨B,o,none⟩:Addr).add i) v).run P w=.ok () (w.setCell ⟨B,o+i,none⟩ v):=by
   rw[gH,run_store P w _ v _ (h1 v (by simp)),fg,Ah];rfl
  have cv:=Ca (o:=o+i) h v
  have ha:(w.setCell ⟨B,o+i,none⟩ v).heap[B]?=some (.cells (cs.setIfInBounds (o+i) v) e fz):=by rw[cv];simp[az]
  have hb:o+(i+1)+r.length<=(cs.setIfInBounds (o+i) v).size:=by simp;omega
  have hc:∀k,k<(cs.setIfInBounds (o+i) v).size->¬(fz.1<=k/\k<fz.2):=by simpa using CI
  obtain ⟨w',cs',h2,h3,h4,h5,h6,h7⟩:=fT (P:=P) r (i+1) (w.setCell ⟨B,o+i,none⟩ v) _ ha hb hc (fun x hx=>h1 x (by simp[hx]))
  refine ⟨w',cs',?_,?_,?_,h5,h6,h7⟩
  ·simp only[storeCells,Sem.run_bind,bU,Result.andThen_ok,h2]
  ·rw[h3,cv,Array.setIfInBounds_setIfInBounds]
  ·rw[h4,B3 _ _ _ _ (by simp;omega),Array.toList_setIfInBounds,qE]
theorem My {c:Cx} {x:AV} {u:Value} (h:aC c x u) (hx:x.one=true):u.oneCell'=true:=by
 cases h with
 |v=>cases u<;>first|rfl|simp[AV.one]at hx
 |agg _ _=>simp[AV.one]at hx
 |bE _ _=>simp[AV.one]at hx
 |any _=>simp[AV.one]at hx
 |_=>rfl
theorem q0 {c:Cx} {x:List AV} {y:List Value} (h:cu c x y) (hx:x.all AV.one=true):∀v∈y,v.oneCell'=true:=by
 intro v hv
 obtain ⟨k,hk,rfl⟩:=List.mem_iff_getElem.1 hv
 have az:k<x.length:=by rw[h.1];exact hk
 have h1:=h.2 k x[k] y[k] (zA az) (zA hk)
 exact My h1 (zQ.1 hx _ (zP az))
theorem jn {P:Program} {c:Cx} {nx sz:Nat} {x:AV} {u:Value} {new:bN} (hh:bf c nx) (hv:aC c x u) (h:aR c.hp sz x=some new) :
  (Builtin.lenOf u).run P c.w=.ok new.length c.w/\(∀(i:Nat) (l:List AV),new[i]?=some l->l.length=sz) /\
  ∀n,n<=new.length->∃ys:List Value,(∀w:World,w.heap=c.w.heap->(Builtin.firstCells sz n u).run P w=.ok ys.toArray w)/\cu c (new.take n).flatten ys:=by
 have gen:∀(ad:Addr) (m:Nat),(new≠[]->ad.spot=none)->(∀(i:Nat) (l:List AV),new[i]?=some l->l.length=sz) ->
   (∀(i j:Nat) (l:List AV) (av:AV),new[i]?=some l->l[j]?=some av->∃w,c.w.cell? ⟨ad.block,ad.off+i*sz+j,none⟩=some w/\aC c av w) ->
   ∀n,n<=new.length->∃ys:List Value,(∀w:World,w.heap=c.w.heap->(Builtin.firstCells sz n (.slice (some ad) new.length m)).run P w=.ok ys.toArray w)/\cu c (new.take n).flatten ys:=by
  intro ad m hsp hlen fg n hn
  have az:∀(i:Nat) (l:List AV),(new.take n)[i]?=some l->l.length=sz:=by
   intro i l hl
   rw[wB]at hl
   split at hl
   ·exact hlen i l hl
   ·simp at hl
  have EK:=eG _ az
  have Tt:(new.take n).length=n:=by simp;omega
  rw[Tt]at EK
  have hc:∀k,k<n*sz->∃u,c.w.cell? ⟨ad.block,ad.off+k,none⟩=some u/\∀av,(new.take n).flatten[k]?=some av->aC c av u:=by
   intro k hk
   have hs:0<sz:=by
    rcases qF sz with h|h
    ·subst h;simp at hk
    ·exact h
   have hq:k / sz<n:=by rw[Nat.div_lt_iff_lt_mul hs];exact hk
   have hr:k % sz<sz:=jC _ hs
   have Ty:k / sz<new.length:=by omega
   have hl:=hlen (k / sz) _ (zA Ty)
   have hj:k % sz<(new[k / sz]).length:=by omega
   obtain ⟨u,h1,h2⟩:=fg (k / sz) (k % sz) _ _ (zA Ty) (zA hj)
   have jf:k / sz*sz+k % sz=k:=by rw[Nat.mul_comm];exact Nat.div_add_mod k sz
   rw[qE,jf]at h1
   refine ⟨u,h1,fun av Yk => ?_⟩
   have h3:=mL (new.take n) (k / sz) (k % sz) _ _ az (by rw[wB,if_pos hq];exact zA Ty) (zA hj)
   rw[jf,Yk,zOi]at h3
   subst h3;exact h2
  refine ⟨(List.range (n*sz)).map (fun k=>(c.w.cell? ⟨ad.block,ad.off+k,none⟩).getD undef),?_,by simp[EK],?_⟩
  ·intro w hw
   by_cases h0:n*sz=0
   ·simp[Builtin.firstCells,h0,loadCells,loadCellsFrom]
   ·have bt:new≠[]:=by
     rintro rfl
     simp at hn;subst hn;simp at h0
    obtain ⟨B,O,sp⟩:=ad
    have aaw:=hsp bt
    simp only at aaw;subst aaw
    have:=run_loadCells (P:=P) w ⟨B,O,none⟩ (n*sz) (fun k=>(c.w.cell? ⟨B,O+k,none⟩).getD undef) (fun k hk=>by
     obtain ⟨u,h1,_⟩:=hc k hk
     rw[gH,h1]
     have:w.cell? ⟨B,O+k,none⟩=c.w.cell? ⟨B,O+k,none⟩:=by simp only[World.cell?,hw]
     rw[this,h1];rfl)
    simpa [Builtin.firstCells] using this
  ·intro k av u h1 h2
   simp only[zO,zC]at h2
   obtain ⟨k',jf,rfl⟩:=h2
   have hk:k<n*sz/\k'=k:=by
    obtain ⟨h5,h6⟩:=zB.1 jf
    simp at h5 h6;exact ⟨h5,h6.symm⟩
   obtain ⟨hk,rfl⟩:=hk
   obtain ⟨u,h3,h4⟩:=hc k' hk
   rw[h3];exact h4 av h1
 unfold aR at h
 split at h
 ·
  split at h
  ·rename_i eo
   simp only[zOi]at h;subst h
   cases hv with
   |nil hc =>
    refine ⟨rfl,fun i l h=>by simp at h,fun n hn=>⟨[],fun w hw => ?_,by simp[cu]⟩⟩
    rfl
   |rs g hlen hle dm cT ck fg l8 =>
    rename_i m len ad
    have RJ:=eo.resolve_left (by simp)
    subst RJ
    refine ⟨by rw[hlen];rfl,cT,?_⟩
    have:=gen ad m (fun bt=>(ck bt).2) cT (fun i j l av h1 h2=>⟨g i j,fg i j l av h1 h2,l8 i j l av h1 h2⟩)
    rw[hlen]at this
    rw[hlen];exact this
  ·simp at h
 ·
  rename_i r z i len agq
  split at h
  ·rename_i eo
   split at h
   ·rename_i es cT
    split at h
    ·rename_i hle
     simp only[zOi]at h;subst h
     subst eo
     cases hv with
     |sl hι hs ha hl dm hN hE eK =>
      rename_i m p ad
      obtain ⟨hF,cs,e,fz,h3,h4,h5,h6⟩:=hh.cells cT hι eK
      have hlen:((es.drop i).take len).length=len:=by simp;omega
      have bH:∀(k:Nat) (l:List AV),((es.drop i).take len)[k]?=some l->es[i+k]?=some l/\k<len:=by
       intro k l hk
       rw[wB]at hk
       split at hk
       ·rw[wE]at hk;exact ⟨hk,by assumption⟩
       ·simp at hk
      have NO:((es.drop i).take len)≠[]->ad=⟨p.B,p.O+i*p.sz,none⟩:=by
       intro bt
       have h0:len≠0:=by rintro rfl;simp at bt
       rw[hs];exact ha (by omega)
      refine ⟨by rw[hlen];rfl,fun k l hk=>by rw[<-hs];exact (h6 _ l (bH k l hk).1).1,?_⟩
      have:=gen ad m (fun bt=>by rw[NO bt]) (fun k l hk=>by rw[<-hs];exact (h6 _ l (bH k l hk).1).1) (fun k j l av h1 h2=>by
       obtain ⟨h7,h8⟩:=h6 _ l (bH k l h1).1
       obtain ⟨u,h9,im⟩:=h8 j av h2
       refine ⟨u,?_,im⟩
       have WL:=NO (ch h1)
       subst WL
       simp only[World.cell?,h3]
       rw[<-hs,show p.O+i*p.sz+k*p.sz+j=p.O+(i+k)*p.sz+j by rw[ze];omega]
       simpa using h9)
      rw[hlen]at this
      rw[hlen];exact this
    ·simp at h
   ·simp at h
  ·simp at h
 ·
  split at h
  ·rename_i l eo
   simp only[zOi]at h;subst h
   subst eo
   have e1:=hv.fL
   subst e1
   refine ⟨by simp[Builtin.lenOf,bytesOf,ByteArray.size],fun i x hx => ?_,fun n hn => ?_⟩
   ·simp only[bytesOf,zO,zC]at hx
    obtain ⟨b,_,rfl⟩:=hx;rfl
   ·refine ⟨(l.take n).map (fun b=>Value.int .u8 b.toNat),fun w hw => ?_,?_⟩
    ·have:((⟨l.toArray⟩:ByteArray).extract 0 n).data=(l.take n).toArray:=by
      apply Array.ext'
      rw[Lib.extract_data];simp
     simp[Builtin.firstCells,this]
    ·have EK:((bytesOf l).take n).flatten=(l.take n).map (fun b=>AV.v (.int .u8 b.toNat)):=by
      simp only[bytesOf,<-wR]
      induction l.take n with
      |nil=>rfl
      |cons a r ih=>simp[ih]
     rw[EK]
     refine ⟨by simp,fun k av u h1 h2 => ?_⟩
     simp only[zO,zC]at h1 h2
     obtain ⟨b,hb,rfl⟩:=h1
     obtain ⟨b',CN,rfl⟩:=h2
     rw[hb]at CN;simp only[zOi]at CN;subst CN
     exact .v _
  ·simp at h
 ·simp at h
def LKd:LK->TypeDesc->Prop
 |.i,d=>∃q,d=.int q
 |.s,d=>d=.string
 |.b,d=>d=.bool
theorem rf {P:Program} {k:TypeId} {lk:LK} (h:vV P k=some lk):∃d,P.underlying k=some d/\LKd lk d:=by
 unfold vV at h
 split at h<;>first|(cases h;done)|(rename_i hu;cases h;exact ⟨_,hu,by first|rfl|exact ⟨_,rfl⟩⟩)
theorem xL {c:Cx} {lk:LK} {d:TypeDesc} (hl:LKd lk d) {k k':AV} {kv FH:Value} {b:Bool} (h:iI lk k k'=some b) (h1:aC c k kv) (h2:aC c k' FH):Instr.sameNow d kv FH=some b/\(b=true->FH=kv):=by
 unfold iI at h
 split at h
 ·split at h
  ·rename_i hk
   subst hk
   simp only[zOi]at h;subst h
   have e1:=h1.bZ
   have e2:=h2.bZ
   subst e1;subst e2
   obtain ⟨q,rfl⟩:=hl
   refine ⟨by simp[Instr.sameNow,tV],fun h => ?_⟩
   have:=of_decide_eq_true h
   rw[this]
  ·cases h
 ·rename_i a b'
  simp only[zOi]at h;subst h
  have e1:=h1.fL
  have e2:=h2.fL
  subst e1;subst e2
  have hl:d=.string:=hl
  subst hl
  refine ⟨?_,fun h => ?_⟩
  ·simp only[Instr.sameNow,zOi]
   rw[Bool.eq_iff_iff,MapKept.bytes_beq]
   simp
  ·have:=of_decide_eq_true h
   rw[this]
 ·simp only[zOi]at h;subst h
  have e1:=h1.bZ
  have e2:=h2.bZ
  subst e1;subst e2
  have hl:d=.bool:=hl
  subst hl
  refine ⟨rfl,fun h => ?_⟩
  simp only[beq_iff_eq]at h
  rw[h]
 ·cases h
theorem mM {c:Cx} {lk:LK} {d:TypeDesc} (hl:LKd lk d) {k:AV} {kv:Value} (hk:aC c k kv):∀(es:bN) (l:List MapEntry) (i0:Nat),es.length=l.length ->
  (∀(i:Nat) (row:List AV) (e:MapEntry),es[i]?=some row->l[i]?=some e->∃k' v',row=[k',v']/\aC c k' e.key/\aC c v' e.val)->∀kx,iH lk k es=some kx ->
  match kx with
  |none=>Instr.findNow d kv l i0=some none
  |some (j,v)=>∃e,l[j]?=some e/\aC c v e.val/\e.key=kv/\Instr.findNow d kv l i0=some (some (i0+j,e.val))
 |[],[],i0,_,_,kx,h=>by simp only[iH,zOi]at h;subst h;rfl
 |[],_::_,i0,hlen,_,kx,h=>by simp at hlen
 |_::_,[],i0,hlen,_,kx,h=>by simp at hlen
 |row::es,e::l,i0,hlen,aX,kx,h=>by
  obtain ⟨k',v',rfl,jf,RE⟩:=aX 0 _ e rfl rfl
  simp only[iH]at h
  split at h
  ·rename_i Iy
   simp only[zOi]at h;subst h
   obtain ⟨g1,g2⟩:=xL hl Iy hk jf
   exact ⟨e,rfl,RE,g2 rfl,by simp only[Instr.findNow,g1,wF]⟩
  ·rename_i Iy
   obtain ⟨g1,_⟩:=xL hl Iy hk jf
   have ih:=mM hl hk es l (i0+1) (by simpa using hlen) (fun i adR e' h1 h2=>aX (i+1) adR e' (by simpa using h1) (by simpa using h2))
   cases hf:iH lk k es with
   |none=>rw[hf]at h;cases h
   |some r =>
    have ih:=ih r hf
    rw[hf]at h
    cases r with
    |none =>
     simp only[zOi]at h;subst h
     simp only[Instr.findNow,g1];exact ih
    |some p =>
     obtain ⟨j,v⟩:=p
     simp only[zOi]at h;subst h
     obtain ⟨e',h1,h2,h3,h4⟩:=ih
     refine ⟨e',by simpa using h1,h2,h3,?_⟩
     simp only[Instr.findNow,g1]
     rw[h4];congr 2;simp only[zPi,and_true];omega
  ·cases h
theorem kJ {P:Program} {w:World} {kt:TypeId} {lk:LK} {d:TypeDesc} (hd:P.underlying kt=some d) (hl:LKd lk d) (em:Bool) (v:Value):(Instr.checkKey em 10000 kt v).run P w=.ok () w:=by
 unfold Instr.checkKey
 cases lk with
 |i=>obtain ⟨q,rfl⟩:=hl;simp[run_underlying hd,Result.andThen]
 |s=>have hl:d=.string:=hl;subst hl;simp[run_underlying hd,Result.andThen]
 |b=>have hl:d=.bool:=hl;subst hl;simp[run_underlying hd,Result.andThen]
theorem Sl {P:Program} {op:Op} {co:iZ} (hm:m7 P op co) {dst:Option Tmp} {type:TypeId} {pos:String} {after:Array Edge} {guard:Option (Nat×Bool)} {tm:Nat->AV} {a:Act} {c:Cx} {v:AV} {r:Nat} (he:ls tm c.hp co=some (v,r)) {nx:Nat} (ht:fD c tm a) (hh:bf c nx) :
  oh P ⟨dst,op,type,pos,after,guard⟩ a c v:=by
 cases hm with
 |mk h=>simp[ls]at he
 |set h hl=>simp[ls]at he
 |del ha h0 h hl=>simp[ls]at he
 |range h=>simp[ls]at he
 |next=>simp[ls]at he
 |W4=>simp[ls]at he
 |entry h hl hi hz=>simp[ls]at he
 |Hr=>simp[ls]at he
 | @look t kt et x k ok lk i z h hl hi hz =>
  simp only[ls]at he
  split at he
  ·rename_i r' hx
   split at he
   ·rename_i es cT
    split at he
    ·have h1:=aD ht x
     have h2:=aD ht k
     rw[hx]at h1
     generalize ym:a.eval x=ux at h1
     cases h1 with
     |mp hι eK =>
      rename_i p
      obtain ⟨_,ents,clock,hb,aX,_⟩:=hh.map cT hι eK
      obtain ⟨d,hd,Nv⟩:=rf hl
      have nY:(zeroValue et).run P c.w=.ok z c.w:=by simp[zeroValue,typeInfo,hi,hz]
      have G9:=fun em=>kJ (P:=P) (w:=c.w) hd Nv em (a.eval k)
      have key:=mM Nv h2 es ents.toList 0 (by simpa using aX.1) (fun i row e h3 h4=>aX.2 i row e h3 (by simpa using h4))
      split at he
      ·rename_i j v' hf
       simp only[zOi,zPi]at he
       obtain ⟨rfl,rfl⟩:=he
       obtain ⟨e,h3,h4,_,h5⟩:=key _ hf
       have bR:(Instr.lookup t (.map (some p.B)) (a.eval k) ok).run P c.w=.ok (if ok then .tuple #[e.val,.bool true] else e.val) c.w:=by
        unfold Instr.lookup
        simp[run_underlying h,MapKept.run_getObj_map hb,G9,MapKept.run_findKey hd h5,Result.andThen]
       refine .same (u:=if ok then .tuple #[e.val,.bool true] else e.val) (by simp only[execOp,ym];simp[bR]) ?_
       cases ok
       ·exact h4
       ·exact .bE rfl fun q av u h6 h7=>by
         match q with
         |0=>simp at h6 h7;subst h6;subst h7;exact h4
         |1=>simp at h6 h7;subst h6;subst h7;exact .v _
         |q+2=>simp at h6
      ·rename_i hf
       simp only[zOi,zPi]at he
       obtain ⟨rfl,rfl⟩:=he
       have h5:=key _ hf
       have bR:(Instr.lookup t (.map (some p.B)) (a.eval k) ok).run P c.w=.ok (if ok then .tuple #[z,.bool false] else z) c.w:=by
        unfold Instr.lookup
        simp[run_underlying h,MapKept.run_getObj_map hb,G9,MapKept.run_findKey hd h5,nY,Result.andThen]
       refine .same (u:=if ok then .tuple #[z,.bool false] else z) (by simp only[execOp,ym];simp[bR]) ?_
       cases ok
       ·exact tu c z
       ·exact .bE rfl fun q av u h6 h7=>by
         match q with
         |0=>simp at h6 h7;subst h6;subst h7;exact tu c z
         |1=>simp at h6 h7;subst h6;subst h7;exact .v _
         |q+2=>simp at h6
      ·cases he
    ·cases he
   ·cases he
  ·cases he
 | @len t kt et x args ts ha h0 h =>
  simp only[ls]at he
  split at he
  ·rename_i r' hx
   split at he
   ·rename_i es cT
    simp only[zOi,zPi]at he
    obtain ⟨rfl,rfl⟩:=he
    have h1:=aD ht x
    rw[hx]at h1
    generalize ym:a.eval x=ux at h1
    cases h1 with
    |mp hι eK =>
     rename_i p
     obtain ⟨_,ents,clock,hb,aX,_⟩:=hh.map cT hι eK
     have hm:args.map a.eval = #[.map (some p.B)]:=by
      have:args = #[x]:=qZ.1 (by simpa using ha)
      subst this;simp[ym]
     have bR:(Builtin.len_ ts type #[.map (some p.B)]).run P c.w=.ok (goInt ents.size) c.w:=by
      unfold Builtin.len_
      rw[h0,show (#[Value.map (some p.B)]:Array Value)[0]?=some (.map (some p.B)) from rfl]
      simp[run_underlying h,MapKept.run_getObj_map hb,Result.andThen]
     refine .same (u:=goInt ents.size) (cE ?_) ?_
     ·rw[hm];simp only[builtin,Sem.run_bind,bR,Result.andThen_ok,Sem.run_pure]
     ·rw[aX.1];exact .v _
   ·cases he
  ·cases he
def dr (P:Program) (o:Oper) (a:Act) (c:Cx) (v:AV) (hp':Heap) (nx':Nat):Prop :=
 ∃u w' ι',iN P o a c.w u w'/\Ext c ⟨c.F,ι',hp',w'⟩/\bf ⟨c.F,ι',hp',w'⟩ nx'/\aC ⟨c.F,ι',hp',w'⟩ v u
theorem sd {P:Program} {e:TypeId} (h:0<P.cellsOf e):∃j,P.info? e=some j/\j.size=P.cellsOf e/\j.size≠0:=by
 unfold Program.cellsOf at h ⊢
 cases hi:P.info? e with
 |none=>simp[hi]at h
 |some j=>exact ⟨j,rfl,by simp,by simp[hi]at h;omega⟩
theorem Eg {P:Program} {u:TypeId} (hc:0<P.cellsOf u) (count:Nat) (hn:1<=count):liesAt P P.depth u count 0 u 1=true:=by
 have hd:P.depth=(2*(P.types.size+Made.depth)+1)+1:=rfl
 rw[hd]
 simp only[liesAt,qA]
 left
 rw[hd]
 have h0:P.cellsOf u≠0:=by omega
 simp[rowAt,h0,hn,sameLayout]
theorem Lj {P:Program} {own:Bool} {o:Oper} {co:iZ} {tm:Nat->AV} {a:Act} {c:Cx} {v:AV} {r:Nat} (hc:dC P own o=some co) (he:ls tm c.hp co=some (v,r)) {nx:Nat} (ht:fD c tm a) (hh:bf c nx) :
  oh P o a c v:=by
 obtain ⟨dst,op,type,pos,after,guard⟩:=o
 unfold dC at hc
 split at hc
 ·rename_i QP ao
  simp only[zOi]at hc;subst hc
  cases op<;>simp only[mg]at ao
  case load t x =>
   simp only[zC]at ao
   obtain ⟨n,hn,rfl⟩:=ao
   simp only[ls]at he
   split at he
   ·rename_i r' i o hx
    split at he
    ·rename_i es cT
     split at he
     ·rename_i l hl
      simp only[zC,zPi]at he
      obtain ⟨v',RE,rfl,rfl⟩:=he
      have h1:=aD ht x
      rw[hx]at h1
      generalize hu:a.eval x=u at h1
      cases h1 with
      |ptr hι eK =>
       rename_i p
       obtain ⟨hF,cs,e,fz,h3,h4,h5,h6⟩:=hh.cells cT hι eK
       obtain ⟨h7,h8⟩:=h6 i l hl
       obtain ⟨u,h9,im⟩:=lI (P:=P) hn (B:=p.B) (O:=p.O+i*p.sz) (off:=o) (cells:=l) (fun k av hk=>by
        obtain ⟨u,vC,v7⟩:=h8 k av hk
        refine ⟨u,?_,v7⟩
        simp only[World.cell?,h3]
        simpa using vC) RE
       exact .same (by simp only[execOp,hu,Instr.loadAt,Instr.sureAddr,Sem.run_bind,Sem.run_pure,Result.andThen_ok,h9]) im
     ·simp at he
    ·simp at he
   ·simp at he
  case convert src CW x =>
   unfold gG at ao
   split at ao
   ·simp only[zOi]at ao;subst ao;simp[ls]at he
   ·simp only[zOi]at ao;subst ao;simp[ls]at he
   ·split at ao
    ·simp only[zOi]at ao;subst ao;simp[ls]at he
    ·simp at ao
   ·rename_i e hs hd
    split at ao
    ·rename_i RF
     simp only[zOi]at ao;subst ao
     simp only[ls]at he
     split at he
     ·rename_i r' sz i len cp hx
      split at he
      ·rename_i es cT
       split at he
       ·rename_i hle
        obtain ⟨eo,hle⟩:=hle
        simp only[zC,zPi]at he
        obtain ⟨l,hl,rfl,rfl⟩:=he
        have h1:=aD ht x
        rw[hx]at h1
        have sK:aR c.hp 1 (.sl r' sz i len cp)=some ((es.drop i).take len):=by simp[aR,eo,cT,hle]
        generalize e1:a.eval x=u at h1
        obtain ⟨hlen,aX,uF⟩:=jn (P:=P) hh h1 sK
        obtain ⟨ns,Iu,rfl⟩:=nh hl
        obtain ⟨ys,aar,bP⟩:=uF ((es.drop i).take len).length (zD _)
        have hys:=aar c.w rfl
        clear aar
        rw[zW]at bP
        have EK:((es.drop i).take len).flatten=ns.map (fun n=>AV.v (.int .u8 n)):=by
         rw[Iu]
         clear Iu hl
         induction ns with
         |nil=>rfl
         |cons q r ih=>simp[ih]
        have hyv:ys=ns.map (Value.int .u8):=by
         apply qr
         intro k
         rw[EK]at bP
         by_cases hk:k<ns.length
         ·obtain ⟨u,h3,h4⟩:=bP.get (k:=k) (av:=.v (.int .u8 ns[k])) (by simp[hk])
          rw[h3,h4.bZ];simp[hk]
         ·have:=bP.1
          rw[wZ (by simp at this;omega),wZ (by simp;omega)]
        cases h1 with
        |sl hι jl ha hll dm hN hE eK =>
         rename_i m p ad
         have aa2:((es.drop i).take len).length=len:=by simp;omega
         have Bq:(loadCells ad len).run P c.w=.ok (ns.map (Value.int .u8)).toArray c.w:=by
          have:=hys
          rw[aa2,hyv]at this
          simpa [Builtin.firstCells] using this
         refine .same (u:=.string (ns.foldl (fun r n=>r.push (UInt8.ofNat n.toNat)) ByteArray.empty)) ?_ ?_
         ·have bR:=run_bytesToString c.w ad len m ns Bq
          have hcv:=run_convert_bytes_string c.w src CW e (some ad) len m hs RF hd
          simp only[execOp,e1,Sem.run_bind,hcv,bR,Result.andThen_ok,Sem.run_pure]
         ·have:=tj c (ns.foldl (fun r n=>r.push (UInt8.ofNat n.toNat)) ByteArray.empty)
          rw[fold_push]at this
          simpa using this
       ·simp at he
      ·simp at he
     ·simp at he
    ·simp at ao
   ·simp only[zOi]at ao;subst ao;simp[ls]at he
   ·rename_i e hs hd
    split at ao
    ·rename_i h0
     simp only[zOi]at ao;subst ao
     simp only[ls]at he
     split at he
     ·rename_i r' hx
      split at he
      ·rename_i l0 lr es cT
       simp only[zOi,zPi]at he
       obtain ⟨rfl,rfl⟩:=he
       have h1:=aD ht x
       rw[hx]at h1
       have v8:=h1
       generalize e1:a.eval x=u1 at h1
       cases h1 with
       |ptr hι eK =>
        rename_i p
        obtain ⟨_,cs,el,fz,h3,h4,h5,h6⟩:=hh.cells cT hι eK
        obtain ⟨h7,h8⟩:=h6 0 _ rfl
        obtain ⟨u,h9,_⟩:=h8 0 _ rfl
        obtain ⟨j,hj,LR,Nz⟩:=sd h0
        have az:p.O<cs.size:=by
         have:=(zE.1 h9).1
         omega
        have GQ:c.w.shape? p.B=some (el,cs.size):=by simp[World.shape?,h3]
        refine .same (u:=.pointer (some ⟨p.B,p.O+0*p.sz+0,none⟩)) ?_ (.ptr hι eK)
        have hr:=Lib.run_to_unsafe (P:=P) c.w (src:=src) (dst:=CW) (⟨p.B,p.O+0*p.sz+0,none⟩:Addr) hs hd hj Nz GQ (by simpa using az)
        simp only[execOp,e1,Sem.run_bind,hr,Result.andThen_ok,Sem.run_pure]
      ·simp at he
     ·simp at he
    ·simp at ao
   ·rename_i u0 hs hd
    split at ao
    ·rename_i h0
     simp only[zOi]at ao;subst ao
     simp only[ls]at he
     split at he
     ·rename_i q hx
      split at he
      ·rename_i t' k' cT
       split at he
       ·rename_i hb
        obtain ⟨rfl,rfl⟩:=hb
        simp only[zOi,zPi]at he
        obtain ⟨rfl,rfl⟩:=he
        have h1:=aD ht x
        rw[hx]at h1
        generalize e1:a.eval x=u1 at h1
        cases h1 with
        |ptr hι eK =>
         rename_i p
         obtain ⟨p',cs,fz,g1,g2,g3,g4⟩:=hh.ty.1 q _ _ cT
         rw[hι]at g1;simp only[zOi]at g1;subst g1
         obtain ⟨j,hj,LR,Nz⟩:=sd h0
         have GQ:c.w.shape? p.B=some (t',cs.size):=by simp[World.shape?,g3]
         refine .same (u:=.pointer (some ⟨p.B,p.O+0*p.sz+0,none⟩)) ?_ (.ptr hι eK)
         have hz:p.O+0*p.sz+0=0:=by rw[g2];simp
         have hr:=Lib.run_from_unsafe (P:=P) c.w (src:=src) (dst:=CW) (⟨p.B,p.O+0*p.sz+0,none⟩:Addr) hs hd hj GQ (by
          show liesAt P P.depth t' (cs.size / P.cellsOf t') (p.O+0*p.sz+0) t' 1=true
          rw[hz]
          exact Eg h0 _ ((Nat.le_div_iff_mul_le h0).2 (by omega)))
         simp only[execOp,e1,Sem.run_bind,hr,Result.andThen_ok,Sem.run_pure]
       ·simp at he
      ·simp at he
     ·simp at he
    ·simp at ao
   ·simp at ao
  case alloc e=>split at ao<;>simp only[zC]at ao<;>obtain ⟨z,_,rfl⟩:=ao<;>simp[ls]at he
  case call cl =>
   obtain ⟨callee,args,ts⟩:=cl
   cases callee with
   |value f =>
    cases f<;>simp only[]at ao<;>(try (split at ao))<;>simp only[zOi,reduceCtorEq]at ao<;>subst ao<;>simp[ls]at he
   |invoke r m=>simp at ao
   |builtin b =>
    unfold fY cZ at ao
    (repeat' split at ao)<;>simp only[zOi,reduceCtorEq]at ao<;>(try subst ao)<;>simp[ls]at he
  all_goals (first|(simp at ao;done)|skip)
  all_goals ((try unfold jQ at ao);(repeat' split at ao)<;>(first|(simp only[zOi,reduceCtorEq]at ao;done)|(simp only[zOi]at ao;subst ao;simp[ls]at he;done)|(simp only[zC]at ao;obtain ⟨_,_,rfl⟩:=ao;simp[ls]at he;done)))
 ·cases op
  case binOp =>
   unfold iJ at hc
   (repeat' split at hc)<;>simp only[zOi,reduceCtorEq]at hc<;>subst hc<;>simp[ls]at he
  all_goals exact Sl (dt hc) he ht hh
theorem dr.push {P:Program} {o:Oper} {a:Act} {c:Cx} {nx:Nat} (hh:bf c nx) {v:AV} {u:Value} {w':World} {cs:Array Value} {e:TypeId} {fz:Nat×Nat} {es:bN} {sz:Nat}
  (bR:iN P o a c.w u w') (cv:w'.heap=c.w.heap.push (.cells cs e fz)) (Ay:w'.os=c.w.os) (gD:w'.tape=c.w.tape) (gw:w'.output=c.w.output)
  (CI:∀o,o<cs.size->¬(fz.1<=o/\o<fz.2))
  (cT:∀(i:Nat) (l:List AV),es[i]?=some l->l.length=sz/\∀(j:Nat) (av:AV),l[j]?=some av->∃u,cs[i*sz+j]?=some u/\aC c av u)
  (hv:∀c':Cx,c'.ι nx=some ⟨c.w.heap.size,0,sz,cs.size,[]⟩->aC c' v u):dr P o a c v (ab c.hp nx (some es)) (nx+1):=by
 obtain ⟨h1,h2⟩:=tl hh cv Ay gD gw CI cT
 exact ⟨u,w',_,bR,h2,h1,hv _ (by simp[cj])⟩
theorem nu {c:Cx} {sz:Nat} {es:bN} {cs:List Value} (cT:∀(i:Nat) (l:List AV),es[i]?=some l->l.length=sz) (h:cu c es.flatten cs) :
  ∀(i:Nat) (l:List AV),es[i]?=some l->l.length=sz/\∀(j:Nat) (av:AV),l[j]?=some av->∃u,cs[i*sz+j]?=some u/\aC c av u :=
 fun i l hl=>⟨cT i l hl,fun j av hj=>h.get (mL es i j l av cT hl hj)⟩
theorem Cn {c:Cx} {l:List AV} {cs:List Value} (h:cu c l cs) :
  ∀(i:Nat) (x:List AV),[l][i]?=some x->x.length=l.length/\∀(j:Nat) (av:AV),x[j]?=some av->∃u,cs[i*l.length+j]?=some u/\aC c av u:=by
 intro i x hx
 cases i with
 |zero =>
  simp at hx;subst hx
  exact ⟨rfl,fun j av hj=>by rw[qw,Nat.zero_add];exact h.get hj⟩
 |succ i=>simp at hx
theorem HF {P:Program} {a:Act} {c:Cx} {nx:Nat} (hh:bf c nx) {e:TypeId} {z:List AV} (hz:zeroOf P e=some z) {dst:Option Tmp} {type:TypeId} {pos:String} {after:Array Edge} {guard:Option (Nat×Bool)} :
  dr P ⟨dst,.alloc e,type,pos,after,guard⟩ a c (.ptr nx 0 0) (ab c.hp nx (some [z])) (nx+1):=by
 obtain ⟨i,zv,hi,nY,oq,rfl⟩:=du hz
 refine dr.push hh (u:=.pointer (some ⟨c.w.heap.size,0,none⟩)) (w':={ c.w with heap:=c.w.heap.push (.cells zv.cells e) }) (cs:=zv.cells) (e:=e) (fz:=(0,0)) (sz:=(zv.cells.toList.map jk).length) (.inl ?_) rfl rfl rfl rfl (by intro o h;simp) ?_ ?_
 ·simp[execOp,Instr.alloc,zeroValue,typeInfo,hi,nY,newVar,newRow]
 ·intro k x hx
  obtain ⟨h1,h2⟩:=Cn (tc c oq) k x hx
  exact ⟨h1,fun j av hj=>let ⟨u,h3,h4⟩:=h2 j av hj;⟨u,by rw[<-getElem?_arr];exact h3,h4⟩⟩
 ·intro c' FP
  simpa using aC.ptr (i:=0) (off:=0) FP (wT _)
theorem P4 {P:Program} {a:Act} {c:Cx} {nx:Nat} (hh:bf c nx) {e:TypeId} {x:Operand} {tm:Nat->AV} (ht:fD c tm a) (cS:(ev tm (cO x)).cells.all AV.one=true) {dst:Option Tmp} {type:TypeId} {pos:String} {after:Array Edge} {guard:Option (Nat×Bool)} :
  dr P ⟨dst,.box e x,type,pos,after,guard⟩ a c (.ptr nx 0 0) (ab c.hp nx (some [(ev tm (cO x)).cells])) (nx+1):=by
 have hr:=mS (aD ht x) (fU cS)
 refine dr.push hh (u:=.pointer (some ⟨c.w.heap.size,0,none⟩)) (w':={ c.w with heap:=c.w.heap.push (.cells (a.eval x).cells e) }) (cs:=(a.eval x).cells) (e:=e) (fz:=(0,0)) (sz:=(ev tm (cO x)).cells.length) (.inl ?_) rfl rfl rfl rfl (by intro o h;simp) ?_ ?_
 ·simp[execOp,Instr.box,newVar,newRow]
 ·intro k y hy
  obtain ⟨h1,h2⟩:=Cn hr k y hy
  exact ⟨h1,fun j av hj=>let ⟨u,h3,h4⟩:=h2 j av hj;⟨u,by rw[<-getElem?_arr];exact h3,h4⟩⟩
 ·intro c' FP
  simpa using aC.ptr (i:=0) (off:=0) FP (wT _)
theorem F8 {P:Program} {a:Act} {c:Cx} {nx:Nat} (hh:bf c nx) {t:TypeId} {inf:TypeInfo} {x y:Operand} {tm:Nat->AV} (ht:fD c tm a) (hi:P.info? t=some inf) (h0:0<inf.size) {r i o:Nat} {es:bN} {l:List AV}
  (hx:ev tm (cO x)=.ptr r i o) (cT:c.hp r=some es) (hl:es[i]?=some l) (hlen:(ev tm (cO y)).cells.length=inf.size) (hle:o+inf.size<=l.length) (cS:(ev tm (cO y)).cells.all AV.one=true)
  {dst:Option Tmp} {type:TypeId} {pos:String} {after:Array Edge} {guard:Option (Nat×Bool)} :
  dr P ⟨dst,.store t x y,type,pos,after,guard⟩ a c (.v undef) (ab c.hp r (some (es.set i (aa l o (ev tm (cO y)).cells)))) nx:=by
 have h1:=aD ht x
 rw[hx]at h1
 have hr:=mS (aD ht y) (fU cS)
 generalize ym:a.eval x=ux at h1
 cases h1 with
 |ptr hι eK =>
  rename_i p
  obtain ⟨hF,cs,e,fz,h3,h4,h5,h6⟩:=hh.cells cT hι eK
  obtain ⟨h7,h8⟩:=h6 i l hl
  have eo:(a.eval y).cells.size=inf.size:=by have:=hr.1;simp at this;omega
  have eb:p.O+i*p.sz+l.length<=cs.size:=by
   have ED:l.length-1<l.length:=by omega
   obtain ⟨u,h9,_⟩:=h8 (l.length-1) _ (zA ED)
   have:=(zE.1 h9).1
   omega
  obtain ⟨w',cs',s1,s2,s3,s4,s5,s6⟩:=fT (P:=P) (B:=p.B) (o:=p.O+i*p.sz+o) (a.eval y).cells.toList 0 c.w cs h3 (by simp;omega) (by intro k hk;rw[h4]at hk;exact h5 k hk) (q0 hr cS)
  obtain ⟨g1,g2⟩:=kM hh cT hι h3 s2 (by
    have:=congrArg List.length s3
    rw[dV _ _ _ (by simp;omega)]at this
    simpa using this) s4 s5 s6 (es':=es.set i (aa l o (ev tm (cO y)).cells)) (by
   intro k x hk
   rw[ww]at hk
   have iR:=(zB.1 hl).1
   have bH:∀q,cs'[q]?=if p.O+i*p.sz+o<=q/\q<p.O+i*p.sz+o+inf.size then (a.eval y).cells.toList[q-(p.O+i*p.sz+o)]? else cs[q]?:=by
    intro q
    rw[<-getElem?_arr,s3,wF,getElem?_spliceL _ _ _ (by simp;omega)]
    simp only[qL,eo,getElem?_arr]
   split at hk
   ·rename_i vZ
    simp only[zOi]at hk;subst hk;subst vZ
    have Bm:(aa l o (ev tm (cO y)).cells).length=l.length:=dV _ _ _ (by omega)
    refine ⟨Bm.trans h7,fun j av hj => ?_⟩
    rw[getElem?_spliceL _ _ _ (by omega)]at hj
    rw[bH]
    split at hj
    ·rename_i hjo
     obtain ⟨u,h9,im⟩:=hr.get hj
     refine ⟨u,?_,im⟩
     rw[if_pos (by omega),show p.O+i*p.sz+j-(p.O+i*p.sz+o)=j-o by omega]
     exact h9
    ·rename_i hjo
     rw[if_neg (by omega)]
     exact h8 j av hj
   ·rename_i vZ
    obtain ⟨h9,im⟩:=h6 k x hk
    refine ⟨h9,fun j av hj => ?_⟩
    rw[bH]
    have tJ:=(zB.1 hj).1
    have bt:¬(p.O+i*p.sz+o<=p.O+k*p.sz+j/\p.O+k*p.sz+j<p.O+i*p.sz+o+inf.size):=by
     rintro ⟨q1,q2⟩
     rcases Nat.lt_or_gt_of_ne vZ with az|o9
     ·have:=zX p.sz (qU az)
      rw[qz]at this;omega
     ·have:=zX p.sz (qU o9)
      rw[qz]at this;omega
    rw[if_neg bt]
    exact im j av hj)
  refine ⟨undef,w',c.ι,.inr ⟨?_,rfl⟩,g2,g1,.v _⟩
  have o5:(sizeOf t).run P c.w=.ok inf.size c.w:=by simp[sizeOf,typeInfo,hi]
  simp only[execOp,ym,Instr.storeAt,Instr.sureAddr,storeVar,Sem.run_bind,Sem.run_pure,Result.andThen_ok,o5]
  simp only[ne_eq,eo,not_true_eq_false,if_false,Sem.run_pure,Result.andThen_ok,Sem.run_bind]
  simp[s1]
section
variable {P:Program} {ts:Array TypeId} {t t2 ty e:TypeId} {i:TypeInfo} {d2:TypeDesc}
theorem oe {w w':World} {base:Option Addr} {sLen sCap n:Nat} {x:Value} {arr:Array Value} (h0:ts[0]?=some t) (h1:ts[1]?=some t2) (hu:P.underlying t=some (.slice e)) (uC:P.underlying t2=some d2) (hd:∀k,d2≠.int k) (hi:P.info? e=some i)
  (hl:(Builtin.lenOf x).run P w=.ok n w) (hf:(Builtin.firstCells i.size n x).run P w=.ok arr w) (fC:sLen+n<=sCap)
  (bU:(match base with|some a=>storeCells (a.add (sLen*i.size)) arr.toList|none=>pure ()).run P w=.ok () w') :
  (Builtin.append_ ts ty #[.slice base sLen sCap,x]).run P w=.ok (.slice base (sLen+n) sCap) w':=by
 have LO:(d2 matches .int _)=false:=by cases d2<;>first|rfl|exact absurd rfl (hd _)
 have eo:(sizeOf e).run P w=.ok i.size w:=by simp[sizeOf,typeInfo,hi]
 unfold Builtin.append_
 rw[h0,h1,show (#[Value.slice base sLen sCap,x]:Array Value)[0]?=some (.slice base sLen sCap) from rfl,show (#[Value.slice base sLen sCap,x]:Array Value)[1]?=some x from rfl]
 simp only[Sem.run_bind,run_underlying hu,run_underlying uC,eo,Result.andThen_ok,Sem.run_pure]
 simp only[LO,zK,if_false,hl,Result.andThen_ok,fC,if_true,jM,Sem.run_bind,hf]
 cases base with
 |none=>simp at bU;subst bU;simp
 |some ad=>simp only at bU;simp[bU]
theorem oc {w:World} {base:Option Addr} {sLen sCap n:Nat} {x:Value} {old arr:Array Value} {zv:Value} (h0:ts[0]?=some t) (h1:ts[1]?=some t2) (hu:P.underlying t=some (.slice e)) (uC:P.underlying t2=some d2) (hd:∀k,d2≠.int k) (hi:P.info? e=some i) (nY:i.zero=some zv)
  (hl:(Builtin.lenOf x).run P w=.ok n w) (hf:∀w',w'.heap=w.heap->(Builtin.firstCells i.size n x).run P w'=.ok arr w') (ho:∀w',w'.heap=w.heap->(Builtin.firstCells i.size sLen (.slice base sLen sCap)).run P w'=.ok old w')
  (fC:¬sLen+n<=sCap) (hb:0<i.bytes) (yI:(sLen+n)*i.bytes<=140737488355328) :
  ∃cap w',sLen+n<=cap/\(Builtin.append_ ts ty #[.slice base sLen sCap,x]).run P w=.ok (.slice (some ⟨w.heap.size,0,none⟩) (sLen+n) cap) w' /\
   w'.heap=w.heap.push (.cells (old++arr++Builtin.zeroCells zv.cells (cap-(sLen+n))) e)/\w'.os=w.os/\w'.tape=w.tape/\w'.output=w.output:=by
 have LO:(d2 matches .int _)=false:=by cases d2<;>first|rfl|exact absurd rfl (hd _)
 have eo:∀w',(sizeOf e).run P w'=.ok i.size w':=fun w'=>by simp[sizeOf,typeInfo,hi]
 have FJ:∀w',(typeInfo e).run P w'=.ok i w':=fun w'=>by simp[typeInfo,hi]
 have KU:∀w',(zeroValue e).run P w'=.ok zv w':=fun w'=>by simp[zeroValue,typeInfo,hi,nY]
 have hg:=growslice_fits (need:=sLen+n) (old:=sCap) (bytes:=i.bytes) (by omega) yI
 have K9:¬(Builtin.nextslicecap (sLen+n) sCap*i.bytes>2 ^ 48):=by
  have:(2:Nat) ^ 48=281474976710656:=by decide
  omega
 have TF:¬(((sLen+n:Nat):Int)>IntKind.i64.max/\(false=true\/i.bytes=0)):=by
  rintro ⟨_,h|h⟩
  ·simp at h
  ·omega
 let q:Question:=.appendCap (sLen+n) sCap e
 refine ⟨q.cut (w.tape w.drawn q),{ w with drawn:=w.drawn+1,heap:=w.heap.push (.cells (old++arr++Builtin.zeroCells zv.cells (q.cut (w.tape w.drawn q)-(sLen+n))) e) },?_,?_,rfl,rfl,rfl,rfl⟩
 ·show sLen+n<=sLen+n+_ ;omega
 ·unfold Builtin.append_
  rw[h0,h1,show (#[Value.slice base sLen sCap,x]:Array Value)[0]?=some (.slice base sLen sCap) from rfl,show (#[Value.slice base sLen sCap,x]:Array Value)[1]?=some x from rfl]
  simp only[Sem.run_bind,run_underlying hu,run_underlying uC,eo,Result.andThen_ok,Sem.run_pure]
  simp only[LO,zK,if_false,hl,Result.andThen_ok,fC,jM,if_true,Sem.run_bind,FJ]
  have tK:(Question.appendCap (sLen+n) sCap e).forced=false:=rfl
  rw[if_neg (by rintro ⟨_,h|h⟩;exact h.elim;omega)]
  simp only[Sem.run_bind,FJ,Result.andThen_ok]
  rw[if_neg K9]
  simp only[Sem.run_bind,run_choose,tK,zK,if_false,Result.andThen_ok,FJ,run_askRoom,ho { w with drawn:=w.drawn+1 } rfl,hf { w with drawn:=w.drawn+1 } rfl,KU]
  simp[newRow,q]
  rfl
theorem wrap_small {m:Int} (h0:0<=m) (h:m<=140737488355328):IntKind.i64.wrap m=m:=IntWalk.i64_in m ⟨by omega,by omega⟩
theorem jv {z:Array Value} {n size:Nat} (hz:z.size=size) (h:n*size=0):Builtin.zeroCells z n = #[]:=by
 unfold Builtin.zeroCells
 rw[hz,h];simp[qT]
theorem AL {w w':World} {base:Option Addr} {sLen sCap:Nat} {k:IntKind} {m:Int} {kk:IntKind} {zv:Value} (h0:ts[0]?=some t) (h1:ts[1]?=some t2) (hu:P.underlying t=some (.slice e)) (uC:P.underlying t2=some (.int kk)) (hi:P.info? e=some i) (nY:i.zero=some zv) (oq:zv.cells.size=i.size)
  (yC:0<=m) (hm:m<=140737488355328) (hmb:m*i.bytes<=140737488355328) (fC:sLen+m.toNat<=sCap)
  (bU:(match base with|some a=>storeCells (a.add (sLen*i.size)) (Builtin.zeroCells zv.cells m.toNat).toList|none=>pure ()).run P w=.ok () w') :
  (Builtin.append_ ts ty #[.slice base sLen sCap,.int k m]).run P w=.ok (.slice base (sLen+m.toNat) sCap) w':=by
 have eo:(sizeOf e).run P w=.ok i.size w:=by simp[sizeOf,typeInfo,hi]
 have FJ:(typeInfo e).run P w=.ok i w:=by simp[typeInfo,hi]
 have KU:(zeroValue e).run P w=.ok zv w:=by simp[zeroValue,typeInfo,hi,nY]
 have hw:=wrap_small yC hm
 unfold Builtin.append_
 rw[h0,h1,show (#[Value.slice base sLen sCap,.int k m]:Array Value)[0]?=some (.slice base sLen sCap) from rfl,show (#[Value.slice base sLen sCap,.int k m]:Array Value)[1]?=some (.int k m) from rfl]
 simp only[Sem.run_bind,run_underlying hu,run_underlying uC,eo,Result.andThen_ok,Sem.run_pure]
 simp only[if_true,asInt,asIntOf,Sem.run_bind,Sem.run_pure,Result.andThen_ok,hw,FJ]
 rw[if_neg (by omega)]
 simp only[Sem.run_bind,FJ,Result.andThen_ok]
 have h48:¬(m*(i.bytes:Int)>2 ^ 48):=by
  have:(2:Int) ^ 48=281474976710656:=by decide
  omega
 rw[if_neg h48]
 simp only[Sem.run_pure,Result.andThen_ok,fC,if_true,jN,zK,if_false]
 have hap:(if m.toNat*i.size=0 then pure #[] else do pure (Builtin.zeroCells (<-zeroValue e).cells m.toNat):Sem (Array Value)).run P w=.ok (Builtin.zeroCells zv.cells m.toNat) w:=by
  split
  ·rename_i h;rw[jv oq h];rfl
  ·simp only[Sem.run_bind,KU,Result.andThen_ok,Sem.run_pure]
 have cG:=jv (z:=zv.cells) (n:=m.toNat) (size:=i.size) oq
 cases base with
 |none =>
  simp at bU;subst bU
  simp only[Sem.run_bind,Sem.run_ite,Sem.run_pure,Result.andThen_ok,fC,if_true]
  split<;>simp[KU]
 |some ad =>
  simp only at bU
  simp only[Sem.run_bind,Sem.run_ite,Sem.run_pure,Result.andThen_ok,fC,if_true]
  split
  ·rename_i h
   rw[cG h]at bU
   simp at bU
   simp[bU]
  ·simp[KU,bU]
theorem AK {w:World} {base:Option Addr} {sLen sCap:Nat} {k:IntKind} {m:Int} {kk:IntKind} {old:Array Value} {zv:Value} (h0:ts[0]?=some t) (h1:ts[1]?=some t2) (hu:P.underlying t=some (.slice e)) (uC:P.underlying t2=some (.int kk)) (hi:P.info? e=some i) (nY:i.zero=some zv) (oq:zv.cells.size=i.size)
  (yC:0<=m) (hm:m<=140737488355328) (hmb:m*i.bytes<=140737488355328) (ho:∀w',w'.heap=w.heap->(Builtin.firstCells i.size sLen (.slice base sLen sCap)).run P w'=.ok old w')
  (fC:¬sLen+m.toNat<=sCap) (hb:0<i.bytes) (yI:(sLen+m.toNat)*i.bytes<=140737488355328) :
  ∃cap w',sLen+m.toNat<=cap/\(Builtin.append_ ts ty #[.slice base sLen sCap,.int k m]).run P w=.ok (.slice (some ⟨w.heap.size,0,none⟩) (sLen+m.toNat) cap) w' /\
   w'.heap=w.heap.push (.cells (old++Builtin.zeroCells zv.cells m.toNat++Builtin.zeroCells zv.cells (cap-(sLen+m.toNat))) e)/\w'.os=w.os/\w'.tape=w.tape/\w'.output=w.output:=by
 have eo:∀w',(sizeOf e).run P w'=.ok i.size w':=fun w'=>by simp[sizeOf,typeInfo,hi]
 have FJ:∀w',(typeInfo e).run P w'=.ok i w':=fun w'=>by simp[typeInfo,hi]
 have KU:∀w',(zeroValue e).run P w'=.ok zv w':=fun w'=>by simp[zeroValue,typeInfo,hi,nY]
 have hw:=wrap_small yC hm
 have hg:=growslice_fits (need:=sLen+m.toNat) (old:=sCap) (bytes:=i.bytes) (by omega) yI
 have K9:¬(Builtin.nextslicecap (sLen+m.toNat) sCap*i.bytes>2 ^ 48):=by
  have:(2:Nat) ^ 48=281474976710656:=by decide
  omega
 have TF:¬(((sLen+m.toNat:Nat):Int)>IntKind.i64.max/\(True\/i.bytes=0)):=by
  rintro ⟨h,_⟩
  have h2:IntKind.i64.max=9223372036854775807:=by decide
  have h3:sLen+m.toNat<=(sLen+m.toNat)*i.bytes:=Nat.le_mul_of_pos_right _ hb
  omega
 have h48:¬(m*(i.bytes:Int)>2 ^ 48):=by
  have:(2:Int) ^ 48=281474976710656:=by decide
  omega
 let q:Question:=.appendCap (sLen+m.toNat) sCap e
 refine ⟨q.cut (w.tape w.drawn q),{ w with drawn:=w.drawn+1,heap:=w.heap.push (.cells (old++Builtin.zeroCells zv.cells m.toNat++Builtin.zeroCells zv.cells (q.cut (w.tape w.drawn q)-(sLen+m.toNat))) e) },?_,?_,rfl,rfl,rfl,rfl⟩
 ·show sLen+m.toNat<=sLen+m.toNat+_ ;omega
 ·unfold Builtin.append_
  rw[h0,h1,show (#[Value.slice base sLen sCap,.int k m]:Array Value)[0]?=some (.slice base sLen sCap) from rfl,show (#[Value.slice base sLen sCap,.int k m]:Array Value)[1]?=some (.int k m) from rfl]
  simp only[Sem.run_bind,run_underlying hu,run_underlying uC,eo,Result.andThen_ok,Sem.run_pure]
  simp only[if_true,asInt,asIntOf,Sem.run_bind,Sem.run_pure,Result.andThen_ok,hw,FJ]
  rw[if_neg (by omega)]
  simp only[Sem.run_bind,FJ,Result.andThen_ok]
  rw[if_neg h48]
  simp only[Sem.run_pure,Result.andThen_ok,fC,if_false,jN,zK,Sem.run_bind,FJ]
  have tK:(Question.appendCap (sLen+m.toNat) sCap e).forced=false:=rfl
  rw[if_neg TF]
  simp only[Sem.run_bind,FJ,Result.andThen_ok]
  rw[if_neg K9]
  have hap:(if m.toNat*i.size=0 then pure #[] else do pure (Builtin.zeroCells (<-zeroValue e).cells m.toNat):Sem (Array Value)).run P { w with drawn:=w.drawn+1 }=.ok (Builtin.zeroCells zv.cells m.toNat) { w with drawn:=w.drawn+1 }:=by
   split
   ·rename_i h;rw[jv oq h];rfl
   ·simp only[Sem.run_bind,KU,Result.andThen_ok,Sem.run_pure]
  simp only[Sem.run_bind,run_choose,tK,zK,if_false,Result.andThen_ok,FJ,run_askRoom,ho { w with drawn:=w.drawn+1 } rfl,hap,KU]
  simp[newRow,q]
  rfl
end
theorem cu.append {c:Cx} {x y:List AV} {u w:List Value} (h:cu c x u) (k:cu c y w):cu c (x++y) (u++w):=by
 refine ⟨by simp[h.1,k.1],fun q av z h1 h2 => ?_⟩
 by_cases hq:q<x.length
 ·rw[zR hq]at h1
  rw[zR (by rw[<-h.1];exact hq)]at h2
  exact h.2 q av z h1 h2
 ·rw[za (by omega)]at h1
  rw[za (by rw[<-h.1];omega),<-h.1]at h2
  exact k.2 _ av z h1 h2
theorem DX {α:Type} {sz:Nat} {x y:List (List α)} (hx:∀(i:Nat) (l:List α),x[i]?=some l->l.length=sz) (hy:∀(i:Nat) (l:List α),y[i]?=some l->l.length=sz) :
  ∀(i:Nat) (l:List α),(x++y)[i]?=some l->l.length=sz:=by
 intro i l h
 by_cases hi:i<x.length
 ·rw[zR hi]at h;exact hx i l h
 ·rw[za (by omega)]at h;exact hy _ l h
theorem size_zeroCells {z:Array Value} {n sz:Nat} (hz:z.size=sz):(Builtin.zeroCells z n).size=n*sz:=by simp[Builtin.zeroCells,hz]
theorem Hi {P:Program} {o:Oper} {a:Act} {c:Cx} {nx:Nat} (hh:bf c nx) {sz need cap:Nat} {es:bN} {old arr zs:Array Value} {e:TypeId} {w':World}
  (hn:es.length=need) (dm:need<=cap) (aX:∀(i:Nat) (l:List AV),es[i]?=some l->l.length=sz) (bP:cu c es.flatten (old++arr).toList) (oq:zs.size=(cap-need)*sz)
  (bR:iN P o a c.w (.slice (some ⟨c.w.heap.size,0,none⟩) need cap) w') (cv:w'.heap=c.w.heap.push (.cells (old++arr++zs) e)) (Ay:w'.os=c.w.os) (gD:w'.tape=c.w.tape) (gw:w'.output=c.w.output) :
  dr P o a c (.sl nx sz 0 need none) (ab c.hp nx (some es)) (nx+1):=by
 have o5:(old++arr).size=need*sz:=by
  have:=bP.1
  rw[eG es aX,hn]at this
  simpa using this.symm
 have aei:(old++arr++zs).size=cap*sz:=by
  have h1:(old++arr++zs).size=(old++arr).size+zs.size:=Array.size_append
  rw[h1,o5,oq,<-ze]
  congr 1;omega
 refine dr.push hh bR cv Ay gD gw (by intro q _;simp) (sz:=sz) ?_ ?_
 ·intro k y hy
  obtain ⟨h5,h6⟩:=nu aX bP k y hy
  refine ⟨h5,fun j av hj => ?_⟩
  obtain ⟨u,h7,h8⟩:=h6 j av hj
  refine ⟨u,?_,h8⟩
  rw[getElem?_arr]at h7
  have az:=(zE.1 h7).1
  rw[qV az];exact h7
 ·intro c' FP
  have hq:0+(0+cap)*sz=(old++arr++zs).size:=by rw[aei];simp
  exact .sl FP rfl (fun _=>by simp) dm (fun m hm=>by simp at hm) (fun _=>Nat.le_of_eq hq) (fun _=>hq) (wT _)
theorem afq (c:Cx):(⟨c.F,c.ι,c.hp,c.w⟩:Cx)=c:=rfl
theorem uS {P:Program} {o:Oper} {a:Act} {c:Cx} {nx:Nat} (hh:bf c nx) {ts:Array TypeId} {ty e:TypeId} {sz bytes n:Nat} {s:AV} {su x:Value} {new:bN} {arr zc:Array Value} {v:AV} {hp':Heap} {nx':Nat}
  (mG:∀u w',(Builtin.append_ ts ty #[su,x]).run P c.w=.ok u w'->iN P o a c.w u w') (hs:aC c s su) (hn:new.length=n) (aek:0<sz) (hz:zc.size=sz)
  (aX:∀(i:Nat) (l:List AV),new[i]?=some l->l.length=sz) (bP:cu c new.flatten arr.toList) (cS:new.all (fun l=>l.all AV.one)=true)
  (EX:∀(base:Option Addr) (sLen sCap:Nat) (w':World),sLen+n<=sCap->(match base with|some ad=>storeCells (ad.add (sLen*sz)) arr.toList|none=>pure ()).run P c.w=.ok () w'->(Builtin.append_ ts ty #[.slice base sLen sCap,x]).run P c.w=.ok (.slice base (sLen+n) sCap) w')
  (ER:∀(base:Option Addr) (sLen sCap:Nat) (old:Array Value),(∀w',w'.heap=c.w.heap->(Builtin.firstCells sz sLen (.slice base sLen sCap)).run P w'=.ok old w')->¬sLen+n<=sCap->(sLen+n)*bytes<=140737488355328 ->
   ∃cap w',sLen+n<=cap/\(Builtin.append_ ts ty #[.slice base sLen sCap,x]).run P c.w=.ok (.slice (some ⟨c.w.heap.size,0,none⟩) (sLen+n) cap) w' /\
   w'.heap=c.w.heap.push (.cells (old++arr++Builtin.zeroCells zc (cap-(sLen+n))) e)/\w'.os=c.w.os/\w'.tape=c.w.tape/\w'.output=c.w.output)
  (hA:cF sz bytes s new c.hp nx=some (v,hp',nx')):dr P o a c v hp' nx':=by
 subst hn
 have EO:arr.size=new.length*sz:=by
  have:=bP.1
  rw[eG new aX]at this
  simpa using this.symm
 have fresh:∀(v9:bN) (base:Option Addr) (sLen sCap:Nat),su=.slice base sLen sCap->v9.length=sLen->(∀(i:Nat) (l:List AV),v9[i]?=some l->l.length=sz) ->
   (∃old:Array Value,cu c v9.flatten old.toList/\∀w',w'.heap=c.w.heap->(Builtin.firstCells sz sLen (.slice base sLen sCap)).run P w'=.ok old w')->¬sLen+new.length<=sCap->(sLen+new.length)*bytes<=140737488355328 ->
   dr P o a c (.sl nx sz 0 (sLen+new.length) none) (ab c.hp nx (some (v9++new))) (nx+1):=by
  rintro v9 base sLen sCap rfl K7 Nm ⟨old,TE,ho2⟩ fC yI
  obtain ⟨cap,w',g1,g2,g3,g4,g5,g6⟩:=ER base sLen sCap old ho2 fC yI
  refine Hi hh (by simp[K7]) g1 (DX Nm aX) ?_ (size_zeroCells hz) (mG _ _ g2) g3 g4 g5 g6
  rw[qB,jE]
  exact TE.append bP
 unfold cF at hA
 split at hA
 ·
  rename_i nl z es cap
  split at hA
  ·rename_i eo
   split at hA
   ·rename_i h0
    simp only[zOi,zPi]at hA
    obtain ⟨rfl,rfl,rfl⟩:=hA
    have yB:new.length=0:=by omega
    have vy:arr.toList=[]:=by
     have:arr.size=0:=by rw[EO,yB];simp
     simpa using this
    have k7:∀base sLen sCap,su=.slice base sLen sCap->sLen<=sCap->dr P o a c (.rs nl z es cap) c.hp nx:=by
     rintro base sLen sCap rfl hle
     have:=EX base sLen sCap c.w (by omega) (by rw[vy];cases base<;>rfl)
     simp only[yB,wF]at this
     exact ⟨_,c.w,c.ι,mG _ _ this,Ext.refl c,hh,hs⟩
    cases hs with
    |nil hc=>exact k7 none 0 0 rfl (zD _)
    |rs g hlen hle dm cT ck fg l8=>exact k7 _ _ _ rfl hle
   ·rename_i h0
    split at hA
    ·rename_i cp
     split at hA
     ·rename_i hc
      simp only[zOi,zPi]at hA
      obtain ⟨rfl,rfl,rfl⟩:=hA
      obtain ⟨az,IA⟩:=hc
      have sK:aR c.hp sz (.rs nl z es (some cp))=some es:=by simp[aR,eo]
      obtain ⟨e1,e2,e3⟩:=jn (P:=P) hh hs sK
      have uF:∀base sLen sCap,su=.slice base sLen sCap->es.length=sLen->∃old:Array Value,cu c es.flatten old.toList/\∀w',w'.heap=c.w.heap->(Builtin.firstCells sz sLen (.slice base sLen sCap)).run P w'=.ok old w':=by
       rintro base sLen sCap rfl hl
       obtain ⟨ys,h1,h2⟩:=e3 es.length (zD _)
       rw[zW]at h2
       exact ⟨ys.toArray,by simpa using h2,fun w' Ya=>by rw[<-h1 w' Ya,hl]⟩
      cases hs with
      |nil hc =>
       have:=fresh [] none 0 0 rfl rfl (by simp) (uF none 0 0 rfl rfl) (by omega) (by simpa using IA)
       simpa using this
      |rs g hlen hle dm cT ck fg l8 =>
       rename_i m len ad
       have h9:=dm cp rfl
       have:=fresh es (some ad) len m rfl hlen e2 (uF _ _ _ rfl hlen) (by omega) (by rw[<-hlen];exact IA)
       rw[hlen];exact this
     ·simp at hA
    ·simp at hA
  ·simp at hA
 ·
  rename_i r z i len cap
  split at hA
  ·rename_i Eo
   subst Eo
   split at hA
   ·simp at hA
   ·rename_i es cT
    split at hA
    ·simp at hA
    ·rename_i na
     have na:i+len<=es.length:=by omega
     have sK:aR c.hp z (.sl r z i len cap)=some ((es.drop i).take len):=by simp[aR,cT,na]
     obtain ⟨e1,e2,e3⟩:=jn (P:=P) hh hs sK
     have QH:((es.drop i).take len).length=len:=by simp;omega
     have jl:=hs
     cases hs with
     |sl hι Ev ha hl dm hN hE eK =>
      rename_i m p ad
      obtain ⟨hF,cs,ee,fz,h3,h4,h5,h6⟩:=hh.cells cT hι eK
      have uF:∃old:Array Value,cu c ((es.drop i).take len).flatten old.toList/\∀w',w'.heap=c.w.heap->(Builtin.firstCells z len (.slice (some ad) len m)).run P w'=.ok old w':=by
       obtain ⟨ys,h1,h2⟩:=e3 ((es.drop i).take len).length (zD _)
       rw[zW]at h2
       exact ⟨ys.toArray,by simpa using h2,fun w' Ya=>by rw[<-h1 w' Ya,QH]⟩
      have uE:=fresh ((es.drop i).take len) (some ad) len m rfl QH e2 uF
      have aaA:cap=none->es.length<=i+m:=by
       intro hc0
       have hE0:=hE hc0
       rcases qF es.length with h0|h0
       ·omega
       ·have ED:es.length-1<es.length:=by omega
        obtain ⟨h7,h8⟩:=h6 (es.length-1) _ (zA ED)
        have hj:z-1<(es[es.length-1]).length:=by rw[h7,Ev];omega
        obtain ⟨u,h9,_⟩:=h8 (z-1) _ (zA hj)
        have im:=(zE.1 h9).1
        rw[h4,<-hE0,Ev]at im
        have vC:(es.length-1)*z+z=es.length*z:=by rw[<-qz];congr 1;omega
        have v7:es.length*z<=(i+m)*z:=by omega
        exact Nat.le_of_mul_le_mul_right v7 aek
      have Io:len+new.length<=m->∃w' cs',(Builtin.append_ ts ty #[.slice (some ad) len m,x]).run P c.w=.ok (.slice (some ad) (len+new.length) m) w'/\w'.heap=c.w.heap.setIfInBounds p.B (.cells cs' ee fz)/\cs'.toList=aa cs.toList (p.O+(i+len)*z) arr.toList/\(new.length≠0->p.O+(i+len)*z+new.length*z<=cs.size)/\w'.os=c.w.os/\w'.tape=c.w.tape/\w'.output=c.w.output:=by
       intro fC
       by_cases yB:new.length=0
       ·have vy:arr.toList=[]:=by
         have:arr.size=0:=by rw[EO,yB];simp
         simpa using this
        refine ⟨c.w,cs,EX _ _ _ _ fC (by rw[vy];rfl),(gO _ _ _ h3).symm,by rw[vy,gW],fun h=>absurd yB h,rfl,rfl,rfl⟩
       ·have yC:m≠0:=by omega
        have NO:=ha yC
        have Yo:=hN yC
        have hle:p.O+(i+len)*z+new.length*z<=cs.size:=by
         rw[h4]
         have:(i+len)*z+new.length*z<=(i+m)*z:=by
          rw[<-ze]
          exact zX _ (by omega)
         omega
        obtain ⟨w',cs',s1,s2,s3,s4,s5,s6⟩:=fT (P:=P) (B:=p.B) (o:=p.O+(i+len)*z) arr.toList 0 c.w cs h3 (by simp[EO];omega) (by intro k hk;rw[h4]at hk;exact h5 k hk) (q0 bP (by
         rw[zQ]at cS ⊢
         intro y hy
         obtain ⟨l,uD,Ag⟩:=qe.1 hy
         exact zQ.1 (cS l uD) y Ag))
        refine ⟨w',cs',EX _ _ _ _ fC ?_,s2,by rw[s3];simp,fun _=>hle,s4,s5,s6⟩
        subst NO
        simp only[gH]
        rw[show p.O+i*z+len*z=p.O+(i+len)*z by rw[ze];omega]
        exact s1
      have CL:∀(w':World) (cs':Array Value),cs'.toList=aa cs.toList (p.O+(i+len)*z) arr.toList->(new.length≠0->p.O+(i+len)*z+new.length*z<=cs.size) ->
        (∀q,cs'[q]?=if p.O+(i+len)*z<=q/\q<p.O+(i+len)*z+new.length*z then arr[q-(p.O+(i+len)*z)]? else cs[q]?):=by
       intro w' cs' AF hle q
       by_cases yB:new.length=0
       ·have vy:arr.toList=[]:=by
         have:arr.size=0:=by rw[EO,yB];simp
         simpa using this
        rw[vy,gW]at AF
        rw[<-getElem?_arr,AF,getElem?_arr,if_neg (by rw[yB];omega)]
       ·rw[<-getElem?_arr,AF,getElem?_spliceL _ _ _ (by simp[EO];exact hle yB)]
        simp only[qL,EO,getElem?_arr]
      have Ir:=nu aX bP
      have o5:∀(cs':Array Value),cs'.toList=aa cs.toList (p.O+(i+len)*z) arr.toList->(new.length≠0->p.O+(i+len)*z+new.length*z<=cs.size)->cs'.size=cs.size:=by
       intro cs' AF hle
       by_cases yB:new.length=0
       ·have vy:arr.toList=[]:=by
         have:arr.size=0:=by rw[EO,yB];simp
         simpa using this
        rw[vy,gW]at AF
        have:=congrArg List.length AF;simpa using this
       ·have:=congrArg List.length AF
        rw[dV _ _ _ (by simp[EO];exact hle yB)]at this
        simpa using this
      have inside:len+new.length<=m->i+len+new.length<=es.length->dr P o a c (.sl r z i (len+new.length) cap) (ab c.hp r (some (aa es (i+len) new))) nx:=by
       intro fC hle
       obtain ⟨w',cs',g1,g2,g3,g4,g5,g6,g7⟩:=Io fC
       have bH:=CL w' cs' g3 g4
       obtain ⟨k1,k2⟩:=kM hh cT hι h3 g2 (o5 cs' g3 g4) g5 g6 g7 (es':=aa es (i+len) new) (by
        intro k y hk
        rw[getElem?_spliceL _ _ _ (by omega)]at hk
        split at hk
        ·rename_i hkr
         obtain ⟨h7,h8⟩:=Ir _ y hk
         refine ⟨h7.trans Ev.symm,fun j av hj => ?_⟩
         obtain ⟨u,h9,im⟩:=h8 j av hj
         refine ⟨u,?_,im⟩
         have tJ:=(zB.1 hj).1
         rw[Ev,bH]
         have hq:p.O+k*z+j=p.O+(i+len)*z+((k-(i+len))*z+j):=by
          have:k*z=(i+len)*z+(k-(i+len))*z:=by rw[<-ze];congr 1;omega
          omega
         have fI:(k-(i+len))*z+j<new.length*z:=by
          have:=zX z (show (k-(i+len))+1<=new.length by omega)
          rw[ze]at this;omega
         rw[if_pos (by omega),hq,wa]
         rw[<-getElem?_arr];exact h9
        ·rename_i hkr
         obtain ⟨h7,h8⟩:=h6 k y hk
         refine ⟨h7,fun j av hj => ?_⟩
         have tJ:=(zB.1 hj).1
         rw[bH,if_neg]
         ·exact h8 j av hj
         ·rintro ⟨q1,q2⟩
          rw[Ev]at q1 q2 h7
          rcases zj k (i+len) with az|NC
          ·have:=zX z (qU az)
           rw[qz]at this;omega
          ·have m9:i+len+new.length<=k:=by omega
           have:=zX z m9
           rw[ze]at this;omega)
       exact ⟨_,w',c.ι,mG _ _ g1,k2,k1,.sl hι Ev ha (by omega) dm hN hE eK⟩
      split at hA
      ·
       rename_i cp
       have vw:=dm cp rfl
       split at hA
       ·split at hA
        ·simp only[zOi,zPi]at hA
         obtain ⟨rfl,rfl,rfl⟩:=hA
         exact inside (by omega) (by omega)
        ·simp at hA
       ·split at hA
        ·simp only[zOi,zPi]at hA
         obtain ⟨rfl,rfl,rfl⟩:=hA
         exact uE (by omega) (by assumption)
        ·simp at hA
      ·split at hA
       ·rename_i hle
        simp only[zOi,zPi]at hA
        obtain ⟨rfl,rfl,rfl⟩:=hA
        have ael:=aaA rfl
        exact inside (by omega) (by omega)
       ·rename_i hle
        split at hA
        ·rename_i IA
         simp only[zOi,zPi]at hA
         obtain ⟨rfl,rfl,rfl⟩:=hA
         by_cases fC:len+new.length<=m
         ·obtain ⟨w',cs',g1,g2,g3,g4,g5,g6,g7⟩:=Io fC
          have bH:=CL w' cs' g3 g4
          have yC:m≠0:=by omega
          obtain ⟨k1,k2⟩:=MK hh cT hι h3 g2 (o5 cs' g3 g4) (p':=⟨p.B,p.O+i*z,z,p.N,[]⟩) rfl rfl (by have vC:=hN yC;rw[ze]at vC;show p.O+i*z<=p.N;omega) g5 g6 g7 (es':=(es.drop i).take len++new) (by
           intro k y hk
           by_cases lK:k<len
           ·rw[zR (by omega),wB,if_pos lK,wE]at hk
            obtain ⟨h7,h8⟩:=h6 _ y hk
            refine ⟨h7.trans Ev,fun j av hj => ?_⟩
            have tJ:=(zB.1 hj).1
            obtain ⟨u,h9,im⟩:=h8 j av hj
            refine ⟨u,?_,im⟩
            rw[Ev]at h9 h7
            have lB:p.O+i*z+k*z+j=p.O+(i+k)*z+j:=by rw[ze];omega
            have az:(i+k+1)*z<=(i+len)*z:=zX _ (by omega)
            rw[ze (i+k) 1]at az
            rw[lB,bH,if_neg (by omega)];exact h9
           ·rw[za (by omega),QH]at hk
            obtain ⟨h7,h8⟩:=Ir _ y hk
            refine ⟨h7,fun j av hj => ?_⟩
            have tJ:=(zB.1 hj).1
            have hkn:=(zB.1 hk).1
            obtain ⟨u,h9,im⟩:=h8 j av hj
            refine ⟨u,?_,im⟩
            have hq:p.O+i*z+k*z+j=p.O+(i+len)*z+((k-len)*z+j):=by
             have vC:k*z=len*z+(k-len)*z:=by rw[<-ze];congr 1;omega
             rw[ze];omega
            have fI:(k-len)*z+j<new.length*z:=by
             have:=zX z (show (k-len)+1<=new.length by omega)
             rw[ze]at this;omega
            rw[hq,bH,if_pos (by omega),wa,<-getElem?_arr];exact h9)
          refine ⟨_,w',_,mG _ _ g1,k2,k1,.sl (p:=⟨p.B,p.O+i*z,z,p.N,[]⟩) (by simp[cj]) rfl (fun h=>by rw[ha yC];simp) fC (fun m hm=>by simp at hm) (fun _ => ?_) (fun _ => ?_) (by have vC:=hN yC;rw[ze]at vC;show p.O+i*z<=p.N;omega)⟩
          ·have:=hN yC
           show p.O+i*z+(0+m)*z<=p.N
           rw[ze]at this;simp;omega
          ·have:=hE rfl
           show p.O+i*z+(0+m)*z=p.N
           rw[ze]at this;simp;omega
         ·obtain ⟨u,w',ι',q1,q2,q3,q4⟩:=uE fC IA
          have Is:r≠nx:=fun h=>by have:=hh.lt r p hι;omega
          obtain ⟨k1,k2⟩:=B1 q3 (hp':=ab (ab c.hp r none) nx (some ((es.drop i).take len++new))) (by
           intro q
           by_cases hq:q=nx
           ·left;simp[ab,hq]
           ·by_cases FK:q=r
            ·right;subst FK;simp[ab,hq]
            ·left;simp[ab,hq,FK])
          exact ⟨u,w',ι',q1,q2.trans k2,k1,q4.mono k2⟩
        ·simp at hA
  ·simp at hA
 ·simp at hA
theorem HB (l:List UInt8):∀(i:Nat) (x:List AV),(bytesOf l)[i]?=some x->x.length=1:=by
 intro i x h
 simp only[bytesOf,zO,zC]at h
 obtain ⟨b,_,rfl⟩:=h;rfl
theorem HC (l:List UInt8):(bytesOf l).flatten=l.map (fun b=>AV.v (.int .u8 b.toNat)):=by
 simp only[bytesOf]
 induction l with
 |nil=>rfl
 |cons a r ih=>simp[ih]
theorem Mm {P:Program} {a:Act} {c:Cx} {nx:Nat} (hh:bf c nx) {src CW e:TypeId} {x:Operand} {l:List UInt8} (hs:P.underlying src=some .string) (hd:P.underlying CW=some (.slice e)) (RF:P.underlying e=some (.int .u8))
  (hx:a.eval x=.string ⟨l.toArray⟩) {dst:Option Tmp} {type:TypeId} {pos:String} {after:Array Edge} {guard:Option (Nat×Bool)} :
  dr P ⟨dst,.convert src CW x,type,pos,after,guard⟩ a c (.sl nx 1 0 l.length none) (ab c.hp nx (some (bytesOf l))) (nx+1):=by
 let q:Question:=.appendCap l.length 0 e
 let cap:=q.cut (c.w.tape c.w.drawn q)
 have dm:l.length<=cap:=by show l.length<=l.length+_;omega
 let cs:Array Value:=(l.map (fun b=>Value.int .u8 b.toNat)).toArray++Array.replicate (cap-l.length) (.int .u8 0)
 have AF:cs.size=cap:=by simp[cs];omega
 let w1:World:={ c.w with drawn:=c.w.drawn+1,heap:=c.w.heap.push (.cells cs e) }
 have eo:(⟨l.toArray⟩:ByteArray).size=l.length:=by simp[ByteArray.size]
 have R4:(w1.freeze ⟨c.w.heap.size,cap,none⟩ 1).heap=c.w.heap.push (.cells cs e (cap,cap+1)):=by
  apply qk
  intro j
  simp only[World.freeze,Nat.one_ne_zero,if_false,wY,w1]
  rw[wW,wW]
  by_cases hj:j=c.w.heap.size
  ·subst hj;simp
  ·simp only[hj,if_false]
   rw[if_neg (fun h=>hj h.symm)]
 refine dr.push hh (u:=.slice (some ⟨c.w.heap.size,0,none⟩) l.length cap) (w':=w1.freeze ⟨c.w.heap.size,cap,none⟩ 1) (cs:=cs) (e:=e) (fz:=(cap,cap+1)) (sz:=1) (.inl ?_) R4 rfl rfl rfl (by intro o h;rw[AF]at h;simp only[];omega) ?_ ?_
 ·have tK:(Question.appendCap l.length 0 e).forced=false:=rfl
  have Nt:(⟨l.toArray⟩:ByteArray).data.map (fun b=>Value.int .u8 b.toNat)=(l.map (fun b=>Value.int .u8 b.toNat)).toArray:=by simp
  simp only[execOp,hx,convert,Sem.run_bind,run_underlying hs,run_underlying hd,run_underlying RF,Result.andThen_ok,Conv.stringToBytes,eo,run_choose,tK,zK,if_false,Nt,newRow,run_newObj,Sem.run_pure,markStringish,run_shape]
  have VW:w1.shape? c.w.heap.size=some (e,cap):=by simp[World.shape?,w1,AF]
  have pc:World.shape? { heap:=c.w.heap.push (.cells ((l.map (fun b=>Value.int .u8 b.toNat)).toArray++Array.replicate (q.cut (c.w.tape c.w.drawn q)-l.length) (.int .u8 0)) e),tape:=c.w.tape,drawn:=c.w.drawn+1,os:=c.w.os,output:=c.w.output } c.w.heap.size=some (e,cap):=VW
  simp only[q]at pc
  rw[pc]
  simp[q,w1,cs,cap]
 ·intro k y hy
  have bP:cu c (bytesOf l).flatten (l.map (fun b=>Value.int .u8 b.toNat)):=by
   rw[HC]
   refine ⟨by simp,fun k av u h1 h2 => ?_⟩
   simp only[zO,zC]at h1 h2
   obtain ⟨b,hb,rfl⟩:=h1
   obtain ⟨b',CN,rfl⟩:=h2
   rw[hb]at CN;simp only[zOi]at CN;subst CN
   exact .v _
  obtain ⟨h5,h6⟩:=nu (HB l) bP k y hy
  refine ⟨h5,fun j av hj => ?_⟩
  obtain ⟨u,h7,h8⟩:=h6 j av hj
  refine ⟨u,?_,h8⟩
  have az:=(zB.1 h7).1
  simp only[cs]
  rw[qV (by simpa using az)]
  simpa using h7
 ·intro c' FP
  have hq:0+(0+cap)*1=cs.size:=by rw[AF];simp
  exact .sl FP rfl (fun _=>by simp) dm (fun m hm=>by simp at hm) (fun _=>Nat.le_of_eq hq) (fun _=>hq) (wT _)
theorem Cq {P:Program} {a:Act} {c:Cx} {nx:Nat} (hh:bf c nx) {t e:TypeId} {i:TypeInfo} {zv:Value} {x y:Operand} {k1 k2:IntKind} {n m:Int}
  (hu:P.underlying t=some (.slice e)) (hi:P.info? e=some i) (nY:i.zero=some zv) (oq:zv.cells.size=i.size) (Es:0<i.size)
  (hx:a.eval x=.int k1 n) (hy:a.eval y=.int k2 m) (h0:0<=n) (Wd:n<=m) (hb:m*i.bytes<=140737488355328) (hm:m<=140737488355328)
  {dst:Option Tmp} {type:TypeId} {pos:String} {after:Array Edge} {guard:Option (Nat×Bool)} :
  dr P ⟨dst,.makeSlice t x y,type,pos,after,guard⟩ a c (.sl nx i.size 0 n.toNat (some m.toNat)) (ab c.hp nx (some (List.replicate m.toNat (zv.cells.toList.map jk)))) (nx+1):=by
 have X8:=wrap_small h0 (by omega:n<=140737488355328)
 have hwm:=wrap_small (by omega:0<=m) hm
 let cs:=(Array.range (m.toNat*i.size)).map (zv.cells[· % zv.cells.size]!)
 have bP:=ng c (len:=m.toNat) oq Es
 have AF:cs.size=m.toNat*i.size:=by simp[cs]
 have aX:∀(q:Nat) (l:List AV),(List.replicate m.toNat (zv.cells.toList.map jk))[q]?=some l->l.length=i.size:=by
  intro q l h
  simp only[wP]at h
  split at h
  ·simp only[zOi]at h;subst h;simpa using oq
  ·simp at h
 refine dr.push hh (u:=.slice (some ⟨c.w.heap.size,0,none⟩) n.toNat m.toNat) (w':={ c.w with heap:=c.w.heap.push (.cells cs e) }) (cs:=cs) (e:=e) (fz:=(0,0)) (sz:=i.size) (.inl ?_) rfl rfl rfl rfl (by intro o h;simp) ?_ ?_
 ·have FJ:∀w',(typeInfo e).run P w'=.ok i w':=fun w'=>by simp[typeInfo,hi]
  have eo:∀w',(sizeOf e).run P w'=.ok i.size w':=fun w'=>by simp[sizeOf,typeInfo,hi]
  have KU:∀w',(zeroValue e).run P w'=.ok zv w':=fun w'=>by simp[zeroValue,typeInfo,hi,nY]
  have h48:(2:Int) ^ 48=281474976710656:=by decide
  have abc:(i.bytes:Int)*m=m*i.bytes:=Int.mul_comm _ _
  have Tt:(decide (m<0)||decide ((i.bytes:Int)*m>2 ^ 48))=false:=by
   simp only[qI,decide_eq_false_iff_not]
   rw[abc,h48];omega
  simp only[execOp,Instr.makeSlice,Sem.run_bind,run_underlying hu,hx,hy,asInt,asIntOf,Sem.run_pure,Result.andThen_ok,FJ,X8,hwm,Tt]
  rw[if_neg (by simp;omega)]
  have VH:(if m.toNat*i.size=0 then pure #[] else do pure (<-zeroValue e).cells:Sem (Array Value)).run P c.w=.ok (if m.toNat*i.size=0 then #[] else zv.cells) c.w:=by
   split
   ·rfl
   ·simp only[Sem.run_bind,KU,Result.andThen_ok,Sem.run_pure]
  simp only[Sem.run_bind,run_askRoom,Result.andThen_ok,eo]
  by_cases h00:m.toNat*i.size=0
  ·have aeZ:cs = #[]:=by simp only[cs,h00];simp[qT]
   simp[h00,newRow,aeZ,qT]
  ·simp only[h00,if_false,Sem.run_bind,KU,Result.andThen_ok,Sem.run_pure,newRow,run_newObj]
   rfl
 ·intro k l hl
  obtain ⟨h5,h6⟩:=nu aX bP k l hl
  exact ⟨h5,fun j av hj=>let ⟨u,h7,h8⟩:=h6 j av hj;⟨u,by rw[<-getElem?_arr];exact h7,h8⟩⟩
 ·intro c' FP
  exact .sl FP rfl (fun _=>by simp) (by omega) (fun q hq=>by simp only[zOi]at hq;exact hq.symm) (fun _=>by simp[AF]) (fun h=>by simp at h) (wT _)
theorem Lw {P:Program} {a:Act} {c:Cx} {nx:Nat} (hh:bf c nx) {ts:Array TypeId} {t e:TypeId} {inf:TypeInfo} {args:Array Operand} {d s:Operand} {tm:Nat->AV} (ht:fD c tm a) {src:bN} {r i len:Nat} {cap:Option Nat} {es:bN}
  (h0:ts[0]?=some t) (hu:P.underlying t=some (.slice e)) (hi:P.info? e=some inf) (bz:args.toList=[d,s])
  (VU:aR c.hp inf.size (ev tm (cO s))=some src) (hd:ev tm (cO d)=.sl r inf.size i len cap) (cT:c.hp r=some es) (na:i+len<=es.length) (cS:(src.take len).all (fun l=>l.all AV.one)=true)
  {dst:Option Tmp} {type:TypeId} {pos:String} {after:Array Edge} {guard:Option (Nat×Bool)} :
  dr P ⟨dst,.call ⟨.builtin .copy,args,ts⟩,type,pos,after,guard⟩ a c (.int .i64 (Nat.min src.length len)) (ab c.hp r (some (aa es i (src.take len)))) nx:=by
 have hm:=mz (f:=a.eval) bz
 have h1:=aD ht d
 have h2:=aD ht s
 rw[hd]at h1
 generalize hud:a.eval d=ud at h1 hm
 generalize VR:a.eval s=us at h2 hm
 obtain ⟨e1,e2,e3⟩:=jn (P:=P) hh h2 VU
 cases h1 with
 |sl hι Ev ha hl dm hN hE eK =>
  rename_i m p ad
  obtain ⟨hF,cs,ee,fz,g3,g4,g5,g6⟩:=hh.cells cT hι eK
  have Ez:Nat.min src.length len<=src.length:=Nat.min_le_left _ _
  have afT:Nat.min src.length len<=len:=Nat.min_le_right _ _
  obtain ⟨ys,y1,y2⟩:=e3 (Nat.min src.length len) Ez
  have y1:=y1 c.w rfl
  have vr:src.take (Nat.min src.length len)=src.take len:=by
   rw[List.take_eq_take_iff]
   show min (min src.length len) src.length=min len src.length
   omega
  rw[vr]at y2
  have GU:∀(k:Nat) (l:List AV),(src.take len)[k]?=some l->l.length=inf.size:=by
   intro k l hk
   rw[wB]at hk
   split at hk
   ·exact e2 k l hk
   ·simp at hk
  have vn:ys.length=Nat.min src.length len*inf.size:=by
   have:=y2.1
   rw[eG _ GU]at this
   rw[<-this]
   congr 1
   simp only[wD]
   show min len src.length=min src.length len
   omega
  have mG:∀w',(match some ad with|some ad=>storeCells ad ys|none=>pure ():Sem Unit).run P c.w=.ok () w'->iN P ⟨dst,.call ⟨.builtin .copy,args,ts⟩,type,pos,after,guard⟩ a c.w (.int .i64 (Nat.min src.length len)) w':=by
   intro w' Ya
   refine .inl (cE ?_)
   rw[hm]
   have eo:(sizeOf e).run P c.w=.ok inf.size c.w:=by simp[sizeOf,typeInfo,hi]
   have bR:(Builtin.copy_ ts type #[.slice (some ad) len m,us]).run P c.w=.ok (goInt (Nat.min src.length len)) w':=by
    unfold Builtin.copy_
    rw[h0,show (#[Value.slice (some ad) len m,us]:Array Value)[0]?=some (.slice (some ad) len m) from rfl,show (#[Value.slice (some ad) len m,us]:Array Value)[1]?=some us from rfl]
    simp only[Sem.run_bind,run_underlying hu,e1,Result.andThen_ok,eo,y1,Sem.run_pure]
    simp only at Ya
    simp[Ya]
   simp only[builtin,Sem.run_bind,bR,Result.andThen_ok,Sem.run_pure,goInt]
  have Nq:∀v∈ys,v.oneCell'=true:=q0 y2 (by
   rw[zQ]at cS ⊢
   intro y hy
   obtain ⟨l,uD,Ag⟩:=qe.1 hy
   exact zQ.1 (cS l uD) y Ag)
  by_cases hz:ys=[]
  ·
   have k7:aa es i (src.take len)=es\/inf.size=0:=by
    rw[hz]at vn
    rcases Nat.mul_eq_zero.1 vn.symm with h|h
    ·left
     have:src.take len=[]:=by
      rw[<-vr]
      have h':Nat.min src.length len=0:=h
      rw[h'];rfl
     rw[this,gW]
    ·right;exact h
   rcases k7 with k7|h0s
   ·refine ⟨_,c.w,c.ι,mG c.w (by rw[hz];rfl),?_,?_,.v _⟩
    ·rw[k7]
     have:ab c.hp r (some es)=c.hp:=by
      funext q;unfold ab;split
      ·rename_i h;rw[h,cT]
      ·rfl
     rw[this];exact Ext.refl c
    ·rw[k7]
     have:ab c.hp r (some es)=c.hp:=by
      funext q;unfold ab;split
      ·rename_i h;rw[h,cT]
      ·rfl
     rw[this];exact hh
   ·
    obtain ⟨k1,k2⟩:=kM hh cT hι g3 (w':=c.w) (cs':=cs) (gO _ _ _ g3).symm rfl rfl rfl rfl (es':=aa es i (src.take len)) (by
     intro k l hk
     have az:i+(src.take len).length<=es.length:=by simp;omega
     rw[getElem?_spliceL _ _ _ az]at hk
     split at hk
     ·have h9:=GU _ l hk
      refine ⟨by rw[h9,Ev],fun j av hj => ?_⟩
      have:=(zB.1 hj).1
      omega
     ·exact g6 k l hk)
    exact ⟨_,c.w,c.ι,mG c.w (by rw[hz];rfl),k2,k1,.v _⟩
  ·have Es:0<inf.size/\0<Nat.min src.length len:=by
    have:0<ys.length:=zt.2 hz
    rw[vn]at this
    exact ⟨Nat.pos_of_mul_pos_left this,Nat.pos_of_mul_pos_right this⟩
   have yC:m≠0:=by omega
   have NO:=ha yC
   have hle:p.O+i*inf.size+ys.length<=cs.size:=by
    rw[g4,vn]
    have:=hN yC
    have h9:i*inf.size+Nat.min src.length len*inf.size<=(i+m)*inf.size:=by
     rw[<-ze];exact zX _ (by omega)
    omega
   obtain ⟨w',cs',s1,s2,s3,s4,s5,s6⟩:=fT (P:=P) (B:=p.B) (o:=p.O+i*inf.size) ys 0 c.w cs g3 (by omega) (by intro k hk;rw[g4]at hk;exact g5 k hk) Nq
   rw[wF]at s3
   have bH:∀q,cs'[q]?=if p.O+i*inf.size<=q/\q<p.O+i*inf.size+ys.length then ys[q-(p.O+i*inf.size)]? else cs[q]?:=by
    intro q
    rw[<-getElem?_arr,s3,getElem?_spliceL _ _ _ (by simpa using hle)]
    simp only[getElem?_arr]
   have abh:(src.take len).length=Nat.min src.length len:=by
    simp only[wD]
    show min len src.length=min src.length len
    omega
   obtain ⟨k1,k2⟩:=kM hh cT hι g3 s2 (by
     have:=congrArg List.length s3
     rw[dV _ _ _ (by simpa using hle)]at this
     simpa using this) s4 s5 s6 (es':=aa es i (src.take len)) (by
    intro k l hk
    have az:i+(src.take len).length<=es.length:=by omega
    rw[getElem?_spliceL _ _ _ az]at hk
    split at hk
    ·rename_i hkr
     obtain ⟨h7,h8⟩:=nu GU y2 _ l hk
     refine ⟨h7.trans Ev.symm,fun j av hj => ?_⟩
     obtain ⟨u,h9,im⟩:=h8 j av hj
     refine ⟨u,?_,im⟩
     have tJ:=(zB.1 hj).1
     rw[Ev,bH]
     have hq:p.O+k*inf.size+j=p.O+i*inf.size+((k-i)*inf.size+j):=by
      have:k*inf.size=i*inf.size+(k-i)*inf.size:=by rw[<-ze];congr 1;omega
      omega
     have fI:(k-i)*inf.size+j<ys.length:=(zB.1 h9).1
     rw[if_pos (by omega),hq,wa];exact h9
    ·rename_i hkr
     obtain ⟨h7,h8⟩:=g6 k l hk
     refine ⟨h7,fun j av hj => ?_⟩
     have tJ:=(zB.1 hj).1
     rw[bH,if_neg]
     ·exact h8 j av hj
     ·rintro ⟨q1,q2⟩
      rw[Ev]at q1 q2 h7
      rw[vn]at q2
      rcases zj k i with az|NC
      ·have:=zX inf.size (qU az)
       rw[qz]at this;omega
      ·have m9:i+Nat.min src.length len<=k:=by omega
       have:=zX inf.size m9
       rw[ze]at this;omega)
   exact ⟨_,w',c.ι,mG w' (by subst NO;exact s1),k2,k1,.v _⟩
theorem bf.up {c:Cx} {nx:Nat} (h:bf c nx):bf c (nx+1) :=
 ⟨fun r h1=>by have:=h.uK r h1;omega,fun r p h1=>by have:=h.lt r p h1;omega,h.rU,h.inj,h.F,h.ty,h.gl⟩
theorem JO {c:Cx} {nx q:Nat} (hh:bf c nx) (hq:q+1<nx) (hι:c.ι (q+1)=none) {t:TypeId} {k:Nat} {p:Place} {cs:Array Value} {fz:Nat×Nat} (h1:c.ι q=some p) (h2:p.O=0) (h3:c.w.heap[p.B]?=some (.cells cs t fz)) (h4:k<=cs.size) :
  bf ⟨c.F,c.ι,ab c.hp (q+1) (some [[.ty t k]]),c.w⟩ nx/\Ext c ⟨c.F,c.ι,ab c.hp (q+1) (some [[.ty t k]]),c.w⟩:=by
 let c':Cx:=⟨c.F,c.ι,ab c.hp (q+1) (some [[.ty t k]]),c.w⟩
 have lC:∀r,r≠q+1->c'.hp r=c.hp r:=fun r hr=>by show ab _ _ _ r=_;simp[ab,hr]
 have Wv:c'.hp (q+1)=some [[.ty t k]]:=by show ab _ _ _ (q+1)=_;simp[ab]
 have bt:∀r p,c'.ι r=some p->r≠q+1:=by rintro r p h rfl;have h:c.ι (q+1)=some p:=h;rw[hι]at h;cases h
 have bm:Ext c c':=by
  refine ⟨rfl,fun _ _ h=>h,zD _,?_,rfl,rfl,rfl⟩
  intro B hB ho
  refine ⟨?_,rfl⟩
  rintro ⟨r,p,e1,e2,e3⟩
  exact ho ⟨r,p,by rw[<-lC r (bt r p e2)];exact e1,e2,e3⟩
 refine ⟨⟨?_,hh.lt,?_,?_,hh.F,⟨?_,?_⟩,hh.gl.ext bm⟩,bm⟩
 ·intro r hr
  by_cases he:r=q+1
  ·omega
  ·have hr:c'.hp r≠none:=hr
   rw[lC r he]at hr;exact hh.uK r hr
 ·intro r es p' e1 e2
  have e1:c'.hp r=some es:=e1
  rw[lC r (bt r p' e2)]at e1
  obtain ⟨hF,o,h3,h4⟩:=hh.rU r es p' e1 e2
  exact ⟨hF,o,h3,h4.move fun x u h=>h.mono bm⟩
 ·intro r r' p1 p2 e1 e2 e3 e4 e5
  have e1:c'.hp r≠none:=e1
  have e2:c'.hp r'≠none:=e2
  rw[lC r (bt r p1 e3)]at e1;rw[lC r' (bt r' p2 e4)]at e2
  exact hh.inj r r' p1 p2 e1 e2 e3 e4 e5
 ·intro r t' k' hr
  have hr:c'.hp (r+1)=_:=hr
  by_cases he:r=q
  ·subst he
   rw[Wv]at hr;simp only[zOi,List.cons.injEq,AV.ty.injEq,and_true]at hr
   obtain ⟨rfl,rfl⟩:=hr
   exact ⟨p,cs,fz,h1,h2,h3,h4⟩
  ·rw[lC (r+1) (by omega)]at hr;exact hh.ty.1 r t' k' hr
 ·intro r t' hr
  have hr:c'.hp (r+1)=_:=hr
  by_cases he:r=q
  ·subst he;rw[Wv]at hr;simp at hr
  ·rw[lC (r+1) (by omega)]at hr
   obtain ⟨p',cs',IJ,g1,g2,g3⟩:=hh.ty.2 r t' hr
   exact ⟨p',cs',IJ,g1,g2,fun hn=>g3 (by
    by_cases h8:r=q+1
    ·subst h8;rw[hι]at g1;cases g1
    ·rw[<-lC r h8];exact hn)⟩
theorem acs {c:Cx} {nx q:Nat} (hh:bf c nx) (hq:q+1<nx) (hι:c.ι (q+1)=none) {t:TypeId} {p:Place} {cs:Array Value} (h1:c.ι q=some p) (h3:c.w.heap[p.B]?=some (.cells cs t (0,0))) :
  bf ⟨c.F,c.ι,ab c.hp (q+1) (some [[.ty t 0],[]]),c.w⟩ nx/\Ext c ⟨c.F,c.ι,ab c.hp (q+1) (some [[.ty t 0],[]]),c.w⟩:=by
 let c':Cx:=⟨c.F,c.ι,ab c.hp (q+1) (some [[.ty t 0],[]]),c.w⟩
 have lC:∀r,r≠q+1->c'.hp r=c.hp r:=fun r hr=>by show ab _ _ _ r=_;simp[ab,hr]
 have Wv:c'.hp (q+1)=some [[.ty t 0],[]]:=by show ab _ _ _ (q+1)=_;simp[ab]
 have bt:∀r p,c'.ι r=some p->r≠q+1:=by rintro r p h rfl;have h:c.ι (q+1)=some p:=h;rw[hι]at h;cases h
 have bm:Ext c c':=by
  refine ⟨rfl,fun _ _ h=>h,zD _,?_,rfl,rfl,rfl⟩
  intro B hB ho
  refine ⟨?_,rfl⟩
  rintro ⟨r,p,e1,e2,e3⟩
  exact ho ⟨r,p,by rw[<-lC r (bt r p e2)];exact e1,e2,e3⟩
 refine ⟨⟨?_,hh.lt,?_,?_,hh.F,⟨?_,?_⟩,hh.gl.ext bm⟩,bm⟩
 ·intro r hr
  by_cases he:r=q+1
  ·omega
  ·have hr:c'.hp r≠none:=hr
   rw[lC r he]at hr;exact hh.uK r hr
 ·intro r es p' e1 e2
  have e1:c'.hp r=some es:=e1
  rw[lC r (bt r p' e2)]at e1
  obtain ⟨hF,o,h3,h4⟩:=hh.rU r es p' e1 e2
  exact ⟨hF,o,h3,h4.move fun x u h=>h.mono bm⟩
 ·intro r r' p1 p2 e1 e2 e3 e4 e5
  have e1:c'.hp r≠none:=e1
  have e2:c'.hp r'≠none:=e2
  rw[lC r (bt r p1 e3)]at e1;rw[lC r' (bt r' p2 e4)]at e2
  exact hh.inj r r' p1 p2 e1 e2 e3 e4 e5
 ·intro r t' k' hr
  have hr:c'.hp (r+1)=_:=hr
  by_cases he:r=q
  ·subst he
   rw[Wv]at hr;simp at hr
  ·rw[lC (r+1) (by omega)]at hr;exact hh.ty.1 r t' k' hr
 ·intro r t' hr
  have hr:c'.hp (r+1)=_:=hr
  by_cases he:r=q
  ·subst he
   rw[Wv]at hr;simp only[zOi,List.cons.injEq,AV.ty.injEq,and_true]at hr
   subst hr
   exact ⟨p,cs,_,h1,h3,fun _=>rfl⟩
  ·rw[lC (r+1) (by omega)]at hr
   obtain ⟨p',cs',IJ,g1,g2,g3⟩:=hh.ty.2 r t' hr
   exact ⟨p',cs',IJ,g1,g2,fun hn=>g3 (by
    by_cases h8:r=q+1
    ·subst h8;rw[hι]at g1;cases g1
    ·rw[<-lC r h8];exact hn)⟩
theorem J2 {P:Program} {a:Act} {c:Cx} {nx:Nat} (hh:bf c nx) {t e:TypeId} {i:TypeInfo} {zv:Value} {n:Nat} {parts:Array (Nat×Operand)} {tm:Nat->AV} (ht:fD c tm a) {es:bN}
  (hu:P.underlying t=some (.slice e)) (hi:P.info? e=some i) (nY:i.zero=some zv) (oq:zv.cells.size=i.size) (Es:0<i.size) (Nu:n*i.size<=16777216)
  (cT:kq i.size (List.replicate n (zv.cells.toList.map jk)) ((parts.toList.map fun p=>(p.1,cO p.2)).map fun p=>(p.1,ev tm p.2))=some es) {dst:Option Tmp} {type:TypeId} {pos:String} {after:Array Edge} {guard:Option (Nat×Bool)} :
  dr P ⟨dst,.buildSlice t n parts,type,pos,after,guard⟩ a c (.sl nx i.size 0 es.length (some es.length)) (ab (ab c.hp nx (some es)) (nx+1) (some [[.ty e 0],[]])) (nx+2):=by
 obtain ⟨cc,h1,h2,h3,h4⟩:=yX (P:=P) Es oq ht cT
 have AF:cc.size=n*i.size:=by
  have:=h4.1
  rw[eG es h3,h2]at this
  simpa using this.symm
 let w':World:={ c.w with heap:=c.w.heap.push (.cells cc e) }
 obtain ⟨k1,k2⟩:=tl (nx:=nx) hh (w':=w') (cs:=cc) (e:=e) (fz:=(0,0)) (es:=es) (sz:=i.size) rfl rfl rfl rfl (by intro o h;simp) (by
  intro k y hy
  obtain ⟨h5,h6⟩:=nu h3 h4 k y hy
  exact ⟨h5,fun j av hj=>let ⟨u,h7,h8⟩:=h6 j av hj;⟨u,by rw[<-getElem?_arr];exact h7,h8⟩⟩)
 obtain ⟨m1,m2⟩:=acs (q:=nx) (t:=e) (p:=⟨c.w.heap.size,0,i.size,cc.size,[]⟩) (cs:=cc) k1.up (by omega) k1.fresh (by show cj _ _ _ nx=_;simp[cj]) (by show (c.w.heap.push _)[c.w.heap.size]?=_;simp)
 refine ⟨.slice (some ⟨c.w.heap.size,0,none⟩) n n,w',_,.inl (vL hu hi nY Es Nu h1),k2.trans m2,m1,?_⟩
 rw[h2]
 exact .sl (p:=⟨c.w.heap.size,0,i.size,cc.size,[]⟩) (by show cj _ _ _ nx=_;simp[cj]) rfl (fun _=>by simp) (zD _) (fun m hm=>by simp only[zOi]at hm;exact hm.symm) (fun _=>by simp[AF]) (fun h=>by simp at h) (wT _)
theorem DJ {P:Program} {a:Act} {c:Cx} {nx:Nat} (hh:bf c nx) {e:TypeId} {z:List AV} (hz:zeroOf P e=some z) {dst:Option Tmp} {type:TypeId} {pos:String} {after:Array Edge} {guard:Option (Nat×Bool)} :
  dr P ⟨dst,.alloc e,type,pos,after,guard⟩ a c (.ptr nx 0 0) (ab (ab c.hp nx (some [z])) (nx+1) (some [[.ty e z.length]])) (nx+2):=by
 obtain ⟨i,zv,hi,nY,oq,rfl⟩:=du hz
 let w':World:={ c.w with heap:=c.w.heap.push (.cells zv.cells e) }
 obtain ⟨h1,h2⟩:=tl (nx:=nx) hh (w':=w') (cs:=zv.cells) (e:=e) (fz:=(0,0)) (es:=[zv.cells.toList.map jk]) (sz:=(zv.cells.toList.map jk).length) rfl rfl rfl rfl (by intro o h;simp) (by
  intro k x hx
  obtain ⟨h1,h2⟩:=Cn (tc c oq) k x hx
  exact ⟨h1,fun j av hj=>let ⟨u,h3,h4⟩:=h2 j av hj;⟨u,by rw[<-getElem?_arr];exact h3,h4⟩⟩)
 obtain ⟨h3,h4⟩:=JO (q:=nx) (t:=e) (k:=(zv.cells.toList.map jk).length) (p:=⟨c.w.heap.size,0,(zv.cells.toList.map jk).length,zv.cells.size,[]⟩) (cs:=zv.cells) (fz:=(0,0)) h1.up (by omega)
  h1.fresh (by show cj _ _ _ nx=_;simp[cj]) rfl (by show (c.w.heap.push _)[c.w.heap.size]?=_;simp) (by simp)
 refine ⟨.pointer (some ⟨c.w.heap.size,0,none⟩),w',_,.inl ?_,h2.trans h4,h3,?_⟩
 ·simp[execOp,Instr.alloc,zeroValue,typeInfo,hi,nY,newVar,newRow,w']
 ·have:=aC.ptr (c:=⟨c.F,cj c.ι nx ⟨c.w.heap.size,0,(zv.cells.toList.map jk).length,zv.cells.size,[]⟩,ab (ab c.hp nx (some [zv.cells.toList.map jk])) (nx+1) (some [[.ty e (zv.cells.toList.map jk).length]]),w'⟩) (r:=nx) (i:=0) (off:=0) (p:=⟨c.w.heap.size,0,(zv.cells.toList.map jk).length,zv.cells.size,[]⟩) (by show cj _ _ _ nx=_;simp[cj]) (wT _)
  simpa using this
theorem xe {P:Program} {ts:Array TypeId} {ty t e t2:TypeId} {d2:TypeDesc} {i:TypeInfo} {w w':World} {base:Option Addr} {sLen sCap n:Nat} {x u:Value} {arr:Array Value} (h0:ts[0]?=some t) (h1:ts[1]?=some t2) (hu:P.underlying t=some (.slice e)) (uC:P.underlying t2=some d2) (hd:∀k,d2≠.int k) (hi:P.info? e=some i)
  (hl:(Builtin.lenOf x).run P w=.ok n w) (hf:(Builtin.firstCells i.size n x).run P w=.ok arr w) (fC:sLen+n<=sCap)
  (hr:(Builtin.append_ ts ty #[.slice base sLen sCap,x]).run P w=.ok u w'):u=.slice base (sLen+n) sCap:=by
 have LO:(d2 matches .int _)=false:=by cases d2<;>first|rfl|exact absurd rfl (hd _)
 have eo:(sizeOf e).run P w=.ok i.size w:=by simp[sizeOf,typeInfo,hi]
 unfold Builtin.append_ at hr
 rw[h0,h1,show (#[Value.slice base sLen sCap,x]:Array Value)[0]?=some (.slice base sLen sCap) from rfl,show (#[Value.slice base sLen sCap,x]:Array Value)[1]?=some x from rfl]at hr
 simp only[Sem.run_bind,run_underlying hu,run_underlying uC,eo,Result.andThen_ok,Sem.run_pure]at hr
 simp only[LO,zK,if_false,hl,Result.andThen_ok,fC,if_true,jM,Sem.run_bind,hf]at hr
 cases base with
 |none=>simp at hr;exact hr.1.symm
 |some ad =>
  simp only at hr
  cases bU:(storeCells (ad.add (sLen*i.size)) arr.toList).run P w with
  |ok y w2=>simp[bU]at hr;exact hr.1.symm
  |_=>simp[bU]at hr
theorem FY {P:Program} {o:Oper} {a:Act} {c:Cx} {nx:Nat} (hh:bf c nx) {ts:Array TypeId} {ty e:TypeId} {s:AV} {su x:Value} {new:bN} {arr zc:Array Value} {v:AV} {hp':Heap} {nx':Nat}
  (mG:∀u w',(Builtin.append_ ts ty #[su,x]).run P c.w=.ok u w'->iN P o a c.w u w') (hinv:∀u w',iN P o a c.w u w'->(Builtin.append_ ts ty #[su,x]).run P c.w=.ok u w') (hs:aC c s su) (hz:zc.size=1)
  (aX:∀(i:Nat) (l:List AV),new[i]?=some l->l.length=1) (bP:cu c new.flatten arr.toList) (cS:new.all (fun l=>l.all AV.one)=true)
  (EX:∀(base:Option Addr) (sLen sCap:Nat) (w':World),sLen+new.length<=sCap->(match base with|some ad=>storeCells (ad.add (sLen*1)) arr.toList|none=>pure ()).run P c.w=.ok () w'->(Builtin.append_ ts ty #[.slice base sLen sCap,x]).run P c.w=.ok (.slice base (sLen+new.length) sCap) w')
  (abv:∀(base:Option Addr) (sLen sCap:Nat) (u:Value) (w':World),sLen+new.length<=sCap->(Builtin.append_ ts ty #[.slice base sLen sCap,x]).run P c.w=.ok u w'->u=.slice base (sLen+new.length) sCap)
  (ER:∀(base:Option Addr) (sLen sCap:Nat) (old:Array Value),(∀w',w'.heap=c.w.heap->(Builtin.firstCells 1 sLen (.slice base sLen sCap)).run P w'=.ok old w')->¬sLen+new.length<=sCap->(sLen+new.length)*1<=140737488355328 ->
   ∃cap w',sLen+new.length<=cap/\(Builtin.append_ ts ty #[.slice base sLen sCap,x]).run P c.w=.ok (.slice (some ⟨c.w.heap.size,0,none⟩) (sLen+new.length) cap) w' /\
   w'.heap=c.w.heap.push (.cells (old++arr++Builtin.zeroCells zc (cap-(sLen+new.length))) e)/\w'.os=c.w.os/\w'.tape=c.w.tape/\w'.output=c.w.output)
  (hA:va e s new c.hp nx=some (v,hp',nx')):dr P o a c v hp' nx':=by
 have plain:=fun {v:AV} {hp1:Heap} {nx1:Nat}=>uS (P:=P) (o:=o) (a:=a) (nx:=nx) (v:=v) (hp':=hp1) (nx':=nx1) hh (bytes:=1) (sz:=1) mG hs rfl (by omega) hz aX bP cS EX ER
 unfold va at hA
 split at hA
 ·rename_i z
  split at hA
  ·rename_i h0
   simp only[zOi,zPi]at hA
   obtain ⟨rfl,rfl,rfl⟩:=hA
   exact plain (by simp[cF,h0])
  ·rename_i h0
   split at hA
   ·rename_i hle
    simp only[zOi,zPi]at hA
    obtain ⟨rfl,rfl,rfl⟩:=hA
    have lB:0<new.length:=by omega
    obtain ⟨u,w',ι',hr,hx,nZ,hv⟩:=plain (v:=.sl nx 1 0 new.length none) (hp1:=ab c.hp nx (some new)) (nx1:=nx+1) (by
     simp only[cF,true_or,if_true]
     rw[if_neg h0]
     simp[lB,hle])
    have hsu:su=.slice none 0 0:=by cases hs with|nil _=>rfl
    have bR:=hinv u w' hr
    rw[hsu]at bR
    obtain ⟨cap,w2,hc,yr,cv,_⟩:=ER none 0 0 #[] (fun w' _=>by simp[Builtin.firstCells]) (by omega) (by omega)
    rw[bR]at yr
    simp only[Result.ok.injEq]at yr
    obtain ⟨rfl,rfl⟩:=yr
    rw[Nat.zero_add]at hv
    have RE:=hv
    cases hv with
    |sl hι jl ha hl dm hN hE eK =>
     rename_i p
     have Hc:=ha (by omega)
     simp only[Addr.mk.injEq,qw,wF,and_true]at Hc
     obtain ⟨g1,g2⟩:=Hc
     obtain ⟨k1,k2⟩:=JO (q:=nx) (t:=e) (k:=0) (p:=p) (fz:=(0,0)) nZ.up (by omega) nZ.fresh hι g2.symm (by show w'.heap[p.B]?=_;rw[<-g1,cv];simp;rfl) (wT _)
     exact ⟨_,w',ι',hr,hx.trans k2,k1,by rw[Nat.zero_add];exact RE.mono k2⟩
   ·cases hA
 ·rename_i q sz i len
  split at hA
  ·rename_i hb
   obtain ⟨rfl,rfl⟩:=hb
   split at hA
   ·rename_i t' k es FI cT
    split at hA
    ·rename_i hb
     obtain ⟨rfl,hle⟩:=hb
     split at hA
     ·rename_i fC
      simp only[zOi,zPi]at hA
      obtain ⟨rfl,rfl,rfl⟩:=hA
      exact plain (by simp only[cF,if_true,cT,Nat.zero_add];rw[if_neg (by omega),if_pos fC])
     ·rename_i aaR
      split at hA
      ·rename_i Nu
       simp only[zOi,zPi]at hA
       obtain ⟨rfl,rfl,rfl⟩:=hA
       obtain ⟨u,w',ι',hr,hx,nZ,hv⟩:=plain (v:=.sl nx 1 0 (len+new.length) none) (hp1:=ab (ab c.hp q none) nx (some (es.take len++new))) (nx1:=nx+1) (by
        simp only[cF,if_true,cT,Nat.zero_add,zb]
        rw[if_neg (by omega),if_neg aaR,if_pos (by omega)])
       have sK:aR c.hp 1 (.sl q 1 0 len none)=some ((es.drop 0).take len):=by simp[aR,cT,hle]
       obtain ⟨_,_,aeU⟩:=jn (P:=P) hh hs sK
       obtain ⟨ys,y1,_⟩:=aeU ((es.drop 0).take len).length (zD _)
       have hlen:((es.drop 0).take len).length=len:=by simp;omega
       rw[hlen]at y1
       have bR:=hinv u w' hr
       have RE:=hv
       cases hs with
       | @sl _ _ _ _ m _ p ad hι jl ha hl dm hN hE =>
        have Ex:0<new.length:=by omega
        cases hv with
        | @sl _ _ _ _ m2 _ p2 ad2 Qv hs2 ha2 Ag afW Dz hE2 =>
         have Dx:m2≠0:=by omega
         have Hb:=ha2 Dx
         have key:p2.O=0/\∃cs fz,w'.heap[p2.B]?=some (.cells cs t' fz):=by
          by_cases hf:len+new.length<=m
          ·have hu:=abv _ _ _ _ _ hf bR
           simp only[Value.slice.injEq,zOi]at hu
           obtain ⟨rfl,_,rfl⟩:=hu
           have Hc:=ha Dx
           rw[Hc]at Hb
           simp only[Addr.mk.injEq,qw,wF,and_true]at Hb
           obtain ⟨p0,cs,fz,g1,g2,g3,g4⟩:=nZ.ty.1 q t' k (by
            show ab _ _ _ (q+1)=_
            have Ty:q+1<nx:=hh.uK (q+1) (by rw[FI];simp)
            simp[ab,show ¬q+1=nx by omega,FI])
           have:ι' q=some p:=hx.ι q p hι
           have g1:ι' q=some p0:=g1
           rw[this]at g1;simp only[zOi]at g1;subst g1
           exact ⟨by rw[<-Hb.2,g2],cs,fz,by rw[<-Hb.1];exact g3⟩
          ·obtain ⟨cap,w2,hc,yr,cv,_⟩:=ER _ _ _ _ y1 hf (by omega)
           rw[bR]at yr
           simp only[Result.ok.injEq,Value.slice.injEq,zOi]at yr
           obtain ⟨⟨rfl,_,_⟩,rfl⟩:=yr
           simp only[Addr.mk.injEq,qw,wF,and_true]at Hb
           exact ⟨Hb.2.symm,_,_,by rw[<-Hb.1,cv];exact Array.getElem?_push_size⟩
         obtain ⟨hO,cs,fz,hc⟩:=key
         obtain ⟨k1,k2⟩:=JO (q:=nx) (t:=t') (k:=0) (p:=p2) nZ.up (by omega) nZ.fresh Qv hO hc (wT _)
         exact ⟨_,w',ι',hr,hx.trans k2,k1,RE.mono k2⟩
      ·cases hA
    ·cases hA
   ·cases hA
  ·cases hA
 ·cases hA
theorem AQ:∀{es:bN} {l:List UInt8},Ap es=some l->es=bytesOf l
 |[],l,h=>by simp[Ap]at h;subst h;rfl
 |c::r,l,h=>by
  simp only[Ap]at h
  split at h
  ·rename_i b l' hb hl
   split at h
   ·rename_i n
    split at h
    ·rename_i hn
     simp only[zOi]at h;subst h
     rw[AQ hl,hn];rfl
    ·cases h
   ·cases h
  ·cases h
theorem Og {c:Cx} {nx:Nat} (hh:bf c nx) {q:Nat} {es:bN} {p:Place} (hq:c.hp q=some es) (hp:c.ι q=some p) {w':World} {cs:Array Value} {e:TypeId} {fz IJ:Nat×Nat}
  (hb:c.w.heap[p.B]?=some (.cells cs e fz)) (o5:w'.heap.size=c.w.heap.size) (pc:∀B,B≠p.B->w'.heap[B]?=c.w.heap[B]?) (QF:w'.heap[p.B]?=some (.cells cs e IJ))
  (Ay:w'.os=c.w.os) (gD:w'.tape=c.w.tape) (gw:w'.output=c.w.output) :
  let c':Cx:=⟨c.F,c.ι,ab c.hp q none,w'⟩
  bf c' nx/\Ext c c':=by
 intro c'
 have Wv:c'.hp q=none:=by show ab _ _ _ q=_;simp[ab]
 have lC:∀r,r≠q->c'.hp r=c.hp r:=fun r hr=>by show ab _ _ _ r=_;simp[ab,hr]
 have bt:∀r,c'.hp r≠none->r≠q:=by rintro r h rfl;exact h Wv
 have ma:c.own p.B:=⟨q,p,by simp[hq],hp,rfl⟩
 have bm:Ext c c':=by
  refine ⟨rfl,fun _ _ h=>h,by show _<=w'.heap.size;omega,?_,Ay,gD,gw⟩
  intro B hB ho
  refine ⟨?_,pc B (by rintro rfl;exact ho ma)⟩
  rintro ⟨r,p',e1,e2,e3⟩
  exact ho ⟨r,p',by rw[<-lC r (bt r e1)];exact e1,e2,e3⟩
 refine ⟨⟨?_,hh.lt,?_,?_,?_,?_,hh.gl.ext bm⟩,bm⟩
 ·intro r hr;exact hh.uK r (by rw[<-lC r (bt r hr)];exact hr)
 ·intro r es' p' e1 e2
  have hr:r≠q:=bt r (by rw[e1];simp)
  have YH:c.hp r=some es':=by rw[<-lC r hr];exact e1
  obtain ⟨hF,o,h3,h4⟩:=hh.rU r es' p' YH e2
  have hB:p'.B≠p.B:=fun h=>hr (hh.inj r q p' p (by simp[YH]) (by simp[hq]) e2 hp h)
  exact ⟨hF,o,(pc _ hB).trans h3,h4.move fun x u h=>h.mono bm⟩
 ·intro r r' p1 p2 e1 e2 e3 e4 e5
  exact hh.inj r r' p1 p2 (by rw[<-lC r (bt r e1)];exact e1) (by rw[<-lC r' (bt r' e2)];exact e2) e3 e4 e5
 ·intro B hB
  have:=hh.F B hB
  show B<w'.heap.size
  omega
 ·refine ⟨hh.ty.1.to (fun r t k rest hr=>by
   have se:c'.hp r=_:=hr
   rw[<-lC r (bt r (by rw[se];simp))];exact se) (fun _ _ h=>h) fun B cs1 t fz1 hB => ?_,fun r t hr => ?_⟩
  ·by_cases he:B=p.B
   ·subst he
    rw[hb,zOi,Obj.cells.injEq]at hB
    obtain ⟨rfl,rfl,rfl⟩:=hB
    exact ⟨cs,IJ,QF,rfl⟩
   ·exact ⟨cs1,fz1,(pc B he).trans hB,rfl⟩
  ·have se:c'.hp (r+1)=_:=hr
   rw[lC _ (bt _ (by rw[se];simp))]at se
   obtain ⟨p',cs',f',g1,g2,g3⟩:=hh.ty.2 r t se
   by_cases hB:p'.B=p.B
   ·rw[hB,hb,zOi,Obj.cells.injEq]at g2
    obtain ⟨rfl,rfl,rfl⟩:=g2
    refine ⟨p',cs,IJ,g1,by show w'.heap[p'.B]?=_;rw[hB];exact QF,fun hn => ?_⟩
    have hn:c'.hp r≠none:=hn
    have GS:=bt r hn
    exact absurd (hh.inj r q p' p (by rw[<-lC r GS];exact hn) (by simp[hq]) g1 hp hB) GS
   ·exact ⟨p',cs',f',g1,(pc _ hB).trans g2,fun hn=>g3 (by
     have hn:c'.hp r≠none:=hn
     rw[<-lC r (bt r hn)];exact hn)⟩
theorem JY {P:Program} {o:Oper} {a:Act} {c:Cx} {nx:Nat} (hh:bf c nx) {pt it ty e:TypeId} {q n:Nat} {xu:Value} {es:bN} {l:List UInt8} {k:Nat} (hp:P.underlying pt=some (.pointer e)) (hc:P.cellsOf e=1)
  (mG:∀u w',(Builtin.unsafeString_ #[pt,it] ty #[xu,.int .i64 n]).run P c.w=.ok u w'->iN P o a c.w u w') (hx:aC c (.ptr q 0 0) xu) (FI:c.hp (q+1)=some [[.ty e k]]) (cT:c.hp q=some es) (h0:0<n) (hn:n<=es.length) (hl:Ap (es.take n)=some l) (h63:n<=9223372036854775807) :
  dr P o a c (.str l) (ab c.hp q none) nx:=by
 cases hx with
 | @ptr _ _ _ p hι eK =>
  obtain ⟨p0,AI,LY,g1,g2,g3,_⟩:=hh.ty.1 q e k FI
  rw[hι]at g1;simp only[zOi]at g1;subst g1
  obtain ⟨_,cs,e',fz,h3,h4,h5,h6⟩:=hh.cells cT hι eK
  rw[g3,zOi,Obj.cells.injEq]at h3
  obtain ⟨rfl,rfl,rfl⟩:=h3
  have Iu:=AQ hl
  have hlen:l.length=n:=by
   have:=congrArg List.length Iu
   simp[bytesOf]at this;omega
  have Yl:∀(j:Nat) (x:UInt8),l[j]?=some x->AI[j]?=some (Value.int .u8 x.toNat):=by
   intro j x hj
   have tJ:j<n:=by have:=(zB.1 hj).1;omega
   have h7:es[j]?=some [.v (.int .u8 x.toNat)]:=by
    have h8:(es.take n)[j]?=some [.v (.int .u8 x.toNat)]:=by rw[Iu];simp[bytesOf,hj]
    rw[wB,if_pos tJ]at h8;exact h8
   obtain ⟨h8,h9⟩:=h6 j _ h7
   obtain ⟨u,im,vC⟩:=h9 0 _ rfl
   have h8:p.sz=1:=by simpa using h8.symm
   rw[vC.bZ,h8,g2]at im
   simpa using im
  have eb:∀(j:Nat) (x:UInt8),l[j]?=some x->c.w.cell? ((⟨p.B,0,none⟩:Addr).add j)=some (.int .u8 x.toNat):=by
   intro j x hj
   rw[gH]
   simp only[World.cell?,g3]
   simpa using Yl j x hj
  have eo:l.length<=AI.size:=by
   have ED:l.length-1<l.length:=by omega
   have:=Yl (l.length-1) _ (zA ED)
   have:=(zE.1 this).1
   omega
  have bR:=Lib.run_unsafeString_row (P:=P) c.w pt it ty e hp hc p.B AI.size (by simp[World.shape?,g3]) l (by intro h;subst h;simp at hlen;omega) eo (by omega) eb
  rw[hlen]at bR
  have uB:(⟨p.B,p.O+0*p.sz+0,none⟩:Addr)=⟨p.B,0,none⟩:=by rw[g2];simp
  rw[uB]at mG
  have az:p.B<c.w.heap.size:=(zE.1 g3).1
  have bt:¬n=0:=by omega
  have Ah:∃IJ,(c.w.freeze ⟨p.B,0,none⟩ n).heap[p.B]?=some (.cells AI e IJ):=by
   obtain ⟨lo,hi⟩:=LY
   simp[World.freeze,bt,wY,g3]
  obtain ⟨IJ,Ah⟩:=Ah
  obtain ⟨k1,k2⟩:=Og hh cT hι (w':=c.w.freeze ⟨p.B,0,none⟩ n) g3 (by simp[World.freeze,bt]) (fun B hB=>by
   simp[World.freeze,bt,wY,Ne.symm hB]) Ah (by simp[World.freeze,bt]) (by simp[World.freeze,bt]) (by simp[World.freeze,bt])
  exact ⟨_,_,c.ι,mG _ _ bR,k2,k1,.str _⟩
theorem Od {P:Program} {b:Builtin} {args:Array Operand} {ts:Array TypeId} {dst:Option Tmp} {type:TypeId} {pos:String} {after:Array Edge} {guard:Option (Nat×Bool)} {co:iZ} {tm:Nat->AV} {a:Act} {c:Cx} {v:AV} {hp':Heap} {nx nx':Nat}
  (ao:fY P b args.toList ts=some co) (he:eX tm c.hp nx co=some (v,hp',nx')) (ht:fD c tm a) (hh:bf c nx) :
  dr P ⟨dst,.call ⟨.builtin b,args,ts⟩,type,pos,after,guard⟩ a c v hp' nx':=by
 unfold fY at ao
 split at ao
 ·rename_i s x bz
  have hm:=mz (f:=a.eval) bz
  have h1:=aD ht s
  have h2:=aD ht x
  split at ao
  ·rename_i t t2 Bl Tu
   have go:∀(e:TypeId) (d2:TypeDesc) (z:List AV) (i:TypeInfo),P.underlying t=some (.slice e)->P.underlying t2=some d2->(∀k,d2≠.int k)->zeroOf P e=some z->P.info? e=some i->i.size=1/\i.bytes=1/\VD P e=true->co=.J3 e (cO s) (cO x) ->
     dr P ⟨dst,.call ⟨.builtin .append,args,ts⟩,type,pos,after,guard⟩ a c v hp' nx':=by
    intro e d2 z i hu uC hd hz hi hb ae3
    subst ae3
    obtain ⟨hs1,ta,RF⟩:=hb
    obtain ⟨i',zv,kG,nY,oq,rfl⟩:=du hz
    rw[hi]at kG;simp only[zOi]at kG;subst kG
    simp only[eX]at he
    split at he
    ·rename_i new sK
     split at he
     ·rename_i cS
      generalize hsu:a.eval s=su at h1 hm
      generalize hxu:a.eval x=xu at h2 hm
      obtain ⟨e1,e2,e3⟩:=jn (P:=P) hh h2 sK
      obtain ⟨ys,y1,y2⟩:=e3 new.length (zD _)
      rw[zW]at y2
      have y1':∀w':World,w'.heap=c.w.heap->(Builtin.firstCells i.size new.length xu).run P w'=.ok ys.toArray w':=by rw[hs1];exact y1
      refine FY (ts:=ts) (ty:=type) (x:=xu) (arr:=ys.toArray) (zc:=zv.cells) hh ?_ ?_ h1 (by rw[oq,hs1]) e2 (by simpa using y2) cS ?_ ?_ ?_ he
      ·intro u w' bR
       refine .inl (cE ?_)
       rw[hm]
       simp only[builtin,Sem.run_bind,bR,Result.andThen_ok,Sem.run_pure]
      ·intro u w' hr
       have hbe:(execOp a.eval ⟨dst,.call ⟨.builtin .append,args,ts⟩,type,pos,after,guard⟩).run P c.w=((Builtin.append_ ts type #[su,xu]).run P c.w).andThen fun v w'=>.ok (.value v) w':=by
        simp only[execOp,resolve,Sem.run_bind,Sem.run_pure,Result.andThen_ok,invoke]
        rw[hm]
        simp only[builtin,Sem.run_bind,Sem.run_pure]
       rcases hr with hr|⟨hr,_⟩
       ·rw[hbe]at hr
        cases hq:(Builtin.append_ ts type #[su,xu]).run P c.w with
        |ok u2 w2=>rw[hq]at hr;simp at hr;rw[hr.1,hr.2]
        |_=>rw[hq]at hr;simp[Result.andThen]at hr
       ·rw[hbe]at hr
        cases hq:(Builtin.append_ ts type #[su,xu]).run P c.w with
        |ok u2 w2=>rw[hq]at hr;simp at hr
        |_=>rw[hq]at hr;simp[Result.andThen]at hr
      ·intro base sLen sCap w' fC bU
       have:=oe (P:=P) (ty:=type) (x:=xu) (n:=new.length) (arr:=ys.toArray) Bl Tu hu uC hd hi e1 (y1' c.w rfl) fC (w':=w') (base:=base) (sLen:=sLen) (sCap:=sCap) (by rw[hs1];exact bU)
       exact this
      ·intro base sLen sCap u w' fC hr
       exact xe Bl Tu hu uC hd hi e1 (y1' c.w rfl) fC hr
      ·intro base sLen sCap old ho fC IA
       exact oc Bl Tu hu uC hd hi nY e1 y1' (by rw[hs1];exact ho) fC (by omega) (by rw[ta];exact IA)
     ·simp at he
    ·simp at he
   split at ao
   ·rename_i e hu uC
    split at ao
    ·rename_i z i hz hi
     split at ao
     ·rename_i hb
      simp only[zOi]at ao
      exact go e _ z i hu uC (fun k h=>by cases h) hz hi hb ao.symm
     ·simp at ao
    ·simp at ao
   ·rename_i e q hu uC
    split at ao
    ·rename_i z i hz hi
     split at ao
     ·rename_i hb
      simp only[zOi]at ao
      exact go e _ z i hu uC (fun k h=>by cases h) hz hi hb ao.symm
     ·simp at ao
    ·simp at ao
   ·simp at ao
  ·simp at ao
 ·simp at ao
end Go.Ai
