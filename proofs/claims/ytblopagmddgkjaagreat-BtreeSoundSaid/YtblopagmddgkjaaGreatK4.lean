/- Part 4 of what the proof rests on. -/
import Derived.Test.YtblopagmddgkjaaGreatK3
set_option linter.unusedVariables false
set_option linter.unusedSimpArgs false
set_option maxHeartbeats 4000000
namespace Go.Ai
theorem j6 {sz r i len n l:Nat} {k:IntKind} (h:l<=len) (hn:len<=n):b9 sz (.sl r sz i len (some n)) (some (.v (.int k (l:Int)))) none none=some (.sl r sz (i+l) (len-l) (some (n-l))):=by
 have:(l:Int)<=len:=by omega
 simp[b9,bV,idxOf,ef,this,h]
theorem mw {sz r i len n l:Nat} {k:IntKind} (h:l<=n):b9 sz (.sl r sz i len (some n)) none (some (.v (.int k (l:Int)))) none=some (.sl r sz i l (some n)):=by
 have:(l:Int)<=n:=by omega
 simp[b9,bV,idxOf,ef,this]
theorem A7 {sz r i len n l h m:Nat} {k k' k2:IntKind} (h1:l<=h) (h2:h<=m) (h3:m<=n):b9 sz (.sl r sz i len (some n)) (some (.v (.int k (l:Int)))) (some (.v (.int k' (h:Int)))) (some (.v (.int k2 (m:Int))))=some (.sl r sz (i+l) (h-l) (some (m-l))):=by
 have a1:(l:Int)<=h:=by omega
 have a2:(h:Int)<=m:=by omega
 have a3:(m:Int)<=n:=by omega
 simp[b9,bV,idxOf,ef,a1,a2,a3,h1]
theorem D6 {sz r i len n l h:Nat} {k k':IntKind} (h1:l<=h) (h2:h<=n):b9 sz (.sl r sz i len (some n)) (some (.v (.int k (l:Int)))) (some (.v (.int k' (h:Int)))) none=some (.sl r sz (i+l) (h-l) (some (n-l))):=by
 have a1:(l:Int)<=h:=by omega
 have a2:(h:Int)<=n:=by omega
 simp[b9,bV,idxOf,ef,a1,a2,h1]
def mJ (es:bN) (i:Nat) (row:List AV):bN:=es.take i++row::es.drop i
theorem ED (es:bN) (i:Nat) (row:List AV) (h:i<=es.length):(mJ es i row).length=es.length+1:=by simp[mJ];omega
def QF (sz n:Nat) (es':bN) (r nx:Nat) (hp:Heap) (v:AV) (aT:Heap) (ar:Nat):Prop :=
 ∃q2 c2,v=.sl q2 sz 0 es'.length c2/\(∃sp,aT q2=some (es'++sp))/\((q2=r/\ar=nx/\c2=some n)\/(q2=nx/\ar=nx+1/\c2=none))/\∀x,x<nx->x≠r->aT x=hp x
theorem jT {sz r i len l:Nat} {k:IntKind} (h:l<=len):b9 sz (.sl r sz i len none) (some (.v (.int k (l:Int)))) none none=some (.sl r sz (i+l) (len-l) none):=by
 have:(l:Int)<=len:=by omega
 simp[b9,bV,idxOf,ef,this,h]
theorem FL {sz bytes r len c nx:Nat} {hp:Heap} {B:bN} {row:List AV} (h:hp r=some B) (h1:len+1<=c) (h2:len+1<=B.length):cI sz bytes (.sl r sz 0 len (some c)) [row] hp nx=some (.sl r sz 0 (len+1) (some c),ab hp r (some (aa B len [row])),nx):=by
 simp only[cI,if_true,h,zV,zS,Nat.zero_add]
 rw[if_neg (by omega),if_pos h1,if_pos (by omega)]
theorem uf {sz bytes r len c nx:Nat} {hp:Heap} {B new:bN} (h:hp r=some B) (h0:len<=B.length) (h1:c<len+new.length) (h2:(len+new.length)*bytes<=140737488355328):cI sz bytes (.sl r sz 0 len (some c)) new hp nx=some (.sl nx sz 0 (len+new.length) none,ab hp nx (some (B.take len++new)),nx+1):=by
 simp only[cI,if_true,h,zb]
 rw[if_neg (by omega),if_neg (by omega),if_pos h2]
theorem iv {sz r i len nx:Nat} {c:Option Nat} {hp:Heap} {s:AV} {src B:bN} (hs:aR hp sz s=some src) (h:hp r=some B) (hl:i+len<=B.length) (h1:(src.take len).all (fun l=>l.all AV.one)=true) :
  ua sz (.sl r sz i len c) s hp nx=some (.int .i64 (Nat.min src.length len),ab hp r (some (aa B i (src.take len))),nx):=by
 simp only[ua,hs,if_true,h]
 rw[if_pos ⟨hl,h1⟩]
theorem jx {sz r i len:Nat} {c:Option Nat} {hp:Heap} {B:bN} (h:hp r=some B) (hl:i+len<=B.length):aR hp sz (.sl r sz i len c)=some ((B.drop i).take len):=by
 simp only[aR,if_true,h]
 rw[if_pos hl]
theorem Ic {es spare:bN} {s0 row:List AV}:aa (es++s0::spare) es.length [row]=mJ es es.length row++spare:=by
 simp[aa,mJ]
theorem rn {a b c b':bN} {n:Nat} (hn:n=a.length) (h:b'.length=b.length):aa (a++b++c) n b'=a++b'++c:=by
 subst hn
 have e1:(a++b++c).take a.length=a:=by rw[zF];exact qY
 have e2:(a++b++c).drop (a.length+b.length)=c:=by rw[<-zG];exact qN
 simp only[aa,h]
 rw[e1,e2]
theorem D5 {es:bN} {i:Nat} {row z:List AV} {k:Nat} (hi:i<es.length) (hk:k=es.length+1-i):aa (aa (es.take i++List.replicate k z) i [row]) (i+1) (es.drop i)=mJ es i row:=by
 have h1:i=(es.take i).length:=by rw[wD];omega
 have e0:es.take i++List.replicate k z=es.take i++[z]++List.replicate (es.length-i) z:=by
  rw[hk,show es.length+1-i=(es.length-i)+1 by omega,List.replicate_succ];simp
 have e1:=rn (a:=es.take i) (b:=[z]) (c:=List.replicate (es.length-i) z) (b':=[row]) h1 rfl
 rw[e0,e1]
 have e2:=rn (a:=es.take i++[row]) (b:=List.replicate (es.length-i) z) (c:=[]) (b':=es.drop i) (n:=i+1) (by rw[zG,<-h1];rfl) (by simp)
 rw[zT,zT]at e2
 rw[e2,mJ];simp
theorem D4 {es rest:bN} {i:Nat} {row s0:List AV} (hi:i<es.length):aa (aa (es++s0::rest) (i+1) (es.drop i)) i [row]=mJ es i row++rest:=by
 have h1:i=(es.take i).length:=by rw[wD];omega
 have h2:i+1=(es.take (i+1)).length:=by rw[wD];omega
 have e0:es++s0::rest=es.take (i+1)++(es.drop (i+1)++[s0])++rest:=by
  have:=zy (i+1) es
  rw[zF,zF,<-zF,this];rfl
 have e1:=rn (a:=es.take (i+1)) (b:=es.drop (i+1)++[s0]) (c:=rest) (b':=es.drop i) h2 (by simp;omega)
 have e2:es.take (i+1)++es.drop i++rest=es.take i++[es[i]]++(es.drop i++rest):=by
  rw[zz,zA hi];simp
 have e3:=rn (a:=es.take i) (b:=[es[i]]) (c:=es.drop i++rest) (b':=[row]) h1 rfl
 rw[e0,e1,e2,e3,mJ];simp
theorem jV {es rest:bN} {i:Nat} {s0:List AV} (hi:i<es.length):(((es++s0::rest).drop i).take (es.length+1-i)).take (es.length-i)=es.drop i:=by
 rw[List.take_take,qJ (by omega),wt (by omega),wK (by simp),zI (by simp)]
theorem m7 {es:bN} {i:Nat} (h:es.all (fun l=>l.all AV.one)=true):(es.drop i).all (fun l=>l.all AV.one)=true:=by
 rw[zQ]at h ⊢
 exact fun x hx=>h x (zx hx)
theorem aaD (r q i nx:Nat) (t:TypeId) (es spare:bN) (row:List AV) (hp:Heap) (hi:i<=es.length) (hl:es.length<=1000000) (cV:es.all (fun l=>l.all AV.one)=true) (eI:row.all AV.one=true)
  (hr:r<nx) (hq:q+1<nx) (ur:q≠r) (Wt:q+1≠r) (h1:hp q=some [row]) (h2:hp (q+1)=some [[.ty t 0],[]]) (hsp:Plain 1 spare) :
  ∃v aT ar,aY E0 75 [.sl r 1 0 es.length (some (es.length+spare.length)),.v (.int .i64 i),.sl q 1 0 1 (some 1)] (ab hp r (some (es++spare))) nx v aT ar .e/\QF 1 (es.length+spare.length) (mJ es i row) r nx hp v aT ar:=by
 refine an ab8 rfl ?_
 have Hb:¬r=q:=fun h=>ur h.symm
 have IN:¬r=nx:=by omega
 have hnr:¬nx=r:=by omega
 have TV:¬q=nx:=by omega
 have CT:(i:Int)<=es.length:=by omega
 have w1:IntKind.wrap .i64 ((es.length:Int)+1)=(es.length+1:Nat):=by rw[aj]<;>omega
 have s1:=j6 (sz:=1) (r:=r) (i:=0) (n:=es.length+spare.length) (k:=.i64) hi (by omega)
 have hk:aR (ab hp r (some (es++spare))) 1 (.sl q 1 0 1 (some 1))=some [row]:=by simp[aR,ur,h1]
 have hB:(ab hp r (some (es++spare))) r=some (es++spare):=by simp
 have iM:=ED es i row hi
 simp only[c75]
 simp[s1]
 by_cases ng:i=es.length
 ·subst ng
  cases spare with
  |nil =>
   have a1:=uf (sz:=1) (bytes:=16) (nx:=nx) (len:=es.length) (c:=es.length+([]:bN).length) (new:=[row]) hB (by simp) (by simp) (by simp;omega)
   simp only[zV,zS,wH,zT,zW,Nat.zero_add]at a1 hk ⊢
   simp[bu,hk,eI,a1]
   exact ⟨nx,none,by rw[iM],⟨[],by simp[mJ]⟩,.inr ⟨rfl,rfl,rfl⟩,fun x g1 g2=>by simp[show ¬x=nx by omega,g2]⟩
  |cons s0 rest =>
   have a1:=FL (sz:=1) (bytes:=16) (nx:=nx) (len:=es.length) (c:=es.length+(s0::rest).length) (row:=row) hB (by simp) (by simp)
   rw[Ic]at a1
   simp[bu,hk,eI]
   simp only[zV]at a1
   rw[a1]
   simp
   exact ⟨r,some (es.length+(rest.length+1)),by rw[iM],⟨rest,by simp⟩,.inl ⟨rfl,rfl,by simp⟩,fun x g1 g2=>by simp[g2]⟩
 ·have WU:¬(i:Int)=es.length:=by omega
  have az:i<es.length:=by omega
  simp[ng,WU,w1]
  cases spare with
  |nil =>
   simp only[zS,wH,zT]at hB hk s1 ⊢
   have w2:IntKind.wrap .i64 (((es.length+1:Nat):Int)-i)=(es.length+1-i:Nat):=by rw[aj]<;>omega
   have s2:=mw (sz:=1) (r:=r) (i:=0) (len:=es.length) (n:=es.length) (l:=i) (k:=.i64) hi
   have a1:=uf (sz:=1) (bytes:=16) (nx:=nx) (len:=i) (c:=es.length) (new:=List.replicate (es.length+1-i) [AV.str []]) hB (by omega) (by simp;omega) (by simp;omega)
   have yG:i+(es.length+1-i)=es.length+1:=by omega
   rw[qH,yG]at a1
   have hB2:(ab (ab hp r (some es)) nx (some (es.take i++List.replicate (es.length+1-i) [AV.str []]))) nx=some (es.take i++List.replicate (es.length+1-i) [AV.str []]):=by simp
   have s3:=jT (sz:=1) (r:=nx) (i:=0) (len:=es.length+1) (l:=i) (k:=.i64) (by omega)
   have nf:aR (ab (ab hp r (some es)) nx (some (es.take i++List.replicate (es.length+1-i) [AV.str []]))) 1 (.sl q 1 0 1 (some 1))=some [row]:=by simp[aR,ur,TV,h1]
   have c1:=iv (nx:=nx+1) (i:=0+i) (len:=es.length+1-i) (c:=none) nf hB2 (by simp;omega) (by rw[zI (by simp;omega)];simpa using eI)
   rw[zI (show [row].length<=es.length+1-i by simp;omega),Nat.zero_add]at c1
   have w3:IntKind.wrap .i64 ((i:Int)+1)=(i+1:Nat):=by rw[aj]<;>omega
   have s4:=jT (sz:=1) (r:=nx) (i:=0) (len:=es.length+1) (l:=i+1) (k:=.i64) (by omega)
   simp only[Nat.zero_add]at s1 s3 s4
   have w4:((es.length+1-i:Nat):Int).toNat=es.length+1-i:=by omega
   have w5:0<=((es.length+1-i:Nat):Int)/\((es.length+1-i:Nat):Int)*16<=140737488355328/\((es.length+1-i:Nat):Int)<=140737488355328:=by omega
   simp[s2,w1,w2,An,w4,w5,-Int.natCast_add]
   rw[a1]
   simp[s3,w1,w2,-Int.natCast_add]
   rw[c1]
   have c2:=iv (nx:=nx+1) (r:=nx) (sz:=1) (i:=i+1) (len:=es.length-i) (c:=none) (s:=.sl r 1 i (es.length-i) (some (es.length-i)))
    (hp:=ab (ab (ab hp r (some es)) nx (some (es.take i++List.replicate (es.length+1-i) [AV.str []]))) nx (some (aa (es.take i++List.replicate (es.length+1-i) [AV.str []]) i [row])))
    (src:=es.drop i) (B:=aa (es.take i++List.replicate (es.length+1-i) [AV.str []]) i [row])
    (by rw[jx (B:=es) (by simp[IN]) (by omega),zI (by simp)]) (by simp) (by simp[aa];omega) (by rw[zI (by simp)];exact m7 cV)
   rw[zI (show (es.drop i).length<=es.length-i by simp),D5 az rfl]at c2
   simp[s1,s4,w3,-Int.natCast_add]
   rw[c2]
   simp
   exact ⟨nx,none,by rw[iM],⟨[],by simp⟩,.inr ⟨rfl,rfl,rfl⟩,fun x g1 g2=>by simp[show ¬x=nx by omega,g2]⟩
  |cons s0 rest =>
   have hg:¬(((rest.length+1:Nat):Int)<1):=by omega
   have w3:IntKind.wrap .i64 ((i:Int)+1)=(i+1:Nat):=by rw[aj]<;>omega
   have s2:=mw (sz:=1) (r:=r) (i:=0) (len:=es.length) (n:=es.length+(rest.length+1)) (l:=es.length+1) (k:=.i64) (by omega)
   have s3:=j6 (sz:=1) (r:=r) (i:=0) (len:=es.length+1) (n:=es.length+(rest.length+1)) (l:=i+1) (k:=.i64) (by omega) (by omega)
   have s4:=j6 (sz:=1) (r:=r) (i:=0) (len:=es.length+1) (n:=es.length+(rest.length+1)) (l:=i) (k:=.i64) (by omega) (by omega)
   simp only[Nat.zero_add,show es.length+1-(i+1)=es.length-i by omega]at s3 s4
   have ov:∀c,aY E0 115 [.sl q 1 0 1 (some 1),.sl r 1 (i+1) (es.length-i) c] (ab hp r (some (es++s0::rest))) nx (.v (.bool false)) (ab hp r (some (es++s0::rest))) nx .e:=fun c =>
    uk ⟨rfl,rfl,rfl,rfl,rfl,q,1,1,r,i+1,es.length-i,_,_,t,[row],es++s0::rest,rfl,ur,by simp[ur,h1],by simp[Wt,h2],by simp,by omega,by omega,by omega⟩
   have c1:∀c c',ua 1 (.sl r 1 (i+1) (es.length-i) c) (.sl r 1 i (es.length+1-i) c') (ab hp r (some (es++s0::rest))) nx=some (.int .i64 (Nat.min (((es++s0::rest).drop i).take (es.length+1-i)).length (es.length-i)),ab (ab hp r (some (es++s0::rest))) r (some (aa (es++s0::rest) (i+1) (es.drop i))),nx):=fun c c'=>by
    have:=iv (nx:=nx) (r:=r) (sz:=1) (i:=i+1) (len:=es.length-i) (c:=c) (s:=.sl r 1 i (es.length+1-i) c')
     (hp:=ab hp r (some (es++s0::rest))) (src:=((es++s0::rest).drop i).take (es.length+1-i)) (B:=es++s0::rest)
     (jx (by simp) (by simp;omega)) (by simp) (by simp;omega) (by rw[jV az];exact m7 cV)
    rw[jV az]at this;exact this
   have c2:∀c,ua 1 (.sl r 1 i (es.length+1-i) c) (.sl q 1 0 1 (some 1)) (ab (ab hp r (some (es++s0::rest))) r (some (aa (es++s0::rest) (i+1) (es.drop i)))) nx=some (.int .i64 (Nat.min [row].length (es.length+1-i)),ab (ab (ab hp r (some (es++s0::rest))) r (some (aa (es++s0::rest) (i+1) (es.drop i)))) r (some (mJ es i row++rest)),nx):=fun c=>by
    have:=iv (nx:=nx) (r:=r) (sz:=1) (i:=i) (len:=es.length+1-i) (c:=c) (s:=.sl q 1 0 1 (some 1))
     (hp:=ab (ab hp r (some (es++s0::rest))) r (some (aa (es++s0::rest) (i+1) (es.drop i)))) (src:=[row]) (B:=aa (es++s0::rest) (i+1) (es.drop i))
     (by simp[aR,ur,h1]) (by simp) (by simp[aa];omega) (by rw[zI (by simp;omega)];simpa using eI)
    rw[zI (show [row].length<=es.length+1-i by simp;omega),D4 az]at this;exact this
   simp[hg,w1,s2,s3,w3,-Int.natCast_add]
   refine ae (ov _) ?_
   simp[w1,s2,s3,s4,w3,-Int.natCast_add]
   rw[c1]
   simp[s4,-Int.natCast_add]
   rw[c2]
   simp
   exact ⟨r,some (es.length+(rest.length+1)),by rw[iM],⟨rest,by simp⟩,.inl ⟨rfl,rfl,rfl⟩,fun x g1 g2=>by simp[g2]⟩
theorem aaC (r q i nx:Nat) (t:TypeId) (es spare:bN) (row:List AV) (hp:Heap) (hi:i<=es.length) (hl:es.length<=1000000) (cV:es.all (fun l=>l.all AV.one)=true) (eI:row.all AV.one=true)
  (hr:r<nx) (hq:q+1<nx) (ur:q≠r) (Wt:q+1≠r) (h1:hp q=some [row]) (h2:hp (q+1)=some [[.ty t 0],[]]) (hsp:Plain 3 spare) :
  ∃v aT ar,aY E0 76 [.sl r 3 0 es.length (some (es.length+spare.length)),.v (.int .i64 i),.sl q 3 0 1 (some 1)] (ab hp r (some (es++spare))) nx v aT ar .e/\QF 3 (es.length+spare.length) (mJ es i row) r nx hp v aT ar:=by
 refine an ab7 rfl ?_
 have Hb:¬r=q:=fun h=>ur h.symm
 have IN:¬r=nx:=by omega
 have hnr:¬nx=r:=by omega
 have TV:¬q=nx:=by omega
 have CT:(i:Int)<=es.length:=by omega
 have w1:IntKind.wrap .i64 ((es.length:Int)+1)=(es.length+1:Nat):=by rw[aj]<;>omega
 have s1:=j6 (sz:=3) (r:=r) (i:=0) (n:=es.length+spare.length) (k:=.i64) hi (by omega)
 have hk:aR (ab hp r (some (es++spare))) 3 (.sl q 3 0 1 (some 1))=some [row]:=by simp[aR,ur,h1]
 have hB:(ab hp r (some (es++spare))) r=some (es++spare):=by simp
 have iM:=ED es i row hi
 simp only[c76]
 simp[s1]
 by_cases ng:i=es.length
 ·subst ng
  cases spare with
  |nil =>
   have a1:=uf (sz:=3) (bytes:=32) (nx:=nx) (len:=es.length) (c:=es.length+([]:bN).length) (new:=[row]) hB (by simp) (by simp) (by simp;omega)
   simp only[zV,zS,wH,zT,zW,Nat.zero_add]at a1 hk ⊢
   simp[bu,hk,eI,a1]
   exact ⟨nx,none,by rw[iM],⟨[],by simp[mJ]⟩,.inr ⟨rfl,rfl,rfl⟩,fun x g1 g2=>by simp[show ¬x=nx by omega,g2]⟩
  |cons s0 rest =>
   have a1:=FL (sz:=3) (bytes:=32) (nx:=nx) (len:=es.length) (c:=es.length+(s0::rest).length) (row:=row) hB (by simp) (by simp)
   rw[Ic]at a1
   simp[bu,hk,eI]
   simp only[zV]at a1
   rw[a1]
   simp
   exact ⟨r,some (es.length+(rest.length+1)),by rw[iM],⟨rest,by simp⟩,.inl ⟨rfl,rfl,by simp⟩,fun x g1 g2=>by simp[g2]⟩
 ·have WU:¬(i:Int)=es.length:=by omega
  have az:i<es.length:=by omega
  simp[ng,WU,w1]
  cases spare with
  |nil =>
   simp only[zS,wH,zT]at hB hk s1 ⊢
   have w2:IntKind.wrap .i64 (((es.length+1:Nat):Int)-i)=(es.length+1-i:Nat):=by rw[aj]<;>omega
   have s2:=mw (sz:=3) (r:=r) (i:=0) (len:=es.length) (n:=es.length) (l:=i) (k:=.i64) hi
   have a1:=uf (sz:=3) (bytes:=32) (nx:=nx) (len:=i) (c:=es.length) (new:=List.replicate (es.length+1-i) [AV.str [],AV.v (.int .i64 0),AV.v (.int .i64 0)]) hB (by omega) (by simp;omega) (by simp;omega)
   have yG:i+(es.length+1-i)=es.length+1:=by omega
   rw[qH,yG]at a1
   have hB2:(ab (ab hp r (some es)) nx (some (es.take i++List.replicate (es.length+1-i) [AV.str [],AV.v (.int .i64 0),AV.v (.int .i64 0)]))) nx=some (es.take i++List.replicate (es.length+1-i) [AV.str [],AV.v (.int .i64 0),AV.v (.int .i64 0)]):=by simp
   have s3:=jT (sz:=3) (r:=nx) (i:=0) (len:=es.length+1) (l:=i) (k:=.i64) (by omega)
   have nf:aR (ab (ab hp r (some es)) nx (some (es.take i++List.replicate (es.length+1-i) [AV.str [],AV.v (.int .i64 0),AV.v (.int .i64 0)]))) 3 (.sl q 3 0 1 (some 1))=some [row]:=by simp[aR,ur,TV,h1]
   have c1:=iv (nx:=nx+1) (i:=0+i) (len:=es.length+1-i) (c:=none) nf hB2 (by simp;omega) (by rw[zI (by simp;omega)];simpa using eI)
   rw[zI (show [row].length<=es.length+1-i by simp;omega),Nat.zero_add]at c1
   have w3:IntKind.wrap .i64 ((i:Int)+1)=(i+1:Nat):=by rw[aj]<;>omega
   have s4:=jT (sz:=3) (r:=nx) (i:=0) (len:=es.length+1) (l:=i+1) (k:=.i64) (by omega)
   simp only[Nat.zero_add]at s1 s3 s4
   have w4:((es.length+1-i:Nat):Int).toNat=es.length+1-i:=by omega
   have w5:0<=((es.length+1-i:Nat):Int)/\((es.length+1-i:Nat):Int)*32<=140737488355328/\((es.length+1-i:Nat):Int)<=140737488355328:=by omega
   simp[s2,w1,w2,An,w4,w5,-Int.natCast_add]
   rw[a1]
   simp[s3,w1,w2,-Int.natCast_add]
   rw[c1]
   have c2:=iv (nx:=nx+1) (r:=nx) (sz:=3) (i:=i+1) (len:=es.length-i) (c:=none) (s:=.sl r 3 i (es.length-i) (some (es.length-i)))
    (hp:=ab (ab (ab hp r (some es)) nx (some (es.take i++List.replicate (es.length+1-i) [AV.str [],AV.v (.int .i64 0),AV.v (.int .i64 0)]))) nx (some (aa (es.take i++List.replicate (es.length+1-i) [AV.str [],AV.v (.int .i64 0),AV.v (.int .i64 0)]) i [row])))
    (src:=es.drop i) (B:=aa (es.take i++List.replicate (es.length+1-i) [AV.str [],AV.v (.int .i64 0),AV.v (.int .i64 0)]) i [row])
    (by rw[jx (B:=es) (by simp[IN]) (by omega),zI (by simp)]) (by simp) (by simp[aa];omega) (by rw[zI (by simp)];exact m7 cV)
   rw[zI (show (es.drop i).length<=es.length-i by simp),D5 az rfl]at c2
   simp[s1,s4,w3,-Int.natCast_add]
   rw[c2]
   simp
   exact ⟨nx,none,by rw[iM],⟨[],by simp⟩,.inr ⟨rfl,rfl,rfl⟩,fun x g1 g2=>by simp[show ¬x=nx by omega,g2]⟩
  |cons s0 rest =>
   have hg:¬(((rest.length+1:Nat):Int)<1):=by omega
   have w3:IntKind.wrap .i64 ((i:Int)+1)=(i+1:Nat):=by rw[aj]<;>omega
   have s2:=mw (sz:=3) (r:=r) (i:=0) (len:=es.length) (n:=es.length+(rest.length+1)) (l:=es.length+1) (k:=.i64) (by omega)
   have s3:=j6 (sz:=3) (r:=r) (i:=0) (len:=es.length+1) (n:=es.length+(rest.length+1)) (l:=i+1) (k:=.i64) (by omega) (by omega)
   have s4:=j6 (sz:=3) (r:=r) (i:=0) (len:=es.length+1) (n:=es.length+(rest.length+1)) (l:=i) (k:=.i64) (by omega) (by omega)
   simp only[Nat.zero_add,show es.length+1-(i+1)=es.length-i by omega]at s3 s4
   have ov:∀c,aY E0 117 [.sl q 3 0 1 (some 1),.sl r 3 (i+1) (es.length-i) c] (ab hp r (some (es++s0::rest))) nx (.v (.bool false)) (ab hp r (some (es++s0::rest))) nx .e:=fun c =>
    uk ⟨rfl,rfl,rfl,rfl,rfl,q,3,1,r,i+1,es.length-i,_,_,t,[row],es++s0::rest,rfl,ur,by simp[ur,h1],by simp[Wt,h2],by simp,by omega,by omega,by omega⟩
   have c1:∀c c',ua 3 (.sl r 3 (i+1) (es.length-i) c) (.sl r 3 i (es.length+1-i) c') (ab hp r (some (es++s0::rest))) nx=some (.int .i64 (Nat.min (((es++s0::rest).drop i).take (es.length+1-i)).length (es.length-i)),ab (ab hp r (some (es++s0::rest))) r (some (aa (es++s0::rest) (i+1) (es.drop i))),nx):=fun c c'=>by
    have:=iv (nx:=nx) (r:=r) (sz:=3) (i:=i+1) (len:=es.length-i) (c:=c) (s:=.sl r 3 i (es.length+1-i) c')
     (hp:=ab hp r (some (es++s0::rest))) (src:=((es++s0::rest).drop i).take (es.length+1-i)) (B:=es++s0::rest)
     (jx (by simp) (by simp;omega)) (by simp) (by simp;omega) (by rw[jV az];exact m7 cV)
    rw[jV az]at this;exact this
   have c2:∀c,ua 3 (.sl r 3 i (es.length+1-i) c) (.sl q 3 0 1 (some 1)) (ab (ab hp r (some (es++s0::rest))) r (some (aa (es++s0::rest) (i+1) (es.drop i)))) nx=some (.int .i64 (Nat.min [row].length (es.length+1-i)),ab (ab (ab hp r (some (es++s0::rest))) r (some (aa (es++s0::rest) (i+1) (es.drop i)))) r (some (mJ es i row++rest)),nx):=fun c=>by
    have:=iv (nx:=nx) (r:=r) (sz:=3) (i:=i) (len:=es.length+1-i) (c:=c) (s:=.sl q 3 0 1 (some 1))
     (hp:=ab (ab hp r (some (es++s0::rest))) r (some (aa (es++s0::rest) (i+1) (es.drop i)))) (src:=[row]) (B:=aa (es++s0::rest) (i+1) (es.drop i))
     (by simp[aR,ur,h1]) (by simp) (by simp[aa];omega) (by rw[zI (by simp;omega)];simpa using eI)
    rw[zI (show [row].length<=es.length+1-i by simp;omega),D4 az]at this;exact this
   simp[hg,w1,s2,s3,w3,-Int.natCast_add]
   refine ae (ov _) ?_
   simp[w1,s2,s3,s4,w3,-Int.natCast_add]
   rw[c1]
   simp[s4,-Int.natCast_add]
   rw[c2]
   simp
   exact ⟨r,some (es.length+(rest.length+1)),by rw[iM],⟨rest,by simp⟩,.inl ⟨rfl,rfl,rfl⟩,fun x g1 g2=>by simp[g2]⟩
def xn (es:bN) (i:Nat):bN:=es.take i++es.drop (i+1)
theorem Fu (es:bN) (i:Nat) (h:i<es.length):(xn es i).length=es.length-1:=by simp[xn];omega
theorem Qy {sz bytes r i c nx:Nat} {hp:Heap} {B new:bN} (h:hp r=some B) (h1:i+new.length<=c) (h2:i+new.length<=B.length):cI sz bytes (.sl r sz 0 i (some c)) new hp nx=some (.sl r sz 0 (i+new.length) (some c),ab hp r (some (aa B i new)),nx):=by
 simp only[cI,if_true,h,Nat.zero_add]
 rw[if_neg (by omega),if_pos h1,if_pos h2]
theorem Aa {sz r i len nx:Nat} {c:Option Nat} {zero:List AV} {hp:Heap} {B:bN} (h:hp r=some B) (hl:i+len<=B.length) (h1:zero.length=sz) (h2:0<sz) (h3:zero.all AV.one=true) :
  Ab sz zero (.sl r sz i len c) hp nx=some (.v (.tuple #[]),ab hp r (some (aa B i (List.replicate len zero))),nx):=by
 simp only[Ab,if_true,h,Qh]
 rw[if_pos ⟨hl,h1,h2,h3⟩]
theorem Ie {es spare:bN} {i:Nat} {z:List AV} (hi:i<es.length):aa (aa (es++spare) i (es.drop (i+1))) (es.length-1) [z]=xn es i++z::spare:=by
 have h1:i=(es.take i).length:=by rw[wD];omega
 have hd:es.drop i=es[i]::es.drop (i+1):=zO hi
 obtain ⟨b,y,hb,hl⟩:∃(b:bN) (y:List AV),es.drop i=b++[y]/\b.length=(es.drop (i+1)).length:=by
  have bt:es.drop i≠[]:=by rw[hd];exact List.cons_ne_nil _ _
  exact ⟨(es.drop i).dropLast,(es.drop i).getLast bt,(List.dropLast_concat_getLast bt).symm,by rw[List.length_dropLast,wN,wN];omega⟩
 have e0:es++spare=es.take i++b++(y::spare):=by
  have:=zy i es
  rw[hb]at this
  conv=>lhs;rw[<-this]
  simp
 have e1:=rn (a:=es.take i) (b:=b) (c:=y::spare) (b':=es.drop (i+1)) h1 hl.symm
 have e2:=rn (a:=es.take i++es.drop (i+1)) (b:=[y]) (c:=spare) (b':=[z]) (n:=es.length-1) (by simp;omega) rfl
 have e3:es.take i++es.drop (i+1)++y::spare=es.take i++es.drop (i+1)++[y]++spare:=by simp
 rw[e0,e1,e3,e2,xn];simp
theorem aca (r i nx:Nat) (es spare:bN) (hp:Heap) (hi:i<es.length) (hl:es.length<=1000000) (cV:es.all (fun l=>l.all AV.one)=true) (hr:r<nx) :
  ∃v aT ar,aY E0 77 [.sl r 1 0 es.length (some (es.length+spare.length)),.v (.int .i64 i),.v (.int .i64 ((i+1:Nat):Int))] (ab hp r (some (es++spare))) nx v aT ar .e/\QF 1 (es.length+spare.length) (xn es i) r nx hp v aT ar:=by
 refine an ab6 rfl ?_
 have bt:¬(i:Int)=((i+1:Nat):Int):=by omega
 have iM:=Fu es i hi
 have s1:=A7 (sz:=1) (r:=r) (i:=0) (len:=es.length) (n:=es.length+spare.length) (l:=i) (h:=i+1) (m:=es.length) (k:=.i64) (k':=.i64) (k2:=.i64) (by omega) (by omega) (by omega)
 have s2:=mw (sz:=1) (r:=r) (i:=0) (len:=es.length) (n:=es.length+spare.length) (l:=i) (k:=.i64) (by omega)
 have s3:=j6 (sz:=1) (r:=r) (i:=0) (len:=es.length) (n:=es.length+spare.length) (l:=i+1) (k:=.i64) (by omega) (by omega)
 simp only[Nat.zero_add]at s1 s3
 have yG:i+(es.drop (i+1)).length=es.length-1:=by simp;omega
 have he:∀c,aR (ab hp r (some (es++spare))) 1 (.sl r 1 (i+1) (es.length-(i+1)) c)=some (es.drop (i+1)):=fun c=>by
  rw[jx (B:=es++spare) (by simp) (by simp;omega),wt (by omega),wK (by simp),zI (by simp)]
 have a1:=Qy (sz:=1) (bytes:=16) (r:=r) (i:=i) (c:=es.length+spare.length) (nx:=nx) (hp:=ab hp r (some (es++spare))) (B:=es++spare) (new:=es.drop (i+1)) (by simp) (by omega) (by simp;omega)
 rw[yG]at a1
 have a2:bu 1 16 (.sl r 1 0 i (some (es.length+spare.length))) (.sl r 1 (i+1) (es.length-(i+1)) (some (es.length+spare.length-(i+1)))) (ab hp r (some (es++spare))) nx=some (.sl r 1 0 (es.length-1) (some (es.length+spare.length)),ab (ab hp r (some (es++spare))) r (some (aa (es++spare) i (es.drop (i+1)))),nx):=by
  simp only[bu,he]
  rw[if_pos (m7 cV)];exact a1
 have s4:=D6 (sz:=1) (r:=r) (i:=0) (len:=es.length-1) (n:=es.length+spare.length) (l:=es.length-1) (h:=es.length) (k:=.i64) (k':=.i64) (by omega) (by omega)
 simp only[Nat.zero_add,show es.length-(es.length-1)=1 by omega]at s4
 have c1:∀c,Ab 1 [AV.str []] (.sl r 1 (es.length-1) 1 c) (ab (ab hp r (some (es++spare))) r (some (aa (es++spare) i (es.drop (i+1))))) nx=some (.v (.tuple #[]),ab (ab (ab hp r (some (es++spare))) r (some (aa (es++spare) i (es.drop (i+1))))) r (some (xn es i++[AV.str []]::spare)),nx):=fun c=>by
  rw[<-Ie hi]
  exact Aa (B:=aa (es++spare) i (es.drop (i+1))) (by simp) (by simp[aa];omega) rfl (by omega) rfl
 simp only[c77]
 simp[s1,s2,s3,bt,-Int.natCast_add]
 rw[a2]
 simp[s4,-Int.natCast_add]
 rw[c1]
 simp
 exact ⟨r,some (es.length+spare.length),by rw[iM],⟨[AV.str []]::spare,by simp⟩,.inl ⟨rfl,rfl,rfl⟩,fun x g1 g2=>by simp[g2]⟩
theorem ab9 (r i nx:Nat) (es spare:bN) (hp:Heap) (hi:i<es.length) (hl:es.length<=1000000) (cV:es.all (fun l=>l.all AV.one)=true) (hr:r<nx) :
  ∃v aT ar,aY E0 78 [.sl r 3 0 es.length (some (es.length+spare.length)),.v (.int .i64 i),.v (.int .i64 ((i+1:Nat):Int))] (ab hp r (some (es++spare))) nx v aT ar .e/\QF 3 (es.length+spare.length) (xn es i) r nx hp v aT ar:=by
 refine an ab5 rfl ?_
 have bt:¬(i:Int)=((i+1:Nat):Int):=by omega
 have iM:=Fu es i hi
 have s1:=A7 (sz:=3) (r:=r) (i:=0) (len:=es.length) (n:=es.length+spare.length) (l:=i) (h:=i+1) (m:=es.length) (k:=.i64) (k':=.i64) (k2:=.i64) (by omega) (by omega) (by omega)
 have s2:=mw (sz:=3) (r:=r) (i:=0) (len:=es.length) (n:=es.length+spare.length) (l:=i) (k:=.i64) (by omega)
 have s3:=j6 (sz:=3) (r:=r) (i:=0) (len:=es.length) (n:=es.length+spare.length) (l:=i+1) (k:=.i64) (by omega) (by omega)
 simp only[Nat.zero_add]at s1 s3
 have yG:i+(es.drop (i+1)).length=es.length-1:=by simp;omega
 have he:∀c,aR (ab hp r (some (es++spare))) 3 (.sl r 3 (i+1) (es.length-(i+1)) c)=some (es.drop (i+1)):=fun c=>by
  rw[jx (B:=es++spare) (by simp) (by simp;omega),wt (by omega),wK (by simp),zI (by simp)]
 have a1:=Qy (sz:=3) (bytes:=32) (r:=r) (i:=i) (c:=es.length+spare.length) (nx:=nx) (hp:=ab hp r (some (es++spare))) (B:=es++spare) (new:=es.drop (i+1)) (by simp) (by omega) (by simp;omega)
 rw[yG]at a1
 have a2:bu 3 32 (.sl r 3 0 i (some (es.length+spare.length))) (.sl r 3 (i+1) (es.length-(i+1)) (some (es.length+spare.length-(i+1)))) (ab hp r (some (es++spare))) nx=some (.sl r 3 0 (es.length-1) (some (es.length+spare.length)),ab (ab hp r (some (es++spare))) r (some (aa (es++spare) i (es.drop (i+1)))),nx):=by
  simp only[bu,he]
  rw[if_pos (m7 cV)];exact a1
 have s4:=D6 (sz:=3) (r:=r) (i:=0) (len:=es.length-1) (n:=es.length+spare.length) (l:=es.length-1) (h:=es.length) (k:=.i64) (k':=.i64) (by omega) (by omega)
 simp only[Nat.zero_add,show es.length-(es.length-1)=1 by omega]at s4
 have c1:∀c,Ab 3 [AV.str [],AV.v (.int .i64 0),AV.v (.int .i64 0)] (.sl r 3 (es.length-1) 1 c) (ab (ab hp r (some (es++spare))) r (some (aa (es++spare) i (es.drop (i+1))))) nx=some (.v (.tuple #[]),ab (ab (ab hp r (some (es++spare))) r (some (aa (es++spare) i (es.drop (i+1))))) r (some (xn es i++[AV.str [],AV.v (.int .i64 0),AV.v (.int .i64 0)]::spare)),nx):=fun c=>by
  rw[<-Ie hi]
  exact Aa (B:=aa (es++spare) i (es.drop (i+1))) (by simp) (by simp[aa];omega) rfl (by omega) rfl
 simp only[c78]
 simp[s1,s2,s3,bt,-Int.natCast_add]
 rw[a2]
 simp[s4,-Int.natCast_add]
 rw[c1]
 simp
 exact ⟨r,some (es.length+spare.length),by rw[iM],⟨[AV.str [],AV.v (.int .i64 0),AV.v (.int .i64 0)]::spare,by simp⟩,.inl ⟨rfl,rfl,rfl⟩,fun x g1 g2=>by simp[g2]⟩
theorem aS {n sz:Nat} {nil:Bool} {es:List (List AV)} {cap:Option Nat} {j:Nat} {cells:List AV} {k:IntKind} (h:(nil=true\/sz=n)/\(nil=true->es=[])) (hl:es[j]?=some cells) :
  cd n (.rs nil sz es cap) (.v (.int k j))=some (.rp cells):=by
 obtain ⟨az,he⟩:=zB.1 hl
 rcases h.1 with h1|h1
 ·rw[h.2 h1]at az;simp at az
 ·simp[cd,h1,idxOf,az,he]
def Cc:bN->Nat->Nat->Option Nat
 |[],_,x=>some x
 |[.v (.int .u8 (.ofNat n))]::r,i,x=>bif Nat.ble n 255 then Cc r (i+1) ((x+(i+1)*n) % 4294967296) else none
 |_,_,_=>none
theorem wrap_u32 {n:Nat}:IntKind.wrap .u32 (n:Int)=((n % 4294967296:Nat):Int):=by
 have h1:IntKind.signed .u32=false:=rfl
 have h2:IntKind.bits .u32=32:=rfl
 simp[IntKind.wrap,h1,h2]
theorem Kp {l:List AV} {r:bN} {i x s:Nat} (h:Cc (l::r) i x=some s):∃n:Nat,l=[.v (.int .u8 n)]/\n<=255/\Cc r (i+1) ((x+(i+1)*n) % 4294967296)=some s:=by
 unfold Cc at h
 split at h
 ·rename_i e;cases e
 ·rename_i i' x' n r' e
  cases e
  rw[cond_eq_ite]at h
  split at h
  ·rename_i hn;exact ⟨n,rfl,Nat.le_of_ble_eq_true hn,h⟩
  ·cases h
 ·cases h
theorem f142 (es:bN) (x:AV) (hx:eV 1 es x) (hc:bl es=true) (hl:es.length<=1000000) (s:Nat) (hs:Cc es 0 0=some s) (hp nx):aY E 142 [x] hp nx (.v (.int .u32 s)) hp nx .p:=by
 obtain ⟨nil,sz,cap,rfl,hz⟩:=id hx
 refine aD e142 rfl (by simp[hc]) ?_ hp nx
 simp[c142]
 refine aM (I:=fun (q:Nat×Nat) t=>q.1<=es.length/\q.2<4294967296/\Cc (es.drop q.1) q.1 q.2=some s/\t.tm 8=.v (.int .i64 q.1)/\t.tm 7=.v (.int .i64 es.length)/\t.tm 6=.rs nil sz es cap/\t.tm 3=.v (.int .u32 q.2)/\t.hp=cG/\t.nx=0) (fun q=>es.length-q.1) (0,0) ⟨by simp,by simp,by simpa using hs,by simp,by simp,by simp,by simp,by simp,by simp⟩ ?_
 rintro ⟨j,y⟩ tm hp nx ⟨hj,hy,hd,t8,t7,t6,t3,rfl,rfl⟩
 simp only at hj hy hd t8 t7 t6 t3
 by_cases az:j<es.length
 ·rw[zO az]at hd
  obtain ⟨n,e1,e2,e3⟩:=Kp hd
  have bG:cd 1 (.rs nil sz es cap) (.v (.int .i64 j))=some (.rp [.v (.int .u8 n)]):=aS hz (by rw[zA az,e1])
  have w1:IntKind.wrap .i64 ((j:Int)+1)=(j+1:Nat):=by rw[aj]<;>omega
  have w2:IntKind.wrap .u32 ((j+1:Nat):Int)=(j+1:Nat):=by rw[wrap_u32,Nat.mod_eq_of_lt (by omega)]
  have w3:IntKind.wrap .u32 (n:Int)=n:=by rw[wrap_u32,Nat.mod_eq_of_lt (by omega)]
  have w4:IntKind.wrap .u32 (((j+1:Nat):Int)*n)=(((j+1)*n % 4294967296:Nat):Int):=by rw[show ((j+1:Nat):Int)*n=(((j+1)*n:Nat):Int) by simp,wrap_u32]
  have w5:IntKind.wrap .u32 ((y:Int)+(((j+1)*n % 4294967296:Nat):Int))=(((y+(j+1)*n) % 4294967296:Nat):Int):=by
   rw[show (y:Int)+(((j+1)*n % 4294967296:Nat):Int)=((y+(j+1)*n % 4294967296:Nat):Int) by simp,wrap_u32]
   simp
  simp[t8,t7,t6,t3,az,-ag,bG,-Prod.exists,w1,w2,w3,w4,w5,-Int.natCast_add,-Int.natCast_mul,-Int.natCast_emod]
  exact ⟨(j+1,(y+(j+1)*n) % 4294967296),by simp only;omega,by simp only;omega,by simp only;omega,e3,rfl,rfl⟩
 ·have:j=es.length:=by omega
  subst this
  rw[zr (zD _)]at hd
  simp only[Cc,zOi]at hd
  subst hd
  simp[t8,t7,t3]
def aW (n:Nat):Bs:=List.replicate n 0
theorem dV {n:Nat}:(aW n).length=n:=by simp[aW]
theorem mn {n:Nat}:bytesOf (aW n)=List.replicate n [.v (.int .u8 0)]:=by simp[bytesOf,aW]
theorem f85 (hp:Heap) (nx:Nat):∃hp',aY E 85 [] hp nx (.ptr (nx+1) 0 0) hp' (nx+2) .e/\Mm hp' (nx+1) nx 0 (aW 512)/\∀r,r<nx->hp' r=hp r:=by
 have main:=an (P:=fun v hp' nx'=>v=.ptr (nx+1) 0 0/\nx'=nx+2/\Mm hp' (nx+1) nx 0 (aW 512)/\∀r,r<nx->hp' r=hp r) e85 (args:=[]) rfl (hp:=hp) (nx:=nx) ?_
 ·obtain ⟨v,hp',nx',h1,rfl,rfl,h2⟩:=main
  exact ⟨hp',h1,h2⟩
 ·have hm:j9 1 1 [.v (.int .u8 0)] (iV 512) (iV 512) hp nx=some (.sl nx 1 0 512 (some 512),ab hp nx (some (List.replicate 512 [.v (.int .u8 0)])),nx+1):=rfl
  have hz:bytesOf (aW 512)=List.replicate 512 [.v (.int .u8 0)]:=mn
  have hl:(aW 512).length=512:=dV
  generalize List.replicate 512 [AV.v (.int .u8 0)]=Z at hm hz
  generalize aW 512=Y at hz hl ⊢
  simp[c85,hm,aa]
  refine ⟨⟨by simp,by simp[hz],hl,by omega⟩,fun r hr=>by simp[show ¬r=nx+1 by omega,show ¬r=nx by omega]⟩
theorem f87 (s:Bs) (hp:Heap) (nx w q i:Nat) (b:Bs) (hi:i+s.length<=512) (h:Mm hp w q i b) :
  ∃hp',aY E 87 [.ptr w 0 0,.str s] hp nx (.bE []) hp' nx .e/\Mm hp' w q (i+s.length) (fC b i s)/\∀r,r≠w->r≠q->hp' r=hp r:=by
 have main:=an (P:=fun v hp' nx'=>v=.bE []/\nx'=nx/\Mm hp' w q (i+s.length) (fC b i s)/\∀r,r≠w->r≠q->hp' r=hp r) e87 (args:=[.ptr w 0 0,.str s]) rfl (hp:=hp) (nx:=nx) ?_
 ·obtain ⟨v,hp',nx',h1,rfl,rfl,h2⟩:=main
  exact ⟨hp',h1,h2⟩
 ·have hw:=h.hw
  have hq:=h.hq
  have Ny:=h.ne
  have CO:IntKind.wrap .i64 ((i:Int)+(s.length:Int))=((i+s.length:Nat):Int):=by rw[aj]<;>omega
  have W7:b9 1 (.sl q 1 0 512 (some 512)) (some (iV i)) none none=some (.sl q 1 (0+i) (512-i) (some (512-i))):=by
   have:bV 512 512 (some (iV i)) none none=some (i,512,none):=tf (by omega)
   simp only[b9,if_true,wJ,this,ef,qP]
  have vI:=Ja (hp:=hp) (nx:=nx) (q:=q) (i:=0+i) (n:=512-i) (b:=b) (s:=s) (c:=some (512-i)) (x:=.str s) rfl hq (by rw[h.len];omega) (by omega)
  simp[c87,hw,hq,W7,vI,Ny,Ne.symm Ny,aa,CO,-Int.natCast_add,-Nat.zero_add]
  refine ⟨⟨by simp,?_,?_,Ny⟩,fun r h1 h2=>by simp[h1,h2]⟩
  ·simp[Ny,Ne.symm Ny]
  ·rw[oV (by rw[h.len];omega),h.len]
theorem yd (l:Bs) {k:Nat}:∀{n:Nat},k<=n->aA (l.take k)<=aA (l.take n)
 |0,h=>by rw[show k=0 by omega];exact zD _
 |n+1,h=>by
  rcases zj k (n+1) with h|h
  ·refine wF (yd l (n:=n) (by omega)) ?_
   rw[zz]
   cases l[n]? with
   |none=>simp
   |some c=>simp only[jJ,lg];omega
  ·rw[show k=n+1 by omega];exact zD _
structure ZB (hp:Heap) (w i:Nat) (b:Bs) (c:Option Nat):Prop where
 hw:hp w=some [[.rs false 1 (bytesOf b) c,iV i]]
theorem f91 (n:Nat) (hn:n<=8) (hp:Heap) (nx w i:Nat) (b:Bs) (c:Option Nat) (hi:i+n<=b.length) (hb:b.length<=1000) (h7:aA ((b.drop i).take n)<72057594037927936) (h:ZB hp w i b c) :
  ∃hp',aY E 91 [.ptr w 0 0,iV n] hp nx (.v (.int .i64 (aA ((b.drop i).take n)))) hp' nx .e/\ZB hp' w (i+n) b c/\∀r,r≠w->hp' r=hp r:=by
 have main:=an (P:=fun v hp' nx'=>v=.v (.int .i64 (aA ((b.drop i).take n)))/\nx'=nx/\ZB hp' w (i+n) b c/\∀r,r≠w->hp' r=hp r) e91 (args:=[.ptr w 0 0,iV n]) rfl (hp:=hp) (nx:=nx) ?_
 ·obtain ⟨v,hp',nx',h1,rfl,rfl,h2⟩:=main
  exact ⟨hp',h1,h2⟩
 ·simp[c91]
  refine aM (I:=fun (k:Nat) s=>k<=n/\s.tm 7=iV k/\s.tm 6=iV n/\s.tm 5=.v (.int .i64 (aA ((b.drop i).take k)))/\s.tm 0=.ptr w 0 0/\ZB s.hp w (i+k) b c/\s.nx=nx/\∀r,r≠w->s.hp r=hp r)
   (fun k=>n-k) 0 (by simp[h,aA]) ?_
  rintro k tm hp1 nx1 ⟨hk,t7,t6,t5,t0,hR,yP,hF⟩
  simp only at t7 t6 t5 t0 hR yP hF
  subst yP
  have hw:=hR.hw
  by_cases az:k<n
  ·have xc:i+k<b.length:=by omega
   have hg:=vT xc
   have bG:cd 1 (.rs false 1 (bytesOf b) c) (iV (i+k:Nat))=some (.rp [.v (.int .u8 b[i+k].toNat)]):=eb ⟨.inr rfl,fun h=>by cases h⟩ hg rfl
   have bU:aA ((b.drop i).take (k+1))=256*aA ((b.drop i).take k)+b[i+k].toNat:=by
    rw[zz,wE,zA xc]
    exact lg _ _
   have hc:=b[i+k].toNat_lt
   have TS:aA ((b.drop i).take k)<281474976710656:=by
    have:=yd (b.drop i) (show k+1<=n by omega)
    omega
   have hor:=Is TS hc
   have w1:IntKind.wrap .i64 ((k:Int)+1)=((k+1:Nat):Int):=by rw[aj]<;>omega
   have w2:IntKind.wrap .i64 (((i+k:Nat):Int)+1)=((i+(k+1):Nat):Int):=by rw[aj]<;>omega
   have w3:IntKind.wrap .i64 (b[i+k].toNat:Int)=(b[i+k].toNat:Int):=by rw[aj]<;>omega
   have G9:Cn .shl .i64 (aA ((b.drop i).take k):Int) 8=some (.int .i64 (IntKind.wrap .i64 ((aA ((b.drop i).take k):Int)*256))):=rfl
   simp[t7,t6,t5,t0,hw,az,bG,G9,-ag,-BitVec.toNat_or,w1,w2,w3,hor,aa,-Int.natCast_add,-Int.natCast_mul]
   refine ⟨k+1,by omega,by omega,by simp,by rw[bU],⟨by simp⟩,fun r h1=>by simp[h1];exact hF r h1⟩
  ·have:k=n:=by omega
   subst this
   simp[t7,t6,t5]
   exact ⟨hR,hF⟩
def vY:Bs->Nat->Nat->Nat
 |[],_,x=>x
 |c::r,i,x=>vY r (i+1) ((x+(i+1)*c.toNat) % 4294967296)
theorem xS:∀(l:Bs) (i x:Nat),Cc (bytesOf l) i x=some (vY l i x)
 |[],_,_=>rfl
 |c::r,i,x=>by
  have e:bytesOf (c::r)=[.v (.int .u8 c.toNat)]::bytesOf r:=rfl
  have hc:Nat.ble c.toNat 255=true:=Nat.ble_eq_true_of_le (by have:=c.toNat_lt;omega)
  rw[e]
  show (bif Nat.ble c.toNat 255 then Cc (bytesOf r) (i+1) ((x+(i+1)*c.toNat) % 4294967296) else none)=_
  rw[hc,cond_true,xS r];rfl
theorem Ib:∀(l:Bs) (i x:Nat),x<4294967296->vY l i x<4294967296
 |[],_,_,h=>h
 |c::r,i,x,h=>Ib r _ _ (jC _ (by omega))
theorem kQ {b:Bs}:bl (bytesOf b)=true:=by
 simp only[bytesOf]
 exact iT (fun _=>by simp) b
theorem abM (b:Bs) (hb:b.length<=1000) (c:Option Nat) (hp nx):aY E 142 [.rs false 1 (bytesOf b) c] hp nx (.v (.int .u32 (vY b 0 0))) hp nx .p :=
 f142 (bytesOf b) _ ⟨false,1,c,rfl,.inr rfl,fun h=>by cases h⟩ kQ (by rw[aJ];omega) _ (xS b 0 0) hp nx
theorem f92 (a b:Bs) (ca cb:Option Nat) (hp nx):aY E 92 [.rs false 1 (bytesOf a) ca,.rs false 1 (bytesOf b) cb] hp nx (.v (.bool (decide (a=b)))) hp nx .p:=by
 refine aD e92 rfl (by simp[kQ]) ?_ hp nx
 simp[c92,dI,uy]
theorem mP {k:Nat} {hp:Heap} {q:Nat} {b:Bs} {c:Option Nat} (hq:hp q=some (bytesOf b)) (hl:b.length=512):kh (k+2) hp (.sl q 1 0 512 c)=some (.rs false 1 (bytesOf b) c):=by
 have hm:∀{l:Bs},dW (dW (kh (k+1) hp)) (bytesOf l)=some (bytesOf l):=by
  intro l
  induction l with
  |nil=>rfl
  |cons y r ih =>
   have e:bytesOf (y::r)=[.v (.int .u8 y.toNat)]::bytesOf r:=rfl
   rw[e,br,ih]
   have:dW (kh (k+1) hp) [AV.v (.int .u8 y.toNat)]=some [.v (.int .u8 y.toNat)]:=eB (by simp)
   rw[this];rfl
 rw[kh]
 have:((bytesOf b).drop 0).take 512=bytesOf b:=by rw[zb];exact zI (by rw[aJ,hl];exact zD _)
 simp only[rS,hq,aJ,hl,Nat.zero_add,zD,if_true,this,hm]
 rfl
def kD (kind gen:Nat) (s:Bs):Bs :=
 fC (fC (fC (fC (fC (fC (aW 512) 0 (aO 18550 2)) 2 (aO kind 1)) 3 (aO 0 1)) 4 (aO s.length 2)) 6 (aO gen 6)) 20 s
def jh (kind gen:Nat) (s:Bs):Bs:=fC (kD kind gen s) 12 (aO (vY (kD kind gen s) 0 0) 4)
theorem gI {b:Bs} {i:Nat} {s:Bs} (hb:b.length=512) (h:i+s.length<=512):(fC b i s).length=512:=by rw[oV (by omega),hb]
theorem uC {kind gen:Nat} {s:Bs} (h:s.length<=492):(kD kind gen s).length=512:=by
 have l:∀x n,(aO x n).length=n:=fun x n=>aU n x
 exact gI (gI (gI (gI (gI (gI dV (by rw[l];omega)) (by rw[l];omega)) (by rw[l];omega)) (by rw[l];omega)) (by rw[l];omega)) (by omega)
theorem Kz {kind gen:Nat} {s:Bs} (h:s.length<=492):(jh kind gen s).length=512:=by
 unfold jh
 rw[oV (by rw[uC h,aU];omega),uC h]
theorem jU {p s:Bs} {i k:Nat} (hi:i=p.length) (hs:s.length<=k):fC (p++aW k) i s=(p++s)++aW (k-s.length):=by
 subst hi
 simp only[fC,qY,aW]
 rw[<-qv,qN,List.drop_replicate]
theorem pZ (a b:Nat):aW (a+b)=aW a++aW b:=by simp[aW]
def mM (kind gen len:Nat):Bs:=aO 18550 2++aO kind 1++aO 0 1++aO len 2++aO gen 6
theorem rK {kind gen len:Nat}:(mM kind gen len).length=12:=by simp[mM,aU]
theorem Gw {kind gen:Nat} {s:Bs} (h:s.length<=492):kD kind gen s=mM kind gen s.length++aW 8++s++aW (492-s.length):=by
 have l:∀x n,(aO x n).length=n:=fun x n=>aU n x
 have e0:aW 512=[]++aW 512:=rfl
 unfold kD
 rw[e0,jU (p:=[]) (i:=0) rfl (by rw[l];omega),jU (by simp[l]) (by rw[l,l];omega),jU (by simp[l]) (by rw[l,l,l];omega),jU (by simp[l]) (by rw[l,l,l,l];omega),jU (by simp[l]) (by rw[l,l,l,l,l];omega)]
 simp only[l]
 have e1:([]++aO 18550 2++aO kind 1++aO 0 1++aO s.length 2++aO gen 6)=mM kind gen s.length:=rfl
 rw[e1,show 512-2-1-1-2-6=8+492 by omega,pZ,<-zF,jU (by rw[zG,rK,dV]) (by omega)]
theorem xY {kind gen:Nat} {s:Bs} (h:s.length<=492):jh kind gen s=mM kind gen s.length++(aO (vY (kD kind gen s) 0 0) 4++(aW 4++(s++aW (492-s.length)))):=by
 unfold jh
 generalize vY (kD kind gen s) 0 0=x
 rw[Gw h,show aW 8=aW 4++aW 4 from pZ 4 4]
 have l:(aO x 4).length=4:=aU 4 x
 have lz:(aW 4).length=4:=dV
 have e1:mM kind gen s.length++(aW 4++aW 4)++s++aW (492-s.length)=mM kind gen s.length++(aW 4++(aW 4++(s++aW (492-s.length)))):=by simp only[zF]
 rw[e1]
 have e2:(mM kind gen s.length++(aW 4++(aW 4++(s++aW (492-s.length))))).take 12=mM kind gen s.length:=by rw[<-rK (kind:=kind) (gen:=gen) (len:=s.length),qY]
 have e3:(mM kind gen s.length++(aW 4++(aW 4++(s++aW (492-s.length))))).drop (12+4)=aW 4++(s++aW (492-s.length)):=by
  rw[<-qv,<-rK (kind:=kind) (gen:=gen) (len:=s.length),qN]
  have e:=qN (l₁:=aW 4) (l₂:=aW 4++(s++aW (492-s.length)))
  rw[lz]at e;exact e
 unfold fC
 rw[l,e2,e3]
 simp only[zF]
def mA (b:Bs):Option (Nat×Nat×Bs) :=
 if 492<aA ((b.drop 4).take 2) then none
 else if jh (aA ((b.drop 2).take 1)) (aA ((b.drop 6).take 6)) ((b.drop 20).take (aA ((b.drop 4).take 2)))=b then some (aA ((b.drop 2).take 1),aA ((b.drop 6).take 6),(b.drop 20).take (aA ((b.drop 4).take 2)))
 else none
theorem lV {a m c:Bs} {i n:Nat} (hi:a.length=i) (hn:m.length=n):((a++(m++c)).drop i).take n=m:=by
 subst hi;subst hn
 rw[qN,qY]
theorem KM {kind gen:Nat} {s:Bs} (hk:kind<=255) (hg:gen<=281474976710655) (h:s.length<=492):mA (jh kind gen s)=some (kind,gen,s):=by
 have l:∀x n,(aO x n).length=n:=fun x n=>aU n x
 have f:=xY (kind:=kind) (gen:=gen) h
 generalize aO (vY (kD kind gen s) 0 0) 4++(aW 4++(s++aW (492-s.length)))=z at f
 have e1:((jh kind gen s).drop 2).take 1=aO kind 1:=by
  rw[f,mM];simp only[zF]
  exact lV (l _ _) (l _ _)
 have e2:((jh kind gen s).drop 4).take 2=aO s.length 2:=by
  rw[f,mM,zF,zF,<-zF (aO s.length 2)]
  rw[zF (aO s.length 2)]
  exact lV (by simp[l]) (l _ _)
 have e3:((jh kind gen s).drop 6).take 6=aO gen 6:=by
  rw[f,mM,zF]
  exact lV (by simp[l]) (l _ _)
 have r1:aA (aO kind 1)=kind:=fp 1 kind (by omega)
 have r2:aA (aO s.length 2)=s.length:=fp 2 _ (by omega)
 have r3:aA (aO gen 6)=gen:=fp 6 _ (by omega)
 have e4:((jh kind gen s).drop 20).take s.length=s:=by
  rw[xY h,<-zF,<-zF]
  exact lV (by simp[rK,l,dV]) rfl
 unfold mA
 rw[e1,e2,e3,r1,r2,r3,e4,if_neg (by omega),if_pos rfl]
theorem f127 (kind gen:Nat) (s:Bs) (hk:kind<=255) (hg:gen<=281474976710655) (hs:s.length<=492) (hp nx) :
  aY E 127 [iV kind,iV gen,.str s] hp nx (.bE [.rs false 1 (bytesOf (jh kind gen s)) (some 512),iV 0]) hp nx .p:=by
 refine aD e127 rfl (by simp) ?_ hp nx
 have k1:¬((kind:Int)<0):=by omega
 have k2:¬((255:Int)<kind):=by omega
 have g1:¬((gen:Int)<0):=by omega
 have g2:¬((281474976710655:Int)<gen):=by omega
 have s1:¬((492:Int)<s.length):=by omega
 obtain ⟨h1,r1,a1,_⟩:=f85 cG 0
 obtain ⟨h2,r2,a2,_⟩:=f86 18550 2 (by omega) (by omega) h1 2 _ _ 0 _ (by omega) a1
 obtain ⟨h3,r3,a3,_⟩:=f86 kind 1 (by omega) (by omega) h2 2 _ _ _ _ (by omega) a2
 obtain ⟨h4,r4,a4,_⟩:=f86 0 1 (by omega) (by omega) h3 2 _ _ _ _ (by omega) a3
 obtain ⟨h5,r5,a5,_⟩:=f86 s.length 2 (by omega) (by omega) h4 2 _ _ _ _ (by omega) a4
 obtain ⟨h6,r6,a6,_⟩:=f86 gen 6 (by omega) (by omega) h5 2 _ _ _ _ (by omega) a5
 have a6':Mm (ab h6 1 (some [[.sl 0 1 0 512 (some 512),.v (.int .i64 (20:Nat))]])) 1 0 20 (fC (fC (fC (fC (fC (aW 512) 0 (aO 18550 2)) 2 (aO kind 1)) 3 (aO 0 1)) 4 (aO s.length 2)) 6 (aO gen 6)) :=
  ⟨by simp,by simp[a6.hq],a6.len,a6.ne⟩
 obtain ⟨h7,r7,a7,_⟩:=f87 s _ 2 _ _ _ _ (by omega) a6'
 have a7':Mm (ab h7 1 (some [[.sl 0 1 0 512 (some 512),.v (.int .i64 (12:Nat))]])) 1 0 12 (kD kind gen s):=⟨by simp,by simp[a7.hq,kD],a7.len,a7.ne⟩
 have yG:aY E 142 [.sl 0 1 0 512 (some 512)] (ab h7 1 (some [[.sl 0 1 0 512 (some 512),.v (.int .i64 (12:Nat))]])) 2 (.v (.int .u32 (vY (kD kind gen s) 0 0))) (ab h7 1 (some [[.sl 0 1 0 512 (some 512),.v (.int .i64 (12:Nat))]])) 2 .e:=by
  refine na (args0:=[.rs false 1 (bytesOf (kD kind gen s)) (some 512)]) ?_ rfl (abM _ (by rw[uC hs];omega) _ _ _)
  rw[br,mP a7'.hq a7'.len];rfl
 have az:=Ib (kD kind gen s) 0 0 (by omega)
 obtain ⟨h8,r8,a8,_⟩:=f86 (vY (kD kind gen s) 0 0) 4 (by omega) (by omega) _ 2 _ _ _ _ (by omega) a7'
 have vD:IntKind.wrap .i64 (vY (kD kind gen s) 0 0:Int)=(vY (kD kind gen s) 0 0:Int):=by rw[aj]<;>omega
 have q6:=a6.hw
 have q7:=a7.hw
 have q7':=a7'.hw
 have q8:=a8.hw
 have CU:=mP (k:=3) (c:=some 512) a8.hq a8.len
 simp[c127,k1,k2,g1,g2,s1]
 refine ae r1 ?_
 simp
 refine ae r2 ?_
 simp
 refine ae r3 ?_
 simp
 refine ae r4 ?_
 simp
 refine ae r5 ?_
 simp
 refine ae r6 ?_
 simp[q6,aa]
 refine ae r7 ?_
 simp[q7,aa]
 refine ae yG ?_
 simp[vD]
 refine ae r8 ?_
 simp[q8]
 refine rM ?_
 rw[br,CU,eB (by simp)]
 rfl
def Bk (b:Bs):AV:=match mA b with
 |some (k,g,s)=>.bE [.v (.int .i64 k),.v (.int .i64 g),.str s,.v (.int .i64 0)]
 |none=>.bE [.v (.int .i64 0),.v (.int .i64 0),.str [],.v (.int .i64 11)]
theorem rA {b:Bs} {i n m:Nat} (h:256 ^ n=m):aA ((b.drop i).take n)<m:=by
 have:=oT ((b.drop i).take n)
 have h2:256 ^ ((b.drop i).take n).length<=256 ^ n:=wv (by omega) (by simp;omega)
 omega
theorem vU {b:Bs} {l h:Nat}:bytesOf ((b.take h).drop l)=((bytesOf b).take h).drop l:=by simp[bytesOf,wR,wS]
theorem Ei {b:Bs} {i n:Nat} (hn:n<=7):aA ((b.drop i).take n)<72057594037927936:=by
 have:=oT ((b.drop i).take n)
 have h2:256 ^ ((b.drop i).take n).length<=256 ^ 7:=wv (by omega) (by simp;omega)
 omega
theorem f94 (b:Bs) (hb:b.length=512) (c:Option Nat) (hp nx):aY E 94 [.rs false 1 (bytesOf b) c] hp nx (Bk b) hp nx .p:=by
 refine aD e94 rfl (by simp[kQ]) ?_ hp nx
 have l1:=rA (b:=b) (i:=2) (n:=1) rfl
 have l2:=rA (b:=b) (i:=3) (n:=1) rfl
 have l3:=rA (b:=b) (i:=4) (n:=2) rfl
 have l4:=rA (b:=b) (i:=6) (n:=6) rfl
 have hl:(bytesOf b).length=512:=by rw[aJ,hb]
 have a1:ZB (ab cG 0 (some [[.rs false 1 (bytesOf b) c,.v (.int .i64 (2:Nat))]])) 0 2 b c:=⟨by simp⟩
 obtain ⟨h2,r2,a2,_⟩:=f91 1 (by omega) _ 1 0 _ b c (by omega) (by omega) (Ei (by omega)) a1
 obtain ⟨h3,r3,a3,_⟩:=f91 1 (by omega) _ 1 0 _ b c (by omega) (by omega) (Ei (by omega)) a2
 obtain ⟨h4,r4,a4,_⟩:=f91 2 (by omega) _ 1 0 _ b c (by omega) (by omega) (Ei (by omega)) a3
 obtain ⟨h5,r5,a5,_⟩:=f91 6 (by omega) _ 1 0 _ b c (by omega) (by omega) (Ei (by omega)) a4
 simp[c94,hl,aa]
 refine ae r2 ?_
 simp
 refine ae r3 ?_
 simp
 refine ae r4 ?_
 simp
 refine ae r5 ?_
 unfold Bk mA
 generalize hk:aA ((b.drop 2).take 1)=k at *
 generalize hn:aA ((b.drop 4).take 2)=n at *
 generalize hg:aA ((b.drop 6).take 6)=g at *
 by_cases aby:492<n
 ·have Of:(492:Int)<n:=by omega
  simp[aby,Of]
  exact aq (by simp)
 ·have Of:¬(492:Int)<n:=by omega
  have w1:IntKind.wrap .i64 (20+(n:Int))=((20+n:Nat):Int):=by rw[aj]<;>omega
  have BB:b9 1 (.rs false 1 (bytesOf b) c) (some (iV 20)) (some (iV (20+n:Nat))) none=some (.rs false 1 (bytesOf ((b.drop 20).take n)) (c.map (· - 20))):=by
   have W7:bV 512 512 (some (iV (20:Nat))) (some (iV (20+n:Nat))) none=some (20,20+n,none):=lW (by omega) (by omega)
   simp only[b9,or_true,if_true,hl]
   have e:(20:Int)=((20:Nat):Int):=rfl
   rw[e,W7]
   simp only[ef]
   congr 2
   rw[<-vU]
   congr 1
   rw[qt];congr 1;omega
  have hs:((b.drop 20).take n).length<=492:=by simp;omega
  generalize (b.drop 20).take n=s at *
  have r6:=f127 k g s (by omega) (by omega) hs
  have r7:=f92 (jh k g s) b (some 512) c
  simp[aby,Of,w1,BB,dI,-Int.natCast_add]
  refine ap (r6 _ _) ?_
  simp
  refine ap (r7 _ _) ?_
  by_cases he:jh k g s=b<;>(simp[he];exact aq (by simp))
def eo (gen:Nat) (s:Bs):Bs:=fC (fC (fC (fC (aW 512) 0 (aO gen 8)) 8 (aO s.length 2)) 10 s) 504 (aO gen 8)
theorem f55 (gen:Nat) (s:Bs) (hg:1<=gen) (hg2:gen<=2305843009213693952) (hs:s.length<=490) (hp nx) :
  aY E 55 [iV gen,.str s] hp nx (.bE [.rs false 1 (bytesOf (eo gen s)) (some 512),iV 0]) hp nx .p:=by
 refine aD e55 rfl (by simp) ?_ hp nx
 have g1:¬((gen:Int)<1):=by omega
 have g2:¬((4611686018427387904:Int)<gen):=by omega
 have s1:¬((490:Int)<s.length):=by omega
 obtain ⟨h1,r1,a1,_⟩:=f85 cG 0
 obtain ⟨h2,r2,a2,_⟩:=f86 gen 8 (by omega) (by omega) h1 2 _ _ 0 _ (by omega) a1
 obtain ⟨h3,r3,a3,_⟩:=f86 s.length 2 (by omega) (by omega) h2 2 _ _ _ _ (by omega) a2
 obtain ⟨h4,r4,a4,_⟩:=f87 s _ 2 _ _ _ _ (by omega) a3
 have a4':Mm (ab h4 1 (some [[.sl 0 1 0 512 (some 512),.v (.int .i64 (504:Nat))]])) 1 0 504 _:=⟨by simp,by simp[a4.hq],a4.len,a4.ne⟩
 obtain ⟨h5,r5,a5,_⟩:=f86 gen 8 (by omega) (by omega) _ 2 _ _ _ _ (by omega) a4'
 have q4:=a4.hw
 have q5:=a5.hw
 have CU:=mP (k:=3) (c:=some 512) a5.hq a5.len
 simp[c55,g1,g2,s1]
 refine ae r1 ?_
 simp
 refine ae r2 ?_
 simp
 refine ae r3 ?_
 simp
 refine ae r4 ?_
 simp[q4,aa]
 refine ae r5 ?_
 simp[q5]
 refine rM ?_
 rw[br,CU,eB (by simp)]
 rfl
theorem afw (s:Bs) (hp nx):aY E 55 [iV 0,.str s] hp nx (.bE [nS,iV 2]) hp nx .p:=by
 refine aD e55 rfl (by simp) ?_ hp nx
 simp[c55]
 exact aq (by simp)
def oZ (b:Bs):Option (Nat×Bs) :=
 if 490<aA ((b.drop 8).take 2)\/aA ((b.drop 0).take 8)=0 then none
 else if eo (aA ((b.drop 0).take 8)) ((b.drop 10).take (aA ((b.drop 8).take 2)))=b then some (aA ((b.drop 0).take 8),(b.drop 10).take (aA ((b.drop 8).take 2)))
 else none
def oY (b:Bs):AV:=match oZ b with
 |some (g,s)=>.bE [.v (.int .i64 g),.str s,.v (.int .i64 0)]
 |none=>.bE [.v (.int .i64 0),.str [],.v (.int .i64 11)]
theorem f64 (b:Bs) (hb:b.length=512) (hg:aA ((b.drop 0).take 8)<72057594037927936) (c:Option Nat) (hp nx):aY E 64 [.rs false 1 (bytesOf b) c] hp nx (oY b) hp nx .p:=by
 refine aD e64 rfl (by simp[kQ]) ?_ hp nx
 have l3:=rA (b:=b) (i:=8) (n:=2) rfl
 have hl:(bytesOf b).length=512:=by rw[aJ,hb]
 have a1:ZB (ab cG 0 (some [[.rs false 1 (bytesOf b) c,.v (.int .i64 (0:Nat))]])) 0 0 b c:=⟨by simp⟩
 obtain ⟨h2,r2,a2,_⟩:=f91 8 (by omega) _ 1 0 _ b c (by omega) (by omega) hg a1
 obtain ⟨h3,r3,a3,_⟩:=f91 2 (by omega) _ 1 0 _ b c (by omega) (by omega) (Ei (by omega)) a2
 simp only[Nat.zero_add,zb]at r2 r3 hg
 simp[c64,hl,aa]
 refine ae r2 ?_
 simp
 refine ae r3 ?_
 unfold oY oZ
 simp only[zb]
 generalize aA ((b.drop 8).take 2)=n at *
 generalize aA (b.take 8)=g at *
 by_cases Xi:490<n
 ·have I0:(490:Int)<n:=by omega
  simp[Xi,I0]
  exact aq (by simp)
 ·have I0:¬(490:Int)<n:=by omega
  have w1:IntKind.wrap .i64 (10+(n:Int))=((10+n:Nat):Int):=by rw[aj]<;>omega
  have BB:b9 1 (.rs false 1 (bytesOf b) c) (some (iV 10)) (some (iV (10+n:Nat))) none=some (.rs false 1 (bytesOf ((b.drop 10).take n)) (c.map (· - 10))):=by
   have W7:bV 512 512 (some (iV (10:Nat))) (some (iV (10+n:Nat))) none=some (10,10+n,none):=lW (by omega) (by omega)
   simp only[b9,or_true,if_true,hl]
   have e:(10:Int)=((10:Nat):Int):=rfl
   rw[e,W7]
   simp only[ef]
   congr 2
   rw[<-vU]
   congr 1
   rw[qt];congr 1;omega
  have hs:((b.drop 10).take n).length<=490:=by simp;omega
  generalize (b.drop 10).take n=s at *
  by_cases hz:g=0
  ·subst hz
   simp[Xi,I0,w1,BB,dI,-Int.natCast_add]
   refine ap (afw s _ _) ?_
   simp
   exact aq (by simp)
  ·have r6:=f55 g s (by omega) (by omega) hs
   have r7:=f92 (eo g s) b (some 512) c
   simp[Xi,I0,hz,w1,BB,dI,-Int.natCast_add]
   refine ap (r6 _ _) ?_
   simp
   refine ap (r7 _ _) ?_
   by_cases he:eo g s=b<;>(simp[he];exact aq (by simp))
theorem Bb {gen:Nat} {s:Bs} (h:s.length<=490):(eo gen s).length=512:=by
 have l:∀x n,(aO x n).length=n:=fun x n=>aU n x
 exact gI (gI (gI (gI dV (by rw[l];omega)) (by rw[l];omega)) (by omega)) (by rw[l];omega)
theorem Gz {gen:Nat} {s:Bs} (h:s.length<=490):eo gen s=aO gen 8++(aO s.length 2++(s++(aW (494-s.length)++aO gen 8))):=by
 have l:∀x n,(aO x n).length=n:=fun x n=>aU n x
 have e0:aW 512=[]++aW 512:=rfl
 unfold eo
 rw[e0,jU (p:=[]) (i:=0) rfl (by rw[l];omega),jU (by simp[l]) (by rw[l,l];omega),jU (by simp[l]) (by rw[l,l];omega)]
 simp only[l]
 have e1:512-8-2-s.length=(494-s.length)+8:=by omega
 rw[e1,pZ,<-zF,jU (by simp[l,dV];omega) (by rw[l];omega),l]
 simp[aW]
theorem yh {gen:Nat} {s:Bs} (hg:1<=gen) (hg2:gen<18446744073709551616) (h:s.length<=490):oZ (eo gen s)=some (gen,s)/\aA (((eo gen s).drop 0).take 8)=gen:=by
 have l:∀x n,(aO x n).length=n:=fun x n=>aU n x
 have f:=Gz (gen:=gen) h
 have e1:((eo gen s).drop 0).take 8=aO gen 8:=by rw[f];exact lV (a:=[]) rfl (l _ _)
 have e2:((eo gen s).drop 8).take 2=aO s.length 2:=by rw[f];exact lV (l _ _) (l _ _)
 have e3:((eo gen s).drop 10).take s.length=s:=by rw[f,<-zF];exact lV (by simp[l]) rfl
 have r1:aA (aO gen 8)=gen:=fp 8 _ (by omega)
 have r2:aA (aO s.length 2)=s.length:=fp 2 _ (by omega)
 refine ⟨?_,by rw[e1,r1]⟩
 unfold oZ
 rw[e1,e2,r1,r2,e3,if_neg (by omega),if_pos rfl]
theorem GM:oZ (aW 512)=none/\aA (((aW 512).drop 0).take 8)=0:=by
 have e:aA (((aW 512).drop 0).take 8)=0:=by
  have z:aW 512=[]++(aW 8++aW 504):=pZ 8 504
  have:((aW 512).drop 0).take 8=aW 8:=by rw[z];exact lV rfl dV
  rw[this];rfl
 exact ⟨by unfold oZ;rw[if_pos (.inr e)],e⟩
structure Fr (F:List Nat) (hp:Heap) (nx:Nat) (F':List Nat) (hp':Heap) (nx':Nat):Prop where
 le:nx<=nx'
 ah:∀r,r<nx->r∉F->hp' r=hp r
 sub:∀r∈F',r∈F\/nx<=r
theorem Fr.refl {F hp nx}:Fr F hp nx F hp nx:=⟨zD _,fun _ _ _=>rfl,fun _ h=>.inl h⟩
theorem Fr.trans {F hp nx F1 hp1 nx1 F2 aT ar} (h:Fr F hp nx F1 hp1 nx1) (k:Fr F1 hp1 nx1 F2 aT ar):Fr F hp nx F2 aT ar:=by
 refine ⟨wF h.le k.le,fun r h1 h2 => ?_,fun r hr => ?_⟩
 ·rw[k.ah r (zU h1 h.le) (fun e=>(h.sub r e).elim h2 (by omega)),h.ah r h1 h2]
 ·rcases k.sub r hr with hr|hr
  ·exact h.sub r hr
  ·exact .inr (wF h.le hr)
abbrev Wr:=Nat×Nat×Bs
def DT (x:Wr):List AV:=[iV x.1,.sl x.2.1 1 0 512 none]
def xX (r:Nat):List AV:=[.sl r 1 0 512 (some 512)]
def hJ (bY:List Bs) (ws:List Wr) (m:Nat):Bs:=ws.foldl (fun b x=>if x.1=m then x.2.2 else b) (bY.getD m [])
def dD (hp:Heap) (nx sz:Nat) (es:bN) (x:AV):Prop:=(es=[]/\x=nS)\/∃r,r<nx/\x=.sl r sz 0 es.length none/\hp r=some es
theorem dD.ah {hp hp':Heap} {nx nx' sz:Nat} {es:bN} {x:AV} (h:dD hp nx sz es x) (hn:nx<=nx') (hk:∀r∈bf x,hp' r=hp r):dD hp' nx' sz es x:=by
 rcases h with h|⟨r,h1,rfl,h2⟩
 ·exact .inl h
 ·exact .inr ⟨r,by omega,rfl,by rw[hk r (by simp),h2]⟩
theorem dD.len {hp:Heap} {nx sz:Nat} {es:bN} {x:AV} (h:dD hp nx sz es x):tM x=some (iV es.length):=by
 rcases h with ⟨rfl,rfl⟩|⟨r,_,rfl,_⟩<;>simp
theorem dD.one {hp:Heap} {nx sz:Nat} {es:bN} {x:AV} (h:dD hp nx sz es x):x.cells=[x]/\x.one=true:=by
 rcases h with ⟨rfl,rfl⟩|⟨r,_,rfl,_⟩<;>exact ⟨rfl,rfl⟩
theorem dD.xO {hp:Heap} {nx sz bytes:Nat} {es:bN} {x:AV} (h:dD hp nx sz es x) {new:bN} (bt:new≠[]) (hl:(es.length+new.length)*bytes<=140737488355328) :
  ∃hp',cI sz bytes x new hp nx=some (.sl nx sz 0 (es.length+new.length) none,hp',nx+1)/\hp' nx=some (es++new)/\∀q,q≠nx->q∉bf x->hp' q=hp q:=by
 have ho:cT hp nx sz es x:=by
  rcases h with ⟨rfl,rfl⟩|⟨r,h1,rfl,h2⟩
  ·exact cT.nil
  ·exact .inr ⟨r,h1,rfl,h2⟩
 obtain ⟨hp',h1,h2,_,h4⟩:=ho.xO (bytes:=bytes) bt hl
 exact ⟨hp',h1,h2,h4⟩
def bW (rd rs ra:Nat) (rb:List Nat) (w:AV) (ws:List Wr):List Nat:=rd::rs::ra::(rb++(bf w++ws.map (·.2.1)))
structure L7 (hp:Heap) (nx rd rs ra:Nat) (rb:List Nat) (w:AV) (bY:List Bs) (ws:List Wr) (steps:Int) (N:Nat):Prop where
 nd:(bW rd rs ra rb w ws).Nodup
 lt:∀r∈bW rd rs ra rb w ws,r<nx
 lC:hp rd=some [[.ptr rs 0 0,w,iV steps,.v (.int .i64 (-1)),.v (.bool false)]]
 Ay:hp rs=some [[.sl ra 1 0 N (some N)]]
 He:hp ra=some (rb.map xX)
 VM:rb.length=N
 CF:bY.length=N
 hN:N<=4096
 Ws:∀i (h:i<N) (h1:i<rb.length) (h2:i<bY.length),hp rb[i]=some (bytesOf bY[i])
 sec:∀s∈bY,s.length=512
 hw:dD hp nx 2 (ws.map DT) w
 Ll:∀x∈ws,x.1<N/\hp x.2.1=some (bytesOf x.2.2)/\x.2.2.length=512
def nZ (hp:Heap) (nx rd:Nat) (F:List Nat) (N:Nat) (view:Nat->Bs) (B:Nat):Prop :=
 ∃rs ra rb w bY ws steps,L7 hp nx rd rs ra rb w bY ws steps N/\F=bW rd rs ra rb w ws/\ws.length<=B/\∀m,m<N->view m=hJ bY ws m
theorem L7.ah {hp hp' nx nx' rd rs ra rb w bY ws steps N} (h:L7 hp nx rd rs ra rb w bY ws steps N) (hn:nx<=nx') (hk:∀r∈bW rd rs ra rb w ws,hp' r=hp r):L7 hp' nx' rd rs ra rb w bY ws steps N:=by
 have tT:∀r∈rb,hp' r=hp r:=fun r hr=>hk r (by simp[bW,hr])
 refine ⟨h.nd,fun r hr=>by have:=h.lt r hr;omega,by rw[hk rd (by simp[bW])];exact h.lC,by rw[hk rs (by simp[bW])];exact h.Ay,by rw[hk ra (by simp[bW])];exact h.He,h.VM,h.CF,h.hN,
  fun i a b c=>by rw[tT _ (zP b)];exact h.Ws i a b c,h.sec,h.hw.ah hn fun r hr=>hk r (by simp[bW,hr]),fun x hx => ?_⟩
 obtain ⟨a,b,c⟩:=h.Ll x hx
 exact ⟨a,by rw[hk _ (by simp only[bW,zH,zJ,wk];exact .inr (.inr (.inr (.inr (.inr ⟨x,hx,rfl⟩)))))];exact b,c⟩
theorem nZ.ah {hp hp' nx nx' rd F N view B} (h:nZ hp nx rd F N view B) (hn:nx<=nx') (hk:∀r∈F,hp' r=hp r):nZ hp' nx' rd F N view B:=by
 obtain ⟨rs,ra,rb,w,bY,ws,steps,h1,rfl,h3,h4⟩:=h
 exact ⟨rs,ra,rb,w,bY,ws,steps,h1.ah hn hk,rfl,h3,h4⟩
theorem nZ.more {hp nx rd F N view B B'} (h:nZ hp nx rd F N view B) (hb:B<=B'):nZ hp nx rd F N view B':=by
 obtain ⟨rs,ra,rb,w,bY,ws,steps,h1,rfl,h3,h4⟩:=h
 exact ⟨rs,ra,rb,w,bY,ws,steps,h1,rfl,by omega,h4⟩
theorem nZ.lt {hp nx rd F N view B} (h:nZ hp nx rd F N view B):∀r∈F,r<nx:=by
 obtain ⟨rs,ra,rb,w,bY,ws,steps,h1,rfl,h3,h4⟩:=h
 exact h1.lt
theorem f59 {nx rd rs:Nat} {h:Heap} {c:List AV} (hr:h rd=some [.ptr rs 0 0::c]):aY E 59 [.ptr rd 0 0] h nx (.v (.bool true)) h nx .e:=by
 refine dF e59 rfl ?_
 simp[c59,hr]
 exact fun r=>.inl rfl
theorem f60 {h:Heap} {nx rs ra N:Nat} {c:Option Nat} (hr:h rs=some [[.sl ra 1 0 N c]]) (at':Int):aY E 60 [.ptr rs 0 0,iV at'] h nx (.v (.bool (decide (0<=at')&&decide (at'<N)))) h nx .e:=by
 refine dF e60 rfl ?_
 by_cases h0:0<=at'
 ·simp[c60,hr,h0]
  exact fun r=>.inl rfl
 ·simp[c60,h0]
  exact fun r=>.inl rfl
theorem f90 {h:Heap} {nx rs ra N:Nat} {c:Option Nat} (hr:h rs=some [[.sl ra 1 0 N c]]):aY E 90 [.ptr rs 0 0] h nx (iV N) h nx .e:=by
 refine dF e90 rfl ?_
 simp[c90,hr]
 exact fun r=>.inl rfl
theorem f63 {hp nx rd F N view B} (h:nZ hp nx rd F N view B):aY E 63 [.ptr rd 0 0] hp nx (iV N) hp nx .e:=by
 obtain ⟨rs,ra,rb,w,bY,ws,steps,h1,rfl,h3,h4⟩:=h
 have r1:=f59 (nx:=nx) h1.lC
 have r2:=f90 (nx:=nx) h1.Ay
 have q:=h1.lC
 refine dF e63 rfl ?_
 simp[c63]
 refine ae r1 ?_
 simp[q]
 refine ae r2 ?_
 simp
 exact fun r=>.inl rfl
theorem f61 {hp:Heap} {nx rd rs:Nat} {w:AV} {steps:Int} (h:hp rd=some [[.ptr rs 0 0,w,iV steps,.v (.int .i64 (-1)),.v (.bool false)]]) :
  ∃hp' ku,aY E 61 [.ptr rd 0 0] hp nx (iV 0) hp' nx .e/\hp' rd=some [[.ptr rs 0 0,w,iV ku,.v (.int .i64 (-1)),.v (.bool false)]]/\∀r,r≠rd->hp' r=hp r:=by
 have main:=an (P:=fun v hp' nx'=>v=iV 0/\nx'=nx/\hp' rd=some [[.ptr rs 0 0,w,.v (.int .i64 (IntKind.wrap .i64 (steps+1))),.v (.int .i64 (-1)),.v (.bool false)]]/\∀r,r≠rd->hp' r=hp r) e61 (args:=[.ptr rd 0 0]) rfl (hp:=hp) (nx:=nx) ?_
 ·obtain ⟨v,hp',nx',h1,rfl,rfl,h2,h3⟩:=main
  exact ⟨hp',_,h1,h2,h3⟩
 ·simp[c61,h,aa]
  exact fun r hr=>by simp[hr]
theorem Db {rd rs ra:Nat} {rb:List Nat} {w:AV} {ws:List Wr}:(rd::rs::ra::(rb++ws.map (·.2.1))).Sublist (bW rd rs ra rb w ws) :=
 .cons_cons _ (.cons_cons _ (.cons_cons _ (List.Sublist.append (List.Sublist.refl _) (List.sublist_append_right _ _))))
theorem OG {nx rd rs ra:Nat} {rb:List Nat} {w:AV} {ws:List Wr} (h:(bW rd rs ra rb w ws).Nodup) (az:∀r∈bW rd rs ra rb w ws,r<nx) (n at':Nat) (s:Bs):(bW rd rs ra rb (.sl (nx+1) 2 0 n none) (ws++[(at',nx,s)])).Nodup:=by
 have p:(bW rd rs ra rb (.sl (nx+1) 2 0 n none) (ws++[(at',nx,s)])).Perm ((nx+1)::nx::(rd::rs::ra::(rb++ws.map (·.2.1)))):=by
  refine qh.2 fun a => ?_
  simp only[bW,xW,zg,wI,qi,List.count_append,List.count_cons,List.count_nil]
  omega
 refine p.nodup_iff.2 ?_
 have hl:∀r∈rd::rs::ra::(rb++ws.map (·.2.1)),r<nx:=fun r hr=>az r (Db.subset hr)
 rw[zp,zp]
 refine ⟨fun e => ?_,fun e=>by have:=hl _ e;omega,h.sublist Db⟩
 rcases zH.1 e with e|e
 ·omega
 ·have:=hl _ e;omega
theorem oK {bY:List Bs} {ws:List Wr} {x:Wr} {m:Nat}:hJ bY (ws++[x]) m=if x.1=m then x.2.2 else hJ bY ws m:=by simp[hJ]
theorem f30 {hp:Heap} {nx rd:Nat} {F:List Nat} {N:Nat} {view:Nat->Bs} {B:Nat} (h:nZ hp nx rd F N view B) {at':Nat} (ha:at'<N) {x:AV} {s:Bs} (hx:tM x=some (iV 512)) (hl:s.length=512) (he:∀hp',(∀r,r<nx->r∉F->hp' r=hp r)->aR hp' 1 x=some (bytesOf s)) (hB:B<=1000000000) :
  ∃hp' nx' F',aY E 30 [.ptr rd 0 0,iV at',x] hp nx (iV 0) hp' nx' .e/\nZ hp' nx' rd F' N (fun m=>if m=at' then s else view m) (B+1)/\Fr F hp nx F' hp' nx':=by
 have main:=an (P:=fun v hp' nx'=>v=iV 0/\∃F',nZ hp' nx' rd F' N (fun m=>if m=at' then s else view m) (B+1)/\Fr F hp nx F' hp' nx') e30 (args:=[.ptr rd 0 0,iV at',x]) rfl (hp:=hp) (nx:=nx) ?_
 ·obtain ⟨v,hp',nx',h1,rfl,F',h2,h3⟩:=main
  exact ⟨hp',nx',F',h1,h2,h3⟩
 ·obtain ⟨rs,ra,rb,w,bY,ws,steps,h1,rfl,h3,h4⟩:=h
  have r1:=f59 (nx:=nx) h1.lC
  have r2:=f60 (nx:=nx) h1.Ay at'
  obtain ⟨hp1,ku,r3,q3,k3⟩:=f61 (nx:=nx) h1.lC
  have q:=h1.lC
  have YJ:(decide (0<=(at':Int))&&decide ((at':Int)<N))=true:=by simp;omega
  rw[YJ]at r2
  have mg:rd∈bW rd rs ra rb w ws:=by simp[bW]
  have az:=h1.lt
  have w8:=h1.nd
  simp only[bW,zp,zH,not_or]at w8
  obtain ⟨⟨d1,d2,d3⟩,⟨d4,d5⟩,d6,d7⟩:=w8
  have Yx:∀r∈bf w,r≠rd:=fun r hr e=>d3 (by rw[<-e];simp[hr])
  have agx:rd<nx:=az rd mg
  have vD:dD hp1 nx 2 (ws.map DT) w:=h1.hw.ah (zD _) fun r hr=>k3 r (Yx r hr)
  have mq:dD (ab hp1 nx (some (bytesOf s))) (nx+1) 2 (ws.map DT) w:=vD.ah (by omega) fun r hr=>by
   have:=az r (by simp[bW,hr]);simp[show ¬r=nx by omega]
  obtain ⟨aT,a1,a2,a3⟩:=mq.xO (bytes:=32) (new:=[DT (at',nx,s)]) (by simp) (by simp;omega)
  have sW:aR hp1 1 x=some (bytesOf s):=he hp1 fun r hr hF=>k3 r (fun e=>hF (by rw[e];exact mg))
  have bt:¬(bytesOf s).length=0:=by rw[aJ,hl];omega
  have abv:cI 1 1 (.rs false 1 [] (some 0)) (bytesOf s) hp1 nx=some (.sl nx 1 0 512 none,ab hp1 nx (some (bytesOf s)),nx+1):=by
   simp[cI,aJ,hl]
  have aeE:aT rd=some [[.ptr rs 0 0,w,iV ku,.v (.int .i64 (-1)),.v (.bool false)]]:=by
   rw[a3 rd (by omega) (fun e=>Yx rd e rfl)];simp[show ¬rd=nx by omega,q3]
  have T6:(ws.map DT).length=ws.length:=by simp
  simp[c30]
  refine ae r1 ?_
  simp[hx,q]
  refine ae r2 ?_
  simp
  refine ae r3 ?_
  have abu:cI 2 32 w [[iV at',.sl nx 1 0 512 none]] (ab hp1 nx (some (bytesOf s))) (nx+1)=some (.sl (nx+1) 2 0 (ws.length+1) none,aT,nx+1+1):=by
   rw[T6]at a1;exact a1
  have NF:ab hp1 nx (some (bytesOf s)) rd=some [[.ptr rs 0 0,w,iV ku,.v (.int .i64 (-1)),.v (.bool false)]]:=by simp[show ¬rd=nx by omega,q3]
  have Hn:∀(h:Heap) (es:bN) (c:Option Nat),aR h 2 (.rs false 2 es c)=some es:=fun _ _ _=>rfl
  simp[q3,bu,sW,mD,abv,aa,Hn,abu,aeE,show ¬rd=nx by omega,AV.one]
  generalize hG:ab aT rd (some [[.ptr rs 0 0,.sl (nx+1) 2 0 (ws.length+1) none,iV ku,.v (.int .i64 (-1)),.v (.bool false)]])=kr
  have hk:∀r,r<nx->r≠rd->r∉bf w->kr r=hp r:=fun r u1 u2 u3=>by
   rw[<-hG];simp only[cg,u2,if_false]
   rw[a3 r (by omega) u3];simp only[cg,show ¬r=nx by omega,if_false];exact k3 r u2
  have hfx:∀r∈rs::ra::(rb++ws.map (·.2.1)),kr r=hp r:=fun r hr=>by
   have oA:(rd::rs::ra::(rb++ws.map (·.2.1))).Sublist (bW rd rs ra rb w ws):=Db
   have yN:=az r (oA.subset (by simp only[zH]at hr ⊢;exact .inr hr))
   have hn:=h1.nd
   have p:(bW rd rs ra rb w ws).Perm (bf w++(rd::rs::ra::(rb++ws.map (·.2.1)))):=by
    refine qh.2 fun a => ?_
    simp only[bW,List.count_append,List.count_cons]
    omega
   rw[p.nodup_iff,zq]at hn
   refine hk r yN (fun e => ?_) (fun e=>hn.2.2 r e r (by simp only[zH]at hr ⊢;exact .inr hr) rfl)
   have:=(zp.1 hn.2.1).1
   rw[e]at hr;exact this hr
  refine ⟨bW rd rs ra rb (.sl (nx+1) 2 0 (ws.length+1) none) (ws++[(at',nx,s)]),⟨rs,ra,rb,_,bY,_,ku,⟨OG h1.nd az _ _ _,fun r hr => ?_,?_,?_,?_,h1.VM,h1.CF,h1.hN,fun i u1 u2 u3 => ?_,h1.sec,.inr ⟨nx+1,by omega,by simp,?_⟩,fun y hy => ?_⟩,rfl,by simp;omega,fun m hm => ?_⟩,⟨by omega,fun r u1 u2 => ?_,fun r hr => ?_⟩⟩
  ·simp only[bW,xW,zH,zJ,zg,wI,qi,wO,or_false]at hr
   rcases hr with hr|hr|hr|hr|hr|hr|hr
   ·omega
   ·have:=az r (by simp[bW,hr]);omega
   ·have:=az r (by simp[bW,hr]);omega
   ·have:=az r (by simp[bW,hr]);omega
   ·omega
   ·have:=az r (by simp only[bW,zH,zJ];exact .inr (.inr (.inr (.inr (.inr hr)))));omega
   ·omega
  ·rw[<-hG];simp
  ·rw[hfx rs (by simp)];exact h1.Ay
  ·rw[hfx ra (by simp)];exact h1.He
  ·rw[hfx _ (by simp)];exact h1.Ws i u1 u2 u3
  ·rw[<-hG];simp only[cg,show ¬nx+1=rd by omega,if_false,a2];simp[DT]
  ·rcases zJ.1 hy with hy|hy
   ·obtain ⟨b1,b2,b3⟩:=h1.Ll y hy
    refine ⟨b1,?_,b3⟩
    rw[hfx _ (by simp only[zH,zJ,wk];exact .inr (.inr (.inr ⟨y,hy,rfl⟩)))];exact b2
   ·simp only[wo]at hy;subst hy
    refine ⟨ha,?_,hl⟩
    rw[<-hG]
    simp only[cg,show ¬nx=rd by omega,if_false]
    rw[a3 nx (by omega) (fun e=>by have:=az nx (by simp[bW,e]);omega)]
    simp
  ·show (if m=at' then s else view m)=_
   rw[oK,h4 m hm]
   by_cases e:m=at'
   ·rw[if_pos e,if_pos e.symm]
   ·rw[if_neg e,if_neg (Ne.symm e)]
  ·have YA:r≠rd:=fun e=>u2 (by rw[e];exact mg)
   exact hk r u1 YA fun e=>u2 (by simp[bW,e])
  ·simp only[bW,xW,zH,zJ,zg,wI,qi,wO,or_false]at hr ⊢
   rcases hr with hr|hr|hr|hr|hr|hr|hr
   ·exact .inl (.inl hr)
   ·exact .inl (.inr (.inl hr))
   ·exact .inl (.inr (.inr (.inl hr)))
   ·exact .inl (.inr (.inr (.inr (.inl hr))))
   ·exact .inr (by omega)
   ·exact .inl (.inr (.inr (.inr (.inr (.inr hr)))))
   ·exact .inr (by omega)
theorem xV {α:Type} {P:List α->Prop} (h0:P []) (h1:∀l a,P l->P (l++[a])) (l:List α):P l:=by
 rw[<-l.reverse_reverse]
 generalize l.reverse=m
 induction m with
 |nil=>exact h0
 |cons a m ih=>rw[List.reverse_cons];exact h1 _ _ ih
theorem Ki {bY:List Bs} {m:Nat} (ws:List Wr):(∀x∈ws,x.1≠m)->hJ bY ws m=bY.getD m [] :=
 xV (P:=fun ws=>(∀x∈ws,x.1≠m)->hJ bY ws m=bY.getD m []) (fun _=>rfl) (fun ws x ih h=>by rw[oK,if_neg (h x (by simp))];exact ih fun y hy=>h y (by simp[hy])) ws
theorem Rn {bY:List Bs} {m:Nat} {x:Wr} {ws1:List Wr} (hx:x.1=m) (Rm:List Wr):(∀y∈Rm,y.1≠m)->hJ bY (ws1++x::Rm) m=x.2.2 :=
 xV (P:=fun Rm=>(∀y∈Rm,y.1≠m)->hJ bY (ws1++x::Rm) m=x.2.2) (fun _=>by rw[oK,if_pos hx]) (fun Rm y ih h=>by
  have e:ws1++x::(Rm++[y])=(ws1++x::Rm)++[y]:=by simp
  rw[e,oK,if_neg (h y (by simp))];exact ih fun y hy=>h y (by simp[hy])) Rm
theorem Mp {bY:List Bs} {m:Nat} (hm:(bY.getD m []).length=512) (ws:List Wr):(∀x∈ws,x.2.2.length=512)->(hJ bY ws m).length=512 :=
 xV (P:=fun ws=>(∀x∈ws,x.2.2.length=512)->(hJ bY ws m).length=512) (fun _=>hm) (fun ws x ih h=>by
  rw[oK];split
  ·exact h x (by simp)
  ·exact ih fun y hy=>h y (by simp[hy])) ws
theorem f29 {hp:Heap} {nx rd:Nat} {F:List Nat} {N:Nat} {view:Nat->Bs} {B:Nat} (h:nZ hp nx rd F N view B) {at':Nat} (ha:at'<N) (hB:B<=1000000000) :
  aY E 29 [.ptr rd 0 0,iV at'] hp nx (.bE [.sl nx 1 0 512 none,iV 0]) (ab hp nx (some (bytesOf (view at')))) (nx+1) .e/\(view at').length=512:=by
 obtain ⟨rs,ra,rb,w,bY,ws,steps,h1,rfl,h3,h4⟩:=h
 have fa:(hJ bY ws at').length=512:=Mp (by
  simp only[List.getD_eq_getElem?_getD,zA (show at'<bY.length by rw[h1.CF];exact ha),wJ]
  exact h1.sec _ (zP _)) ws fun x hx=>(h1.Ll x hx).2.2
 rw[h4 at' ha]
 refine ⟨?_,fa⟩
 have r1:=f59 (nx:=nx) h1.lC
 have r2:=f60 (nx:=nx) h1.Ay at'
 have q:=h1.lC
 have YJ:(decide (0<=(at':Int))&&decide ((at':Int)<N))=true:=by simp;omega
 rw[YJ]at r2
 have hw:=h1.hw
 have T6:=hw.len
 simp only[zZ]at T6
 have w0:IntKind.wrap .i64 ((ws.length:Int)-1)=(ws.length:Int)-1:=by rw[aj]<;>omega
 refine dF e29 rfl ?_
 simp[c29]
 refine ae r1 ?_
 simp[q]
 refine ae r2 ?_
 simp[q,T6,w0]
 refine aM (I:=fun (k:Nat) s=>k<=ws.length/\s.tm 6=.v (.int .i64 ((ws.length:Int)-1-k))/\s.tm 0=.ptr rd 0 0/\s.tm 1=iV at'/\(∀x∈ws.drop (ws.length-k),x.1≠at')/\s.hp=hp/\s.nx=nx)
  (fun k=>ws.length-k) 0 (by simp) ?_
 rintro k tm hp1 nx1 ⟨hk,t6,t0,t1,hd,e1,e2⟩
 simp only at t6 t0 t1 hd e1 e2
 subst e1 e2
 by_cases az:k<ws.length
 ·have hi:ws.length-1-k<ws.length:=by omega
  have h6:(ws.length:Int)-1-k=((ws.length-1-k:Nat):Int):=by omega
  rw[h6]at t6
  obtain ⟨r,hr,rfl,Ay⟩:∃r,r<nx1/\w=.sl r 2 0 (ws.map DT).length none/\hp1 r=some (ws.map DT):=by
   rcases hw with ⟨e,_⟩|h
   ·have:ws=[]:=by simpa using e
    rw[this]at az;simp at az
   ·exact h
  have hg:(ws.map DT)[ws.length-1-k]?=some (DT ws[ws.length-1-k]):=by simp[hi]
  have tl:ws.drop (ws.length-(k+1))=ws[ws.length-1-k]::ws.drop (ws.length-k):=by
   have:=zO hi
   rw[show ws.length-1-k+1=ws.length-k by omega]at this
   rw[show ws.length-(k+1)=ws.length-1-k by omega];exact this
  have Ll:=h1.Ll ws[ws.length-1-k] (zP hi)
  have w1:IntKind.wrap .i64 (((ws.length-1-k:Nat):Int)-1)=(ws.length:Int)-1-(k+1:Nat):=by
   have e:((ws.length-1-k:Nat):Int)=ws.length-1-k:=by omega
   rw[e,aj]<;>omega
  have bn:((ws.length-1-k:Nat):Int)<(ws.length:Int):=by omega
  generalize hx:ws[ws.length-1-k]=x at *
  by_cases he:x.1=at'
  ·have hv:hJ bY ws at'=x.2.2:=by
    have e:ws=ws.take (ws.length-1-k)++x::ws.drop (ws.length-k):=by
     rw[<-tl,show ws.length-(k+1)=ws.length-1-k by omega,zy]
    rw[e]
    exact Rn he _ (fun y hy=>hd y hy)
   have sW:aR hp1 1 (.sl x.2.1 1 0 512 none)=some (bytesOf x.2.2):=by
    have:(bytesOf x.2.2).take 512=bytesOf x.2.2:=zI (by rw[aJ,Ll.2.2];exact zD _)
    simp only[aR,if_true,Ll.2.1,aJ,Ll.2.2,Nat.zero_add,zD,zb,this]
   have sX:cI 1 1 (.rs false 1 [] (some 0)) (bytesOf x.2.2) hp1 nx1=some (.sl nx1 1 0 512 none,ab hp1 nx1 (some (bytesOf x.2.2)),nx1+1):=by
    simp[cI,aJ,Ll.2.2]
   have Q3:(x.1:Int)=at':=by omega
   simp[t6,t0,t1,q,bn,Ay,hg,DT,Q3,bu,sW,mD,sX,hv,-Int.ofNat_lt]
   exact fun r=>.inl rfl
  ·have Q3:¬(x.1:Int)=at':=by omega
   simp[t6,t0,t1,q,bn,Ay,hg,DT,Q3,w1,-Int.ofNat_lt]
   refine ⟨k+1,by omega,by omega,by simp,fun a b c hy => ?_⟩
   rw[tl]at hy
   rcases zH.1 hy with e|hy
   ·rw[<-e]at he;exact he
   ·exact hd _ hy
 ·have:k=ws.length:=by omega
  subst this
  have:(ws.length:Int)-1-ws.length = -1:=by omega
  rw[this]at t6
  have hv:hJ bY ws at'=bY.getD at' []:=Ki ws fun x hx=>hd x (by simpa using hx)
  have fN:at'<bY.length:=by rw[h1.CF];exact ha
  have aba:at'<rb.length:=by rw[h1.VM];exact ha
  have hgs:bY.getD at' []=bY[at']:=by simp[fN]
  have hl:=h1.sec _ (zP fN)
  have hb:=h1.Ws at' ha aba fN
  have Ay:=h1.Ay
  have He:=h1.He
  have EW:(rb.map xX)[at']?=some (xX rb[at']):=by simp[aba]
  have afi:(at':Int)<(N:Int):=by omega
  have sW:aR hp1 1 (.sl rb[at'] 1 0 512 (some 512))=some (bytesOf bY[at']):=by
   have:(bytesOf bY[at']).take 512=bytesOf bY[at']:=zI (by rw[aJ,hl];exact zD _)
   simp only[aR,if_true,hb,aJ,hl,Nat.zero_add,zD,zb,this]
  have sX:cI 1 1 (.rs false 1 [] (some 0)) (bytesOf bY[at']) hp1 nx1=some (.sl nx1 1 0 512 none,ab hp1 nx1 (some (bytesOf bY[at'])),nx1+1):=by
   simp[cI,aJ,hl]
  simp[t6,t0,t1,q,Ay,He,EW,xX,afi,bu,sW,mD,sX,hv,zA fN,-Int.ofNat_lt]
  exact fun r=>.inl rfl
theorem aG {h:Heap} {a:Nat} {x y:Option bN}:ab (ab h a x) a y=ab h a y:=by
 funext r;simp only[cg];split<;>rfl
theorem L7.parts {hp nx rd rs ra rb w bY ws steps N} (h:L7 hp nx rd rs ra rb w bY ws steps N):rd≠rs/\rd≠ra/\rs≠ra/\(∀r∈rb,r≠rd/\r≠rs/\r≠ra/\r∉bf w/\∀x∈ws,x.2.1≠r)/\rb.Nodup/\(∀r∈bf w,r≠rd/\r≠rs/\r≠ra)/\(∀x∈ws,x.2.1≠rd/\x.2.1≠rs/\x.2.1≠ra):=by
 have w8:=h.nd
 simp only[bW,zp,zH,zJ,not_or,zq]at w8
 obtain ⟨⟨d1,d2,d3,I7,Fv⟩,⟨d4,d5,d5',afE⟩,⟨d6,d6',afD⟩,d7,⟨d8,d9,d10⟩,d11⟩:=w8
 have hm:∀x∈ws,x.2.1∈ws.map (·.2.1):=fun x hx=>wk.2 ⟨x,hx,rfl⟩
 refine ⟨d1,d2,d4,fun r hr=>⟨fun e=>d3 (e▸hr),fun e=>d5 (e▸hr),fun e=>d6 (e▸hr),fun e=>d11 r hr r (.inl e) rfl,fun x hx e=>d11 r hr x.2.1 (.inr (hm x hx)) e.symm⟩,d7,fun r hr=>⟨fun e=>I7 (e▸hr),fun e=>d5' (e▸hr),fun e=>d6' (e▸hr)⟩,
  fun x hx=>⟨fun e=>Fv (e▸hm x hx),fun e=>afE (e▸hm x hx),fun e=>afD (e▸hm x hx)⟩⟩
theorem L7.Ve {hp nx rd rs ra rb w bY ws steps N} (h:L7 hp nx rd rs ra rb w bY ws steps N) {a:Nat} {s:Bs} (ha:a<N) (Hs:a<rb.length) (hs:s.length=512):L7 (ab hp rb[a] (some (bytesOf s))) nx rd rs ra rb w (bY.set a s) ws steps N:=by
 obtain ⟨p1,p2,p3,p4,p5,p6,p7⟩:=h.parts
 obtain ⟨q1,q2,q3,q4,q5⟩:=p4 _ (zP Hs)
 have hk:∀r,r≠rb[a]->ab hp rb[a] (some (bytesOf s)) r=hp r:=fun r hr=>by simp[hr]
 refine ⟨h.nd,h.lt,by rw[hk _ (Ne.symm q1)];exact h.lC,by rw[hk _ (Ne.symm q2)];exact h.Ay,by rw[hk _ (Ne.symm q3)];exact h.He,h.VM,by simp[h.CF],h.hN,fun i i1 i2 i3 => ?_,fun y hy => ?_,h.hw.ah (zD _) fun r hr=>hk r fun e=>q4 (e▸hr),fun x hx => ?_⟩
 ·by_cases e:i=a
  ·subst e;simp
  ·have bt:rb[i]≠rb[a]:=fun e2=>e ((List.getElem_inj p5).1 e2)
   rw[hk _ bt,List.getElem_set_ne (Ne.symm e)]
   exact h.Ws i i1 i2 (by simpa using i3)
 ·rcases List.mem_or_eq_of_mem_set hy with hy|rfl
  ·exact h.sec y hy
  ·exact hs
 ·obtain ⟨a1,a2,a3⟩:=h.Ll x hx
  exact ⟨a1,by rw[hk _ (q5 x hx)];exact a2,a3⟩
theorem f88 {hp:Heap} {nx rd rs ra:Nat} {rb:List Nat} {w:AV} {bY:List Bs} {ws:List Wr} {steps:Int} {N:Nat} (h:L7 hp nx rd rs ra rb w bY ws steps N) {x:Wr} (hx:x∈ws) {k:Nat} (hk:k=x.1) (h0:k<rb.length) :
  aY E 88 [.ptr rs 0 0,iV x.1,.sl x.2.1 1 0 512 none] hp nx (.bE []) (ab hp rb[k] (some (bytesOf x.2.2))) nx .e:=by
 subst hk
 obtain ⟨a1,a2,a3⟩:=h.Ll x hx
 have Ay:=h.Ay
 have He:=h.He
 have BB:x.1<bY.length:=by rw[h.CF];exact a1
 have hb:=h.Ws x.1 a1 h0 BB
 have hl:=h.sec _ (zP BB)
 have EW:(rb.map xX)[x.1]?=some (xX rb[x.1]):=by simp[h0]
 have Hq:(x.1:Int)<(N:Int):=by omega
 have sW:aR hp 1 (.sl x.2.1 1 0 512 none)=some (bytesOf x.2.2):=by
  have:(bytesOf x.2.2).take 512=bytesOf x.2.2:=zI (by rw[aJ,a3];exact zD _)
  simp only[aR,if_true,a2,aJ,a3,Nat.zero_add,zD,zb,this]
 have vI:=Ja (nx:=nx) (i:=0) (n:=512) (c:=some 512) sW hb (by omega) (by omega)
 have hpb:fC bY[x.1] 0 x.2.2=x.2.2:=by simp[fC,a3,hl]
 rw[hpb]at vI
 refine dF e88 rfl ?_
 simp[c88,Ay,He,EW,xX,Hq,vI,-Int.ofNat_lt]
 exact fun r=>.inl rfl
theorem Mo {bY:List Bs} {x:Wr} {ws:List Wr} {m:Nat} (h:x.1<bY.length):hJ (bY.set x.1 x.2.2) ws m=hJ bY (x::ws) m:=by
 simp only[hJ,jD]
 congr 1
 by_cases e:x.1=m
 ·subst e;simp[h]
 ·rw[if_neg e];simp[we e]
theorem f57 {hp:Heap} {nx rd:Nat} {F:List Nat} {N:Nat} {view:Nat->Bs} {B:Nat} (h:nZ hp nx rd F N view B) (hB:B<=1000000000) :
  ∃hp' nx' F',aY E 57 [.ptr rd 0 0] hp nx (iV 0) hp' nx' .e/\nZ hp' nx' rd F' N view 0/\Fr F hp nx F' hp' nx':=by
 have main:=an (P:=fun v hp' nx'=>v=iV 0/\∃F',nZ hp' nx' rd F' N view 0/\Fr F hp nx F' hp' nx') e57 (args:=[.ptr rd 0 0]) rfl (hp:=hp) (nx:=nx) ?_
 ·obtain ⟨v,hp',nx',h1,rfl,F',h2,h3⟩:=main
  exact ⟨hp',nx',F',h1,h2,h3⟩
 ·obtain ⟨rs,ra,rb,w,bY,ws,steps,h1,rfl,h3,h4⟩:=h
  have r1:=f59 (nx:=nx) h1.lC
  obtain ⟨hp1,ku,r3,q3,k3⟩:=f61 (nx:=nx) h1.lC
  have mg:rd∈bW rd rs ra rb w ws:=by simp[bW]
  obtain ⟨p1,p2,p3,p4,p5,p6,p7⟩:=h1.parts
  have T6:=h1.hw.len
  simp only[zZ]at T6
  have Q6:L7 hp1 nx rd rs ra rb w bY ws ku N:=by
   refine ⟨h1.nd,h1.lt,q3,by rw[k3 _ (Ne.symm p1)];exact h1.Ay,by rw[k3 _ (Ne.symm p2)];exact h1.He,h1.VM,h1.CF,h1.hN,fun i a b c=>by rw[k3 _ (p4 _ (zP b)).1];exact h1.Ws i a b c,h1.sec,h1.hw.ah (zD _) fun r hr=>k3 r (p6 r hr).1,fun x hx => ?_⟩
   obtain ⟨a,b,c⟩:=h1.Ll x hx
   exact ⟨a,by rw[k3 _ (p7 x hx).1];exact b,c⟩
  have hf1:Fr (bW rd rs ra rb w ws) hp nx (bW rd rs ra rb w ws) hp1 nx:=⟨zD _,fun r _ hr=>k3 r fun e=>hr (e▸mg),fun r hr=>.inl hr⟩
  simp[c57]
  refine ae r1 ?_
  simp
  refine ae r3 ?_
  simp[q3,T6]
  refine aM (I:=fun (j:Nat) s=>j<=ws.length/\s.tm 18=iV j/\s.tm 17=iV ws.length/\s.tm 16=w/\s.tm 0=.ptr rd 0 0/\s.tm 3=iV 0/\(∃A9,L7 s.hp s.nx rd rs ra rb w A9 ws ku N/\∀m,hJ A9 (ws.drop j) m=hJ bY ws m)/\Fr (bW rd rs ra rb w ws) hp nx (bW rd rs ra rb w ws) s.hp s.nx)
   (fun j=>ws.length-j) 0 ?_ ?_
  ·simp
   exact ⟨⟨bY,Q6,fun m=>rfl⟩,hf1⟩
  ·rintro j tm aT ar ⟨hj,t18,t17,t16,t0,t3,⟨A9,BH,Ma⟩,hf2⟩
   simp only at t18 t17 t16 t0 t3 BH hf2
   by_cases az:j<ws.length
   ·have hxm:ws[j]∈ws:=zP az
    obtain ⟨a1,a2,a3⟩:=BH.Ll _ hxm
    have tl:=zO az
    obtain ⟨r,hr,Yv,Ay⟩:∃r,r<ar/\w=.sl r 2 0 (ws.map DT).length none/\aT r=some (ws.map DT):=by
     rcases BH.hw with ⟨e,_⟩|h
     ·have:ws=[]:=by simpa using e
      rw[this]at az;simp at az
     ·exact h
    have hg:(ws.map DT)[j]?=some (DT ws[j]):=by simp[az]
    generalize hx:ws[j]=x at *
    rw[Yv]at t16
    have W6:L7 (ab aT ar (some [[iV x.1,.sl x.2.1 1 0 512 none]])) (ar+1) rd rs ra rb w A9 ws ku N:=BH.ah (by omega) fun r hr=>by
     have:=BH.lt r hr;simp[show ¬r=ar by omega]
    have aaV:x.1<rb.length:=by rw[BH.VM];exact a1
    have r4:=f88 W6 hxm rfl aaV
    have hd3:=W6.Ve a1 aaV a3
    have w1:IntKind.wrap .i64 ((j:Int)+1)=((j+1:Nat):Int):=by rw[aj]<;>omega
    have AP:(j:Int)<(ws.length:Int):=by omega
    have NF:=W6.lC
    have bt:¬rd=ar:=by have:=BH.lt rd mg;omega
    simp only[cg,bt,if_false]at NF
    simp[t18,t17,t16,t0,AP,Ay,hg,DT,aa,NF,bt,aG,-Int.ofNat_lt]
    refine ae r4 ?_
    simp[t18,w1]
    refine ⟨j+1,by omega,by omega,rfl,t17,Yv▸t16,t0,t3,⟨_,hd3,fun m => ?_⟩,?_⟩
    ·rw[<-Ma,tl];exact Mo (by rw[BH.CF];exact a1)
    ·refine hf2.trans ⟨by omega,fun q u1 u2 => ?_,fun q hq=>.inl hq⟩
     have iL:q≠rb[x.1]:=fun e=>u2 (by rw[e];simp[bW])
     simp[iL,show ¬q=ar by omega]
   ·have:j=ws.length:=by omega
    subst this
    have NF:=BH.lC
    simp[t18,t17,t0,t3,NF,aa]
    have hv3:∀m,m<N->view m=hJ A9 [] m:=fun m hm=>by
     rw[h4 m hm,<-Ma m,zr (zD _)]
    have hk:∀q,q≠rd->ab aT rd (some [[.ptr rs 0 0,nS,iV ku,.v (.int .i64 (-1)),.v (.bool false)]]) q=aT q:=fun q hq=>by simp[hq]
    have oA:(bW rd rs ra rb nS []).Sublist (bW rd rs ra rb w ws):=by
     have:=Db (rd:=rd) (rs:=rs) (ra:=ra) (rb:=rb) (w:=w) (ws:=ws)
     refine List.Sublist.trans ?_ this
     simp[bW]
    refine ⟨_,⟨rs,ra,rb,nS,A9,[],ku,⟨h1.nd.sublist oA,fun q hq=>BH.lt q (oA.subset hq),by simp,by rw[hk _ (Ne.symm p1)];exact BH.Ay,by rw[hk _ (Ne.symm p2)];exact BH.He,BH.VM,BH.CF,BH.hN,fun i a b c=>by rw[hk _ (p4 _ (zP b)).1];exact BH.Ws i a b c,BH.sec,.inl ⟨rfl,rfl⟩,fun x hx=>by simp at hx⟩,rfl,by simp,hv3⟩,hf2.trans ⟨zD _,fun q u1 u2=>hk q fun e=>u2 (e▸mg),fun q hq=>.inl (oA.subset hq)⟩⟩
def newRow (nx N j:Nat):bN:=(List.range N).map fun i=>if i<j then xX (nx+i) else [nS]
theorem Eo {nx N:Nat}:newRow nx N 0=List.replicate N [nS]:=by
 simp only[newRow,Nat.not_lt_zero,if_false,List.map_const',List.length_range]
theorem GQ {nx N j:Nat}:(newRow nx N j).set j (xX (nx+j))=newRow nx N (j+1):=by
 refine List.ext_getElem (by simp[newRow]) fun i h1 h2 => ?_
 simp only[newRow,List.getElem_set,jA,jL]
 split
 ·rename_i e;subst e;rw[if_pos (by omega)]
 ·rename_i e
  by_cases h:i<j
  ·rw[if_pos h,if_pos (by omega)]
  ·rw[if_neg h,if_neg (by omega)]
theorem GR {nx N:Nat}:newRow nx N N=((List.range N).map (nx + ·)).map xX:=by
 refine List.ext_getElem (by simp[newRow]) fun i h1 h2 => ?_
 simp only[newRow,jA,jL]
 rw[if_pos (by simpa [newRow] using h1)]
theorem f82 (hp:Heap) (nx N:Nat) (h1:1<=N) (h2:N<=4096):∃hp' nx' rd F,aY E 82 [iV N] hp nx (.bE [.ptr rd 0 0,iV 0]) hp' nx' .e/\nZ hp' nx' rd F N (fun _=>aW 512) 0/\Fr [] hp nx F hp' nx':=by
 have main:=an (P:=fun v hp' nx'=>∃rd F,v=.bE [.ptr rd 0 0,iV 0]/\nZ hp' nx' rd F N (fun _=>aW 512) 0/\Fr [] hp nx F hp' nx') e82 (args:=[iV N]) rfl (hp:=hp) (nx:=nx) ?_
 ·obtain ⟨v,hp',nx',g1,rd,F,rfl,g2,g3⟩:=main
  exact ⟨hp',nx',rd,F,g1,g2,g3⟩
 ·have c1:¬((N:Int)<1):=by omega
  have c2:¬((4096:Int)<N):=by omega
  have hm:j9 1 24 [nS] (iV N) (iV N) hp nx=some (.sl nx 1 0 N (some N),ab hp nx (some (newRow (nx+2) N 0)),nx+1):=by
   rw[Eo]
   simp only[j9]
   rw[if_pos (by omega)];simp
  have hmz:∀(h:Heap) (n:Nat),j9 1 1 [.v (.int .u8 0)] (iV 512) (iV 512) h n=some (.sl n 1 0 512 (some 512),ab h n (some (bytesOf (aW 512))),n+1):=fun h n=>by rw[mn];rfl
  simp[c82,c1,c2,hm,aa]
  refine aM (I:=fun (j:Nat) s=>j<=N/\s.tm 16=iV j/\s.tm 15=iV N/\s.tm 4=.ptr (nx+1) 0 0/\s.nx=nx+2+j/\s.hp nx=some (newRow (nx+2) N j)/\s.hp (nx+1)=some [[.sl nx 1 0 N (some N)]]/\(∀i,i<j->s.hp (nx+2+i)=some (bytesOf (aW 512)))/\∀r,r<nx->s.hp r=hp r)
   (fun j=>N-j) 0 ?_ ?_
  ·simp[show ¬nx=nx+1 by omega]
   exact fun r hr=>by simp[show ¬r=nx+1 by omega,show ¬r=nx by omega]
  ·rintro j tm hp1 nx1 ⟨hj,t16,t15,t4,e,g1,g2,g3,g4⟩
   simp only at t16 t15 t4 e g1 g2 g3 g4
   subst e
   by_cases az:j<N
   ·have w1:IntKind.wrap .i64 ((j:Int)+1)=((j+1:Nat):Int):=by rw[aj]<;>omega
    have AP:(j:Int)<(N:Int):=by omega
    have EW:(newRow (nx+2) N j)[j]?=some [nS]:=by simp[newRow,az]
    have lj:=GQ (nx:=nx+2) (N:=N) (j:=j)
    simp only[xX]at lj
    simp[t16,t15,t4,AP,g2,hmz,g1,EW,w1,aa,lj,show ¬nx=nx+2+j by omega,show ¬nx+1=nx+2+j by omega,-Int.ofNat_lt]
    refine ⟨j+1,by omega,by omega,by simp,by omega,rfl,fun i hi => ?_,fun r hr => ?_⟩
    ·by_cases e:i=j
     ·subst e;simp[show ¬nx+2+i=nx by omega]
     ·simp[show ¬nx+2+i=nx by omega,e];exact g3 i (by omega)
    ·simp[show ¬r=nx by omega,show ¬r=nx+2+j by omega];exact g4 r hr
   ·have:j=N:=by omega
    subst this
    simp[t16,t15,t4,aa]
    have hk:∀r,r≠nx+2+j->ab hp1 (nx+2+j) (some [[.ptr (nx+1) 0 0,nS,iV 0,.v (.int .i64 (-1)),.v (.bool false)]]) r=hp1 r:=fun r hr=>by simp[hr]
    have jc:∀r,r∈bW (nx+2+j) (nx+1) nx ((List.range j).map (nx+2 + ·)) nS []↔r=nx+2+j\/r=nx+1\/r=nx\/∃i,i<j/\nx+2+i=r:=fun r=>by simp[bW]
    have w8:(bW (nx+2+j) (nx+1) nx ((List.range j).map (nx+2 + ·)) nS []).Nodup:=by
     simp only[bW,Vb,qi,zT,zp,zH,wk,wL,not_or]
     refine ⟨⟨by omega,by omega,fun ⟨i,h,e⟩=>by omega⟩,⟨by omega,fun ⟨i,h,e⟩=>by omega⟩,fun ⟨i,h,e⟩=>by omega,?_⟩
     rw[qW,List.pairwise_map]
     exact (qW.1 (List.nodup_range (n:=j))).imp fun h=>by omega
    have NX:∀r∈bW (nx+2+j) (nx+1) nx ((List.range j).map (nx+2 + ·)) nS [],nx<=r/\r<nx+2+j+1:=fun r hr=>by
     rcases (jc r).1 hr with e|e|e|⟨i,hi,e⟩<;>omega
    refine ⟨_,⟨nx+1,nx,(List.range j).map (nx+2 + ·),nS,List.replicate j (aW 512),[],0,⟨w8,fun r hr=>(NX r hr).2,by simp,?_,?_,by simp,by simp,h2,fun i a b c => ?_,fun s hs => ?_,.inl ⟨rfl,rfl⟩,fun x hx=>by simp at hx⟩,rfl,by simp,fun m hm => ?_⟩,⟨by omega,fun r hr _ => ?_,fun r hr=>.inr (NX r hr).1⟩⟩
    ·rw[hk _ (by omega)];exact g2
    ·rw[hk _ (by omega),g1,GR]
    ·simp only[jA,jL,List.getElem_replicate]
     rw[hk _ (by omega)];exact g3 i a
    ·rw[(List.mem_replicate.1 hs).2];exact dV
    ·simp[hJ,hm]
    ·rw[hk _ (by omega)];exact g4 r hr
theorem f62 {hp:Heap} {nx rd:Nat} {F:List Nat} {N:Nat} {view:Nat->Bs} {B:Nat} (h:nZ hp nx rd F N view B) (hN:4<=N):aY E 62 [.ptr rd 0 0] hp nx (iV 0) hp nx .e:=by
 have r:=f63 h
 have c1:¬((N:Int)=0):=by omega
 have c2:¬((N:Int)<4):=by omega
 refine dF e62 rfl ?_
 simp[c62]
 refine ae r ?_
 simp[show ¬N=0 by omega]
 refine ae r ?_
 simp[c2,show ¬N<4 by omega]
 exact fun r=>.inl rfl
theorem f124 {hp:Heap} {nx rd b1 b2:Nat} {F:List Nat} {N:Nat} {view:Nat->Bs} {B:Nat} (h:nZ hp nx rd F N view B) (hN:4<=N) {x:AV} {s:Bs} (h1:hp b1=some [[.ptr rd 0 0]]) (h2:hp b2=some [[x]]) (hx:tM x=some (iV 512)) (hl:s.length=512)
  (he:∀hp',(∀r,r<nx->r∉F->hp' r=hp r)->aR hp' 1 x=some (bytesOf s)) (hB:B<=1000000000) :
  ∃hp' nx' F',aY E 124 [.ptr b1 0 0,.ptr b2 0 0] hp nx (iV 0) hp' nx' .e/\nZ hp' nx' rd F' N (fun m=>if m=0 then s else view m) (B+1)/\Fr F hp nx F' hp' nx':=by
 obtain ⟨hp',nx',F',r1,r2,r3⟩:=f30 h (at':=0) (by omega) hx hl he hB
 refine ⟨hp',nx',F',?_,r2,r3⟩
 refine dF e124 rfl ?_
 simp[c124,h1,h2]
 refine ae r1 ?_
 simp
 exact fun r=>.inl rfl
theorem f125 {hp:Heap} {nx rd b1 b2:Nat} {F:List Nat} {N:Nat} {view:Nat->Bs} {B:Nat} (h:nZ hp nx rd F N view B) (hN:4<=N) {x:AV} {s:Bs} (h1:hp b1=some [[.ptr rd 0 0]]) (h2:hp b2=some [[x]]) (hx:tM x=some (iV 512)) (hl:s.length=512)
  (he:∀hp',(∀r,r<nx->r∉F->hp' r=hp r)->aR hp' 1 x=some (bytesOf s)) (hB:B<=1000000000) :
  ∃hp' nx' F',aY E 125 [.ptr b1 0 0,.ptr b2 0 0] hp nx (iV 0) hp' nx' .e/\nZ hp' nx' rd F' N (fun m=>if m=1 then s else view m) (B+1)/\Fr F hp nx F' hp' nx':=by
 obtain ⟨hp',nx',F',r1,r2,r3⟩:=f30 h (at':=1) (by omega) hx hl he hB
 refine ⟨hp',nx',F',?_,r2,r3⟩
 refine dF e125 rfl ?_
 simp[c125,h1,h2]
 refine ae r1 ?_
 simp
 exact fun r=>.inl rfl
theorem f126 {hp:Heap} {nx rd b1 b2:Nat} {F:List Nat} {N:Nat} {view:Nat->Bs} {B:Nat} (h:nZ hp nx rd F N view B) (hN:4<=N) {x:AV} {s:Bs} (h1:hp b1=some [[.ptr rd 0 0]]) (h2:hp b2=some [[x]]) (hx:tM x=some (iV 512)) (hl:s.length=512)
  (he:∀hp',(∀r,r<nx->r∉F->hp' r=hp r)->aR hp' 1 x=some (bytesOf s)) (hB:B<=1000000000) :
  ∃hp' nx' F',aY E 126 [.ptr b1 0 0,.ptr b2 0 0] hp nx (iV 0) hp' nx' .e/\nZ hp' nx' rd F' N (fun m=>if m=1 then s else view m) (B+1)/\Fr F hp nx F' hp' nx':=by
 obtain ⟨hp',nx',F',r1,r2,r3⟩:=f30 h (at':=1) (by omega) hx hl he hB
 refine ⟨hp',nx',F',?_,r2,r3⟩
 refine dF e126 rfl ?_
 simp[c126,h1,h2]
 refine ae r1 ?_
 simp
 exact fun r=>.inl rfl
def fY (j:Nat) (m:Nat):Bs:=if j<4 then aW 512 else if m=1 then eo 1 [] else aW 512
theorem f83 {hp:Heap} {nx rd:Nat} {F:List Nat} {N:Nat} (h:nZ hp nx rd F N (fun _=>aW 512) 0) (hN:4<=N) :
  ∃hp' nx' F',aY E 83 [.ptr rd 0 0] hp nx (iV 0) hp' nx' .e/\nZ hp' nx' rd F' N (fY 5) 5/\Fr F hp nx F' hp' nx':=by
 have main:=an (P:=fun v hp' nx'=>v=iV 0/\∃F',nZ hp' nx' rd F' N (fY 5) 5/\Fr F hp nx F' hp' nx') e83 (args:=[.ptr rd 0 0]) rfl (hp:=hp) (nx:=nx) ?_
 ·obtain ⟨v,hp',nx',h1,rfl,F',h2,h3⟩:=main
  exact ⟨hp',nx',F',h1,h2,h3⟩
 ·have hz:bytesOf (aW 512)=List.replicate 512 [.v (.int .u8 0)]:=mn
  have hm:∀(h:Heap) (n:Nat),j9 1 1 [.v (.int .u8 0)] (iV 512) (iV 512) h n=some (.sl n 1 0 512 (some 512),ab h n (some (bytesOf (aW 512))),n+1):=fun h n=>by rw[hz];rfl
  have az:=h.lt
  have tW:nZ (ab hp nx (some [[.ptr rd 0 0]])) (nx+1) rd F N (fun _=>aW 512) 0:=h.ah (by omega) fun r hr=>by have:=az r hr;simp[show ¬r=nx by omega]
  have r1:=f62 tW hN
  have r2:=f55 1 [] (by omega) (by omega) (by simp)
  have DK:(eo 1 []).length=512:=Bb (by simp)
  have hrI:(1:Nat)=(1:Int):=rfl
  simp[c83]
  refine ae r1 ?_
  simp[hm,aa]
  refine ap (r2 _ _) ?_
  simp[aa,show ¬nx=nx+1+1+1 by omega,show ¬nx=nx+1+1 by omega,show ¬nx+1+1=nx+1+1+1 by omega,show ¬nx+1=nx+1+1 by omega]
  generalize hH:ab (ab (ab (ab (ab (ab hp nx (some [[.ptr rd 0 0]])) (nx+1) (some (bytesOf (aW 512)))) (nx+1+1) (some [[nS]])) (nx+1+1) (some [[.sl (nx+1) 1 0 512 (some 512)]])) (nx+1+1+1) (some [[nS]])) (nx+1+1+1) (some [[.rs false 1 (bytesOf (eo 1 [])) (some 512)]])=H
  have b0:H nx=some [[.ptr rd 0 0]]:=by rw[<-hH];simp[show ¬nx=nx+1+1+1 by omega,show ¬nx=nx+1+1 by omega,show ¬nx+1+1=nx+1+1+1 by omega,show ¬nx+1=nx+1+1 by omega,show ¬nx+1=nx+1+1+1 by omega]
  have b1:H (nx+1)=some (bytesOf (aW 512)):=by rw[<-hH];simp[show ¬nx=nx+1+1+1 by omega,show ¬nx=nx+1+1 by omega,show ¬nx+1+1=nx+1+1+1 by omega,show ¬nx+1=nx+1+1 by omega,show ¬nx+1=nx+1+1+1 by omega]
  have b2:H (nx+1+1)=some [[.sl (nx+1) 1 0 512 (some 512)]]:=by rw[<-hH];simp[show ¬nx=nx+1+1+1 by omega,show ¬nx=nx+1+1 by omega,show ¬nx+1+1=nx+1+1+1 by omega,show ¬nx+1=nx+1+1 by omega,show ¬nx+1=nx+1+1+1 by omega]
  have b3:H (nx+1+1+1)=some [[.rs false 1 (bytesOf (eo 1 [])) (some 512)]]:=by rw[<-hH];simp[show ¬nx=nx+1+1+1 by omega,show ¬nx=nx+1+1 by omega,show ¬nx+1+1=nx+1+1+1 by omega,show ¬nx+1=nx+1+1 by omega,show ¬nx+1=nx+1+1+1 by omega]
  have bk:∀r,r<nx->H r=hp r:=fun r hr=>by rw[<-hH];simp[show ¬r=nx by omega,show ¬r=nx+1 by omega,show ¬r=nx+1+1 by omega,show ¬r=nx+1+1+1 by omega]
  have hd:nZ H (nx+1+1+1+1) rd F N (fY 0) 0:=h.ah (by omega) fun r hr=>bk r (az r hr)
  refine aM (I:=fun (j:Nat) s=>j<=5/\s.tm 29=iV j/\s.tm 28=iV 5/\s.tm 27=.rs false 1 [[.fn (.func 124) [] [.ptr nx 0 0,.ptr (nx+1+1) 0 0]],[.fn (.func 125) [] [.ptr nx 0 0,.ptr (nx+1+1) 0 0]],[.fn (.func 57) [.ptr rd 0 0] []],[.fn (.func 126) [] [.ptr nx 0 0,.ptr (nx+1+1+1) 0 0]],[.fn (.func 57) [.ptr rd 0 0] []]] (some 5) /\
   ∃F',nZ s.hp s.nx rd F' N (fY j) j/\Fr F H (nx+1+1+1+1) F' s.hp s.nx) (fun j=>5-j) 0 ?_ ?_
  ·refine ⟨by omega,by simp,by simp,by simp,F,by simpa using hd,by simpa using Fr.refl⟩
  ·rintro j tm hp1 nx1 ⟨hj,t29,t28,t27,F',hD,hF⟩
   simp only at t29 t28 t27 hD hF
   have k0:∀r,nx<=r->r<nx+1+1+1+1->hp1 r=H r:=fun r u1 u2=>hF.ah r u2 fun e=>by have:=az r e;omega
   have gF:∀r,nx<=r->r<nx+1+1+1+1->r∉F':=fun r u1 u2 e=>by
    rcases hF.sub r e with e|e
    ·have:=az r e;omega
    ·omega
   have e0:hp1 nx=some [[.ptr rd 0 0]]:=by rw[k0 nx (by omega) (by omega),b0]
   have e1:hp1 (nx+1)=some (bytesOf (aW 512)):=by rw[k0 (nx+1) (by omega) (by omega),b1]
   have e2:hp1 (nx+1+1)=some [[.sl (nx+1) 1 0 512 (some 512)]]:=by rw[k0 (nx+1+1) (by omega) (by omega),b2]
   have e3:hp1 (nx+1+1+1)=some [[.rs false 1 (bytesOf (eo 1 [])) (some 512)]]:=by rw[k0 (nx+1+1+1) (by omega) (by omega),b3]
   have hle:=hF.le
   have elz:∀hp',(∀r,r<nx1->r∉F'->hp' r=hp1 r)->aR hp' 1 (.sl (nx+1) 1 0 512 (some 512))=some (bytesOf (aW 512)):=fun hp' hk=>by
    have:(bytesOf (aW 512)).take 512=bytesOf (aW 512):=zI (by rw[aJ,dV];exact zD _)
    simp only[aR,if_true,hk (nx+1) (by omega) (gF _ (by omega) (by omega)),e1,aJ,dV,Nat.zero_add,zD,zb,this]
   have step:∀{f:Nat} {args:List AV} {ej:Nat->Bs} {B':Nat},(∃hp' nx' F2,aY E f args hp1 nx1 (iV 0) hp' nx' .e/\nZ hp' nx' rd F2 N ej B'/\Fr F' hp1 nx1 F2 hp' nx')->B'<=j+1->(∀m,m<N->fY (j+1) m=ej m)->j<5 ->
     ∃hp' nx',aY E f args hp1 nx1 (iV 0) hp' nx' .e/\∃F2,nZ hp' nx' rd F2 N (fY (j+1)) (j+1)/\Fr F H (nx+1+1+1+1) F2 hp' nx':=by
    rintro f args ej B' ⟨hp',nx',F2,g1,g2,g3⟩ hB hv _
    refine ⟨hp',nx',g1,F2,?_,hF.trans g3⟩
    obtain ⟨rs,ra,rb,w,bY,ws,steps,q1,q2,q3,q4⟩:=g2.more hB
    exact ⟨rs,ra,rb,w,bY,ws,steps,q1,q2,q3,fun m hm=>by rw[hv m hm];exact q4 m hm⟩
   have w1:IntKind.wrap .i64 ((j:Int)+1)=((j+1:Nat):Int):=by rw[aj]<;>omega
   rcases (show j=0\/j=1\/j=2\/j=3\/j=4\/j=5 by omega) with rfl|rfl|rfl|rfl|rfl|rfl
   ·obtain ⟨hp',nx',g1,F2,g2,g3⟩:=step (f124 (b1:=nx) (b2:=nx+1+1) hD hN e0 e2 rfl dV elz (by omega)) (by omega) (fun m _=>by simp[fY]) (by omega)
    simp[t29,t28,t27]
    refine ae g1 ?_
    simp[t29,t28,t27]
    exact ⟨1,by omega,by omega,rfl,F2,g2,g3⟩
   ·obtain ⟨hp',nx',g1,F2,g2,g3⟩:=step (f125 (b1:=nx) (b2:=nx+1+1) hD hN e0 e2 rfl dV elz (by omega)) (by omega) (fun m _=>by simp[fY]) (by omega)
    simp[t29,t28,t27]
    refine ae g1 ?_
    simp[t29,t28,t27]
    exact ⟨2,by omega,by omega,rfl,F2,g2,g3⟩
   ·obtain ⟨hp',nx',g1,F2,g2,g3⟩:=step (f57 hD (by omega)) (by omega) (fun m _=>by simp[fY]) (by omega)
    simp[t29,t28,t27]
    refine ae g1 ?_
    simp[t29,t28,t27]
    exact ⟨3,by omega,by omega,rfl,F2,g2,g3⟩
   ·obtain ⟨hp',nx',g1,F2,g2,g3⟩:=step (f126 (b1:=nx) (b2:=nx+1+1+1) hD hN e0 e3 (by simp[aJ,DK]) DK (fun _ _=>rfl) (by omega)) (by omega) (fun m _=>by simp[fY]) (by omega)
    simp[t29,t28,t27]
    refine ae g1 ?_
    simp[t29,t28,t27]
    exact ⟨4,by omega,by omega,rfl,F2,g2,g3⟩
   ·obtain ⟨hp',nx',g1,F2,g2,g3⟩:=step (f57 hD (by omega)) (by omega) (fun m _=>by simp[fY]) (by omega)
    simp[t29,t28,t27]
    refine ae g1 ?_
    simp[t29,t28,t27]
    exact ⟨5,by omega,by omega,rfl,F2,g2,g3⟩
   ·simp[t29,t28,t27]
    refine ⟨F',hD,?_⟩
    have h0:Fr F hp nx F H (nx+1+1+1+1):=⟨by omega,fun r u1 _=>bk r u1,fun r hr=>.inl hr⟩
    exact h0.trans hF
end Go.Ai
namespace Go.Bt
abbrev Bytes:=List UInt8
structure PM where
 gen:Nat
 st:List (Nat×Nat)
 rd:Nat->Option (Nat×Bytes)
 pins:List Nat
def PM.is (p:PM) (n:Nat):Nat:=(p.st.getD n (0,0)).1
def PM.has (p:PM) (n:Nat):Bool:=decide (2<=n)&&decide (n<p.st.length)
def dL (st:List (Nat×Nat)):Nat->Nat->Option Nat
 |0,_=>none
 |k+1,n=>if n<st.length then (if (st.getD n (0,0)).1=0 then some n else dL st k (n+1)) else none
def PM.set (p:PM) (n:Nat) (s:Nat×Nat):PM:={ p with st:=p.st.set n s }
def PM.put (p:PM) (kind:Nat) (s:Bytes):Option (Nat×PM) :=
 match dL p.st p.st.length 2 with
 |some n=>some (n,{ p with st:=p.st.set n (2,(p.st.getD n (0,0)).2),rd:=fun m=>if m=n then some (kind,s) else p.rd m })
 |none=>none
def PM.read (p:PM) (n:Nat):Option (Nat×Bytes):=if p.has n=true/\p.is n≠0 then p.rd n else none
def PM.drop (p:PM) (n:Nat):Option PM :=
 if p.has n=true then
  if p.is n=2 then some (p.set n (0,0))
  else if p.is n=1 then some (p.set n (3,(p.st.getD n (0,0)).2))
  else none
 else none
def PM.low (p:PM):Nat:=p.pins.foldl Nat.min 9223372036854775807
def cP (low:Nat) (s:Nat×Nat):Nat×Nat:=if s.1=4/\s.2<=low then (0,0) else s
def cR (gen:Nat) (s:Nat×Nat):Nat×Nat:=if s.1=2 then (1,s.2) else if s.1=3 then (4,gen) else s
def eA (s:Nat×Nat):Nat×Nat:=if s.1=2 then (0,0) else if s.1=3 then (1,s.2) else s
def PM.ch (p:PM):PM:={ p with gen:=p.gen+1,st:=(p.st.map (cR (p.gen+1))).map (cP p.low) }
def PM.gP (p:PM):PM:={ p with st:=p.st.map eA }
def PM.free (p:PM):Nat:=((List.range p.st.length).filter fun n=>decide (2<=n)&&decide (p.is n=0)).length
theorem ss {st:List (Nat×Nat)}:∀{k n m:Nat},dL st k n=some m->n<=m/\m<st.length/\(st.getD m (0,0)).1=0
 |0,n,m,h=>by simp[dL]at h
 |k+1,n,m,h=>by
  simp only[dL]at h
  split at h
  ·rename_i hn
   split at h
   ·rename_i h0
    simp only[zOi]at h;subst h
    exact ⟨zD _,hn,h0⟩
   ·obtain ⟨h1,h2⟩:=ss h
    exact ⟨by omega,h2⟩
  ·cases h
theorem sv {st:List (Nat×Nat)}:∀{k n:Nat},dL st k n=none->st.length<=n+k->∀m,n<=m->m<st.length->(st.getD m (0,0)).1≠0
 |0,n,h,hk,m,h1,h2=>by omega
 |k+1,n,h,hk,m,h1,h2=>by
  simp only[dL]at h
  split at h
  ·rename_i hn
   split at h
   ·cases h
   ·rename_i h0
    by_cases hm:m=n
    ·subst hm;exact h0
    ·exact sv h (by omega) m (by omega) h2
  ·omega
theorem PM.oU {p p':PM} {kind n:Nat} {s:Bytes} (h:p.put kind s=some (n,p')) :
  p.has n=true/\p.is n=0/\p'.is n=2/\p'.rd n=some (kind,s)/\p'.gen=p.gen/\p'.pins=p.pins/\p'.st.length=p.st.length/\∀m,m≠n->p'.st.getD m (0,0)=p.st.getD m (0,0)/\p'.rd m=p.rd m:=by
 unfold PM.put at h
 split at h
 ·rename_i k hk
  simp only[zOi,zPi]at h
  obtain ⟨rfl,rfl⟩:=h
  obtain ⟨h1,h2,h3⟩:=ss hk
  refine ⟨by simp[PM.has,h1,h2],h3,by simp[PM.is,h2],by simp,rfl,rfl,by simp,fun m hm=>⟨?_,by simp[hm]⟩⟩
  simp only[List.getD_eq_getElem?_getD]
  rw[we (Ne.symm hm)]
 ·cases h
theorem PM.MJ {p:PM} {kind:Nat} {s:Bytes} (h:p.put kind s=none) (m:Nat) (hm:p.has m=true):p.is m≠0:=by
 unfold PM.put at h
 split at h
 ·cases h
 ·rename_i hf
  simp only[PM.has,zN,decide_eq_true_eq]at hm
  exact sv hf (by omega) m hm.1 hm.2
theorem PM.rQ {p p':PM} {n:Nat} (h:p.drop n=some p') :
  p.has n=true/\(p.is n=2/\p'.st.getD n (0,0)=(0,0)\/p.is n=1/\p'.is n=3)/\p'.rd=p.rd/\p'.gen=p.gen/\p'.pins=p.pins/\p'.st.length=p.st.length/\∀m,m≠n->p'.st.getD m (0,0)=p.st.getD m (0,0):=by
 unfold PM.drop at h
 split at h
 ·rename_i hh
  have hn:n<p.st.length:=by simp[PM.has]at hh;exact hh.2
  split at h
  ·rename_i h2
   simp only[zOi]at h;subst h
   refine ⟨hh,.inl ⟨h2,by simp[PM.set,hn]⟩,rfl,rfl,rfl,by simp[PM.set],fun m hm => ?_⟩
   simp only[PM.set,List.getD_eq_getElem?_getD]
   rw[we (Ne.symm hm)]
  ·split at h
   ·rename_i h1
    simp only[zOi]at h;subst h
    refine ⟨hh,.inr ⟨h1,by simp[PM.is,PM.set,hn]⟩,rfl,rfl,rfl,by simp[PM.set],fun m hm => ?_⟩
    simp only[PM.set,List.getD_eq_getElem?_getD]
    rw[we (Ne.symm hm)]
   ·cases h
 ·cases h
end Go.Bt
namespace Go.Bt
open Go.Ai
abbrev fx:=Nat->Option (Nat×Bytes)
inductive eO (rd:fx):Nat->Bytes->List Nat->Prop
 |nil:eO rd 0 [] []
 |cons {n next:Nat} {s t:Bytes} {ps:List Nat} (hn:2<=n) (h:rd n=some (3,aO next 4++s)) (hb:next<4294967296) (hs:s≠[]) (hf:next≠0->s.length=488) (hr:eO rd next t ps):eO rd n (s++t) (n::ps)
theorem eO.move {rd mo:fx} {n:Nat} {v:Bytes} {ps:List Nat} (h:eO rd n v ps) (e:∀m∈ps,mo m=rd m):eO mo n v ps:=by
 induction h with
 |nil=>exact .nil
 |cons hn h hb hs hf hr ih=>exact .cons hn (by rw[e _ (by simp)];exact h) hb hs hf (ih fun m hm=>e m (by simp[hm]))
def lZ (rd:fx) (x:bD) (v:Bytes) (ps:List Nat):Prop:=(x.p=0/\v=x.v/\ps=[])\/(0<x.p/\eO rd x.p.toNat v ps/\(v.length:Int)=x.s)
theorem lZ.move {rd mo:fx} {x:bD} {v:Bytes} {ps:List Nat} (h:lZ rd x v ps) (e:∀m∈ps,mo m=rd m):lZ mo x v ps :=
 h.elim .inl fun ⟨h1,h2,h3⟩=>.inr ⟨h1,h2.move e,h3⟩
def fv (rd:fx) (xs:List bD) (vs:List Bytes) (ia:List (List Nat)):Prop :=
 vs.length=xs.length/\ia.length=xs.length/\∀(i:Nat) (h:i<xs.length) (h1:i<vs.length) (h2:i<ia.length),lZ rd xs[i] vs[i] ia[i]
theorem fv.move {rd mo:fx} {xs:List bD} {vs:List Bytes} {ia:List (List Nat)} (h:fv rd xs vs ia) (e:∀m∈ia.flatten,mo m=rd m):fv mo xs vs ia :=
 ⟨h.1,h.2.1,fun i h0 h1 h2=>(h.2.2 i h0 h1 h2).move fun m hm=>e m (qe.2 ⟨_,zP h2,hm⟩)⟩
abbrev bh:=List (Bytes×Bytes)
end Go.Bt
namespace Go.Bt
open Go.Ai
def eH (keys:List Bytes) (k:Bytes):Nat:=below keys k+if k∈keys then 1 else 0
theorem eZ {a b:Bytes} (h:al a b=true):al b a=false:=by
 have:=jr a b
 rw[h]at this
 simpa using this.symm
theorem pc {a b:Bytes} (h:al b a=false) (bt:a≠b):al a b=true:=by
 have:=jr a b
 rw[h]at this
 simpa [bt] using this
theorem nJ {keys:List Bytes} (hr:kS keys) (k:Bytes):eH keys k<=keys.length/\(∀j (hj:j<keys.length),j<eH keys k->al k keys[j]=false)/\∀j (hj:j<keys.length),eH keys k<=j->al k keys[j]=true:=by
 obtain ⟨h1,h2,h3⟩:=fu hr k
 unfold eH
 by_cases hk:k∈keys
 ·rw[if_pos hk]
  have hb:=(kW hr k).1 hk
  obtain ⟨az,he⟩:=zB.1 hb
  refine ⟨by omega,fun j hj oG => ?_,fun j hj oG => ?_⟩
  ·rcases zj j (below keys k) with h|h
   ·exact eZ (h2 j hj h)
   ·have:j=below keys k:=by omega
    subst this
    rw[he];exact bc k
  ·have:=hr (below keys k) j hj (by omega)
   rw[he]at this;exact this
 ·rw[if_neg hk]
  refine ⟨by omega,fun j hj oG=>eZ (h2 j hj (by omega)),fun j hj oG => ?_⟩
  exact pc (h3 j hj (by omega)) (fun e=>hk (by rw[e];exact zP hj))
def look (l:bh) (k:Bytes):Option Bytes:=(l.find? fun p=>decide (p.1=k)).map (·.2)
theorem tL (a b:bh) (k:Bytes):look (a++b) k=(look a k).or (look b k):=by
 simp only[look,List.find?_append]
 cases h:a.find? fun p=>decide (p.1=k)<;>simp
theorem rG {l:bh} {k:Bytes} (h:∀p∈l,p.1≠k):look l k=none:=by
 simp only[look,Option.map_eq_none_iff,List.find?_eq_none,decide_eq_true_eq]
 exact h
end Go.Bt
namespace Go.Bt
open Go.Ai
def fS (rd:fx) (n:Nat):Option Nd:=match rd n with
 |some (kind,s)=>AW kind s
 |none=>none
theorem vu {k:Bytes}:∀{keys vs:List Bytes} {i:Nat},keys[i]?=some k->(∀j,j<i->keys[j]?≠some k)->vs.length=keys.length->look (keys.zip vs) k=vs[i]?
 |[],_,i,h,_,_=>by simp at h
 |a::keys,[],i,_,_,hl=>by simp at hl
 |a::keys,v::vs,0,h,_,_=>by
  simp only[qj,zOi]at h;subst h
  simp[look]
 |a::keys,v::vs,i+1,h,hn,hl=>by
  have ha:a≠k:=fun e=>hn 0 (by omega) (by simp[e])
  have ih:=vu (k:=k) (keys:=keys) (vs:=vs) (i:=i) (by simpa using h) (fun j hj=>by have:=hn (j+1) (by omega);simpa using this) (by simpa using hl)
  simp only[look,qn,List.find?_cons,ha,decide_false,ww]at ih ⊢
  exact ih
theorem li:∀(n x:Nat),(aO x n).length=n
 |0,x=>rfl
 |n+1,x=>by simp[aO,li n]
end Go.Bt
namespace Go.Bt
open Go.Ai
def g9 (rd:fx) (size:Nat):Nat->Nat->Bytes->List Nat->Option (Bytes×List Nat)
 |_,0,acc,ps=>if acc.length=size then some (acc,ps) else none
 |0,_+1,_,_=>none
 |f+1,n+1,acc,ps=>match rd (n+1) with
  |some (kind,s)=>if kind≠3\/s.length<5 then none
    else if (aA (s.take 4)≠0/\(s.drop 4).length≠488)\/size<(acc++s.drop 4).length then none
    else g9 rd size f (aA (s.take 4)) (acc++s.drop 4) (ps++[n+1])
  |none=>none
def uW (rd:fx) (x:bD):Option (Bytes×List Nat):=g9 rd x.s.toNat (x.s.toNat+1) x.p.toNat [] []
def jq (rd:fx) (x:bD):Option Bytes:=if x.p=0 then some x.v else (uW rd x).map (·.1)
def iP (rd:fx) (k:Bytes):Nat->Nat->Option (Option Bytes)
 |_,0=>some none
 |0,_+1=>none
 |f+1,a+1=>match fS rd (a+1) with
  |some n=>if n.leaf=true then
     (if k∈n.keys then (match n.items[below n.keys k]? with
      |some x=>(jq rd x).map some
      |none=>none) else some none)
    else match n.kids[eH n.keys k]? with
     |some c=>iP rd k f c.toNat
     |none=>none
  |none=>none
def dQ (rd:fx):Nat->Nat->Nat->Nat
 |0,_,_=>0
 |f+1,d,a=>if a=0 then 0 else match fS rd a with
  |some n=>if n.leaf=true then d else match n.kids[0]? with
    |some c=>dQ rd f (d+1) c.toNat
    |none=>0
  |none=>0
def mc (lo hi k:Bytes):Bool := !al k lo&&(decide (hi=[])||al k hi)
def jk (rd:fx) (lo hi:Bytes) (aI:Nat):List (Bytes×bD)->bh->Option bh
 |[],out=>some out
 |(k,x)::r,out=>if mc lo hi k=false\/aI<=out.length then jk rd lo hi aI r out
   else match jq rd x with
    |some v=>jk rd lo hi aI r (out++[(k,v)])
    |none=>none
def eF (lo hi:Bytes) (prev next:Option Bytes):Bool :=
 (match next with|some k => !al lo k|none=>false)||(match prev with|some k=>decide (hi≠[]) && !al k hi|none=>false)
def iH (w:Nat->bh->Option bh) (lo hi:Bytes):Option Bytes->List Bytes->List Int->bh->Option bh
 |_,_,[],out=>some out
 |prev,ks,c::cs,out=>if eF lo hi prev ks.head?=true then iH w lo hi ks.head? ks.tail cs out
   else match w c.toNat out with
    |some uG=>iH w lo hi ks.head? ks.tail cs uG
    |none=>none
def bM (rd:fx) (lo hi:Bytes) (aI:Nat):Nat->Nat->bh->Option bh
 |f,a,out=>if a=0\/aI<=out.length then some out else match f with
  |0=>none
  |f+1=>match fS rd a with
   |some n=>if n.leaf=true then jk rd lo hi aI (n.keys.zip n.items) out
     else iH (fun c out=>bM rd lo hi aI f c out) lo hi none n.keys n.kids out
   |none=>none
structure LK where
 p:PM
 met:List Nat
 leaf:Nat
def PM.use (p:PM) (n:Nat):Option PM:=if p.has n=true/\p.is n=0 then some (p.set n (1,(p.st.getD n (0,0)).2)) else none
def gw (use:Bool) (s:LK) (n:Nat):Option LK :=
 if n∈s.met then none
 else if use=true then (s.p.use n).map fun p=>⟨p,n::s.met,s.leaf⟩
 else some ⟨s.p,n::s.met,s.leaf⟩
def pL (use:Bool) (size:Nat):Nat->Nat->Bytes->LK->Option LK
 |_,0,acc,s=>if acc.length=size then some s else none
 |0,_+1,_,_=>none
 |f+1,n+1,acc,s=>match gw use s (n+1) with
  |some s'=>(match s'.p.read (n+1) with
   |some (kind,b)=>if kind≠3\/b.length<5 then none
     else if (aA (b.take 4)≠0/\(b.drop 4).length≠488)\/size<(acc++b.drop 4).length then none
     else pL use size f (aA (b.take 4)) (acc++b.drop 4) s'
   |none=>none)
  |none=>none
def iI (use:Bool):List bD->LK->Option LK
 |[],s=>some s
 |x::r,s=>if x.p=0 then iI use r s else match pL use x.s.toNat (x.s.toNat+1) x.p.toNat [] s with
  |some s'=>iI use r s'
  |none=>none
def xD (lo:Bytes) (hi:Option Bytes) (k:Bytes):Bool := !al k lo&&(match hi with|some h=>al k h|none=>true)
def kE (w:Nat->Bytes->Option Bytes->LK->Option LK) (hi:Option Bytes):Bytes->List Bytes->List Int->LK->Option LK
 |_,_,[],s=>some s
 |lo,[],c::cs,s=>(match w c.toNat lo hi s with
  |some s'=>kE w hi lo [] cs s'
  |none=>none)
 |lo,k::ks,c::cs,s=>match w c.toNat lo (some k) s with
  |some s'=>kE w hi k ks cs s'
  |none=>none
def iG (use:Bool):Nat->Nat->Nat->Bytes->Option Bytes->LK->Option LK
 |0,_,_,_,_,_=>none
 |f+1,a,deep,lo,hi,s=>match gw use s a with
  |some s=>(match fS s.p.read a with
   |some n=>if (1<deep/\aw n<123)\/n.keys=[] then none
     else if n.keys.all (xD lo hi)=false then none
     else if n.leaf=true then (if s.leaf≠0/\s.leaf≠deep then none else iI use n.items ⟨s.p,s.met,deep⟩)
     else kE (fun c lo hi s=>iG use f c (deep+1) lo hi s) hi lo n.keys n.kids s
   |none=>none)
  |none=>none
def sf (use:Bool) (p:PM) (root:Nat):Option PM:=if root=0 then some p else (iG use 12 root 1 [] none ⟨p,[],0⟩).map (·.p)
structure T where
 p:PM
 put:List Nat
 old:List Nat
abbrev R (α:Type):=Except Nat α×T
def rb {α β:Type} (x:R α) (f:α->T->R β):R β:=match x with
 |(.ok a,t)=>f a t
 |(.error e,t)=>(.error e,t)
def nI (t:T) (kind:Nat) (s:Bytes):R Nat:=match t.p.put kind s with
 |some (n,p)=>(.ok n,⟨p,t.put++[n],t.old⟩)
 |none=>(.error 6,t)
def aV (t:T) (n:Nd):R Nat:=if ax n=true/\aw n<=492 then nI t (dT n).toNat (ba n) else (.error 10,t)
def sR (v:Bytes):Nat->Nat->T->R Nat
 |0,next,t=>(.ok next,t)
 |k+1,next,t=>rb (nI t 3 (aO next 4++(v.drop (488*k)).take 488)) fun n t=>sR v k n t
def dp (t:T) (v:Bytes):R bD:=if v.length<=60 then (.ok ⟨v,0,0⟩,t) else rb (sR v ((v.length-1) / 488+1) 0 t) fun n t=>(.ok ⟨[],n,v.length⟩,t)
def ig (t:T) (x:bD):R Unit:=if x.p=0 then (.ok (),t) else match uW t.p.read x with
 |some r=>(.ok (),⟨t.p,t.put,t.old++r.2⟩)
 |none=>(.error 10,t)
def eD (t:T) (a:Nat):R Nd:=match fS t.p.read a with
 |some n=>(.ok n,⟨t.p,t.put,t.old++[a]⟩)
 |none=>(.error 10,t)
inductive dG where
 |one (n:Nd)
 |two (a:Nd) (k:Bytes) (b:Nd)
def xo (n:Nd):Nat->Nat->Nat
 |0,i=>i
 |f+1,i=>if 2*((bo n).length+bO n i)<aw n/\i+gi n<n.keys.length then xo n f (i+1) else i
def kP (n:Nd):dG :=
 if aw n<=492 then .one n
 else .two (cM n 0 (xo n n.keys.length 1)) (n.keys.getD (xo n n.keys.length 1) []) (cM n (xo n n.keys.length 1+gi n-1) n.keys.length)
def l8 (n:Nd):Bool:=decide (n.kids.length=1)||decide (aw n<123)
def mH (a:Nd) (k:Bytes) (b:Nd):Nd:=if a.leaf=b.leaf then eu a k b else a
def fi (t:T) (n:Nd) (i:Nat) (x:Nd):R (dG×Nat) :=
 if i=0 then (match n.kids[1]? with
  |some c=>rb (eD t c.toNat) fun o t=>(.ok (kP (mH x (n.keys.getD 0 []) o),0),t)
  |none=>(.error 10,t))
 else match n.kids[i-1]? with
  |some c=>rb (eD t c.toNat) fun o t=>(.ok (kP (mH o (n.keys.getD (i-1) []) x),i-1),t)
  |none=>(.error 10,t)
def mz (n:Nd) (a b:Nat) (ks:List Bytes) (cs:List Int):Nd:=⟨false,n.keys.take a++ks++n.keys.drop (b-1),[],n.kids.take a++cs++n.kids.drop b⟩
def kC (n:Nd):dG:=if n.kids.length=1 then .one n else kP n
def bL (t:T) (n:Nd) (a b:Nat):dG->R dG
 |.one x=>rb (aV t x) fun c t=>(.ok (kC (mz n a b [] [(c:Int)])),t)
 |.two x k y=>rb (aV t x) fun c t=>rb (aV t y) fun d t=>(.ok (kC (mz n a b [k] [(c:Int),(d:Int)])),t)
def lX (t:T) (n:Nd) (i:Nat) (p:dG):R dG:=match p with
 |.one x=>if l8 x=true then rb (fi t n i x) fun r t=>bL t n r.2 (r.2+2) r.1
  else bL t n i (i+1) p
 |.two _ _ _=>bL t n i (i+1) p
def cY (act:T->Nd->R Nd) (key:Bytes):Nat->Nat->T->R dG
 |0,_,t=>(.error 10,t)
 |f+1,a,t=>rb (eD t a) fun n t=>if n.leaf=true then rb (act t n) fun n t=>(.ok (kP n),t)
   else (match n.kids[eH n.keys key]? with
    |some c=>rb (cY act key f c.toNat t) fun p t=>lX t n (eH n.keys key) p
    |none=>(.error 10,t))
def dK (t:T):dG->R Nat
 |.one n=>if n.leaf=true/\n.keys=[] then (.ok 0,t)
   else if n.kids.length=1 then (.ok (n.kids.getD 0 0).toNat,t)
   else aV t n
 |.two a k b=>rb (aV t a) fun c t=>rb (aV t b) fun d t=>aV t ⟨false,[k],[],[(c:Int),(d:Int)]⟩
def r9 (act:T->Nd->R Nd) (key:Bytes) (root:Nat) (t:T):R Nat :=
 if root=0 then rb (act t ⟨true,[],[],[]⟩) fun n t=>dK t (.one n)
 else rb (cY act key 12 root t) fun p t=>dK t p
def lU (p:PM):List Nat->PM
 |[]=>p
 |n::r=>lU ((p.drop n).getD p) r
def gS (p:PM):List Nat->PM×Nat
 |[]=>(p,0)
 |n::r=>match p.drop n with
  |some p=>gS p r
  |none=>(p,10)
def jo (act:T->Nd->R Nd) (key:Bytes) (root:Nat) (p:PM):Nat×PM×Nat :=
 match r9 act key root ⟨p,[],[]⟩ with
 |(.ok r,t)=>((gS t.p t.old).2,(gS t.p t.old).1,r)
 |(.error e,t)=>(e,lU t.p t.put,root)
def ko (n:Nd) (i:Nat):Nd:=⟨true,fP n.keys i,fP n.items i,[]⟩
def pf (n:Nd) (i:Nat) (k:Bytes) (x:bD):Nd:=⟨true,gg n.keys i k,gg n.items i x,[]⟩
def Em (key value:Bytes) (t:T) (n:Nd):R Nd:=rb (dp t value) fun x t =>
 if key∈n.keys then (match n.items[below n.keys key]? with
  |some y=>rb (ig t y) fun _ t=>(.ok (pf (ko n (below n.keys key)) (below n.keys key) key x),t)
  |none=>(.error 10,t))
 else (.ok (pf n (below n.keys key) key x),t)
def ta (key:Bytes) (t:T) (n:Nd):R Nd:=match n.items[below n.keys key]? with
 |some y=>rb (ig t y) fun _ t=>(.ok (ko n (below n.keys key)),t)
 |none=>(.error 10,t)
def uE (key value:Bytes) (p:PM) (root:Nat):Nat×PM×Nat :=
 if 60<key.length then (2,p,root) else if 60000<value.length then (4,p,root) else jo (Em key value) key root p
def dk:List Bytes->Nat->PM->Nat->Nat×Nat×PM×Nat
 |[],many,p,root=>(many,0,p,root)
 |k::r,many,p,root=>match iP p.read k 12 root with
  |none=>(many,10,p,root)
  |some none=>dk r many p root
  |some (some _)=>match jo (ta k) k root p with
   |(0,p,root)=>dk r (many+1) p root
   |(e,p,root)=>(many,e,p,root)
end Go.Bt
namespace Go.Ai
open Go.Bt
structure Ro (hp:Heap) (nx:Nat) (hp':Heap) (nx':Nat):Prop where
 le:nx<=nx'
 ah:∀r,r<nx->hp' r=hp r
theorem Ro.refl {hp nx}:Ro hp nx hp nx:=⟨zD _,fun _ _=>rfl⟩
theorem Ro.trans {hp nx hp1 nx1 aT ar} (h:Ro hp nx hp1 nx1) (k:Ro hp1 nx1 aT ar):Ro hp nx aT ar :=
 ⟨wF h.le k.le,fun r hr=>(k.ah r (zU hr h.le)).trans (h.ah r hr)⟩
theorem Ro.fr {hp nx hp' nx'} (h:Ro hp nx hp' nx') (F:List Nat):Fr F hp nx F hp' nx':=⟨h.le,fun r hr _=>h.ah r hr,fun r hr=>.inl hr⟩
def iz (s:Nat×Nat):List AV:=[iV s.1,iV s.2]
def v8 (g:Nat):List AV:=[iV g,iV 1]
def ep (rd gen:Nat) (root:Bs) (cU N rm:Nat):bN:=[[.ptr rd 0 0,iV gen,.str root,.sl cU 2 0 N (some N),.mp rm,.v (.bool false)]]
structure xv (hp:Heap) (nx rp rd cU rm:Nat) (Fd:List Nat) (p:PM) (root:Bs) (view:Nat->Bs) (B:Nat):Prop where
 nd:(rp::cU::rm::Fd).Nodup
 lt:rp<nx/\cU<nx/\rm<nx
 xF:hp rp=some (ep rd p.gen root cU p.st.length rm)
 yO:hp cU=some (p.st.map iz)
 TT:hp rm=some (p.pins.map v8)
 pins:p.pins.length<=1
 hd:nZ hp nx rd Fd p.st.length view B
 rdv:∀m,2<=m->m<p.st.length->p.rd m=(mA (view m)).map fun x=>(x.1,x.2.2)
 gen:p.gen<=1000000000000
 N4:4<=p.st.length
def ja (hp:Heap) (nx rp rd:Nat) (F:List Nat) (p:PM) (root:Bs) (view:Nat->Bs) (B:Nat):Prop:=∃cU rm Fd,xv hp nx rp rd cU rm Fd p root view B/\F=rp::cU::rm::Fd
theorem xv.ah {hp hp' nx nx' rp rd cU rm Fd p root view B} (h:xv hp nx rp rd cU rm Fd p root view B) (hn:nx<=nx') (hk:∀r∈rp::cU::rm::Fd,hp' r=hp r):xv hp' nx' rp rd cU rm Fd p root view B :=
 ⟨h.nd,⟨zU h.lt.1 hn,zU h.lt.2.1 hn,zU h.lt.2.2 hn⟩,by rw[hk rp (by simp)];exact h.xF,by rw[hk cU (by simp)];exact h.yO,by rw[hk rm (by simp)];exact h.TT,h.pins,
  h.hd.ah hn fun r hr=>hk r (by simp[hr]),h.rdv,h.gen,h.N4⟩
theorem ja.ah {hp hp' nx nx' rp rd F p root view B} (h:ja hp nx rp rd F p root view B) (hn:nx<=nx') (hk:∀r∈F,hp' r=hp r):ja hp' nx' rp rd F p root view B:=by
 obtain ⟨cU,rm,Fd,h1,rfl⟩:=h
 exact ⟨cU,rm,Fd,h1.ah hn hk,rfl⟩
theorem ja.lt {hp nx rp rd F p root view B} (h:ja hp nx rp rd F p root view B):∀r∈F,r<nx:=by
 obtain ⟨cU,rm,Fd,h1,rfl⟩:=h
 intro r hr
 simp only[zH]at hr
 rcases hr with rfl|rfl|rfl|hr
 ·exact h1.lt.1
 ·exact h1.lt.2.1
 ·exact h1.lt.2.2
 ·exact h1.hd.lt r hr
theorem ja.ro {hp hp' nx nx' rp rd F p root view B} (h:ja hp nx rp rd F p root view B) (k:Ro hp nx hp' nx'):ja hp' nx' rp rd F p root view B:=h.ah k.le fun r hr=>k.ah r (h.lt r hr)
theorem ja.more {hp nx rp rd F p root view B B'} (h:ja hp nx rp rd F p root view B) (hb:B<=B'):ja hp nx rp rd F p root view B':=by
 obtain ⟨cU,rm,Fd,h1,rfl⟩:=h
 exact ⟨cU,rm,Fd,⟨h1.nd,h1.lt,h1.xF,h1.yO,h1.TT,h1.pins,h1.hd.more hb,h1.rdv,h1.gen,h1.N4⟩,rfl⟩
theorem xv.ne {hp nx rp rd cU rm Fd p root view B} (h:xv hp nx rp rd cU rm Fd p root view B):rp≠cU/\rp≠rm/\cU≠rm/\rp∉Fd/\cU∉Fd/\rm∉Fd:=by
 have:=h.nd
 simp only[zp,zH,not_or]at this
 obtain ⟨⟨a,b,c⟩,⟨d,e⟩,f,g⟩:=this
 exact ⟨a,b,d,c,e,f⟩
theorem xv.Ih {hp nx rp rd cU rm Fd p root view B} (h:xv hp nx rp rd cU rm Fd p root view B) {st:List (Nat×Nat)} (hl:st.length=p.st.length):xv (ab hp cU (some (st.map iz))) nx rp rd cU rm Fd { p with st:=st } root view B:=by
 obtain ⟨a,b,c,d,e,f⟩:=h.ne
 refine ⟨h.nd,h.lt,?_,by simp,?_,h.pins,?_,fun m h1 h2=>h.rdv m h1 (by rw[<-hl];exact h2),h.gen,by show 4<=st.length;rw[hl];exact h.N4⟩
 ·show _=some (ep rd p.gen root cU st.length rm)
  rw[hl];simp[a,h.xF]
 ·simp[Ne.symm c,h.TT]
 ·show nZ _ nx rd Fd st.length view B
  rw[hl];exact h.hd.ah (zD _) fun r hr=>by simp[show ¬r=cU from fun e'=>e (e'▸hr)]
theorem nz {st:List (Nat×Nat)} {n:Nat} (h:n<st.length):(st.map iz)[n]?=some (iz (st.getD n (0,0))):=by simp[h]
theorem nw {st:List (Nat×Nat)} {n:Nat} {s:Nat×Nat}:(st.map iz).set n (iz s)=(st.set n s).map iz:=by simp[List.map_set]
theorem f54 {hp:Heap} {nx rp rd:Nat} {F:List Nat} {p:PM} {root:Bs} {view:Nat->Bs} {B:Nat} (h:ja hp nx rp rd F p root view B):aY E 54 [.ptr rp 0 0] hp nx (iV 0) hp nx .e:=by
 obtain ⟨cU,rm,Fd,h1,rfl⟩:=h
 have q:=h1.xF
 simp only[ep]at q
 refine dF e54 rfl ?_
 simp[c54,q]
 exact fun r=>.inl rfl
theorem f93 {hp:Heap} {nx rp rd:Nat} {F:List Nat} {p:PM} {root:Bs} {view:Nat->Bs} {B:Nat} (h:ja hp nx rp rd F p root view B) (n:Nat):aY E 93 [.ptr rp 0 0,iV n] hp nx (.v (.bool (p.has n))) hp nx .e:=by
 obtain ⟨cU,rm,Fd,h1,rfl⟩:=h
 have q:=h1.xF
 simp only[ep]at q
 refine dF e93 rfl ?_
 by_cases h2:2<=n
 ·have AD:(2:Int)<=n:=by omega
  simp[c93,AD,q,PM.has,h2]
  exact fun r=>.inl rfl
 ·have AD:¬(2:Int)<=n:=by omega
  simp[c93,AD,PM.has,h2]
  exact fun r=>.inl rfl
theorem G7 {hp:Heap} {r:Nat} {b:Option bN} (h:hp r=b):ab hp r b=hp:=by
 funext m;simp only[cg];split
 ·rename_i e;rw[e,h]
 ·rfl
theorem f56 {hp:Heap} {nx rp rd:Nat} {F:List Nat} {p:PM} {root:Bs} {view:Nat->Bs} {B:Nat} (h:ja hp nx rp rd F p root view B) (e:Int) (he:e≠9):aY E 56 [.ptr rp 0 0,iV e] hp nx (iV e) hp nx .e:=by
 obtain ⟨cU,rm,Fd,h1,rfl⟩:=h
 have q:=h1.xF
 simp only[ep]at q
 have q2:=G7 q
 refine dF e56 rfl ?_
 simp[c56,q,he,aa,q2]
 exact fun r=>.inl rfl
def n8 (p:PM) (n:Nat) (e:Int):AV:=match p.read n with
 |some x=>.bE [.v (.int .i64 x.1),.str x.2,.v (.int .i64 0)]
 |none=>.bE [.v (.int .i64 0),.str [],.v (.int .i64 e)]
theorem f65 {hp:Heap} {nx rp rd:Nat} {F:List Nat} {p:PM} {root:Bs} {view:Nat->Bs} {B:Nat} (h:ja hp nx rp rd F p root view B) (n:Nat) (hB:B<=1000000000) :
  ∃hp' nx' e,aY E 65 [.ptr rp 0 0,iV n] hp nx (n8 p n e) hp' nx' .e/\(e=3\/e=10)/\Ro hp nx hp' nx':=by
 have main:=an (P:=fun v hp' nx'=>∃e,v=n8 p n e/\(e=3\/e=10)/\Ro hp nx hp' nx') e65 (args:=[.ptr rp 0 0,iV n]) rfl (hp:=hp) (nx:=nx) ?_
 ·obtain ⟨v,hp',nx',h1,e,rfl,h2⟩:=main
  exact ⟨hp',nx',e,h1,h2⟩
 ·have r1:=f54 h
  have r2:=f93 h n
  obtain ⟨cU,rm,Fd,h1,rfl⟩:=h
  have q:=h1.xF
  simp only[ep]at q
  have qg:=h1.yO
  simp[c65]
  refine ae r1 ?_
  simp
  refine ae r2 ?_
  by_cases hh:p.has n=true
  ·have hn:2<=n/\n<p.st.length:=by simpa [PM.has] using hh
   have CQ:(n:Int)<(p.st.length:Int):=by omega
   have hg:=nz hn.2
   obtain ⟨r3,hl⟩:=f29 h1.hd hn.2 hB
   by_cases h0:p.is n=0
   ·have Mi:(p.st.getD n (0,0)).1=0:=h0
    simp[hh,q,CQ,qg,hg,iz,Mi,-Int.ofNat_lt,-List.getD_eq_getElem?_getD]
    exact ⟨3,by simp[n8,PM.read,h0],.inl rfl,.refl⟩
   ·have Mi:¬(p.st.getD n (0,0)).1=0:=h0
    simp[hh,q,CQ,qg,hg,iz,Mi,-Int.ofNat_lt,-List.getD_eq_getElem?_getD]
    refine ae r3 ?_
    simp
    have aeB:=h1.rdv n hn.1 hn.2
    have lC:p.read n=(mA (view n)).map fun x=>(x.1,x.2.2):=by simp[PM.read,hh,h0,aeB]
    have r4:aY E 94 [.sl nx 1 0 512 none] (ab hp nx (some (bytesOf (view n)))) (nx+1) (Bk (view n)) (ab hp nx (some (bytesOf (view n)))) (nx+1) .e:=by
     refine na (args0:=[.rs false 1 (bytesOf (view n)) none]) ?_ ?_ (f94 _ hl _ _ _)
     ·rw[br,mP (b:=view n) (by simp) hl];rfl
     ·unfold Bk;split<;>rfl
    refine ae r4 ?_
    have bZ:Ro hp nx (ab hp nx (some (bytesOf (view n)))) (nx+1):=⟨by omega,fun r hr=>by simp[show ¬r=nx by omega]⟩
    cases ho:mA (view n) with
    |none =>
     simp[Bk,ho]
     exact ⟨10,by simp[n8,lC,ho],.inr rfl,bZ⟩
    |some x =>
     simp[Bk,ho]
     exact ⟨10,by simp[n8,lC,ho],.inr rfl,bZ⟩
  ·have Sk:p.has n=false:=by simpa using hh
   simp[Sk]
   exact ⟨3,by simp[n8,PM.read,Sk],.inl rfl,.refl⟩
end Go.Ai
namespace Go.Ai
open Go.Bt
theorem xv.N {hp nx rp rd cU rm Fd p root view B} (h:xv hp nx rp rd cU rm Fd p root view B):p.st.length<=4096:=by
 obtain ⟨rs,ra,rb,w,bY,ws,steps,g1,_⟩:=h.hd
 exact g1.hN
theorem afY {p:PM} {n:Nat}:(p.st.getD n (0,0)).1=p.is n:=rfl
theorem SD {st:List (Nat×Nat)} {f n:Nat} (h1:n<st.length) (h2:(st.getD n (0,0)).1≠0):dL st (f+1) n=dL st f (n+1):=by simp only[dL,h1,h2,if_true,if_false]
theorem f123 {hp:Heap} {nx rp rd:Nat} {F:List Nat} {p:PM} {root:Bs} {view:Nat->Bs} {B:Nat} (h:ja hp nx rp rd F p root view B) {kind:Nat} {s:Bs} (hk:kind<=255) (hs:s.length<=492) (hB:B<=1000000000) :
  ∃hp' nx' F' ej,aY E 123 [.ptr rp 0 0,.v (.int .i64 kind),.str s] hp nx (match p.put kind s with|some r=>.bE [.v (.int .i64 r.1),.v (.int .i64 0)]|none=>.bE [.v (.int .i64 0),.v (.int .i64 6)]) hp' nx' .e /\
   ja hp' nx' rp rd F' (match p.put kind s with|some r=>r.2|none=>p) root ej (B+1)/\Fr F hp nx F' hp' nx'/\∀m,m<2->ej m=view m:=by
 have main:=an (P:=fun v hp' nx'=>v=(match p.put kind s with|some r=>.bE [.v (.int .i64 r.1),.v (.int .i64 0)]|none=>.bE [.v (.int .i64 0),.v (.int .i64 6)])/\∃F' ej,ja hp' nx' rp rd F' (match p.put kind s with|some r=>r.2|none=>p) root ej (B+1)/\Fr F hp nx F' hp' nx'/\∀m,m<2->ej m=view m)
  e123 (args:=[.ptr rp 0 0,iV kind,.str s]) rfl (hp:=hp) (nx:=nx) ?_
 ·obtain ⟨v,hp',nx',h1,rfl,F',ej,h2⟩:=main
  exact ⟨hp',nx',F',ej,h1,h2⟩
 ·have r1:=f54 h
  have hP:=h
  obtain ⟨cU,rm,Fd,h1,rfl⟩:=h
  have q:=h1.xF
  simp only[ep]at q
  have qg:=h1.yO
  obtain ⟨d1,d2,d3,d4,d5,d6⟩:=h1.ne
  have hg:=h1.gen
  have Lx:=h1.N4
  have YL:=h1.N
  have w1:IntKind.wrap .i64 ((p.gen:Int)+1)=((p.gen+1:Nat):Int):=by rw[aj]<;>omega
  have r2:=f127 kind (p.gen+1) s hk (by omega) hs
  simp[c123]
  refine ae r1 ?_
  simp[q,w1,-Int.natCast_add]
  refine ap (r2 _ _) ?_
  simp
  refine aM (I:=fun (n:Nat) t=>2<=n/\n<=p.st.length/\dL p.st p.st.length 2=dL p.st (p.st.length+2-n) n/\t.tm 11=iV n/\t.tm 0=.ptr rp 0 0/\t.tm 9=.rs false 1 (bytesOf (jh kind (p.gen+1) s)) (some 512)/\t.hp=hp/\t.nx=nx)
   (fun n=>p.st.length-n) 2 (by simp;omega) ?_
  rintro n tm hp1 nx1 ⟨BE,hnN,hff,t11,t0,t9,e1,e2⟩
  simp only at t11 t0 t9 e1 e2
  subst e1 e2
  by_cases az:n<p.st.length
  ·have CQ:(n:Int)<(p.st.length:Int):=by omega
   have pB:=nz az
   by_cases h0:(p.st.getD n (0,0)).1=0
   ·
    have hf:dL p.st p.st.length 2=some n:=by
     obtain ⟨f,F9⟩:∃f,p.st.length+2-n=f+1:=⟨p.st.length+1-n,by omega⟩
     rw[hff,F9];simp only[dL,az,h0,if_true]
    have lG:p.put kind s=some (n,{ p with st:=p.st.set n (2,(p.st.getD n (0,0)).2),rd:=fun m=>if m=n then some (kind,s) else p.rd m }):=by simp only[PM.put,hf]
    have BB:=Kz (kind:=kind) (gen:=p.gen+1) hs
    obtain ⟨aT,ar,S9,r3,hD,hF⟩:=f30 h1.hd (at':=n) az (x:=.rs false 1 (bytesOf (jh kind (p.gen+1) s)) (some 512)) (s:=jh kind (p.gen+1) s) (by simp[aJ,BB]) BB (fun _ _=>rfl) hB
    have nf:∀r,r<nx1->r∉Fd->aT r=hp1 r:=hF.ah
    have yF:∀r∈S9,r∈Fd\/nx1<=r:=hF.sub
    have bt:¬n=p.st.length:=by omega
    have WE:¬(n:Int)=(p.st.length:Int):=by omega
    have qq:aT rp=some [[.ptr rd 0 0,iV p.gen,.str root,.sl cU 2 0 p.st.length (some p.st.length),.mp rm,.v (.bool false)]]:=by rw[nf rp h1.lt.1 d4];exact q
    have qg2:aT cU=some (p.st.map iz):=by rw[nf cU h1.lt.2.1 d5];exact qg
    have qm2:aT rm=some (p.pins.map v8):=by rw[nf rm h1.lt.2.2 d6];exact h1.TT
    have gF:rp∉S9/\cU∉S9/\rm∉S9:=⟨fun e=>(yF _ e).elim d4 (by have:=h1.lt.1;omega),fun e=>(yF _ e).elim d5 (by have:=h1.lt.2.1;omega),fun e=>(yF _ e).elim d6 (by have:=h1.lt.2.2;omega)⟩
    have aeP:S9.Nodup:=by
     obtain ⟨rs,ra,rb,w,bY,ws,steps,g1,g2,_⟩:=hD
     rw[g2];exact g1.nd
    have hle:=hF.le
    have iO:xv aT ar rp rd cU rm S9 { p with rd:=fun m=>if m=n then some (kind,s) else p.rd m } root (fun m=>if m=n then jh kind (p.gen+1) s else view m) (B+1):=by
     refine ⟨by simp only[zp,zH,not_or];exact ⟨⟨d1,d2,gF.1⟩,⟨d3,gF.2.1⟩,gF.2.2,aeP⟩,⟨by have:=h1.lt.1;omega,by have:=h1.lt.2.1;omega,by have:=h1.lt.2.2;omega⟩,qq,qg2,qm2,h1.pins,hD,fun m m2 mN => ?_,h1.gen,h1.N4⟩
     show (if m=n then some (kind,s) else p.rd m)=(mA (if m=n then jh kind (p.gen+1) s else view m)).map fun x=>(x.1,x.2.2)
     by_cases e:m=n
     ·rw[if_pos e,if_pos e,KM hk (by omega) hs];rfl
     ·rw[if_neg e,if_neg e];exact h1.rdv m m2 mN
    have afl:ja aT ar rp rd (rp::cU::rm::S9) _ root _ (B+1):=⟨cU,rm,S9,iO,rfl⟩
    have r4:=f56 afl 0 (by omega)
    have ju:=iO.Ih (st:=p.st.set n (2,(p.st.getD n (0,0)).2)) (by simp)
    rw[lG]
    simp[t11,t0,t9,q,CQ,qg,pB,iz,h0,WE,-Int.ofNat_lt,-List.getD_eq_getElem?_getD]
    refine ae r3 ?_
    simp
    refine ae r4 ?_
    have lj:(p.st.map iz).set n [iV 2,.v (.int .i64 (p.st.getD n (0,0)).2)]=(p.st.set n (2,(p.st.getD n (0,0)).2)).map iz:=nw (s:=(2,(p.st.getD n (0,0)).2))
    simp[t11,t0,qq,CQ,qg2,pB,iz,aa,lj,-List.map_set,-Int.ofNat_lt,-List.getD_eq_getElem?_getD]
    refine ⟨_,_,⟨cU,rm,S9,ju,rfl⟩,⟨hle,fun r u1 u2 => ?_,fun r hr => ?_⟩,fun m hm=>by simp[show ¬m=n by omega]⟩
    ·simp only[zH,not_or]at u2
     simp[u2.2.1];exact nf r u1 u2.2.2.2
    ·simp only[zH]at hr ⊢
     rcases hr with hr|hr|hr|hr
     ·exact .inl (.inl hr)
     ·exact .inl (.inr (.inl hr))
     ·exact .inl (.inr (.inr (.inl hr)))
     ·exact (yF r hr).imp (fun e=>.inr (.inr (.inr e))) id
   ·have w2:IntKind.wrap .i64 ((n:Int)+1)=((n+1:Nat):Int):=by rw[aj]<;>omega
    simp[t11,t0,t9,q,CQ,qg,pB,iz,h0,w2,-Int.ofNat_lt,-List.getD_eq_getElem?_getD,-Int.natCast_add]
    refine ⟨n+1,by omega,by omega,by omega,?_,rfl⟩
    obtain ⟨f,F9⟩:∃f,p.st.length+2-n=f+1:=⟨p.st.length+1-n,by omega⟩
    rw[hff,F9,SD az h0];congr 1;omega
  ·have hn:n=p.st.length:=by omega
   have hf:dL p.st p.st.length 2=none:=by
    obtain ⟨f,F9⟩:∃f,p.st.length+2-n=f+1:=⟨p.st.length+1-n,by omega⟩
    rw[hff,F9];simp only[dL,az,if_false]
   have lG:p.put kind s=none:=by simp only[PM.put,hf]
   rw[lG]
   simp[t11,t0,q,hn]
   exact ⟨_,_,hP.more (by omega),.refl,fun _ _=>rfl⟩
theorem f73 {hp:Heap} {nx rp rd:Nat} {F:List Nat} {p:PM} {root:Bs} {view:Nat->Bs} {B:Nat} (h:ja hp nx rp rd F p root view B) (n:Nat) :
  ∃hp',aY E 73 [.ptr rp 0 0,.v (.int .i64 n)] hp nx (.v (.int .i64 (match p.drop n with|some _=>0|none=>3))) hp' nx .e/\ja hp' nx rp rd F ((p.drop n).getD p) root view B/\Fr F hp nx F hp' nx:=by
 have main:=an (P:=fun v hp' nx'=>v=.v (.int .i64 (match p.drop n with|some _=>0|none=>3))/\nx'=nx/\ja hp' nx rp rd F ((p.drop n).getD p) root view B/\Fr F hp nx F hp' nx) e73 (args:=[.ptr rp 0 0,.v (.int .i64 n)]) rfl (hp:=hp) (nx:=nx) ?_
 ·obtain ⟨v,hp',nx',h1,rfl,rfl,h2⟩:=main
  exact ⟨hp',h1,h2⟩
 ·have r1:=f54 h
  have r2:=f93 h n
  have hP:=h
  obtain ⟨cU,rm,Fd,h1,rfl⟩:=h
  have q:=h1.xF
  simp only[ep]at q
  have qg:=h1.yO
  have yV:∀b,Fr (rp::cU::rm::Fd) hp nx (rp::cU::rm::Fd) (ab hp cU b) nx:=fun b=>⟨zD _,fun r u1 u2=>by simp only[zH,not_or]at u2;simp[u2.2.1],fun r hr=>.inl hr⟩
  simp[c73]
  refine ae r1 ?_
  simp
  refine ae r2 ?_
  by_cases hh:p.has n=true
  ·have hn:2<=n/\n<p.st.length:=by simpa [PM.has] using hh
   have CQ:(n:Int)<(p.st.length:Int):=by omega
   have hg:=nz hn.2
   by_cases h2:p.is n=2
   ·have AD:(p.st.getD n (0,0)).1=2:=h2
    have tl:p.drop n=some (p.set n (0,0)):=by simp[PM.drop,hh,h2]
    rw[tl]
    have lj:(p.st.map iz).set n [iV 0,iV 0]=(p.st.set n (0,0)).map iz:=nw (s:=(0,0))
    simp[hh,q,CQ,qg,hg,iz,AD,aa,lj,-List.map_set,-Int.ofNat_lt,-List.getD_eq_getElem?_getD]
    exact ⟨⟨cU,rm,Fd,h1.Ih (by simp),rfl⟩,yV _⟩
   ·have AD:¬(p.st.getD n (0,0)).1=2:=h2
    have Hx:¬((p.st.getD n (0,0)).1:Int)=2:=by omega
    by_cases h3:p.is n=1
    ·have Sz:(p.st.getD n (0,0)).1=1:=h3
     have tl:p.drop n=some (p.set n (3,(p.st.getD n (0,0)).2)):=by simp only[PM.drop,hh,h3,if_true];simp
     rw[tl]
     have lj:(p.st.map iz).set n [iV 3,.v (.int .i64 (p.st.getD n (0,0)).2)]=(p.st.set n (3,(p.st.getD n (0,0)).2)).map iz:=nw (s:=(3,(p.st.getD n (0,0)).2))
     simp[hh,q,CQ,qg,hg,iz,Sz,-Int.ofNat_lt,-List.getD_eq_getElem?_getD]
     refine ae r2 ?_
     simp[hh,q,CQ,qg,hg,iz,Sz,aa,lj,-List.map_set,-Int.ofNat_lt,-List.getD_eq_getElem?_getD]
     exact ⟨⟨cU,rm,Fd,h1.Ih (by simp),rfl⟩,yV _⟩
    ·have Sz:¬(p.st.getD n (0,0)).1=1:=h3
     have YN:¬((p.st.getD n (0,0)).1:Int)=1:=by omega
     have tl:p.drop n=none:=by simp[PM.drop,hh,h2,h3]
     rw[tl]
     simp[hh,q,CQ,qg,hg,iz,Hx,-Int.ofNat_lt,-List.getD_eq_getElem?_getD]
     refine ae r2 ?_
     simp[hh,q,CQ,qg,hg,iz,YN,-Int.ofNat_lt,-List.getD_eq_getElem?_getD]
     exact ⟨hP,.refl⟩
  ·have Sk:p.has n=false:=by simpa using hh
   have tl:p.drop n=none:=by simp[PM.drop,Sk]
   rw[tl]
   simp[Sk]
   refine ae r2 ?_
   simp[Sk]
   exact ⟨hP,.refl⟩
end Go.Ai
namespace Go.Ai
open Go.Bt
section
variable {R:aQ} {tm:Nat->AV} {hp:Heap} {nx:Nat} {K:AV->Heap->Nat->Kd->Prop}
def CB (m:AV) (hp:Heap) (nx:Nat):Option (AV×Heap×Nat):=match m with
  |.mp r=>match hp r with
   |some es=>some (.tk 0 nx r,ab (ab (ab hp nx (some ([.v (.int .i64 0)]::es.map fun _=>[.v (.bool true)]))) r none) (nx+1) (some es),nx+2)
   |none=>none
  |_=>none
@[simp ↓] theorem XW {m}:ey R (.sP m) ⟨tm,hp,nx⟩ K=yu (CB (ev tm m) hp nx) K:=dX nofun nofun rfl rfl
theorem KW {hp:Heap} {r nx:Nat} {es:bN} (h:hp r=some es):CB (.mp r) hp nx=some (.tk 0 nx r,ab (ab (ab hp nx (some ([iV 0]::es.map fun _=>[.v (.bool true)]))) r none) (nx+1) (some es),nx+2):=by simp only[CB,h]
def yv (x:AV) (hp:Heap) (nx:Nat):Option (AV×Heap×Nat):=match x with
  |.tk 0 q r=>match hp q,hp (q+1) with
   |some (_::fl),some es=>match ij fl 0 with
    |[]=>some (.bE [.v (.bool false)],ab (ab (ab hp q none) (q+1) none) r (some es),nx)
    |[j]=>match es[j]? with
     |some [k,v]=>some (.bE [.v (.bool true),k,v],ab hp q (some ([.v (.int .i64 (j+1:Nat))]::fl.set j [.v (.bool false)])),nx)
     |_=>none
    |_=>none
   |_,_=>none
  |_=>none
@[simp ↓] theorem Zq {x}:ey R (.tJ x) ⟨tm,hp,nx⟩ K=yu (yv (ev tm x) hp nx) K:=dX nofun nofun rfl rfl
theorem Bn {hp:Heap} {q r nx:Nat} {a:List AV} {fl es:bN} (h1:hp q=some (a::fl)) (h2:hp (q+1)=some es) (h:ij fl 0=[]):yv (.tk 0 q r) hp nx=some (.bE [.v (.bool false)],ab (ab (ab hp q none) (q+1) none) r (some es),nx):=by simp only[yv,h1,h2,h]
theorem KX {hp:Heap} {q r nx j:Nat} {a:List AV} {fl es:bN} {k v:AV} (h1:hp q=some (a::fl)) (h2:hp (q+1)=some es) (h:ij fl 0=[j]) (he:es[j]?=some [k,v]) :
  yv (.tk 0 q r) hp nx=some (.bE [.v (.bool true),k,v],ab hp q (some ([.v (.int .i64 (j+1:Nat))]::fl.set j [.v (.bool false)])),nx):=by simp only[yv,h1,h2,h,he]
def GX (x:AV) (hp:Heap) (nx:Nat):Option (AV×Heap×Nat):=match x with
  |.tk 0 q r=>match hp q,hp (q+1) with
   |some ([.v (.int .i64 n)]::_),some es=>if 0<n then
     match es[n.toNat-1]? with
     |some [k,v]=>some (.bE [k,v],hp,nx)
     |_=>none
    else none
   |_,_=>none
  |_=>none
@[simp ↓] theorem Zt {x}:ey R (.yx x) ⟨tm,hp,nx⟩ K=yu (GX (ev tm x) hp nx) K:=dX nofun nofun rfl rfl
theorem M5 {hp:Heap} {q r nx:Nat} {n:Int} {fl es:bN} {k v:AV} (h1:hp q=some ([iV n]::fl)) (h2:hp (q+1)=some es) (h:0<n) (he:es[n.toNat-1]?=some [k,v]):GX (.tk 0 q r) hp nx=some (.bE [k,v],hp,nx):=by simp only[GX,h1,h2,h,he,if_true]
end
theorem f89 {hp:Heap} {nx rp rd:Nat} {F:List Nat} {p:PM} {root:Bs} {view:Nat->Bs} {B:Nat} (h:ja hp nx rp rd F p root view B) (hg:∀g∈p.pins,g<=1000000000000) :
  ∃hp' nx',aY E 89 [.ptr rp 0 0] hp nx (iV p.low) hp' nx' .e/\Ro hp nx hp' nx':=by
 have main:=an (P:=fun v hp' nx'=>v=iV p.low/\Ro hp nx hp' nx') e89 (args:=[.ptr rp 0 0]) rfl (hp:=hp) (nx:=nx) ?_
 ·obtain ⟨v,hp',nx',h1,rfl,h2⟩:=main
  exact ⟨hp',nx',h1,h2⟩
 ·obtain ⟨cU,rm,Fd,h1,rfl⟩:=h
  have q:=h1.xF
  simp only[ep]at q
  have qm:=h1.TT
  have hm:=h1.lt.2.2
  have Lm:=h1.pins
  have m1:=fun nx=>KW (nx:=nx) qm
  simp[c89,q,m1]
  generalize cW:p.pins.map v8=es at *
  have b1:¬nx=rm:=by omega
  have b2:¬nx+1=rm:=by omega
  match oC:p.pins,Lm with
  |[],_ =>
   have N0:es=[]:=by rw[<-cW,oC];rfl
   subst N0
   have tP:p.low=9223372036854775807:=by simp[PM.low,oC]
   refine aM (I:=fun (j:Nat) s=>s=(⟨s.tm,ab (ab (ab hp nx (some [[iV 0]])) rm none) (nx+1) (some []),nx+2⟩:St)/\s.tm 9=.tk 0 nx rm/\s.tm 3=iV 9223372036854775807) (fun _=>0) 0 (by simp) ?_
   rintro j tm hp1 nx1 ⟨e,t9,t3⟩
   simp only[St.mk.injEq,true_and]at e t9 t3
   obtain ⟨rfl,rfl⟩:=e
   have m2:=Bn (hp:=ab (ab (ab hp nx (some [[iV 0]])) rm none) (nx+1) (some [])) (q:=nx) (r:=rm) (nx:=nx+2) (a:=[iV 0]) (fl:=[]) (es:=[]) (by simp[b1]) (by simp) rfl
   simp[t9,m2,t3,tP]
   refine ⟨by omega,fun r hr => ?_⟩
   by_cases e:r=rm
   ·subst e;simp[qm]
   ·simp[e,show ¬r=nx by omega,show ¬r=nx+1 by omega]
  |[g],_ =>
   have N0:es=[v8 g]:=by rw[<-cW,oC];rfl
   subst N0
   have hgg:=hg g (by simp[oC])
   have tP:p.low=g:=by
    have:Nat.min 9223372036854775807 g=g:=Nat.min_eq_right (by omega)
    simp[PM.low,oC,this]
   refine aM (I:=fun (j:Nat) s=>(j=0/\s.hp=ab (ab (ab hp nx (some [[iV 0],[.v (.bool true)]])) rm none) (nx+1) (some [v8 g])/\s.nx=nx+2/\s.tm 9=.tk 0 nx rm/\s.tm 3=iV 9223372036854775807) \/
    (j=1/\s.hp=ab (ab (ab (ab hp nx (some [[iV 0],[.v (.bool true)]])) rm none) (nx+1) (some [v8 g])) nx (some [[iV 1],[.v (.bool false)]])/\s.nx=nx+2/\s.tm 9=.tk 0 nx rm/\s.tm 3=iV g)) (fun j=>1-j) 0 (.inl (by simp)) ?_
   rintro j tm hp1 nx1 (⟨rfl,e1,e2,t9,t3⟩|⟨rfl,e1,e2,t9,t3⟩)
   ·simp only at e1 e2 t9 t3
    subst e1 e2
    have m2:=KX (hp:=ab (ab (ab hp nx (some [[iV 0],[.v (.bool true)]])) rm none) (nx+1) (some [v8 g])) (q:=nx) (r:=rm) (nx:=nx+2) (a:=[iV 0]) (fl:=[[.v (.bool true)]]) (es:=[v8 g]) (k:=iV g) (v:=iV 1) (j:=0) (by simp[b1]) (by simp) rfl rfl
    have m3:=M5 (hp:=ab (ab (ab (ab hp nx (some [[iV 0],[.v (.bool true)]])) rm none) (nx+1) (some [v8 g])) nx (some [[iV 1],[.v (.bool false)]])) (q:=nx) (r:=rm) (nx:=nx+2) (n:=1) (fl:=[[.v (.bool false)]]) (es:=[v8 g]) (k:=iV g) (v:=iV 1) (by simp) (by simp) (by omega) rfl
    have az:(g:Int)<9223372036854775807:=by omega
    simp[t9,m2,m3,t3,az]
    exact ⟨1,by omega,.inr ⟨rfl,by omega⟩⟩
   ·simp only at e1 e2 t9 t3
    subst e1 e2
    have m2:=Bn (hp:=ab (ab (ab (ab hp nx (some [[iV 0],[.v (.bool true)]])) rm none) (nx+1) (some [v8 g])) nx (some [[iV 1],[.v (.bool false)]])) (q:=nx) (r:=rm) (nx:=nx+2) (a:=[iV 1]) (fl:=[[.v (.bool false)]]) (es:=[v8 g]) (by simp) (by simp) rfl
    simp[t9,m2,t3,tP]
    refine ⟨by omega,fun r hr => ?_⟩
    by_cases e:r=rm
    ·subst e;simp[qm]
    ·simp[e,show ¬r=nx by omega,show ¬r=nx+1 by omega]
  |_::_::_,h=>simp at h
end Go.Ai
namespace Go.Ai
open Go.Bt
def eY (f:Nat×Nat->Nat×Nat) (st:List (Nat×Nat)) (j:Nat):List (Nat×Nat):=(st.take j).map f++st.drop j
theorem uF {f st j}:(eY f st j).length=st.length:=by simp[eY];omega
theorem GI {f st}:eY f st 0=st:=by simp[eY]
theorem KI {f} {st:List (Nat×Nat)}:eY f st st.length=st.map f:=by simp[eY]
theorem rD {f} {st:List (Nat×Nat)} {j:Nat} (h:j<st.length):(eY f st j).getD j (0,0)=st.getD j (0,0):=by
 simp only[eY,List.getD_eq_getElem?_getD]
 rw[za (by simp;omega)]
 simp
 congr 2;omega
theorem rC {f} {st:List (Nat×Nat)} {j:Nat} (h:j<st.length):(eY f st j).set j (f (st.getD j (0,0)))=eY f st (j+1):=by
 have hl:((st.take j).map f).length=j:=by simp;omega
 simp only[eY]
 rw[List.set_append_right _ _ (by omega),hl,Nat.sub_self,zO h,List.set_cons_zero,zz,zA h,zg]
 simp[h]
theorem sL {f} {st:List (Nat×Nat)} {j:Nat} (h:j<st.length) (hf:f (st.getD j (0,0))=st.getD j (0,0)):eY f st j=eY f st (j+1):=by
 rw[<-rC h,hf]
 refine List.ext_getElem (by simp) fun i h1 h2 => ?_
 rw[List.getElem_set]
 split
 ·rename_i e;subst e
  have:=rD (f:=f) h
  simp only[List.getD_eq_getElem?_getD,zA h1,wJ]at this ⊢
  exact this
 ·rfl
theorem Ot (l:List Nat):∀a:Nat,l.foldl Nat.min a<=a:=by
 induction l with
 |nil=>intro a;exact zD _
 |cons x l ih=>intro a;exact wF (ih _) (Nat.min_le_left a x)
theorem xv.low {p:PM} (hp:p.pins.length<=1):p.low<=9223372036854775807:=Ot p.pins _
structure Rk (hp:Heap) (nx:Nat) (f:Nat×Nat->Nat×Nat) (rp rd cU rm:Nat) (Fd:List Nat) (p:PM) (root:Bs) (view:Nat->Bs) (B j:Nat) (hp':Heap) (nx':Nat):Prop where
 le:nx<=nx'
 pg:hp' cU=some ((eY f p.st j).map iz)
 ah:∀r,r<nx->r≠cU->hp' r=hp r
theorem Rk.start {hp nx f rp rd cU rm Fd p root view B} (h:xv hp nx rp rd cU rm Fd p root view B):Rk hp nx f rp rd cU rm Fd p root view B 0 hp nx:=⟨zD _,by rw[GI];exact h.yO,fun _ _ _=>rfl⟩
theorem Rk.done {hp nx f rp rd cU rm Fd p root view B hp' nx'} (h:xv hp nx rp rd cU rm Fd p root view B) (k:Rk hp nx f rp rd cU rm Fd p root view B p.st.length hp' nx'):xv hp' nx' rp rd cU rm Fd { p with st:=p.st.map f } root view B/\Fr (rp::cU::rm::Fd) hp nx (rp::cU::rm::Fd) hp' nx':=by
 obtain ⟨k1,k2,k3⟩:=k
 obtain ⟨a,b,c,d,e,g⟩:=h.ne
 have yO:=k2
 rw[KI]at yO
 refine ⟨⟨h.nd,⟨by have:=h.lt.1;omega,by have:=h.lt.2.1;omega,by have:=h.lt.2.2;omega⟩,?_,yO,by rw[k3 rm h.lt.2.2 (Ne.symm c)];exact h.TT,h.pins,?_,fun m h1 h2=>h.rdv m h1 (by simpa using h2),h.gen,by simpa using h.N4⟩,⟨k1,fun r u1 u2 => ?_,fun r hr=>.inl hr⟩⟩
 ·simp only[zZ];rw[k3 rp h.lt.1 a];exact h.xF
 ·simp only[zZ]
  exact h.hd.ah k1 fun r hr=>k3 r (h.hd.lt r hr) fun e'=>e (e'▸hr)
 ·simp only[zH,not_or]at u2
  exact k3 r u1 u2.2.1
theorem f58 {hp:Heap} {nx rp rd:Nat} {F:List Nat} {p:PM} {root:Bs} {view:Nat->Bs} {B:Nat} (h:ja hp nx rp rd F p root view B) (hg:∀g∈p.pins,g<=1000000000000) :
  ∃hp' nx',aY E 58 [.ptr rp 0 0] hp nx (.bE []) hp' nx' .e/\ja hp' nx' rp rd F { p with st:=p.st.map (cP p.low) } root view B/\Fr F hp nx F hp' nx':=by
 have main:=an (P:=fun v hp' nx'=>v=.bE []/\ja hp' nx' rp rd F { p with st:=p.st.map (cP p.low) } root view B/\Fr F hp nx F hp' nx') e58 (args:=[.ptr rp 0 0]) rfl (hp:=hp) (nx:=nx) ?_
 ·obtain ⟨v,hp',nx',h1,rfl,h2⟩:=main
  exact ⟨hp',nx',h1,h2⟩
 ·obtain ⟨oC,nx0,r1,ro⟩:=f89 h hg
  have h':=h.ro ro
  have yV:=ro.fr F
  clear h
  obtain ⟨cU,rm,Fd,h1,rfl⟩:=h'
  have q:=h1.xF
  simp only[ep]at q
  have YL:=h1.N
  have hl:=xv.low h1.pins
  have az:=h1.lt
  simp[c58]
  refine ae r1 ?_
  simp[q]
  refine aM (I:=fun (j:Nat) s=>j<=p.st.length/\s.tm 12=iV j/\s.tm 11=iV p.st.length/\s.tm 10=.sl cU 2 0 p.st.length (some p.st.length)/\s.tm 0=.ptr rp 0 0/\s.tm 2=iV p.low/\Rk oC nx0 (cP p.low) rp rd cU rm Fd p root view B j s.hp s.nx)
   (fun j=>p.st.length-j) 0 (by simp;exact .start h1) ?_
  rintro j tm hp1 nx1 ⟨hj,t12,t11,t10,t0,t2,hL⟩
  simp only at t12 t11 t10 t0 t2 hL
  obtain ⟨k1,k2,k3⟩:=hL
  by_cases fN:j<p.st.length
  ·have AP:(j:Int)<(p.st.length:Int):=by omega
   have pB:=nz (st:=eY (cP p.low) p.st j) (n:=j) (by rw[uF];exact fN)
   rw[rD fN]at pB
   have w1:IntKind.wrap .i64 ((j:Int)+1)=((j+1:Nat):Int):=by rw[aj]<;>omega
   have b1:¬cU=nx1:=by omega
   have b2:¬rp=nx1:=by omega
   have b3:¬rp=cU:=h1.ne.1
   have q1:hp1 rp=some [[.ptr rd 0 0,iV p.gen,.str root,.sl cU 2 0 p.st.length (some p.st.length),.mp rm,.v (.bool false)]]:=by rw[k3 rp az.1 b3];exact q
   have lj:=rC (f:=cP p.low) fN
   have yT:=sL (f:=cP p.low) fN
   generalize p.st.getD j (0,0)=s at *
   by_cases h4:s.1=4
   ·have h4I:(s.1:Int)=4:=by omega
    by_cases hle:s.2<=p.low
    ·have aeW:(s.2:Int)<=(p.low:Int):=by omega
     have EH:cP p.low s=(0,0):=by simp[cP,h4,hle]
     rw[EH]at lj
     have tO:((eY (cP p.low) p.st j).map iz).set j [iV 0,iV 0]=(eY (cP p.low) p.st (j+1)).map iz:=by rw[<-lj];exact nw (s:=(0,0))
     simp[t12,t11,t10,t0,t2,AP,k2,pB,iz,aa,b1,b2,q1,h4,hle,w1,tO,aG,-List.map_set,-Int.ofNat_lt,-Int.natCast_add]
     exact ⟨j+1,by omega,by omega,rfl,⟨by omega,by simp,fun r u1 u2=>by simp[u2,show ¬r=nx1 by omega];exact k3 r u1 u2⟩⟩
    ·have aeW:¬(s.2:Int)<=(p.low:Int):=by omega
     have EH:cP p.low s=s:=by simp[cP,hle]
     have CR:=yT EH
     simp[t12,t11,t10,t0,t2,AP,k2,pB,iz,aa,b1,b2,q1,h4,hle,w1,aG,-List.map_set,-Int.ofNat_lt,-Int.natCast_add]
     exact ⟨j+1,by omega,by omega,rfl,⟨by omega,by simp[b1];rw[<-CR];exact k2,fun r u1 u2=>by simp[show ¬r=nx1 by omega];exact k3 r u1 u2⟩⟩
   ·have h4I:¬(s.1:Int)=4:=by omega
    have EH:cP p.low s=s:=by simp[cP,h4]
    have CR:=yT EH
    simp[t12,t11,t10,t0,t2,AP,k2,pB,iz,aa,b1,b2,q1,h4I,w1,aG,-List.map_set,-Int.ofNat_lt,-Int.natCast_add]
    exact ⟨j+1,by omega,by omega,rfl,⟨by omega,by simp[b1];rw[<-CR];exact k2,fun r u1 u2=>by simp[show ¬r=nx1 by omega];exact k3 r u1 u2⟩⟩
  ·have:j=p.st.length:=by omega
   subst this
   obtain ⟨d1,d2⟩:=Rk.done h1 (f:=cP p.low) ⟨k1,k2,k3⟩
   simp[t12,t11]
   exact ⟨⟨cU,rm,Fd,d1,rfl⟩,yV.trans d2⟩
end Go.Ai
namespace Go.Ai
open Go.Bt
theorem nZ.nodup {hp nx rd F N view B} (h:nZ hp nx rd F N view B):F.Nodup:=by
 obtain ⟨rs,ra,rb,w,bY,ws,steps,g1,g2,_⟩:=h
 rw[g2];exact g1.nd
theorem xv.Xw {hp nx rp rd cU rm Fd p root view B} (h:xv hp nx rp rd cU rm Fd p root view B) {hp' nx' X5 ej B'} (hD:nZ hp' nx' rd X5 p.st.length ej B') (hF:Fr Fd hp nx X5 hp' nx') (hv:∀m,2<=m->m<p.st.length->ej m=view m) :
  xv hp' nx' rp rd cU rm X5 p root ej B'/\Fr (rp::cU::rm::Fd) hp nx (rp::cU::rm::X5) hp' nx':=by
 obtain ⟨d1,d2,d3,d4,d5,d6⟩:=h.ne
 obtain ⟨l1,l2,l3⟩:=h.lt
 have hle:=hF.le
 have gF:rp∉X5/\cU∉X5/\rm∉X5:=⟨fun e=>(hF.sub _ e).elim d4 (by omega),fun e=>(hF.sub _ e).elim d5 (by omega),fun e=>(hF.sub _ e).elim d6 (by omega)⟩
 refine ⟨⟨by simp only[zp,zH,not_or];exact ⟨⟨d1,d2,gF.1⟩,⟨d3,gF.2.1⟩,gF.2.2,hD.nodup⟩,⟨by omega,by omega,by omega⟩,by rw[hF.ah rp l1 d4];exact h.xF,by rw[hF.ah cU l2 d5];exact h.yO,by rw[hF.ah rm l3 d6];exact h.TT,h.pins,hD,fun m a b=>by rw[hv m a b];exact h.rdv m a b,h.gen,h.N4⟩,
  ⟨hle,fun r u1 u2=>by simp only[zH,not_or]at u2;exact hF.ah r u1 u2.2.2.2,fun r hr => ?_⟩⟩
 simp only[zH]at hr ⊢
 rcases hr with hr|hr|hr|hr
 ·exact .inl (.inl hr)
 ·exact .inl (.inr (.inl hr))
 ·exact .inl (.inr (.inr (.inl hr)))
 ·exact (hF.sub r hr).imp (fun e=>.inr (.inr (.inr e))) id
theorem xv.row {hp nx rp rd cU rm Fd p root view B} (h:xv hp nx rp rd cU rm Fd p root view B) {g:Nat} {root':Bs} (hg:g<=1000000000000):xv (ab hp rp (some (ep rd g root' cU p.st.length rm))) nx rp rd cU rm Fd { p with gen:=g } root' view B/\Fr (rp::cU::rm::Fd) hp nx (rp::cU::rm::Fd) (ab hp rp (some (ep rd g root' cU p.st.length rm))) nx:=by
 obtain ⟨d1,d2,d3,d4,d5,d6⟩:=h.ne
 refine ⟨⟨h.nd,h.lt,by simp,by simp[Ne.symm d1,h.yO],by simp[Ne.symm d2,h.TT],h.pins,h.hd.ah (zD _) fun r hr=>by simp[show ¬r=rp from fun e=>d4 (e▸hr)],h.rdv,hg,h.N4⟩,⟨zD _,fun r u1 u2 => ?_,fun r hr=>.inl hr⟩⟩
 simp only[zH,not_or]at u2
 simp[u2.1]
theorem f28 {hp:Heap} {nx rp rd:Nat} {F:List Nat} {p:PM} {root:Bs} {view:Nat->Bs} {B:Nat} (h:ja hp nx rp rd F p root view B) {s:Bs} (hs:s.length<=490) (WY:p.gen+1<=1000000000000) (hg:∀g∈p.pins,g<=1000000000000) (hB:B<=1000000000) :
  ∃hp' nx' F',aY E 28 [.ptr rp 0 0,.str s] hp nx (iV 0) hp' nx' .e/\ja hp' nx' rp rd F' p.ch s (fun m=>if m=(p.gen+1) % 2 then eo (p.gen+1) s else view m) 0/\Fr F hp nx F' hp' nx':=by
 have main:=an (P:=fun v hp' nx'=>v=iV 0/\∃F',ja hp' nx' rp rd F' p.ch s (fun m=>if m=(p.gen+1) % 2 then eo (p.gen+1) s else view m) 0/\Fr F hp nx F' hp' nx') e28 (args:=[.ptr rp 0 0,.str s]) rfl (hp:=hp) (nx:=nx) ?_
 ·obtain ⟨v,hp',nx',h1,rfl,F',h2⟩:=main
  exact ⟨hp',nx',F',h1,h2⟩
 ·have r1:=f54 h
  obtain ⟨cU,rm,Fd,h1,rfl⟩:=h
  have q:=h1.xF
  simp only[ep]at q
  have Lx:=h1.N4
  have YL:=h1.N
  have w1:IntKind.wrap .i64 ((p.gen:Int)+1)=((p.gen+1:Nat):Int):=by rw[aj]<;>omega
  have r2:=f55 (p.gen+1) s (by omega) (by omega) hs
  have DK:(eo (p.gen+1) s).length=512:=Bb hs
  obtain ⟨Wz,MS,Fa,ra,hDa,hFa⟩:=f57 h1.hd hB
  obtain ⟨ha,hfa⟩:=h1.Xw hDa hFa (fun _ _ _=>rfl)
  have qa:=ha.xF
  simp only[ep]at qa
  have ra':=f56 (⟨cU,rm,Fa,ha,rfl⟩:ja Wz MS rp rd _ p root view 0) 0 (by omega)
  have DM:(p.gen+1) % 2<p.st.length:=by have:=jC (p.gen+1) (show 0<2 by omega);omega
  obtain ⟨hpb,nxb,Fb,rb,hDb,hFb⟩:=f30 ha.hd (at':=(p.gen+1) % 2) DM (x:=.rs false 1 (bytesOf (eo (p.gen+1) s)) (some 512)) (s:=eo (p.gen+1) s) (by simp[aJ,DK]) DK (fun _ _=>rfl) (by omega)
  obtain ⟨hb,hfb⟩:=ha.Xw hDb hFb (fun m m2 _=>by rw[if_neg];have:=jC (p.gen+1) (show 0<2 by omega);omega)
  have qb:=hb.xF
  simp only[ep]at qb
  have rb':=f56 (⟨cU,rm,Fb,hb,rfl⟩:ja hpb nxb rp rd _ p root _ _) 0 (by omega)
  obtain ⟨hpc,nxc,Fc,rc,hDc,hFc⟩:=f57 hb.hd (by omega)
  obtain ⟨hc,hfc⟩:=hb.Xw hDc hFc (fun _ _ _=>rfl)
  have qc:=hc.xF
  simp only[ep]at qc
  have rc':=f56 (⟨cU,rm,Fc,hc,rfl⟩:ja hpc nxc rp rd _ p root _ _) 0 (by omega)
  obtain ⟨hd,hfd⟩:=hc.row (g:=p.gen+1) (root':=s) WY
  have eI:ab (ab hpc rp (some [[.ptr rd 0 0,iV (p.gen+1:Nat),.str root,.sl cU 2 0 p.st.length (some p.st.length),.mp rm,.v (.bool false)]])) rp (some [[.ptr rd 0 0,iV (p.gen+1:Nat),.str s,.sl cU 2 0 p.st.length (some p.st.length),.mp rm,.v (.bool false)]])=ab hpc rp (some (ep rd (p.gen+1) s cU p.st.length rm)):=aG
  have NN:(((p.gen+1:Nat):Int)).tmod 2=(((p.gen+1) % 2:Nat):Int):=by rw[Int.tmod_eq_emod_of_nonneg (by omega)];omega
  simp[c28]
  refine ae r1 ?_
  simp[q,w1,-Int.natCast_add]
  refine ap (r2 _ _) ?_
  simp[q]
  refine ae ra ?_
  simp
  refine ae ra' ?_
  simp[qa,w1,NN,-Int.natCast_add,-Int.natCast_emod]
  refine ae rb ?_
  simp
  refine ae rb' ?_
  simp[qb]
  refine ae rc ?_
  simp
  refine ae rc' ?_
  have IZ:=((hfa.trans hfb).trans hfc).trans hfd
  generalize hH:ab hpc rp (some (ep rd (p.gen+1) s cU p.st.length rm))=H at *
  have qd:=hd.xF
  simp only[ep]at qd
  simp[qc,w1,aa,eI,qd,-Int.natCast_add]
  have aeT:=hd.lt
  have aeN:=hd.ne
  refine aM (I:=fun (j:Nat) t=>j<=p.st.length/\t.tm 84=iV j/\t.tm 83=iV p.st.length/\t.tm 82=.sl cU 2 0 p.st.length (some p.st.length)/\t.tm 0=.ptr rp 0 0/\Rk H nxc (cR (p.gen+1)) rp rd cU rm Fc { p with gen:=p.gen+1 } s (fun m=>if m=(p.gen+1) % 2 then eo (p.gen+1) s else view m) 0 j t.hp t.nx)
   (fun j=>p.st.length-j) 0 ?_ ?_
  ·simp
   exact .start hd
  rintro j tm hp1 nx1 ⟨hj,t84,t83,t82,t0,hL⟩
  simp only at t84 t83 t82 t0 hL
  obtain ⟨k1,k2,k3⟩:=hL
  simp only at k2
  by_cases fN:j<p.st.length
  ·have AP:(j:Int)<(p.st.length:Int):=by omega
   have pB:=nz (st:=eY (cR (p.gen+1)) p.st j) (n:=j) (by rw[uF];exact fN)
   rw[rD fN]at pB
   have w2:IntKind.wrap .i64 ((j:Int)+1)=((j+1:Nat):Int):=by rw[aj]<;>omega
   have b1:¬cU=nx1:=by omega
   have b2:¬rp=nx1:=by omega
   have b3:¬rp=cU:=aeN.1
   have q1:hp1 rp=some [[.ptr rd 0 0,iV (p.gen+1:Nat),.str s,.sl cU 2 0 p.st.length (some p.st.length),.mp rm,.v (.bool false)]]:=by rw[k3 rp aeT.1 b3];exact qd
   have lj:=rC (f:=cR (p.gen+1)) fN
   have yT:=sL (f:=cR (p.gen+1)) fN
   generalize p.st.getD j (0,0)=u at *
   by_cases h2:u.1=2
   ·have Hx:(u.1:Int)=2:=by omega
    have EH:cR (p.gen+1) u=(1,u.2):=by simp[cR,h2]
    rw[EH]at lj
    have tO:((eY (cR (p.gen+1)) p.st j).map iz).set j [iV 1,iV u.2]=(eY (cR (p.gen+1)) p.st (j+1)).map iz:=by rw[<-lj];exact nw (s:=(1,u.2))
    simp[t84,t83,t82,t0,AP,k2,pB,iz,aa,b1,b2,q1,h2,w2,tO,aG,-List.map_set,-Int.ofNat_lt,-Int.natCast_add]
    exact ⟨j+1,by omega,by omega,rfl,⟨by omega,by simp,fun r u1 u2=>by simp[u2,show ¬r=nx1 by omega];exact k3 r u1 u2⟩⟩
   ·have Hx:¬(u.1:Int)=2:=by omega
    by_cases h3:u.1=3
    ·have YN:(u.1:Int)=3:=by omega
     have EH:cR (p.gen+1) u=(4,p.gen+1):=by simp[cR,h3]
     rw[EH]at lj
     have tO:((eY (cR (p.gen+1)) p.st j).map iz).set j [iV 4,iV (p.gen+1:Nat)]=(eY (cR (p.gen+1)) p.st (j+1)).map iz:=by rw[<-lj];exact nw (s:=(4,p.gen+1))
     simp[t84,t83,t82,t0,AP,k2,pB,iz,aa,b1,b2,q1,h3,w2,tO,aG,-List.map_set,-Int.ofNat_lt,-Int.natCast_add]
     exact ⟨j+1,by omega,by omega,rfl,⟨by omega,by simp,fun r u1 u2=>by simp[u2,show ¬r=nx1 by omega];exact k3 r u1 u2⟩⟩
    ·have YN:¬(u.1:Int)=3:=by omega
     have EH:cR (p.gen+1) u=u:=by simp[cR,h2,h3]
     have CR:=yT EH
     simp[t84,t83,t82,t0,AP,k2,pB,iz,aa,b1,b2,q1,Hx,YN,w2,aG,-List.map_set,-Int.ofNat_lt,-Int.natCast_add]
     exact ⟨j+1,by omega,by omega,rfl,⟨by omega,by simp[b1];rw[<-CR];exact k2,fun r u1 u2=>by simp[show ¬r=nx1 by omega];exact k3 r u1 u2⟩⟩
  ·have:j=p.st.length:=by omega
   subst this
   obtain ⟨d1,d2⟩:=Rk.done hd (f:=cR (p.gen+1)) ⟨k1,k2,k3⟩
   obtain ⟨hpe,nxe,re,he,F9⟩:=f58 (⟨cU,rm,Fc,d1,rfl⟩:ja hp1 nx1 rp rd _ _ s _ _) hg
   simp[t84,t83,t0]
   refine ae re ?_
   simp
   exact ⟨_,he,(IZ.trans d2).trans F9⟩
end Go.Ai
namespace Go.Ai
open Go.Bt
theorem f53 {hp:Heap} {nx rp rd:Nat} {F:List Nat} {p:PM} {root:Bs} {view:Nat->Bs} {B:Nat} (h:ja hp nx rp rd F p root view B) :
  ∃hp' nx',aY E 53 [.ptr rp 0 0] hp nx (.bE []) hp' nx' .e/\ja hp' nx' rp rd F p.gP root view B/\Fr F hp nx F hp' nx':=by
 have main:=an (P:=fun v hp' nx'=>v=.bE []/\ja hp' nx' rp rd F p.gP root view B/\Fr F hp nx F hp' nx') e53 (args:=[.ptr rp 0 0]) rfl (hp:=hp) (nx:=nx) ?_
 ·obtain ⟨v,hp',nx',h1,rfl,h2⟩:=main
  exact ⟨hp',nx',h1,h2⟩
 ·obtain ⟨cU,rm,Fd,h1,rfl⟩:=h
  have q:=h1.xF
  simp only[ep]at q
  have YL:=h1.N
  have az:=h1.lt
  simp[c53,q]
  refine aM (I:=fun (j:Nat) s=>j<=p.st.length/\s.tm 11=iV j/\s.tm 10=iV p.st.length/\s.tm 9=.sl cU 2 0 p.st.length (some p.st.length)/\s.tm 0=.ptr rp 0 0/\Rk hp nx eA rp rd cU rm Fd p root view B j s.hp s.nx)
   (fun j=>p.st.length-j) 0 ?_ ?_
  ·simp
   exact .start h1
  rintro j tm hp1 nx1 ⟨hj,t11,t10,t9,t0,hL⟩
  simp only at t11 t10 t9 t0 hL
  obtain ⟨k1,k2,k3⟩:=hL
  by_cases fN:j<p.st.length
  ·have AP:(j:Int)<(p.st.length:Int):=by omega
   have pB:=nz (st:=eY eA p.st j) (n:=j) (by rw[uF];exact fN)
   rw[rD fN]at pB
   have w1:IntKind.wrap .i64 ((j:Int)+1)=((j+1:Nat):Int):=by rw[aj]<;>omega
   have b1:¬cU=nx1:=by omega
   have b2:¬rp=nx1:=by omega
   have b3:¬rp=cU:=h1.ne.1
   have q1:hp1 rp=some [[.ptr rd 0 0,iV p.gen,.str root,.sl cU 2 0 p.st.length (some p.st.length),.mp rm,.v (.bool false)]]:=by rw[k3 rp az.1 b3];exact q
   have lj:=rC (f:=eA) fN
   have yT:=sL (f:=eA) fN
   generalize p.st.getD j (0,0)=u at *
   by_cases h2:u.1=2
   ·have EH:eA u=(0,0):=by simp[eA,h2]
    rw[EH]at lj
    have tO:((eY eA p.st j).map iz).set j [iV 0,iV 0]=(eY eA p.st (j+1)).map iz:=by rw[<-lj];exact nw (s:=(0,0))
    simp[t11,t10,t9,t0,AP,k2,pB,iz,aa,b1,b2,q1,h2,w1,tO,aG,-List.map_set,-Int.ofNat_lt,-Int.natCast_add]
    exact ⟨j+1,by omega,by omega,rfl,⟨by omega,by simp,fun r u1 u2=>by simp[u2,show ¬r=nx1 by omega];exact k3 r u1 u2⟩⟩
   ·have Hx:¬(u.1:Int)=2:=by omega
    by_cases h3:u.1=3
    ·have EH:eA u=(1,u.2):=by simp[eA,h3]
     rw[EH]at lj
     have tO:((eY eA p.st j).map iz).set j [iV 1,iV u.2]=(eY eA p.st (j+1)).map iz:=by rw[<-lj];exact nw (s:=(1,u.2))
     simp[t11,t10,t9,t0,AP,k2,pB,iz,aa,b1,b2,q1,h3,w1,tO,aG,-List.map_set,-Int.ofNat_lt,-Int.natCast_add]
     exact ⟨j+1,by omega,by omega,rfl,⟨by omega,by simp,fun r u1 u2=>by simp[u2,show ¬r=nx1 by omega];exact k3 r u1 u2⟩⟩
    ·have YN:¬(u.1:Int)=3:=by omega
     have EH:eA u=u:=by simp[eA,h2,h3]
     have CR:=yT EH
     simp[t11,t10,t9,t0,AP,k2,pB,iz,aa,b1,b2,q1,Hx,YN,w1,aG,-List.map_set,-Int.ofNat_lt,-Int.natCast_add]
     exact ⟨j+1,by omega,by omega,rfl,⟨by omega,by simp[b1];rw[<-CR];exact k2,fun r u1 u2=>by simp[show ¬r=nx1 by omega];exact k3 r u1 u2⟩⟩
  ·have:j=p.st.length:=by omega
   subst this
   obtain ⟨d1,d2⟩:=Rk.done h1 (f:=eA) ⟨k1,k2,k3⟩
   simp[t11,t10]
   exact ⟨⟨cU,rm,Fd,d1,rfl⟩,d2⟩
def tZ (p:PM) (j:Nat):Nat:=((List.range j).filter fun n=>decide (2<=n)&&decide (p.is n=0)).length
theorem HB (p:PM) (j:Nat):tZ p (j+1)=tZ p j+if 2<=j/\p.is j=0 then 1 else 0:=by
 simp only[tZ,qR,wU,zG]
 congr 1
 by_cases h:2<=j<;>by_cases h2:p.is j=0<;>simp[h,h2]
theorem Om (p:PM) (j:Nat):tZ p j<=j:=by
 have:=wm (fun n=>decide (2<=n)&&decide (p.is n=0)) (List.range j)
 simpa [tZ] using this
theorem f25 {hp:Heap} {nx rp rd:Nat} {F:List Nat} {p:PM} {root:Bs} {view:Nat->Bs} {B:Nat} (h:ja hp nx rp rd F p root view B) :
  ∃hp' nx',aY E 25 [.ptr rp 0 0] hp nx (iV p.free) hp' nx' .e/\Ro hp nx hp' nx':=by
 have main:=an (P:=fun v hp' nx'=>v=iV p.free/\Ro hp nx hp' nx') e25 (args:=[.ptr rp 0 0]) rfl (hp:=hp) (nx:=nx) ?_
 ·obtain ⟨v,hp',nx',h1,rfl,h2⟩:=main
  exact ⟨hp',nx',h1,h2⟩
 ·obtain ⟨cU,rm,Fd,h1,rfl⟩:=h
  have q:=h1.xF
  simp only[ep]at q
  have qg:=h1.yO
  have YL:=h1.N
  have az:=h1.lt
  simp[c25,q]
  refine aM (I:=fun (j:Nat) s=>j<=p.st.length/\s.tm 13=iV j/\s.tm 12=iV p.st.length/\s.tm 11=.sl cU 2 0 p.st.length (some p.st.length)/\s.tm 3=.v (.int .i64 (tZ p j))/\Ro hp nx s.hp s.nx)
   (fun j=>p.st.length-j) 0 ?_ ?_
  ·simp[tZ]
   exact .refl
  rintro j tm hp1 nx1 ⟨hj,t13,t12,t11,t3,hR⟩
  simp only at t13 t12 t11 t3 hR
  have hle:=hR.le
  by_cases fN:j<p.st.length
  ·have AP:(j:Int)<(p.st.length:Int):=by omega
   have pB:=nz fN
   have w1:IntKind.wrap .i64 ((j:Int)+1)=((j+1:Nat):Int):=by rw[aj]<;>omega
   have E1:=Om p j
   have w2:IntKind.wrap .i64 ((tZ p j:Int)+1)=((tZ p j+1:Nat):Int):=by rw[aj]<;>omega
   have b1:¬cU=nx1:=by omega
   have qg1:hp1 cU=some (p.st.map iz):=by rw[hR.ah cU az.2.1];exact qg
   have YG:=HB p j
   have bZ:∀b,Ro hp nx (ab hp1 nx1 b) (nx1+1):=fun b=>hR.trans ⟨by omega,fun r hr=>by simp[show ¬r=nx1 by omega]⟩
   have QZ:(p.st.getD j (0,0)).1=p.is j:=rfl
   generalize p.st.getD j (0,0)=u at *
   by_cases h2:2<=j
   ·have Hx:(2:Int)<=(j:Int):=by omega
    by_cases h0:p.is j=0
    ·rw[if_pos ⟨h2,h0⟩]at YG
     have hu:u.1=0:=by omega
     simp[t13,t12,t11,t3,AP,qg1,pB,iz,aa,b1,Hx,hu,w1,w2,aG,-Int.ofNat_lt,-Int.natCast_add]
     exact ⟨j+1,by omega,by omega,rfl,by rw[YG],bZ _⟩
    ·rw[if_neg (fun e=>h0 e.2)]at YG
     have hu:¬u.1=0:=by omega
     simp[t13,t12,t11,t3,AP,qg1,pB,iz,aa,b1,Hx,hu,w1,aG,-Int.ofNat_lt,-Int.natCast_add]
     exact ⟨j+1,by omega,by omega,rfl,by rw[YG];rfl,bZ _⟩
   ·rw[if_neg (fun e=>h2 e.1)]at YG
    have Hx:¬(2:Int)<=(j:Int):=by omega
    simp[t13,t12,t11,t3,AP,qg1,pB,iz,aa,b1,Hx,w1,aG,-Int.ofNat_lt,-Int.natCast_add]
    exact ⟨j+1,by omega,by omega,rfl,by rw[YG];rfl,bZ _⟩
  ·have:j=p.st.length:=by omega
   subst this
   simp[t13,t12,t3]
   exact ⟨rfl,hR⟩
theorem f139 {hp:Heap} {nx rp rd:Nat} {F:List Nat} {p:PM} {root:Bs} {view:Nat->Bs} {B:Nat} (h:ja hp nx rp rd F p root view B) (n:Nat) (hn:n<=1000000000000) (c:Option Nat) :
  ∃hp' nx' e,aY E 139 [.ptr rp 0 0,.rs false 1 [[.v (.int .i64 n)]] c] hp nx (.v (.int .i64 (match p.use n with|some _=>0|none=>e))) hp' nx' .e/\(e=3\/e=8)/\ja hp' nx' rp rd F ((p.use n).getD p) root view B/\Fr F hp nx F hp' nx':=by
 have main:=an (P:=fun v hp' nx'=>∃e,v=.v (.int .i64 (match p.use n with|some _=>0|none=>e))/\(e=3\/e=8)/\ja hp' nx' rp rd F ((p.use n).getD p) root view B/\Fr F hp nx F hp' nx') e139 (args:=[.ptr rp 0 0,.rs false 1 [[.v (.int .i64 n)]] c]) rfl (hp:=hp) (nx:=nx) ?_
 ·obtain ⟨v,hp',nx',h1,e,rfl,h2⟩:=main
  exact ⟨hp',nx',e,h1,h2⟩
 ·have r1:=f54 h
  have yS:=h.lt
  have hk:∀b,ja (ab hp nx b) (nx+1) rp rd F p root view B:=fun b=>h.ro ⟨by omega,fun r hr=>by simp[show ¬r=nx by omega]⟩
  have yV:∀b,Fr F hp nx F (ab hp nx b) (nx+1):=fun b=>(Ro.mk (by omega) fun r hr=>by simp[show ¬r=nx by omega]).fr F
  have r2:=f93 (hk (some [])) n
  have w0:IntKind.wrap .i64 (0+1)=1:=by rw[aj]<;>omega
  simp[c139]
  refine ae r1 ?_
  simp
  refine aM (I:=fun (j:Nat) s=>(j=0/\s.tm 19=iV 0/\s.hp=ab hp nx (some [])\/j=1/\s.tm 19=iV 1/\(∃b,s.hp=ab hp nx b)/\p.has n=true/\p.is n=0)/\s.tm 18=iV 1/\s.tm 17=.rs false 1 [[iV n]] c/\s.tm 6=.mp nx/\s.tm 0=.ptr rp 0 0/\s.tm 1=.rs false 1 [[iV n]] c/\s.nx=nx+1)
   (fun j=>1-j) 0 (by simp) ?_
  rintro j tm hp1 nx1 ⟨hj,t18,t17,t6,t0,t1,e2⟩
  simp only at hj t18 t17 t6 t0 t1 e2
  subst e2
  rcases hj with ⟨rfl,t19,rfl⟩|⟨rfl,t19,⟨b,rfl⟩,hh,h0⟩
  ·obtain ⟨cU,rm,Fd,h1,rfl⟩:=h
   have q:=h1.xF
   simp only[ep]at q
   have qg:=h1.yO
   have az:=h1.lt
   have b1:¬rp=nx:=by omega
   have b2:¬cU=nx:=by omega
   simp[t18,t17,t19]
   refine ae (by rw[t0];exact r2) ?_
   by_cases hh:p.has n=true
   ·have BE:2<=n/\n<p.st.length:=by simpa [PM.has] using hh
    have CQ:(n:Int)<(p.st.length:Int):=by omega
    have hg:=nz BE.2
    by_cases h0:p.is n=0
    ·have Mi:(p.st.getD n (0,0)).1=0:=h0
     simp[hh,t0,q,b1,b2,CQ,qg,hg,iz,Mi,t6,t18,t19,t17,w0,iQ,-Int.ofNat_lt,-List.getD_eq_getElem?_getD]
     exact ⟨1,by omega,.inr ⟨rfl,rfl,⟨_,aG⟩,h0⟩,t1⟩
    ·have Mi:¬(p.st.getD n (0,0)).1=0:=h0
     have hu:p.use n=none:=by simp[PM.use,h0]
     rw[hu]
     simp[hh,t0,q,b1,b2,CQ,qg,hg,iz,Mi,-Int.ofNat_lt,-List.getD_eq_getElem?_getD]
     exact ⟨hk _,yV _⟩
   ·have Sk:p.has n=false:=by simpa using hh
    have hu:p.use n=none:=by simp[PM.use,Sk]
    rw[hu]
    simp[Sk]
    exact ⟨hk _,yV _⟩
  ·have hu:p.use n=some (p.set n (1,(p.st.getD n (0,0)).2)):=by simp only[PM.use,hh,h0,and_self,if_true]
   rw[hu]
   have hkb:=hk b
   have hfb:=yV b
   obtain ⟨cU,rm,Fd,h1,rfl⟩:=hkb
   have q:=h1.xF
   simp only[ep]at q
   have qg:=h1.yO
   have BE:2<=n/\n<p.st.length:=by simpa [PM.has] using hh
   have CQ:(n:Int)<(p.st.length:Int):=by omega
   have hg:=nz BE.2
   have h3:=h1.Ih (st:=p.st.set n (1,(p.st.getD n (0,0)).2)) (by simp)
   have lj:(p.st.map iz).set n [iV 1,.v (.int .i64 (p.st.getD n (0,0)).2)]=(p.st.set n (1,(p.st.getD n (0,0)).2)).map iz:=nw (s:=(1,(p.st.getD n (0,0)).2))
   have b2:=h1.lt.2.1
   have mr:Fr (rp::cU::rm::Fd) (ab hp nx b) (nx+1) (rp::cU::rm::Fd) (ab (ab hp nx b) cU (some ((p.st.set n (1,(p.st.getD n (0,0)).2)).map iz))) (nx+1):=⟨zD _,fun r u1 u2=>by simp only[zH,not_or]at u2;simp[u2.2.1],fun r hr=>.inl hr⟩
   generalize ab hp nx b=H at *
   simp[t18,t17,t19,t1]
   refine aM (I:=fun (j:Nat) s=>(j=0/\s.tm 46=iV 0/\s.hp=H\/j=1/\s.tm 46=iV 1/\s.hp=ab H cU (some ((p.st.set n (1,(p.st.getD n (0,0)).2)).map iz)))/\s.tm 45=iV 1/\s.tm 44=.rs false 1 [[iV n]] c/\s.tm 0=.ptr rp 0 0/\s.nx=nx+1)
    (fun j=>1-j) 0 (by simp[t0]) ?_
   rintro j tm' hp1 nx1 ⟨hj,t45,t44,t0',e2⟩
   simp only at hj t45 t44 t0' e2
   subst e2
   rcases hj with ⟨rfl,t46,rfl⟩|⟨rfl,t46,rfl⟩
   ·simp[t45,t44,t46,t0',q,CQ,qg,hg,iz,aa,lj,w0,-List.map_set,-Int.ofNat_lt,-List.getD_eq_getElem?_getD]
    exact ⟨1,by omega,.inr ⟨rfl,rfl⟩⟩
   ·simp[t45,t44,t46,-List.map_set,-List.getD_eq_getElem?_getD]
    exact ⟨⟨cU,rm,Fd,h3,rfl⟩,hfb.trans mr⟩
end Go.Ai
namespace Go.Ai
open Go.Bt
structure X3 (view:Nat->Bs) (i gen:Nat):Prop where
 lt:aA (((view i).drop 0).take 8)<72057594037927936
 le:∀g s,oZ (view i)=some (g,s)->g<gen
structure eh (view:Nat->Bs) (gen:Nat) (root:Bs):Prop where
 one:1<=gen
 le:gen<=1000000000000
 at':oZ (view (gen % 2))=some (gen,root)
 lt:aA (((view (gen % 2)).drop 0).take 8)<72057594037927936
 other:X3 view ((gen+1) % 2) gen
def hU (view:Nat->Bs) (x:Nat×Bs) (i:Nat):Nat×Bs:=match oZ (view i) with
 |some (g,s)=>if g % 2=i/\x.1<g then (g,s) else x
 |none=>x
theorem eh.both {view gen root} (h:eh view gen root):(∀i,i<2->aA (((view i).drop 0).take 8)<72057594037927936/\∀g s,oZ (view i)=some (g,s)->g<=1000000000000)/\hU view (hU view (0,[]) 0) 1=(gen,root):=by
 obtain ⟨h1,h2,h3,h4,⟨h5,h6⟩⟩:=h
 rcases (show gen % 2=0\/gen % 2=1 by omega) with e|e
 ·have e':(gen+1) % 2=1:=by omega
  rw[e]at h3 h4
  rw[e']at h5 h6
  refine ⟨fun i hi => ?_,?_⟩
  ·rcases (show i=0\/i=1 by omega) with rfl|rfl
   ·exact ⟨h4,fun g s hg=>by rw[h3,zOi,zPi]at hg;omega⟩
   ·exact ⟨h5,fun g s hg=>by have:=h6 g s hg;omega⟩
  ·have s0:hU view (0,[]) 0=(gen,root):=by simp only[hU,h3];rw[if_pos ⟨e,by omega⟩]
   rw[s0]
   unfold hU
   split
   ·rename_i g s hg
    rw[if_neg (fun c=>by have:=h6 g s hg;omega)]
   ·rfl
 ·have e':(gen+1) % 2=0:=by omega
  rw[e]at h3 h4
  rw[e']at h5 h6
  refine ⟨fun i hi => ?_,?_⟩
  ·rcases (show i=0\/i=1 by omega) with rfl|rfl
   ·exact ⟨h5,fun g s hg=>by have:=h6 g s hg;omega⟩
   ·exact ⟨h4,fun g s hg=>by rw[h3,zOi,zPi]at hg;omega⟩
  ·have s0:(hU view (0,[]) 0).1<gen:=by
    unfold hU
    split
    ·rename_i g s hg
     split
     ·exact h6 g s hg
     ·simp only;omega
    ·simp only;omega
   generalize hU view (0,[]) 0=x at s0
   simp only[hU,h3];rw[if_pos ⟨e,s0⟩]
def gd (N gen:Nat) (view:Nat->Bs):PM:=⟨gen,List.replicate N (0,0),fun m=>(mA (view m)).map fun x=>(x.1,x.2.2),[]⟩
theorem f31 {hp:Heap} {nx rd:Nat} {F:List Nat} {N:Nat} {view:Nat->Bs} {B:Nat} (h:nZ hp nx rd F N view B) (hN:4<=N) {gen:Nat} {root:Bs} (hR:eh view gen root) (hB:B<=1000000000) :
  ∃hp' nx' rp F',aY E 31 [.ptr rd 0 0] hp nx (.bE [.ptr rp 0 0,iV 0]) hp' nx' .e/\ja hp' nx' rp rd F' (gd N gen view) root view B/\Fr F hp nx F' hp' nx':=by
 have main:=an (P:=fun v hp' nx'=>∃rp F',v=.bE [.ptr rp 0 0,iV 0]/\ja hp' nx' rp rd F' (gd N gen view) root view B/\Fr F hp nx F' hp' nx') e31 (args:=[.ptr rd 0 0]) rfl (hp:=hp) (nx:=nx) ?_
 ·obtain ⟨v,hp',nx',h1,rp,F',rfl,h2⟩:=main
  exact ⟨hp',nx',rp,F',h1,h2⟩
 ·obtain ⟨abr,ae6⟩:=hR.both
  have r1:=f62 h hN
  have r2:=f63 h
  have YL:N<=4096:=by obtain ⟨rs,ra,rb,w,bY,ws,steps,g1,_⟩:=h;exact g1.hN
  have Sf:=h.lt
  have hmk:∀hp nx,j9 2 16 [iV 0,iV 0] (iV N) (iV N) hp nx=some (.sl nx 2 0 N (some N),ab hp nx (some ((List.replicate N (0,0)).map iz)),nx+1):=fun hp nx=>by
   simp only[j9]
   rw[if_pos (by omega)]
   simp[iz]
  have hH:xv (ab (ab (ab hp nx (some ((List.replicate N (0,0)).map iz))) (nx+1) (some [])) (nx+2) (some (ep rd 0 [] nx N (nx+1)))) (nx+3) (nx+2) rd nx (nx+1) F (gd N 0 view) [] view B:=by
   refine ⟨?_,⟨by omega,by omega,by omega⟩,by simp[gd],by simp[gd],by simp[gd],by simp[gd],?_,fun m _ _=>rfl,by simp[gd],by simp[gd];omega⟩
   ·simp only[zp,zH,not_or]
    exact ⟨⟨by omega,by omega,fun e=>by have:=Sf _ e;omega⟩,⟨by omega,fun e=>by have:=Sf _ e;omega⟩,fun e=>by have:=Sf _ e;omega,h.nodup⟩
   ·have:(gd N 0 view).st.length=N:=by simp[gd]
    rw[this]
    exact h.ah (by omega) fun r hr=>by have:=Sf r hr;simp[show ¬r=nx by omega,show ¬r=nx+1 by omega,show ¬r=nx+2 by omega]
  have IZ:Fr F hp nx ((nx+2)::nx::(nx+1)::F) (ab (ab (ab hp nx (some ((List.replicate N (0,0)).map iz))) (nx+1) (some [])) (nx+2) (some (ep rd 0 [] nx N (nx+1)))) (nx+3):=by
   refine ⟨by omega,fun r u1 u2=>by simp[show ¬r=nx by omega,show ¬r=nx+1 by omega,show ¬r=nx+2 by omega],fun r hr => ?_⟩
   simp only[zH]at hr
   rcases hr with hr|hr|hr|hr
   ·exact .inr (by omega)
   ·exact .inr (by omega)
   ·exact .inr (by omega)
   ·exact .inl hr
  simp[c31]
  refine ae r1 ?_
  simp
  refine ae r2 ?_
  have Lw:∀r,(AV.mp r).cells=[.mp r]:=fun _=>rfl
  have E3:∀r,(AV.mp r).one=true:=fun _=>rfl
  simp[hmk,Lw,E3,aa,-List.map_replicate]
  have eI:[[.ptr rd 0 0,iV 0,.str [],.sl nx 2 0 N (some N),.mp (nx+1),.v (.bool false)]]=ep rd 0 [] nx N (nx+1):=rfl
  rw[eI]
  generalize ab (ab (ab hp nx (some ((List.replicate N (0,0)).map iz))) (nx+1) (some [])) (nx+2) (some (ep rd 0 [] nx N (nx+1)))=H at *
  refine aM (I:=fun (j:Nat) s=>j<=2/\s.tm 24=iV j/\s.tm 0=.ptr rd 0 0/\s.tm 5=.ptr (nx+2) 0 0/\∃x:Nat×Bs,x=(if j=0 then (0,[]) else if j=1 then hU view (0,[]) 0 else (gen,root))/\x.1<=1000000000000/\xv s.hp s.nx (nx+2) rd nx (nx+1) F (gd N x.1 view) x.2 view B/\Fr F hp nx ((nx+2)::nx::(nx+1)::F) s.hp s.nx)
   (fun j=>2-j) 0 ?_ ?_
  ·simp
   exact ⟨hH,IZ⟩
  rintro j tm hp1 nx1 ⟨hj,t24,t0,t5,⟨g,s⟩,hx,hg,hI,hF⟩
  simp only at t24 t0 t5 hI hF hg
  by_cases az:j<2
  ·have hjN:j<(gd N g view).st.length:=by simp[gd];omega
   obtain ⟨r3,hl⟩:=f29 hI.hd hjN hB
   obtain ⟨tn,vJ⟩:=abr j az
   have r4:aY E 64 [.sl nx1 1 0 512 none] (ab hp1 nx1 (some (bytesOf (view j)))) (nx1+1) (oY (view j)) (ab hp1 nx1 (some (bytesOf (view j)))) (nx1+1) .e:=by
    refine na (args0:=[.rs false 1 (bytesOf (view j)) none]) ?_ ?_ (f64 _ hl tn _ _ _)
    ·rw[br,mP (b:=view j) (by simp) hl];rfl
    ·unfold oY;split<;>rfl
   have bZ:Ro hp1 nx1 (ab hp1 nx1 (some (bytesOf (view j)))) (nx1+1):=⟨by omega,fun r hr=>by simp[show ¬r=nx1 by omega]⟩
   have iO:=hI.ah bZ.le fun r hr=>bZ.ah r (by
    simp only[zH]at hr
    have h1:=hI.lt
    rcases hr with rfl|rfl|rfl|hr
    ·exact h1.1
    ·exact h1.2.1
    ·exact h1.2.2
    ·exact hI.hd.lt r hr)
   have iu:=hF.trans (bZ.fr _)
   have q:=iO.xF
   have hNl:(gd N g view).st.length=N:=by simp[gd]
   simp only[ep,hNl]at q
   have hgg:(gd N g view).gen=g:=rfl
   rw[hgg]at q
   have w1:IntKind.wrap .i64 ((j:Int)+1)=((j+1:Nat):Int):=by rw[aj]<;>omega
   have AP:(j:Int)<2:=by omega
   have mK:(if j+1=0 then ((0,[]):Nat×Bs) else if j+1=1 then hU view (0,[]) 0 else (gen,root))=hU view (g,s) j:=by
    rw[hx]
    rcases (show j=0\/j=1 by omega) with rfl|rfl
    ·simp
    ·simp only[show ¬(1+1=0) by omega,show ¬(1+1=1) by omega,show ¬((1:Nat)=0) by omega,if_false,if_true]
     exact ae6.symm
   simp[t24,t0,t5,AP,-Int.ofNat_lt]
   refine ae r3 ?_
   simp
   refine ae r4 ?_
   have Lp:¬nx+2=nx1:=by have:=hI.lt.1;omega
   simp only[cg,Lp,if_false]at q
   cases ho:oZ (view j) with
   |none =>
    have bU:hU view (g,s) j=(g,s):=by simp only[hU,ho]
    simp[oY,ho,t24,w1,-Int.natCast_add]
    refine ⟨j+1,by omega,by omega,rfl,t0,t5,?_⟩
    rw[mK,bU]
    exact ⟨hg,iO,iu⟩
   |some y =>
    obtain ⟨g',s'⟩:=y
    have Lu:=vJ g' s' ho
    have NN:((g':Int)).tmod 2=((g' % 2:Nat):Int):=by rw[Int.tmod_eq_emod_of_nonneg (by omega)];omega
    by_cases hm:g' % 2=j
    ·have Mc:((g' % 2:Nat):Int)=(j:Int):=by omega
     by_cases pB:g<g'
     ·have WX:(g:Int)<(g':Int):=by omega
      have bU:hU view (g,s) j=(g',s'):=by simp only[hU,ho];rw[if_pos ⟨hm,pB⟩]
      obtain ⟨ju,ir⟩:=iO.row (g:=g') (root':=s') Lu
      rw[hNl]at ju ir
      have aaL:ab (ab (ab hp1 nx1 (some (bytesOf (view j)))) (nx+2) (some [[.ptr rd 0 0,iV g',.str s,.sl nx 2 0 N (some N),.mp (nx+1),.v (.bool false)]])) (nx+2) (some [[.ptr rd 0 0,iV g',.str s',.sl nx 2 0 N (some N),.mp (nx+1),.v (.bool false)]])=ab (ab hp1 nx1 (some (bytesOf (view j)))) (nx+2) (some (ep rd g' s' nx N (nx+1))):=aG
      simp[oY,ho,t24,t0,t5,w1,NN,Mc,WX,q,Lp,aa,aaL,-Int.natCast_add,-Int.natCast_emod,-Int.ofNat_lt]
      refine ⟨j+1,by omega,by omega,rfl,?_⟩
      rw[mK,bU]
      exact ⟨Lu,ju,iu.trans ir⟩
     ·have WX:¬(g:Int)<(g':Int):=by omega
      have bU:hU view (g,s) j=(g,s):=by simp only[hU,ho];rw[if_neg fun e=>pB e.2]
      simp[oY,ho,t24,t0,t5,w1,NN,Mc,WX,q,Lp,-Int.natCast_add,-Int.natCast_emod,-Int.ofNat_lt]
      refine ⟨j+1,by omega,by omega,rfl,?_⟩
      rw[mK,bU]
      exact ⟨hg,iO,iu⟩
    ·have Mc:¬((g' % 2:Nat):Int)=(j:Int):=by omega
     have bU:hU view (g,s) j=(g,s):=by simp only[hU,ho];rw[if_neg fun e=>hm e.1]
     simp[oY,ho,t24,t0,t5,w1,NN,Mc,-Int.natCast_add,-Int.natCast_emod]
     refine ⟨j+1,by omega,by omega,rfl,?_⟩
     rw[mK,bU]
     exact ⟨hg,iO,iu⟩
  ·have:j=2:=by omega
   subst this
   simp only[show ¬((2:Nat)=0) by omega,show ¬((2:Nat)=1) by omega,if_false,zPi]at hx
   obtain ⟨rfl,rfl⟩:=hx
   have q:=hI.xF
   have hNl:(gd N g view).st.length=N:=by simp[gd]
   simp only[ep,hNl]at q
   have hgg:(gd N g view).gen=g:=rfl
   rw[hgg]at q
   have hg0:¬(g:Int)=0:=by have:=hR.one;omega
   have ae4:¬g=0:=by have:=hR.one;omega
   simp[t24,t5,q,ae4]
   exact ⟨_,⟨nx,nx+1,F,hI,rfl⟩,hF⟩
theorem f103 (x:Int) (hp nx):aY E 103 [iV x] hp nx (.v (.bool (ke x))) hp nx .p:=by
 refine aD e103 rfl rfl ?_ hp nx
 by_cases h1:2<=x<;>simp[c103,ke,h1]
theorem f100 (x:bD) (hp nx):aY E 100 [.agg x.cells] hp nx (.v (.bool (jl x))) hp nx .p:=by
 refine aD e100 rfl (by simp[bD.cells]) ?_ hp nx
 obtain ⟨v,p,s⟩:=x
 by_cases h1:p=0
 ·by_cases h2:s=0
  ·simp[c100,h1,bD.cells,h2,jl];omega
  ·simp[c100,h1,bD.cells,h2,jl]
 ·simp[c100,h1,bD.cells,jl]
  refine ap (f103 p _ _) ?_
  cases h2:ke p
  ·simp
  ·by_cases h4:v=[]
   ·by_cases h5:60<s
    ·simp[h4,h5]
    ·simp[h4,h5]
   ·simp[h4]
theorem f99 (x:bD) (hp nx):aY E 99 [.agg x.cells] hp nx (.v (.bool (!jl x))) hp nx .p:=by
 refine aD e99 rfl (by simp[bD.cells]) ?_ hp nx
 have:=f100 x
 obtain ⟨v,p,s⟩:=x
 simp[c99,bD.cells]
 exact ap (this _ _) (by simp)
theorem f102 (x:Int) (hp nx):aY E 102 [iV x] hp nx (.v (.bool (!ke x))) hp nx .p:=by
 refine aD e102 rfl rfl ?_ hp nx
 simp[c102]
 exact ap (f103 x _ _) (by simp)
theorem f128 (p:bD->Bool) (g:Nat) (hg:∀x hp nx,aY E g [.agg x.cells] hp nx (.v (.bool (p x))) hp nx .p) (es:List bD) (x:AV) (hx:eV 3 (es.map bD.cells) x) (hlen:es.length<=1000000) (hp nx) :
  aY E 128 [x,.fn (.func g) [] []] hp nx (.v (.int .i64 (jv p es 0))) hp nx .p:=by
 obtain ⟨nil,sz,cap,rfl,hz⟩:=hx
 refine aD e128 rfl (by simp) ?_ hp nx
 simp[c128]
 refine aM (I:=fun (j:Nat) s=>j<=es.length/\s.tm 8=.int .i64 j/\s.tm 7=.int .i64 es.length/\s.tm 0=.rs nil sz (es.map bD.cells) cap/\s.tm 1=.fn (.func g) [] []/\s.hp=cG/\s.nx=0/\∀y∈es.take j,p y=false)
  (fun j=>es.length-j) 0 (by simp) ?_
 rintro j tm hp nx ⟨hj,h8,h7,h0,h1,rfl,rfl,sV⟩
 simp only at h8 h7 h0 h1
 by_cases az:j<es.length
 ·have bH:es[j]?=some es[j]:=zA az
  have bG:cd 3 (.rs nil sz (es.map bD.cells) cap) (iV j)=some (.rp es[j].cells):=eb hz (by simp[bH]) rfl
  have hw:IntKind.wrap .i64 ((j:Int)+1)=(j+1:Nat):=by rw[aj]<;>omega
  simp[h8,h7,h0,h1,az,-ag,bG]
  refine ⟨by simp[bD.cells],?_⟩
  simp[bD.cells]
  refine ap (hg _ _ _) ?_
  cases hp:p es[j]
  ·simp[h8,h7,h0,h1,hw]
   exact ⟨j+1,by omega,by omega,by simp,sk bH sV hp⟩
  ·simp
   rw[kj p es j 0 (by omega) sV,zO az]
   simp[jv,hp]
 ·have:j=es.length:=by omega
  subst this
  simp[h8,h7]
  rw[kj p es _ 0 hj sV];simp[jv]
theorem f129 (p:Int->Bool) (g:Nat) (hg:∀x hp nx,aY E g [iV x] hp nx (.v (.bool (p x))) hp nx .p) (es:List Int) (x:AV) (hx:eV 1 (es.map bC) x) (hlen:es.length<=1000000) (hp nx) :
  aY E 129 [x,.fn (.func g) [] []] hp nx (.v (.int .i64 (jv p es 0))) hp nx .p:=by
 obtain ⟨nil,sz,cap,rfl,hz⟩:=hx
 refine aD e129 rfl (by simp) ?_ hp nx
 simp[c129]
 refine aM (I:=fun (j:Nat) s=>j<=es.length/\s.tm 8=.int .i64 j/\s.tm 7=.int .i64 es.length/\s.tm 0=.rs nil sz (es.map bC) cap/\s.tm 1=.fn (.func g) [] []/\s.hp=cG/\s.nx=0/\∀y∈es.take j,p y=false)
  (fun j=>es.length-j) 0 (by simp) ?_
 rintro j tm hp nx ⟨hj,h8,h7,h0,h1,rfl,rfl,sV⟩
 simp only at h8 h7 h0 h1
 by_cases az:j<es.length
 ·have bH:es[j]?=some es[j]:=zA az
  have bG:cd 1 (.rs nil sz (es.map bC) cap) (iV j)=some (.rp (bC es[j])):=eb hz (by simp[bH]) rfl
  have hw:IntKind.wrap .i64 ((j:Int)+1)=(j+1:Nat):=by rw[aj]<;>omega
  simp[h8,h7,h0,h1,az,-ag,bG,bC]
  refine ap (hg _ _ _) ?_
  cases hp:p es[j]
  ·simp[h8,h7,h0,h1,hw]
   exact ⟨j+1,by omega,by omega,by simp,sk bH sV hp⟩
  ·simp
   rw[kj p es j 0 (by omega) sV,zO az]
   simp[jv,hp]
 ·have:j=es.length:=by omega
  subst this
  simp[h8,h7]
  rw[kj p es _ 0 hj sV];simp[jv]
theorem f98 (p:bD->Bool) (g:Nat) (hg:∀x hp nx,aY E g [.agg x.cells] hp nx (.v (.bool (p x))) hp nx .p) (es:List bD) (x:AV) (hx:eV 3 (es.map bD.cells) x) (hlen:es.length<=1000000) (hp nx) :
  aY E 98 [x,.fn (.func g) [] []] hp nx (.v (.bool (es.any p))) hp nx .p:=by
 refine aD e98 rfl (by obtain ⟨nil,sz,cap,rfl,hz⟩:=hx;simp) ?_ hp nx
 simp[c98]
 refine ap (f128 p g hg es x hx hlen _ _) ?_
 simp[sZ]
theorem f101 (p:Int->Bool) (g:Nat) (hg:∀x hp nx,aY E g [iV x] hp nx (.v (.bool (p x))) hp nx .p) (es:List Int) (x:AV) (hx:eV 1 (es.map bC) x) (hlen:es.length<=1000000) (hp nx) :
  aY E 101 [x,.fn (.func g) [] []] hp nx (.v (.bool (es.any p))) hp nx .p:=by
 refine aD e101 rfl (by obtain ⟨nil,sz,cap,rfl,hz⟩:=hx;simp) ?_ hp nx
 simp[c101]
 refine ap (f129 p g hg es x hx hlen _ _) ?_
 simp[sZ]
theorem f68 (n:Nd) (x:AV) (hx:iD n x) (h1:n.keys.length<=100000) (h2:n.items.length<=100000) (h3:n.kids.length<=100000) (hp nx) :
  aY E 68 [x] hp nx (.v (.bool (ax n))) hp nx .p:=by
 obtain ⟨kA,iA,dA,rfl,hk,hi,hd⟩:=hx
 have jn:=hk;have kO:=hi;have AS:=hd
 obtain ⟨kn,oy,kc,rfl,w9⟩:=jn
 obtain ⟨vB,vx,ic,rfl,EV⟩:=kO
 obtain ⟨dn,xm,dc,rfl,Ga⟩:=AS
 obtain ⟨leaf,keys,items,kids⟩:=n
 simp only at *
 refine aD e68 rfl (by simp) ?_ hp nx
 simp[c68]
 refine aM (I:=fun (j:Nat) s=>j<=keys.length/\s.tm 8=.int .i64 j/\s.tm 7=.int .i64 keys.length/\s.tm 6=.rs kn oy (keys.map aN) kc/\s.tm 1=.ptr 0 0 0 /\
  s.hp=ab cG 0 (some [[.v (.bool leaf),.rs kn oy (keys.map aN) kc,.rs vB vx (items.map bD.cells) ic,.rs dn xm (kids.map bC) dc]])/\s.nx=1/\∀i,i<j->pQ keys i=false)
  (fun j=>keys.length-j) 0 (by simp) ?_
 rintro j tm hp nx ⟨hj,h8,h7,h6,t1,rfl,rfl,sV⟩
 simp only at h8 h7 h6 t1
 by_cases az:j<keys.length
 ·have bH:keys[j]?=some keys[j]:=zA az
  have Uf:keys.getD j []=keys[j]:=by simp[bH]
  have bG:cd 1 (.rs kn oy (keys.map aN) kc) (iV j)=some (.rp (aN keys[j])):=eb w9 (by simp[bH]) rfl
  have hw:IntKind.wrap .i64 ((j:Int)+1)=(j+1:Nat):=by rw[aj]<;>omega
  by_cases hl:60<keys[j].length
  ·have QX:(60:Int)<keys[j].length:=by omega
   simp[h8,h7,h6,t1,az,-ag,bG,aN,QX]
   have:pQ keys j=true:=by simp only[pQ];rw[Uf];simp[hl]
   simp[ax,vw az this]
  ·have QX:¬(60:Int)<keys[j].length:=by omega
   by_cases hj0:0<j
   ·have Lm:j-1<keys.length:=by omega
    have yO:keys[j-1]?=some keys[j-1]:=zA Lm
    have Sc:keys.getD (j-1) []=keys[j-1]:=by simp[yO]
    have vD:IntKind.wrap .i64 ((j:Int)-1)=(j-1:Nat):=by rw[aj]<;>omega
    have nh:cd 1 (.rs kn oy (keys.map aN) kc) (.v (.int .i64 (j-1:Nat)))=some (.rp (aN keys[j-1])):=eb w9 (by simp[yO]) rfl
    have N5:pQ keys j = !al keys[j-1] keys[j]:=by simp only[pQ];rw[Uf,Sc];simp[hl,hj0]
    cases hs:al keys[j-1] keys[j]
    ·simp[h8,h7,h6,t1,az,-ag,bG,aN,QX,hj0,vD,nh,hs]
     simp[ax,vw az (by rw[N5,hs];rfl)]
    ·simp[h8,h7,h6,t1,az,-ag,bG,aN,QX,hj0,vD,nh,hs,hw]
     refine ⟨j+1,by omega,by omega,by simp,fun i hi => ?_⟩
     rcases zj i j with h|h
     ·exact sV i h
     ·have:i=j:=by omega
      subst this;rw[N5,hs];rfl
   ·have ae0:j=0:=by omega
    subst ae0
    have ae1:cd 1 (.rs kn oy (keys.map aN) kc) (iV 0)=some (.rp (aN keys[0])):=bG
    have RW:IntKind.wrap .i64 (0+1)=1:=hw
    simp at h8
    simp[h8,h7,h6,t1,az,-ag,ae1,aN,QX,RW]
    refine ⟨1,by omega,by omega,by decide,fun i hi => ?_⟩
    have:i=0:=by omega
    subst this
    simp only[pQ];rw[Uf];simp;omega
 ·have:j=keys.length:=by omega
  subst this
  have NR:=sS sV
  have hw:IntKind.wrap .i64 ((keys.length:Int)+1)=(keys.length+1:Nat):=by rw[aj]<;>omega
  cases leaf
  ·by_cases ha:0<keys.length
   ·by_cases hb:kids.length=keys.length+1
    ·have CZ:(kids.length:Int)=(keys.length+1:Nat):=by omega
     by_cases hc:items.length=0
     ·have Gb:(items.length:Int)=0:=by omega
      simp[h8,h7,t1,ha,hw,CZ,Gb,-Int.natCast_add]
      refine ap (f101 (fun x => !ke x) 102 (fun x hp nx=>f102 x hp nx) kids _ hd (by omega) _ _) ?_
      simp[ax,NR,iU,ha,hb,hc,J6]
     ·have Gb:items≠[]:=by rintro rfl;exact hc rfl
      simp[h8,h7,t1,ha,hw,CZ,Gb,-Int.natCast_add]
      simp[ax,NR,iU,ha,hb,Gb]
    ·have CZ:¬(kids.length:Int)=(keys.length+1:Nat):=by omega
     simp[h8,h7,t1,ha,hw,CZ,-Int.natCast_add]
     simp[ax,NR,iU,ha,hb]
   ·simp[h8,h7,t1,ha]
    simp[ax,NR,iU,ha]
  ·by_cases ha:items.length=keys.length
   ·have Hs:(items.length:Int)=keys.length:=by omega
    by_cases hb:kids.length=0
    ·have CZ:(kids.length:Int)=0:=by omega
     simp[h8,h7,t1,Hs,CZ]
     refine ap (f98 (fun x => !jl x) 99 (fun x hp nx=>f99 x hp nx) items _ hi (by omega) _ _) ?_
     simp[ax,NR,iU,ha,hb,J6]
    ·have CZ:kids≠[]:=by rintro rfl;exact hb rfl
     simp[h8,h7,t1,Hs,CZ]
     simp[ax,NR,iU,ha,CZ]
   ·have Hs:¬(items.length:Int)=keys.length:=by omega
    simp[h8,h7,t1,Hs]
    simp[ax,NR,iU,ha]
theorem f140 (n:Nd) (x:AV) (hx:iD n x) (hp nx):aY E 140 [x] hp nx (.v (.int .i64 (bo n).length)) hp nx .p:=by
 obtain ⟨kA,iA,dA,rfl,hk,hi,hd⟩:=hx
 obtain ⟨kn,oy,kc,rfl,w9⟩:=hk
 obtain ⟨vB,vx,ic,rfl,EV⟩:=hi
 obtain ⟨dn,xm,dc,rfl,Ga⟩:=hd
 refine aD e140 rfl (by simp) ?_ hp nx
 rw[bS]
 cases n.leaf<;>simp[c140]
theorem f141 (n:Nd) (x:AV) (hx:iD n x) (hr:aZ n) (i:Nat) (hi:i<n.keys.length) (hp nx):aY E 141 [x,iV i] hp nx (.v (.int .i64 (bQ n i))) hp nx .p:=by
 have hle:=fX hr hi
 have h1:=hr.yB i hi
 have az:=hi
 obtain ⟨kA,iA,dA,rfl,hk,hi,hd⟩:=hx
 obtain ⟨kn,oy,kc,rfl,w9⟩:=hk
 obtain ⟨vB,vx,ic,rfl,EV⟩:=hi
 obtain ⟨dn,xm,dc,rfl,Ga⟩:=hd
 refine aD e141 rfl (by simp) ?_ hp nx
 obtain ⟨leaf,keys,items,kids⟩:=n
 simp only at *
 have bH:keys[i]?=some keys[i]:=zA az
 have Uf:keys.getD i []=keys[i]:=by simp[bH]
 have bG:cd 1 (.rs kn oy (keys.map aN) kc) (iV i)=some (.rp (aN keys[i])):=eb w9 (by simp[bH]) rfl
 have vD:IntKind.wrap .i64 (1+(keys[i].length:Int))=(1+keys[i].length:Nat):=by rw[aj]<;>omega
 simp only[bQ,Uf]at hle ⊢
 cases leaf
 ·have mq:IntKind.wrap .i64 ((1+keys[i].length:Nat)+4)=(1+keys[i].length+4:Nat):=by rw[aj]<;>omega
  simp[c141,-ag,bG,aN,vD,mq,-Int.natCast_add]
 ·obtain ⟨h2,h3,h4⟩:=hr.leaf rfl
  simp only at h2 h3 h4
  have CT:i<items.length:=by omega
  have hg:items.getD i ⟨[],0,0⟩=items[i]:=by simp[CT]
  have nh:cd 3 (.rs vB vx (items.map bD.cells) ic) (iV i)=some (.rp items[i].cells):=eb EV (by simp[CT]) rfl
  simp only[hg]at hle ⊢
  by_cases oC:0<items[i].p
  ·have mq:IntKind.wrap .i64 ((1+keys[i].length:Nat)+9)=(1+keys[i].length+9:Nat):=by rw[aj]<;>omega
   simp[c141,-ag,bG,nh,aN,bD.cells,oC,vD,mq,-Int.natCast_add]
  ·simp[oC]at hle
   have mq:IntKind.wrap .i64 ((1+keys[i].length:Nat)+1)=(1+keys[i].length+1:Nat):=by rw[aj]<;>omega
   have CO:IntKind.wrap .i64 ((1+keys[i].length+1:Nat)+(items[i].v.length:Int))=(1+keys[i].length+1+items[i].v.length:Nat):=by rw[aj]<;>omega
   simp[c141,-ag,bG,nh,aN,bD.cells,oC,vD,mq,CO,-Int.natCast_add]
theorem f120 (n:Nd) (x:AV) (hx:iD n x) (h1:n.keys.length<=100000) (h2:n.items.length<=100000) (h3:n.kids.length<=100000) (hp nx) :
  aY E 120 [x] hp nx (.v (.int .i64 (aw n))) hp nx .p:=by
 have kN:=hx
 obtain ⟨kA,iA,dA,rfl,hk,hi,hd⟩:=hx
 have td:=f68 n _ kN h1 h2 h3
 have Qn:=f140 n _ kN
 have J1:=fun hr i hi=>f141 n _ kN hr i hi
 obtain ⟨kn,oy,kc,rfl,w9⟩:=hk
 obtain ⟨vB,vx,ic,rfl,EV⟩:=hi
 obtain ⟨dn,xm,dc,rfl,Ga⟩:=hd
 refine aD e120 rfl (by simp) ?_ hp nx
 simp[c120]
 refine ap (td _ _) ?_
 cases hr:ax n
 ·simp[aw,hr]
 ·have hf:=aZ.of hr
  have hhl:(bo n).length<=6:=by rw[bS];split<;>omega
  have ew:aw n=(bo n).length+bO n n.keys.length:=by simp[aw,hr,bK]
  simp
  refine ap (Qn _ _) ?_
  simp
  refine aM (I:=fun (j:Nat) s=>j<=n.keys.length/\s.tm 13=.int .i64 j/\s.tm 12=.int .i64 n.keys.length/\s.tm 3=.int .i64 ((bo n).length+bO n j:Nat)/\s.tm 1=.ptr 0 0 0 /\
   s.hp=ab cG 0 (some [[.v (.bool n.leaf),.rs kn oy (n.keys.map aN) kc,.rs vB vx (n.items.map bD.cells) ic,.rs dn xm (n.kids.map bC) dc]])/\s.nx=1)
   (fun j=>n.keys.length-j) 0 (by simp[bO]) ?_
  rintro j tm hp nx ⟨hj,t13,t12,t3,t1,rfl,rfl⟩
  simp only at t13 t12 t3 t1
  by_cases az:j<n.keys.length
  ·have hw:IntKind.wrap .i64 ((j:Int)+1)=(j+1:Nat):=by rw[aj]<;>omega
   have hs:=rh hf j hj
   have TN:=fX hf az
   have mq:IntKind.wrap .i64 (((bo n).length+bO n j:Nat)+(bQ n j:Int))=((bo n).length+bO n (j+1):Nat):=by
    have e:bO n (j+1)=bO n j+bQ n j:=rfl
    rw[aj]<;>omega
   simp[t13,t12,t3,t1,az,-Int.natCast_add]
   refine ap (J1 hf j az _ _) ?_
   simp[t13,t12,t3,t1,hw,mq,-Int.natCast_add]
   exact ⟨j+1,by omega,by omega,by simp,by simp⟩
  ·have:j=n.keys.length:=by omega
   subst this
   simp[t13,t12,t3,-Int.natCast_add]
   rw[ew]
def TX (hp:Heap) (nx w:Nat) (l:List UInt8):Prop :=
 w<nx/\((hp w=some [[nS]]/\l=[])\/∃b,w<b/\b<nx/\hp w=some [[.sl b 1 0 l.length none]]/\hp b=some (bytesOf l))
theorem fe {l:List UInt8}:(bytesOf l).length=l.length:=by simp[bytesOf]
theorem Ak {a b:List UInt8}:bytesOf a++bytesOf b=bytesOf (a++b):=by simp[bytesOf]
def ZA (hp:Heap) (w r:Nat):Prop:=r=w\/∃n c,hp w=some [[.sl r 1 0 n c]]
structure Ge (w:Nat) (hp:Heap) (nx:Nat) (hp':Heap) (nx':Nat):Prop where
 le:nx<=nx'
 ah:∀r,r<nx->¬ZA hp w r->hp' r=hp r/\¬ZA hp' w r
theorem Ge.refl {w hp nx}:Ge w hp nx hp nx:=⟨zD _,fun r h1 h2=>⟨rfl,h2⟩⟩
theorem Ge.trans {w hp nx hp1 nx1 aT ar} (h:Ge w hp nx hp1 nx1) (k:Ge w hp1 nx1 aT ar):Ge w hp nx aT ar :=
 ⟨wF h.le k.le,fun r h1 h2=>by
  obtain ⟨a,b⟩:=h.ah r h1 h2
  obtain ⟨c,d⟩:=k.ah r (zU h1 h.le) b
  exact ⟨c.trans a,d⟩⟩
theorem TX.append {hp:Heap} {nx w:Nat} {l:List UInt8} (h:TX hp nx w l) (new:List UInt8) (hn:l.length+new.length<=100000000) (bt:l≠[]\/new≠[]) :
  ∃bv v hp' nx',hp w=some [[bv]]/\cI 1 1 bv (bytesOf new) hp nx=some (v,hp',nx')/\hp' w=some [[bv]]/\v.cells=[v]/\v.one=true/\Ge w hp nx (ab hp' w (some [[v]])) nx'/\TX (ab hp' w (some [[v]])) nx' w (l++new):=by
 obtain ⟨hw,h⟩:=h
 rcases h with ⟨h1,rfl⟩|⟨b,hb,hbn,h1,h2⟩
 ·have bt:new≠[]:=by simpa using bt
  have hl:new.length≠0:=by simpa using bt
  refine ⟨_,.sl nx 1 0 new.length none,ab hp nx (some (bytesOf new)),nx+1,h1,?_,?_,rfl,rfl,?_,?_⟩
  ·simp only[cI,true_or,if_true,fe,hl,if_false,zS,Nat.zero_add]
   rw[if_pos ⟨by omega,by simp at hn ⊢;omega⟩];rfl
  ·simp[show ¬w=nx by omega,h1]
  ·refine ⟨by omega,fun r hr hb=>⟨?_,?_⟩⟩
   ·simp[show ¬r=w from fun e=>hb (.inl e),show ¬r=nx by omega]
   ·rintro (e|⟨n,c,e⟩)
    ·exact hb (.inl e)
    ·simp at e;omega
  ·refine ⟨by omega,.inr ⟨nx,hw,by omega,?_,?_⟩⟩
   ·simp
   ·simp[show ¬nx=w by omega]
 ·by_cases hl:new=[]
  ·subst hl
   refine ⟨_,.sl b 1 0 l.length none,ab hp b (some (bytesOf l)),nx,h1,?_,?_,rfl,rfl,?_,?_⟩
   ·simp only[cI,if_true,h2,fe,Nat.zero_add,zS]
    rw[if_neg (by omega)]
    simp[bytesOf,aa]
   ·simp[show ¬w=b by omega,h1]
   ·refine ⟨by omega,fun r hr hb=>⟨?_,?_⟩⟩
    ·simp[show ¬r=w from fun e=>hb (.inl e),show ¬r=b from fun e=>hb (.inr ⟨_,_,by rw[e];exact h1⟩)]
    ·rintro (e|⟨n,c,e⟩)
     ·exact hb (.inl e)
     ·simp at e;exact hb (.inr ⟨_,_,by rw[<-e.1];exact h1⟩)
   ·refine ⟨hw,.inr ⟨b,hb,hbn,?_,?_⟩⟩
    ·simp
    ·simp[show ¬b=w by omega]
  ·have QX:new.length≠0:=by simpa using hl
   refine ⟨_,.sl nx 1 0 (l.length+new.length) none,ab (ab hp b none) nx (some (bytesOf l++bytesOf new)),nx+1,h1,?_,?_,rfl,rfl,?_,?_⟩
   ·simp only[cI,if_true,h2,fe,Nat.zero_add]
    rw[if_neg (by omega),if_neg (by omega),if_pos (by omega)]
    have:(bytesOf l).take l.length=bytesOf l:=by rw[<-fe (l:=l)];exact zW
    simp[this]
   ·simp[show ¬w=b by omega,show ¬w=nx by omega,h1]
   ·refine ⟨by omega,fun r hr hb=>⟨?_,?_⟩⟩
    ·simp[show ¬r=w from fun e=>hb (.inl e),show ¬r=b from fun e=>hb (.inr ⟨_,_,by rw[e];exact h1⟩),show ¬r=nx by omega]
    ·rintro (e|⟨n,c,e⟩)
     ·exact hb (.inl e)
     ·simp at e;omega
   ·refine ⟨by omega,.inr ⟨nx,hw,by omega,?_,?_⟩⟩
    ·simp
    ·simp[show ¬nx=w by omega,Ak]
theorem GN (x:Nat):∀n k,k<n->aO (x / 256 ^ (n-k)) k++UInt8.ofNat (x / 256 ^ (n-1-k) % 256)::[]=aO (x / 256 ^ (n-1-k)) (k+1):=by
 intro n k hk
 have:256 ^ (n-k)=256 ^ (n-1-k)*256:=by rw[<-jI];congr 1;omega
 simp only[aO]
 rw[qp,this]
theorem f149 (x n:Nat) (hx:x<=9223372036854775807) (hn:n<=7) (hp:Heap) (nx w:Nat) (l:List UInt8) (hl:l.length<=10000000) (h:TX hp nx w l) :
  ∃hp' nx',aY E 149 [.ptr w 0 0,iV x,iV n] hp nx (.bE []) hp' nx' .e/\TX hp' nx' w (l++aO x n)/\Ge w hp nx hp' nx':=by
 have main:=an (P:=fun v hp' nx'=>v=.bE []/\TX hp' nx' w (l++aO x n)/\Ge w hp nx hp' nx') e149 (args:=[.ptr w 0 0,iV x,iV n]) rfl (hp:=hp) (nx:=nx) ?_
 ·obtain ⟨v,hp',nx',h1,rfl,h2⟩:=main
  exact ⟨hp',nx',h1,h2⟩
 ·simp[c149]
  have RW:IntKind.wrap .i64 ((n:Int)-1)=(n:Int)-1:=by rw[aj]<;>omega
  refine aM (I:=fun (k:Nat) s=>k<=n/\s.tm 6=.int .i64 ((n:Int)-1-k)/\s.tm 0=.ptr w 0 0/\s.tm 1=.int .i64 x/\TX s.hp s.nx w (l++aO (x / 256 ^ (n-k)) k)/\Ge w hp nx s.hp s.nx)
   (fun k=>n-k) 0 (by simp[RW,h,aO,Ge.refl]) ?_
  rintro k tm hp1 nx1 ⟨hk,t6,t0,t1,hT,hF⟩
  simp only at t6 t0 t1 hT hF
  by_cases az:k<n
  ·have h6:(n:Int)-1-k=(n-1-k:Nat):=by omega
   rw[h6]at t6
   have vD:IntKind.wrap .i64 (8*((n-1-k:Nat):Int))=(8*(n-1-k):Nat):=by rw[aj]<;>omega
   have G9:Cn .shr .i64 (x:Int) ((8*(n-1-k):Nat):Int)=some (.int .i64 ((x / 256 ^ (n-1-k):Nat):Int)):=by
    simp only[Cn]
    rw[if_neg (by omega)]
    have e1:Nat.min ((8*(n-1-k):Nat):Int).toNat (IntKind.bits .i64)=8*(n-1-k):=by
     simp only[zl];show Nat.min _ 64=_;exact qJ (by omega)
    rw[e1]
    have e2:(2:Int) ^ (8*(n-1-k))=((256 ^ (n-1-k):Nat):Int):=by
     rw[Int.pow_mul];norm_cast
    rw[e2,qD _ (jK _)]
    norm_cast
   generalize hy:x / 256 ^ (n-1-k)=y at G9
   have IW:[[AV.v (.int .u8 (IntKind.wrap .u8 (y:Int)))]]=bytesOf [UInt8.ofNat (y % 256)]:=by
    rw[IntKind.wrap_u8]
    simp[bytesOf]
   obtain ⟨bv,v,aT,ar,g1,g2,g3,g4,g5,g7,g8⟩:=hT.append [UInt8.ofNat (y % 256)] (by simp[aU];omega) (.inr (by simp))
   have mq:IntKind.wrap .i64 (((n-1-k:Nat):Int)-1)=(n:Int)-1-(k+1:Nat):=by
    have e:((n-1-k:Nat):Int)=n-1-k:=by omega
    rw[e,aj]<;>omega
   rw[<-IW]at g2
   simp[t6,t0,t1,vD,G9,g1,g2,g3,g4,g5,mq,-Int.natCast_mul,aa]
   refine ⟨k+1,by omega,by omega,by simp,?_,hF.trans g7⟩
   ·have:=GN x n k az
    rw[hy]at this
    rw[show n-(k+1)=n-1-k by omega,hy,<-this,<-zF]
    exact g8
  ·have:k=n:=by omega
   subst this
   have:(k:Int)-1-k = -1:=by omega
   rw[this]at t6
   simp[t6]
   refine ⟨?_,hF⟩
   simpa using hT
theorem f150 (hp:Heap) (nx w:Nat) (l s:List UInt8) (hl:l.length<=9000000) (hs:s.length<=255) (h:TX hp nx w l) :
  ∃hp' nx',aY E 150 [.ptr w 0 0,.str s] hp nx (.bE []) hp' nx' .e/\TX hp' nx' w (l++(aO s.length 1++s))/\Ge w hp nx hp' nx':=by
 have main:=an (P:=fun v hp' nx'=>v=.bE []/\TX hp' nx' w (l++(aO s.length 1++s))/\Ge w hp nx hp' nx') e150 (args:=[.ptr w 0 0,.str s]) rfl (hp:=hp) (nx:=nx) ?_
 ·obtain ⟨v,hp',nx',h1,rfl,h2⟩:=main
  exact ⟨hp',nx',h1,h2⟩
 ·obtain ⟨hp1,nx1,r1,r2,r3⟩:=f149 s.length 1 (by omega) (by omega) hp nx w l (by omega) h
  obtain ⟨bv,v,aT,ar,g1,g2,g3,g4,g5,g7,g8⟩:=r2.append s (by simp[aU];omega) (.inl (by simp[aO]))
  simp[c150]
  refine ae r1 ?_
  simp[g1,g2,g3,g4,g5,aa]
  exact ⟨by simpa using g8,r3.trans g7⟩
theorem f151 (hp:Heap) (nx w:Nat) (l:List UInt8) (x:bD) (hx:jl x=true) (hl:l.length<=8000000) (h:TX hp nx w l) :
  ∃hp' nx',aY E 151 [.ptr w 0 0,.agg x.cells] hp nx (.bE []) hp' nx' .e/\TX hp' nx' w (l++im x)/\Ge w hp nx hp' nx':=by
 have main:=an (P:=fun v hp' nx'=>v=.bE []/\TX hp' nx' w (l++im x)/\Ge w hp nx hp' nx') e151 (args:=[.ptr w 0 0,.agg x.cells]) rfl (hp:=hp) (nx:=nx) ?_
 ·obtain ⟨v,hp',nx',h1,rfl,h2⟩:=main
  exact ⟨hp',nx',h1,h2⟩
 ·have hnw:w<nx:=h.1
  have hN:¬ZA (ab hp nx (some [x.cells])) w nx:=by
   rintro (e|⟨n,c,e⟩)
   ·omega
   ·simp[show ¬w=nx by omega]at e
    obtain ⟨_,h⟩:=h
    rcases h with ⟨h1,_⟩|⟨b,_,h2,h3,_⟩
    ·rw[h1]at e;simp at e
    ·rw[h3]at e;simp at e;omega
  have IZ:Ge w hp nx (ab hp nx (some [x.cells])) (nx+1):=by
   refine ⟨by omega,fun r hr hb=>⟨by simp[show ¬r=nx by omega],?_⟩⟩
   rintro (e|⟨n,c,e⟩)
   ·exact hb (.inl e)
   ·simp[show ¬w=nx by omega]at e
    exact hb (.inr ⟨n,c,e⟩)
  have hT:TX (ab hp nx (some [x.cells])) (nx+1) w l:=by
   obtain ⟨_,h⟩:=h
   refine ⟨by omega,?_⟩
   rcases h with ⟨h1,h2⟩|⟨b,h1,h2,h3,h4⟩
   ·exact .inl ⟨by simp[show ¬w=nx by omega,h1],h2⟩
   ·exact .inr ⟨b,h1,by omega,by simp[show ¬w=nx by omega,h3],by simp[show ¬b=nx by omega,h4]⟩
  rcases il hx with ⟨q1,q2,q3⟩|⟨p,s,q1,q2,q3,q4,q5,q6,q7⟩
  ·obtain ⟨hp1,nx1,r1,r2,r3⟩:=f150 _ _ w l x.v (by omega) (by omega) hT
   have r1':=r1
   simp only[bD.cells,q1]at r1'
   simp[c151,bD.cells,q1]
   refine ae r1' ?_
   have hb:im x=aO x.v.length 1++x.v:=by simp[im,q1]
   simp[hb]
   exact ⟨r2,IZ.trans r3⟩
  ·obtain ⟨hp1,nx1,r1,r2,r3⟩:=f149 255 1 (by omega) (by omega) _ _ w l (by omega) hT
   obtain ⟨aT,ar,u1,u2,u3⟩:=f149 p 4 (by omega) (by omega) _ _ w _ (by simp[aU];omega) r2
   obtain ⟨kr,o6,v1,v2,v3⟩:=f149 s 4 (by omega) (by omega) _ _ w _ (by simp[aU];omega) u2
   have k1:=r3.ah nx (by omega) hN
   have k2:=u3.ah nx (by have:=r3.le;omega) k1.2
   have Lw:hp1 nx=some [x.cells]:=by rw[k1.1];simp
   have E3:aT nx=some [x.cells]:=by rw[k2.1,Lw]
   simp only[bD.cells]at Lw E3 r1
   have oC:¬x.p=0:=by omega
   simp[c151,bD.cells,oC]
   refine ae r1 ?_
   simp[Lw,q1]
   refine ae u1 ?_
   simp[E3,q2]
   refine ae v1 ?_
   have hb:im x=[255]++aO p 4++aO s 4:=by simp[im,q1,q2,show 0<p by omega]
   have mj:aO 255 1=[255]:=rfl
   simp[hb]
   refine ⟨?_,IZ.trans (r3.trans (u3.trans v3))⟩
   simpa [mj] using v2
theorem TX.read {hp:Heap} {nx w:Nat} {l:List UInt8} (h:TX hp nx w l) (bt:l≠[]):∃b,hp w=some [[.sl b 1 0 l.length none]]/\S3 hp b 1 0 l.length=some (.str l):=by
 obtain ⟨_,h⟩:=h
 rcases h with ⟨_,h⟩|⟨b,_,_,h1,h2⟩
 ·exact absurd h bt
 ·refine ⟨b,h1,?_⟩
  rw[S2 h2]
  have:((bytesOf l).drop 0).take l.length=bytesOf l:=by rw[zb,<-fe (l:=l)];exact zW
  rw[if_pos ⟨rfl,by rw[fe];omega⟩,this,dI]
  rfl
theorem f144 (n:Nd) (x:AV) (hx:iD n x) (h1:n.keys.length<=60000) (h2:n.items.length<=60000) (h3:n.kids.length<=60001) (hp nx) :
  aY E 144 [x] hp nx (C9 (HJ n)) hp nx .p:=by
 have kN:=hx
 have td:=f68 n _ kN (by omega) (by omega) (by omega)
 have vS:=f120 n _ kN (by omega) (by omega) (by omega)
 obtain ⟨kA,iA,dA,rfl,hk,hi,hd⟩:=hx
 obtain ⟨kn,oy,kc,rfl,w9⟩:=hk
 obtain ⟨vB,vx,ic,rfl,EV⟩:=hi
 obtain ⟨dn,xm,dc,rfl,Ga⟩:=hd
 refine aD e144 rfl (by simp) ?_ hp nx
 simp[c144]
 refine ap (td _ _) ?_
 cases hr:ax n
 ·simp[C9,HJ,hr,aq]
 have hf:=aZ.of hr
 simp
 refine ap (vS _ _) ?_
 have ew:aw n=(ba n).length:=by simp[aw,hr]
 by_cases hl:(ba n).length>492
 ·have QX:(492:Int)<(aw n:Int):=by omega
  simp[C9,HJ,hr,QX,hl,aq]
 have QX:¬(492:Int)<(aw n:Int):=by omega
 simp[QX]
 generalize hND:[AV.v (Value.bool n.leaf),AV.rs kn oy (n.keys.map aN) kc,AV.rs vB vx (n.items.map bD.cells) ic,AV.rs dn xm (n.kids.map bC) dc]=ND
 have hT0:TX (ab (ab cG 0 (some [ND])) 1 (some [[nS]])) 2 1 []:=⟨by omega,.inl ⟨by simp,rfl⟩⟩
 have hB0:¬ZA (ab (ab cG 0 (some [ND])) 1 (some [[nS]])) 1 0:=by
  rintro (e|⟨n,c,e⟩)
  ·omega
  ·simp at e
 obtain ⟨hp1,nx1,r1,r2,r3⟩:=f149 n.keys.length 2 (by omega) (by omega) _ _ 1 [] (by simp) hT0
 have k1:=r3.ah 0 (by omega) hB0
 have AB:hp1 0=some [ND]:=by rw[k1.1];simp
 subst hND
 refine ae r1 ?_
 simp only[zh]at r2
 have tail:∀tm hp nx,tm 1=.ptr 0 0 0->tm 5=.ptr 1 0 0->hp 0=some [[AV.v (Value.bool n.leaf),AV.rs kn oy (n.keys.map aN) kc,AV.rs vB vx (n.items.map bD.cells) ic,AV.rs dn xm (n.kids.map bC) dc]]->¬ZA hp 1 0->TX hp nx 1 (bo n) ->
   W (aY E) pO (yf [.t 2,.t 3,.t 4] (C9 (HJ n))) ⟨tm,hp,nx⟩:=by
  intro tm hp nx t1 t5 hN hB hT
  simp[c144,pO,t1,t5,hN]
  refine aM (I:=fun (j:Nat) s=>j<=n.keys.length/\s.tm 38=.int .i64 j/\s.tm 37=.int .i64 n.keys.length/\s.tm 36=AV.rs kn oy (n.keys.map aN) kc/\s.tm 1=.ptr 0 0 0/\s.tm 5=.ptr 1 0 0/\0<s.nx /\
    s.hp 0=some [[AV.v (Value.bool n.leaf),AV.rs kn oy (n.keys.map aN) kc,AV.rs vB vx (n.items.map bD.cells) ic,AV.rs dn xm (n.kids.map bC) dc]]/\¬ZA s.hp 1 0/\TX s.hp s.nx 1 (bo n++(List.range j).flatMap (eR n)))
    (fun j=>n.keys.length-j) 0 (by simp[t1,t5,hN,hB,hT];have:=hT.1;omega) ?_
  rintro j tm hp nx ⟨hj,t38,t37,t36,t1,t5,yP,hN,hB,hT⟩
  simp only at t38 t37 t36 t1 t5 yP hN hB hT
  by_cases az:j<n.keys.length
  ·have hs:=rh hf j hj
   have TN:=fX hf az
   have hhl:(bo n).length<=6:=by rw[bS];split<;>omega
   have bH:n.keys[j]?=some n.keys[j]:=zA az
   have Uf:n.keys.getD j []=n.keys[j]:=by simp[bH]
   have bG:cd 1 (.rs kn oy (n.keys.map aN) kc) (iV j)=some (.rp (aN n.keys[j])):=eb w9 (by simp[bH]) rfl
   have hw:IntKind.wrap .i64 ((j:Int)+1)=(j+1:Nat):=by rw[aj]<;>omega
   have lP:=hf.yB j az
   obtain ⟨hp1,nx1,r1,r2,r3⟩:=f150 _ _ 1 _ n.keys[j] (by rw[zG,j0];omega) (by omega) hT
   have k1:=r3.ah 0 yP hB
   have AB:=k1.1.trans hN
   have Lp:0<nx1:=by have:=r3.le;omega
   simp[t38,t37,t36,t1,t5,az,-ag,bG,aN]
   refine ae r1 ?_
   cases dj:n.leaf
   ·obtain ⟨g1,g2,g3,g4⟩:=hf.inner dj
    have Ua:j+1<n.kids.length:=by omega
    have nh:cd 1 (.rs dn xm (n.kids.map bC) dc) (.v (.int .i64 (j+1:Nat)))=some (.rp (bC n.kids[j+1])):=eb Ga (by simp[Ua]) rfl
    obtain ⟨k,hk,_,_⟩:=gf (g4 _ (zP Ua))
    have he:eR n j=aO n.keys[j].length 1++n.keys[j]++aO k 4:=by
     have:n.kids.getD (j+1) 0=k:=by simp[Ua,hk]
     simp only[eR,Uf,dj,this];simp
    obtain ⟨aT,ar,u1,u2,u3⟩:=f149 k 4 (by omega) (by omega) _ _ 1 _ (by rw[zG,zG,zG,j0,aU];omega) r2
    have k2:=u3.ah 0 Lp k1.2
    have DO:=k2.1.trans AB
    have WA:0<ar:=by have:=u3.le;omega
    rw[dj]at AB DO
    simp[t38,t37,t36,t1,t5,AB,-ag,nh,bC,hk,hw,-Int.natCast_add]
    refine ae u1 ?_
    simp[t38,t37,t36,t1,t5,DO,hw,-Int.natCast_add]
    refine ⟨j+1,by omega,by omega,by simp,WA,k2.2,?_⟩
    rw[qR,qf]
    simpa [he] using u2
   ·obtain ⟨g1,g2,g3⟩:=hf.leaf dj
    have CT:j<n.items.length:=by omega
    have hg:n.items.getD j ⟨[],0,0⟩=n.items[j]:=by simp[CT]
    have nh:cd 3 (.rs vB vx (n.items.map bD.cells) ic) (iV j)=some (.rp n.items[j].cells):=eb EV (by simp[CT]) rfl
    have he:eR n j=aO n.keys[j].length 1++n.keys[j]++im n.items[j]:=by
     simp only[eR,Uf,dj,hg];simp
    obtain ⟨aT,ar,u1,u2,u3⟩:=f151 _ _ 1 _ n.items[j] (g3 _ (zP CT)) (by rw[zG,zG,zG,j0,aU];omega) r2
    have k2:=u3.ah 0 Lp k1.2
    have DO:=k2.1.trans AB
    have WA:0<ar:=by have:=u3.le;omega
    rw[dj]at AB DO
    simp[t38,t37,t36,t1,t5,AB,-ag,nh,hw,-Int.natCast_add]
    refine ⟨by simp[bD.cells],?_⟩
    simp only[bD.cells]at u1 ⊢
    simp
    refine ae u1 ?_
    simp[t38,t37,t36,t1,t5,DO,hw,-Int.natCast_add]
    refine ⟨j+1,by omega,by omega,by simp,WA,k2.2,?_⟩
    rw[qR,qf]
    simpa [he] using u2
  ·have:j=n.keys.length:=by omega
   subst this
   have bt:ba n≠[]:=by
    intro h;have:=congrArg List.length h
    rw[bK,bS]at this
    simp at this;split at this<;>omega
   rw[show bo n++(List.range n.keys.length).flatMap (eR n)=ba n from rfl]at hT
   obtain ⟨b,g1,g2⟩:=hT.read bt
   cases dj:n.leaf
   ·rw[dj]at hN
    simp[t38,t37,t1,t5,hN,g1,g2]
    simp[C9,HJ,hr,hl,aq,dj]
   ·rw[dj]at hN
    simp[t38,t37,t1,t5,hN,g1,g2]
    simp[C9,HJ,hr,hl,aq,dj]
 cases dj:n.leaf
 ·obtain ⟨g1,g2,g3,g4⟩:=hf.inner dj
  have h0:0<n.kids.length:=by omega
  have nh:cd 1 (.rs dn xm (n.kids.map bC) dc) (iV 0)=some (.rp (bC n.kids[0])):=eb (j:=0) Ga (by simp[h0]) rfl
  obtain ⟨k,hk,_,_⟩:=gf (g4 _ (zP h0))
  have hh:bo n=aO n.keys.length 2++aO k 4:=by
   have:n.kids.getD 0 0=k:=by simp[h0,hk]
   simp only[bo,dj,this];simp
  obtain ⟨aT,ar,u1,u2,u3⟩:=f149 k 4 (by omega) (by omega) _ _ 1 _ (by rw[aU];omega) r2
  have k2:=u3.ah 0 (by have:=r3.le;omega) k1.2
  have DO:=k2.1.trans AB
  have Hu:=AB
  rw[dj]at Hu
  simp[Hu,nh,-ag,bC,hk]
  refine ae u1 ?_
  simp
  exact tail _ aT ar (by simp) (by simp) DO k2.2 (by rw[hh];exact u2)
 ·have hh:bo n=aO n.keys.length 2:=by simp[bo,dj]
  have Hu:=AB
  rw[dj]at Hu
  simp[Hu]
  exact tail _ hp1 nx1 (by simp) (by simp) AB k1.2 (by rw[hh];exact r2)
theorem C6 {k:Nat} {hp:Heap} {r sz i len cap} {es:bN} (h:hp r=some es) (hl:i+len<=es.length) (hc:bl ((es.drop i).take len)=true):kh (k+2) hp (.sl r sz i len cap)=some (.rs false sz ((es.drop i).take len) cap):=by
 have:dW (dW (kh (k+1) hp)) ((es.drop i).take len)=some ((es.drop i).take len):=mF fun x hx=>mF fun y hy=>aq (pK (nP hc x hx) y hy)
 rw[kh]
 simp only[rS,h,if_pos hl,this]
 rfl
theorem uV {n bytes:Nat} {x:AV} {es:List (List AV)} (hx:eV n es x) (hb:es.length*bytes<=140737488355328) (ho:es.all (fun l=>l.all AV.one)=true) (hc:bl es=true) :
  ∃v hp' nx' y,bu n bytes (.rs false n [] (some 0)) x cG 0=some (v,hp',nx')/\eV n es y/\kh 6 hp' v=some y:=by
 obtain ⟨nil,sz,cap,rfl,hz,hn⟩:=hx
 rw[bw hz,if_pos ho]
 by_cases he:es=[]
 ·subst he
  exact ⟨.rs false n [] (some 0),cG,0,.rs false n [] (some 0),by simp[cI],⟨false,n,_,rfl,.inr rfl,fun _=>rfl⟩,aq (by simp)⟩
 ·have hl:es.length≠0:=by simpa using he
  have lH:0<es.length:=by omega
  refine ⟨.sl 0 n 0 es.length none,ab cG 0 (some es),1,.rs false n es none,?_,⟨false,n,_,rfl,.inr rfl,fun h=>by cases h⟩,?_⟩
  ·simp[cI,he,lH,hb]
  ·rw[C6 (es:=es) (by simp) (by omega) (by simpa using hc)]
   simp
theorem f112 (ks:List (List UInt8)) (x:AV) (hx:eV 1 (ks.map aN) x) (hl:ks.length<=1000000):∃y,eV 1 (ks.map aN) y/\∀hp nx,aY E 112 [x] hp nx y hp nx .p:=by
 obtain ⟨v,hp',nx',y,h1,h2,h3⟩:=uV (bytes:=16) hx (by simp;omega) (mC ks) eL
 obtain ⟨nil,sz,cap,rfl,hz,hn⟩:=hx
 cases nil
 ·refine ⟨y,h2,fun hp nx=>aD e112 rfl (by simp) ?_ hp nx⟩
  simp[c112,h1,h3,-bw]
 ·have:=hn rfl
  refine ⟨nS,⟨true,_,_,by rw[this],.inl rfl,fun _=>this⟩,fun hp nx=>aD e112 rfl (by simp) ?_ hp nx⟩
  simp[c112,aq]
theorem f113 (ks:List bD) (x:AV) (hx:eV 3 (ks.map bD.cells) x) (hl:ks.length<=1000000):∃y,eV 3 (ks.map bD.cells) y/\∀hp nx,aY E 113 [x] hp nx y hp nx .p:=by
 obtain ⟨v,hp',nx',y,h1,h2,h3⟩:=uV (bytes:=32) hx (by simp;omega) (Bl ks) eM
 obtain ⟨nil,sz,cap,rfl,hz,hn⟩:=hx
 cases nil
 ·refine ⟨y,h2,fun hp nx=>aD e113 rfl (by simp) ?_ hp nx⟩
  simp[c113,h1,h3,-bw]
 ·have:=hn rfl
  refine ⟨nS,⟨true,_,_,by rw[this],.inl rfl,fun _=>this⟩,fun hp nx=>aD e113 rfl (by simp) ?_ hp nx⟩
  simp[c113,aq]
theorem f114 (ks:List Int) (x:AV) (hx:eV 1 (ks.map bC) x) (hl:ks.length<=1000000):∃y,eV 1 (ks.map bC) y/\∀hp nx,aY E 114 [x] hp nx y hp nx .p:=by
 obtain ⟨v,hp',nx',y,h1,h2,h3⟩:=uV (bytes:=8) hx (by simp;omega) (o5 ks) fk
 obtain ⟨nil,sz,cap,rfl,hz,hn⟩:=hx
 cases nil
 ·refine ⟨y,h2,fun hp nx=>aD e114 rfl (by simp) ?_ hp nx⟩
  simp[c114,h1,h3,-bw]
 ·have:=hn rfl
  refine ⟨nS,⟨true,_,_,by rw[this],.inl rfl,fun _=>this⟩,fun hp nx=>aD e114 rfl (by simp) ?_ hp nx⟩
  simp[c114,aq]
theorem f74 (n:Nd) (x:AV) (hx:iD n x) (a b:Nat) (h1:a<=b) (h2:b<=n.keys.length) (h3:n.leaf=true->b<=n.items.length) (h4:n.leaf=false->b+1<=n.kids.length) (h5:b<=100000) :
  ∃y,iD (cM n a b) y/\∀hp nx,aY E 74 [x,iV a,iV b] hp nx y hp nx .p:=by
 obtain ⟨leaf,keys,items,kids⟩:=n
 obtain ⟨kA,iA,dA,rfl,hk,hi,hd⟩:=hx
 simp only at hk hi hd h2 h3 h4
 obtain ⟨k1,k2,k3⟩:=oL (k:=.i64) (k':=.i64) hk h1 (by simpa using h2)
 rw[<-wR,<-wS]at k2
 obtain ⟨k4,k5,k6⟩:=f112 _ _ k2 (by simp;omega)
 obtain ⟨kn,oy,kc,rfl⟩:=hk.shape
 obtain ⟨vB,vx,ic,rfl⟩:=hi.shape
 obtain ⟨dn,xm,dc,rfl⟩:=hd.shape
 obtain ⟨yn,ysz,yc,rfl⟩:=k5.shape
 have hw:IntKind.wrap .i64 ((b:Int)+1)=(b+1:Nat):=by rw[aj]<;>omega
 cases leaf
 ·obtain ⟨d1,d2,d3⟩:=oL (k:=.i64) (k':=.i64) (a:=a) (b:=b+1) hd (by omega) (by simpa using h4 rfl)
  rw[<-wR,<-wS]at d2
  obtain ⟨d4,d5,d6⟩:=f114 _ _ d2 (by simp;omega)
  obtain ⟨zn,zsz,zc,rfl⟩:=d5.shape
  refine ⟨.agg [.v (.bool false),_,nS,_],⟨_,_,_,rfl,k5,.v9,d5⟩,fun hp nx=>aD e74 rfl (by simp) ?_ hp nx⟩
  simp[c74,k3]
  refine ap (k6 _ _) ?_
  simp[hw,d3,aa,-Int.natCast_add]
  refine ap (d6 _ _) ?_
  simp[aa,aq]
 ·obtain ⟨d1,d2,d3⟩:=oL (k:=.i64) (k':=.i64) (a:=a) (b:=b) hi (by omega) (by simpa using h3 rfl)
  rw[<-wR,<-wS]at d2
  obtain ⟨d4,d5,d6⟩:=f113 _ _ d2 (by simp;omega)
  obtain ⟨zn,zsz,zc,rfl⟩:=d5.shape
  refine ⟨.agg [.v (.bool true),_,_,nS],⟨_,_,_,rfl,k5,d5,.v9⟩,fun hp nx=>aD e74 rfl (by simp) ?_ hp nx⟩
  simp[c74,k3]
  refine ap (k6 _ _) ?_
  simp[hw,d3,aa,-Int.natCast_add]
  refine ap (d6 _ _) ?_
  simp[aa,aq]
theorem f145 (n:Nd) (x:AV) (hx:iD n x) (h1:n.keys.length<=60000) (h2:n.items.length<=60000) (h3:n.kids.length<=60001) (hr:ax n=true) (hup:gi n<n.keys.length) :
  ∃(i:Nat) (ya yb:AV) (hi:i<n.keys.length),vX n i/\iD (cM n 0 i) ya/\iD (cM n (i+gi n-1) n.keys.length) yb/\∀hp nx,aY E 145 [x] hp nx (.bE [ya,.str n.keys[i],yb,.int .i64 0]) hp nx .p:=by
 have td:=f68 n _ hx (by omega) (by omega) (by omega)
 have vS:=f120 n _ hx (by omega) (by omega) (by omega)
 have Qn:=f140 n _ hx
 have hf:=aZ.of hr
 have J1:=fun i hi=>f141 n _ hx hf i hi
 have acp:=f74 n _ hx
 have aaF:1<=gi n/\gi n<=2:=by simp only[gi];split<;>omega
 have hhl:(bo n).length<=6:=by rw[bS];split<;>omega
 have af3:aw n<=6+122*60000:=by simp only[aw,hr,if_true,bK];have:=rh hf n.keys.length (zD _);omega
 obtain ⟨i,hi⟩:∃i,vX n i:=by
  have:∀d i,n.keys.length-gi n-i=d->1<=i->i+gi n<=n.keys.length->(∀j,1<=j->j<i->2*((bo n).length+bO n j)<aw n)->∃i,vX n i:=by
   intro d
   induction d with
   |zero=>intro i h1 h2 h3 h4;exact ⟨i,h2,h3,h4,.inl (by omega)⟩
   |succ d ih =>
    intro i h1 h2 h3 h4
    by_cases h:aw n<=2*((bo n).length+bO n i)
    ·exact ⟨i,h2,h3,h4,.inr h⟩
    ·refine ih (i+1) (by omega) (by omega) (by omega) (fun j g1 g2 => ?_)
     rcases zj j i with g|g
     ·exact h4 j g1 g
     ·have:j=i:=by omega
      subst this;omega
  exact this _ 1 rfl (by omega) (by omega) (fun j h1 h2=>by omega)
 have az:i<n.keys.length:=by have:=hi.le;omega
 have xc:n.leaf=true->n.items.length=n.keys.length:=fun h=>(hf.leaf h).1
 have tj:n.leaf=false->n.kids.length=n.keys.length+1:=fun h=>(hf.inner h).2.1
 obtain ⟨ya,ha1,ha2⟩:=acp 0 i (by omega) (by omega) (fun h=>by rw[xc h];omega) (fun h=>by rw[tj h];omega) (by omega)
 obtain ⟨yb,tn,vJ⟩:=acp (i+gi n-1) n.keys.length (by have:=hi.le;omega) (by omega) (fun h=>by rw[xc h];omega) (fun h=>by rw[tj h];omega) (by omega)
 refine ⟨i,ya,yb,az,hi,ha1,tn,fun hp nx => ?_⟩
 obtain ⟨kA,iA,dA,rfl,hk,bG,hd⟩:=hx
 obtain ⟨kn,oy,kc,rfl,w9⟩:=hk
 obtain ⟨vB,vx,ic,rfl,EV⟩:=bG
 obtain ⟨dn,xm,dc,rfl,Ga⟩:=hd
 obtain ⟨ak,ai,ad,hya,ak',ai',UR⟩:=ha1
 obtain ⟨bk,bi,bd,hyb,bk',bi',bd'⟩:=tn
 obtain ⟨_,_,_,rfl⟩:=ak'.shape
 obtain ⟨_,_,_,rfl⟩:=ai'.shape
 obtain ⟨_,_,_,rfl⟩:=UR.shape
 obtain ⟨_,_,_,rfl⟩:=bk'.shape
 obtain ⟨_,_,_,rfl⟩:=bi'.shape
 obtain ⟨_,_,_,rfl⟩:=bd'.shape
 refine aD e145 rfl (by simp) ?_ hp nx
 have tail:∀tm,tm 6=.int .i64 (gi n)->tm 1=.ptr 0 0 0->tm 2=.ptr 1 0 0->tm 4=.ptr 2 0 0->W (aY E) Ah (yf [.cell 2 (some 4),.t 3,.cell 4 (some 4),.t 5] (.bE [ya,.str n.keys[i],yb,.int .i64 0]))
   ⟨tm,ab (ab (ab cG 0 (some [[.v (.bool n.leaf),.rs kn oy (n.keys.map aN) kc,.rs vB vx (n.items.map bD.cells) ic,.rs dn xm (n.kids.map bC) dc]])) 1 (some [[.v (.bool false),nS,nS,nS]])) 2 (some [[.v (.bool false),nS,nS,nS]]),3⟩:=by
  intro tm t6 t1 t2 t4
  have aeM:¬(n.keys.length:Int)<=gi n:=by omega
  simp[Ah,t6,t1,t2,t4]
  refine ap (td _ _) ?_
  simp[hr,t6,t1,t2,t4,aeM]
  refine ap (vS _ _) ?_
  simp[t6,t1,t2,t4]
  refine ap (Qn _ _) ?_
  simp[t6,t1,t2,t4]
  refine ap (J1 0 (by omega) _ _) ?_
  have RW:IntKind.wrap .i64 (((bo n).length:Int)+(bQ n 0:Int))=((bo n).length+bO n 1:Nat):=by
   have:=fX hf (i:=0) (by omega)
   have e:bO n 1=bQ n 0:=by simp[bO]
   rw[aj]<;>omega
  simp[t6,t1,t2,t4,RW,-Int.natCast_add]
  refine aM (I:=fun (j:Nat) s=>1<=j/\j<=i/\s.tm 8=.int .i64 j/\s.tm 9=.int .i64 ((bo n).length+bO n j:Nat)/\s.tm 7=.int .i64 (aw n)/\s.tm 6=.int .i64 (gi n)/\s.tm 1=.ptr 0 0 0/\s.tm 2=.ptr 1 0 0/\s.tm 4=.ptr 2 0 0 /\
   s.hp=ab (ab (ab cG 0 (some [[.v (.bool n.leaf),.rs kn oy (n.keys.map aN) kc,.rs vB vx (n.items.map bD.cells) ic,.rs dn xm (n.kids.map bC) dc]])) 1 (some [[.v (.bool false),nS,nS,nS]])) 2 (some [[.v (.bool false),nS,nS,nS]])/\s.nx=3)
   (fun j=>i-j) 1 (by simp[t6,t1,t2,t4];exact hi.pos) ?_
  rintro j tm hp nx ⟨Md,NU,t8,t9,t7,t6,t1,t2,t4,rfl,rfl⟩
  simp only at t8 t9 t7 t6 t1 t2 t4
  have hs:=rh hf j (by omega)
  have mq:IntKind.wrap .i64 (2*(((bo n).length+bO n j:Nat):Int))=(2*((bo n).length+bO n j):Nat):=by rw[aj]<;>omega
  have CO:IntKind.wrap .i64 ((n.keys.length:Int)-(gi n:Int))=(n.keys.length-gi n:Nat):=by rw[aj]<;>omega
  by_cases fN:j<i
  ·have g1:(((2*((bo n).length+bO n j):Nat):Int))<(aw n:Int):=by have:=hi.low j Md fN;omega
   have g2:(j:Int)<((n.keys.length-gi n:Nat):Int):=by have:=hi.le;omega
   have tU:j<n.keys.length:=by omega
   have Wb:IntKind.wrap .i64 ((((bo n).length+bO n j:Nat):Int)+(bQ n j:Int))=((bo n).length+bO n (j+1):Nat):=by
    have:=fX hf tU
    have e:bO n (j+1)=bO n j+bQ n j:=rfl
    rw[aj]<;>omega
   have hw5:IntKind.wrap .i64 ((j:Int)+1)=(j+1:Nat):=by rw[aj]<;>omega
   simp[t8,t9,t7,t6,t1,t2,t4,mq,g1,CO,g2,-Int.natCast_add,-Int.natCast_mul,-Int.ofNat_lt]
   refine ap (J1 j tU _ _) ?_
   simp[t8,t9,t7,t6,t1,t2,t4,Wb,hw5,-Int.natCast_add,-Int.natCast_mul]
   exact ⟨j+1,by omega,by omega,by omega,rfl,rfl⟩
  ·have oG:j=i:=by omega
   subst oG
   have NX:j+gi n=n.keys.length\/aw n<=2*((bo n).length+bO n j):=hi.top
   have bH:n.keys[j]?=some n.keys[j]:=zA az
   have bG:cd 1 (.rs kn oy (n.keys.map aN) kc) (iV j)=some (.rp (aN n.keys[j])):=eb w9 (by simp[bH]) rfl
   have hw6:IntKind.wrap .i64 ((j:Int)+(gi n:Int))=(j+gi n:Nat):=by rw[aj]<;>omega
   have hw7:IntKind.wrap .i64 (((j+gi n:Nat):Int)-1)=(j+gi n-1:Nat):=by rw[aj]<;>omega
   have fin:∀tm,tm 8=.int .i64 j->tm 6=.int .i64 (gi n)->tm 1=.ptr 0 0 0->tm 2=.ptr 1 0 0->tm 4=.ptr 2 0 0->W (aY E) nQ (yf [.cell 2 (some 4),.t 3,.cell 4 (some 4),.t 5] (.bE [ya,.str n.keys[j],yb,.int .i64 0]))
     ⟨tm,ab (ab (ab cG 0 (some [[.v (.bool n.leaf),.rs kn oy (n.keys.map aN) kc,.rs vB vx (n.items.map bD.cells) ic,.rs dn xm (n.kids.map bC) dc]])) 1 (some [[.v (.bool false),nS,nS,nS]])) 2 (some [[.v (.bool false),nS,nS,nS]]),3⟩:=by
    intro tm t8 t6 t1 t2 t4
    simp[nQ,t8,t6,t1,t2,t4]
    refine ap (ha2 _ _) ?_
    simp[t8,t6,t1,t2,t4,bG,-ag,aN,hw6,hw7,-Int.natCast_add]
    refine ap (vJ _ _) ?_
    simp[t8,t6,t1,t2,t4,hya,hyb,aa,aq]
   by_cases q1:2*((bo n).length+bO n j)<aw n
   ·have g1:(((2*((bo n).length+bO n j):Nat):Int))<(aw n:Int):=by omega
    have g2:¬(j:Int)<((n.keys.length-gi n:Nat):Int):=by omega
    simp[t8,t9,t7,t6,t1,t2,t4,mq,g1,CO,g2,-Int.natCast_add,-Int.natCast_mul,-Int.ofNat_lt]
    exact fin _ (by simp[t8]) (by simp[t6]) (by simp[t1]) (by simp[t2]) (by simp[t4])
   ·have g1:¬(((2*((bo n).length+bO n j):Nat):Int))<(aw n:Int):=by omega
    simp[t8,t9,t7,t6,t1,t2,t4,mq,g1,CO,-Int.natCast_add,-Int.natCast_mul,-Int.ofNat_lt]
    exact fin _ (by simp[t8]) (by simp[t6]) (by simp[t1]) (by simp[t2]) (by simp[t4])
 cases dj:n.leaf
 ·have hu:gi n=2:=by simp[gi,dj]
  rw[dj]at tail
  simp[c145]
  exact tail _ (by simp[hu]) (by simp) (by simp) (by simp)
 ·have hu:gi n=1:=by simp[gi,dj]
  rw[dj]at tail
  simp[c145]
  exact tail _ (by simp[hu]) (by simp) (by simp) (by simp)
theorem f105 (ks:List (List UInt8)) (x:AV) (hx:eV 1 (ks.map aN) x) (k:List UInt8) (j:Nat) (hj:j<ks.length) (hp:Heap) (nx a b:Nat) (ha:hp a=some [[x]]) (hb:hp b=some [[.str k]]) :
  aY E 105 [iV j,.ptr a 0 0,.ptr b 0 0] hp nx (.v (.bool (!al ks[j] k))) hp nx .e:=by
 have main:=an (P:=fun v hp' nx'=>v=.v (.bool (!al ks[j] k))/\hp'=hp/\nx'=nx) e105 (args:=[iV j,.ptr a 0 0,.ptr b 0 0]) rfl (hp:=hp) (nx:=nx) ?_
 ·obtain ⟨v,hp',nx',h1,rfl,rfl,rfl⟩:=main
  exact h1
 ·obtain ⟨kn,oy,kc,rfl,w9⟩:=hx
  have bH:ks[j]?=some ks[j]:=zA hj
  have bG:cd 1 (.rs kn oy (ks.map aN) kc) (iV j)=some (.rp (aN ks[j])):=eb w9 (by simp[bH]) rfl
  simp[c105,ha,hb,bG,-ag,aN]
theorem f104 (ks:List (List UInt8)) (x:AV) (hx:eV 1 (ks.map aN) x) (hr:kS ks) (hl:ks.length<=1000000) (k:List UInt8) (hp:Heap) (nx a b:Nat) (ha:hp a=some [[x]]) (hb:hp b=some [[.str k]]) :
  aY E 104 [iV ks.length,.fn (.func 105) [] [.ptr a 0 0,.ptr b 0 0]] hp nx (.v (.int .i64 (below ks k))) hp nx .e:=by
 have main:=an (P:=fun v hp' nx'=>v=.v (.int .i64 (below ks k))/\hp'=hp/\nx'=nx) e104 (args:=[iV ks.length,.fn (.func 105) [] [.ptr a 0 0,.ptr b 0 0]]) rfl (hp:=hp) (nx:=nx) ?_
 ·obtain ⟨v,hp',nx',h1,rfl,rfl,rfl⟩:=main
  exact h1
 ·simp[c104]
  refine aM (I:=fun (g:Nat×Nat) s=>g.1<=g.2/\g.2<=ks.length/\s.tm 5=.int .i64 g.1/\s.tm 6=.int .i64 g.2/\s.tm 1=.fn (.func 105) [] [.ptr a 0 0,.ptr b 0 0]/\s.hp=hp/\s.nx=nx /\
    (∀j (hj:j<ks.length),j<g.1->al ks[j] k=true)/\(∀j (hj:j<ks.length),g.2<=j->al ks[j] k=false))
   (fun g=>g.2-g.1) (0,ks.length) (by simp;intro j hj h;omega) ?_
  rintro ⟨i,j⟩ tm hp' nx' ⟨yU,tU,t5,t6,t1,rfl,rfl,oE,DN⟩
  simp only at yU tU t5 t6 t1 oE DN
  by_cases az:i<j
  ·obtain ⟨m,hm⟩:∃m,m=(i+j) / 2:=⟨_,rfl⟩
   have hml:m<ks.length:=by omega
   have vD:IntKind.wrap .i64 ((i:Int)+(j:Int))=(i+j:Nat):=by rw[aj]<;>omega
   have mq:IntKind.wrap .u64 ((i+j:Nat):Int)=(i+j:Nat):=by simp only[IntKind.wrap,IntKind.bits,IntKind.signed];simp;omega
   have G9:Cn .shr .u64 ((i+j:Nat):Int) 1=some (.int .u64 (m:Nat)):=by
    simp only[Cn]
    rw[if_neg (by omega)]
    have e1:Nat.min (1:Int).toNat (IntKind.bits .u64)=1:=by decide
    rw[e1,qD _ (by omega),hm]
    norm_cast
   have CO:IntKind.wrap .i64 (m:Int)=(m:Nat):=by rw[aj]<;>omega
   have Wb:IntKind.wrap .i64 ((m:Int)+1)=(m+1:Nat):=by rw[aj]<;>omega
   simp[t5,t6,t1,az,vD,mq,G9,CO,-Int.natCast_add]
   refine ae (f105 ks x hx k m hml _ _ a b ha hb) ?_
   cases hs:al ks[m] k
   ·simp[t5,t6,t1,Wb,-Int.natCast_add]
    refine ⟨i,m,by omega,by omega,by omega,rfl,rfl,oE,fun q hq hmq => ?_⟩
    rcases zj m q with g|g
    ·cases h4:al ks[q] k with
     |false=>rfl
     |true=>have:=cK (hr m q hq g) h4;rw[hs]at this;cases this
    ·have:q=m:=by omega
     subst this;exact hs
   ·simp[t5,t6,t1,Wb,-Int.natCast_add]
    refine ⟨m+1,j,by omega,by omega,by omega,rfl,rfl,fun q hq hmq => ?_,DN⟩
    rcases zj q m with g|g
    ·exact cK (hr q m hml g) hs
    ·have:q=m:=by omega
     subst this;exact hs
  ·have:i=j:=by omega
   subst this
   simp[t5,t6,t1]
   rw[Am tU oE DN]
theorem f69 (ks:List (List UInt8)) (x:AV) (hx:eV 1 (ks.map aN) x) (hr:kS ks) (hl:ks.length<=1000000) (k:List UInt8) (hp nx) :
  aY E 69 [x,.str k] hp nx (.v (.int .i64 (below ks k))) hp nx .p:=by
 have kN:=hx
 obtain ⟨kn,oy,kc,rfl,w9⟩:=hx
 refine aD e69 rfl (by simp) ?_ hp nx
 simp[c69]
 have:=f104 ks _ kN hr hl k (ab (ab cG 0 (some [[AV.rs kn oy (ks.map aN) kc]])) 1 (some [[AV.str k]])) 2 0 1 (by simp) (by simp)
 refine ae this ?_
 simp
theorem f37 (n:Nd) (x:AV) (hx:iD n x) (k:List UInt8) (h1:n.keys.length<=60000) (h2:n.items.length<=60000) (h3:n.kids.length<=60001) (hp nx) :
  aY E 37 [x,.str k] hp nx (lS (kF n k)) hp nx .p:=by
 have td:=f68 n _ hx (by omega) (by omega) (by omega)
 obtain ⟨leaf,keys,items,kids⟩:=n
 obtain ⟨kA,iA,dA,rfl,hk,hi,hd⟩:=hx
 have jn:=hk
 obtain ⟨kn,oy,kc,rfl,w9⟩:=hk
 obtain ⟨vB,vx,ic,rfl,EV⟩:=hi
 obtain ⟨dn,xm,dc,rfl,Ga⟩:=hd
 simp only at h1 h2 h3 jn w9
 refine aD e37 rfl (by simp) ?_ hp nx
 simp[c37]
 refine ap (td _ _) ?_
 cases hr:ax ⟨leaf,keys,items,kids⟩
 ·simp[lS,kF,hr,aq]
 have eJ:kS keys:=kS.of (by simp only[ax,zN]at hr;exact hr.1)
 obtain ⟨b1,b2,b3⟩:=fu eJ k
 simp
 refine ap (f69 keys _ jn eJ (by omega) k _ _) ?_
 have mg:=kW eJ k
 simp
 by_cases az:below keys k<keys.length
 ·have bH:keys[below keys k]?=some keys[below keys k]:=zA az
  have bG:cd 1 (.rs kn oy (keys.map aN) kc) (.v (.int .i64 (below keys k)))=some (.rp (aN keys[below keys k])):=eb w9 (by simp[bH]) rfl
  have hw:IntKind.wrap .i64 ((below keys k:Int)+1)=(below keys k+1:Nat):=by rw[aj]<;>omega
  rw[bH]at mg
  by_cases IU:keys[below keys k]=k
  ·have ng:k∈keys:=mg.2 (by rw[IU])
   cases leaf
   ·simp[az,bG,-ag,aN,IU,hw,aq,-Int.natCast_add]
    simp[lS,kF,hr,ng]
   ·simp[az,bG,-ag,aN,IU,hw,aq,-Int.natCast_add]
    simp[lS,kF,hr,ng]
  ·have ng:k∉keys:=fun h=>IU (by simpa using mg.1 h)
   simp[az,bG,-ag,aN,IU,aq]
   simp[lS,kF,hr,ng]
 ·have ng:k∉keys:=fun h=>by
   have:=mg.1 h
   rw[wZ (by omega)]at this;cases this
  simp[az,aq]
  simp[lS,kF,hr,ng]
def RD (hp:Heap) (w:Nat) (r:RS):Prop:=hp w=some [[.str r.1,.v (.bool r.2)]]
theorem f96 (r:RS) (n:Nat) (hp:Heap) (nx w:Nat) (h:RD hp w r) :
  ∃hp',aY E 96 [.ptr w 0 0,iV n] hp nx (.str (aH r n).1) hp' nx .e/\RD hp' w (aH r n).2/\pU (· = w) hp nx hp' nx:=by
 obtain ⟨s,bad⟩:=r
 simp only[RD]at h
 refine ⟨ab hp w (some [[.str (aH (s,bad) n).2.1,.v (.bool (aH (s,bad) n).2.2)]]),?_,by simp[RD],⟨zD _,fun q _ hq=>by simp[hq]⟩⟩
 have main:=an (P:=fun v hp' nx'=>v=.str (aH (s,bad) n).1/\hp'=ab hp w (some [[.str (aH (s,bad) n).2.1,.v (.bool (aH (s,bad) n).2.2)]])/\nx'=nx) e96 (args:=[.ptr w 0 0,iV n]) rfl (hp:=hp) (nx:=nx) ?_
 ·obtain ⟨v,hp',nx',h1,rfl,rfl,rfl⟩:=main
  exact h1
 ·by_cases hn:n<=s.length
  ·have T3:¬(s.length:Int)<n:=by omega
   simp[c96,h,T3,D8 hn,D7 hn,aa,aH,hn,-Int.ofNat_lt]
  ·have T3:(s.length:Int)<n:=by omega
   simp[c96,h,T3,aa,aH,hn,-Int.ofNat_lt]
end Go.Ai
