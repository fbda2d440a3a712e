/- Part 5 of what the proof of BtreePlays rests on. -/
import Derived.Test.YtblopagmddgkjaaGreatK4
set_option linter.unusedVariables false
set_option linter.unusedSimpArgs false
set_option maxHeartbeats 4000000
namespace Go.Ai
theorem f95 (r:RS) (n:Nat) (hn:n<=6) (hp:Heap) (nx w:Nat) (hw:w<nx) (h:RD hp w r) :
  ∃hp' nx',aZ E 95 [.ptr w 0 0,iV n] hp nx (.v (.int .i64 (aE r n).1)) hp' nx' .e/\RD hp' w (aE r n).2/\pI (· = w) hp nx hp' nx':=by
 obtain ⟨hp1,r1,r2,r3⟩:=f96 r n hp nx w h
 have main:=an (P:=fun v hp' nx'=>v=.v (.int .i64 (aE r n).1)/\RD hp' w (aE r n).2/\pI (· = w) hp nx hp' nx') e95 (args:=[.ptr w 0 0,iV n]) rfl (hp:=hp) (nx:=nx) ?_
 ·obtain ⟨v,hp',nx',h1,rfl,h2⟩:=main
  exact ⟨hp',nx',h1,h2⟩
 ·simp[c95]
  refine ae r1 ?_
  have QL:=yV r n
  have lj:RD (ab hp1 nx (some (bytesOf (aH r n).1))) w (aE r n).2:=by
   simp only[RD,cd,show ¬w=nx by omega,if_false];exact r2
  have bU:pI (· = w) hp nx (ab hp1 nx (some (bytesOf (aH r n).1))) (nx+1) :=
   r3.trans ⟨by omega,fun q hq _=>by simp[show ¬q=nx by omega]⟩
  have hnr:(aE r n).1=aA (aH r n).1:=rfl
  generalize hbs:(aH r n).1=bs at *
  simp[ZB]
  refine aL (I:=fun (j:Nat) s=>j<=bs.length/\s.tm 13=.int .i64 j/\s.tm 12=.int .i64 bs.length/\s.tm 11=.sl nx 1 0 bs.length none/\s.tm 5=.int .i64 (aA (bs.take j))/\s.hp=ab hp1 nx (some (bytesOf bs))/\s.nx=nx+1)
   (fun j=>bs.length-j) 0 (by simp[aA]) ?_
  rintro j tm hp' nx' ⟨hj,t13,t12,t11,t5,rfl,rfl⟩
  simp only at t13 t12 t11 t5
  by_cases az:j<bs.length
  ·have bH:bs[j]?=some bs[j]:=zA az
   have hgb:(bytesOf bs)[j]?=some [.v (.int .u8 bs[j].toNat)]:=by simp[bytesOf,bH]
   have X7:IntKind.wrap .i64 ((j:Int)+1)=(j+1:Nat):=by rw[aj]<;>omega
   have mc:(j:Int)<(bs.length:Int):=by omega
   have hx:aA (bs.take j)<281474976710656:=by
    have h1:=oK (bs.take j)
    have h2:256 ^ (bs.take j).length<=256 ^ 6:=wu (by omega) (by simp;omega)
    omega
   have GQ:B9 .shl .i64 (aA (bs.take j):Int) 8=some (.int .i64 (IntKind.wrap .i64 ((aA (bs.take j):Int)*256))):=by
    simp only[B9];rw[if_neg (by omega)];rfl
   have hb8:IntKind.wrap .i64 (bs[j].toNat:Int)=(bs[j].toNat:Nat):=by have:=bs[j].toNat_lt;rw[aj]<;>omega
   have hor:=HZ hx bs[j].toNat_lt
   have Av:bs.take (j+1)=bs.take j++[bs[j]]:=by rw[zz,bH];rfl
   simp[t13,t12,t11,t5,mc,hgb,X7,GQ,hb8,hor,-BitVec.toNat_or,-Int.natCast_add,-Int.ofNat_lt,-Int.natCast_mul]
   exact ⟨j+1,by omega,by omega,by simp,by rw[Av,kX]⟩
  ·have:j=bs.length:=by omega
   subst this
   simp[t13,t12,t5]
   refine ⟨?_,lj,bU⟩
   rw[hnr]
theorem f97 (r:RS) (hp:Heap) (nx w:Nat) (hw:w<nx) (h:RD hp w r) :
  ∃hp' nx',aZ E 97 [.ptr w 0 0] hp nx (.agg (dW r).1.cells) hp' nx' .e/\RD hp' w (dW r).2/\pI (· = w) hp nx hp' nx':=by
 have main:=an (P:=fun v hp' nx'=>v=.agg (dW r).1.cells/\RD hp' w (dW r).2/\pI (· = w) hp nx hp' nx') e97 (args:=[.ptr w 0 0]) rfl (hp:=hp) (nx:=nx) ?_
 ·obtain ⟨v,hp',nx',h1,rfl,h2⟩:=main
  exact ⟨hp',nx',h1,h2⟩
 ·have aav:pI (· = w) hp nx (ab hp nx (some [[.str [],iV 0,iV 0]])) (nx+1):=⟨by omega,fun q hq _=>by simp[show ¬q=nx by omega]⟩
  have aet:RD (ab hp nx (some [[.str [],iV 0,iV 0]])) w r:=by simp only[RD,cd,show ¬w=nx by omega,if_false];exact h
  obtain ⟨hp1,nx1,r1,r2,r3⟩:=f95 r 1 (by omega) _ (nx+1) w (by omega) aet
  have ta:hp1 nx=some [[.str [],iV 0,iV 0]]:=by rw[r3.ah nx (by omega) (by omega)];simp
  have Ey:=r3.le
  simp[c97]
  refine ae r1 ?_
  simp
  by_cases mf:(aE r 1).1=255
  ·have NW:((aE r 1).1:Int)=255:=by omega
   obtain ⟨aT,ar,u1,u2,u3⟩:=f95 _ 4 (by omega) _ nx1 w (by omega) r2
   have Bp:=u3.le
   have vx:aT nx=some [[.str [],iV 0,iV 0]]:=by rw[u3.ah nx (by omega) (by omega),ta]
   obtain ⟨kF,r9,v1,v2,v3⟩:=f95 _ 4 (by omega) _ ar w (by omega) u2
   have Ye:=v3.le
   have R8:kF nx=some [[.str [],iV 0,iV 0]]:=by rw[v3.ah nx (by omega) (by omega),vx]
   have CC:kF w=some [[.str (aE (aE (aE r 1).2 4).2 4).2.1,.v (.bool (aE (aE (aE r 1).2 4).2 4).2.2)]]:=v2
   simp[NW]
   refine ae u1 ?_
   simp
   refine ae v1 ?_
   have X8:¬w=r9:=by omega
   have Wc:¬nx=r9:=by omega
   have hwx:¬w=nx:=by omega
   have bU:pI (· = w) hp nx kF r9:=((aav.trans r3).trans u3).trans v3
   have aeh:¬r9=w:=by omega
   have hxw:¬nx=w:=by omega
   cases NL:(aE (aE (aE r 1).2 4).2 4).2.2<;>by_cases hz:(aE (aE r 1).2 4).1=0 <;>
    (simp[X8,Wc,hwx,hxw,aeh,CC,R8,aa,NL,hz]
     refine ⟨?_,?_,?_⟩
     ·simp[dW,mf,bD.cells,hz]
     ·simp[RD,dW,mf,NL,hz,hwx,X8]
     ·refine ⟨by omega,fun q hq Tx => ?_⟩
      have Tx:q≠w:=Tx
      simp[show ¬q=nx by omega,show ¬q=r9 by omega,Tx]
      exact bU.ah q hq Tx)
  ·have NW:¬((aE r 1).1:Int)=255:=by omega
   obtain ⟨aT,u1,u2,u3⟩:=f96 (aE r 1).2 (aE r 1).1 hp1 nx1 w r2
   have vx:aT nx=some [[.str [],iV 0,iV 0]]:=by rw[u3.ah nx (by omega) (by omega),ta]
   simp[NW]
   refine ae u1 ?_
   have hwx:¬w=nx:=by omega
   simp[vx,aa]
   have bU:pI (· = w) hp nx aT nx1:=((aav.trans r3).trans u3)
   refine ⟨by simp[dW,mf,bD.cells],by simp[RD,dW,mf,hwx];exact u2,⟨bU.le,fun q hq Tx => ?_⟩⟩
   simp[show ¬q=nx by omega]
   exact bU.ah q hq Tx
structure NH (hp:Heap) (nx b w:Nat) (n:Nd) (xk xi xd:AV):Prop where
 at':hp b=some [[.v (.bool n.leaf),xk,xi,xd]]
 k:cP hp nx 1 (n.keys.map aN) xk
 i:cP hp nx 3 (n.items.map bD.cells) xi
 d:cP hp nx 1 (n.kids.map bC) xd
 kb:b∉bc xk/\w∉bc xk/\0∉bc xk
 ib:b∉bc xi/\w∉bc xi/\0∉bc xi
 db:b∉bc xd/\w∉bc xd/\0∉bc xd
 ki:∀q∈bc xk,q∉bc xi
 kd:∀q∈bc xk,q∉bc xd
 li:∀q∈bc xi,q∉bc xd
theorem NH.ah {hp hp':Heap} {nx nx' b w:Nat} {n:Nd} {xk xi xd:AV} (h:NH hp nx b w n xk xi xd) (hb:b≠w) (vx:b<nx) (hs:pI (· = w) hp nx hp' nx'):NH hp' nx' b w n xk xi xd :=
 ⟨by rw[hs.ah b vx hb,h.at'],h.k.ah hs.le fun r hr=>hs.ah r (h.k.lt r hr) (fun e=>h.kb.2.1 (e▸hr)),h.i.ah hs.le fun r hr=>hs.ah r (h.i.lt r hr) (fun e=>h.ib.2.1 (e▸hr)),
  h.d.ah hs.le fun r hr=>hs.ah r (h.d.lt r hr) (fun e=>h.db.2.1 (e▸hr)),h.kb,h.ib,h.db,h.ki,h.kd,h.li⟩
theorem NH.Rp {hp:Heap} {nx b w:Nat} {n:Nd} {xk xi xd:AV} (h:NH hp nx b w n xk xi xd) (k:Nat):∃x0,iq n x0/\x0.closed=true/\j5 (k+3) hp (.agg [.v (.bool n.leaf),xk,xi,xd])=some x0:=by
 obtain ⟨n1,z1,c1,e1,g1⟩:=gh (k:=k) h.k eH
 obtain ⟨n2,z2,c2,e2,g2⟩:=gh (k:=k) h.i eI
 obtain ⟨n3,z3,c3,e3,g3⟩:=gh (k:=k) h.d fh
 refine ⟨.agg [.v (.bool n.leaf),.rs n1 z1 (n.keys.map aN) c1,.rs n2 z2 (n.items.map bD.cells) c2,.rs n3 z3 (n.kids.map bC) c3],⟨_,_,_,rfl,⟨_,_,_,rfl,g1⟩,⟨_,_,_,rfl,g2⟩,⟨_,_,_,rfl,g3⟩⟩,by simp,?_⟩
 exact tO (by simp[e1,e2,e3,aq])
theorem Oa (kind:Int) (hk:kind=1\/kind=2) (s:List UInt8) (tm:Nat->AV) (hp:Heap) (nx:Nat) (n:Nd) (r:RS) (xk xi xd:AV) (t4:tm 4=.ptr 0 0 0) (t6:tm 6=.ptr 1 0 0) (t7:tm 7=.ptr 2 0 0)
  (h0:hp 0=some [ez.cells]) (hN:NH hp nx 1 2 n xk xi xd) (hR:RD hp 2 r) (he:nJ kind s=(n,r)) (hl:n.keys.length<=70000/\n.items.length<=70000/\n.kids.length<=70001) :
  W (aZ E) fj (oO [.cell 4 (some 4),.t 5] (On kind s)) ⟨tm,hp,nx⟩:=by
 obtain ⟨x0,kE,hc0,hz0⟩:=hN.Rp 3
 have v7:=m6 (hp:=hp) (nx:=nx) (args:=[.agg [.v (.bool n.leaf),xk,xi,xd]]) (args0:=[x0]) (by simp[hz0]) rfl (f68 n x0 kE (by omega) (by omega) (by omega) cG 0)
 have Sa:hp 2=some [[.str r.1,.v (.bool r.2)]]:=hR
 have Ak:=hN.at'
 have hd:=C0 hk s
 rw[he]at hd
 obtain ⟨s1,bad⟩:=r
 simp only at Sa hd
 have LX:hp 0=some [[.v (.bool false),nS,nS,nS]]:=h0
 cases bad
 ·by_cases hs:s1=[]
  ·simp[fj,t4,t6,t7,Sa,hs,Ak]
   refine ae v7 ?_
   cases hr:ax n
   ·simp[t4,t6,t7,LX,aa]
    refine ⟨.bE [ez,iV 11],by simp[ez,aq],?_⟩
    refine ⟨fun m h => ?_,fun _=>rfl⟩
    rw[hd]at h;simp[hs,hr]at h
   ·obtain ⟨k1,k2⟩:=hN.k.one
    obtain ⟨i1,i2⟩:=hN.i.one
    obtain ⟨d1,d2⟩:=hN.d.one
    have He:hp 1=some [[AV.v (Value.bool n.leaf),xk,xi,xd]]:=Ak
    simp[t4,t6,t7,LX,He,aa,k2,i2,d2]
    have Dz:NH (ab hp 0 (some [[AV.v (Value.bool n.leaf),xk,xi,xd]])) nx 1 2 n xk xi xd :=
     ⟨by simp[Ak],hN.k.ah (zD _) (fun q hq=>by simp[show ¬q=0 from fun e=>hN.kb.2.2 (e▸hq)]),hN.i.ah (zD _) (fun q hq=>by simp[show ¬q=0 from fun e=>hN.ib.2.2 (e▸hq)]),
      hN.d.ah (zD _) (fun q hq=>by simp[show ¬q=0 from fun e=>hN.db.2.2 (e▸hq)]),hN.kb,hN.ib,hN.db,hN.ki,hN.kd,hN.li⟩
    obtain ⟨x1,KV,Lb,X5⟩:=Dz.Rp 2
    refine ⟨.bE [x1,iV 0],rA (by simp[X5]),fun m h => ?_,fun h => ?_⟩
    ·rw[hd]at h;simp[hs,hr]at h;subst h
     exact ⟨x1,KV,rfl⟩
    ·rw[hd]at h;simp[hs,hr]at h
  ·simp[fj,t4,t6,t7,Sa,hs,LX,aa]
   refine ⟨.bE [ez,iV 11],by simp[ez,aq],?_⟩
   refine ⟨fun m h => ?_,fun _=>rfl⟩
   rw[hd]at h;simp[hs]at h
 ·simp[fj,t4,t6,t7,Sa,LX,aa]
  refine ⟨.bE [ez,iV 11],by simp[ez,aq],?_⟩
  refine ⟨fun m h => ?_,fun _=>rfl⟩
  rw[hd]at h;simp at h
theorem PY {K:AV->Heap->Nat->Kd->Prop} (r:RS) (n:Nat) (hn:n<=6) {hp:Heap} {nx w:Nat} (hw:w<nx) (h:RD hp w r)
  (k:∀hp' nx',RD hp' w (aE r n).2->pI (· = w) hp nx hp' nx'->K (.v (.int .i64 (aE r n).1)) hp' nx' .e):gK (aZ E) 95 [.ptr w 0 0,iV n] hp nx K:=by
 obtain ⟨hp',nx',h1,h2,h3⟩:=f95 r n hn hp nx w hw h
 exact ae h1 (k _ _ h2 h3)
theorem afv {K:AV->Heap->Nat->Kd->Prop} (r:RS) (n:Nat) {hp:Heap} {nx w:Nat} (h:RD hp w r)
  (k:∀hp',RD hp' w (aH r n).2->pI (· = w) hp nx hp' nx->K (.str (aH r n).1) hp' nx .e):gK (aZ E) 96 [.ptr w 0 0,iV n] hp nx K:=by
 obtain ⟨hp',h1,h2,h3⟩:=f96 r n hp nx w h
 exact ae h1 (k _ h2 h3)
theorem afu {K:AV->Heap->Nat->Kd->Prop} (r:RS) {hp:Heap} {nx w:Nat} (hw:w<nx) (h:RD hp w r)
  (k:∀hp' nx',RD hp' w (dW r).2->pI (· = w) hp nx hp' nx'->K (.agg (dW r).1.cells) hp' nx' .e):gK (aZ E) 97 [.ptr w 0 0] hp nx K:=by
 obtain ⟨hp',nx',h1,h2,h3⟩:=f97 r hp nx w hw h
 exact ae h1 (k _ _ h2 h3)
theorem NH.key {hp hp':Heap} {nx w:Nat} {n:Nd} {xk xi xd:AV} (h:NH hp nx 1 w n xk xi xd) (h2:1<nx) (hw:w<nx) (k:List UInt8) (h3:hp' nx=some (n.keys.map aN++[aN k])) (h4:∀q,q≠nx->q∉bc xk->hp' q=hp q) :
  NH (ab hp' 1 (some [[.v (.bool n.leaf),.sl nx 1 0 (n.keys.length+1) none,xi,xd]])) (nx+1) 1 w ⟨n.leaf,n.keys++[k],n.items,n.kids⟩ (.sl nx 1 0 (n.keys.length+1) none) xi xd:=by
 have hi:=fun q hq=>h.i.lt q hq
 have hd:=fun q hq=>h.d.lt q hq
 refine ⟨by simp,.inr ⟨nx,by omega,by simp,by simp[show ¬nx=1 by omega,h3]⟩,h.i.ah (by omega) fun q hq => ?_,h.d.ah (by omega) fun q hq => ?_,by simp;omega,h.ib,h.db,?_,?_,h.li⟩
 ·have:=hi q hq
  have iE:¬q=1:=fun e=>h.ib.1 (e▸hq)
  simp only[cd,iE,if_false]
  exact h4 q (by omega) (fun hk=>h.ki q hk hq)
 ·have:=hd q hq
  have iE:¬q=1:=fun e=>h.db.1 (e▸hq)
  simp only[cd,iE,if_false]
  exact h4 q (by omega) (fun hk=>h.kd q hk hq)
 ·intro q hq;simp at hq;subst hq;intro hq;have:=hi _ hq;omega
 ·intro q hq;simp at hq;subst hq;intro hq;have:=hd _ hq;omega
theorem NH.item {hp hp':Heap} {nx w:Nat} {n:Nd} {xk xi xd:AV} (h:NH hp nx 1 w n xk xi xd) (h2:1<nx) (hw:w<nx) (k:bD) (h3:hp' nx=some (n.items.map bD.cells++[k.cells])) (h4:∀q,q≠nx->q∉bc xi->hp' q=hp q) :
  NH (ab hp' 1 (some [[.v (.bool n.leaf),xk,.sl nx 3 0 (n.items.length+1) none,xd]])) (nx+1) 1 w ⟨n.leaf,n.keys,n.items++[k],n.kids⟩ xk (.sl nx 3 0 (n.items.length+1) none) xd:=by
 have hi:=fun q hq=>h.k.lt q hq
 have hd:=fun q hq=>h.d.lt q hq
 refine ⟨by simp,h.k.ah (by omega) fun q hq => ?_,.inr ⟨nx,by omega,by simp,by simp[show ¬nx=1 by omega,h3]⟩,h.d.ah (by omega) fun q hq => ?_,h.kb,by simp;omega,h.db,?_,h.kd,?_⟩
 ·have:=hi q hq
  have iE:¬q=1:=fun e=>h.kb.1 (e▸hq)
  simp only[cd,iE,if_false]
  exact h4 q (by omega) (fun hk=>h.ki q hq hk)
 ·have:=hd q hq
  have iE:¬q=1:=fun e=>h.db.1 (e▸hq)
  simp only[cd,iE,if_false]
  exact h4 q (by omega) (fun hk=>h.li q hk hq)
 ·intro q hq FK;simp at FK;subst FK;have:=hi _ hq;omega
 ·intro q hq;simp at hq;subst hq;intro hq;have:=hd _ hq;omega
theorem NH.kid {hp hp':Heap} {nx w:Nat} {n:Nd} {xk xi xd:AV} (h:NH hp nx 1 w n xk xi xd) (h2:1<nx) (hw:w<nx) (k:Int) (h3:hp' nx=some (n.kids.map bC++[bC k])) (h4:∀q,q≠nx->q∉bc xd->hp' q=hp q) :
  NH (ab hp' 1 (some [[.v (.bool n.leaf),xk,xi,.sl nx 1 0 (n.kids.length+1) none]])) (nx+1) 1 w ⟨n.leaf,n.keys,n.items,n.kids++[k]⟩ xk xi (.sl nx 1 0 (n.kids.length+1) none):=by
 have hi:=fun q hq=>h.k.lt q hq
 have hd:=fun q hq=>h.i.lt q hq
 refine ⟨by simp,h.k.ah (by omega) fun q hq => ?_,h.i.ah (by omega) fun q hq => ?_,.inr ⟨nx,by omega,by simp,by simp[show ¬nx=1 by omega,h3]⟩,h.kb,h.ib,by simp;omega,h.ki,?_,?_⟩
 ·have:=hi q hq
  have iE:¬q=1:=fun e=>h.kb.1 (e▸hq)
  simp only[cd,iE,if_false]
  exact h4 q (by omega) (fun hk=>h.kd q hq hk)
 ·have:=hd q hq
  have iE:¬q=1:=fun e=>h.ib.1 (e▸hq)
  simp only[cd,iE,if_false]
  exact h4 q (by omega) (fun hk=>h.li q hq hk)
 ·intro q hq FK;simp at FK;subst FK;have:=hi _ hq;omega
 ·intro q hq FK;simp at FK;subst FK;have:=hd _ hq;omega
abbrev W9 (kind:Int) (s:List UInt8) (many:Nat) (leaf:Bool) (g:Nat×Nd×RS) (st:St):Prop :=
 g.1<=many/\st.tm 9=.int .i64 g.1/\st.tm 8=.int .i64 many/\st.tm 4=.ptr 0 0 0/\st.tm 6=.ptr 1 0 0/\st.tm 7=.ptr 2 0 0/\st.hp 0=some [ez.cells]/\(∃xk xi xd,NH st.hp st.nx 1 2 g.2.1 xk xi xd)/\RD st.hp 2 g.2.2/\2<st.nx /\
  fx (many-g.1) g.2.1 g.2.2=nJ kind s/\g.2.1.leaf=leaf/\g.2.1.keys.length<=g.1/\g.2.1.items.length<=g.1/\g.2.1.kids.length<=g.1+1
theorem Ob (kind:Int) (hk:kind=1\/kind=2) (s:List UInt8) (many:Nat) (hm:many<=65535) (leaf:Bool) (g:Nat×Nd×RS) (st:St) (h0:W9 kind s many leaf g st) :
  W (aZ E) (match c67.body with | .seq _ (.seq _ (.seq _ (.seq _ (.seq _ (.seq _ (.seq (.seq _ (.block _ l)) _))))))=>l|_=>.skip) (LA 0 (J7 (aZ E) fj (oO [.cell 4 (some 4),.t 5] (On kind s)))) st:=by
 simp only[c67]
 refine aL (I:=W9 kind s many leaf) (fun g=>many-g.1) g h0 ?_
 rintro ⟨j,n,r⟩ tm hp nx ⟨hj,t9,t8,t4,t6,t7,hz,⟨xk,xi,xd,hN⟩,hR,yA,n8,dg,uD,Ag,hl3⟩
 simp only at hj t9 t8 t4 t6 t7 hz hN hR yA n8 dg uD Ag hl3
 have Sa:hp 2=some [[.str r.1,.v (.bool r.2)]]:=hR
 have stop:∀tm,tm 4=.ptr 0 0 0->tm 6=.ptr 1 0 0->tm 7=.ptr 2 0 0->fx (many-j) n r=(n,r)->W (aZ E) fj (oO [.cell 4 (some 4),.t 5] (On kind s)) ⟨tm,hp,nx⟩:=by
  intro tm t4 t6 t7 he
  exact Oa kind hk s tm hp nx n r xk xi xd t4 t6 t7 hz hN hR (by rw[<-n8,he]) ⟨by omega,by omega,by omega⟩
 by_cases az:j<many
 ·have mc:(j:Int)<(many:Int):=by omega
  cases hb:r.2
  ·rw[hb]at Sa
   have RZ:fx (many-(j+1)) (eB n r).1 (eB n r).2=nJ kind s:=by
    rw[<-n8,show many-j=many-(j+1)+1 by omega,fx,hb];rfl
   have hw9:IntKind.wrap .i64 ((j:Int)+1)=(j+1:Nat):=by rw[aj]<;>omega
   simp[t9,t8,t4,t6,t7,mc,Sa,hN.at',-Int.ofNat_lt,-Int.natCast_add]
   refine PY r 1 (by omega) yA hR ?_
   intro hp1 nx1 hR1 vB
   have Ey:=vB.le
   simp[t9,t8,t4,t6,t7,-Int.natCast_add]
   refine afv _ _ hR1 ?_
   intro aT hR2 NR
   have Dz:NH aT nx1 1 2 n xk xi xd:=(hN.ah (by omega) (by omega) vB).ah (by omega) (by omega) NR
   obtain ⟨kF,a1,a2,a3,a4⟩:=Dz.k.xC (bytes:=16) (new:=[aN (aH (aE r 1).2 (aE r 1).1).1]) (by simp) (by simp;omega)
   have hN3:=Dz.key (by omega) (by omega) _ a2 a4
   have e1:hp1 1=hp 1:=vB.ah 1 (by omega) (by omega)
   have e2:aT 1=hp1 1:=NR.ah 1 (by omega) (by omega)
   have e3:kF 1=aT 1:=a4 1 (by omega) Dz.kb.1
   have e3z:kF 0=some [ez.cells]:=by
    rw[a4 0 (by omega) Dz.kb.2.2,NR.ah 0 (by omega) (by omega),vB.ah 0 (by omega) (by omega)];exact hz
   have e3r:RD kF 2 (aH (aE r 1).2 (aE r 1).1).2:=by
    show kF 2=_;rw[a4 2 (by omega) Dz.kb.2.1];exact hR2
   have eN:=hN.at'
   simp[aN]at a1
   obtain ⟨i1,i2⟩:=hN.i.one
   obtain ⟨d1,d2⟩:=hN.d.one
   simp[t9,t8,t4,t6,t7,a1,e1,e2,e3,eN,aa,-Int.natCast_add]
   cases dQ:n.leaf
   ·rw[dQ]at hN3
    simp[t9,t8,t4,t6,t7,-Int.natCast_add]
    refine PY (nx:=nx1+1) _ 4 (by omega) (by omega) (show RD _ 2 (aH (aE r 1).2 (aE r 1).1).2 by simp[RD];exact e3r) ?_
    intro gb tx hR4 Hd
    have hn4:=Hd.le
    have Lc:=hN3.ah (by omega) (by omega) Hd
    obtain ⟨rn,b1,b2,b3,b4⟩:=Lc.d.xC (bytes:=8) (new:=[bC ((aE (aH (aE r 1).2 (aE r 1).1).2 4).1:Int)]) (by simp) (by simp;omega)
    have hN5:=Lc.kid (by omega) (by omega) _ b2 b4
    have g1:=Hd.ah 1 (by omega) (by omega)
    have g5:rn 1=gb 1:=b4 1 (by omega) Lc.db.1
    have e5z:rn 0=some [ez.cells]:=by
     rw[b4 0 (by omega) Lc.db.2.2,Hd.ah 0 (by omega) (by omega)];simpa using e3z
    have e5r:RD rn 2 (aE (aH (aE r 1).2 (aE r 1).1).2 4).2:=by
     show rn 2=_;rw[b4 2 (by omega) Lc.db.2.1];exact hR4
    simp at g1
    simp[bC]at b1
    simp[t9,t8,t4,t6,t7,b1,g1,g5,aa,hw9,-Int.natCast_add,-Prod.exists,-Bool.exists_bool]
    have bU:eB n r=(⟨n.leaf,n.keys++[(aH (aE r 1).2 (aE r 1).1).1],n.items,n.kids++[((aE (aH (aE r 1).2 (aE r 1).1).2 4).1:Int)]⟩,(aE (aH (aE r 1).2 (aE r 1).1).2 4).2):=by
     simp[eB,dQ]
    refine ⟨(j+1,_,_),by simp;omega,by omega,by simp,by simp[t8],by simp[t4],by simp[t6],by simp[t7],by simpa using e5z,⟨_,_,_,hN5⟩,by simp[RD];exact e5r,(by show 2<tx+1;omega),?_,?_,by simp;omega,by simp;omega,by simp;omega⟩
    ·rw[bU]at RZ;simpa [dQ] using RZ
    ·simp[<-dg,dQ]
   ·rw[dQ]at hN3
    simp[t9,t8,t4,t6,t7,-Int.natCast_add]
    refine afu (nx:=nx1+1) _ (by omega) (show RD _ 2 (aH (aE r 1).2 (aE r 1).1).2 by simp[RD];exact e3r) ?_
    intro gb tx hR4 Hd
    have hn4:=Hd.le
    have Lc:=hN3.ah (by omega) (by omega) Hd
    obtain ⟨rn,b1,b2,b3,b4⟩:=Lc.i.xC (bytes:=32) (new:=[(dW (aH (aE r 1).2 (aE r 1).1).2).1.cells]) (by simp) (by simp;omega)
    have hN5:=Lc.item (by omega) (by omega) _ b2 b4
    have g1:=Hd.ah 1 (by omega) (by omega)
    have g5:rn 1=gb 1:=b4 1 (by omega) Lc.ib.1
    have e5z:rn 0=some [ez.cells]:=by
     rw[b4 0 (by omega) Lc.ib.2.2,Hd.ah 0 (by omega) (by omega)];simpa using e3z
    have e5r:RD rn 2 (dW (aH (aE r 1).2 (aE r 1).1).2).2:=by
     show rn 2=_;rw[b4 2 (by omega) Lc.ib.2.1];exact hR4
    have K8:(dW (aH (aE r 1).2 (aE r 1).1).2).1.cells.all AV.one=true:=by simp[bD.cells]
    have iR:(dW (aH (aE r 1).2 (aE r 1).1).2).1.cells.length=3:=by simp[bD.cells]
    simp at g1
    simp at b1
    generalize AF:(dW (aH (aE r 1).2 (aE r 1).1).2).1.cells=cs at *
    simp at K8
    simp[t9,t8,t4,t6,t7,iR,K8,b1,g1,g5,aa,hw9,-Int.natCast_add,-Prod.exists,-Bool.exists_bool]
    have bU:eB n r=(⟨n.leaf,n.keys++[(aH (aE r 1).2 (aE r 1).1).1],n.items++[(dW (aH (aE r 1).2 (aE r 1).1).2).1],n.kids⟩,(dW (aH (aE r 1).2 (aE r 1).1).2).2):=by
     simp[eB,dQ]
    refine ⟨K8,(j+1,_,_),by simp;omega,by omega,by simp,by simp[t8],by simp[t4],by simp[t6],by simp[t7],by simpa using e5z,⟨_,_,_,hN5⟩,by simp[RD];exact e5r,(by show 2<tx+1;omega),?_,?_,by simp;omega,by simp;omega,by simp;omega⟩
    ·rw[bU]at RZ;simpa [dQ] using RZ
    ·simp[<-dg,dQ]
  ·rw[hb]at Sa
   simp[t9,t8,t4,t6,t7,mc,Sa,-Int.ofNat_lt]
   exact stop _ (by simp[t4]) (by simp[t6]) (by simp[t7]) (Bb hb)
 ·have mc:¬(j:Int)<(many:Int):=by omega
  have:many-j=0:=by omega
  simp[t9,t8,t4,t6,t7,mc,-Int.ofNat_lt]
  exact stop _ (by simp[t4]) (by simp[t6]) (by simp[t7]) (by rw[this];rfl)
theorem f67 (kind:Int) (s:List UInt8):∃v,On kind s v/\∀hp nx,aZ E 67 [iV kind,.str s] hp nx v hp nx .p:=by
 refine fH e67 rfl (by simp) ?_
 have hm:(aE (s,false) 2).1<=65535:=by have:=Ri (s,false) 2;omega
 have main:∀(st:St),kind=1\/kind=2->W9 kind s (aE (s,false) 2).1 (decide (kind=1)) (0,(da kind (aE (s,false) 2).2).1,(da kind (aE (s,false) 2).2).2) st ->
   W (aZ E) (match c67.body with | .seq _ (.seq _ (.seq _ (.seq _ (.seq _ (.seq _ (.seq (.seq _ (.block _ l)) _))))))=>l|_=>.skip) (LA 0 (J7 (aZ E) fj (oO [.cell 4 (some 4),.t 5] (On kind s)))) st :=
  fun st hk h=>Ob kind hk s _ hm _ _ st h
 simp only[c67]at main
 by_cases h1:kind=1
 ·subst h1
  simp[c67,aa,-nQ]
  refine PY (s,false) 2 (by omega) (by omega) (by simp[RD]) ?_
  intro hp1 nx1 hR1 vB
  have e1:=vB.ah 1 (by omega) (by omega)
  have e0:=vB.ah 0 (by omega) (by omega)
  simp at e1 e0
  simp[e1,-nQ]
  simp only[nQ]
  refine main _ (.inl rfl) ?_
  have hle:=vB.le
  refine ⟨by simp,by simp,by simp,by simp,by simp,by simp,by simpa [ez] using e0,⟨_,_,_,⟨by simpa [da] using e1,cP.nil,cP.nil,cP.nil,by simp,by simp,by simp,by simp,by simp,by simp⟩⟩,by simpa [da] using hR1,(by show 2<nx1;omega),rfl,by simp[da],by simp[da],by simp[da],by simp[da]⟩
 ·by_cases h2:kind=2
  ·subst h2
   simp[c67,aa,-nQ]
   refine PY (s,false) 2 (by omega) (by omega) (by simp[RD]) ?_
   intro hp1 nx1 hR1 vB
   have e1:=vB.ah 1 (by omega) (by omega)
   have e0:=vB.ah 0 (by omega) (by omega)
   have hle:=vB.le
   simp at e1 e0
   simp[e1,-nQ]
   refine PY _ 4 (by omega) (by omega) hR1 ?_
   intro aT ar hR2 NR
   have g1:=NR.ah 1 (by omega) (by omega)
   have g0:=NR.ah 0 (by omega) (by omega)
   have Az:=NR.le
   rw[e1]at g1
   rw[e0]at g0
   simp[e1,g1,aa,cF,show ¬1=ar by omega,-nQ]
   simp only[nQ]
   refine main _ (.inr rfl) ?_
   refine ⟨by simp,by simp,by simp,by simp,by simp,by simp,by simp[ez,g0,show ¬0=ar by omega],⟨_,_,_,⟨by simp[da],cP.nil,cP.nil,.inr ⟨ar,by simp,rfl,?_⟩,by simp,by simp,by simp;omega,by simp,by simp,by simp⟩⟩,?_,(by show 2<ar+1;omega),rfl,by simp[da],by simp[da],by simp[da],by simp[da]⟩
   ·simp[da,bC,show ¬ar=1 by omega]
   ·simp[RD,da,show ¬2=ar by omega];exact hR2
  ·simp[c67,aa,h1,h2,aq]
   refine ⟨fun n h => ?_,fun _=>rfl⟩
   simp[AH,h1,h2]at h
theorem f154 (n:Nat) (hn:0<n) (hl:n<=1000000) (hp:Heap) (nx:Nat):aZ E 154 [nS,iV n] hp nx (.sl nx 3 0 0 none) (ab hp nx (some (List.replicate n [.str [],iV 0,iV 0]))) (nx+1) .e:=by
 have main:=(an (P:=fun v hp' nx'=>v=.sl nx 3 0 0 none/\hp'=ab hp nx (some (List.replicate n [.str [],iV 0,iV 0]))/\nx'=nx+1) e154 (args:=[nS,iV n]) rfl (hp:=hp) (nx:=nx) ?_)
 ·obtain ⟨v,hp',nx',h1,rfl,rfl,rfl⟩:=main
  exact h1
 have h1:¬(n:Int)<0:=by omega
 have h2:(0:Int)<n:=by omega
 have h3:IntKind.wrap .i64 (n:Int)=n:=by rw[aj]<;>omega
 have h4:IntKind.wrap .i64 0=0:=rfl
 have hA:y8 3 32 [.str [],iV 0,iV 0] nS (iV n) hp nx=some (.sl nx 3 0 n none,ab hp nx (some (List.replicate n [.str [],iV 0,iV 0])),nx+1):=by
  simp only[y8]
  rw[if_pos ⟨by omega,by omega,by omega,rfl,rfl⟩]
  simp only[cF,qG,zl]
  rw[if_pos (.inl trivial),if_neg (by omega),if_pos ⟨by simp only[zS];omega,by simp only[zS];omega⟩]
  simp
 simp[c154,h1,h2,h3,h4,b8,bV,idxOf,dY,hA,-Int.ofNat_lt,-Int.natCast_pos]
theorem f152 (es:List (List bD)) (xs:List AV) (c:Option Nat) (h:SO 3 bD.cells es xs) (hn:es.length<=1000) (hs:(cN es).length<=1000000) :
  ∃z,fa 3 ((cN es).map bD.cells) z/\∀hp nx,aZ E 152 [.rs false 1 (xs.map fun x=>[x]) c] hp nx z hp nx .p:=by
 refine ⟨if (cN es).length=0 then nS else .rs false 3 ((cN es).map bD.cells) none,?_,fun hp nx => ?_⟩
 ·split
  ·rename_i h0
   have:cN es=[]:=by simpa using h0
   exact ⟨true,0,_,by rw[this];rfl,.inl rfl,fun _=>by rw[this];rfl⟩
  ·exact ⟨false,_,_,rfl,.inr rfl,fun h=>by cases h⟩
 have gf:=h.closed (fun l=>eI)
 have cS:∀l:List bD,(l.map bD.cells).all (fun l=>l.all AV.one)=true:=A8
 obtain ⟨CB,hx⟩:=h
 refine aF e152 rfl (by simp only[bT,AV.closed,gf,Bool.and_self]) ?_ hp nx
 simp[c152]
 refine aL (I:=fun (j:Nat) s'=>j<=es.length/\s'.tm 11=.int .i64 j/\s'.tm 10=.int .i64 xs.length/\s'.tm 9=.rs false 1 (xs.map fun x=>[x]) c/\s'.tm 0=.rs false 1 (xs.map fun x=>[x]) c/\s'.tm 3=.int .i64 (cN (es.take j)).length/\s'.nx=0/\s'.hp=cG) (fun j=>es.length-j) 0 (by simp[cN]) ?_
 rintro j tm hp nx ⟨hj,t11,t10,t9,t0,t3,yA,nc⟩
 simp only at hj t11 t10 t9 t0 t3 yA nc
 subst yA;subst nc
 by_cases az:j<es.length
 ·have nE:j<xs.length:=by omega
  have mc:(j:Int)<xs.length:=by omega
  have bU:=congrArg List.length (mT az)
  rw[zG]at bU
  have hle:=uO es (j+1)
  have bJ:=kP (k:=.i64) (c:=c) nE
  obtain ⟨nil,sz,cap,uB,hz,RW⟩:=hx j az nE
  have hlen:tD xs[j]=some (.v (.int .i64 (es[j].length:Nat))):=by rw[uB];simp
  have hw:IntKind.wrap .i64 ((j:Int)+1)=(j+1:Nat):=by rw[aj]<;>omega
  generalize hA:(cN (es.take j)).length=A at *
  generalize hB:(cN (es.take (j+1))).length=B at *
  have mj:IntKind.wrap .i64 ((A:Int)+(es[j].length:Nat))=(B:Nat):=by rw[aj]<;>omega
  have We:¬(B:Int)<0:=by omega
  simp[t11,t10,t9,t0,t3,mc,bJ,hlen,hw,mj,We,-ag,-Int.ofNat_lt,-Int.natCast_add]
  exact ⟨j+1,by omega,by omega,rfl,by rw[hB]⟩
 have Yg:j=es.length:=by omega
 subst Yg
 have vr:es.take es.length=es:=zW
 rw[vr]at t3
 by_cases h0:(cN es).length=0
 ·have hem:∀(j:Nat) (h:j<es.length),es[j]=[]:=by
   intro j h
   have:=uO es (j+1)
   rw[mT h,zG]at this
   exact zg.1 (by omega)
  have hG:∀hp nx,aZ E 154 [nS,iV 0] hp nx nS hp nx .p:=by
   intro hp nx
   refine aF e154 rfl (by simp) ?_ hp nx
   have h4:IntKind.wrap .i64 0=0:=rfl
   simp[c154,h4,aq]
  rw[h0]at t3
  simp[t11,t10,CB,t3]
  refine ap (hG _ _) ?_
  simp[t0]
  refine aL (I:=fun (j:Nat) s'=>j<=es.length/\s'.tm 27=.int .i64 j/\s'.tm 26=.int .i64 xs.length/\s'.tm 25=.rs false 1 (xs.map fun x=>[x]) c/\s'.tm 6=nS) (fun j=>es.length-j) 0 (by simp) ?_
  rintro j tm hp nx ⟨hj,t27,t26,t25,t6⟩
  simp only at hj t27 t26 t25 t6
  by_cases az:j<es.length
  ·have nE:j<xs.length:=by omega
   have mc:(j:Int)<xs.length:=by omega
   have bJ:=kP (k:=.i64) (c:=c) nE
   have hw:IntKind.wrap .i64 ((j:Int)+1)=(j+1:Nat):=by rw[aj]<;>omega
   obtain ⟨nil,sz,cap,uB,hz,RW⟩:=hx j az nE
   rw[hem j az]at uB
   have sL:bu 3 32 nS xs[j] hp nx=some (nS,hp,nx):=by
    rw[uB,bw hz];simp[cF]
   simp[t27,t26,t25,t6,mc,bJ,hw,sL,-ag,-Int.ofNat_lt,-Int.natCast_add]
   exact ⟨j+1,by omega,by omega,rfl⟩
  ·have:j=es.length:=by omega
   subst this
   have:¬(es.length:Int)<xs.length:=by omega
   simp[t27,t26,t6,this,zg.1 h0,aq,-Int.ofNat_lt]
 ·simp[t11,t10,CB,t3]
  refine ae (f154 (cN es).length (by omega) hs _ _) ?_
  simp[t0]
  generalize hT:(cN es).length=T at *
  generalize hZ:List.replicate T ([.str [],iV 0,iV 0]:List AV)=Z
  have hZl:Z.length=T:=by rw[<-hZ];simp
  refine aL (I:=fun (j:Nat) s'=>j<=es.length/\s'.tm 27=.int .i64 j/\s'.tm 26=.int .i64 xs.length/\s'.tm 25=.rs false 1 (xs.map fun x=>[x]) c/\s'.tm 6=.sl 0 3 0 (cN (es.take j)).length none/\s'.hp 0=some ((cN (es.take j)).map bD.cells++Z.drop (cN (es.take j)).length)) (fun j=>es.length-j) 0 (by simp[cN,hZ]) ?_
  rintro j tm hp nx ⟨hj,t27,t26,t25,t6,hh⟩
  simp only at hj t27 t26 t25 t6 hh
  by_cases az:j<es.length
  ·have nE:j<xs.length:=by omega
   have mc:(j:Int)<xs.length:=by omega
   have bJ:=kP (k:=.i64) (c:=c) nE
   have hw:IntKind.wrap .i64 ((j:Int)+1)=(j+1:Nat):=by rw[aj]<;>omega
   obtain ⟨nil,sz,cap,uB,hz,RW⟩:=hx j az nE
   have bU:=mT az
   have hle:=uO es (j+1)
   rw[bU,zG]at hle
   have sL:bu 3 32 (.sl 0 3 0 (cN (es.take j)).length none) xs[j] hp nx=some (.sl 0 3 0 (cN (es.take (j+1))).length none,ab hp 0 (some ((cN (es.take (j+1))).map bD.cells++Z.drop (cN (es.take (j+1))).length)),nx):=by
    rw[uB,bw hz,if_pos (cS _)]
    simp only[cF,if_true,hh,Nat.zero_add]
    rw[if_neg (by simp only[zG,zZ,wN];omega),if_pos (by simp only[zG,zZ,wN];omega),vb (m:=T) (by simp) (by simp only[zZ];omega)]
    rw[bU]
    simp only[zf,zG,zZ]
   simp[t27,t26,t25,t6,mc,bJ,hw,sL,-ag,-Int.ofNat_lt,-Int.natCast_add]
   exact ⟨j+1,by omega,by omega,rfl,rfl,rfl⟩
  ·have:j=es.length:=by omega
   subst this
   rw[vr,hT]at t6 hh
   have FO:Z.drop T=[]:=zr (by omega)
   rw[FO,zT]at hh
   have:¬(es.length:Int)<xs.length:=by omega
   have CI:=CS (k:=4) (r:=0) (sz:=3) (i:=0) (len:=T) (cap:=none) hh (by simp[hT]) (by rw[zb,zI (by simp[hT])];simp)
   have htk:(((cN es).map bD.cells).drop 0).take T=(cN es).map bD.cells:=by rw[zb];exact zI (by simp[hT])
   rw[htk]at CI
   have bt:¬cN es=[]:=fun e=>h0 (by rw[<-hT,e];rfl)
   simp[t27,t26,t6,this,h0,CI,bt,-Int.ofNat_lt]
theorem f155 (n:Nat) (hn:0<n) (hl:n<=1000000) (hp:Heap) (nx:Nat):aZ E 155 [nS,iV n] hp nx (.sl nx 1 0 0 none) (ab hp nx (some (List.replicate n [iV 0]))) (nx+1) .e:=by
 have main:=(an (P:=fun v hp' nx'=>v=.sl nx 1 0 0 none/\hp'=ab hp nx (some (List.replicate n [iV 0]))/\nx'=nx+1) e155 (args:=[nS,iV n]) rfl (hp:=hp) (nx:=nx) ?_)
 ·obtain ⟨v,hp',nx',h1,rfl,rfl,rfl⟩:=main
  exact h1
 have h1:¬(n:Int)<0:=by omega
 have h2:(0:Int)<n:=by omega
 have h3:IntKind.wrap .i64 (n:Int)=n:=by rw[aj]<;>omega
 have h4:IntKind.wrap .i64 0=0:=rfl
 have hA:y8 1 8 [iV 0] nS (iV n) hp nx=some (.sl nx 1 0 n none,ab hp nx (some (List.replicate n [iV 0])),nx+1):=by
  simp only[y8]
  rw[if_pos ⟨by omega,by omega,by omega,rfl,rfl⟩]
  simp only[cF,qG,zl]
  rw[if_pos (.inl trivial),if_neg (by omega),if_pos ⟨by simp only[zS];omega,by simp only[zS];omega⟩]
  simp
 simp[c155,h1,h2,h3,h4,b8,bV,idxOf,dY,hA,-Int.ofNat_lt,-Int.natCast_pos]
theorem f153 (es:List (List Int)) (xs:List AV) (c:Option Nat) (h:SO 1 bC es xs) (hn:es.length<=1000) (hs:(cN es).length<=1000000) :
  ∃z,fa 1 ((cN es).map bC) z/\∀hp nx,aZ E 153 [.rs false 1 (xs.map fun x=>[x]) c] hp nx z hp nx .p:=by
 refine ⟨if (cN es).length=0 then nS else .rs false 1 ((cN es).map bC) none,?_,fun hp nx => ?_⟩
 ·split
  ·rename_i h0
   have:cN es=[]:=by simpa using h0
   exact ⟨true,0,_,by rw[this];rfl,.inl rfl,fun _=>by rw[this];rfl⟩
  ·exact ⟨false,_,_,rfl,.inr rfl,fun h=>by cases h⟩
 have gf:=h.closed (fun l=>fh)
 have cS:∀l:List Int,(l.map bC).all (fun l=>l.all AV.one)=true:=oS
 obtain ⟨CB,hx⟩:=h
 refine aF e153 rfl (by simp only[bT,AV.closed,gf,Bool.and_self]) ?_ hp nx
 simp[c153]
 refine aL (I:=fun (j:Nat) s'=>j<=es.length/\s'.tm 11=.int .i64 j/\s'.tm 10=.int .i64 xs.length/\s'.tm 9=.rs false 1 (xs.map fun x=>[x]) c/\s'.tm 0=.rs false 1 (xs.map fun x=>[x]) c/\s'.tm 3=.int .i64 (cN (es.take j)).length/\s'.nx=0/\s'.hp=cG) (fun j=>es.length-j) 0 (by simp[cN]) ?_
 rintro j tm hp nx ⟨hj,t11,t10,t9,t0,t3,yA,nc⟩
 simp only at hj t11 t10 t9 t0 t3 yA nc
 subst yA;subst nc
 by_cases az:j<es.length
 ·have nE:j<xs.length:=by omega
  have mc:(j:Int)<xs.length:=by omega
  have bU:=congrArg List.length (mT az)
  rw[zG]at bU
  have hle:=uO es (j+1)
  have bJ:=kP (k:=.i64) (c:=c) nE
  obtain ⟨nil,sz,cap,uB,hz,RW⟩:=hx j az nE
  have hlen:tD xs[j]=some (.v (.int .i64 (es[j].length:Nat))):=by rw[uB];simp
  have hw:IntKind.wrap .i64 ((j:Int)+1)=(j+1:Nat):=by rw[aj]<;>omega
  generalize hA:(cN (es.take j)).length=A at *
  generalize hB:(cN (es.take (j+1))).length=B at *
  have mj:IntKind.wrap .i64 ((A:Int)+(es[j].length:Nat))=(B:Nat):=by rw[aj]<;>omega
  have We:¬(B:Int)<0:=by omega
  simp[t11,t10,t9,t0,t3,mc,bJ,hlen,hw,mj,We,-ag,-Int.ofNat_lt,-Int.natCast_add]
  exact ⟨j+1,by omega,by omega,rfl,by rw[hB]⟩
 have Yg:j=es.length:=by omega
 subst Yg
 have vr:es.take es.length=es:=zW
 rw[vr]at t3
 by_cases h0:(cN es).length=0
 ·have hem:∀(j:Nat) (h:j<es.length),es[j]=[]:=by
   intro j h
   have:=uO es (j+1)
   rw[mT h,zG]at this
   exact zg.1 (by omega)
  have hG:∀hp nx,aZ E 155 [nS,iV 0] hp nx nS hp nx .p:=by
   intro hp nx
   refine aF e155 rfl (by simp) ?_ hp nx
   have h4:IntKind.wrap .i64 0=0:=rfl
   simp[c155,h4,aq]
  rw[h0]at t3
  simp[t11,t10,CB,t3]
  refine ap (hG _ _) ?_
  simp[t0]
  refine aL (I:=fun (j:Nat) s'=>j<=es.length/\s'.tm 27=.int .i64 j/\s'.tm 26=.int .i64 xs.length/\s'.tm 25=.rs false 1 (xs.map fun x=>[x]) c/\s'.tm 6=nS) (fun j=>es.length-j) 0 (by simp) ?_
  rintro j tm hp nx ⟨hj,t27,t26,t25,t6⟩
  simp only at hj t27 t26 t25 t6
  by_cases az:j<es.length
  ·have nE:j<xs.length:=by omega
   have mc:(j:Int)<xs.length:=by omega
   have bJ:=kP (k:=.i64) (c:=c) nE
   have hw:IntKind.wrap .i64 ((j:Int)+1)=(j+1:Nat):=by rw[aj]<;>omega
   obtain ⟨nil,sz,cap,uB,hz,RW⟩:=hx j az nE
   rw[hem j az]at uB
   have sL:bu 1 8 nS xs[j] hp nx=some (nS,hp,nx):=by
    rw[uB,bw hz];simp[cF]
   simp[t27,t26,t25,t6,mc,bJ,hw,sL,-ag,-Int.ofNat_lt,-Int.natCast_add]
   exact ⟨j+1,by omega,by omega,rfl⟩
  ·have:j=es.length:=by omega
   subst this
   have:¬(es.length:Int)<xs.length:=by omega
   simp[t27,t26,t6,this,zg.1 h0,aq,-Int.ofNat_lt]
 ·simp[t11,t10,CB,t3]
  refine ae (f155 (cN es).length (by omega) hs _ _) ?_
  simp[t0]
  generalize hT:(cN es).length=T at *
  generalize hZ:List.replicate T ([iV 0]:List AV)=Z
  have hZl:Z.length=T:=by rw[<-hZ];simp
  refine aL (I:=fun (j:Nat) s'=>j<=es.length/\s'.tm 27=.int .i64 j/\s'.tm 26=.int .i64 xs.length/\s'.tm 25=.rs false 1 (xs.map fun x=>[x]) c/\s'.tm 6=.sl 0 1 0 (cN (es.take j)).length none/\s'.hp 0=some ((cN (es.take j)).map bC++Z.drop (cN (es.take j)).length)) (fun j=>es.length-j) 0 (by simp[cN,hZ]) ?_
  rintro j tm hp nx ⟨hj,t27,t26,t25,t6,hh⟩
  simp only at hj t27 t26 t25 t6 hh
  by_cases az:j<es.length
  ·have nE:j<xs.length:=by omega
   have mc:(j:Int)<xs.length:=by omega
   have bJ:=kP (k:=.i64) (c:=c) nE
   have hw:IntKind.wrap .i64 ((j:Int)+1)=(j+1:Nat):=by rw[aj]<;>omega
   obtain ⟨nil,sz,cap,uB,hz,RW⟩:=hx j az nE
   have bU:=mT az
   have hle:=uO es (j+1)
   rw[bU,zG]at hle
   have sL:bu 1 8 (.sl 0 1 0 (cN (es.take j)).length none) xs[j] hp nx=some (.sl 0 1 0 (cN (es.take (j+1))).length none,ab hp 0 (some ((cN (es.take (j+1))).map bC++Z.drop (cN (es.take (j+1))).length)),nx):=by
    rw[uB,bw hz,if_pos (cS _)]
    simp only[cF,if_true,hh,Nat.zero_add]
    rw[if_neg (by simp only[zG,zZ,wN];omega),if_pos (by simp only[zG,zZ,wN];omega),vb (m:=T) (by simp) (by simp only[zZ];omega)]
    rw[bU]
    simp only[zf,zG,zZ]
   simp[t27,t26,t25,t6,mc,bJ,hw,sL,-ag,-Int.ofNat_lt,-Int.natCast_add]
   exact ⟨j+1,by omega,by omega,rfl,rfl,rfl⟩
  ·have:j=es.length:=by omega
   subst this
   rw[vr,hT]at t6 hh
   have FO:Z.drop T=[]:=zr (by omega)
   rw[FO,zT]at hh
   have:¬(es.length:Int)<xs.length:=by omega
   have CI:=CS (k:=4) (r:=0) (sz:=1) (i:=0) (len:=T) (cap:=none) hh (by simp[hT]) (by rw[zb,zI (by simp[hT])];simp)
   have htk:(((cN es).map bC).drop 0).take T=(cN es).map bC:=by rw[zb];exact zI (by simp[hT])
   rw[htk]at CI
   have bt:¬cN es=[]:=fun e=>h0 (by rw[<-hT,e];rfl)
   simp[t27,t26,t6,this,h0,CI,bt,-Int.ofNat_lt]
theorem abG (ks:List (List UInt8)) (x:AV) (hx:fa 1 (ks.map aN) x) (hl:ks.length<=1000000) (hp:Heap) (nx:Nat) :
  ∃v hp' nx',aZ E 112 [x] hp nx v hp' nx' .e/\cP hp' nx' 1 (ks.map aN) v/\nx<=nx'/\(∀r,r<nx->hp' r=hp r)/\∀r∈bc v,nx<=r:=by
 refine an (P:=fun v hp' nx'=>cP hp' nx' 1 (ks.map aN) v/\nx<=nx'/\(∀r,r<nx->hp' r=hp r)/\∀r∈bc v,nx<=r) e112 (args:=[x]) rfl (hp:=hp) (nx:=nx) ?_
 obtain ⟨nil,sz,cap,rfl,hz,hn⟩:=hx
 cases nil
 ·by_cases he:ks=[]
  ·subst he
   have h1:bu 1 16 (.rs false 1 [] (some 0)) (.rs false sz (([]:List (List UInt8)).map aN) cap) hp nx=some (.rs false 1 [] (some 0),hp,nx):=by
    rw[bw hz];simp[cF]
   have v8:bu 1 16 (.rs false 1 [] (some 0)) (.rs false sz [] cap) hp nx=some (.rs false 1 [] (some 0),hp,nx):=h1
   simp[c112,v8,-bw]
   exact .inl ⟨false,1,0,rfl,.inr rfl,fun h=>(by cases h),by simp⟩
  ·have K7:ks.length≠0:=by simpa using he
   have h1:bu 1 16 (.rs false 1 [] (some 0)) (.rs false sz (ks.map aN) cap) hp nx=some (.sl nx 1 0 ks.length none,ab hp nx (some (ks.map aN)),nx+1):=by
    rw[bw hz,if_pos (mw ks)]
    simp only[cF,zZ,zS,Nat.zero_add]
    rw[if_pos (.inr trivial),if_neg K7,if_pos (by omega)]
    simp
   simp[c112,h1,-bw]
   refine ⟨.inr ⟨nx,by omega,by simp,by simp⟩,fun r hr=>by simp[show ¬r=nx by omega]⟩
 ·have:=hn rfl
  simp[c112,this]
  exact cP.nil
theorem cP.afy {hp:Heap} {nx sz bytes:Nat} {es:bN} {x:AV} (h:cP hp nx sz es x) {new:bN} (hl:(es.length+new.length)*bytes<=140737488355328) :
  ∃v' hp' nx',cF sz bytes x new hp nx=some (v',hp',nx')/\cP hp' nx' sz (es++new) v'/\nx<=nx'/\(∀q,q<nx->q∉bc x->hp' q=hp q)/\∀q∈bc v',q∈bc x\/nx<=q:=by
 by_cases bt:new=[]
 ·subst bt
  rcases h with ⟨b,z,c,rfl,g1,g2,g3⟩|⟨r,h1,rfl,h2⟩
  ·refine ⟨_,hp,nx,?_,.inl ⟨b,z,c,by rw[zT],g1,by simpa using g2,by simpa using g3⟩,zD _,fun _ _ _=>rfl,by simp⟩
   simp only[cF,zS]
   rw[if_pos g1,if_pos trivial]
  ·refine ⟨.sl r sz 0 (es++[]).length none,ab hp r (some (es++[])),nx,?_,.inr ⟨r,h1,rfl,by simp⟩,zD _,fun q h3 h4=>by simp at h4;simp[h4],fun q hq=>.inl (by simpa using hq)⟩
   simp only[cF,if_true,h2,Nat.zero_add,zS,wF]
   rw[if_neg (by omega),if_pos (zD _)]
   simp[aa]
 ·obtain ⟨hp',h1,h2,h3,h4⟩:=h.xC (bytes:=bytes) bt hl
  exact ⟨_,hp',nx+1,h1,h3,by omega,fun q h5 h6=>h4 q (by omega) h6,fun q hq=>.inr (by simp at hq;omega)⟩
theorem jX {K:AV->Heap->Nat->Kd->Prop} {hp:Heap} {nx sz bytes:Nat} {es:bN} {x:AV} {new:bN} (h:cP hp nx sz es x) (hl:(es.length+new.length)*bytes<=140737488355328)
  (k:∀v' hp' nx',cP hp' nx' sz (es++new) v'->nx<=nx'->(∀q,q<nx->q∉bc x->hp' q=hp q)->(∀q∈bc v',q∈bc x\/nx<=q)->K v' hp' nx' .e):x9 (cF sz bytes x new hp nx) K:=by
 obtain ⟨v',hp',nx',h1,h2,h3,h4,h5⟩:=h.afy (bytes:=bytes) hl
 rw[h1]
 exact k v' hp' nx' h2 h3 h4 h5
theorem T9 (leaf:Bool) (Xo:Bool) (Xn:Nat) (YU:Option Nat) (mW L:List (List UInt8)) (hbz:Xo=true\/Xn=1) (xi xd zi zd v:AV) (w:Nat) (P:AV->Prop) (tm:Nat->AV) (hp:Heap) (nx:Nat)
  (hL:L.length+mW.length<=1000000) (t7:tm 7=.ptr w 0 0) (t5:tm 5=.ptr 1 0 0) (t6:tm 6=.ptr 2 0 0) (h1:hp 1=some [[.v (.bool leaf),.rs Xo Xn (mW.map aN) YU,xi,xd]])
  (hw:hp w=some [[.v (.bool leaf),v,zi,zd]]) (h2:hp 2=some [[.v (.bool false),nS,nS,nS]]) (ho:cP hp nx 1 (L.map aN) v)
  (CC:3<=w) (X8:w<nx) (hv:∀q∈bc v,3<=q/\q≠w) (RA:zi.closed=true/\zi.cells=[zi]/\zi.one=true) (VG:zd.closed=true/\zd.cells=[zd]/\zd.one=true)
  (hP:∀kn kz kc,(kn=true\/kz=1)->(kn=true->(L++mW).map aN=[])->P (.agg [.v (.bool leaf),.rs kn kz ((L++mW).map aN) kc,zi,zd])) :
  W (aZ E) uQ (oO [.cell 6 (some 4)] P) ⟨tm,hp,nx⟩:=by
 have Nr:¬1=w:=by omega
 have K5:¬2=w:=by omega
 have sL:∀hp nx,bu 1 16 v (.rs Xo Xn (mW.map aN) YU) hp nx=cF 1 16 v (mW.map aN) hp nx:=fun hp nx=>by rw[bw hbz,if_pos (mw mW)]
 simp[uQ,t7,t5,t6,hw,h1,sL,-bw]
 refine jX (bytes:=16) (new:=mW.map aN) ho (by simp only[zZ];omega) fun v2 aT ar o2 n2 k2 b2 => ?_
 have mj:aT w=hp w:=k2 w X8 fun h=>(hv w h).2 rfl
 have h22:aT 2=hp 2:=k2 2 (by omega) fun h=>by have:=(hv 2 h).1;omega
 rw[hw]at mj;rw[h2]at h22
 obtain ⟨o2c,o2o⟩:=o2.one
 have LP:∀q∈bc v2,3<=q/\q≠w:=by
  intro q hq
  rcases b2 q hq with h|h
  ·exact hv q h
  ·omega
 have agk:w∉bc v2:=fun h=>(LP w h).2 rfl
 have h2n:2∉bc v2:=fun h=>by have:=(LP 2 h).1;omega
 simp[t7,t5,t6,mj,h22,o2c,o2o,RA,VG,aa,K5,Ne.symm K5]
 obtain ⟨kn,kz,kc,hf,g1,g2⟩:=gh (k:=3) (hp:=ab (ab aT w (some [[.v (.bool leaf),v2,zi,zd]])) 2 (some [[.v (.bool leaf),v2,zi,zd]])) (nx:=ar) (o2.ah (zD _) fun q hq=>by
  have:=LP q hq
  simp[show ¬q=2 by omega,this.2]) (by rw[<-zf];exact eH)
 rw[<-zf]at hf g2
 refine ⟨.agg [.v (.bool leaf),.rs kn kz ((L++mW).map aN) kc,zi,zd],tO ?_,hP kn kz kc g1 g2⟩
 simp[br,hf,aq,RA,VG]
theorem f146 (a b:Nd) (x y:AV) (hx:iq a x) (hy:iq b y) (dQ:a.leaf=b.leaf) (key:List UInt8) (h1:a.keys.length<=100000) (h2:a.items.length<=100000) (h3:a.kids.length<=100001)
  (v8:b.keys.length<=100000) (Al:b.items.length<=100000) (Se:b.kids.length<=100001) :
  ∃z,iq (ej a key b) z/\∀hp nx,aZ E 146 [x,.str key,y] hp nx z hp nx .p:=by
 obtain ⟨Fw,BN,Dg,JN⟩:=a
 obtain ⟨af3,mW,Df,JI⟩:=b
 obtain ⟨kA,iA,dA,rfl,hkA,hiA,hdA⟩:=hx
 obtain ⟨kB,iB,dB,rfl,hkB,hiB,hdB⟩:=hy
 simp only at hkA hiA hdA hkB hiB hdB h1 h2 h3 v8 Al Se dQ
 subst dQ
 obtain ⟨zi,RA,ri⟩:=f152 [Dg,Df] [iA,iB] (some 2) ⟨rfl,fun i g g'=>by
  match i,g with
  |0,_=>exact hiA
  |1,_=>exact hiB⟩ (by simp) (by simp[cN];omega)
 obtain ⟨zd,VG,rd⟩:=f153 [JN,JI] [dA,dB] (some 2) ⟨rfl,fun i g g'=>by
  match i,g with
  |0,_=>exact hdA
  |1,_=>exact hdB⟩ (by simp) (by simp[cN];omega)
 have ei:cN [Dg,Df]=Dg++Df:=by simp[cN]
 have ed:cN [JN,JI]=JN++JI:=by simp[cN]
 rw[ei]at RA;rw[ed]at VG
 have c112:=abG BN kA hkA (by omega)
 obtain ⟨akn,akz,akc,rfl⟩:=hkA.shape
 obtain ⟨ain,aiz,aic,rfl⟩:=hiA.shape
 obtain ⟨adn,adz,adc,rfl⟩:=hdA.shape
 obtain ⟨Xo,Xn,YU,rfl,hbz,hbn⟩:=hkB
 obtain ⟨bin,biz,bic,rfl⟩:=hiB.shape
 obtain ⟨bdn,bdz,bdc,rfl⟩:=hdB.shape
 have zi1:zi.closed=true/\zi.cells=[zi]/\zi.one=true:=by
  obtain ⟨zin,ziz,zic,rfl⟩:=RA.shape
  exact ⟨eI,rfl,rfl⟩
 have zd1:zd.closed=true/\zd.cells=[zd]/\zd.one=true:=by
  obtain ⟨zin,ziz,zic,rfl⟩:=VG.shape
  exact ⟨fh,rfl,rfl⟩
 obtain ⟨af6,UD,UE⟩:=id zi1
 obtain ⟨af7,UF,UG⟩:=id zd1
 refine fH e146 rfl (by simp) ?_
 obtain ⟨v,hp1,nx1,r1,o1,n1,k1,b1⟩:=c112 (ab (ab (ab cG 0 (some [[.v (.bool Fw),.rs akn akz (BN.map aN) akc,.rs ain aiz (Dg.map bD.cells) aic,.rs adn adz (JN.map bC) adc]])) 1 (some [[.v (.bool Fw),.rs Xo Xn (mW.map aN) YU,.rs bin biz (Df.map bD.cells) bic,.rs bdn bdz (JI.map bC) bdc]])) 2 (some [[.v (.bool false),nS,nS,nS]])) 3
 have p0:=k1 0 (by omega)
 have p1:=k1 1 (by omega)
 have p2:=k1 2 (by omega)
 simp at p0 p1 p2
 have agm:(Fw==Fw)=true:=by simp
 obtain ⟨o1c,o1o⟩:=o1.one
 simp[c146]
 refine ae r1 ?_
 simp[p0,p1,p2]
 refine ap (ri _ _) ?_
 simp[p0,p1,p2]
 refine ap (rd _ _) ?_
 have g0:¬0=nx1:=by omega
 have g1:¬1=nx1:=by omega
 have g2:¬2=nx1:=by omega
 have vq:nx1∉bc v:=fun h=>by have:=o1.lt nx1 h;omega
 cases Fw
 ·simp[p0,p1,p2,o1c,o1o,UD,UE,UF,UG,aa,g0,g1,g2]
  have DA:¬nx1=1:=by omega
  have g2':¬nx1=2:=by omega
  generalize hH:ab (ab hp1 nx1 (some [[AV.v (Value.bool false),nS,nS,nS]])) nx1 (some [[AV.v (Value.bool false),v,zi,zd]])=H2
  have hHn:H2 nx1=some [[AV.v (Value.bool false),v,zi,zd]]:=by rw[<-hH];simp
  have hHo:∀q,q≠nx1->H2 q=hp1 q:=fun q hq=>by rw[<-hH];simp[hq]
  have o2:cP H2 (nx1+1) 1 (BN.map aN) v:=o1.ah (by omega) fun q hq=>hHo q fun e=>vq (e▸hq)
  refine jX (bytes:=16) (new:=[[AV.str key]]) o2 (by simp only[zZ,zV,zS];omega) fun v2 aT ar o3 n3 k3 b3 => ?_
  obtain ⟨o3c,Qo⟩:=o3.one
  have w1:aT nx1=H2 nx1:=k3 nx1 (by omega) vq
  have w2:aT 1=H2 1:=k3 1 (by omega) fun h=>by have:=b1 1 h;omega
  have w3:aT 2=H2 2:=k3 2 (by omega) fun h=>by have:=b1 2 h;omega
  rw[hHn]at w1
  rw[hHo 1 (Ne.symm DA),p1]at w2
  rw[hHo 2 (Ne.symm g2'),p2]at w3
  have R8:∀q∈bc v2,3<=q/\q≠nx1:=by
   intro q hq
   rcases b3 q hq with h|h
   ·exact ⟨b1 q h,fun e=>vq (e▸h)⟩
   ·omega
  have ZY:cP (ab aT nx1 (some [[AV.v (Value.bool false),v2,zi,zd]])) ar 1 ((BN++[key]).map aN) v2:=by
   have:=o3.ah (hp':=ab aT nx1 (some [[AV.v (Value.bool false),v2,zi,zd]])) (zD _) fun q hq=>by simp[(R8 q hq).2]
   simpa [aN] using this
  simp[p0,p1,p2,o3c,Qo,UD,UE,UF,UG,aa,g0,g1,g2,w1,w2,w3]
  refine T9 false Xo Xn YU mW (BN++[key]) hbz _ _ zi zd v2 nx1 _ _ _ _ (by simp only[zG,zV,zS];omega) (by simp) (by simp) (by simp) (by simp[g1,w2];exact ⟨rfl,rfl⟩) (by simp) (by simp[g2,w3]) (by simpa using ZY) n1 (by omega) R8 zi1 zd1 fun kn kz kc q1 q2 => ?_
  refine ⟨_,_,_,rfl,⟨kn,kz,kc,?_,q1,?_⟩,RA,VG⟩
  ·simp[ej]
  ·simpa [ej] using q2
 ·simp[p0,p1,p2,o1c,o1o,UD,UE,UF,UG,aa,g0,g1,g2]
  refine T9 true Xo Xn YU mW BN hbz _ _ zi zd v nx1 _ _ _ _ (by omega) (by simp) (by simp) (by simp) (by simp[g1,p1];exact ⟨rfl,rfl⟩) (by simp) (by simp[g2,p2]) (o1.ah (by omega) fun q hq=>by simp[show ¬q=nx1 from fun e=>vq (e▸hq)]) n1 (by omega) (fun q hq=>⟨b1 q hq,fun e=>vq (e▸hq)⟩) zi1 zd1 fun kn kz kc q1 q2 => ?_
  refine ⟨_,_,_,rfl,⟨kn,kz,kc,?_,q1,?_⟩,RA,VG⟩
  ·simp[ej]
  ·simpa [ej] using q2
def xh (hp:Heap) (nx sz:Nat) (es:bN) (x:AV):Prop :=
 (es=[]/\∃b z,x=.rs b z [] (some 0)/\(b=true\/z=sz))\/∃r,r<nx/\x=.sl r sz 0 es.length none/\hp r=some es
theorem xh.own {hp nx sz es x} (h:xh hp nx sz es x):cP hp nx sz es x:=by
 rcases h with ⟨rfl,b,z,rfl,h⟩|h
 ·exact .inl ⟨b,z,0,rfl,h,fun _=>rfl,by simp⟩
 ·exact .inr h
theorem xh.ah {hp hp':Heap} {nx nx' sz:Nat} {es:bN} {x:AV} (h:xh hp nx sz es x) (hn:nx<=nx') (hk:∀r∈bc x,hp' r=hp r):xh hp' nx' sz es x:=by
 rcases h with h|⟨r,h1,rfl,h2⟩
 ·exact .inl h
 ·exact .inr ⟨r,by omega,rfl,by rw[hk r (by simp),h2]⟩
def Dm (hp:Heap) (nx sz:Nat) (x:AV) (es':bN) (v:AV) (hp':Heap) (nx':Nat):Prop :=
 xh hp' nx' sz es' v/\nx<=nx'/\(∀y,y<nx->y∉bc x->hp' y=hp y)/\∀y∈bc v,nx<=y
theorem Cu {f:Nat} (hf:MQ f=true) {sz r nx:Nat} {es es':bN} {rest:List AV} {hp:Heap} (h:hp r=some es) (hr:r<nx)
  (key:∀spare:bN,Plain sz spare->∃v aT ar,aZ E0 f (.sl r sz 0 es.length (some (es.length+spare.length))::rest) (ab hp r (some (es++spare))) nx v aT ar .e/\Qi sz (es.length+spare.length) es' r nx hp v aT ar) :
  ∃v hp' nx',aZ E f (.sl r sz 0 es.length none::rest) hp nx v hp' nx' .e/\Dm hp nx sz (.sl r sz 0 es.length none) es' v hp' nx':=by
 refine ⟨.sl nx sz 0 es'.length none,ab (ab hp r none) nx (some es'),nx+1,ua (.inl ⟨hf,rfl,rfl,r,sz,es,es',rest,rfl,h,rfl,rfl,fun spare hs => ?_⟩),.inr ⟨nx,by omega,rfl,by simp⟩,by omega,fun y h1 h2 => ?_,by simp⟩
 ·obtain ⟨v,aT,ar,h1,q2,c2,rfl,h3,h4,h5⟩:=key spare hs
  exact ⟨aT,ar,.e,q2,c2,h1,h3,h4,h5⟩
 ·simp at h2
  simp[show ¬y=nx by omega,h2]
theorem f75 (es:bN) (x:AV) (i q nx:Nat) (t:TypeId) (row:List AV) (hp:Heap) (hO:xh hp nx 1 es x) (hi:i<=es.length) (hl:es.length<=1000000) (cS:es.all (fun l=>l.all AV.one)=true) (eb:row.all AV.one=true)
  (hq:q+1<nx) (h1:hp q=some [row]) (h2:hp (q+1)=some [[.ty t 0],[]]) (Qz:q∉bc x) (Nn:q+1∉bc x) :
  ∃v hp' nx',aZ E 75 [x,iV i,.sl q 1 0 1 (some 1)] hp nx v hp' nx' .e/\Dm hp nx 1 x (mE es i row) v hp' nx':=by
 rcases hO with ⟨rfl,b,z,rfl,hz⟩|⟨r,hr,rfl,h⟩
 ·have G5:i=0:=by simpa using hi
  subst G5
  have hk:aR hp 1 (.sl q 1 0 1 (some 1))=some [row]:=by simp[aR,h1]
  have ha:cF 1 16 (.rs b z [] (some 0)) [row] hp nx=some (.sl nx 1 0 1 none,ab hp nx (some [row]),nx+1):=by
   simp only[cF];rw[if_pos hz,if_neg (by simp),if_pos (by simp)];simp
  refine an e75 rfl ?_
  simp only[c75]
  simp[b8,bV,idxOf,hz,dY,bu,hk,eb,ha]
  exact ⟨.inr ⟨nx,by omega,rfl,by simp[mE]⟩,by omega,fun y h3 h4=>by simp[show ¬y=nx by omega],by simp⟩
 ·simp at Qz Nn
  exact Cu rfl h hr fun spare hs=>aaq r q i nx t es spare row hp hi hl cS eb hr hq Qz Nn h1 h2 hs
theorem f76 (es:bN) (x:AV) (i q nx:Nat) (t:TypeId) (row:List AV) (hp:Heap) (hO:xh hp nx 3 es x) (hi:i<=es.length) (hl:es.length<=1000000) (cS:es.all (fun l=>l.all AV.one)=true) (eb:row.all AV.one=true)
  (hq:q+1<nx) (h1:hp q=some [row]) (h2:hp (q+1)=some [[.ty t 0],[]]) (Qz:q∉bc x) (Nn:q+1∉bc x) :
  ∃v hp' nx',aZ E 76 [x,iV i,.sl q 3 0 1 (some 1)] hp nx v hp' nx' .e/\Dm hp nx 3 x (mE es i row) v hp' nx':=by
 rcases hO with ⟨rfl,b,z,rfl,hz⟩|⟨r,hr,rfl,h⟩
 ·have G5:i=0:=by simpa using hi
  subst G5
  have hk:aR hp 3 (.sl q 3 0 1 (some 1))=some [row]:=by simp[aR,h1]
  have ha:cF 3 32 (.rs b z [] (some 0)) [row] hp nx=some (.sl nx 3 0 1 none,ab hp nx (some [row]),nx+1):=by
   simp only[cF];rw[if_pos hz,if_neg (by simp),if_pos (by simp)];simp
  refine an e76 rfl ?_
  simp only[c76]
  simp[b8,bV,idxOf,hz,dY,bu,hk,eb,ha]
  exact ⟨.inr ⟨nx,by omega,rfl,by simp[mE]⟩,by omega,fun y h3 h4=>by simp[show ¬y=nx by omega],by simp⟩
 ·simp at Qz Nn
  exact Cu rfl h hr fun spare hs=>aap r q i nx t es spare row hp hi hl cS eb hr hq Qz Nn h1 h2 hs
theorem f77 (es:bN) (x:AV) (i nx:Nat) (hp:Heap) (hO:xh hp nx 1 es x) (hi:i<es.length) (hl:es.length<=1000000) (cS:es.all (fun l=>l.all AV.one)=true) :
  ∃v hp' nx',aZ E 77 [x,iV i,iV (i+1:Nat)] hp nx v hp' nx' .e/\Dm hp nx 1 x (w8 es i) v hp' nx':=by
 rcases hO with ⟨rfl,_⟩|⟨r,hr,rfl,h⟩
 ·simp at hi
 ·exact Cu rfl h hr fun spare hs=>abY r i nx es spare hp hi hl cS hr
theorem f78 (es:bN) (x:AV) (i nx:Nat) (hp:Heap) (hO:xh hp nx 3 es x) (hi:i<es.length) (hl:es.length<=1000000) (cS:es.all (fun l=>l.all AV.one)=true) :
  ∃v hp' nx',aZ E 78 [x,iV i,iV (i+1:Nat)] hp nx v hp' nx' .e/\Dm hp nx 3 x (w8 es i) v hp' nx':=by
 rcases hO with ⟨rfl,_⟩|⟨r,hr,rfl,h⟩
 ·simp at hi
 ·exact Cu rfl h hr fun spare hs=>abX r i nx es spare hp hi hl cS hr
theorem abF (es:bN) (x:AV) (hx:fa 1 es x) (cS:es.all (fun l=>l.all AV.one)=true) (hl:es.length<=1000000) (hp:Heap) (nx:Nat) :
  ∃v hp' nx',aZ E 112 [x] hp nx v hp' nx' .e/\Dm hp nx 1 (.v undef) es v hp' nx':=by
 refine an (P:=Dm hp nx 1 (.v undef) es) e112 (args:=[x]) rfl (hp:=hp) (nx:=nx) ?_
 obtain ⟨nil,sz,cap,rfl,hz,hn⟩:=hx
 cases nil
 ·by_cases he:es=[]
  ·subst he
   have v8:bu 1 16 (.rs false 1 [] (some 0)) (.rs false sz [] cap) hp nx=some (.rs false 1 [] (some 0),hp,nx):=by
    rw[bw hz];simp[cF]
   simp[c112,v8,-bw]
   exact ⟨.inl ⟨rfl,false,1,rfl,.inr rfl⟩,by omega,fun y _ _=>rfl,by simp⟩
  ·have K7:es.length≠0:=by simpa using he
   have h1:bu 1 16 (.rs false 1 [] (some 0)) (.rs false sz es cap) hp nx=some (.sl nx 1 0 es.length none,ab hp nx (some es),nx+1):=by
    rw[bw hz,if_pos cS]
    simp only[cF,zS,Nat.zero_add]
    rw[if_pos (.inr trivial),if_neg K7,if_pos (by omega)]
    simp
   simp[c112,h1,-bw]
   exact ⟨.inr ⟨nx,by omega,by simp,by simp⟩,by omega,fun r hr _=>by simp[show ¬r=nx by omega],by simp⟩
 ·have:=hn rfl
  subst this
  simp[c112]
  exact ⟨.inl ⟨rfl,true,0,rfl,.inl rfl⟩,by omega,fun y _ _=>rfl,by simp⟩
theorem abE (es:bN) (x:AV) (hx:fa 3 es x) (cS:es.all (fun l=>l.all AV.one)=true) (hl:es.length<=1000000) (hp:Heap) (nx:Nat) :
  ∃v hp' nx',aZ E 113 [x] hp nx v hp' nx' .e/\Dm hp nx 3 (.v undef) es v hp' nx':=by
 refine an (P:=Dm hp nx 3 (.v undef) es) e113 (args:=[x]) rfl (hp:=hp) (nx:=nx) ?_
 obtain ⟨nil,sz,cap,rfl,hz,hn⟩:=hx
 cases nil
 ·by_cases he:es=[]
  ·subst he
   have v8:bu 3 32 (.rs false 3 [] (some 0)) (.rs false sz [] cap) hp nx=some (.rs false 3 [] (some 0),hp,nx):=by
    rw[bw hz];simp[cF]
   simp[c113,v8,-bw]
   exact ⟨.inl ⟨rfl,false,3,rfl,.inr rfl⟩,by omega,fun y _ _=>rfl,by simp⟩
  ·have K7:es.length≠0:=by simpa using he
   have h1:bu 3 32 (.rs false 3 [] (some 0)) (.rs false sz es cap) hp nx=some (.sl nx 3 0 es.length none,ab hp nx (some es),nx+1):=by
    rw[bw hz,if_pos cS]
    simp only[cF,zS,Nat.zero_add]
    rw[if_pos (.inr trivial),if_neg K7,if_pos (by omega)]
    simp
   simp[c113,h1,-bw]
   exact ⟨.inr ⟨nx,by omega,by simp,by simp⟩,by omega,fun r hr _=>by simp[show ¬r=nx by omega],by simp⟩
 ·have:=hn rfl
  subst this
  simp[c113]
  exact ⟨.inl ⟨rfl,true,0,rfl,.inl rfl⟩,by omega,fun y _ _=>rfl,by simp⟩
theorem xV (l:List (List UInt8)):(l.map aN).all (fun c=>c.all AV.one)=true:=by
 rw[List.all_map,zQ];intro x _;rfl
theorem xW (l:List bD):(l.map bD.cells).all (fun c=>c.all AV.one)=true:=by
 rw[List.all_map,zQ];intro x _;rfl
theorem abx (n:Nd) (x:AV) (hx:iq n x) (dQ:n.leaf=true) (hl:n.keys.length<=100000) (hi:n.items.length=n.keys.length) (hp:Heap) (nx:Nat) :
  ∃v hp' nx',aZ E 74 [x,iV 0,iV n.keys.length] hp nx v hp' nx' .e/\∃xk xi,v=.agg [.v (.bool true),xk,xi,nS]/\xh hp' nx' 1 (n.keys.map aN) xk/\xh hp' nx' 3 (n.items.map bD.cells) xi /\
   nx<=nx'/\(∀y,y<nx->hp' y=hp y)/\(∀y∈bc xk,nx<=y)/\∀y∈bc xi,nx<=y/\y∉bc xk:=by
 obtain ⟨leaf,keys,items,kids⟩:=n
 obtain ⟨kA,iA,dA,rfl,hk,lL,hd⟩:=hx
 simp only at hk lL hd dQ hl hi
 subst dQ
 obtain ⟨k1,k2,k3⟩:=oD (k:=.i64) (k':=.i64) (a:=0) (b:=keys.length) hk (by omega) (by simp)
 obtain ⟨i1,i2,i3⟩:=oD (k:=.i64) (k':=.i64) (a:=0) (b:=keys.length) lL (by omega) (by simp;omega)
 have M5:fa 1 (keys.map aN) k1:=by
  have:((keys.map aN).take keys.length).drop 0=keys.map aN:=by rw[zb,zI (by simp)]
  rw[this]at k2;exact k2
 have CA:fa 3 (items.map bD.cells) i1:=by
  have:((items.map bD.cells).take keys.length).drop 0=items.map bD.cells:=by rw[zb,zI (by simp;omega)]
  rw[this]at i2;exact i2
 obtain ⟨kn,oo,kc,rfl⟩:=hk.shape
 obtain ⟨vm,vj,ic,rfl⟩:=lL.shape
 obtain ⟨dn,w7,dc,rfl⟩:=hd.shape
 have M4:b8 1 (.rs kn oo (keys.map aN) kc) (some (iV 0)) (some (iV keys.length)) none=some k1:=k3
 have Na:b8 3 (.rs vm vj (items.map bD.cells) ic) (some (iV 0)) (some (iV keys.length)) none=some i1:=i3
 let h0:Heap:=ab (ab hp nx (some [[.v (.bool true),.rs kn oo (keys.map aN) kc,.rs vm vj (items.map bD.cells) ic,.rs dn w7 (kids.map bC) dc]])) (nx+1) (some [[.v (.bool false),nS,nS,nS]])
 obtain ⟨v1,hp1,nx1,c1,o1,g1,g2,g3⟩:=abF _ _ M5 (xV keys) (by simp;omega) h0 (nx+1+1)
 have f1:∀y,y<nx+1+1->hp1 y=h0 y:=fun y h=>g2 y h (by simp[bc])
 have e0:hp1 nx=some [[.v (.bool true),.rs kn oo (keys.map aN) kc,.rs vm vj (items.map bD.cells) ic,.rs dn w7 (kids.map bC) dc]]:=by rw[f1 nx (by omega)];simp[h0]
 have e1:hp1 (nx+1)=some [[.v (.bool false),nS,nS,nS]]:=by rw[f1 (nx+1) (by omega)];simp[h0]
 have It:=o1.own.one
 have aaY:=o1.own.lt
 have n1:¬nx=nx1:=by omega
 have n2:¬nx+1=nx1:=by omega
 let hA:Heap:=ab (ab hp1 nx1 (some [[.v (.bool false),nS,nS,nS]])) nx1 (some [[.v (.bool true),v1,nS,nS]])
 obtain ⟨v2,aT,ar,c2,o2,m1,m2,m3⟩:=abE _ _ CA (xW items) (by simp;omega) hA (nx1+1)
 have f2:∀y,y<nx1+1->aT y=hA y:=fun y h=>m2 y h (by simp[bc])
 have e2:aT nx1=some [[.v (.bool true),v1,nS,nS]]:=by rw[f2 nx1 (by omega)];simp[hA]
 have e3:aT (nx+1)=some [[.v (.bool false),nS,nS,nS]]:=by rw[f2 _ (by omega)];simp[hA,n2,e1]
 have TB:=o2.own.one
 have fI:=o2.own.lt
 refine an e74 rfl ?_
 simp[c74,M4]
 refine ae c1 ?_
 simp[It.1,It.2,aa,e0,h0,n1]
 rw[Na]
 simp
 refine ae c2 ?_
 simp[It.1,It.2,TB.1,TB.2,aa,e2,e3,n2]
 refine ⟨v1,v2,⟨rfl,rfl⟩,o1.ah (by omega) fun r hr => ?_,o2.ah (zD _) fun r hr => ?_,by omega,fun y hy => ?_,fun y hy => ?_,fun y hy => ?_⟩
 ·have a1:=g3 r hr
  have a2:=aaY r hr
  simp[show ¬r=nx1 by omega,show ¬r=nx+1 by omega]
  rw[f2 r (by omega)];simp[hA,show ¬r=nx1 by omega]
 ·have a1:=m3 r hr
  simp[show ¬r=nx1 by omega,show ¬r=nx+1 by omega]
 ·simp[show ¬y=nx1 by omega,show ¬y=nx+1 by omega]
  rw[f2 y (by omega)];simp[hA,show ¬y=nx1 by omega]
  rw[f1 y (by omega)];simp[h0,show ¬y=nx by omega,show ¬y=nx+1 by omega]
 ·have:=g3 y hy;omega
 ·have a1:=m3 y hy
  exact ⟨by omega,fun h=>by have:=aaY y h;omega⟩
theorem Ek {α:Type} (f:α->List AV) (l:List α) (i:Nat) (a:α):mE (l.map f) i (f a)=(fX l i a).map f:=by simp[mE,fX,wR,wS]
theorem Om {α:Type} (f:α->List AV) (l:List α) (i:Nat):w8 (l.map f) i=(fK l i).map f:=by simp[w8,fK,wR,wS]
theorem aby (n:Nd) (x:AV) (hx:iq n x) (hr:ax n=true) (dQ:n.leaf=true) (hl:n.keys.length<=60000) (iR:n.items.length=n.keys.length) (lK:n.kids.length<=60000) (i:Nat) (hi:i<=n.keys.length) (key:List UInt8) (it:bD) (z:AV) (hz:fa 3 [it.cells] z) :
  ∃y,iq ⟨true,fX n.keys i key,fX n.items i it,[]⟩ y/\∀hp nx,aZ E 42 [x,iV i,.str key,z] hp nx y hp nx .p:=by
 have sU:=f68 n x hx (by omega) (by omega) (by omega)
 rw[hr]at sU
 obtain ⟨kA,iA,dA,rfl,hk,lL,hd⟩:=id hx
 obtain ⟨kn,oo,kc,rfl⟩:=hk.shape
 obtain ⟨vm,vj,ic,rfl⟩:=lL.shape
 obtain ⟨dn,w7,dc,rfl⟩:=hd.shape
 obtain ⟨zn,zsz,zc,rfl,Eo,hzn⟩:=hz
 rw[dQ]at hx sU ⊢
 have aef:zn=false:=by
  cases zn
  ·rfl
  ·exact absurd (hzn rfl) (by simp)
 subst aef
 have hz3:zsz=3:=by simpa using Eo
 subst hz3
 have K8:bT it.cells=true:=by simp[bD.cells]
 have TQ:it.cells.all AV.one=true:=rfl
 let Z:List AV:=[.v (.bool false),nS,nS,nS]
 let nl:AV:=nS
 let A:List AV:=[.v (.bool true),.rs kn oo (n.keys.map aN) kc,.rs vm vj (n.items.map bD.cells) ic,.rs dn w7 (n.kids.map bC) dc]
 let h0:Heap:=ab (ab cG 0 (some [A])) 1 (some [Z])
 obtain ⟨_,hp1,nx1,c1,xk,xi,rfl,Rf,Vf,l1,DB,bk1,bi1⟩:=abx n _ hx dQ (by omega) iR h0 2
 have ZT:=Rf.own.one
 have ZU:=Vf.own.one
 have Ve:=Rf.own.lt
 have oil:=Vf.own.lt
 let h2:Heap:=ab (ab hp1 nx1 (some [Z])) nx1 (some [[.v (.bool true),xk,xi,nl]])
 let h3:Heap:=ab (ab h2 (nx1+1) (some [[.str key]])) (nx1+1+1) (some [[.ty 9 0],[]])
 have Yp:∀y,y<nx1->h3 y=hp1 y:=fun y hy=>by simp[h3,h2,show ¬y=nx1+1+1 by omega,show ¬y=nx1+1 by omega,show ¬y=nx1 by omega]
 obtain ⟨v1,gb,tx,c2,o4,l4,rB,b4⟩:=f75 (n.keys.map aN) xk i (nx1+1) (nx1+1+2) 9 [.str key] h3 (Rf.ah (by omega) fun r hr=>Yp r (Ve r hr)) (by simpa using hi) (by simp;omega) (xV _) rfl (by omega) (by simp[h3]) (by simp[h3])
  (fun h=>by have:=Ve _ h;omega) (fun h=>by have:=Ve _ h;omega)
 have vq:=o4.own.one
 have VP:=o4.own.lt
 have nk:nx1∉bc xk:=fun h=>by have:=Ve _ h;omega
 have e4:gb nx1=some [[.v (.bool true),xk,xi,nl]]:=by rw[rB nx1 (by omega) nk];simp[h3,h2,show ¬nx1=nx1+1+1 by omega]
 have e69:gb 1=some [Z]:=by
  rw[rB 1 (by omega) (fun h=>by have:=bk1 _ h;omega),Yp 1 (by omega),DB 1 (by omega)];simp[h0]
 let h5:Heap:=ab gb nx1 (some [[.v (.bool true),v1,xi,nl]])
 let h6:Heap:=ab (ab h5 tx (some [it.cells])) (tx+1) (some [[.ty 84 0],[]])
 have h6o:∀y,y<tx->y≠nx1->h6 y=gb y:=fun y hy RB=>by simp[h6,h5,show ¬y=tx+1 by omega,show ¬y=tx by omega,RB]
 have Rh:∀y∈bc xi,y<nx1/\y∉bc xk:=fun y hy=>⟨oil y hy,(bi1 y hy).2⟩
 obtain ⟨v2,Dw,Td,c3,o7,l7,Hm,b7⟩:=f76 (n.items.map bD.cells) xi i tx (tx+2) 84 it.cells h6 (Vf.ah (by omega) fun r hr=>by
   obtain ⟨a1,a2⟩:=Rh r hr
   rw[h6o r (by omega) (by omega),rB r (by omega) a2,Yp r a1]) (by simpa [iR] using hi) (by simp;omega) (xW _) TQ (by omega) (by simp[h6]) (by simp[h6])
  (fun h=>by have:=(Rh _ h).1;omega) (fun h=>by have:=(Rh _ h).1;omega)
 have LP:=o7.own.one
 have n14:¬nx1=tx:=by omega
 have n15:¬nx1=tx+1:=by omega
 have e7:Dw nx1=some [[.v (.bool true),v1,xi,nl]]:=by rw[Hm nx1 (by omega) (fun h=>by have:=(Rh _ h).1;omega)];simp[h6,h5,n14,n15]
 have e71:Dw 1=some [Z]:=by rw[Hm 1 (by omega) (fun h=>by have:=(bi1 _ h).1;omega),h6o 1 (by omega) (by omega),e69]
 replace e71:Dw 1=some [[.v (.bool false),nS,nS,nS]]:=e71
 replace e7:Dw nx1=some [[.v (.bool true),v1,xi,nS]]:=e7
 replace e4:gb nx1=some [[.v (.bool true),xk,xi,nS]]:=e4
 have Rk:¬1=nx1:=by omega
 refine fH e42 rfl (by simp[K8]) ?_
 have g1:¬(i:Int)<0:=by omega
 have g2:¬(n.keys.length:Int)<i:=by omega
 simp[c42,aa]
 refine ap (sU _ _) ?_
 simp[g1,g2,aa]
 refine ae c1 ?_
 simp[aa,ZT.1,ZT.2,ZU.1,ZU.2,Ma]
 refine ae c2 ?_
 have i3:it.cells.length=3:=rfl
 have it3:it.cells.take 3=it.cells:=rfl
 simp[aa,vq.1,vq.2,e4,i3,it3,Ma,TQ]
 refine ae c3 ?_
 simp[aa,vq.1,vq.2,LP.1,LP.2,e7,e71,Rk]
 refine ⟨by simp[n14,n15],?_⟩
 have ZP:=(o4.ah (nx':=Td) (hp':=ab (ab Dw nx1 (some [[.v (.bool true),v1,v2,nS]])) 1 (some [[.v (.bool true),v1,v2,nS]])) (by omega) fun r hr=>by
  have a1:=b4 r hr
  have a2:=VP r hr
  simp[show ¬r=1 by omega,show ¬r=nx1 by omega]
  rw[Hm r (by omega) (fun h=>by have:=(Rh _ h).1;omega),h6o r a2 (by omega)]).own
 have ZO:=(o7.ah (nx':=Td) (hp':=ab (ab Dw nx1 (some [[.v (.bool true),v1,v2,nS]])) 1 (some [[.v (.bool true),v1,v2,nS]])) (zD _) fun r hr=>by
  have a1:=b7 r hr
  simp[show ¬r=1 by omega,show ¬r=nx1 by omega]).own
 rw[show ([.str key]:List AV)=aN key from rfl,Ek]at ZP
 rw[Ek]at ZO
 obtain ⟨p1,p2,p3,p4,p5⟩:=gh (k:=3) ZP eH
 obtain ⟨q1,q2,q3,q4,q5⟩:=gh (k:=3) ZO eI
 refine ⟨_,tO (k:=4) (cs':=[.v (.bool true),.rs p1 p2 _ p3,.rs q1 q2 _ q3,nS]) (by
  rw[br,br,br,br,p4,q4,aq (by simp),aq (by simp)];rfl),_,_,_,rfl,⟨p1,p2,p3,rfl,p5⟩,⟨q1,q2,q3,rfl,q5⟩,.vT⟩
theorem abz (n:Nd) (x:AV) (hx:iq n x) (hr:ax n=true) (dQ:n.leaf=true) (hl:n.keys.length<=60000) (iR:n.items.length=n.keys.length) (lK:n.kids.length<=60000) (i:Nat) (hi:i<n.keys.length) (key:List UInt8) (z:AV) (hz:fa 3 [] z) :
  ∃y,iq ⟨true,fK n.keys i,fK n.items i,[]⟩ y/\∀hp nx,aZ E 42 [x,iV i,.str key,z] hp nx y hp nx .p:=by
 have sU:=f68 n x hx (by omega) (by omega) (by omega)
 rw[hr]at sU
 obtain ⟨kA,iA,dA,rfl,hk,lL,hd⟩:=id hx
 obtain ⟨kn,oo,kc,rfl⟩:=hk.shape
 obtain ⟨vm,vj,ic,rfl⟩:=lL.shape
 obtain ⟨dn,w7,dc,rfl⟩:=hd.shape
 obtain ⟨zn,zsz,zc,rfl,Eo,hzn⟩:=hz
 rw[dQ]at hx sU ⊢
 let Z:List AV:=[.v (.bool false),nS,nS,nS]
 let nl:AV:=nS
 let A:List AV:=[.v (.bool true),.rs kn oo (n.keys.map aN) kc,.rs vm vj (n.items.map bD.cells) ic,.rs dn w7 (n.kids.map bC) dc]
 let h0:Heap:=ab (ab cG 0 (some [A])) 1 (some [Z])
 obtain ⟨_,hp1,nx1,c1,xk,xi,rfl,Rf,Vf,l1,DB,bk1,bi1⟩:=abx n _ hx dQ (by omega) iR h0 2
 have ZT:=Rf.own.one
 have ZU:=Vf.own.one
 have Ve:=Rf.own.lt
 have oil:=Vf.own.lt
 let h2:Heap:=ab (ab hp1 nx1 (some [Z])) nx1 (some [[.v (.bool true),xk,xi,nl]])
 have h2o:∀y,y<nx1->h2 y=hp1 y:=fun y hy=>by simp[h2,show ¬y=nx1 by omega]
 obtain ⟨v1,gb,tx,c2,o4,l4,rB,b4⟩:=f77 (n.keys.map aN) xk i (nx1+1) h2 (Rf.ah (by omega) fun r hr=>h2o r (Ve r hr)) (by simpa using hi) (by simp;omega) (xV _)
 have vq:=o4.own.one
 have VP:=o4.own.lt
 have nk:nx1∉bc xk:=fun h=>by have:=Ve _ h;omega
 have e4:gb nx1=some [[.v (.bool true),xk,xi,nl]]:=by rw[rB nx1 (by omega) nk];simp[h2]
 have e69:gb 1=some [Z]:=by
  rw[rB 1 (by omega) (fun h=>by have:=bk1 _ h;omega),h2o 1 (by omega),DB 1 (by omega)];simp[h0]
 let h5:Heap:=ab gb nx1 (some [[.v (.bool true),v1,xi,nl]])
 have h5o:∀y,y<tx->y≠nx1->h5 y=gb y:=fun y hy RB=>by simp[h5,RB]
 have Rh:∀y∈bc xi,y<nx1/\y∉bc xk:=fun y hy=>⟨oil y hy,(bi1 y hy).2⟩
 obtain ⟨v2,Dw,Td,c3,o7,l7,Hm,b7⟩:=f78 (n.items.map bD.cells) xi i tx h5 (Vf.ah (by omega) fun r hr=>by
   obtain ⟨a1,a2⟩:=Rh r hr
   rw[h5o r (by omega) (by omega),rB r (by omega) a2,h2o r a1]) (by simpa [iR] using hi) (by simp;omega) (xW _)
 have LP:=o7.own.one
 have n14:¬nx1=tx:=by omega
 have e7:Dw nx1=some [[.v (.bool true),v1,xi,nl]]:=by rw[Hm nx1 (by omega) (fun h=>by have:=(Rh _ h).1;omega)];simp[h5]
 have e71:Dw 1=some [Z]:=by rw[Hm 1 (by omega) (fun h=>by have:=(bi1 _ h).1;omega),h5o 1 (by omega) (by omega),e69]
 replace e71:Dw 1=some [[.v (.bool false),nS,nS,nS]]:=e71
 replace e7:Dw nx1=some [[.v (.bool true),v1,xi,nS]]:=e7
 replace e4:gb nx1=some [[.v (.bool true),xk,xi,nS]]:=e4
 have Rk:¬1=nx1:=by omega
 refine fH e42 rfl (by simp) ?_
 have g1:¬(i:Int)<0:=by omega
 have g2:¬(n.keys.length:Int)<i:=by omega
 simp[c42,aa]
 refine ap (sU _ _) ?_
 simp[g1,g2,aa]
 refine ae c1 ?_
 have e10:hp1 0=some [[.v (.bool true),.rs kn oo (n.keys.map aN) kc,.rs vm vj (n.items.map bD.cells) ic,.rs dn w7 (n.kids.map bC) dc]]:=by rw[DB 0 (by omega)];simp[h0,A]
 have n01:¬0=nx1:=by omega
 have w1:IntKind.wrap .i64 ((i:Int)+1)=(i+1:Nat):=by rw[aj]<;>omega
 simp[aa,ZT.1,ZT.2,ZU.1,ZU.2,hi,w1,e10,n01,-Int.natCast_add]
 refine ae c2 ?_
 simp[aa,vq.1,vq.2,e4,w1,-Int.natCast_add]
 refine ae c3 ?_
 simp[aa,vq.1,vq.2,LP.1,LP.2,e7,e71,Rk]
 have ZP:=(o4.ah (nx':=Td) (hp':=ab (ab Dw nx1 (some [[.v (.bool true),v1,v2,nS]])) 1 (some [[.v (.bool true),v1,v2,nS]])) (by omega) fun r hr=>by
  have a1:=b4 r hr
  have a2:=VP r hr
  simp[show ¬r=1 by omega,show ¬r=nx1 by omega]
  rw[Hm r (by omega) (fun h=>by have:=(Rh _ h).1;omega),h5o r a2 (by omega)]).own
 have ZO:=(o7.ah (nx':=Td) (hp':=ab (ab Dw nx1 (some [[.v (.bool true),v1,v2,nS]])) 1 (some [[.v (.bool true),v1,v2,nS]])) (zD _) fun r hr=>by
  have a1:=b7 r hr
  simp[show ¬r=1 by omega,show ¬r=nx1 by omega]).own
 rw[Om]at ZP ZO
 obtain ⟨p1,p2,p3,p4,p5⟩:=gh (k:=3) ZP eH
 obtain ⟨q1,q2,q3,q4,q5⟩:=gh (k:=3) ZO eI
 refine ⟨_,tO (k:=4) (cs':=[.v (.bool true),.rs p1 p2 _ p3,.rs q1 q2 _ q3,nS]) (by
  rw[br,br,br,br,p4,q4,aq (by simp),aq (by simp)];rfl),_,_,_,rfl,⟨p1,p2,p3,rfl,p5⟩,⟨q1,q2,q3,rfl,q5⟩,.vT⟩
end Go.Ai
namespace Go.Bt
open Go.Ai
def Up (l:bg):Prop:=l.Pairwise fun p q=>al p.1 q.1=true
theorem dw {a b c:Bytes} (h:al a b=true) (k:al c b=false):al a c=true:=by
 by_cases e:b=c
 ·rw[<-e];exact h
 ·exact cH h (oV k e)
theorem UC:∀{keys vs:List Bytes},kK keys->Up (keys.zip vs):=by
 intro keys vs h
 rw[Up,qX]
 intro i j hi hj yF
 simp only[List.getElem_zip]
 exact h i j (by simp at hj;omega) yF
end Go.Bt
namespace Go.Bt
open Go.Ai
abbrev fb:=Bytes->Option Bytes->Nat->bg->List Nat->Prop
inductive og (P:fb):Bytes->Option Bytes->List Bytes->List Int->bg->List Nat->Prop
 |one {lo hi c l ps}:P lo hi c.toNat l ps->og P lo hi [] [c] l ps
 |cons {lo k hi c l ps ks cs l' dk}:P lo (some k) c.toNat l ps->og P k hi ks cs l' dk->og P lo hi (k::ks) (c::cs) (l++l') (ps++dk)
inductive mZ (P:fb):Bytes->Bytes->List Bytes->List Int->bg->List Nat->Prop
 |nil {lo}:mZ P lo lo [] [] [] []
 |cons {lo k KE c l ps ks cs l' dk}:P lo (some k) c.toNat l ps->mZ P k KE ks cs l' dk->mZ P lo KE (k::ks) (c::cs) (l++l') (ps++dk)
inductive lg (P:fb):Option Bytes->Option Bytes->List Bytes->List Int->bg->List Nat->Prop
 |nil {hi}:lg P hi hi [] [] [] []
 |cons {k KE hi c l ps ks cs l' dk}:P k KE c.toNat l ps->lg P KE hi ks cs l' dk->lg P (some k) hi (k::ks) (c::cs) (l++l') (ps++dk)
theorem og.len {P:fb} {lo hi ks cs l ps} (h:og P lo hi ks cs l ps):cs.length=ks.length+1:=by
 induction h with
 |one _=>rfl
 |cons _ _ ih=>simp[ih]
theorem mZ.len {P:fb} {lo hi ks cs l ps} (h:mZ P lo hi ks cs l ps):cs.length=ks.length:=by
 induction h with
 |nil=>rfl
 |cons _ _ ih=>simp[ih]
theorem lg.len {P:fb} {lo hi ks cs l ps} (h:lg P lo hi ks cs l ps):cs.length=ks.length:=by
 induction h with
 |nil=>rfl
 |cons _ _ ih=>simp[ih]
theorem og.imp {P Q:fb} {lo hi ks cs l ps} (h:og P lo hi ks cs l ps) (e:∀lo hi c l' dk,P lo hi c l' dk->(∀m∈dk,m∈ps)->Q lo hi c l' dk):og Q lo hi ks cs l ps:=by
 induction h with
 |one h=>exact .one (e _ _ _ _ _ h fun m hm=>hm)
 |cons h _ ih=>exact .cons (e _ _ _ _ _ h fun m hm=>by simp[hm]) (ih fun lo hi c l' dk g hp=>e _ _ _ _ _ g fun m hm=>by simp[hp m hm])
theorem lg.one {P:fb} {a:Bytes} {b hi:Option Bytes} {c:Int} {l ps ks cs l' dk} (h:P a b c.toNat l ps) (hr:lg P b hi ks cs l' dk):og P a hi ks (c::cs) (l++l') (ps++dk):=by
 induction hr generalizing a c l ps with
 |nil=>simpa using og.one h
 |cons g _ ih=>exact .cons h (ih g)
theorem mZ.seg {P:fb} {lo a:Bytes} {hi ks cs l ps KI cs' l' dk} (hl:mZ P lo a ks cs l ps) (h:og P a hi KI cs' l' dk):og P lo hi (ks++KI) (cs++cs') (l++l') (ps++dk):=by
 induction hl with
 |nil=>simpa using h
 |cons g _ ih=>simpa [zF] using og.cons g (ih h)
theorem Mj {P:fb} {lo a:Bytes} {b hi:Option Bytes} {c:Int} {ks1 cs1 l1 p1 l p tE sj l2 p2} (h1:mZ P lo a ks1 cs1 l1 p1) (h:P a b c.toNat l p) (h2:lg P b hi tE sj l2 p2) :
  og P lo hi (ks1++tE) (cs1++c::sj) (l1++(l++l2)) (p1++(p++p2)):=h1.seg (lg.one h h2)
theorem AW {P:fb} {lo hi ks cs l ps} (h:og P lo hi ks cs l ps):∃b c cs' l1 l2 p1 p2,cs=c::cs'/\P lo b c.toNat l1 p1/\lg P b hi ks cs' l2 p2/\l=l1++l2/\ps=p1++p2:=by
 induction h with
 |one h=>exact ⟨_,_,_,_,_,_,_,rfl,h,.nil,by simp,by simp⟩
 |cons h _ ih =>
  obtain ⟨b,c,cs',l1,l2,p1,p2,rfl,h1,h2,rfl,rfl⟩:=ih
  exact ⟨_,_,_,_,_,_,_,rfl,h,.cons h1 h2,rfl,rfl⟩
theorem UT {P:fb} {lo hi ks cs l ps} (h:og P lo hi ks cs l ps):∀i,i<cs.length->∃a b c cs1 sj ks1 tE l1 l' l2 p1 p' p2,
  ks=ks1++tE/\cs=cs1++c::sj/\cs1.length=i/\mZ P lo a ks1 cs1 l1 p1/\P a b c.toNat l' p'/\lg P b hi tE sj l2 p2/\l=l1++(l'++l2)/\ps=p1++(p'++p2):=by
 induction h with
 |one h =>
  intro i hi
  obtain rfl:i=0:=by simpa using hi
  exact ⟨_,_,_,[],[],[],[],_,_,_,_,_,_,rfl,rfl,rfl,.nil,h,.nil,by simp,by simp⟩
 |cons h hs ih =>
  rename_i lo k hi c l ps ks cs l' dk
  intro i hi
  cases i with
  |zero =>
   obtain ⟨b,c',cs',l1,l2,p1,p2,rfl,h1,h2,rfl,rfl⟩:=AW hs
   exact ⟨_,_,_,[],_,[],_,_,_,_,_,_,_,rfl,rfl,rfl,.nil,h,.cons h1 h2,rfl,rfl⟩
  |succ i =>
   obtain ⟨a,b,c',cs1,sj,ks1,tE,l1,l',l2,p1,p',p2,rfl,rfl,rfl,g1,g2,g3,rfl,rfl⟩:=ih i (by simpa using hi)
   exact ⟨a,b,c',c::cs1,sj,k::ks1,tE,_,l',l2,_,p',p2,rfl,rfl,by simp,.cons h g1,g2,g3,by simp[zF],by simp[zF]⟩
theorem Ka {P:fb} {b hi ks c cs l ps} (h:lg P b hi ks (c::cs) l ps):∃k KI KE l1 l2 p1 p2,b=some k/\ks=k::KI/\P k KE c.toNat l1 p1/\lg P KE hi KI cs l2 p2/\l=l1++l2/\ps=p1++p2:=by
 cases h with
 |cons h hr=>exact ⟨_,_,_,_,_,_,_,rfl,rfl,h,hr,rfl,rfl⟩
theorem Kb {P:fb} {lo a ks cs l ps} (h:mZ P lo a ks cs l ps):∀i,cs.length=i+1->∃a' c cs' KI l1 l2 p1 p2,ks=KI++[a]/\cs=cs'++[c]/\mZ P lo a' KI cs' l1 p1/\P a' (some a) c.toNat l2 p2/\l=l1++l2/\ps=p1++p2:=by
 induction h with
 |nil=>intro i hi;simp at hi
 |cons h hr ih =>
  rename_i lo k KE c l ps ks cs l' dk
  intro i hi
  cases i with
  |zero =>
   have:cs=[]:=by simpa using hi
   subst this
   cases hr
   exact ⟨_,_,[],[],[],_,[],_,rfl,rfl,.nil,h,by simp,by simp⟩
  |succ i =>
   obtain ⟨a',c',cs',KI,l1,l2,p1,p2,rfl,rfl,g1,g2,rfl,rfl⟩:=ih i (by simpa using hi)
   exact ⟨a',c',c::cs',k::KI,_,l2,_,p2,rfl,rfl,.cons h g1,g2,by simp[zF],by simp[zF]⟩
def fF (rd:fE) (N:Bytes->Option Bytes->Nd->bg->List Nat->Prop):fb:=fun lo hi a l ps =>
 ∃n dk,rd a=some ((dP n).toNat,bb n)/\123<=aw n/\aw n<=492/\n.keys≠[]/\N lo hi n l dk/\ps=a::dk
def aB (rd:fE):Nat->Bytes->Option Bytes->Nd->bg->List Nat->Prop
 |0,lo,hi,n,l,ps=>n.leaf=true/\ax n=true/\(∀k∈n.keys,xp lo hi k=true)/\∃vs gX,fp rd n.items vs gX/\l=n.keys.zip vs/\ps=gX.flatten
 |h+1,lo,hi,n,l,ps=>n.leaf=false/\n.items=[]/\(∀k∈n.keys,k.length<=60)/\(∀c∈n.kids,jZ c=true) /\
   og (fun lo hi a l ps=>∃n dk,rd a=some ((dP n).toNat,bb n)/\123<=aw n/\aw n<=492/\n.keys≠[]/\aB rd h lo hi n l dk/\ps=a::dk) lo hi n.keys n.kids l ps
theorem aB.succ {rd:fE} {h:Nat} {lo hi n l ps}:aB rd (h+1) lo hi n l ps↔n.leaf=false/\n.items=[]/\(∀k∈n.keys,k.length<=60)/\(∀c∈n.kids,jZ c=true)/\og (fF rd (aB rd h)) lo hi n.keys n.kids l ps:=Iff.rfl
theorem aB.move {rd mi:fE}:∀{h:Nat} {lo hi n l ps},aB rd h lo hi n l ps->(∀m∈ps,mi m=rd m)->aB mi h lo hi n l ps
 |0,lo,hi,n,l,ps,⟨h1,h2,h3,vs,gX,h4,h5,h6⟩,e=>⟨h1,h2,h3,vs,gX,h4.move (fun m hm=>e m (by rw[h6];exact hm)),h5,h6⟩
 |h+1,lo,hi,n,l,ps,⟨h1,h2,h3,h4,h5⟩,e=>⟨h1,h2,h3,h4,h5.imp fun lo hi a l' dk ⟨n',q,g1,g2,g3,g4,g5,g6⟩ hp =>
   ⟨n',q,by rw[e a (hp a (by rw[g6];simp))];exact g1,g2,g3,g4,g5.move (fun m hm=>e m (hp m (by rw[g6];simp[hm]))),g6⟩⟩
theorem fF.move {rd mi:fE} {h:Nat} {lo hi a l ps} (k:fF rd (aB rd h) lo hi a l ps) (e:∀m∈ps,mi m=rd m):fF mi (aB mi h) lo hi a l ps:=by
 obtain ⟨n',q,g1,g2,g3,g4,g5,g6⟩:=k
 exact ⟨n',q,by rw[e a (by rw[g6];simp)];exact g1,g2,g3,g4,g5.move (fun m hm=>e m (by rw[g6];simp[hm])),g6⟩
theorem vl {rd:fE} {n v ps} (h:eJ rd n v ps):∀m∈ps,(rd m).isSome=true:=by
 induction h with
 |nil=>simp
 |cons hn h hb hs hf hr ih =>
  intro m hm
  rcases zH.1 hm with rfl|hm
  ·simp[h]
  ·exact ih m hm
theorem lW.has {rd:fE} {x v ps} (h:lW rd x v ps):∀m∈ps,(rd m).isSome=true:=by
 rcases h with ⟨_,_,rfl⟩|⟨_,h,_⟩
 ·simp
 ·exact vl h
theorem fp.has {rd:fE} {xs vs gX} (h:fp rd xs vs gX):∀m∈gX.flatten,(rd m).isSome=true:=by
 intro m hm
 obtain ⟨q,hq,hm⟩:=qe.1 hm
 obtain ⟨i,hi,rfl⟩:=zY hq
 exact (h.2.2 i (by have:=h.2.1;omega) (by have:=h.1;have:=h.2.1;omega) hi).has m hm
theorem og.mem {P:fb} {Q:Nat->Prop} {lo hi ks cs l ps} (h:og P lo hi ks cs l ps) (e:∀lo hi c l' dk,P lo hi c l' dk->∀m∈dk,Q m):∀m∈ps,Q m:=by
 induction h with
 |one h=>exact e _ _ _ _ _ h
 |cons h _ ih=>intro m hm;rcases zJ.1 hm with hm|hm;exact e _ _ _ _ _ h m hm;exact ih m hm
theorem aB.has {rd:fE}:∀{h:Nat} {lo hi n l ps},aB rd h lo hi n l ps->∀m∈ps,(rd m).isSome=true
 |0,lo,hi,n,l,ps,⟨h1,h2,h3,vs,gX,h4,h5,h6⟩=>by rw[h6];exact h4.has
 |h+1,lo,hi,n,l,ps,⟨h1,h2,h3,h4,h5⟩=>h5.mem fun lo hi a l' dk ⟨n',q,g1,g2,g3,g4,g5,g6⟩ m hm=>by
   rw[g6]at hm
   rcases zH.1 hm with rfl|hm
   ·simp[g1]
   ·exact g5.has m hm
theorem fF.has {rd:fE} {h:Nat} {lo hi a l ps} (k:fF rd (aB rd h) lo hi a l ps):∀m∈ps,(rd m).isSome=true:=by
 obtain ⟨n',q,g1,g2,g3,g4,g5,rfl⟩:=k
 intro m hm
 rcases zH.1 hm with rfl|hm
 ·simp[g1]
 ·exact g5.has m hm
def Grow (rd mi:fE):Prop:=∀m x,rd m=some x->mi m=some x
theorem Grow.eq {rd mi:fE} (g:Grow rd mi) {m:Nat} (h:(rd m).isSome=true):mi m=rd m:=by
 obtain ⟨x,hx⟩:=wM.1 h
 rw[hx];exact g m x hx
theorem Grow.trans {a b c:fE} (g:Grow a b) (k:Grow b c):Grow a c:=fun m x h=>k m x (g m x h)
theorem aB.grow {rd mi:fE} {h lo hi n l ps} (k:aB rd h lo hi n l ps) (g:Grow rd mi):aB mi h lo hi n l ps:=k.move fun m hm=>g.eq (k.has m hm)
theorem fF.grow {rd mi:fE} {h lo hi a l ps} (k:fF rd (aB rd h) lo hi a l ps) (g:Grow rd mi):fF mi (aB mi h) lo hi a l ps:=k.move fun m hm=>g.eq (k.has m hm)
theorem mZ.grow {rd mi:fE} {h lo hi ks cs l ps} (k:mZ (fF rd (aB rd h)) lo hi ks cs l ps) (g:Grow rd mi):mZ (fF mi (aB mi h)) lo hi ks cs l ps:=by
 induction k with
 |nil=>exact .nil
 |cons h _ ih=>exact .cons (h.grow g) ih
theorem lg.grow {rd mi:fE} {h lo hi ks cs l ps} (k:lg (fF rd (aB rd h)) lo hi ks cs l ps) (g:Grow rd mi):lg (fF mi (aB mi h)) lo hi ks cs l ps:=by
 induction k with
 |nil=>exact .nil
 |cons h _ ih=>exact .cons (h.grow g) ih
end Go.Bt
namespace Go.Bt
open Go.Ai
theorem ct {lo:Bytes} {hi:Option Bytes} {k:Bytes}:xp lo hi k=true↔al k lo=false/\∀b,hi=some b->al k b=true:=by
 cases hi<;>simp[xp]
theorem gY {a b c:Bytes} (h:al b a=false) (k:al b c=true):al a c=true:=by
 by_cases e:a=b
 ·rw[e];exact k
 ·exact cH (oV h e) k
def Good (P:fb):Prop:=∀lo hi a l ps,P lo hi a l ps->l≠[]/\∀p∈l,xp lo hi p.1=true
theorem ry {P:fb} (g:Good P) {lo k a l ps} (h:P lo (some k) a l ps):al lo k=true:=by
 obtain ⟨h1,h2⟩:=g _ _ _ _ _ h
 obtain ⟨p,hp⟩:=List.exists_mem_of_ne_nil _ h1
 obtain ⟨h3,h4⟩:=ct.1 (h2 p hp)
 exact gY h3 (h4 k rfl)
theorem oF {P:fb} (g:Good P) {lo hi ks cs l ps} (h:og P lo hi ks cs l ps) :
  (l≠[]/\∀p∈l,xp lo hi p.1=true)/\(∀k∈ks,al lo k=true/\∀b,hi=some b->al k b=true)/\ks.Pairwise (fun a b=>al a b=true):=by
 induction h with
 |one h=>exact ⟨g _ _ _ _ _ h,by simp,.nil⟩
 |cons h hs ih =>
  rename_i lo k hi c l ps ks cs l' dk
  obtain ⟨⟨i1,i2⟩,i3,i4⟩:=ih
  obtain ⟨g1,g2⟩:=g _ _ _ _ _ h
  have EB:=ry g h
  have hkh:∀b,hi=some b->al k b=true:=by
   intro b hb
   obtain ⟨q,hq⟩:=List.exists_mem_of_ne_nil _ i1
   obtain ⟨q1,q2⟩:=ct.1 (i2 q hq)
   exact gY q1 (q2 b hb)
  refine ⟨⟨by simp[g1],fun p hp => ?_⟩,fun x hx => ?_,?_⟩
  ·rcases zJ.1 hp with hp|hp
   ·obtain ⟨a1,a2⟩:=ct.1 (g2 p hp)
    exact ct.2 ⟨a1,fun b hb=>cH (a2 k rfl) (hkh b hb)⟩
   ·obtain ⟨a1,a2⟩:=ct.1 (i2 p hp)
    exact ct.2 ⟨eV (dw EB a1),a2⟩
  ·rcases zH.1 hx with rfl|hx
   ·exact ⟨EB,hkh⟩
   ·exact ⟨cH EB (i3 x hx).1,(i3 x hx).2⟩
  ·exact List.pairwise_cons.2 ⟨fun x hx=>(i3 x hx).1,i4⟩
theorem aB.abn {rd:fE}:∀{h:Nat} {lo hi n l ps},aB rd h lo hi n l ps->(h=0->n.keys≠[])->l≠[]/\∀p∈l,xp lo hi p.1=true
 |0,lo,hi,n,l,ps,⟨h1,h2,h3,vs,gX,h4,h5,h6⟩,hk=>by
  have hf:=((aY.of h2).leaf h1).1
  have hv:=h4.1
  refine ⟨fun e=>hk rfl ?_,fun p hp => ?_⟩
  ·rw[h5]at e
   have:(n.keys.zip vs).length=0:=by rw[e];rfl
   simp at this
   rcases this with h|h
   ·exact h
   ·subst h;simp at hv;rw[<-zg];omega
  ·rw[h5]at hp
   exact h3 _ (qK hp).1
 |h+1,lo,hi,n,l,ps,⟨h1,h2,h3,h4,h5⟩,_=>(oF (fun lo hi a l ps ⟨n',q,g1,g2,g3,g4,g5,g6⟩=>g5.abn fun _=>g4) h5).1
theorem fB (rd:fE) (h:Nat):Good (fF rd (aB rd h)):=fun lo hi a l ps ⟨n',q,g1,g2,g3,g4,g5,g6⟩=>g5.abn fun _=>g4
theorem Ke {P:fb} (g:Good P) {lo a ks cs l ps} (h:mZ P lo a ks cs l ps):(∀p∈l,al p.1 a=true/\al p.1 lo=false)/\al a lo=false:=by
 induction h with
 |nil=>exact ⟨by simp,bj _⟩
 |cons h hr ih =>
  rename_i lo k KE c l ps ks cs l' dk
  obtain ⟨i1,i2⟩:=ih
  have EB:=ry g h
  refine ⟨fun p hp => ?_,eV (dw EB i2)⟩
  rcases zJ.1 hp with hp|hp
  ·obtain ⟨a1,a2⟩:=ct.1 ((g _ _ _ _ _ h).2 p hp)
   exact ⟨dw (a2 k rfl) i2,a1⟩
  ·exact ⟨(i1 p hp).1,eV (dw EB (i1 p hp).2)⟩
theorem J9 {P:fb} (g:Good P) {b hi ks cs l ps} (h:lg P b hi ks cs l ps):∀p∈l,∃k,b=some k/\al p.1 k=false:=by
 induction h with
 |nil=>simp
 |cons h hr ih =>
  rename_i k KE hi c l ps ks cs l' dk
  intro p hp
  refine ⟨k,rfl,?_⟩
  rcases zJ.1 hp with hp|hp
  ·exact (ct.1 ((g _ _ _ _ _ h).2 p hp)).1
  ·obtain ⟨m,rfl,hm⟩:=ih p hp
   exact eV (dw (ry g h) hm)
theorem kw {ks:List Bytes}:kK ks↔ks.Pairwise (fun a b=>al a b=true):=by
 rw[qX]
 exact ⟨fun h i j hi hj yF=>h i j hj yF,fun h i j hj yF=>h i j (by omega) hj yF⟩
theorem Kc {P:fb} {lo a ks cs l ps} (h:mZ P lo a ks cs l ps):(ks=[]/\a=lo)\/ks.getLast?=some a:=by
 induction h with
 |nil=>exact .inl ⟨rfl,rfl⟩
 |cons h hr ih =>
  rcases ih with ⟨rfl,rfl⟩|ih
  ·exact .inr rfl
  ·refine .inr ?_
   rename_i ks cs l' dk
   cases ks with
   |nil=>cases ih
   |cons x ks=>rw[List.getLast?_cons_cons];exact ih
theorem J8 {P:fb} {b hi ks cs l ps} (h:lg P b hi ks cs l ps):(ks=[]/\b=hi)\/(ks.head?=b/\b.isSome=true):=by
 cases h with
 |nil=>exact .inl ⟨rfl,rfl⟩
 |cons=>exact .inr ⟨rfl,rfl⟩
theorem HT {P:fb} (g:Good P) {lo hi ks cs l ps} (h:og P lo hi ks cs l ps) {key:Bytes} (hk:xp lo hi key=true):eE ks key<cs.length/\∃a b c cs1 sj ks1 tE l1 l' l2 p1 p' p2,
  ks=ks1++tE/\cs=cs1++c::sj/\cs1.length=eE ks key/\mZ P lo a ks1 cs1 l1 p1/\P a b c.toNat l' p'/\lg P b hi tE sj l2 p2/\l=l1++(l'++l2)/\ps=p1++(p'++p2) /\
  xp a b key=true/\(∀p∈l1,al p.1 key=true)/\(∀p∈l2,al key p.1=true):=by
 obtain ⟨s1,s2,s3⟩:=nB (kw.2 (oF g h).2.2) key
 have hlen:=h.len
 refine ⟨by omega,?_⟩
 obtain ⟨a,b,c,cs1,sj,ks1,tE,l1,l',l2,p1,p',p2,rfl,rfl,e3,g1,g2,g3,rfl,rfl⟩:=UT h (eE ks key) (by omega)
 have el:=g1.len
 have er:=g3.len
 obtain ⟨k1,k2⟩:=ct.1 hk
 have hb:xp a b key=true:=by
  refine ct.2 ⟨?_,fun y hy => ?_⟩
  ·rcases Kc g1 with ⟨rfl,rfl⟩|e
   ·exact k1
   ·have bt:0<ks1.length:=by cases ks1 with
     |nil=>cases e
     |cons=>simp
    rw[List.getLast?_eq_getElem?]at e
    obtain ⟨az,e⟩:=zB.1 e
    have:=s2 (ks1.length-1) (by simp;omega) (by omega)
    rw[wo az,e]at this
    exact this
  ·rcases J8 g3 with ⟨rfl,rfl⟩|⟨e,_⟩
   ·exact k2 y hy
   ·rw[hy]at e
    have bt:0<tE.length:=by cases tE with
     |nil=>cases e
     |cons=>simp
    rw[List.head?_eq_getElem?]at e
    obtain ⟨az,e⟩:=zB.1 e
    have:=s3 ks1.length (by simp;omega) (by omega)
    rw[wj (zD _)]at this
    simp only[Nat.sub_self,e]at this
    exact this
 obtain ⟨b1,b2⟩:=ct.1 hb
 exact ⟨a,b,c,cs1,sj,ks1,tE,l1,l',l2,p1,p',p2,rfl,rfl,e3,g1,g2,g3,rfl,rfl,hb,fun p hp=>dw ((Ke g g1).1 p hp).1 b1,fun p hp=>by
  obtain ⟨k,hk,e⟩:=J9 g g3 p hp
  exact dw (b2 k hk) e⟩
theorem rh {P:fb} (g:Good P) {n:Nd} {lo hi l ps} (h1:n.leaf=false) (h2:n.items=[]) (h3:∀k∈n.keys,k.length<=60) (h4:∀c∈n.kids,jZ c=true) (h:og P lo hi n.keys n.kids l ps) (hk:n.keys≠[]):ax n=true:=by
 have hl:=h.len
 simp only[ax,zM]
 constructor
 ·exact iv.2 ⟨kw.2 (oF g h).2.2,fun i hi=>h3 _ (zP hi)⟩
 ·have:0<n.keys.length:=zt.2 hk
  simp[iL,h1,h2,hl,this]
  exact h4
theorem aB.right {rd:fE} {h:Nat} {lo hi n l ps} (k:aB rd h lo hi n l ps) (hk:n.keys≠[]):ax n=true:=by
 cases h with
 |zero=>exact k.2.1
 |succ h=>obtain ⟨h1,h2,h3,h4,h5⟩:=aB.succ.1 k;exact rh (fB rd h) h1 h2 h3 h4 h5 hk
def Ij (k:Bytes):Nat:=5+k.length
theorem DM {n:Nd} (dQ:n.leaf=false):∀k,k<=n.keys.length->bO n k=((n.keys.take k).map Ij).sum
 |0,_=>by simp[bO]
 |k+1,h=>by
  have hz:n.keys[k]?=some n.keys[k]:=zA (by omega)
  rw[zz,hz,bO,DM dQ k (by omega),zf,wV]
  have e1:n.keys.getD k []=n.keys[k]:=by simp[show k<n.keys.length by omega]
  simp only[bQ,dQ,zK,if_false,e1,jJ,wI,qi,jB,List.sum_nil,wF,Ij]
  omega
theorem oE {n:Nd} (hr:ax n=true) (dQ:n.leaf=false):aw n=6+(n.keys.map Ij).sum:=by
 rw[aw,if_pos hr,bL,bS,DM dQ _ (zD _),zW]
 simp[dQ]
end Go.Bt
namespace Go.Bt
open Go.Ai
structure uc (p p':PM) (pn:List Nat):Prop where
 gen:p'.gen=p.gen
 pins:p'.pins=p.pins
 len:p'.st.length=p.st.length
 nd:pn.Nodup
 new:∀m∈pn,p.has m=true/\p.is m=0/\p'.is m=2
 same:∀m,m∉pn->p'.st.getD m (0,0)=p.st.getD m (0,0)/\p'.rd m=p.rd m
theorem has_eq {p p':PM} (h:p'.st.length=p.st.length) (m:Nat):p'.has m=p.has m:=by simp[PM.has,h]
theorem uc.refl (p:PM):uc p p []:=⟨rfl,rfl,rfl,.nil,by simp,fun _ _=>⟨rfl,rfl⟩⟩
theorem uc.is {p p':PM} {pn} (h:uc p p' pn) {m:Nat} (hm:m∉pn):p'.is m=p.is m:=by simp only[PM.is,(h.same m hm).1]
theorem uc.trans {a b c:PM} {l m:List Nat} (h:uc a b l) (k:uc b c m):uc a c (l++m):=by
 have hd:∀x∈l,x∉m:=fun x hx hm=>by have:=(h.new x hx).2.2;have:=(k.new x hm).2.1;omega
 refine ⟨k.gen.trans h.gen,k.pins.trans h.pins,k.len.trans h.len,zq.2 ⟨h.nd,k.nd,fun x hx y hy e=>hd x hx (e▸hy)⟩,fun x hx => ?_,fun x hx => ?_⟩
 ·rcases zJ.1 hx with hx|hx
  ·obtain ⟨h1,h2,h3⟩:=h.new x hx
   exact ⟨h1,h2,by rw[k.is (hd x hx)];exact h3⟩
  ·obtain ⟨h1,h2,h3⟩:=k.new x hx
   have hl:x∉l:=fun e=>hd x e hx
   exact ⟨by rw[<-has_eq h.len];exact h1,by rw[<-h.is hl];exact h2,h3⟩
 ·simp only[zJ,not_or]at hx
  obtain ⟨h1,h2⟩:=h.same x hx.1
  obtain ⟨k1,k2⟩:=k.same x hx.2
  exact ⟨k1.trans h1,k2.trans h2⟩
theorem A2 {p:PM} {m:Nat} {x} (h:p.read m=some x):p.has m=true/\p.is m≠0/\p.rd m=some x:=by
 unfold PM.read at h
 split at h
 ·rename_i g;exact ⟨g.1,g.2,h⟩
 ·cases h
theorem HV {p:PM} {m:Nat} (h1:p.has m=true) (h2:p.is m≠0):p.read m=p.rd m:=by unfold PM.read;rw[if_pos ⟨h1,h2⟩]
theorem uc.grow {p p':PM} {pn} (h:uc p p' pn):Grow p.read p'.read:=by
 intro m x hm
 obtain ⟨h1,h2,h3⟩:=A2 hm
 have hn:m∉pn:=fun e=>h2 (h.new m e).2.1
 rw[HV (by rw[has_eq h.len];exact h1) (by rw[h.is hn];exact h2),(h.same m hn).2,h3]
theorem uc.put {p p':PM} {kind n:Nat} {s:Bytes} (h:p.put kind s=some (n,p')):uc p p' [n]/\p'.read n=some (kind,s):=by
 obtain ⟨h1,h2,h3,h4,h5,h6,h7,h8⟩:=PM.oL h
 refine ⟨⟨h5,h6,h7,by simp,?_,fun m hm=>h8 m (by simpa using hm)⟩,?_⟩
 ·intro m hm
  simp only[wm]at hm;subst hm
  exact ⟨h1,h2,h3⟩
 ·rw[HV (by rw[has_eq h7];exact h1) (by omega),h4]
structure Dj (t t':T) (pn on:List Nat):Prop where
 p:uc t.p t'.p pn
 put:t'.put=t.put++pn
 old:t'.old=t.old++on
theorem Dj.refl (t:T):Dj t t [] []:=⟨.refl _,by simp,by simp⟩
theorem Dj.trans {a b c:T} {l m k n:List Nat} (h:Dj a b l k) (g:Dj b c m n):Dj a c (l++m) (k++n) :=
 ⟨h.p.trans g.p,by rw[g.put,h.put,zF],by rw[g.old,h.old,zF]⟩
def Full (p:PM):Prop:=∀m,p.has m=true->p.is m≠0
def xf {α:Type} (t:T) (x:R α) (b:Nat) (post:α->T->List Nat->List Nat->Prop):Prop :=
 ∃pn on,Dj t x.2 pn on/\pn.length<=b/\match x.1 with
  |.ok a=>post a x.2 pn on
  |.error e=>e=6/\Full x.2.p/\pn.length+1<=b
theorem xf.ok {α:Type} {t:T} {a:α} {post:α->T->List Nat->List Nat->Prop} {b:Nat} (h:post a t [] []):xf t (.ok a,t) b post:=⟨[],[],.refl t,by simp,h⟩
theorem xf.bind {α β:Type} {t:T} {x:R α} {f:α->T->R β} {b1 b2 b:Nat} {P:α->T->List Nat->List Nat->Prop} {Q:β->T->List Nat->List Nat->Prop}
  (h:xf t x b1 P) (k:∀a t' pn on,Dj t t' pn on->P a t' pn on->xf t' (f a t') b2 fun c AS U6 ZS=>Q c AS (pn++U6) (on++ZS)) (hb:b1+b2<=b):xf t (rb x f) b Q:=by
 obtain ⟨pn,on,h1,h2,h3⟩:=h
 obtain ⟨r,t'⟩:=x
 cases r with
 |ok a =>
  obtain ⟨U6,ZS,g1,g2,g3⟩:=k a t' pn on h1 h3
  refine ⟨pn++U6,on++ZS,h1.trans g1,by rw[zG];omega,?_⟩
  show match (f a t').1 with
   |.ok c=>Q c (f a t').2 (pn++U6) (on++ZS)
   |.error e=>e=6/\Full (f a t').2.p/\(pn++U6).length+1<=b
  generalize f a t'=y at g3
  obtain ⟨r,t2⟩:=y
  cases r with
  |ok c=>exact g3
  |error e =>
   obtain ⟨q1,q2,q3⟩:=g3
   exact ⟨q1,q2,by rw[zG];omega⟩
 |error e =>
  obtain ⟨q1,q2,q3⟩:=h3
  exact ⟨pn,on,h1,by omega,q1,q2,by omega⟩
theorem xf.imp {α:Type} {t:T} {x:R α} {b1 b:Nat} {P Q:α->T->List Nat->List Nat->Prop} (h:xf t x b1 P) (k:∀a t' pn on,Dj t t' pn on->P a t' pn on->Q a t' pn on) (hb:b1<=b):xf t x b Q:=by
 obtain ⟨pn,on,h1,h2,h3⟩:=h
 obtain ⟨r,t'⟩:=x
 refine ⟨pn,on,h1,by omega,?_⟩
 cases r with
 |ok a=>exact k a t' pn on h1 h3
 |error e =>
  obtain ⟨q1,q2,q3⟩:=h3
  exact ⟨q1,q2,by omega⟩
theorem Ih (t:T) (kind:Nat) (s:Bytes):xf t (nz t kind s) 1 fun n t' pn on=>pn=[n]/\on=[]/\t'.p.read n=some (kind,s)/\2<=n/\n<t.p.st.length:=by
 unfold nz
 cases h:t.p.put kind s with
 |none=>exact ⟨[],[],.refl t,by simp,rfl,fun m hm=>PM.Mr h m hm,by simp⟩
 |some r =>
  obtain ⟨n,p'⟩:=r
  obtain ⟨h1,h2⟩:=uc.put h
  have hh:=(h1.new n (by simp)).1
  simp only[PM.has,zM,decide_eq_true_eq]at hh
  exact ⟨[n],[],⟨h1,rfl,by simp⟩,by simp,rfl,rfl,h2,hh⟩
theorem hJ (t:T) {n:Nd} (h1:ax n=true) (h2:aw n<=492):xf t (aV t n) 1 fun a t' pn on=>pn=[a]/\on=[]/\t'.p.read a=some ((dP n).toNat,bb n)/\2<=a/\a<t.p.st.length:=by
 unfold aV
 rw[if_pos ⟨h1,h2⟩]
 exact Ih t _ _
theorem nD {rd:fE} {n v ps} (h:eJ rd n v ps):(n≠0->v≠[]/\2<=n)/\ps.length<=v.length:=by
 induction h with
 |nil=>simp
 |cons hn h hb hs hf hr ih =>
  have:=zt.2 hs
  exact ⟨fun _=>⟨by simp[hs],hn⟩,by simp;omega⟩
theorem S2 (x:Nat) (s:Bytes):(aO x 4++s).take 4=aO x 4:=by rw[wK (by rw[kY];exact zD 4)];exact zI (by rw[kY];exact zD 4)
theorem Uh (x:Nat) (s:Bytes):(aO x 4++s).drop 4=s:=by rw[wq (by rw[kY];exact zD 4),List.drop_of_length_le (by rw[kY];exact zD 4)];rfl
theorem Ly {rd:fE} {n:Nat} {v:Bytes} {ps:List Nat} (h:eJ rd n v ps) {size:Nat}:∀{f:Nat} {acc:Bytes} {qs:List Nat},ps.length<=f->acc.length+v.length=size->gT rd size f n acc qs=some (acc++v,qs++ps):=by
 induction h with
 |nil=>intro f acc qs hf hs;cases f<;>simp at hs<;>simp[gT,hs]
 |cons hn h hb hs hf hr ih =>
  rename_i n next s t ps
  intro f acc qs hl eo
  obtain ⟨f,rfl⟩:∃g,f=g+1:=⟨f-1,by simp at hl;omega⟩
  obtain ⟨n,rfl⟩:∃m,n=m+1:=⟨n-1,by omega⟩
  have hr4:aA (aO next 4)=next:=fk 4 next (by omega)
  have hlen:¬(aO next 4++s).length<5:=by rw[zG,kY];have:=zt.2 hs;omega
  simp only[gT,h,S2,Uh,hr4]
  rw[if_neg (by simp only[ne_eq,not_true,false_or];exact hlen),if_neg (by rintro (e|e);exact e.2 (hf e.1);simp at e eo;omega),ih (by simp at hl;omega) (by simp at eo ⊢;omega)]
  simp
theorem BJ {rd:fE} {x:bD} {v:Bytes} {ps:List Nat} (h:lW rd x v ps) (hp:x.p≠0):uN rd x=some (v,ps):=by
 rcases h with ⟨h,_⟩|⟨h0,h1,h2⟩
 ·exact absurd h hp
 ·unfold uN
  have e:x.s.toNat=v.length:=by omega
  rw[Ly h1 (by have:=(nD h1).2;omega) (by simp[e])];rfl
theorem AO {rd:fE} {x:bD} {v:Bytes} {ps:List Nat} (h:lW rd x v ps):jh rd x=some v:=by
 unfold jh
 by_cases hp:x.p=0
 ·rw[if_pos hp]
  rcases h with ⟨_,h,_⟩|⟨h0,_⟩
  ·rw[h]
  ·omega
 ·rw[if_neg hp,BJ h hp];rfl
theorem Ea (t:T) {x:bD} {v:Bytes} {ps:List Nat} (h:lW t.p.read x v ps):xf t (gZ t x) 0 fun _ t' pn on=>pn=[]/\on=ps:=by
 unfold gZ
 by_cases hp:x.p=0
 ·rw[if_pos hp]
  rcases h with ⟨_,_,rfl⟩|⟨h0,_⟩
  ·exact .ok ⟨rfl,rfl⟩
  ·omega
 ·rw[if_neg hp,BJ h hp]
  exact ⟨[],ps,⟨.refl _,by simp,rfl⟩,by simp,rfl,rfl⟩
theorem eJ.grow {rd mi:fE} {n v ps} (h:eJ rd n v ps) (g:Grow rd mi):eJ mi n v ps:=h.move fun m hm=>g.eq (vl h m hm)
theorem Ej (v:Bytes) (hv:v.length<=60000):∀(k next:Nat) (t:T) (w:Bytes) (ps:List Nat),t.p.st.length<=4096->eJ t.p.read next w ps->next<4096->w=v.drop (488*k)->488*(k-1)<v.length ->
  xf t (sF v k next t) k fun n t' pn on=>on=[]/\n<4096/\∃qs,eJ t'.p.read n v qs/\qs.Perm (ps++pn)
 |0,next,t,w,ps,hN,h,hn,hw,hk=>.ok ⟨rfl,hn,ps,by simpa [hw] using h,by simp⟩
 |k+1,next,t,w,ps,hN,h,hn,hw,hk=>by
  unfold sF
  refine (Ih t _ _).bind (b2:=k) (fun n t' pn on ht hp => ?_) (by omega)
  obtain ⟨rfl,rfl,h3,h4,h5⟩:=hp
  have bt:(v.drop (488*k)).take 488≠[]:=by rw[<-zt];simp;omega
  have hc:eJ t'.p.read n ((v.drop (488*k)).take 488++w) (n::ps):=by
   refine .cons h4 h3 (by omega) bt (fun hz => ?_) (h.grow ht.p.grow)
   have:=((nD h).1 hz).1
   rw[hw,<-zt]at this
   simp at this ⊢;omega
  have mj:(v.drop (488*k)).take 488++w=v.drop (488*k):=by
   rw[hw,show 488*(k+1)=488*k+488 by omega,<-qv,zy]
  refine (Ej v hv k n t' _ _ (by rw[ht.p.len];exact hN) hc (by omega) mj (by omega)).imp (fun a AS U6 ZS Qw hq => ?_) (zD _)
  obtain ⟨rfl,q1,qs,q2,q3⟩:=hq
  exact ⟨rfl,q1,qs,q2,q3.trans (by simpa using (List.perm_middle (a:=n) (l₁:=ps) (l₂:=U6)).symm)⟩
def Cj (v:Bytes):Nat:=if v.length<=60 then 0 else (v.length-1) / 488+1
theorem Cv (t:T) {v:Bytes} (hv:v.length<=60000) (hN:t.p.st.length<=4096):xf t (dl t v) (Cj v) fun x t' pn on=>on=[]/\jd x=true/\(if 0<x.p then 9 else 1+x.v.length)<=61/\∃qs,lW t'.p.read x v qs/\qs.Perm pn:=by
 unfold dl Cj
 by_cases h:v.length<=60
 ·rw[if_pos h,if_pos h]
  exact .ok ⟨rfl,by simp[jd,h],by simp;omega,[],.inl ⟨rfl,rfl,rfl⟩,.refl _⟩
 ·rw[if_neg h,if_neg h]
  refine (Ej v hv ((v.length-1) / 488+1) 0 t [] [] hN .nil (by omega) ?_ (by simp;omega)).bind (b2:=0) (fun n t' pn on ht hp => ?_) (by omega)
  ·symm;rw[List.drop_eq_nil_iff];omega
  ·obtain ⟨rfl,h1,qs,h2,h3⟩:=hp
   have hnz:2<=n:=by
    rcases qF n with e|e
    ·subst e;cases h2 with
     |nil=>simp at h
     |cons hn=>omega
    ·exact ((nD h2).1 (by omega)).2
   refine .ok ⟨rfl,?_,?_,qs,(.inr ⟨show (0:Int)<(n:Int) by omega,by simpa using h2,by simp⟩),by simpa using h3⟩
   ·have e1:¬(n:Int)=0:=by omega
    have e2:(2:Int)<=(n:Int):=by omega
    have e3:(n:Int)<4096:=by omega
    have e4:(60:Int)<(v.length:Int):=by omega
    have e5:(v.length:Int)<=60000:=by omega
    simp only[jd,e1,if_false,jZ,e2,e3,e4,e5,decide_true,Bool.and_self]
   ·rw[if_pos (show (0:Int)<(n:Int) by omega)];omega
end Go.Bt
namespace Go.Bt
open Go.Ai
theorem BG (n:Nd):∀(f i:Nat),n.keys.length<=f+i->i+fZ n<=n.keys.length->i<=w9 n f i/\w9 n f i+fZ n<=n.keys.length /\
  (∀j,i<=j->j<w9 n f i->2*((bo n).length+bO n j)<aw n)/\(w9 n f i+fZ n=n.keys.length\/aw n<=2*((bo n).length+bO n (w9 n f i)))
 |0,i,hf,hi=>by
  have hup:1<=fZ n:=by simp only[fZ];split<;>omega
  omega
 |f+1,i,hf,hi=>by
  simp only[w9]
  split
  ·rename_i h
   obtain ⟨a,b,c,d⟩:=BG n f (i+1) (by omega) (by omega)
   refine ⟨by omega,b,fun j h1 h2 => ?_,d⟩
   rcases zj i j with g|g
   ·exact c j g h2
   ·have:j=i:=by omega
    subst this;exact h.1
  ·rename_i h
   refine ⟨zD _,hi,fun j h1 h2=>by omega,?_⟩
   rcases zj (i+fZ n) n.keys.length with g|g
   ·exact .inr (Nat.le_of_not_lt fun e=>h ⟨e,g⟩)
   ·exact .inl (by omega)
theorem Bd {n:Nd} (hr:ax n=true) (R7:492<aw n):4<=n.keys.length:=by
 have iU:aw n=(bo n).length+bO n n.keys.length:=by simp only[aw,hr,if_true,bL]
 have hw:=pR (aY.of hr) n.keys.length (zD _)
 have hh:(bo n).length<=6:=by rw[bS];split<;>omega
 omega
def gz (n:Nd):Nat:=w9 n n.keys.length 1
theorem IN {n:Nd} (hr:ax n=true) (R7:492<aw n):vP n (gz n):=by
 have hk:=Bd hr R7
 have hup:fZ n<=2:=by simp only[fZ];split<;>omega
 obtain ⟨a,b,c,d⟩:=BG n n.keys.length 1 (by omega) (by omega)
 exact ⟨a,b,fun j h1 h2=>c j h1 h2,d⟩
theorem WK {n:Nd} (hr:ax n=true) {i:Nat} (hc:vP n i) (R7:492<aw n) (Tv:aw n<=700):aw (cI n 0 i)<=492/\aw (cI n (i+fZ n-1) n.keys.length)<=492:=by
 have hf:=aY.of hr
 have iU:aw n=(bo n).length+bO n n.keys.length:=by simp only[aw,hr,if_true,bL]
 have lB:=hc.pos
 have hle:=hc.le
 have aas:1<=fZ n:=by simp only[fZ];split<;>omega
 have s1:=pV hr (a:=0) (b:=i) (by omega) (by omega) (fun _=>by omega)
 have s2:=pV hr (a:=i+fZ n-1) (b:=n.keys.length) (by omega) (by omega) (fun h=>by simp only[fZ,h]at hle ⊢;simp at hle ⊢;omega)
 have z0:bO n 0=0:=rfl
 have Bo:i=1\/(2*((bo n).length+bO n (i-1))<aw n/\bO n i=bO n (i-1)+bQ n (i-1)):=by
  by_cases h1:i=1
  ·exact .inl h1
  ·refine .inr ⟨hc.low (i-1) (by omega) (by omega),?_⟩
   obtain ⟨j,rfl⟩:∃j,i=j+1:=⟨i-1,by omega⟩
   rfl
 have hw:=fun j hj=>fR hf (i:=j) hj
 have s11:bO n 1=bQ n 0:=by simp[bO]
 have hh6:(bo n).length<=6:=by rw[bS];split<;>omega
 have w0:=hw 0 (by omega)
 have wp:=hw (i-1) (by omega)
 have afS:bO n i<=bO n (i+fZ n-1):=by
  cases hl:n.leaf
  ·have:i+fZ n-1=i+1:=by simp[fZ,hl]
   rw[this];show _<=bO n i+bQ n i;omega
  ·have:i+fZ n-1=i:=by simp[fZ,hl]
   rw[this];exact zD _
 constructor
 ·rcases Bo with h1|⟨h1,h3⟩
  ·subst h1;omega
  ·omega
 ·rcases hc.top with ht|ht
  ·have e:n.keys.length=(i+fZ n-1)+1:=by omega
   have Bm:bO n n.keys.length=bO n (i+fZ n-1)+bQ n (i+fZ n-1):=by rw[e];rfl
   have wl:=hw (i+fZ n-1) (by omega)
   omega
  ·omega
theorem fp.cut {rd:fE} {xs vs gX} (h:fp rd xs vs gX) (i:Nat):fp rd (xs.take i) (vs.take i) (gX.take i)/\fp rd (xs.drop i) (vs.drop i) (gX.drop i):=by
 obtain ⟨h1,h2,h3⟩:=h
 refine ⟨⟨by simp[h1],by simp[h2],fun j a b c => ?_⟩,⟨by simp[h1],by simp[h2],fun j a b c => ?_⟩⟩
 ·simp only[wx];exact h3 j (by simp at a;omega) (by simp at b;omega) (by simp at c;omega)
 ·simp only[wy];exact h3 _ (by simp at a;omega) (by simp at b;omega) (by simp at c;omega)
theorem fp.xC {rd:fE} {xs vs gX xs' vs' ZL} (h:fp rd xs vs gX) (k:fp rd xs' vs' ZL):fp rd (xs++xs') (vs++vs') (gX++ZL):=by
 obtain ⟨h1,h2,h3⟩:=h
 obtain ⟨k1,k2,k3⟩:=k
 refine ⟨by simp[h1,k1],by simp[h2,k2],fun j a b c => ?_⟩
 by_cases hj:j<xs.length
 ·rw[wo hj,wo (by omega),wo (by omega)];exact h3 j hj _ _
 ·rw[wj (by omega),wj (by omega),wj (by omega)]
  simp only[h1,h2]
  exact k3 _ (by simp at a;omega) (by simp at b;omega) (by simp at c;omega)
theorem xl {α β:Type} (l:List α) (m:List β) (i:Nat):l.zip m=(l.take i).zip (m.take i)++(l.drop i).zip (m.drop i):=by
 induction l generalizing m i with
 |nil=>simp
 |cons a l ih =>
  cases m with
  |nil=>simp
  |cons b m =>
   cases i with
   |zero=>simp
   |succ i=>simp[<-ih]
theorem yM {α:Type} (l:List (List α)) (i:Nat):l.flatten=(l.take i).flatten++(l.drop i).flatten:=by rw[<-qB,zy]
def iP (rd:fE) (h:Nat) (lo:Bytes) (hi:Option Bytes):dz->bg->List Nat->Prop
 |.one n,l,ps=>aB rd h lo hi n l ps/\aw n<=492
 |.two a k b,l,ps=>∃la lb pa pb,aB rd h lo (some k) a la pa/\aB rd h k hi b lb pb/\l=la++lb/\ps=pa++pb/\123<=aw a/\aw a<=492/\123<=aw b/\aw b<=492/\a.keys≠[]/\b.keys≠[]/\k.length<=60
theorem Q7 {P:fb} {lo hi ks cs l ps} (h:og P lo hi ks cs l ps):∀i (kG:i<ks.length),∃la lb pa pb,og P lo (some ks[i]) (ks.take i) (cs.take (i+1)) la pa/\og P ks[i] hi (ks.drop (i+1)) (cs.drop (i+1)) lb pb/\l=la++lb/\ps=pa++pb:=by
 induction h with
 |one h=>intro i hi;simp at hi
 |cons h hs ih =>
  intro i hi
  cases i with
  |zero=>exact ⟨_,_,_,_,.one h,hs,rfl,rfl⟩
  |succ i =>
   obtain ⟨la,lb,pa,pb,g1,g2,rfl,rfl⟩:=ih i (by simpa using hi)
   exact ⟨_,lb,_,pb,.cons h g1,g2,by simp,by simp⟩
theorem xy {rd:fE} {h:Nat} {lo hi n l ps} (k:aB rd h lo hi n l ps) (hs:aw n<=700):iP rd h lo hi (kH n) l ps:=by
 unfold kH
 split
 ·rename_i h0;exact ⟨k,h0⟩
 ·rename_i h0
  have hr:ax n=true:=by
   by_cases e:ax n=true
   ·exact e
   ·exfalso;apply h0;simp[aw,e]
  have hc:=IN hr (by omega)
  obtain ⟨q1,q2⟩:=Mq hr hc (by omega)
  obtain ⟨q3,q4⟩:=WK hr hc (by omega) hs
  have lB:=hc.pos
  have hle:=hc.le
  have hup:1<=fZ n:=by simp only[fZ];split<;>omega
  have az:gz n<n.keys.length:=by omega
  have G3:n.keys.getD (gz n) []=n.keys[gz n]:=by simp[az]
  have lK:=(aY.of hr).yi _ az
  have bt:∀m:Nd,123<=aw m->m.keys≠[]:=by
   intro m hm e
   have se:ax m=true:=by
    by_cases e:ax m=true
    ·exact e
    ·simp[aw,e]at hm
   have:aw m=(bo m).length+bO m m.keys.length:=by simp only[aw,se,if_true,bL]
   rw[e]at this
   have hh6:(bo m).length<=6:=by rw[bS];split<;>omega
   simp[bO]at this;omega
  have eF:kK n.keys:=(iv.1 (by simp only[ax,zM]at hr;exact hr.1)).1
  show iP rd h lo hi (.two (cI n 0 (gz n)) (n.keys.getD (gz n) []) (cI n (gz n+fZ n-1) n.keys.length)) l ps
  rw[G3]
  cases h with
  |zero =>
   obtain ⟨h1,h2,h3,vs,gX,h4,h5,h6⟩:=k
   have hu:gz n+fZ n-1=gz n:=by simp[fZ,h1]
   rw[hu]at q2 q4 ⊢
   obtain ⟨v1,v2⟩:=h4.cut (gz n)
   refine ⟨_,_,_,_,⟨h1,so hr (by omega) (by omega) (fun e=>by rw[h1]at e;cases e),?_,vs.take (gz n),gX.take (gz n),?_,rfl,rfl⟩,⟨h1,so hr (by omega) (by omega) (fun e=>by rw[h1]at e;cases e),?_,vs.drop (gz n),gX.drop (gz n),?_,rfl,rfl⟩,?_,?_,q1,q3,q2,q4,bt _ q1,bt _ q2,lK⟩
   ·intro x hx
    simp only[cI,zb]at hx
    obtain ⟨b1,b2⟩:=ct.1 (h3 x (zw hx))
    refine ct.2 ⟨b1,fun b hb => ?_⟩
    obtain ⟨j,hj,rfl⟩:=zY hx
    simp only[zOi]at hb;subst hb
    simp only[wx]
    exact eF _ _ az (by simp at hj;omega)
   ·simp only[cI,h1,if_true,zb];exact v1
   ·intro x hx
    simp only[cI,zW]at hx
    obtain ⟨b1,b2⟩:=ct.1 (h3 x (zx hx))
    refine ct.2 ⟨?_,b2⟩
    obtain ⟨j,hj,rfl⟩:=zY hx
    simp only[wy]
    rcases qF j with rfl|hj0
    ·exact bj _
    ·exact eV (eF _ _ (by simp at hj;omega) (by omega))
   ·have e:n.items.length=n.keys.length:=((aY.of hr).leaf h1).1
    simp only[cI,h1,if_true];rw[<-e,zW];exact v2
   ·rw[h5];simp only[cI,zb,zW];exact xl _ _ _
   ·rw[h6];exact yM _ _
  |succ h =>
   obtain ⟨h1,h2,h3,h4,h5⟩:=aB.succ.1 k
   have hu:gz n+fZ n-1=gz n+1:=by simp[fZ,h1]
   rw[hu]at q2 q4 ⊢
   obtain ⟨la,lb,pa,pb,g1,g2,rfl,rfl⟩:=Q7 h5 _ az
   have aeL:=h5.len
   refine ⟨la,lb,pa,pb,aB.succ.2 ⟨h1,by simp[cI,h1],?_,?_,?_⟩,aB.succ.2 ⟨h1,by simp[cI,h1],?_,?_,?_⟩,rfl,rfl,q1,q3,q2,q4,bt _ q1,bt _ q2,lK⟩
   ·intro x hx;simp only[cI,zb]at hx;exact h3 x (zw hx)
   ·intro x hx;simp only[cI,h1,zK,if_false,zb]at hx;exact h4 x (zw hx)
   ·simpa [cI,h1] using g1
   ·intro x hx;simp only[cI,zW]at hx;exact h3 x (zx hx)
   ·intro x hx;simp only[cI,h1,zK,if_false]at hx;exact h4 x (zw (zx hx))
   ·have e:n.kids.take (n.keys.length+1)=n.kids:=by rw[<-aeL,zW]
    simpa [cI,h1,e] using g2
end Go.Bt
namespace Go.Bt
open Go.Ai
def xc (x:Nat) (l:List Nat):Nat:=l.count x
def ZR (x a:Nat):Nat:=if a==x then 1 else 0
theorem fm (x:Nat) (a b:List Nat):xc x (a++b)=xc x a+xc x b:=List.count_append
theorem eY (x a:Nat) (b:List Nat):xc x (a::b)=ZR x a+xc x b:=by simp[xc,ZR,List.count_cons];omega
theorem fO (x:Nat):xc x []=0:=rfl
theorem dU {a b:List Nat} (h:∀x,xc x a=xc x b):a.Perm b:=qh.2 h
theorem dI {a b:List Nat} (h:a.Perm b) (x:Nat):xc x a=xc x b:=qh.1 h x
def Ao (key:Bytes) (m l:bg):bg:=l.filter (fun p=>al p.1 key)++m++l.filter (fun p=>al key p.1)
theorem Q4 {key:Bytes} {m l1 l l2:bg} (h1:∀p∈l1,al p.1 key=true) (h2:∀p∈l2,al key p.1=true):Ao key m (l1++(l++l2))=l1++(Ao key m l++l2):=by
 have e1:l1.filter (fun p=>al p.1 key)=l1:=wX.2 h1
 have e2:l1.filter (fun p=>al key p.1)=[]:=wC.2 fun p hp=>by rw[eV (h1 p hp)];simp
 have e3:l2.filter (fun p=>al key p.1)=l2:=wX.2 h2
 have e4:l2.filter (fun p=>al p.1 key)=[]:=wC.2 fun p hp=>by rw[eV (h2 p hp)];simp
 simp only[Ao,wU,e1,e2,e3,e4,zh,zT,zF]
theorem MG {key:Bytes} {l1 l l2:bg} (h1:∀p∈l1,al p.1 key=true) (h2:∀p∈l2,al key p.1=true) (h:∃p∈l1++(l++l2),p.1=key):∃p∈l,p.1=key:=by
 obtain ⟨p,hp,e⟩:=h
 rcases zJ.1 hp with hp|hp
 ·exact absurd e (mo (h1 p hp))
 ·rcases zJ.1 hp with hp|hp
  ·exact ⟨p,hp,e⟩
  ·exact absurd e.symm (mo (h2 p hp))
def pM (act:T->Nd->R Nd) (key:Bytes) (m:bg) (As:Prop) (b:Nat):Prop :=
 ∀t n lo hi l ps,t.p.st.length<=4096->aB t.p.read 0 lo hi n l ps->xp lo hi key=true->aw n<=492->(As->∃p∈l,p.1=key) ->
  xf t (act t n) b fun n' t' pn on=>∃dk,aB t'.p.read 0 lo hi n' (Ao key m l) dk/\(dk++on).Perm (ps++pn)/\aw n'<=aw n+122
theorem dO {n:Nd} (h:0<aw n):ax n=true:=by
 by_cases e:ax n=true
 ·exact e
 ·simp[aw,e]at h
theorem Cw {n:Nd} (h:123<=aw n):n.keys≠[]:=by
 intro e
 have hr:=dO (show 0<aw n by omega)
 have:aw n=(bo n).length+bO n n.keys.length:=by simp only[aw,hr,if_true,bL]
 rw[e]at this
 have hh6:(bo n).length<=6:=by rw[bS];split<;>omega
 simp[bO]at this;omega
theorem KJ (n:Nd):(((dP n).toNat:Nat):Int)=dP n:=by unfold dP;split<;>rfl
theorem oT {rd:fE} {a:Nat} {n:Nd} (h:rd a=some ((dP n).toNat,bb n)) (hr:ax n=true) (hs:aw n<=492):fN rd a=some n:=by
 have jl:(bb n).length<=492:=by simpa [aw,hr] using hs
 have hk:n.keys.length<65536:=by have:=(AZ hr 492 jl).1;omega
 have:=CZ hr hk
 simp only[fN,h]
 rw[KJ];exact this
theorem Mb (t:T) {a:Nat} {n:Nd} (h:t.p.read a=some ((dP n).toNat,bb n)) (hr:ax n=true) (hs:aw n<=492):eA t a=(.ok n,⟨t.p,t.put,t.old++[a]⟩):=by
 unfold eA
 rw[oT h hr hs]
theorem Q8 {P:fb} {lo k hi ks cs l ps KI cs' l' dk} (h:og P lo (some k) ks cs l ps) (g:og P k hi KI cs' l' dk):og P lo hi (ks++[k]++KI) (cs++cs') (l++l') (ps++dk):=by
 generalize hb:some k=b at h
 induction h with
 |one h=>subst hb;exact .cons h g
 |cons h _ ih=>simpa [zF] using og.cons h (ih hb)
theorem oW {rd:fE} {h:Nat} {lo k hi x lx px y ly py} (hx:aB rd h lo (some k) x lx px) (hy:aB rd h k hi y ly py) (hk:k.length<=60) (h1:al lo k=true) (h2:∀b,hi=some b->al k b=true) :
  mD x k y=ej x k y/\aB rd h lo hi (ej x k y) (lx++ly) (px++py):=by
 have hl:x.leaf=y.leaf:=by
  cases h with
  |zero=>rw[hx.1,hy.1]
  |succ h=>rw[hx.1,hy.1]
 refine ⟨by simp[mD,hl],?_⟩
 cases h with
 |zero =>
  obtain ⟨a1,a2,a3,vs,gX,a4,rfl,rfl⟩:=hx
  obtain ⟨b1,b2,b3,ws,qss,b4,rfl,rfl⟩:=hy
  obtain ⟨c1,c2,c3⟩:=(aY.of a2).leaf a1
  obtain ⟨d1,d2,d3⟩:=(aY.of b2).leaf b1
  have ra:kK x.keys:=(iv.1 (by simp only[ax,zM]at a2;exact a2.1)).1
  have rb':kK y.keys:=(iv.1 (by simp only[ax,zM]at b2;exact b2.1)).1
  have hxk:∀z∈x.keys,al z k=true:=fun z hz=>(ct.1 (a3 z hz)).2 k rfl
  have hyk:∀z∈y.keys,al z k=false:=fun z hz=>(ct.1 (b3 z hz)).1
  have Iv:(ej x k y).keys=x.keys++y.keys:=by simp[ej,a1]
  refine ⟨a1,?_,?_,vs++ws,gX++qss,a4.xC b4,?_,by simp⟩
  ·simp only[ax,zM]
   constructor
   ·rw[Iv]
    refine iv.2 ⟨kw.2 (List.pairwise_append.2 ⟨kw.1 ra,kw.1 rb',fun z hz w hw=>dw (hxk z hz) (hyk w hw)⟩),fun i hi => ?_⟩
    rcases zJ.1 (zP hi) with hm|hm
    ·obtain ⟨j,hj,e⟩:=zY hm;rw[<-e];exact (aY.of a2).yi j hj
    ·obtain ⟨j,hj,e⟩:=zY hm;rw[<-e];exact (aY.of b2).yi j hj
   ·have:(ej x k y).leaf=true:=a1
    simp only[iL,this,if_true,Iv,zM,decide_eq_true_eq,zQ]
    refine ⟨⟨by simp[ej,c1,d1],by simp[ej,c2,d2]⟩,fun z hz => ?_⟩
    simp only[ej,zJ]at hz
    exact hz.elim (c3 z) (d3 z)
  ·rw[Iv]
   intro z hz
   rcases zJ.1 hz with hz|hz
   ·exact ct.2 ⟨(ct.1 (a3 z hz)).1,fun b hb=>cH (hxk z hz) (h2 b hb)⟩
   ·exact ct.2 ⟨eV (dw h1 (hyk z hz)),(ct.1 (b3 z hz)).2⟩
  ·rw[Iv,qS (by rw[a4.1,c1])]
 |succ h =>
  obtain ⟨a1,a2,a3,a4,a5⟩:=aB.succ.1 hx
  obtain ⟨b1,b2,b3,b4,b5⟩:=aB.succ.1 hy
  refine aB.succ.2 ⟨a1,by simp[ej,a2,b2],fun z hz => ?_,fun z hz => ?_,?_⟩
  ·simp only[ej,a1,zK,if_false,zJ,wm]at hz
   rcases hz with (hz|hz)|hz
   ·exact a3 z hz
   ·rw[hz];exact hk
   ·exact b3 z hz
  ·simp only[ej,zJ]at hz
   exact hz.elim (a4 z) (b4 z)
  ·simpa only[ej,a1,zK,if_false] using Q8 a5 b5
theorem Bg {rd:fE} {h:Nat} {lo k hi x lx px y ly py} (hx:aB rd h lo (some k) x lx px) (hy:aB rd h k hi y ly py) (hk:k.length<=60) (h1:al lo k=true) (h2:∀b,hi=some b->al k b=true)
  (hs:aw x<=122/\123<=aw y/\aw y<=492\/aw y<=122/\123<=aw x/\aw x<=492):123<=aw (ej x k y)/\aw (ej x k y)<=700:=by
 have hj:=(oW hx hy hk h1 h2).2
 cases h with
 |zero =>
  obtain ⟨a1,a2,a3,vs,gX,a4,rfl,rfl⟩:=hx
  obtain ⟨b1,b2,b3,ws,qss,b4,rfl,rfl⟩:=hy
  have e1:=size_leaf a2 a1 ((aY.of a2).leaf a1).1
  have e2:=size_leaf b2 b1 ((aY.of b2).leaf b1).1
  have e3:=size_leaf hj.2.1 hj.1 ((aY.of hj.2.1).leaf hj.1).1
  have e4:(ej x k y).keys.zip (ej x k y).items=x.keys.zip x.items++y.keys.zip y.items:=by
   simp only[ej,a1,if_true,zT]
   rw[qS ((aY.of a2).leaf a1).1.symm]
  rw[e4,zf,wV]at e3
  omega
 |succ h =>
  obtain ⟨a1,a2,a3,a4,a5⟩:=aB.succ.1 hx
  obtain ⟨b1,b2,b3,b4,b5⟩:=aB.succ.1 hy
  obtain ⟨c1,c2,c3,c4,c5⟩:=aB.succ.1 hj
  have ek:(ej x k y).keys=x.keys++[k]++y.keys:=by simp[ej,a1]
  have e3:=oE (rh (fB rd h) c1 c2 c3 c4 c5 (by rw[ek];simp)) c1
  rw[ek,zf,zf,wV,wV]at e3
  have hkw:([k].map Ij).sum=5+k.length:=by simp[Ij]
  have eo:∀z:Nd,z.leaf=false->z.items=[]->(∀k∈z.keys,k.length<=60)->(∀c∈z.kids,jZ c=true)->(∃lo hi l ps,og (fF rd (aB rd h)) lo hi z.keys z.kids l ps)->(z.keys.map Ij).sum<=aw z/\aw z<=6+(z.keys.map Ij).sum:=by
   intro z z1 z2 z3 z4 ⟨_,_,_,_,z5⟩
   by_cases e:z.keys=[]
   ·rw[e]
    have:aw z=0:=by
     have:ax z=false:=by simp[ax,iL,z1,e]
     simp[aw,this]
    simp[this]
   ·have:=oE (rh (fB rd h) z1 z2 z3 z4 z5 e) z1
    omega
  have q1:=eo x a1 a2 a3 a4 ⟨_,_,_,_,a5⟩
  have q2:=eo y b1 b2 b3 b4 ⟨_,_,_,_,b5⟩
  omega
def Laid:dz->Prop
 |.one x=>123<=aw x
 |.two _ _ _=>True
theorem E9 {n:Nd} (h:123<=aw n):Laid (kH n):=by unfold kH;split;exact h;trivial
theorem adO {P:fb} {lo a:Bytes} {b hi:Option Bytes} {k:Bytes} {c d:Int} {ks1 cs1 l1 p1 l p l' p' tE sj l2 p2} (h1:mZ P lo a ks1 cs1 l1 p1) (h:P a (some k) c.toNat l p) (h':P k b d.toNat l' p') (h2:lg P b hi tE sj l2 p2) :
  og P lo hi (ks1++[k]++tE) (cs1++[c,d]++sj) (l1++((l++l')++l2)) (p1++((p++p')++p2)):=by
 have:=h1.seg (og.cons h (lg.one h' h2))
 simpa [zF] using this
theorem xX {rd:fE} {h:Nat} {lo hi n l ps} (k:aB rd (h+1) lo hi n l ps) (hs:6+(n.keys.map Ij).sum<=700):iP rd (h+1) lo hi (kh n) l ps:=by
 obtain ⟨a1,a2,a3,a4,a5⟩:=aB.succ.1 k
 have hz:aw n<=700/\(n.kids.length=1->aw n=0):=by
  by_cases e:n.keys=[]
  ·have:ax n=false:=by simp[ax,iL,a1,e]
   simp[aw,this]
  ·have:=oE (rh (fB rd h) a1 a2 a3 a4 a5 e) a1
   refine ⟨by omega,fun h => ?_⟩
   have hl:=a5.len
   have:=zt.2 e
   omega
 unfold kh
 split
 ·rename_i h1;exact ⟨k,by rw[hz.2 h1];omega⟩
 ·exact xy k hz.1
theorem oI {t:T} {h:Nat} {lo a:Bytes} {b hi:Option Bytes} {n:Nd} {ks1 km tE:List Bytes} {cs1 cm sj:List Int} {l1 l2 l:bg} {p1 p2 ps:List Nat} {q:dz}
  (hN:t.p.st.length<=4096) (ek:n.keys=ks1++(km++tE)) (ec:n.kids=cs1++(cm++sj)) (hm:cm.length=km.length+1)
  (h3:∀k∈n.keys,k.length<=60) (h4:∀c∈n.kids,jZ c=true) (hs:6+(n.keys.map Ij).sum<=492)
  (g1:mZ (fF t.p.read (aB t.p.read h)) lo a ks1 cs1 l1 p1) (g2:lg (fF t.p.read (aB t.p.read h)) b hi tE sj l2 p2) (hq:iP t.p.read h a b q l ps) (hl:Laid q) :
  xf t (bM t n cs1.length (cs1.length+cm.length) q) 2 fun q t' pn on=>on=[]/\∃dk,iP t'.p.read (h+1) lo hi q (l1++(l++l2)) dk/\dk.Perm (p1++(ps++p2)++pn):=by
 have e1:=g1.len
 have k1:n.keys.take cs1.length=ks1:=by rw[ek,e1];simp
 have k2:n.keys.drop (cs1.length+cm.length-1)=tE:=by
  rw[ek,e1,hm,show ks1.length+(km.length+1)-1=(ks1++km).length by simp,<-zF,qN]
 have c1:n.kids.take cs1.length=cs1:=by rw[ec];simp
 have c2:n.kids.drop (cs1.length+cm.length)=sj:=by rw[ec,<-zG,<-zF,qN]
 have tI:∀k∈ks1,k.length<=60:=fun k hk=>h3 k (by rw[ek];simp[hk])
 have m9:∀k∈tE,k.length<=60:=fun k hk=>h3 k (by rw[ek];simp[hk])
 have Lb:∀k∈cs1,jZ k=true:=fun k hk=>h4 k (by rw[ec];simp[hk])
 have EM:∀k∈sj,jZ k=true:=fun k hk=>h4 k (by rw[ec];simp[hk])
 have yp:6+(ks1.map Ij).sum+(tE.map Ij).sum<=492:=by rw[ek]at hs;simp only[zf,wV]at hs;omega
 have Wo:∀c:Nat,2<=c->c<t.p.st.length->jZ (c:Int)=true:=fun c u v=>by simp[jZ];omega
 cases q with
 |one x =>
  obtain ⟨x1,x2⟩:=hq
  unfold bM
  refine (hJ t (dO (show 0<aw x by have:123<=aw x:=hl;omega)) x2).bind (b2:=0) (fun c t' pn on ht hp => ?_) (by omega)
  obtain ⟨rfl,rfl,r1,r2,r3⟩:=hp
  have G3:fF t'.p.read (aB t'.p.read h) a b (c:Int).toNat l (c::ps):=⟨x,ps,r1,hl,x2,Cw hl,x1.grow ht.p.grow,rfl⟩
  have VX:=Mj (g1.grow ht.p.grow) G3 (g2.grow ht.p.grow)
  refine .ok ⟨rfl,p1++((c::ps)++p2),xX (aB.succ.2 ⟨rfl,rfl,?_,?_,?_⟩) ?_,?_⟩
  ·intro k hk
   simp only[ms,k1,k2,zT,zJ]at hk
   exact hk.elim (tI k) (m9 k)
  ·intro k hk
   simp only[ms,c1,c2,zJ,wm]at hk
   rcases hk with (hk|hk)|hk
   ·exact Lb k hk
   ·rw[hk];exact Wo c r2 r3
   ·exact EM k hk
  ·simp only[ms,k1,k2,c1,c2,zT,zF,List.singleton_append];exact VX
  ·simp only[ms,k1,k2,zT,zf,wV];omega
  ·exact dU fun x=>by simp only[fm,eY,fO];omega
 |two x k y =>
  obtain ⟨la,lb,pa,pb,x1,y1,rfl,rfl,xs1,Zi,ys1,Zh,xk,yk,kk⟩:=hq
  unfold bM
  refine (hJ t (dO (by omega)) Zi).bind (b2:=1) (fun c t' pn on ht hp => ?_) (by omega)
  obtain ⟨rfl,rfl,r1,r2,r3⟩:=hp
  refine (hJ t' (dO (by omega)) Zh).bind (b2:=0) (fun d AS pn on Qw hp => ?_) (by omega)
  obtain ⟨rfl,rfl,s1,s2,s3⟩:=hp
  rw[ht.p.len]at s3
  have g:=ht.p.grow.trans Qw.p.grow
  have G3:fF AS.p.read (aB AS.p.read h) a (some k) (c:Int).toNat la (c::pa):=⟨x,pa,Qw.p.grow _ _ r1,xs1,Zi,xk,x1.grow g,rfl⟩
  have Wp:fF AS.p.read (aB AS.p.read h) k b (d:Int).toNat lb (d::pb):=⟨y,pb,s1,ys1,Zh,yk,y1.grow g,rfl⟩
  have VX:=adO (g1.grow g) G3 Wp (g2.grow g)
  refine .ok ⟨rfl,p1++(((c::pa)++(d::pb))++p2),xX (aB.succ.2 ⟨rfl,rfl,?_,?_,?_⟩) ?_,?_⟩
  ·intro z hz
   simp only[ms,k1,k2,zJ,wm]at hz
   rcases hz with (hz|hz)|hz
   ·exact tI z hz
   ·rw[hz];exact kk
   ·exact m9 z hz
  ·intro z hz
   simp only[ms,c1,c2,zJ,zH,wO,or_false]at hz
   rcases hz with (hz|hz|hz)|hz
   ·exact Lb z hz
   ·rw[hz];exact Wo c r2 r3
   ·rw[hz];exact Wo d s2 s3
   ·exact EM z hz
  ·simp only[ms,k1,k2,c1,c2];exact VX
  ·simp only[ms,k1,k2,zf,wV,wI,qi,jB,List.sum_nil,Ij]at yp ⊢;omega
  ·exact dU fun x=>by simp only[fm,eY,fO];omega
end Go.Bt
namespace Go.Bt
open Go.Ai
theorem pQ (t:T) {a:Nat} {n:Nd} (h:t.p.read a=some ((dP n).toNat,bb n)) (hr:ax n=true) (hs:aw n<=492):xf t (eA t a) 0 fun n' t' pn on=>n'=n/\pn=[]/\on=[a]/\t'.p=t.p:=by
 rw[Mb t h hr hs]
 exact ⟨[],[a],⟨.refl _,by simp,rfl⟩,by simp,rfl,rfl,rfl,rfl⟩
theorem Ge {rd:fE} {h:Nat} {lo hi x l ps} (k:aB rd h lo hi x l ps) (hs:lX x=true):aw x<=122:=by
 simp only[lX,qA,decide_eq_true_eq]at hs
 rcases hs with hs|hs
 ·by_cases hr:ax x=true
  ·cases h with
   |zero =>
    have:=((aY.of hr).leaf k.1).2.1
    rw[this]at hs;simp at hs
   |succ h =>
    have:=(aY.of hr).inner k.1
    omega
  ·simp[aw,hr]
 ·omega
theorem Kv {x:Nd} (hs:¬lX x=true):Laid (.one x):=by
 simp only[lX,qA,decide_eq_true_eq,not_or]at hs
 show 123<=aw x
 omega
theorem P8 {t:T} {h:Nat} {lo a:Bytes} {b hi:Option Bytes} {n:Nd} {ks1 tE:List Bytes} {cs1 sj:List Int} {c:Int} {l1 l2 l:bg} {p1 p2 ps:List Nat} {q:dz}
  (hN:t.p.st.length<=4096) (ek:n.keys=ks1++tE) (ec:n.kids=cs1++c::sj) (hk:n.keys≠[])
  (h3:∀k∈n.keys,k.length<=60) (h4:∀c∈n.kids,jZ c=true) (hs:6+(n.keys.map Ij).sum<=492)
  (g1:mZ (fF t.p.read (aB t.p.read h)) lo a ks1 cs1 l1 p1) (g2:lg (fF t.p.read (aB t.p.read h)) b hi tE sj l2 p2) (IC:∀b',b=some b'->al a b'=true) (hq:iP t.p.read h a b q l ps) :
  xf t (lU t n cs1.length q) 2 fun q t' pn on=>∃dk,iP t'.p.read (h+1) lo hi q (l1++(l++l2)) dk/\(dk++on).Perm (p1++(ps++p2)++pn):=by
 have RO:Laid q->xf t (bM t n cs1.length (cs1.length+1) q) 2 fun q t' pn on=>∃dk,iP t'.p.read (h+1) lo hi q (l1++(l++l2)) dk/\(dk++on).Perm (p1++(ps++p2)++pn):=fun hl =>
  (oI (km:=[]) (cm:=[c]) hN (by simpa using ek) (by simpa using ec) rfl h3 h4 hs g1 g2 hq hl).imp (fun q t' pn on _ ⟨e,dk,x1,x2⟩=>⟨dk,x1,by rw[e,zT];exact x2⟩) (zD _)
 cases q with
 |two x k y=>exact RO trivial
 |one x =>
  simp only[lU]
  split
  ·rename_i Tv
   obtain ⟨x1,x2⟩:=hq
   have hx:=Ge x1 Tv
   have e1:=g1.len
   have e2:=g2.len
   by_cases hc:cs1=[]
   ·subst hc
    cases g1
    cases sj with
    |nil =>
     exfalso
     apply hk
     have:tE.length=0:=by simpa using e2.symm
     rw[ek,zg.1 this];rfl
    |cons c' sj =>
     obtain ⟨k,agi,KE,l21,l22,p21,p22,rfl,rfl,jf,g2',rfl,rfl⟩:=Ka g2
     obtain ⟨o,p',r1,r2,r3,r4,r5,rfl⟩:=jf
     have lK:k.length<=60:=h3 k (by rw[ek];simp)
     have sM:=IC k rfl
     have hkm:∀b',KE=some b'->al k b'=true:=fun b' e=>by
      subst e;exact ry (fB t.p.read h) ⟨o,p',r1,r2,r3,r4,r5,rfl⟩
     have e0:ff t n ([]:List Int).length x=rb (eA t c'.toNat) fun o t=>(.ok (kH (mD x k o),0),t):=by
      have q1:n.kids[1]?=some c':=by rw[ec];rfl
      have q2:n.keys.getD 0 []=k:=by rw[ek];rfl
      simp only[ff,zS,if_true,q1,q2]
     rw[e0]
     have hN':=hN
     refine xf.bind (b1:=0) (b2:=2) (P:=fun r t' pn on=>pn=[]/\on=[c'.toNat]/\t'.p=t.p/\r=(kH (ej x k o),0)) ?_ (fun r t' pn on ht hp => ?_) (by omega)
     ·refine (pQ t r1 (dO (by omega)) r3).bind (b2:=0) (fun n' t' pn on ht hp => ?_) (by omega)
      obtain ⟨rfl,rfl,rfl,hp⟩:=hp
      exact .ok ⟨rfl,rfl,hp,by rw[(oW x1 r5 lK sM hkm).1]⟩
     ·obtain ⟨rfl,rfl,hp,rfl⟩:=hp
      obtain ⟨j1,j2⟩:=Bg x1 r5 lK sM hkm (.inl ⟨hx,r2,r3⟩)
      have CK:=xy (oW x1 r5 lK sM hkm).2 j2
      rw[<-hp]at CK g2' hN'
      refine (oI (t:=t') (cs1:=[]) (ks1:=[]) (km:=[k]) (cm:=[c,c']) hN' (by simpa using ek) (by simpa using ec) rfl h3 h4 hs .nil g2' CK (E9 j1)).imp ?_ (zD _)
      rintro q AS pn on _ ⟨rfl,dk,y1,y2⟩
      refine ⟨dk,by simpa [zF] using y1,dU fun z => ?_⟩
      have:=dI y2 z
      simp only[fm,eY,fO]at this ⊢;omega
   ·obtain ⟨j,hj⟩:∃j,cs1.length=j+1:=⟨cs1.length-1,by have:=zt.2 hc;omega⟩
    obtain ⟨a',c',C2,aeb,l11,l12,p11,p12,rfl,rfl,DA,jf,rfl,rfl⟩:=Kb g1 j hj
    obtain ⟨o,p',r1,r2,r3,r4,r5,rfl⟩:=jf
    have lK:a.length<=60:=h3 a (by rw[ek];simp)
    have sM:al a' a=true:=ry (fB t.p.read h) ⟨o,p',r1,r2,r3,r4,r5,rfl⟩
    have f1:=DA.len
    have hj':C2.length=j:=by simpa using hj
    have e0:ff t n (C2++[c']).length x=rb (eA t c'.toNat) fun o t=>(.ok (kH (mD o a x),C2.length),t):=by
     have q1:n.kids[C2.length]?=some c':=by rw[ec];simp
     have q2:n.keys.getD C2.length []=a:=by rw[ek,f1];simp
     have q3:(C2++[c']).length=C2.length+1:=by simp
     simp only[ff,q3,Nat.add_sub_cancel,q1,q2,Nat.succ_ne_zero,if_false]
    rw[e0]
    have hN':=hN
    refine xf.bind (b1:=0) (b2:=2) (P:=fun r t' pn on=>pn=[]/\on=[c'.toNat]/\t'.p=t.p/\r=(kH (ej o a x),C2.length)) ?_ (fun r t' pn on ht hp => ?_) (by omega)
    ·refine (pQ t r1 (dO (by omega)) r3).bind (b2:=0) (fun n' t' pn on ht hp => ?_) (by omega)
     obtain ⟨rfl,rfl,rfl,hp⟩:=hp
     exact .ok ⟨rfl,rfl,hp,by rw[(oW r5 x1 lK sM IC).1]⟩
    ·obtain ⟨rfl,rfl,hp,rfl⟩:=hp
     obtain ⟨j1,j2⟩:=Bg r5 x1 lK sM IC (.inr ⟨hx,r2,r3⟩)
     have CK:=xy (oW r5 x1 lK sM IC).2 j2
     rw[<-hp]at CK g2 DA hN'
     refine (oI (t:=t') (cs1:=C2) (ks1:=aeb) (km:=[a]) (cm:=[c',c]) hN' (by simpa [zF] using ek) (by simpa [zF] using ec) rfl h3 h4 hs DA g2 CK (E9 j1)).imp ?_ (zD _)
     rintro q AS pn on _ ⟨rfl,dk,y1,y2⟩
     refine ⟨dk,by simpa [zF] using y1,dU fun z => ?_⟩
     have:=dI y2 z
     simp only[fm,eY,fO]at this ⊢;omega
  ·rename_i Tv
   exact RO (Kv Tv)
theorem yQ {act:T->Nd->R Nd} {key:Bytes} {m:bg} {As:Prop} {b:Nat} (ha:pM act key m As b):∀{h f a:Nat} {t:T} {lo:Bytes} {hi:Option Bytes} {n:Nd} {l:bg} {ps:List Nat},h<f->t.p.st.length<=4096 ->
  t.p.read a=some ((dP n).toNat,bb n)->aw n<=492->n.keys≠[]->aB t.p.read h lo hi n l ps->xp lo hi key=true->(As->∃p∈l,p.1=key) ->
  xf t (cV act key f a t) (b+2*h) fun q t' pn on=>∃dk,iP t'.p.read h lo hi q (Ao key m l) dk/\(dk++on).Perm (a::ps++pn)
 |0,f,a,t,lo,hi,n,l,ps,hf,hN,hr,hs,hk,hn,Nx,hm=>by
  obtain ⟨f,rfl⟩:∃g,f=g+1:=⟨f-1,by omega⟩
  unfold cV
  refine (pQ t hr (hn.right hk) hs).bind (b2:=b) (fun n' t' pn on ht hp => ?_) (by omega)
  obtain ⟨rfl,rfl,rfl,hp⟩:=hp
  have h1:n'.leaf=true:=hn.1
  simp only[h1,if_true]
  rw[<-hp]at hn hN
  refine (ha t' n' lo hi l ps hN hn Nx hs hm).bind (b2:=0) (fun n2 t2 pn on yo aT => ?_) (by omega)
  obtain ⟨dk,x1,x2,x3⟩:=aT
  refine .ok ⟨dk,xy x1 (by omega),dU fun z => ?_⟩
  have:=dI x2 z
  simp only[fm,eY,fO]at this ⊢;omega
 |h+1,f,a,t,lo,hi,n,l,ps,hf,hN,hr,hs,hk,hn,Nx,hm=>by
  obtain ⟨f,rfl⟩:∃g,f=g+1:=⟨f-1,by omega⟩
  unfold cV
  have Qy:=hn.right hk
  refine (pQ t hr Qy hs).bind (b2:=b+2*(h+1)) (fun n' t' pn on ht hp => ?_) (by omega)
  obtain ⟨rfl,rfl,rfl,hp⟩:=hp
  have h1:n'.leaf=false:=hn.1
  rw[<-hp]at hn hN
  obtain ⟨a1,a2,a3,a4,a5⟩:=aB.succ.1 hn
  have eo:=oE Qy a1
  obtain ⟨az,a',b',c,cs1,sj,ks1,tE,l1,l',l2,p1,p',p2,e1,e2,e3,g1,g2,g3,rfl,rfl,na,oy,Dy⟩:=HT (fB t'.p.read h) a5 Nx
  have e4:n'.kids[eE n'.keys key]?=some c:=by rw[e2,<-e3];simp
  simp only[h1,zK,if_false,e4]
  obtain ⟨k,q,r1,r2,r3,r4,r5,rfl⟩:=g2
  refine (yQ ha (h:=h) (f:=f) (by omega) hN r1 r3 r4 r5 na (fun e=>MG oy Dy (hm e))).bind (b2:=2) (fun q2 t2 pn on yo aT => ?_) (by omega)
  obtain ⟨dk,x1,x2⟩:=aT
  rw[<-e3]
  refine (P8 (t:=t2) (c:=c) (by rw[yo.p.len];exact hN) e1 e2 hk a3 a4 (by omega) (g1.grow yo.p.grow) (g3.grow yo.p.grow) ?_ x1).imp ?_ (by omega)
  ·rintro b' rfl
   exact ry (fB t'.p.read h) ⟨k,q,r1,r2,r3,r4,r5,rfl⟩
  ·rintro q3 t3 pn3 on3 _ ⟨ps3,y1,y2⟩
   refine ⟨ps3,by rw[Q4 oy Dy];exact y1,dU fun z => ?_⟩
   have u1:=dI x2 z
   have u2:=dI y2 z
   simp only[fm,eY,fO]at u1 u2 ⊢;omega
end Go.Bt
namespace Go.Bt
open Go.Ai
def dM (rd:fE):Nat->Nat->bg->List Nat->Prop
 |0,root,l,ps=>root=0/\l=[]/\ps=[]
 |h+1,root,l,ps=>∃n dk,2<=root/\root<4096/\rd root=some ((dP n).toNat,bb n)/\aw n<=492/\n.keys≠[]/\aB rd h [] none n l dk/\ps=root::dk
theorem dM.move {rd mi:fE} {d root l ps} (k:dM rd d root l ps) (e:∀m∈ps,mi m=rd m):dM mi d root l ps:=by
 cases d with
 |zero=>exact k
 |succ h =>
  obtain ⟨n,dk,h1,h2,h3,h4,h5,h6,rfl⟩:=k
  exact ⟨n,dk,h1,h2,by rw[e root (by simp)];exact h3,h4,h5,h6.move (fun m hm=>e m (by simp[hm])),rfl⟩
theorem Gy {rd:fE} {lo hi}:aB rd 0 lo hi ⟨true,[],[],[]⟩ [] []:=⟨rfl,rfl,by simp,[],[],⟨rfl,rfl,fun i h=>by simp at h⟩,rfl,rfl⟩
theorem size_empty:aw ⟨true,[],[],[]⟩=2:=rfl
theorem Ii {t:T} {h:Nat} {n:Nd} {l:bg} {ps:List Nat} {b:Nat} (hb:1<=b) (hN:t.p.st.length<=4096) (hn:aB t.p.read h [] none n l ps) (hk:n.keys≠[]) (hs:aw n<=492) :
  xf t (aV t n) b fun r t' pn on=>on=[]/\∃d dk,dM t'.p.read d r l dk/\dk.Perm (ps++pn) :=
 (hJ t (hn.right hk) hs).imp (fun a t' pn on ht hp=>by
  obtain ⟨rfl,rfl,r1,r2,r3⟩:=hp
  exact ⟨rfl,h+1,a::ps,⟨n,ps,r2,by omega,r1,hs,hk,hn.grow ht.p.grow,rfl⟩,dU fun z=>by simp only[fm,eY,fO];omega⟩) hb
theorem EQ {t:T} {h:Nat} {l:bg} {ps:List Nat} {q:dz} (hN:t.p.st.length<=4096) (hq:iP t.p.read h [] none q l ps) :
  xf t (dG t q) 3 fun r t' pn on=>on=[]/\∃d dk,dM t'.p.read d r l dk/\dk.Perm (ps++pn):=by
 cases q with
 |one n =>
  obtain ⟨hn,hs⟩:=hq
  simp only[dG]
  split
  ·rename_i he
   obtain ⟨h1,h2⟩:=he
   cases h with
   |zero =>
    obtain ⟨a1,a2,a3,vs,gX,a4,rfl,rfl⟩:=hn
    have e1:n.items=[]:=zg.1 (by rw[((aY.of a2).leaf a1).1,h2];rfl)
    have e2:gX=[]:=zg.1 (by rw[a4.2.1,e1];rfl)
    exact .ok ⟨rfl,0,[],⟨rfl,by simp[h2],rfl⟩,by simp[e2]⟩
   |succ h=>rw[(aB.succ.1 hn).1]at h1;cases h1
  ·rename_i he
   split
   ·rename_i h1
    cases h with
    |zero =>
     have:=((aY.of hn.2.1).leaf hn.1).2.1
     rw[this]at h1;simp at h1
    |succ h =>
     obtain ⟨a1,a2,a3,a4,a5⟩:=aB.succ.1 hn
     have hl:=a5.len
     generalize Nw:n.keys=ks at a5 hl
     generalize AF:n.kids=cs at a5 hl h1 a4 ⊢
     cases a5 with
     |one g =>
      rename_i c
      obtain ⟨k,q,r1,r2,r3,r4,r5,rfl⟩:=g
      obtain ⟨c',e,u1,u2⟩:=fW (a4 c (by simp))
      refine .ok ⟨rfl,h+1,_,⟨k,q,?_,?_,r1,r3,r4,r5,rfl⟩,by simp⟩
      ·simp[e];omega
      ·simp[e];omega
     |cons g _=>simp at h1;subst h1;simp at hl
   ·rename_i h1
    refine Ii (by omega) hN hn ?_ hs
    intro e
    cases h with
    |zero=>exact he ⟨hn.1,e⟩
    |succ h=>have:=(aB.succ.1 hn).2.2.2.2.len;rw[e]at this;exact h1 this
 |two a k b =>
  obtain ⟨la,lb,pa,pb,x1,y1,rfl,rfl,xs1,Zi,ys1,Zh,xk,yk,kk⟩:=hq
  simp only[dG]
  refine (hJ t (dO (by omega)) Zi).bind (b2:=2) (fun c t' pn on ht hp => ?_) (by omega)
  obtain ⟨rfl,rfl,r1,r2,r3⟩:=hp
  refine (hJ t' (dO (by omega)) Zh).bind (b2:=1) (fun d AS pn on Qw hp => ?_) (by omega)
  obtain ⟨rfl,rfl,s1,s2,s3⟩:=hp
  rw[ht.p.len]at s3
  have g:=ht.p.grow.trans Qw.p.grow
  have G3:fF AS.p.read (aB AS.p.read h) [] (some k) (c:Int).toNat la (c::pa):=⟨a,pa,Qw.p.grow _ _ r1,xs1,Zi,xk,x1.grow g,rfl⟩
  have Wp:fF AS.p.read (aB AS.p.read h) k none (d:Int).toNat lb (d::pb):=⟨b,pb,s1,ys1,Zh,yk,y1.grow g,rfl⟩
  have hn:aB AS.p.read (h+1) [] none ⟨false,[k],[],[(c:Int),(d:Int)]⟩ (la++lb) ((c::pa)++(d::pb)):=by
   refine aB.succ.2 ⟨rfl,rfl,by simpa using kk,fun z hz => ?_,.cons G3 (.one Wp)⟩
   simp only[zH,wO,or_false]at hz
   rcases hz with rfl|rfl
   ·simp[jZ];omega
   ·simp[jZ];omega
  have eo:=oE (hn.right (by simp)) rfl
  refine (Ii (t:=AS) (b:=1) (by omega) (by rw[Qw.p.len,ht.p.len];exact hN) hn (by simp) (by rw[eo];simp[Ij];omega)).imp (fun r t3 pn on ht3 hp => ?_) (by omega)
  obtain ⟨rfl,d',dk,z1,z2⟩:=hp
  refine ⟨rfl,d',dk,z1,dU fun z => ?_⟩
  have:=dI z2 z
  simp only[fm,eY,fO]at this ⊢;omega
theorem Cz (k:Bytes):xp [] none k=true:=by
 have:al k []=false:=by cases k<;>rfl
 simp[xp,this]
theorem Q5 {act:T->Nd->R Nd} {key:Bytes} {m:bg} {As:Prop} {b:Nat} (ha:pM act key m As b) {d root:Nat} {t:T} {l:bg} {ps:List Nat} (hd:d<=12) (hN:t.p.st.length<=4096) (hr:dM t.p.read d root l ps) (hm:As->∃p∈l,p.1=key) :
  xf t (rP act key root t) (b+2*d+3) fun r t' pn on=>∃d' dk,dM t'.p.read d' r (Ao key m l) dk/\(dk++on).Perm (ps++pn):=by
 unfold rP
 cases d with
 |zero =>
  obtain ⟨rfl,rfl,rfl⟩:=hr
  simp only[if_true]
  refine (ha t _ [] none [] [] hN Gy (Cz key) (by rw[size_empty];omega) hm).bind (b2:=3) (fun n t' pn on ht hp => ?_) (by omega)
  obtain ⟨dk,x1,x2,x3⟩:=hp
  rw[size_empty]at x3
  refine (EQ (t:=t') (h:=0) (by rw[ht.p.len];exact hN) (show iP t'.p.read 0 [] none (.one n) _ _ from ⟨x1,by omega⟩)).imp (fun r t2 U5 on2 yo aT => ?_) (by omega)
  obtain ⟨rfl,d',U4,y1,y2⟩:=aT
  refine ⟨d',U4,y1,dU fun z => ?_⟩
  have u1:=dI x2 z
  have u2:=dI y2 z
  simp only[fm,eY,fO]at u1 u2 ⊢;omega
 |succ h =>
  obtain ⟨n,dk,h1,h2,h3,h4,h5,h6,rfl⟩:=hr
  rw[if_neg (by omega)]
  refine (yQ ha (h:=h) (f:=12) (by omega) hN h3 h4 h5 h6 (Cz key) hm).bind (b2:=3) (fun q t' pn on ht hp => ?_) (by omega)
  obtain ⟨ps1,x1,x2⟩:=hp
  refine (EQ (t:=t') (by rw[ht.p.len];exact hN) x1).imp (fun r t2 U5 on2 yo aT => ?_) (by omega)
  obtain ⟨rfl,d',U4,y1,y2⟩:=aT
  refine ⟨d',U4,y1,dU fun z => ?_⟩
  have u1:=dI x2 z
  have u2:=dI y2 z
  simp only[fm,eY,fO]at u1 u2 ⊢;omega
end Go.Bt
namespace Go.Bt
open Go.Ai
def rO (keys:List Bytes) (key:Bytes):Nat:=below keys key+if key∈keys then 1 else 0
theorem JZ {keys:List Bytes} (hr:kK keys) (k:Bytes):rO keys k<=keys.length/\(∀j (hj:j<keys.length),j<rO keys k->al k keys[j]=false)/\∀j (hj:j<keys.length),rO keys k<=j->al k keys[j]=true:=nB hr k
theorem Ie {keys vs:List Bytes} (hr:kK keys) (key:Bytes):(keys.zip vs).filter (fun p=>al p.1 key)=(keys.take (below keys key)).zip (vs.take (below keys key)):=by
 obtain ⟨h1,h2,h3⟩:=fo hr key
 rw[xl keys vs (below keys key),wU]
 have e1:((keys.take (below keys key)).zip (vs.take (below keys key))).filter (fun p=>al p.1 key)=(keys.take (below keys key)).zip (vs.take (below keys key)):=by
  refine wX.2 fun p hp => ?_
  obtain ⟨j,hj,e⟩:=zY (qK hp).1
  rw[<-e,wx]
  exact h2 j (by simp at hj;omega) (by simp at hj;omega)
 have e2:((keys.drop (below keys key)).zip (vs.drop (below keys key))).filter (fun p=>al p.1 key)=[]:=by
  refine wC.2 fun p hp => ?_
  obtain ⟨j,hj,e⟩:=zY (qK hp).1
  rw[<-e,wy,h3 _ (by simp at hj;omega) (by omega)]
  simp
 rw[e1,e2,zT]
theorem Ig {keys vs:List Bytes} (hr:kK keys) (key:Bytes):(keys.zip vs).filter (fun p=>al key p.1)=(keys.drop (rO keys key)).zip (vs.drop (rO keys key)):=by
 obtain ⟨h1,h2,h3⟩:=JZ hr key
 rw[xl keys vs (rO keys key),wU]
 have e1:((keys.take (rO keys key)).zip (vs.take (rO keys key))).filter (fun p=>al key p.1)=[]:=by
  refine wC.2 fun p hp => ?_
  obtain ⟨j,hj,e⟩:=zY (qK hp).1
  rw[<-e,wx,h2 j (by simp at hj;omega) (by simp at hj;omega)]
  simp
 have e2:((keys.drop (rO keys key)).zip (vs.drop (rO keys key))).filter (fun p=>al key p.1)=(keys.drop (rO keys key)).zip (vs.drop (rO keys key)):=by
  refine wX.2 fun p hp => ?_
  obtain ⟨j,hj,e⟩:=zY (qK hp).1
  rw[<-e,wy]
  exact h3 _ (by simp at hj;omega) (by omega)
 rw[e1,e2,zh]
theorem dN {n:Nd} (hr:ax n=true):kK n.keys:=(iv.1 (by simp only[ax,zM]at hr;exact hr.1)).1
theorem Im {rd:fE} {lo hi n l ps} {key v:Bytes} {x:bD} {qs:List Nat} (hn:aB rd 0 lo hi n l ps) (hk:key∉n.keys) (hl:key.length<=60) (hb:xp lo hi key=true) (hx:jd x=true) (hv:lW rd x v qs)
  (hw:(if 0<x.p then 9 else 1+x.v.length)<=61) :
  ∃dk,aB rd 0 lo hi (oX n (below n.keys key) key x) (Ao key [(key,v)] l) dk/\dk.Perm (ps++qs)/\aw (oX n (below n.keys key) key x)<=aw n+122:=by
 obtain ⟨h1,h2,h3,vs,gX,h4,rfl,rfl⟩:=hn
 have eF:=dN h2
 obtain ⟨b1,b2,b3⟩:=(aY.of h2).leaf h1
 have QL:=(fo eF key).1
 have hut:rO n.keys key=below n.keys key:=by simp[rO,hk]
 have yv:ax (oX n (below n.keys key) key x)=true:=by
  show ax ⟨true,fX n.keys (below n.keys key) key,fX n.items (below n.keys key) x,[]⟩=true
  simp only[ax,zM]
  constructor
  ·refine iv.2 ⟨M8 eF hk,fun j hj => ?_⟩
   have hm:(fX n.keys (below n.keys key) key)[j]∈fX n.keys (below n.keys key) key:=zP hj
   have:(fX n.keys (below n.keys key) key)[j]=key\/(fX n.keys (below n.keys key) key)[j]∈n.keys:=by
    simp only[fX,zJ,zH]at hm
    rcases hm with hm|hm|hm
    ·exact .inr (zw hm)
    ·exact .inl hm
    ·exact .inr (zx hm)
   show (fX n.keys (below n.keys key) key)[j].length<=60
   rcases this with h|h
   ·rw[h];exact hl
   ·obtain ⟨q,hq,e⟩:=zY h
    rw[<-e];exact (aY.of h2).yi q hq
  ·simp only[iL,if_true,zM,decide_eq_true_eq]
   refine ⟨⟨by rw[oY QL,oY (by omega),b1],rfl⟩,?_⟩
   rw[zQ]
   intro y hy
   simp only[fX,zJ,zH]at hy
   rcases hy with hy|hy|hy
   ·exact b3 y (zw hy)
   ·subst hy;exact hx
   ·exact b3 y (zx hy)
 obtain ⟨v1,v2⟩:=h4.cut (below n.keys key)
 have cS:fp rd [x] [v] [qs]:=⟨rfl,rfl,fun i a b c=>by
  have:i=0:=by simpa using a
  subst this;exact hv⟩
 have VO:=v1.xC (cS.xC v2)
 refine ⟨_,⟨rfl,yv,fun k jf => ?_,vs.take (below n.keys key)++([v]++vs.drop (below n.keys key)),gX.take (below n.keys key)++([qs]++gX.drop (below n.keys key)),VO,?_,rfl⟩,?_,?_⟩
 ·simp only[oX,fX,zJ,zH]at jf
  rcases jf with jf|jf|jf
  ·exact h3 k (zw jf)
  ·rw[jf];exact hb
  ·exact h3 k (zx jf)
 ·rw[Ao,Ie eF,Ig eF,hut]
  simp only[oX,fX]
  rw[qS (by simp;have:=h4.1;omega),zF]
  rfl
 ·refine dU fun z => ?_
  rw[yM gX (below n.keys key)]
  simp only[qB,wg,List.flatten_nil,fm,fO];omega
 ·have hz:=oY (a:=key) QL
  have VH:=oY (l:=n.items) (i:=below n.keys key) (a:=x) (by omega)
  rw[size_leaf yv rfl (by simp only[oX];omega),size_leaf h2 h1 b1]
  simp only[oX]
  rw[L3 b1.symm]
  have hs:((n.keys.zip n.items).map SZ).sum=(((n.keys.zip n.items).take (below n.keys key)).map SZ).sum+(((n.keys.zip n.items).drop (below n.keys key)).map SZ).sum:=by
   rw[<-wV,<-zf,zy]
  have hwt:SZ (key,x)<=122:=by simp only[SZ];split at hw<;>split<;>omega
  rw[hs,fX]
  simp only[zf,wV,wI,jB]
  omega
theorem IK {rd:fE} {lo hi n l ps} {key:Bytes} (hn:aB rd 0 lo hi n l ps) (hk:key∈n.keys) :
  ∃y v qs dk,n.items[below n.keys key]?=some y/\lW rd y v qs/\aB rd 0 lo hi (j8 n (below n.keys key)) (Ao key [] l) dk/\(dk++qs).Perm ps/\aw (j8 n (below n.keys key))<=aw n/\key∉(j8 n (below n.keys key)).keys/\below (j8 n (below n.keys key)).keys key=below n.keys key:=by
 obtain ⟨h1,h2,h3,vs,gX,h4,rfl,rfl⟩:=hn
 have eF:=dN h2
 obtain ⟨b1,b2,b3⟩:=(aY.of h2).leaf h1
 obtain ⟨s1,s2,s3⟩:=fo eF key
 obtain ⟨az,he⟩:=zB.1 ((kO eF key).1 hk)
 have hut:rO n.keys key=below n.keys key+1:=by simp[rO,hk]
 have uD:=h4.1
 have Ag:=h4.2.1
 have ot:(fK n.keys (below n.keys key)).Sublist n.keys:=by
  have:n.keys=n.keys.take (below n.keys key)++n.keys.drop (below n.keys key):=(zy _ _).symm
  conv=>rhs;rw[this]
  exact List.Sublist.append (List.Sublist.refl _) (List.drop_sublist_drop_left _ (by omega))
 have GV:kK (fK n.keys (below n.keys key)):=kw.2 ((kw.1 eF).sublist ot)
 have yv:ax (j8 n (below n.keys key))=true:=by
  show ax ⟨true,fK n.keys (below n.keys key),fK n.items (below n.keys key),[]⟩=true
  simp only[ax,zM]
  constructor
  ·refine iv.2 ⟨GV,fun j hj => ?_⟩
   obtain ⟨q,hq,e⟩:=zY (ot.subset (zP hj))
   show (fK n.keys (below n.keys key))[j].length<=60
   rw[<-e];exact (aY.of h2).yi q hq
  ·simp only[iL,if_true,zM,decide_eq_true_eq]
   refine ⟨⟨by simp[fK];omega,rfl⟩,?_⟩
   rw[zQ]
   intro y hy
   simp only[fK,zJ]at hy
   rcases hy with hy|hy
   ·exact b3 y (zw hy)
   ·exact b3 y (zx hy)
 obtain ⟨v1,_⟩:=h4.cut (below n.keys key)
 obtain ⟨_,v2⟩:=h4.cut (below n.keys key+1)
 have hnk:key∉fK n.keys (below n.keys key):=by
  intro hm
  simp only[fK,zJ]at hm
  rcases hm with hm|hm
  ·obtain ⟨j,hj,e⟩:=zY hm
   rw[wx]at e
   have:=s2 j (by simp at hj;omega) (by simp at hj;omega)
   rw[e,bj]at this;cases this
  ·obtain ⟨j,hj,e⟩:=zY hm
   rw[wy]at e
   have:=eF (below n.keys key) (below n.keys key+1+j) (by simp at hj;omega) (by omega)
   rw[he,e,bj]at this;cases this
 refine ⟨n.items[below n.keys key]'(by omega),vs[below n.keys key]'(by omega),gX[below n.keys key]'(by omega),_,zA (by omega),h4.2.2 _ (by omega) (by omega) (by omega),
  ⟨rfl,yv,fun k jf=>h3 k (ot.subset jf),_,_,v1.xC v2,?_,rfl⟩,?_,?_,hnk,?_⟩
 ·rw[Ao,Ie eF,Ig eF,hut]
  simp only[j8,fK]
  rw[qS (by simp;omega),zT]
 ·refine dU fun z => ?_
  rw[yM gX (below n.keys key),zN (show below n.keys key<gX.length by omega)]
  simp only[qB,wg,fm];omega
 ·rw[size_leaf yv rfl (by simp[j8,fK];omega),size_leaf h2 h1 b1]
  simp only[j8,fK]
  rw[qS (by simp;omega),xl n.keys n.items (below n.keys key),zN az,zN (show below n.keys key<n.items.length by omega)]
  simp only[zf,wV,qn,wI,jB]
  omega
 ·show below (fK n.keys (below n.keys key)) key=_
  refine yY (by simp[fK];omega) (fun j hj h => ?_) (fun j hj h => ?_)
  ·simp only[fK]
   rw[wo (by simp;omega),wx]
   exact s2 j (by simp[fK]at hj;omega) h
  ·simp only[fK]
   rw[wj (by simp;omega),wy]
   simp only[wD]
   simp only[fK,zG,wD,wN]at hj
   exact s3 _ (by omega) (by omega)
theorem Q3 {key:Bytes} {m l:bg}:Ao key m (Ao key [] l)=Ao key m l:=by
 have e:∀x y z:Bytes,al x y=true->al y x=false:=fun x y _ h=>jU h
 simp only[Ao,wU,List.filter_filter,zT]
 have f1:(l.filter fun a=>al a.1 key&&al key a.1)=[]:=wC.2 fun p _=>by
  cases h:al p.1 key
  ·simp
  ·simp[jU h]
 have f2:(l.filter fun a=>al key a.1&&al a.1 key)=[]:=wC.2 fun p _=>by
  cases h:al p.1 key
  ·simp
  ·simp[jU h]
 simp only[f1,f2,Bool.and_self,zT,zh]
theorem Rd {key value:Bytes} (h1:key.length<=60) (h2:value.length<=60000):pM (D5 key value) key [(key,value)] False (Cj value):=by
 intro t n lo hi l ps hN hn hb hs _
 unfold D5
 refine (Cv t h2 hN).bind (b2:=0) (fun x t' pn on ht hp => ?_) (by omega)
 obtain ⟨rfl,x1,x2,qs,x3,x4⟩:=hp
 have TG:=hn.grow ht.p.grow
 split
 ·rename_i hk
  obtain ⟨y,v,qy,ps1,y1,y2,y3,y4,y5,y6,y7⟩:=IK TG hk
  rw[y1]
  refine (Ea t' y2).bind (b2:=0) (fun _ t2 U5 on2 yo aT => ?_) (by omega)
  obtain ⟨rfl,rfl⟩:=aT
  obtain ⟨U4,z1,z2,z3⟩:=Im y3 y6 h1 hb x1 x3 x2
  rw[y7]at z1 z3
  refine .ok ⟨U4,by rw[<-Q3];exact z1.grow yo.p.grow,dU fun z => ?_,by omega⟩
  have u1:=dI x4 z
  have u2:=dI y4 z
  have u3:=dI z2 z
  simp only[fm,eY,fO]at u1 u2 u3 ⊢;omega
 ·rename_i hk
  obtain ⟨U4,z1,z2,z3⟩:=Im TG hk h1 hb x1 x3 x2
  refine .ok ⟨U4,z1,dU fun z => ?_,by omega⟩
  have u1:=dI x4 z
  have u3:=dI z2 z
  simp only[fm,eY,fO]at u1 u3 ⊢;omega
theorem Sv {key:Bytes}:pM (sS key) key [] True 0:=by
 intro t n lo hi l ps hN hn hb hs hm
 have hk:key∈n.keys:=by
  obtain ⟨p,hp,e⟩:=hm trivial
  obtain ⟨_,_,_,vs,gX,_,rfl,_⟩:=hn
  rw[<-e];exact (qK hp).1
 unfold sS
 obtain ⟨y,v,qy,ps1,y1,y2,y3,y4,y5,y6,y7⟩:=IK hn hk
 rw[y1]
 refine (Ea t y2).bind (b2:=0) (fun _ t2 U5 on2 yo aT => ?_) (by omega)
 obtain ⟨rfl,rfl⟩:=aT
 refine .ok ⟨ps1,y3.grow yo.p.grow,dU fun z => ?_,by omega⟩
 have u2:=dI y4 z
 simp only[fm,eY,fO]at u2 ⊢;omega
end Go.Bt
namespace Go.Bt
open Go.Ai
theorem x6:∀{a b:List Nat},a.Nodup->(∀x∈a,x∈b)->a.length<=b.length
 |[],b,_,_=>by simp
 |x::a,b,h,hs=>by
  rw[zp]at h
  have hx:x∈b:=hs x (by simp)
  have:=x6 (a:=a) (b:=b.erase x) h.2 fun y hy=>by
   have bt:y≠x:=fun e=>h.1 (e▸hy)
   exact (List.mem_erase_of_ne bt).2 (hs y (by simp[hy]))
  rw[List.length_erase_of_mem hx]at this
  have:=List.length_pos_of_mem hx
  simp;omega
def sn (p:PM) (m:Nat):Prop:=p.is m=0\/p.is m=2
structure Step (p p':PM):Prop where
 gen:p'.gen=p.gen
 pins:p'.pins=p.pins
 len:p'.st.length=p.st.length
 at':∀m,(p'.st.getD m (0,0)=p.st.getD m (0,0)/\p'.rd m=p.rd m)\/(sn p m/\sn p' m)\/(p.is m=1/\p'.is m=3/\p'.rd m=p.rd m)
theorem Step.refl (p:PM):Step p p:=⟨rfl,rfl,rfl,fun _=>.inl ⟨rfl,rfl⟩⟩
theorem ia {p p':PM} {m:Nat} (h:p'.st.getD m (0,0)=p.st.getD m (0,0)):p'.is m=p.is m:=by simp only[PM.is,h]
theorem Step.trans {a b c:PM} (h:Step a b) (k:Step b c):Step a c:=by
 refine ⟨k.gen.trans h.gen,k.pins.trans h.pins,k.len.trans h.len,fun m => ?_⟩
 rcases h.at' m with ⟨h1,h2⟩|⟨h1,h2⟩|⟨h1,h2,h3⟩<;>rcases k.at' m with ⟨k1,k2⟩|⟨k1,k2⟩|⟨k1,k2,k3⟩
 ·exact .inl ⟨k1.trans h1,k2.trans h2⟩
 ·exact .inr (.inl ⟨by simpa only[sn,ia h1] using k1,k2⟩)
 ·exact .inr (.inr ⟨by rw[<-ia h1];exact k1,k2,k3.trans h2⟩)
 ·exact .inr (.inl ⟨h1,by simpa only[sn,ia k1] using h2⟩)
 ·exact .inr (.inl ⟨h1,k2⟩)
 ·simp only[sn]at h2;omega
 ·exact .inr (.inr ⟨h1,by rw[ia k1];exact h2,k2.trans h3⟩)
 ·simp only[sn]at k1;omega
 ·omega
theorem Step.read {p p':PM} (h:Step p p') {m:Nat} (h0:p.is m≠0) (h2:p.is m≠2):p'.read m=p.read m:=by
 have hh:=has_eq h.len m
 rcases h.at' m with ⟨a,b⟩|⟨a,b⟩|⟨a,b,c⟩
 ·simp only[PM.read,hh,ia a,b]
 ·simp only[sn]at a;omega
 ·simp only[PM.read,hh,a,b,c];simp
def Own (p:PM) (ps:List Nat):Prop:=ps.Nodup/\∀m,m∈ps↔p.has m=true/\(p.is m=1\/p.is m=2)
def Com (p:PM) (ps:List Nat):Prop:=ps.Nodup/\∀m,m∈ps↔p.has m=true/\(p.is m=1\/p.is m=3)
theorem Step.com {p p':PM} (h:Step p p') {ps:List Nat} (k:Com p ps):Com p' ps:=by
 refine ⟨k.1,fun m=>(k.2 m).trans ?_⟩
 rw[has_eq h.len]
 have:(p.is m=1\/p.is m=3)↔(p'.is m=1\/p'.is m=3):=by
  rcases h.at' m with ⟨a,b⟩|⟨a,b⟩|⟨a,b,c⟩
  ·rw[ia a]
  ·simp only[sn]at a b;omega
  ·omega
 rw[this]
structure acN (p p':PM) (l:List Nat):Prop where
 rd:p'.rd=p.rd
 gen:p'.gen=p.gen
 pins:p'.pins=p.pins
 len:p'.st.length=p.st.length
 ah:∀m,m∉l->p'.st.getD m (0,0)=p.st.getD m (0,0)
 drop:∀m∈l,(p.is m=2->p'.is m=0)/\(p.is m=1->p'.is m=3)
theorem sR:∀(l:List Nat) (p:PM),l.Nodup->(∀m∈l,p.has m=true/\(p.is m=1\/p.is m=2))->∃p',gM p l=(p',0)/\lR p l=p'/\acN p p' l
 |[],p,_,_=>⟨p,rfl,rfl,rfl,rfl,rfl,rfl,fun _ _=>rfl,by simp⟩
 |n::l,p,hd,hl=>by
  rw[zp]at hd
  obtain ⟨h1,h2⟩:=hl n (by simp)
  cases hp:p.drop n with
  |none =>
   exfalso
   unfold PM.drop at hp
   rw[if_pos h1]at hp
   split at hp
   ·cases hp
   ·rename_i g
    rw[if_pos (by omega)]at hp;cases hp
  |some p1 =>
   obtain ⟨a1,a2,a3,a4,a5,a6,a7⟩:=PM.rF hp
   have hk:∀m,m≠n->p1.is m=p.is m:=fun m hm=>ia (a7 m hm)
   obtain ⟨p',e1,e2,e3⟩:=sR l p1 hd.2 fun m hm=>by
    have bt:m≠n:=fun e=>hd.1 (e▸hm)
    rw[has_eq a6,hk m bt];exact hl m (by simp[hm])
   refine ⟨p',by simp only[gM,hp];exact e1,by simp only[lR,hp,wJ];exact e2,e3.rd.trans a3,e3.gen.trans a4,e3.pins.trans a5,e3.len.trans a6,fun m hm => ?_,fun m hm => ?_⟩
   ·simp only[zH,not_or]at hm
    rw[e3.ah m hm.2,a7 m hm.1]
   ·by_cases ox:m=n
    ·subst ox
     have:p'.is m=p1.is m:=ia (e3.ah m hd.1)
     rw[this]
     rcases a2 with ⟨b1,b2⟩|⟨b1,b2⟩
     ·exact ⟨fun _=>by simp only[PM.is,b2],fun e=>by omega⟩
     ·exact ⟨fun e=>by omega,fun _=>b2⟩
    ·have rq:m∈l:=by simpa [ox] using hm
     rw[<-hk m ox];exact e3.drop m rq
theorem Sg {p:PM} {l:List Nat} (h:∀m,p.has m=true->p.is m=0->m∈l):p.free<=l.length:=by
 unfold PM.free
 refine x6 (List.Nodup.sublist List.filter_sublist List.nodup_range) fun m hm => ?_
 simp only[List.mem_filter,wL,zM,decide_eq_true_eq]at hm
 exact h m (by simp[PM.has,hm.1,hm.2.1]) hm.2.2
theorem Sh {p p':PM} (hl:p'.st.length=p.st.length) (h:∀m,p'.is m=p.is m):p'.free=p.free:=by
 unfold PM.free
 rw[hl]
 congr 1
 exact List.filter_congr fun m _=>by rw[h]
theorem E6 {act:T->Nd->R Nd} {key:Bytes} {m:bg} {As:Prop} {b:Nat} (ha:pM act key m As b) {d root:Nat} {p:PM} {l:bg} {ps:List Nat} (hd:d<=12) (hN:p.st.length<=4096) (hr:dM p.read d root l ps) (ho:Own p ps) (hm:As->∃q∈l,q.1=key) :
  (∃p' r d' dk,jg act key root p=(0,p',r)/\dM p'.read d' r (Ao key m l) dk/\Own p' dk/\Step p p') \/
  (∃p',jg act key root p=(6,p',root)/\Step p p'/\(∀m,p'.is m=p.is m)/\p'.read=p.read/\p.free+1<=b+2*d+3):=by
 have H:=Q5 ha (t:=⟨p,[],[]⟩) hd hN hr hm
 unfold jg
 obtain ⟨pn,on,h1,h2,h3⟩:=H
 generalize rP act key root ⟨p,[],[]⟩=x at h1 h3 ⊢
 obtain ⟨r,t⟩:=x
 obtain ⟨hx,lv,hold⟩:=h1
 simp only[zh]at lv hold hx
 obtain ⟨p1,put,old⟩:=t
 simp only at lv hold hx h3
 subst lv hold
 have hfp:∀m∈put,m∉ps:=fun m hm hp=>by
  have:=(hx.new m hm).2.1
  have:=((ho.2 m).1 hp).2
  omega
 cases r with
 |ok root' =>
  obtain ⟨d',dk,se,Tz⟩:=h3
  have vX:(ps++put).Nodup:=zq.2 ⟨ho.1,hx.nd,fun a ha b hb e=>hfp b hb (e▸ha)⟩
  have aaT:(dk++old).Nodup:=Tz.nodup_iff.2 vX
  rw[zq]at aaT
  obtain ⟨n1,n2,n3⟩:=aaT
  have na:∀m,m∈dk\/m∈old↔m∈ps\/m∈put:=fun m=>by
   have:=Tz.mem_iff (a:=m)
   simpa using this
  have bU:∀m,m∈ps\/m∈put->p1.has m=true/\(p1.is m=1\/p1.is m=2):=fun m hm=>by
   by_cases hp:m∈put
   ·obtain ⟨a1,a2,a3⟩:=hx.new m hp
    exact ⟨by rw[has_eq hx.len];exact a1,.inr a3⟩
   ·have rq:m∈ps:=hm.resolve_right hp
    obtain ⟨a1,a2⟩:=(ho.2 m).1 rq
    exact ⟨by rw[has_eq hx.len];exact a1,by rw[hx.is hp];exact a2⟩
  obtain ⟨p2,e1,e2,e3⟩:=sR old p1 n2 fun m hm=>bU m ((na m).1 (.inr hm))
  have hlen:p2.st.length=p.st.length:=e3.len.trans hx.len
  refine .inl ⟨p2,root',d',dk,by simp[e1],se.move fun m hm => ?_,⟨n1,fun m=>⟨fun hm => ?_,fun hm => ?_⟩⟩,⟨e3.gen.trans hx.gen,e3.pins.trans hx.pins,hlen,fun m => ?_⟩⟩
  ·have sJ:m∉old:=fun e=>n3 m hm m e rfl
   simp only[PM.read,has_eq e3.len,ia (e3.ah m sJ),e3.rd]
  ·have sJ:m∉old:=fun e=>n3 m hm m e rfl
   obtain ⟨a1,a2⟩:=bU m ((na m).1 (.inl hm))
   exact ⟨by rw[has_eq e3.len];exact a1,by rw[ia (e3.ah m sJ)];exact a2⟩
  ·obtain ⟨a1,a2⟩:=hm
   have sJ:m∉old:=fun e=>by
    have g1:=(bU m ((na m).1 (.inr e))).2
    have g2:=e3.drop m e
    rcases g1 with g1|g1
    ·have:=g2.2 g1;omega
    ·have:=g2.1 g1;omega
   rw[ia (e3.ah m sJ)]at a2
   refine ((na m).2 ?_).resolve_right sJ
   by_cases hp:m∈put
   ·exact .inr hp
   ·exact .inl ((ho.2 m).2 ⟨by rw[<-has_eq hlen];exact a1,by rw[<-hx.is hp];exact a2⟩)
  ·by_cases hp:m∈put
   ·obtain ⟨a1,a2,a3⟩:=hx.new m hp
    refine .inr (.inl ⟨.inl a2,?_⟩)
    by_cases RU:m∈old
    ·exact .inl ((e3.drop m RU).1 a3)
    ·exact .inr (by rw[ia (e3.ah m RU)];exact a3)
   ·obtain ⟨s1,s2⟩:=hx.same m hp
    by_cases RU:m∈old
    ·have g1:=(bU m ((na m).1 (.inr RU))).2
     have g2:=e3.drop m RU
     rcases g1 with g1|g1
     ·exact .inr (.inr ⟨by rw[<-ia s1];exact g1,g2.2 g1,by rw[e3.rd];exact s2⟩)
     ·exact .inr (.inl ⟨.inr (by rw[<-ia s1];exact g1),.inl (g2.1 g1)⟩)
    ·exact .inl ⟨(e3.ah m RU).trans s1,by rw[e3.rd];exact s2⟩
 |error e =>
  obtain ⟨rfl,aa5,az⟩:=h3
  obtain ⟨p2,e1,e2,e3⟩:=sR put p1 hx.nd fun m hm=>⟨by rw[has_eq hx.len];exact (hx.new m hm).1,.inr (hx.new m hm).2.2⟩
  have hlen:p2.st.length=p.st.length:=e3.len.trans hx.len
  have QE:∀m,p2.is m=p.is m:=fun m=>by
   by_cases hp:m∈put
   ·rw[(e3.drop m hp).1 (hx.new m hp).2.2,(hx.new m hp).2.1]
   ·rw[ia (e3.ah m hp),hx.is hp]
  refine .inr ⟨p2,by simp[e2],⟨e3.gen.trans hx.gen,e3.pins.trans hx.pins,hlen,fun m => ?_⟩,QE,funext fun m => ?_,?_⟩
  ·by_cases hp:m∈put
   ·have:=(hx.new m hp).2.1
    exact .inr (.inl ⟨.inl this,.inl (by rw[QE];exact this)⟩)
   ·obtain ⟨s1,s2⟩:=hx.same m hp
    exact .inl ⟨(e3.ah m hp).trans s1,by rw[e3.rd];exact s2⟩
  ·by_cases hp:m∈put
   ·have:=(hx.new m hp).2.1
    simp[PM.read,QE,this]
   ·simp only[PM.read,has_eq hlen,QE,e3.rd,(hx.same m hp).2]
  ·refine wH (Nat.succ_le_succ (Sg (l:=put) fun m hm h0 => ?_)) az
   by_cases hp:m∈put
   ·exact hp
   ·exact absurd (by rw[hx.is hp];exact h0) (aa5 m (by rw[has_eq hx.len];exact hm))
theorem og.many {P:fb} {w:Nat} {lo hi ks cs l ps} (h:og P lo hi ks cs l ps) (e:∀lo hi c l' dk,P lo hi c l' dk->w<=dk.length):cs.length*w<=ps.length:=by
 induction h with
 |one h=>simpa using e _ _ _ _ _ h
 |cons h _ ih=>have:=e _ _ _ _ _ h;simp only[zV,zG,ze];omega
theorem x7 {rd:fE}:∀{h:Nat} {lo hi n l ps},aB rd h lo hi n l ps->n.keys≠[]->2 ^ (h+1)<=ps.length+2
 |0,_,_,_,_,_,_,_=>by omega
 |h+1,lo,hi,n,l,ps,hn,hk=>by
  obtain ⟨a1,a2,a3,a4,a5⟩:=aB.succ.1 hn
  have hl:=a5.len
  have:=zt.2 hk
  have h2:=a5.many (w:=2 ^ (h+1)-1) fun lo hi c l' dk ⟨k,q,r1,r2,r3,r4,r5,e⟩=>by
   have:=x7 r5 r4
   rw[e];simp;omega
  have h3:2*(2 ^ (h+1)-1)<=n.kids.length*(2 ^ (h+1)-1):=zX _ (by omega)
  have h4:2 ^ (h+1+1)=2*2 ^ (h+1):=by rw[jI];omega
  have h5:1<=2 ^ (h+1):=Nat.one_le_two_pow
  omega
theorem kW {p:PM} {d root l ps} (hr:dM p.read d root l ps) (ho:Own p ps) (hN:p.st.length<=300):d<=8:=by
 cases d with
 |zero=>omega
 |succ h =>
  obtain ⟨n,dk,h1,h2,h3,h4,h5,h6,rfl⟩:=hr
  have:=x7 h6 h5
  have hlen:(root::dk).length<=(List.range p.st.length).length:=x6 ho.1 fun m hm=>by
   have:=((ho.2 m).1 hm).1
   simp only[PM.has,zM,decide_eq_true_eq]at this
   simpa using this.2
  simp at hlen
  have h9:¬9<=h+1:=fun e=>by
   have:2 ^ 9<=2 ^ (h+1):=wu (by omega) e
   omega
  omega
end Go.Bt
namespace Go.Bt
open Go.Ai
theorem ES {rd:fE} (hz:rd 0=none) {k:Bytes}:∀{h f a:Nat} {lo:Bytes} {hi:Option Bytes} {n:Nd} {l:bg} {ps:List Nat},h<f->rd a=some ((dP n).toNat,bb n)->aw n<=492->n.keys≠[]->aB rd h lo hi n l ps->xp lo hi k=true->iG rd k f a=some (look l k)
 |h,f,a,lo,hi,n,l,ps,hf,hr,hs,hk,hn,hb=>by
  obtain ⟨f,rfl⟩:∃g,f=g+1:=⟨f-1,by omega⟩
  obtain ⟨a,rfl⟩:∃g,a=g+1:=⟨a-1,by
   rcases qF a with e|e
   ·rw[e,hz]at hr;cases hr
   ·omega⟩
  have Qy:=hn.right hk
  simp only[iG,oT hr Qy hs]
  cases h with
  |zero =>
   obtain ⟨h1,h2,h3,vs,gX,h4,rfl,rfl⟩:=hn
   have eF:=dN h2
   have iR:=((aY.of h2).leaf h1).1
   rw[if_pos h1]
   by_cases hm:k∈n.keys
   ·have QL:=(kO eF k).1 hm
    obtain ⟨az,he⟩:=zB.1 QL
    have hx:n.items[below n.keys k]?=some (n.items[below n.keys k]'(by omega)):=zA (by omega)
    have hv:=h4.2.2 _ (show below n.keys k<n.items.length by omega) (by have:=h4.1;omega) (by have:=h4.2.1;omega)
    rw[if_pos hm,hx]
    simp only[AO hv,qP]
    rw[vh QL (fun j hj e => ?_) (by have:=h4.1;omega),zA]
    have h8:=(fo eF k).2.1 j (by omega) hj
    have h9:n.keys[j]?=some (n.keys[j]'(by omega)):=zA (by omega)
    rw[h9,zOi]at e
    rw[e,bj]at h8;cases h8
   ·rw[if_neg hm,uy fun p hp e=>hm (by rw[<-e];exact (qK hp).1)]
  |succ h =>
   obtain ⟨a1,a2,a3,a4,a5⟩:=aB.succ.1 hn
   obtain ⟨az,a',b',c,cs1,sj,ks1,tE,l1,l',l2,p1,p',p2,e1,e2,e3,g1,g2,g3,rfl,rfl,na,oy,Dy⟩:=HT (fB rd h) a5 hb
   have e4:n.kids[eE n.keys k]?=some c:=by rw[e2,<-e3];simp
   simp only[a1,zK,if_false,e4]
   obtain ⟨k',q,r1,r2,r3,r4,r5,rfl⟩:=g2
   rw[ES hz (h:=h) (f:=f) (by omega) r1 r3 r4 r5 na,Ed,Ed,uy (l:=l1) (fun p hp e => ?_),uy (l:=l2) (fun p hp e => ?_)]
   ·simp
   ·have:=Dy p hp;rw[e,bj]at this;cases this
   ·have:=oy p hp;rw[e,bj]at this;cases this
theorem Sf {rd:fE} (hz:rd 0=none) {k:Bytes} {d root l ps} (hd:d<=12) (hr:dM rd d root l ps):iG rd k 12 root=some (look l k):=by
 cases d with
 |zero=>obtain ⟨rfl,rfl,rfl⟩:=hr;simp[iG,look]
 |succ h =>
  obtain ⟨n,dk,h1,h2,h3,h4,h5,h6,rfl⟩:=hr
  exact ES hz (by omega) h3 h4 h5 h6 (Cz k)
theorem yN {rd:fE} (hz:rd 0=none):∀{h f a dd:Nat} {lo:Bytes} {hi:Option Bytes} {n:Nd} {l:bg} {ps:List Nat},h<f->rd a=some ((dP n).toNat,bb n)->aw n<=492->n.keys≠[]->aB rd h lo hi n l ps->eO rd f dd a=dd+h
 |h,f,a,dd,lo,hi,n,l,ps,hf,hr,hs,hk,hn=>by
  obtain ⟨f,rfl⟩:∃g,f=g+1:=⟨f-1,by omega⟩
  have ha:a≠0:=fun e=>by rw[e,hz]at hr;cases hr
  have Qy:=hn.right hk
  simp only[eO,oT hr Qy hs,if_neg ha]
  cases h with
  |zero=>rw[if_pos hn.1];rfl
  |succ h =>
   obtain ⟨a1,a2,a3,a4,a5⟩:=aB.succ.1 hn
   obtain ⟨b,c,cs',l1,l2,p1,p2,e1,g1,g2,rfl,rfl⟩:=AW a5
   simp only[a1,zK,if_false,e1,qj]
   obtain ⟨k',q,r1,r2,r3,r4,r5,rfl⟩:=g1
   rw[yN hz (h:=h) (f:=f) (by omega) r1 r3 r4 r5];omega
theorem Lr {rd:fE} (hz:rd 0=none) {d root l ps} (hd:d<=12) (hr:dM rd d root l ps):eO rd 12 1 root=d:=by
 cases d with
 |zero=>obtain ⟨rfl,rfl,rfl⟩:=hr;simp[eO]
 |succ h =>
  obtain ⟨n,dk,h1,h2,h3,h4,h5,h6,rfl⟩:=hr
  rw[yN hz (by omega) h3 h4 h5 h6];omega
def om (lo hi:Bytes) (aI:Nat) (out l:bg):bg:=(out++l.filter fun p=>lu lo hi p.1).take aI
theorem D2 {lo hi:Bytes} {aI:Nat} {out a b:bg}:om lo hi aI (om lo hi aI out a) b=om lo hi aI out (a++b):=by
 simp only[om,wU,<-zF]
 rw[List.take_append,List.take_append (l₁:=out++List.filter (fun p=>lu lo hi p.1) a),List.take_take,Nat.min_self,wD]
 congr 1
 congr 1
 omega
theorem Mp {lo hi:Bytes} {aI:Nat} {out a:bg}:(om lo hi aI out a).length<=aI:=by simp[om];omega
theorem A3 {lo hi:Bytes} {aI:Nat} {out a:bg} (h:out.length<=aI) (hm:aI<=out.length):om lo hi aI out a=out:=by
 simp only[om]
 rw[wK hm,zI h]
theorem pY {lo hi:Bytes} {aI:Nat} {out a:bg} (h:out.length<=aI) (hm:∀p∈a,lu lo hi p.1=false):om lo hi aI out a=out:=by
 have:a.filter (fun p=>lu lo hi p.1)=[]:=wC.2 fun p hp=>by simp[hm p hp]
 simp only[om,this,zT]
 exact zI h
theorem yh {rd:fE} {lo hi:Bytes} {aI:Nat}:∀{keys:List Bytes} {items:List bD} {vs:List Bytes} {gX:List (List Nat)} {out:bg},fp rd items vs gX->keys.length=items.length->out.length<=aI ->
  jc rd lo hi aI (keys.zip items) out=some (om lo hi aI out (keys.zip vs))
 |[],items,vs,gX,out,hv,hl,ho=>by
  simp only[List.zip_nil_left,jc]
  rw[pY ho (by simp)]
 |k::keys,[],vs,gX,out,hv,hl,ho=>by simp at hl
 |k::keys,x::items,[],gX,out,hv,hl,ho=>by have:=hv.1;simp at this
 |k::keys,x::items,v::vs,[],out,hv,hl,ho=>by have:=hv.2.1;simp at this
 |k::keys,x::items,v::vs,qs::gX,out,hv,hl,ho=>by
  have h0:lW rd x v qs:=hv.2.2 0 (by simp) (by simp) (by simp)
  have ht:fp rd items vs gX:=⟨by simpa using hv.1,by simpa using hv.2.1,fun i a b c=>hv.2.2 (i+1) (by simp;omega) (by simp;omega) (by simp;omega)⟩
  simp only[qn,jc]
  have e:(k,v)::keys.zip vs=[(k,v)]++keys.zip vs:=rfl
  rw[e,<-D2]
  split
  ·rename_i h
   have:om lo hi aI out [(k,v)]=out:=by
    rcases h with h|h
    ·exact pY ho (by simpa using h)
    ·exact A3 ho h
   rw[this]
   exact yh ht (by simpa using hl) ho
  ·rename_i h
   simp only[not_or,Bool.not_eq_false,Nat.not_le]at h
   have:om lo hi aI out [(k,v)]=out++[(k,v)]:=by
    simp only[om,qD,h.1,if_true,List.filter_nil]
    exact zI (by simp;omega)
   rw[this,AO h0]
   exact yh ht (by simpa using hl) (by simp;omega)
theorem KK {w:Nat->bg->Option bg} {lo hi:Bytes} {prev:Option Bytes} {c:Int} {out:bg}:ix w lo hi prev [] [c] out=if eC lo hi prev none=true then some out else w c.toNat out:=by
 show (if eC lo hi prev none=true then some out else match w c.toNat out with|some o=>some o|none=>none)=_
 cases w c.toNat out<;>rfl
theorem GL {w:Nat->bg->Option bg} {lo hi:Bytes} {prev:Option Bytes} {k:Bytes} {ks:List Bytes} {c:Int} {cs:List Int} {out:bg} :
  ix w lo hi prev (k::ks) (c::cs) out=if eC lo hi prev (some k)=true then ix w lo hi (some k) ks cs out else match w c.toNat out with|some o=>ix w lo hi (some k) ks cs o|none=>none:=rfl
theorem M1 {P:fb} (g:Good P) {w:Nat->bg->Option bg} {lo hi:Bytes} {aI:Nat} (hw:∀a b c l ps out,P a b c l ps->out.length<=aI->w c out=some (om lo hi aI out l)) {Zu shi ks cs l ps} (h:og P Zu shi ks cs l ps) :
  ∀{prev:Option Bytes} {out:bg},(∀q,prev=some q->q=Zu)->out.length<=aI->ix w lo hi prev ks cs out=some (om lo hi aI out l):=by
 have je:∀{a:Bytes} {b:Option Bytes} {c:Nat} {l ps prev},(∀q,prev=some q->q=a)->P a b c l ps->eC lo hi prev b=true->∀p∈l,lu lo hi p.1=false:=by
  intro a b c l ps prev hq hp hs p hm
  obtain ⟨b1,b2⟩:=ct.1 ((g _ _ _ _ _ hp).2 p hm)
  simp only[eC,qA]at hs
  rcases hs with hs|hs
  ·cases b with
   |none=>cases hs
   |some k =>
    simp only[wh]at hs
    have:=dw (b2 k rfl) hs
    simp[lu,this]
  ·cases prev with
   |none=>cases hs
   |some q =>
    have:=hq q rfl
    subst this
    simp only[zM,decide_eq_true_eq,wh]at hs
    have h2:al p.1 hi=false:=by
     by_cases e:al p.1 hi=true
     ·have:=gY b1 e;rw[hs.2]at this;cases this
     ·simpa using e
    simp[lu,h2,hs.1]
 have VV:∀{a:Bytes} {b:Option Bytes} {c:Nat} {l ps prev},(∀q,prev=some q->q=a)->P a b c l ps->eC lo hi prev none=true->∀p∈l,lu lo hi p.1=false:=by
  intro a b c l ps prev hq hp hs p hm
  obtain ⟨b1,b2⟩:=ct.1 ((g _ _ _ _ _ hp).2 p hm)
  simp only[eC,Bool.false_or]at hs
  cases prev with
  |none=>cases hs
  |some q =>
   have:=hq q rfl
   subst this
   simp only[zM,decide_eq_true_eq,wh]at hs
   have h2:al p.1 hi=false:=by
    by_cases e:al p.1 hi=true
    ·have:=gY b1 e;rw[hs.2]at this;cases this
    ·simpa using e
   simp[lu,h2,hs.1]
 induction h with
 |one hp =>
  intro prev out hq ho
  rw[KK]
  by_cases hs:eC lo hi prev none=true
  ·rw[if_pos hs,pY ho (VV hq hp hs)]
  ·rw[if_neg hs,hw _ _ _ _ _ _ hp ho]
 |cons hp hs ih =>
  rename_i k _ _ _ _ _ _ _ _
  intro prev out hq ho
  rw[<-D2]
  rw[GL]
  by_cases hsk:eC lo hi prev (some k)=true
  ·rw[if_pos hsk,pY ho (je hq hp hsk)]
   exact ih (by simp) ho
  ·rw[if_neg hsk,hw _ _ _ _ _ _ hp ho]
   exact ih (by simp) Mp
theorem xR {rd:fE} (hz:rd 0=none) {lo hi:Bytes} {aI:Nat}:∀{h f a:Nat} {Zu:Bytes} {shi:Option Bytes} {n:Nd} {l out:bg} {ps:List Nat},h<f->rd a=some ((dP n).toNat,bb n)->aw n<=492->n.keys≠[]->aB rd h Zu shi n l ps->out.length<=aI ->
  bG rd lo hi aI f a out=some (om lo hi aI out l)
 |h,f,a,Zu,shi,n,l,out,ps,hf,hr,hs,hk,hn,ho=>by
  obtain ⟨f,rfl⟩:∃g,f=g+1:=⟨f-1,by omega⟩
  have ha:a≠0:=fun e=>by rw[e,hz]at hr;cases hr
  have Qy:=hn.right hk
  unfold bG
  split
  ·rename_i h0
   rw[A3 ho (h0.resolve_left ha)]
  ·simp only[oT hr Qy hs]
   cases h with
   |zero =>
    obtain ⟨h1,h2,h3,vs,gX,h4,rfl,rfl⟩:=hn
    rw[if_pos h1]
    exact yh h4 (((aY.of h2).leaf h1).1.symm) ho
   |succ h =>
    obtain ⟨a1,a2,a3,a4,a5⟩:=aB.succ.1 hn
    rw[if_neg (by rw[a1];simp)]
    exact M1 (fB rd h) (fun a b c l ps out ⟨k',q,r1,r2,r3,r4,r5,_⟩ ho=>xR hz (h:=h) (f:=f) (by omega) r1 r3 r4 r5 ho) a5 (by simp) ho
theorem Kk {rd:fE} (hz:rd 0=none) {lo hi:Bytes} {aI:Nat} {d root l ps} (hd:d<=12) (hr:dM rd d root l ps):bG rd lo hi aI 12 root []=some ((l.filter fun p=>lu lo hi p.1).take aI):=by
 cases d with
 |zero=>obtain ⟨rfl,rfl,rfl⟩:=hr;simp[bG]
 |succ h =>
  obtain ⟨n,dk,h1,h2,h3,h4,h5,h6,rfl⟩:=hr
  rw[xR hz (by omega) h3 h4 h5 h6 (by simp)];simp[om]
end Go.Bt
namespace Go.Bt
open Go.Ai
def uq (use:Bool) (p:PM):fE:=fun m=>if p.has m=true/\(use=true\/p.is m≠0) then p.rd m else none
theorem Rb (p:PM):uq false p=p.read:=by funext m;simp[uq,PM.read]
structure Dp (use:Bool) (s s':LK) (ps:List Nat):Prop where
 gen:s'.p.gen=s.p.gen
 pins:s'.p.pins=s.p.pins
 len:s'.p.st.length=s.p.st.length
 rd:s'.p.rd=s.p.rd
 met:∀m,m∈s'.met↔m∈ps\/m∈s.met
 off:use=false->s'.p=s.p
 on:use=true->∀m,(m∈ps->s'.p.is m=1)/\(m∉ps->s'.p.st.getD m (0,0)=s.p.st.getD m (0,0))
theorem Dp.refl (use:Bool) (s s':LK) (h1:s'.p=s.p) (h2:s'.met=s.met):Dp use s s' []:=⟨by rw[h1],by rw[h1],by rw[h1],by rw[h1],by simp[h2],fun _=>h1,fun _ m=>⟨by simp,fun _=>by rw[h1]⟩⟩
theorem Dp.trans {use:Bool} {a b c:LK} {l m:List Nat} (h:Dp use a b l) (k:Dp use b c m):Dp use a c (l++m):=by
 refine ⟨k.gen.trans h.gen,k.pins.trans h.pins,k.len.trans h.len,k.rd.trans h.rd,fun x => ?_,fun e=>(k.off e).trans (h.off e),fun e x=>⟨fun hx => ?_,fun hx => ?_⟩⟩
 ·rw[k.met,h.met,zJ];constructor
  ·rintro (a|a|a)
   ·exact .inl (.inr a)
   ·exact .inl (.inl a)
   ·exact .inr a
  ·rintro ((a|a)|a)
   ·exact .inr (.inl a)
   ·exact .inl a
   ·exact .inr (.inr a)
 ·by_cases hm:x∈m
  ·exact (k.on e x).1 hm
  ·rw[ia ((k.on e x).2 hm)]
   exact (h.on e x).1 ((zJ.1 hx).resolve_right hm)
 ·simp only[zJ,not_or]at hx
  exact ((k.on e x).2 hx.2).trans ((h.on e x).2 hx.1)
theorem Dp.uq {use:Bool} {a b:LK} {l:List Nat} (h:Dp use a b l):uq use b.p=uq use a.p:=by
 cases use with
 |false=>rw[h.off rfl]
 |true=>funext m;simp only[Bt.uq,has_eq h.len,h.rd,true_or]
theorem Dp.read {use:Bool} {a b:LK} {l:List Nat} (h:Dp use a b l) {m:Nat} (hm:m∈l):b.p.read m=Bt.uq use a.p m:=by
 cases use with
 |false=>rw[h.off rfl,Rb]
 |true =>
  have:=(h.on rfl m).1 hm
  simp[PM.read,Bt.uq,has_eq h.len,h.rd,this]
def JU (use:Bool) (s:LK) (ps:List Nat):Prop:=∀m∈ps,m∉s.met/\(use=true->s.p.is m=0)
theorem JU.next {use:Bool} {a b:LK} {l ps:List Nat} (h:Dp use a b l) (k:JU use a ps) (hd:∀m∈l,m∉ps):JU use b ps:=fun m hm=>by
 have hl:m∉l:=fun e=>hd m e hm
 refine ⟨fun e=>((h.met m).1 e).elim hl (k m hm).1,fun e => ?_⟩
 rw[ia ((h.on e m).2 hl)];exact (k m hm).2 e
theorem H7 {use:Bool} {s:LK} {n:Nat} (h1:n∉s.met) (h2:use=true->s.p.is n=0) (h3:s.p.has n=true):∃s',gk use s n=some s'/\Dp use s s' [n]/\s'.leaf=s.leaf:=by
 unfold gk
 rw[if_neg h1]
 cases use with
 |false=>exact ⟨_,rfl,⟨rfl,rfl,rfl,rfl,by simp,fun _=>rfl,fun e=>by cases e⟩,rfl⟩
 |true =>
  have az:n<s.p.st.length:=by simp[PM.has]at h3;exact h3.2
  simp only[if_true,PM.use,h3,h2 rfl,and_self,qP]
  refine ⟨_,rfl,⟨rfl,rfl,by simp[PM.set],rfl,by simp,fun e=>(by cases e),fun _ m=>⟨fun hm => ?_,fun hm => ?_⟩⟩,rfl⟩
  ·simp only[wm]at hm;subst hm
   simp[PM.is,PM.set,az]
  ·simp only[wm]at hm
   simp only[PM.set,List.getD_eq_getElem?_getD]
   rw[we (Ne.symm hm)]
theorem HW {use:Bool} {p:PM} {m:Nat} {x} (h:uq use p m=some x):p.has m=true:=by
 unfold uq at h
 split at h
 ·rename_i g;exact g.1
 ·cases h
theorem xv {p:PM} {m:Nat} (h:p.has m=true):2<=m/\m<p.st.length:=by simpa [PM.has] using h
theorem Lz {use:Bool} {size:Nat} {rd:fE} {n:Nat} {v:Bytes} {ps:List Nat} (h:eJ rd n v ps):∀{f:Nat} {acc:Bytes} {s:LK},uq use s.p=rd->ps.Nodup->JU use s ps->ps.length<=f->acc.length+v.length=size ->
  ∃s',pw use size f n acc s=some s'/\Dp use s s' ps/\s'.leaf=s.leaf:=by
 induction h with
 |nil=>intro f acc s hr hd ho hf hs;exact ⟨s,by cases f<;>simp at hs<;>simp[pw,hs],.refl _ _ _ rfl rfl,rfl⟩
 |cons hn h hb hs hf hr ih =>
  rename_i n next b t ps
  intro f acc s lj hd ho hl eo
  obtain ⟨f,rfl⟩:∃g,f=g+1:=⟨f-1,by simp at hl;omega⟩
  obtain ⟨n,rfl⟩:∃m,n=m+1:=⟨n-1,by omega⟩
  have hr4:aA (aO next 4)=next:=fk 4 next (by omega)
  have hlen:¬(aO next 4++b).length<5:=by rw[zG,kY];have:=zt.2 hs;omega
  rw[zp]at hd
  have Is:uq use s.p (n+1)=some (3,aO next 4++b):=by rw[lj];exact h
  obtain ⟨s1,e1,k1,k2⟩:=H7 (ho (n+1) (by simp)).1 (ho (n+1) (by simp)).2 (HW Is)
  have aes:s1.p.read (n+1)=some (3,aO next 4++b):=by rw[k1.read (by simp)];exact Is
  obtain ⟨s2,e2,j1,j2⟩:=ih (f:=f) (acc:=acc++b) (s:=s1) (by rw[k1.uq];exact lj) hd.2 (JU.next k1 (fun m hm=>ho m (by simp[hm])) (by simpa using hd.1)) (by simp at hl;omega) (by simp at eo ⊢;omega)
  refine ⟨s2,?_,k1.trans j1,j2.trans k2⟩
  simp only[pw,e1,aes,S2,Uh,hr4]
  rw[if_neg (by simp only[ne_eq,not_true,false_or];exact hlen),if_neg (by rintro (e|e);exact e.2 (hf e.1);simp at e eo;omega)]
  exact e2
theorem uz {use:Bool} {rd:fE}:∀{items:List bD} {vs:List Bytes} {gX:List (List Nat)} {s:LK},fp rd items vs gX->uq use s.p=rd->gX.flatten.Nodup->JU use s gX.flatten->∃s',iz use items s=some s'/\Dp use s s' gX.flatten/\s'.leaf=s.leaf
 |[],vs,gX,s,hv,hr,hd,ho=>by
  have:gX=[]:=zg.1 (by rw[hv.2.1];rfl)
  subst this
  exact ⟨s,rfl,.refl _ _ _ rfl rfl,rfl⟩
 |x::items,[],gX,s,hv,hr,hd,ho=>by have:=hv.1;simp at this
 |x::items,v::vs,[],s,hv,hr,hd,ho=>by have:=hv.2.1;simp at this
 |x::items,v::vs,qs::gX,s,hv,hr,hd,ho=>by
  have h0:lW rd x v qs:=hv.2.2 0 (by simp) (by simp) (by simp)
  have ht:fp rd items vs gX:=⟨by simpa using hv.1,by simpa using hv.2.1,fun i a b c=>hv.2.2 (i+1) (by simp;omega) (by simp;omega) (by simp;omega)⟩
  rw[wg]at hd ho ⊢
  rw[zq]at hd
  obtain ⟨d1,d2,d3⟩:=hd
  simp only[iz]
  by_cases hp:x.p=0
  ·rw[if_pos hp]
   rcases h0 with ⟨_,_,rfl⟩|⟨h0,_⟩
   ·exact uz ht hr d2 (fun m hm=>ho m (by simp[hm]))
   ·omega
  ·rw[if_neg hp]
   rcases h0 with ⟨h0,_⟩|⟨h0,h1,h2⟩
   ·exact absurd h0 hp
   ·obtain ⟨s1,e1,k1,k2⟩:=Lz (use:=use) (size:=x.s.toNat) h1 (f:=x.s.toNat+1) (acc:=[]) hr d1 (fun m hm=>ho m (by simp[hm])) (by have:=(nD h1).2;omega) (by simp;omega)
    obtain ⟨s2,e2,j1,j2⟩:=uz (s:=s1) ht (by rw[k1.uq];exact hr) d2 (JU.next k1 (fun m hm=>ho m (by simp[hm])) fun m hm rq=>d3 m hm m rq rfl)
    exact ⟨s2,by rw[e1];exact e2,k1.trans j1,j2.trans k2⟩
theorem Kw {rd:fE} {h lo hi n l ps} (hn:aB rd h lo hi n l ps):n.keys.all (xp lo hi)=true:=by
 rw[zQ]
 cases h with
 |zero=>exact hn.2.2.1
 |succ h =>
  obtain ⟨a1,a2,a3,a4,a5⟩:=aB.succ.1 hn
  intro k hk
  obtain ⟨b1,b2⟩:=(oF (fB rd h) a5).2.1 k hk
  exact ct.2 ⟨eV b1,b2⟩
theorem M2 {use:Bool} {rd:fE} {P:fb} {D:Nat} {w:Nat->Bytes->Option Bytes->LK->Option LK}
  (hw:∀lo hi c l ps s,uq use s.p=rd->P lo hi c l ps->ps.Nodup->JU use s ps->(s.leaf=0\/s.leaf=D)->∃s',w c lo hi s=some s'/\Dp use s s' ps/\s'.leaf=D) {lo hi ks cs l ps} (h:og P lo hi ks cs l ps) :
  ∀{s:LK},uq use s.p=rd->ps.Nodup->JU use s ps->(s.leaf=0\/s.leaf=D)->∃s',kl w hi lo ks cs s=some s'/\Dp use s s' ps/\s'.leaf=D:=by
 induction h with
 |one hp =>
  intro s hr hd ho hl
  obtain ⟨s',e,k1,k2⟩:=hw _ _ _ _ _ _ hr hp hd ho hl
  exact ⟨s',by simp only[kl,e],k1,k2⟩
 |cons hp hs ih =>
  intro s hr hd ho hl
  rw[zq]at hd
  obtain ⟨d1,d2,d3⟩:=hd
  obtain ⟨s1,e1,k1,k2⟩:=hw _ _ _ _ _ _ hr hp d1 (fun m hm=>ho m (by simp[hm])) hl
  obtain ⟨s2,e2,j1,j2⟩:=ih (s:=s1) (by rw[k1.uq];exact hr) d2 (JU.next k1 (fun m hm=>ho m (by simp[hm])) fun m hm rq=>d3 m hm m rq rfl) (.inr k2)
  exact ⟨s2,by simp only[kl,e1];exact e2,k1.trans j1,j2⟩
theorem look_ok {use:Bool} {rd:fE}:∀{h f a deep:Nat} {lo:Bytes} {hi:Option Bytes} {n:Nd} {l:bg} {ps:List Nat} {s:LK},h<f->uq use s.p=rd->rd a=some ((dP n).toNat,bb n)->(1<deep->123<=aw n)->aw n<=492->n.keys≠[]->aB rd h lo hi n l ps->(a::ps).Nodup->JU use s (a::ps)->(s.leaf=0\/s.leaf=deep+h) ->
  ∃s',iw use f a deep lo hi s=some s'/\Dp use s s' (a::ps)/\s'.leaf=deep+h
 |h,f,a,deep,lo,hi,n,l,ps,s,hf,lj,hr,h1,h2,hk,hn,hd,ho,hl=>by
  obtain ⟨f,rfl⟩:∃g,f=g+1:=⟨f-1,by omega⟩
  rw[zp]at hd
  have Qy:=hn.right hk
  have Af:uq use s.p a=some ((dP n).toNat,bb n):=by rw[lj];exact hr
  obtain ⟨s1,e1,k1,k2⟩:=H7 (ho a (by simp)).1 (ho a (by simp)).2 (HW Af)
  have aaO:fN s1.p.read a=some n:=oT (by rw[k1.read (by simp)];exact Af) Qy h2
  have TE:JU use s1 ps:=JU.next k1 (fun m hm=>ho m (by simp[hm])) (by simpa using hd.1)
  have c1:¬((1<deep/\aw n<123)\/n.keys=[]):=by rintro (⟨e,g⟩|e);have:=h1 e;omega;exact hk e
  simp only[iw,e1,aaO]
  rw[if_neg c1,if_neg (by rw[Kw hn];simp)]
  cases h with
  |zero =>
   obtain ⟨q1,q2,q3,vs,gX,q4,rfl,rfl⟩:=hn
   rw[if_pos q1,if_neg (by rw[k2];rintro ⟨e,g⟩;omega)]
   obtain ⟨s2,e2,j1,j2⟩:=uz (use:=use) (s:=⟨s1.p,s1.met,deep⟩) q4 (by show uq use s1.p=rd;rw[k1.uq];exact lj) hd.2 TE
   refine ⟨s2,e2,?_,j2⟩
   have:Dp use s1 ⟨s1.p,s1.met,deep⟩ []:=.refl _ _ _ rfl rfl
   exact k1.trans (this.trans j1)
  |succ h =>
   obtain ⟨a1,a2,a3,a4,a5⟩:=aB.succ.1 hn
   rw[if_neg (by rw[a1];simp)]
   have hw:∀lo hi c l ps s,uq use s.p=rd->fF rd (aB rd h) lo hi c l ps->ps.Nodup->JU use s ps->(s.leaf=0\/s.leaf=deep+(h+1))->∃s',iw use f c (deep+1) lo hi s=some s'/\Dp use s s' ps/\s'.leaf=deep+(h+1):=by
    rintro lo hi c l ps s hr ⟨k',q,r1,r2,r3,r4,r5,rfl⟩ hd ho hl
    obtain ⟨s',g1,g2,g3⟩:=look_ok (h:=h) (f:=f) (deep:=deep+1) (by omega) hr r1 (fun _=>r2) r3 r4 r5 hd ho (hl.imp id fun e=>by omega)
    exact ⟨s',g1,g2,by omega⟩
   obtain ⟨s2,e2,j1,j2⟩:=M2 hw a5 (s:=s1) (by rw[k1.uq];exact lj) hd.2 TE (by rw[k2];exact hl)
   exact ⟨s2,e2,k1.trans j1,j2⟩
theorem Qh {p:PM} {d root l ps} (hd:d<=12) (hr:dM (uq true p) d root l ps) (hn:ps.Nodup) (h0:∀m∈ps,p.is m=0):∃p',AM true p root=some p'/\p'.rd=p.rd/\p'.gen=p.gen/\p'.pins=p.pins/\p'.st.length=p.st.length/\∀m,(m∈ps->p'.is m=1)/\(m∉ps->p'.st.getD m (0,0)=p.st.getD m (0,0)):=by
 cases d with
 |zero=>obtain ⟨rfl,rfl,rfl⟩:=hr;exact ⟨p,by simp[AM],rfl,rfl,rfl,rfl,by simp⟩
 |succ h =>
  obtain ⟨n,dk,h1,h2,h3,h4,h5,h6,rfl⟩:=hr
  obtain ⟨s',e,k1,k2⟩:=look_ok (use:=true) (f:=12) (deep:=1) (s:=⟨p,[],0⟩) (by omega) rfl h3 (by omega) h4 h5 h6 hn (fun m hm=>⟨by simp,fun _=>h0 m hm⟩) (.inl rfl)
  exact ⟨s'.p,by simp[AM,e,show root≠0 by omega],k1.rd,k1.gen,k1.pins,k1.len,fun m=>k1.on rfl m⟩
end Go.Bt
namespace Go.Bt
open Go.Ai
theorem UJ {a b:bg}:Up (a++b)↔Up a/\Up b/\∀p∈a,∀q∈b,al p.1 q.1=true:=List.pairwise_append
theorem US {P:fb} (g:Good P) (hu:∀lo hi c l ps,P lo hi c l ps->Up l) {lo hi ks cs l ps} (h:og P lo hi ks cs l ps):Up l:=by
 induction h with
 |one h=>exact hu _ _ _ _ _ h
 |cons h hs ih =>
  rename_i lo k hi c l ps ks cs l' dk
  refine UJ.2 ⟨hu _ _ _ _ _ h,ih,fun p hp q hq => ?_⟩
  exact dw ((ct.1 ((g _ _ _ _ _ h).2 p hp)).2 k rfl) (ct.1 ((oF g hs).1.2 q hq)).1
theorem aB.up {rd:fE}:∀{h:Nat} {lo hi n l ps},aB rd h lo hi n l ps->Up l
 |0,lo,hi,n,l,ps,⟨h1,h2,h3,vs,gX,h4,h5,h6⟩=>by rw[h5];exact UC (dN h2)
 |h+1,lo,hi,n,l,ps,hn=>US (fB rd h) (fun lo hi c l ps ⟨k',q,r1,r2,r3,r4,r5,_⟩=>r5.up) (aB.succ.1 hn).2.2.2.2
theorem dM.up {rd:fE} {d root l ps} (k:dM rd d root l ps):Up l:=by
 cases d with
 |zero=>obtain ⟨_,rfl,_⟩:=k;exact .nil
 |succ h=>obtain ⟨n,dk,h1,h2,h3,h4,h5,h6,rfl⟩:=k;exact h6.up
def gv (k v:Bytes):bg->Bool->bg
 |[],put=>if put=true then [] else [(k,v)]
 |p::r,put=>(if put=false/\al p.1 k=false then [(k,v)] else [])++((if p.1≠k then [p] else [])++gv k v r (put || !al p.1 k))
def bK (k:Bytes) (l:bg):bg:=l.filter fun p=>decide (p.1≠k)
theorem xN (k v:Bytes):∀{l:bg},gv k v l true=bK k l
 |[]=>rfl
 |p::r=>by
  simp only[gv,Bool.true_eq_false,false_and,if_false,zh,Bool.true_or,xN k v (l:=r),bK,qD]
  by_cases h:p.1=k<;>simp[h]
theorem BV {p:Bytes×Bytes} {l:bg}:Up (p::l)↔(∀q∈l,al p.1 q.1=true)/\Up l:=List.pairwise_cons
theorem sv {k:Bytes}:∀{l:bg},Up l->bK k l=Ao k [] l
 |[],_=>rfl
 |p::r,h=>by
  obtain ⟨h1,h2⟩:=BV.1 h
  have ih:=sv (k:=k) h2
  simp only[bK,Ao,qD,zT]at ih ⊢
  cases az:al p.1 k with
  |true =>
   have bt:=mo az
   have o9:=jU az
   simp only[bt,o9,ne_eq,not_false_eq_true,decide_true,if_true,zK,if_false]
   exact congrArg (p :: ·) ih
  |false =>
   have hz:r.filter (fun p=>al p.1 k)=[]:=wC.2 fun q hq e=>by
    have:=gY az (cH (h1 q hq) e)
    rw[bj]at this;cases this
   rw[hz]at ih ⊢
   simp only[zh]at ih ⊢
   by_cases he:p.1=k
   ·simp only[he,ne_eq,not_true,decide_false,bj,zK,if_false]
    exact ih
   ·have o9:=oV az (Ne.symm he)
    simp only[he,o9,ne_eq,not_false_eq_true,decide_true,if_true,zK,if_false,ih,zh]
theorem xM {k v:Bytes}:∀{l:bg},Up l->gv k v l false=Ao k [(k,v)] l
 |[],_=>rfl
 |p::r,h=>by
  obtain ⟨h1,h2⟩:=BV.1 h
  have ih:=xM (k:=k) (v:=v) h2
  cases az:al p.1 k with
  |true =>
   have bt:=mo az
   have o9:=jU az
   simp only[gv,az,Bool.true_eq_false,and_false,if_false,zh,jN,Bool.or_false,ih,bt,ne_eq,not_false_eq_true,if_true]
   simp only[Ao,qD,az,o9,if_true,zK,if_false]
   rfl
  |false =>
   simp only[gv,az,and_self,if_true,jM,Bool.or_true,xN]
   have hz:r.filter (fun p=>al p.1 k)=[]:=wC.2 fun q hq e=>by
    have:=gY az (cH (h1 q hq) e)
    rw[bj]at this;cases this
   have hd:=sv (k:=k) h2
   simp only[Ao,hz,zh,zT]at hd
   simp only[Ao,qD,az,hz,zK,if_false,zh]
   rw[hd]
   by_cases he:p.1=k
   ·simp only[he,ne_eq,not_true,if_false,bj,zK,zh]
   ·have o9:=oV az (Ne.symm he)
    simp only[he,o9,ne_eq,not_false_eq_true,if_true]
    rfl
theorem Ec {l:bg} {k:Bytes}:(look l k).isSome=true↔∃p∈l,p.1=k:=by
 simp only[look,Option.isSome_map,List.find?_isSome,decide_eq_true_eq]
theorem D0 {l:bg} {k:Bytes} (h:look l k=none):bK k l=l:=by
 refine wX.2 fun p hp => ?_
 have:¬(look l k).isSome=true:=by rw[h];simp
 rw[Ec]at this
 simp only[ne_eq,decide_not,wh,decide_eq_false_iff_not]
 exact fun e=>this ⟨p,hp,e⟩
theorem xP {k:Bytes}:∀{l:bg},Up l->(look l k).isSome=true->(bK k l).length+1=l.length
 |[],_,h=>by simp[look]at h
 |p::r,hu,h=>by
  obtain ⟨h1,h2⟩:=BV.1 hu
  by_cases he:p.1=k
  ·have:bK k r=r:=wX.2 fun q hq=>by
    have:=mo (h1 q hq)
    simp only[ne_eq,decide_not,wh,decide_eq_false_iff_not]
    intro e;exact this (he.trans e.symm)
   simp only[bK]at this
   simp only[bK,qD,he,ne_eq,not_true,decide_false,zK,if_false,zV]
   rw[this]
  ·have hr:(look r k).isSome=true:=by
    simp only[look,List.find?_cons,he,decide_false]at h ⊢;exact h
   have:=xP h2 hr
   have e:bK k (p::r)=p::bK k r:=by simp[bK,qD,he]
   rw[e,zV,zV,this]
theorem getD_map {α:Type} {f:α->α} {d:α} (hf:f d=d) (l:List α) (m:Nat):(l.map f).getD m d=f (l.getD m d):=by
 simp only[List.getD_eq_getElem?_getD,zO]
 cases l[m]? with
 |none=>simp[hf]
 |some x=>rfl
theorem uL (p:PM) (m:Nat):p.cg.st.getD m (0,0)=cJ p.low (cM (p.gen+1) (p.st.getD m (0,0))):=by
 simp only[PM.cg]
 rw[getD_map (by simp[cJ]),getD_map (by simp[cM])]
theorem Fy (p:PM) (m:Nat):p.gJ.st.getD m (0,0)=ew (p.st.getD m (0,0)):=by
 simp only[PM.gJ]
 rw[getD_map (by simp[ew])]
theorem J6 (g low:Nat) (s:Nat×Nat):(cJ low (cM g s)).1=if s.1=1\/s.1=2 then 1 else if s.1=3 then (if g<=low then 0 else 4) else if s.1=4 then (if s.2<=low then 0 else 4) else s.1:=by
 obtain ⟨a,b⟩:=s
 simp only[cJ,cM]
 by_cases h2:a=2
 ·subst h2;simp
 ·by_cases h3:a=3
  ·subst h3;simp;split<;>rfl
  ·by_cases h4:a=4
   ·subst h4;simp;split<;>rfl
   ·simp only[h2,h3,h4,if_false,false_and,or_false]
    by_cases h1:a=1<;>simp[h1]
theorem DT (g low:Nat) (s:Nat×Nat) (h:s.1=3) (hg:¬g<=low):cJ low (cM g s)=(4,g):=by
 obtain ⟨a,b⟩:=s
 simp only at h;subst h
 simp[cJ,cM,hg]
theorem DU (g low:Nat) (s:Nat×Nat) (h:s.1=4) (hg:¬s.2<=low):cJ low (cM g s)=s:=by
 obtain ⟨a,b⟩:=s
 simp only at h hg;subst h
 simp[cJ,cM,hg]
theorem HG (s:Nat×Nat) (h:s.1=4):ew s=s:=by
 obtain ⟨a,b⟩:=s
 simp only at h;subst h
 simp[ew]
theorem jr (p:PM) (m:Nat):p.cg.is m=if p.is m=1\/p.is m=2 then 1 else if p.is m=3 then (if p.gen+1<=p.low then 0 else 4) else if p.is m=4 then (if (p.st.getD m (0,0)).2<=p.low then 0 else 4) else p.is m:=by
 simp only[PM.is,uL]
 exact J6 _ _ _
theorem LI (s:Nat×Nat):(ew s).1=if s.1=2 then 0 else if s.1=3 then 1 else s.1:=by
 obtain ⟨a,b⟩:=s
 simp only[ew]
 by_cases h2:a=2
 ·simp[h2]
 ·by_cases h3:a=3
  ·simp[h3]
  ·simp[h2,h3]
theorem k9 (p:PM) (m:Nat):p.gJ.is m=if p.is m=2 then 0 else if p.is m=3 then 1 else p.is m:=by
 simp only[PM.is,Fy]
 exact LI _
theorem gS (p:PM):p.cg.st.length=p.st.length:=by simp[PM.cg]
theorem kS (p:PM):p.gJ.st.length=p.st.length:=by simp[PM.gJ]
theorem pW {p p':PM} {m:Nat} (hl:p'.st.length=p.st.length) (hr:p'.rd=p.rd) (h1:p.is m≠0) (h2:p'.is m≠0):p'.read m=p.read m:=by
 simp only[PM.read,has_eq hl,hr]
 by_cases h:p.has m=true
 ·rw[if_pos ⟨h,h2⟩,if_pos ⟨h,h1⟩]
 ·rw[if_neg (fun e=>h e.1),if_neg (fun e=>h e.1)]
structure Inv (p:PM) (root:Nat) (l:bg) (ep:Nat) (di:bg):Prop where
 len:p.st.length<=300
 Uk:∃d ps,dM p.read d root l ps/\Own p ps
 com:∃d ps,dM p.read d ep di ps/\Com p ps
 top:∀m,p.is m<=4
 wait:p.pins=[]->∀m,p.is m≠4
 pin:∀g∈p.pins,g<=p.gen
def Kept (p:PM) (g root:Nat) (l:bg):Prop:=∃d ps,d<=8/\dM p.read d root l ps/\ps.Nodup/\∀m∈ps,p.is m=1\/p.is m=3\/(p.is m=4/\g<(p.st.getD m (0,0)).2)
theorem Mo (p:PM):p.read 0=none:=by simp[PM.read,PM.has]
theorem Step.keeps {p p':PM} (h:Step p p') {g root l} (k:Kept p g root l):Kept p' g root l:=by
 obtain ⟨d,ps,hd,hr,hn,hs⟩:=k
 refine ⟨d,ps,hd,hr.move fun m hm => ?_,hn,fun m hm => ?_⟩
 ·have:=hs m hm;exact h.read (by omega) (by omega)
 ·have h0:=hs m hm
  rcases h.at' m with ⟨a,b⟩|⟨a,b⟩|⟨a,b,c⟩
  ·rw[ia a,a];exact h0
  ·simp only[sn]at a;omega
  ·exact .inr (.inl b)
theorem Step.inv {p p':PM} (h:Step p p') {root l ep di root' l'} (k:Inv p root l ep di) (hc:∃d ps,dM p'.read d root' l' ps/\Own p' ps):Inv p' root' l' ep di:=by
 obtain ⟨d,ps,hr,hcm⟩:=k.com
 have h4:∀m,p'.is m<=4/\(p'.is m=4->p.is m=4):=fun m=>by
  have:=k.top m
  rcases h.at' m with ⟨a,b⟩|⟨a,b⟩|⟨a,b,c⟩
  ·rw[ia a];exact ⟨this,id⟩
  ·simp only[sn]at b;omega
  ·omega
 refine ⟨by rw[h.len];exact k.len,hc,⟨d,ps,hr.move fun m hm => ?_,h.com hcm⟩,fun m=>(h4 m).1,fun e m e4=>k.wait (by rw[<-h.pins];exact e) m ((h4 m).2 e4),by rw[h.pins,h.gen];exact k.pin⟩
 have:=((hcm.2 m).1 hm).2
 exact h.read (by omega) (by omega)
theorem Hu {p:PM} {root l ep di} (k:Inv p root l ep di) (hg:p.gen+1<=9223372036854775807):Inv p.cg root l root l:=by
 obtain ⟨d,ps,hr,ho⟩:=k.Uk
 have se:dM p.cg.read d root l ps:=hr.move fun m hm=>by
  have:=((ho.2 m).1 hm).2
  exact pW (gS p) rfl (by omega) (by rw[jr,if_pos this];omega)
 have Wk:∀m,(p.cg.is m=1\/p.cg.is m=2)↔(p.is m=1\/p.is m=2):=fun m=>by
  rw[jr];have:=k.top m;(repeat' split)<;>omega
 have Dx:∀m,(p.cg.is m=1\/p.cg.is m=3)↔(p.is m=1\/p.is m=2):=fun m=>by
  rw[jr];have:=k.top m;(repeat' split)<;>omega
 refine ⟨by rw[gS];exact k.len,⟨d,ps,se,ho.1,fun m => ?_⟩,⟨d,ps,se,ho.1,fun m => ?_⟩,fun m => ?_,fun e m => ?_,fun g hgp => ?_⟩
 ·rw[has_eq (gS p),Wk];exact ho.2 m
 ·rw[has_eq (gS p),Dx];exact ho.2 m
 ·rw[jr];have:=k.top m;(repeat' split)<;>omega
 ·have hl:p.low=9223372036854775807:=by
   have:p.pins=[]:=e
   simp[PM.low,this]
  have:=k.wait e m
  rw[jr,hl,if_pos hg];(repeat' split)<;>omega
 ·have:=k.pin g hgp
  show g<=p.gen+1
  omega
theorem foldl_min (l:List Nat):∀a:Nat,l.foldl Nat.min a<=a/\∀g∈l,l.foldl Nat.min a<=g:=by
 induction l with
 |nil=>intro a;simp
 |cons x l ih =>
  intro a
  obtain ⟨h1,h2⟩:=ih (Nat.min a x)
  have h3:Nat.min a x<=a:=Nat.min_le_left a x
  have h4:Nat.min a x<=x:=Nat.min_le_right a x
  refine ⟨wH h1 h3,fun g hg => ?_⟩
  rcases zH.1 hg with rfl|hg
  ·exact wH h1 h4
  ·exact h2 g hg
theorem C9 {p:PM} {g root l} (k:Kept p g root l) (hp:g∈p.pins) (hg:g<=p.gen) (RH:∀m,p.is m<=4):Kept p.cg g root l:=by
 obtain ⟨d,ps,hd,hr,hn,hs⟩:=k
 have tG:p.low<=g:=(foldl_min p.pins _).2 g hp
 have hng:¬p.gen+1<=p.low:=by omega
 have bU:∀m∈ps,p.cg.is m=1\/p.cg.is m=3\/(p.cg.is m=4/\g<(p.cg.st.getD m (0,0)).2):=fun m hm=>by
  rcases hs m hm with h|h|⟨h,h'⟩
  ·left;rw[jr,if_pos (.inl h)]
  ·right;right
   have e:=DT (p.gen+1) p.low (p.st.getD m (0,0)) h hng
   simp only[PM.is,uL,e,true_and]
   omega
  ·right;right
   have e:=DU (p.gen+1) p.low (p.st.getD m (0,0)) h (by omega)
   simp only[PM.is]at h
   simp only[PM.is,uL,e,h,true_and]
   exact h'
 refine ⟨d,ps,hd,hr.move fun m hm => ?_,hn,bU⟩
 have h1:=hs m hm
 have h2:=bU m hm
 exact pW (gS p) rfl (by omega) (by omega)
theorem LH {p:PM} {root l ep di} (k:Inv p root l ep di):Inv p.gJ ep di ep di:=by
 obtain ⟨d,ps,hr,hc⟩:=k.com
 have se:dM p.gJ.read d ep di ps:=hr.move fun m hm=>by
  have:=((hc.2 m).1 hm).2
  exact pW (kS p) rfl (by omega) (by rw[k9];(repeat' split)<;>omega)
 have Wk:∀m,(p.gJ.is m=1\/p.gJ.is m=2)↔(p.is m=1\/p.is m=3):=fun m=>by rw[k9];(repeat' split)<;>omega
 have Dx:∀m,(p.gJ.is m=1\/p.gJ.is m=3)↔(p.is m=1\/p.is m=3):=fun m=>by rw[k9];(repeat' split)<;>omega
 refine ⟨by rw[kS];exact k.len,⟨d,ps,se,hc.1,fun m => ?_⟩,⟨d,ps,se,hc.1,fun m => ?_⟩,fun m => ?_,fun e m => ?_,k.pin⟩
 ·rw[has_eq (kS p),Wk];exact hc.2 m
 ·rw[has_eq (kS p),Dx];exact hc.2 m
 ·rw[k9];have:=k.top m;(repeat' split)<;>omega
 ·rw[k9];have:=k.wait e m;(repeat' split)<;>omega
theorem Fz {p:PM} {g root l} (k:Kept p g root l):Kept p.gJ g root l:=by
 obtain ⟨d,ps,hd,hr,hn,hs⟩:=k
 have bU:∀m∈ps,p.gJ.is m=1\/p.gJ.is m=3\/(p.gJ.is m=4/\g<(p.gJ.st.getD m (0,0)).2):=fun m hm=>by
  rcases hs m hm with h|h|⟨h,h'⟩
  ·left;rw[k9,if_neg (by omega),if_neg (by omega)];exact h
  ·left;rw[k9,if_neg (by omega),if_pos h]
  ·right;right
   simp only[PM.is,Fy,HG _ h]at h ⊢
   exact ⟨h,h'⟩
 refine ⟨d,ps,hd,hr.move fun m hm => ?_,hn,bU⟩
 have h1:=hs m hm
 have h2:=bU m hm
 exact pW (kS p) rfl (by omega) (by omega)
def PM.rV (p:PM) (gen:Nat) (rd:fE):PM:=⟨gen,p.st.map fun _=>(0,0),rd,[]⟩
theorem JM (p:PM) (gen:Nat) (rd:fE) (m:Nat):(p.rV gen rd).is m=0:=by
 simp only[PM.is,PM.rV]
 have:(p.st.map fun _=>((0,0):Nat×Nat)).getD m (0,0)=(0,0):=by
  simp only[List.getD_eq_getElem?_getD,zO]
  cases p.st[m]?<;>rfl
 rw[this]
theorem Qf {p:PM} {root l} (k:Inv p root l root l) (hp:p.pins=[]) (bU:∀m,p.is m=0\/p.is m=1) {gen:Nat} {rd:fE} (lj:∀m,p.has m=true->rd m=p.rd m) :
  ∃q,AM true (p.rV gen rd) root=some q/\Inv q root l root l/\q.free=p.free/\q.gen=gen/\q.pins=[]/\q.st.length=p.st.length/\q.rd=rd:=by
 obtain ⟨d,ps,hr,ho⟩:=k.Uk
 have hd:=kW hr ho k.len
 have hlen:(p.rV gen rd).st.length=p.st.length:=by simp[PM.rV]
 have Yc:dM (uq true (p.rV gen rd)) d root l ps:=hr.move fun m hm=>by
  obtain ⟨h1,h2⟩:=(ho.2 m).1 hm
  simp only[uq,has_eq hlen,h1,true_or,and_self,if_true,PM.read]
  rw[if_pos ⟨trivial,by omega⟩]
  exact lj m h1
 obtain ⟨q,e,q1,q2,q3,q4,q5⟩:=Qh (by omega) Yc ho.1 fun m _=>JM p gen rd m
 have hq:∀m,q.is m=if m∈ps then 1 else 0:=fun m=>by
  by_cases hm:m∈ps
  ·rw[(q5 m).1 hm,if_pos hm]
  ·rw[ia ((q5 m).2 hm),if_neg hm,JM]
 have hpq:∀m,q.is m=1↔m∈ps:=fun m=>by rw[hq];split<;>simp_all
 have o8:Own q ps:=⟨ho.1,fun m=>by
  constructor
  ·intro hm
   exact ⟨by rw[has_eq (q4.trans hlen)];exact ((ho.2 m).1 hm).1,.inl ((hpq m).2 hm)⟩
  ·rintro ⟨_,h⟩
   rw[hq]at h;split at h
   ·assumption
   ·omega⟩
 have ae0:Com q ps:=⟨ho.1,fun m=>by
  rw[o8.2 m]
  have:(q.is m=1\/q.is m=2)↔(q.is m=1\/q.is m=3):=by rw[hq];split<;>omega
  rw[this]⟩
 have GS:dM q.read d root l ps:=hr.move fun m hm=>by
  obtain ⟨h1,h2⟩:=(ho.2 m).1 hm
  simp only[PM.read,has_eq (q4.trans hlen),h1,(hpq m).2 hm,q1,true_and]
  rw[if_pos (by omega),if_pos (by omega)]
  exact lj m h1
 refine ⟨q,e,⟨by rw[q4,hlen];exact k.len,⟨d,ps,GS,o8⟩,⟨d,ps,GS,ae0⟩,fun m=>by rw[hq];split<;>omega,fun _ m=>by rw[hq];split<;>omega,by rw[q3];simp[PM.rV]⟩,?_,q2,q3,q4.trans hlen,q1⟩
 unfold PM.free
 rw[q4.trans hlen]
 congr 1
 refine List.filter_congr fun m hm => ?_
 by_cases h2:2<=m
 ·have hh:p.has m=true:=by simp[PM.has,h2,wL.1 hm]
  have e1:q.is m=0↔p.is m=0:=by
   rw[hq]
   have:=ho.2 m
   have:=bU m
   split
   ·rename_i hm
    have:=((ho.2 m).1 hm).2
    omega
   ·rename_i hm
    have:¬(p.is m=1\/p.is m=2):=fun e=>hm ((ho.2 m).2 ⟨hh,e⟩)
    omega
  simp only[h2,decide_true,Bool.true_and]
  exact decide_eq_decide.2 e1
 ·simp[h2]
theorem Da {p:PM} {root l ep di} (k:Inv p root l ep di) (hp:p.pins=[]) (hg:p.gen+1<=9223372036854775807):∀m,p.cg.is m=0\/p.cg.is m=1:=fun m=>by
 have h1:=k.top m
 have h2:=k.wait hp m
 have hl:p.low=9223372036854775807:=by simp[PM.low,hp]
 rw[jr,hl,if_pos hg];(repeat' split)<;>omega
end Go.Bt
namespace Go.Ai
open Go.Bt
structure FF (hp:Heap) (nx rt rp rd:Nat) (F:List Nat) (p:PM) (root:Bs) (view:Nat->Bs) (B:Nat):Prop where
 row:∃c,hp rt=some [.ptr rp 0 0::c]
 lt:rt<nx
 pg:iS hp nx rp rd F p root view B
 hB:B<=1000000000
theorem FF.ro {hp nx hp' nx' rt rp rd F p root view B} (h:FF hp nx rt rp rd F p root view B) (k:Ro hp nx hp' nx'):FF hp' nx' rt rp rd F p root view B:=by
 obtain ⟨c,hc⟩:=h.row
 exact ⟨⟨c,by rw[k.ah rt h.lt];exact hc⟩,zU h.lt k.le,h.pg.ro k,h.hB⟩
theorem Mx {b:Bs} {k g:Nat} {s:Bs} (h:mu b=some (k,g,s)):s.length<=492/\k<=255:=by
 unfold mu at h
 split at h
 ·cases h
 ·split at h
  ·rename_i h1 h2
   simp only[zOi,zPi]at h
   obtain ⟨rfl,rfl,rfl⟩:=h
   have:=pX (b:=b) (i:=2) (n:=1) rfl
   exact ⟨by simp;omega,by omega⟩
  ·cases h
theorem iS.Cg {hp nx rp rd F p root view B} (h:iS hp nx rp rd F p root view B) {n k:Nat} {s:Bs} (e:p.read n=some (k,s)):s.length<=492/\k<=255:=by
 obtain ⟨cQ,rm,Fd,h1,rfl⟩:=h
 obtain ⟨e1,e2,e3⟩:=A2 e
 obtain ⟨a,b⟩:=xv e1
 rw[h1.rdv n a b,zC]at e3
 obtain ⟨⟨k',g,s'⟩,e4,e5⟩:=e3
 simp only[zPi]at e5
 obtain ⟨rfl,rfl⟩:=e5
 exact Mx e4
theorem iS.tz {hp nx rp rd F p root view B} (h:iS hp nx rp rd F p root view B) {n:Nat} {nd:Nd} (e:fN p.read n=some nd):ax nd=true/\aw nd<=492/\nd.keys.length<=492/\nd.items.length<=492/\nd.kids.length<=493:=by
 unfold fN at e
 split at e
 ·rename_i k s hs
  obtain ⟨d1,d2,d3,d4,d5⟩:=C1 e
  have hl:=(h.Cg hs).1
  rw[<-d2]at hl
  obtain ⟨l1,l2,l3⟩:=AZ d4 492 hl
  exact ⟨d4,by simpa [aw,d4] using hl,l1,l2,l3⟩
 ·cases e
theorem f35 {hp nx rt rp rd F p root view B} (h:FF hp nx rt rp rd F p root view B):aZ E 35 [.ptr rt 0 0] hp nx (iV 0) hp nx .e:=by
 obtain ⟨c,hc⟩:=h.row
 refine dx e35 rfl ?_
 simp[c35,hc]
 exact fun r=>.inl rfl
theorem f66 (e:Int) (hp nx):aZ E 66 [iV e] hp nx (.v (.int .i64 (if e=0\/e=9 then e else 10))) hp nx .p:=by
 refine aF e66 rfl (by simp) ?_ hp nx
 by_cases h0:e=0
 ·simp[c66,h0]
 ·by_cases h9:e=9
  ·simp[c66,h9]
  ·simp[c66,h0,h9]
def sa (rd:fE) (n:Nat) (v:AV):Prop:=match fN rd n with
 |some nd=>∃y,iq nd y/\v=.bE [y,.v (.int .i64 0)]
 |none=>v=.bE [ez,.v (.int .i64 10)]
theorem f36 {hp nx rt rp rd F p root view B} (h:FF hp nx rt rp rd F p root view B) (n:Nat) :
  ∃v hp' nx',aZ E 36 [.ptr rt 0 0,iV n] hp nx v hp' nx' .e/\sa p.read n v/\Ro hp nx hp' nx':=by
 refine an (P:=fun v hp' nx'=>sa p.read n v/\Ro hp nx hp' nx') e36 (args:=[.ptr rt 0 0,iV n]) rfl (hp:=hp) (nx:=nx) ?_
 have Ni:Ro hp nx (ab hp nx (some [[.v (.bool false),nS,nS,nS]])) (nx+1):=⟨by omega,fun r hr=>by simp[show ¬r=nx by omega]⟩
 have h1:=h.ro Ni
 obtain ⟨Wa,MA,e,r1,he,cU⟩:=f65 h1.pg n h1.hB
 obtain ⟨c,hc⟩:=h1.row
 have bt:¬rt=nx:=by have:=h.lt;omega
 simp only[cd,bt,if_false]at hc
 have hx:Wa nx=some [[.v (.bool false),nS,nS,nS]]:=by rw[cU.ah nx (by omega)];simp
 have hle:=cU.le
 have RM:=Ni.trans cU
 simp[c36,bt,hc]
 refine ae r1 ?_
 cases hr:p.read n with
 |none =>
  have he0:¬e=0:=by omega
  have r2:=f66 e Wa MA
  rw[if_neg (by omega)]at r2
  simp[nV,hr,he0]
  refine ap r2 ?_
  simp[hx,aa]
  exact ⟨by simp[sa,fN,hr,ez],RM.le,fun r se=>by simp[show ¬r=nx by omega];exact RM.ah r se⟩
 |some x =>
  obtain ⟨k,b⟩:=x
  obtain ⟨v,hv,r2⟩:=f67 k b
  simp[nV,hr]
  refine ap (r2 _ _) ?_
  cases hd:AH k b with
  |none =>
   have RE:=hv.2 hd
   subst RE
   have r3:=f66 11 (ab Wa MA (some [[.v (.bool false),nS,nS,nS]])) (MA+1)
   have K5:¬nx=MA:=by omega
   simp[ez,aa]
   refine ap (by simpa [aG] using r3) ?_
   simp[hx,aa,K5]
   exact ⟨by simp[sa,fN,hr,hd,ez],by omega,fun r se=>by simp[show ¬r=nx by omega,show ¬r=MA by omega];exact RM.ah r se⟩
  |some nd =>
   obtain ⟨y,hy,rfl⟩:=hv.1 nd hd
   obtain ⟨b0,k1,k2,k3,k4,i1,i2,i3,i4,d1,d2,d3,d4,rfl⟩:=hy.shape
   have r3:=fun hp nx=>f66 0 hp nx
   have K5:¬nx=MA:=by omega
   simp[aa]
   refine ap (r3 _ _) ?_
   simp[hx,aa,K5]
   exact ⟨by simp only[sa,fN,hr,hd];exact ⟨_,hy,rfl⟩,by omega,fun r se=>by simp[show ¬r=nx by omega,show ¬r=MA by omega];exact RM.ah r se⟩
end Go.Ai
namespace Go.Ai
open Go.Bt
theorem Vc {a y k:Nat} (hy:y<2 ^ k) (h:a*2 ^ k+y<9223372036854775808):dJ .or (iV (a*2 ^ k:Nat)) (iV y)=some (iV (a*2 ^ k+y:Nat)):=by
 have h1:(BitVec.ofInt (IntKind.bits .i64) ((a*2 ^ k:Nat):Int))=BitVec.ofNat 64 (a*2 ^ k):=BitVec.ofInt_natCast ..
 have h2:(BitVec.ofInt (IntKind.bits .i64) (y:Int))=BitVec.ofNat 64 y:=BitVec.ofInt_natCast ..
 have h3:(BitVec.ofNat 64 (a*2 ^ k)).toNat=a*2 ^ k:=by rw[BitVec.toNat_ofNat,show (2:Nat) ^ 64=18446744073709551616 from rfl];omega
 have h4:(BitVec.ofNat 64 y).toNat=y:=by rw[BitVec.toNat_ofNat,show (2:Nat) ^ 64=18446744073709551616 from rfl];omega
 have h5:=Nat.shiftLeft_add_eq_or_of_lt hy a
 rw[Nat.shiftLeft_eq]at h5
 have h6:(BitVec.ofNat 64 (a*2 ^ k) ||| BitVec.ofNat 64 y).toNat=a*2 ^ k+y:=by rw[BitVec.toNat_or,h3,h4,h5]
 show some (AV.v (.int .i64 (IntKind.wrap .i64 (((BitVec.ofInt (IntKind.bits .i64) ((a*2 ^ k:Nat):Int)) ||| (BitVec.ofInt (IntKind.bits .i64) (y:Int))).toNat:Int))))=_
 rw[h1,h2]
 exact (congrArg (fun n:Nat=>some (AV.v (.int .i64 (IntKind.wrap .i64 (n:Int))))) h6).trans (by show some (AV.v (.int .i64 (IntKind.wrap .i64 ((a*2 ^ k+y:Nat):Int))))=_;rw[aj (by omega) (by omega)])
theorem Q6 {x k:Nat} (hk:k<=24) (hx:x<256) {kk:IntKind}:dJ .shl (iV x) (.v (.int kk (k:Int)))=some (iV (x*2 ^ k:Nat)):=by
 have h1:x*2 ^ k<=255*2 ^ 24:=qu (by omega) (wu (by omega) hk)
 have h2:Nat.min (k:Int).toNat (IntKind.bits .i64)=k:=by simp only[zl];show Nat.min k 64=k;exact qJ (by omega)
 show B9 .shl .i64 (x:Int) (k:Int)=_
 simp only[B9]
 rw[if_neg (by omega),h2]
 have h3:(x:Int)*2 ^ k=((x*2 ^ k:Nat):Int):=by norm_cast
 rw[h3,aj (by omega) (by omega)]
theorem Gv {a y m:Nat} (k:Nat) (hm:m=2 ^ k) (hy:y<m) (h:a*m+y<9223372036854775808):dJ .or (iV (a*m:Nat)) (iV y)=some (iV (a*m+y:Nat)):=by
 subst hm;exact Vc hy h
theorem B7 {x m k:Nat} (hm:m=2 ^ k) (hk:k<=24) (hx:x<256) {kk:IntKind}:dJ .shl (iV x) (.v (.int kk (k:Int)))=some (iV (x*m:Nat)):=by
 subst hm;exact Q6 hk hx
theorem Zx {x:Nat} (hx:x<256) (kk:IntKind):dJ .shl (iV x) (.v (.int kk 24))=some (iV (x*16777216:Nat)):=B7 (k:=24) (by decide) (by omega) hx
theorem Zy {x:Nat} (hx:x<256) (kk:IntKind):dJ .shl (iV x) (.v (.int kk 16))=some (iV (x*65536:Nat)):=B7 (k:=16) (by decide) (by omega) hx
theorem adN {x:Nat} (hx:x<256) (kk:IntKind):dJ .shl (iV x) (.v (.int kk 8))=some (iV (x*256:Nat)):=B7 (k:=8) (by decide) (by omega) hx
theorem UP (x c:Nat):x*65536+c*256=(x*256+c)*256:=by omega
theorem or3 {a b c d:Nat} (ha:a<256) (hb:b<256) (hc:c<256) (hd:d<256):∃y0 y1 y2 z1 z2:Int,(∀kk,dJ .shl (iV a) (.v (.int kk 24))=some (iV y0))/\(∀kk,dJ .shl (iV b) (.v (.int kk 16))=some (iV y1))/\(∀kk,dJ .shl (iV c) (.v (.int kk 8))=some (iV y2)) /\
  dJ .or (iV y0) (iV y1)=some (iV z1)/\dJ .or (iV z1) (iV y2)=some (iV z2)/\dJ .or (iV z2) (iV d)=some (.v (.int .i64 ((((a*256+b)*256+c)*256+d:Nat):Int))):=by
 have o1:=Gv (a:=a) (m:=16777216) 24 (by decide) (y:=b*65536) (by omega) (by omega)
 have o2:=Gv (a:=a*256+b) (m:=65536) 16 (by decide) (y:=c*256) (by omega) (by omega)
 have o3:=Gv (a:=(a*256+b)*256+c) (m:=256) 8 (by decide) (y:=d) (by omega) (by omega)
 have e1:a*16777216+b*65536=(a*256+b)*65536:=by omega
 have e2:=UP (a*256+b) c
 rw[e1]at o1
 rw[e2]at o2
 exact ⟨_,_,_,_,_,Zx ha,Zy hb,adN hc,o1,o2,o3⟩
theorem U0 {a b c d:UInt8}:aA [a,b,c,d]=((a.toNat*256+b.toNat)*256+c.toNat)*256+d.toNat:=by simp[aA];omega
def nW (rd:fE) (n:Nat):AV:=match rd n with
 |some (k,b)=>if k≠3\/b.length<5 then .bE [.str [],.v (.int .i64 0),.v (.int .i64 10)] else .bE [.str (b.drop 4),.v (.int .i64 (aA (b.take 4))),.v (.int .i64 0)]
 |none=>.bE [.str [],.v (.int .i64 0),.v (.int .i64 10)]
theorem f106 {hp nx rt rp rd F p root view B} (h:FF hp nx rt rp rd F p root view B) (n:Nat) :
  ∃hp' nx',aZ E 106 [.ptr rt 0 0,iV n] hp nx (nW p.read n) hp' nx' .e/\Ro hp nx hp' nx':=by
 have main:=an (P:=fun v hp' nx'=>v=nW p.read n/\Ro hp nx hp' nx') e106 (args:=[.ptr rt 0 0,iV n]) rfl (hp:=hp) (nx:=nx) ?_
 ·obtain ⟨v,hp',nx',h1,rfl,h2⟩:=main
  exact ⟨hp',nx',h1,h2⟩
 obtain ⟨Wa,MA,e,r1,he,cU⟩:=f65 h.pg n h.hB
 obtain ⟨c,hc⟩:=h.row
 simp[c106,hc]
 refine ae r1 ?_
 cases hr:p.read n with
 |none =>
  have he0:¬e=0:=by omega
  have r2:=f66 e Wa MA
  rw[if_neg (by omega)]at r2
  simp[nV,hr,he0]
  refine ap r2 ?_
  simp[nW,hr]
  exact cU
 |some x =>
  obtain ⟨k,b⟩:=x
  obtain ⟨QL,lK⟩:=h.pg.Cg hr
  by_cases hk:k=3
  ·subst hk
   by_cases h5:b.length<5
   ·have h5I:(b.length:Int)<5:=by omega
    simp[nV,hr,h5,h5I,nW]
    exact cU
   ·have h5I:¬(b.length:Int)<5:=by omega
    match b,h5 with
    |b0::b1::b2::b3::rest,h5 =>
     have c0:∀x:UInt8,IntKind.wrap .i64 (x.toNat:Int)=(x.toNat:Int):=fun x=>by have:=x.toNat_lt;rw[aj]<;>omega
     have l0:=b0.toNat_lt;have l1:=b1.toNat_lt;have l2:=b2.toNat_lt;have l3:=b3.toNat_lt
     obtain ⟨y0,y1,y2,z1,z2,s0,s1,s2,o1,o2,o3⟩:=or3 (show b0.toNat<256 by omega) (show b1.toNat<256 by omega) (show b2.toNat<256 by omega) (show b3.toNat<256 by omega)
     rw[<-U0]at o3
     have gd:¬((rest.length:Int)+1+1+1+1<5):=by simp at h5;omega
     have EB:nW p.read n=.bE [.str rest,.v (.int .i64 (aA [b0,b1,b2,b3])),iV 0]:=by
      simp only[nW,hr];rw[if_neg (by rintro (e|e);exact e rfl;exact h5 e)];rfl
     have Bm:eS (.str (b0::b1::b2::b3::rest)) (some (iV 4)) none=some (.str rest):=by
      have hb:bV (b0::b1::b2::b3::rest).length (b0::b1::b2::b3::rest).length (some (.v (.int .i64 (4:Nat)))) none none=some (4,(b0::b1::b2::b3::rest).length,none):=sW (by simp)
      have e:(4:Int)=((4:Nat):Int):=rfl
      simp only[eS]
      rw[e,hb];simp
     rw[EB]
     simp[nV,hr,gd,c0,s0,s1,s2,o1,o2,o3,Bm,-SG,-P6]
     exact cU
    |[],h5=>simp at h5
    |[_],h5=>simp at h5
    |[_,_],h5=>simp at h5
    |[_,_,_],h5=>simp at h5
  ·have Iw:¬(k:Int)=3:=by omega
   simp[nV,hr,Iw,hk,nW]
   exact cU
end Go.Ai
namespace Go.Ai
open Go.Bt
def HI (hp:Heap) (nx:Nat) (l:List UInt8) (y:AV):Prop :=
 (y=nS/\l=[])\/∃q es k,q+1<nx/\y=.sl q 1 0 l.length none/\hp (q+1)=some [[.ty 5 k]]/\hp q=some es/\l.length<=es.length/\es.take l.length=bytesOf l
theorem HI.xC {hp:Heap} {nx:Nat} {l m:List UInt8} {y:AV} (h:HI hp nx l y) (hl:l.length+m.length<=1000000000) :
  ∃y' hp' nx',va 5 y (bytesOf m) hp nx=some (y',hp',nx')/\HI hp' nx' (l++m) y'/\nx<=nx'/\(∀p,p<nx->p∉bc y->hp' p=hp p)/\∀p∈bc y',p∈bc y\/nx<=p:=by
 rcases h with ⟨rfl,rfl⟩|⟨q,es,k,h1,rfl,h2,h3,h4,h5⟩
 ·by_cases hm:m=[]
  ·subst hm
   exact ⟨nS,hp,nx,rfl,.inl ⟨rfl,rfl⟩,zD _,fun _ _ _=>rfl,by simp⟩
  ·have rq:m.length≠0:=by simpa using hm
   refine ⟨.sl nx 1 0 m.length none,ab (ab hp nx (some (bytesOf m))) (nx+1) (some [[.ty 5 0]]),nx+2,?_,?_,by omega,?_,?_⟩
   ·simp only[va,aJ]
    rw[if_neg rq,if_pos (by simp only[zS]at hl;omega)]
   ·refine .inr ⟨nx,bytesOf m,0,by omega,rfl,by simp,by simp,by simp[aJ],?_⟩
    simp only[zh]
    rw[<-aJ (l:=m)];exact zW
   ·intro p hp1 _;simp[show ¬p=nx by omega,show ¬p=nx+1 by omega]
   ·intro p hp1;simp at hp1;right;omega
 ·by_cases hc:l.length+m.length<=es.length
  ·refine ⟨.sl q 1 0 (l.length+m.length) none,ab hp q (some (aa es l.length (bytesOf m))),nx,?_,?_,zD _,?_,?_⟩
   ·simp only[va,h2,h3,aJ,and_self,if_true]
    rw[if_pos ⟨trivial,h4⟩,if_pos hc]
   ·have Bm:(aa es l.length (bytesOf m)).take (l++m).length=bytesOf (l++m):=by
     have e1:(bytesOf m).length=m.length:=aJ
     simp only[aa,h5]
     rw[zF,zG,List.take_append,aJ]
     have:(bytesOf l).take (l.length+m.length)=bytesOf l:=zI (by rw[aJ];omega)
     rw[this,wa,wK (by rw[e1];omega),zI (by rw[e1];omega)]
     simp[bytesOf]
    refine .inr ⟨q,aa es l.length (bytesOf m),k,h1,by simp,by simp[h2],by simp,?_,Bm⟩
    simp only[aa,zG,h5,aJ,wN];omega
   ·intro p hp1 aT;simp at aT;simp[aT]
   ·intro p hp1;left;simpa using hp1
  ·refine ⟨.sl nx 1 0 (l.length+m.length) none,ab (ab (ab hp q none) nx (some (es.take l.length++bytesOf m))) (nx+1) (some [[.ty 5 0]]),nx+2,?_,?_,by omega,?_,?_⟩
   ·simp only[va,h2,h3,aJ,and_self,if_true]
    rw[if_pos ⟨trivial,h4⟩,if_neg hc,if_pos (by omega)]
   ·refine .inr ⟨nx,es.take l.length++bytesOf m,0,by omega,by simp,by simp,by simp,?_,?_⟩
    ·rw[h5];simp[aJ]
    ·rw[h5]
     have:bytesOf l++bytesOf m=bytesOf (l++m):=by simp[bytesOf]
     rw[this,<-aJ (l:=l++m)];exact zW
   ·intro p hp1 aT;simp at aT;simp[aT,show ¬p=nx by omega,show ¬p=nx+1 by omega]
   ·intro p hp1;simp at hp1;right;omega
theorem HI.other {hp hp':Heap} {nx nx':Nat} {l:List UInt8} {y:AV} (h:HI hp nx l y) (hn:nx<=nx') (hk:∀p,p<nx->(∀q∈bc y,p=q\/p=q+1)->bc y≠[]->hp' p=hp p):HI hp' nx' l y:=by
 rcases h with ⟨rfl,rfl⟩|⟨q,es,k,h1,rfl,h2,h3,h4,h5⟩
 ·exact .inl ⟨rfl,rfl⟩
 ·exact .inr ⟨q,es,k,by omega,rfl,by rw[hk (q+1) h1 (by simp) (by simp),h2],by rw[hk q (by omega) (by simp) (by simp),h3],h4,h5⟩
theorem HI.set {hp hp':Heap} {nx r:Nat} {l:List UInt8} {y:AV} {b:bN} (h:HI hp nx l y) (hr:hp r=some b) (hb:b.length=1/\(∀x∈b,x.length=2)) (h5:r∉bc y) (hk:∀p,p≠r->hp' p=hp p):HI hp' nx l y:=by
 refine h.other (zD _) fun p h1 h2 h3=>hk p ?_
 rintro rfl
 rcases h with ⟨rfl,rfl⟩|⟨q,es,k,h1,rfl,h6,h7,_⟩
 ·exact h3 rfl
 ·rcases h2 q (by simp) with e|e
  ·exact h5 (by simp[e])
  ·subst e;rw[hr]at h6;simp only[zOi]at h6;subst h6
   have:=hb.2 [AV.ty 5 k] (by simp)
   simp at this
theorem te:∀l:List UInt8,Ap (bytesOf l)=some l
 |[]=>rfl
 |b::l=>by
  have ih:=te l
  simp only[bytesOf,wI,Ap,pE]at ih ⊢
  rw[ih];simp
structure JW (hp:Heap) (nx r:Nat) (l:Bs) (y:AV):Prop where
 lt:r+1<nx
 ty:hp (r+1)=some [[.ty 167 2]]
 at':∃a,hp r=some [[a,y]]/\(a=.v (.pointer none)\/a=.ptr r 0 0)
 Xi:HI hp nx l y
 n1:r∉bc y
 n2:r+1∉bc y
def lG (r:Nat) (y:AV):List Nat:=r::(r+1)::(bc y++(bc y).map (· + 1))
theorem JW.ah {hp hp':Heap} {nx nx' r:Nat} {l:Bs} {y:AV} (h:JW hp nx r l y) (hn:nx<=nx') (hk:∀q∈lG r y,hp' q=hp q):JW hp' nx' r l y:=by
 obtain ⟨a,h1,h2⟩:=h.at'
 refine ⟨by have:=h.lt;omega,by rw[hk _ (by simp[lG])];exact h.ty,⟨a,by rw[hk _ (by simp[lG])];exact h1,h2⟩,h.Xi.other hn fun p p1 p2 p3 => ?_,h.n1,h.n2⟩
 rcases h.Xi with ⟨rfl,_⟩|⟨q,es,k,_,rfl,_⟩
 ·exact absurd rfl p3
 ·rcases p2 q (by simp) with e|e
  ·exact hk p (by simp[lG,e])
  ·exact hk p (by simp[lG,e])
theorem JW.H8 {hp:Heap} {nx r:Nat} {l:Bs} {y:AV} (h:JW hp nx r l y):∀q∈lG r y,q<nx:=by
 intro q hq
 have:=h.lt
 simp only[lG,zH,zJ,wk]at hq
 rcases hq with rfl|rfl|hq|⟨z,hz,rfl⟩
 ·omega
 ·omega
 ·rcases h.Xi with ⟨rfl,_⟩|⟨q',es,k,h1,rfl,_⟩
  ·simp at hq
  ·simp at hq;omega
 ·rcases h.Xi with ⟨rfl,_⟩|⟨q',es,k,h1,rfl,_⟩
  ·simp at hz
  ·simp at hz;omega
theorem HI.len {hp nx l y} (h:HI hp nx l y):tD y=some (iV l.length):=by
 rcases h with ⟨rfl,rfl⟩|⟨q,es,k,h1,rfl,_⟩<;>simp
theorem HI.one {hp nx l y} (h:HI hp nx l y):y.cells=[y]/\y.one=true:=by
 rcases h with ⟨rfl,rfl⟩|⟨q,es,k,h1,rfl,_⟩<;>exact ⟨rfl,rfl⟩
theorem f130 (hp:Heap) (nx r:Nat) (a y:AV) (ha:a=.v (.pointer none)\/a=.ptr r 0 0) (h:hp r=some [[a,y]]) (ht:hp (r+1)=some [[.ty 167 2]]) :
  ∃hp',aZ E 130 [.ptr r 0 0] hp nx (.bE []) hp' nx .e/\hp' r=some [[.ptr r 0 0,y]]/\∀p,p≠r->hp' p=hp p:=by
 have main:=an (P:=fun v hp' nx'=>v=.bE []/\nx'=nx/\hp' r=some [[.ptr r 0 0,y]]/\∀p,p≠r->hp' p=hp p) e130 (args:=[.ptr r 0 0]) rfl (hp:=hp) (nx:=nx) ?_
 ·obtain ⟨v,hp',nx',h1,rfl,rfl,h2⟩:=main
  exact ⟨hp',h1,h2⟩
 ·rcases ha with rfl|rfl
  ·simp[c130,h,ht]
   refine ap (UY _ _ _) ?_
   simp[h,ht,aa]
   exact fun p h1 h2=>absurd h2 h1
  ·simp[c130,h,ht]
theorem f108 {hp:Heap} {nx r:Nat} {l:Bs} {y:AV} (h:JW hp nx r l y):aZ E 108 [.ptr r 0 0] hp nx (iV l.length) hp nx .e:=by
 obtain ⟨a,h1,h2⟩:=h.at'
 have hl:=h.Xi.len
 refine dx e108 rfl ?_
 simp[c108,h1,hl]
 exact fun r=>.inl rfl
theorem f107 {hp:Heap} {nx r:Nat} {l:Bs} {y:AV} (h:JW hp nx r l y) (s:Bs) (hl:l.length+s.length<=1000000000) :
  ∃v hp' nx' y',aZ E 107 [.ptr r 0 0,.str s] hp nx v hp' nx' .e/\JW hp' nx' r (l++s) y'/\nx<=nx'/\(∀q,q<nx->q∉lG r y->hp' q=hp q)/\∀q∈lG r y',q∈lG r y\/nx<=q:=by
 have main:=an (P:=fun v hp' nx'=>∃y',JW hp' nx' r (l++s) y'/\nx<=nx'/\(∀q,q<nx->q∉lG r y->hp' q=hp q)/\∀q∈lG r y',q∈lG r y\/nx<=q) e107 (args:=[.ptr r 0 0,.str s]) rfl (hp:=hp) (nx:=nx) ?_
 ·obtain ⟨v,hp',nx',h1,y',h2⟩:=main
  exact ⟨v,hp',nx',y',h1,h2⟩
 obtain ⟨a,h1,h2⟩:=h.at'
 have az:=h.lt
 obtain ⟨hp1,r1,q1,k1⟩:=f130 hp nx r a y h2 h1 h.ty
 have t1:HI hp1 nx l y:=h.Xi.set h1 (by simp) h.n1 k1
 have w1:hp1 (r+1)=some [[.ty 167 2]]:=by rw[k1 _ (by omega)];exact h.ty
 have hx:aR hp1 1 (.str s)=some (bytesOf s):=rfl
 obtain ⟨y',aT,ar,g1,g2,g3,g4,g5⟩:=t1.xC (m:=s) hl
 have cS:=g2.one
 have n1:r∉bc y':=fun hh=>(g5 r hh).elim h.n1 (by omega)
 have n2:r+1∉bc y':=fun hh=>(g5 _ hh).elim h.n2 (by omega)
 have v2:aT r=some [[.ptr r 0 0,y]]:=by rw[g4 r (by omega) h.n1];exact q1
 have w2:aT (r+1)=some [[.ty 167 2]]:=by rw[g4 (r+1) (by omega) h.n2];exact w1
 simp[c107]
 refine ae r1 ?_
 simp[q1,DH,hx,my,g1,v2,cS,aa]
 refine ⟨y',⟨by omega,by simp[w2],⟨_,by simp,.inr rfl⟩,g2.set v2 (by simp) n1 (fun p hp=>by simp[hp]),n1,n2⟩,g3,fun q u1 u2 => ?_,fun q hq => ?_⟩
 ·simp only[lG,zH,zJ,not_or]at u2
  simp[u2.1]
  rw[g4 q u1 u2.2.2.1,k1 q u2.1]
 ·simp only[lG,zH,zJ,wk]at hq ⊢
  rcases hq with hq|hq|hq|⟨z,hz,rfl⟩
  ·exact .inl (.inl hq)
  ·exact .inl (.inr (.inl hq))
  ·exact (g5 q hq).imp (fun e=>.inr (.inr (.inl e))) id
  ·rcases g5 z hz with e|e
   ·exact .inl (.inr (.inr (.inr ⟨z,e,rfl⟩)))
   ·exact .inr (by omega)
theorem f109 {hp:Heap} {nx r:Nat} {l:Bs} {y:AV} (h:JW hp nx r l y) (hl:l.length<=1000000000) (bt:l≠[]) :
  ∃hp' nx',aZ E 109 [.ptr r 0 0] hp nx (.str l) hp' nx' .e/\nx<=nx'/\∀q,q<nx->q∉lG r y->hp' q=hp q:=by
 have main:=an (P:=fun v hp' nx'=>v=.str l/\nx<=nx'/\∀q,q<nx->q∉lG r y->hp' q=hp q) e109 (args:=[.ptr r 0 0]) rfl (hp:=hp) (nx:=nx) ?_
 ·obtain ⟨v,hp',nx',h1,rfl,h2⟩:=main
  exact ⟨hp',nx',h1,h2⟩
 obtain ⟨a,h1,h2⟩:=h.at'
 rcases h.Xi with ⟨rfl,rfl⟩|⟨q,es,k,g1,rfl,g2,g3,g4,g5⟩
 ·exact absurd rfl bt
 ·have lB:0<l.length:=zt.2 bt
  simp[c109,h1,lB,g2,g3,g5,te]
  exact ⟨⟨g4,by omega⟩,fun q1 u1 u2 e=>absurd (by rw[e];simp[lG]) u2⟩
end Go.Ai
namespace Go.Ai
open Go.Bt
structure SyS {σ:Type} (Sy:Heap->Nat->List Nat->σ->Prop) (rt:Nat) (pm:σ->PM):Prop where
 rd:∀hp nx F s,Sy hp nx F s->∃rp vR Fp root view B,FF hp nx rt rp vR Fp (pm s) root view B
 ah:∀hp nx F s hp' nx',Sy hp nx F s->nx<=nx'->(∀r∈F,hp' r=hp r)->Sy hp' nx' F s
 lt:∀hp nx F s,Sy hp nx F s->∀r∈F,r<nx
def dF {σ:Type} (pm:σ->PM) (st:Nat->σ->Option σ) (size:Nat):Nat->Nat->Bs->σ->Option (Bs×σ)
 |_,0,acc,s=>if acc.length=size then some (acc,s) else none
 |0,_+1,_,_=>none
 |f+1,n+1,acc,s=>match st (n+1) s with
  |some s'=>(match (pm s').read (n+1) with
   |some (kind,b)=>if kind≠3\/b.length<5 then none
     else if (aA (b.take 4)≠0/\(b.drop 4).length≠488)\/size<(acc++b.drop 4).length then none
     else dF pm st size f (aA (b.take 4)) (acc++b.drop 4) s'
   |none=>none)
  |none=>none
def Dq {σ:Type} (Sy:Heap->Nat->List Nat->σ->Prop) (st:Nat->σ->Option σ) (k:Nat) (first cap:List AV) (K:Nat->σ->Prop):Prop :=
 ∀f n s hp nx F,K (f+1) s->n<4294967296->Sy hp nx F s->∃hp' nx' F' e,aZ E k (first++[.v (.int .i64 (n:Nat))]++cap) hp nx (.v (.int .i64 e)) hp' nx' .e/\Fr F hp nx F' hp' nx'/\match st n s with
  |some s'=>e=0/\Sy hp' nx' F' s'/\K f s'
  |none=>e=10/\∃s',Sy hp' nx' F' s'
theorem f70 {σ:Type} {Sy:Heap->Nat->List Nat->σ->Prop} {rt:Nat} {pm:σ->PM} (S:SyS Sy rt pm) {st:Nat->σ->Option σ} {k:Nat} {first cap:List AV} {K:Nat->σ->Prop} (hE:Dq Sy st k first cap K)
  {x:bD} {size pg:Nat} (hs:x.s=size) (hp':x.p=pg) (hz:0<size) (VH:size<=60000) (Aw:pg<4294967296) {hp:Heap} {nx:Nat} {F:List Nat} {s:σ} (hK:K (size+1) s) (h:Sy hp nx F s) :
  ∃v hp' nx' F',aZ E 70 [.ptr rt 0 0,.agg x.cells,.fn (.func k) first cap] hp nx v hp' nx' .e/\Fr F hp nx F' hp' nx'/\match dF pm st size (size+1) pg [] s with
   |some r=>v=.bE [.str r.1,.v (.int .i64 0)]/\Sy hp' nx' F' r.2
   |none=>v=.bE [.str [],.v (.int .i64 10)]/\∃s',Sy hp' nx' F' s':=by
 have main:=an (P:=fun v hp' nx'=>∃F',Fr F hp nx F' hp' nx'/\match dF pm st size (size+1) pg [] s with
   |some r=>v=.bE [.str r.1,.v (.int .i64 0)]/\Sy hp' nx' F' r.2
   |none=>v=.bE [.str [],.v (.int .i64 10)]/\∃s',Sy hp' nx' F' s') e70 (args:=[.ptr rt 0 0,.agg x.cells,.fn (.func k) first cap]) rfl (hp:=hp) (nx:=nx) ?_
 ·obtain ⟨v,hp',nx',h1,F',h2⟩:=main
  exact ⟨v,hp',nx',F',h1,h2⟩
 have yD:=S.lt _ _ _ _ h
 have Bk:x.cells=[.str x.v,iV pg,iV size]:=by simp[bD.cells,hs,hp']
 simp[c70,Bk,show ¬nx=nx+1+1 by omega]
 generalize hH:ab (ab (ab hp nx (some [[.str x.v,iV pg,iV size]])) (nx+1) (some [[.v (.pointer none),nS]])) (nx+1+1) (some [[.ty 167 2]])=H
 have hHk:∀r,r<nx->H r=hp r:=fun r hr=>by rw[<-hH];simp[show ¬r=nx by omega,show ¬r=nx+1 by omega,show ¬r=nx+1+1 by omega]
 have hHx:H nx=some [[.str x.v,iV pg,iV size]]:=by rw[<-hH];simp[show ¬nx=nx+1+1 by omega]
 have hB:JW H (nx+1+2) (nx+1) [] nS:=⟨by omega,by rw[<-hH];simp,⟨.v (.pointer none),by rw[<-hH];simp,.inl rfl⟩,.inl ⟨rfl,rfl⟩,by simp,by simp⟩
 have hS:Sy H (nx+1+2) F s:=S.ah _ _ _ _ _ _ h (by omega) fun r hr=>hHk r (yD r hr)
 have hF:Fr F hp nx F H (nx+1+2):=⟨by omega,fun r hr _=>hHk r hr,fun r hr=>.inl hr⟩
 refine aL (I:=fun (g:Nat×Nat×Bs×σ) t=>∃F' y,t.tm 9=iV g.2.1/\t.tm 0=.ptr rt 0 0/\t.tm 2=.fn (.func k) first cap/\t.tm 4=.ptr nx 0 0/\t.tm 8=.ptr (nx+1) 0 0 /\
   t.hp nx=some [[.str x.v,iV pg,iV size]]/\JW t.hp t.nx (nx+1) g.2.2.1 y/\(∀q∈lG (nx+1) y,nx<q/\q∉F')/\nx∉F'/\nx<t.nx/\Sy t.hp t.nx F' g.2.2.2/\Fr F hp nx F' t.hp t.nx /\
   K g.1 g.2.2.2/\g.2.1<4294967296/\size+1<=g.1+g.2.2.1.length/\g.2.2.1.length<=size/\dF pm st size (size+1) pg [] s=dF pm st size g.1 g.2.1 g.2.2.1 g.2.2.2) (fun g=>g.1) (size+1,pg,[],s) ?_ ?_
 ·refine ⟨F,nS,by simp,by simp,by simp,by simp,by simp,hHx,hB,?_,?_,by simp only;omega,hS,hF,hK,Aw,by simp,by simp,rfl⟩
  ·intro q hq
   simp[lG]at hq
   rcases hq with rfl|rfl
   ·exact ⟨by omega,fun e=>by have:=yD _ e;omega⟩
   ·exact ⟨by omega,fun e=>by have:=yD _ e;omega⟩
  ·exact fun e=>by have:=yD _ e;omega
 rintro ⟨f,n,acc,σ1⟩ tm hp1 nx1 ⟨F1,y,t9,t0,t2,t4,t8,KV,ta,iE,Ey,aaP,vB,nf,hK1,aaW,VT,VS,hch⟩
 simp only at t9 t0 t2 t4 t8 KV ta iE Ey aaP vB nf hK1 aaW VT VS hch
 rw[hch]
 cases n with
 |zero =>
  have hc0:dF pm st size f 0 acc σ1=if acc.length=size then some (acc,σ1) else none:=by cases f<;>rfl
  rw[hc0]
  have rl:=f108 ta
  simp[t9]
  by_cases he:acc.length=size
  ·have QG:(acc.length:Int)=(size:Int):=by omega
   rw[he]at rl
   obtain ⟨aT,ar,r2,l2,k2⟩:=f109 ta (by omega) (by intro e;rw[e]at he;simp at he;omega)
   simp[t8,t4,KV,he]
   refine ae rl ?_
   simp[t8,t4,KV]
   refine ae r2 ?_
   simp
   have aeK:=nf.le
   refine ⟨F1,⟨by omega,fun q u1 u2 => ?_,nf.sub⟩,?_⟩
   ·rw[k2 q (by omega) (fun e=>by have:=(iE q e).1;omega)];exact nf.ah q u1 u2
   ·exact S.ah _ _ _ _ _ _ vB l2 fun q hq=>k2 q (S.lt _ _ _ _ vB q hq) fun e=>(iE q e).2 hq
  ·have QG:¬(acc.length:Int)=(size:Int):=by omega
   simp[t8,t4,KV,he]
   refine ae rl ?_
   simp[t8,t4,KV,QG]
   exact ⟨F1,nf,_,vB⟩
 |succ n =>
  obtain ⟨f,rfl⟩:∃g,f=g+1:=⟨f-1,by omega⟩
  have aeK:=nf.le
  obtain ⟨aT,ar,F2,e,r2,CT,m2⟩:=hE f (n+1) σ1 hp1 nx1 F1 hK1 aaW vB
  have Sc:=nf.trans CT
  have Az:=CT.le
  have CE:¬((n:Int)+1=0):=by omega
  simp[t9,CE,t2]
  refine ae (by simpa using r2) ?_
  cases bU:st (n+1) σ1 with
  |none =>
   rw[bU]at m2
   obtain ⟨rfl,s',m2⟩:=m2
   have hc:dF pm st size (f+1) (n+1) acc σ1=none:=by simp only[dF,bU]
   rw[hc]
   simp
   exact ⟨F2,Sc,s',m2⟩
  |some σ2 =>
   rw[bU]at m2
   obtain ⟨rfl,NR,T4⟩:=m2
   have VL:aT nx=some [[.str x.v,iV pg,iV size]]:=by rw[CT.ah nx aaP Ey];exact KV
   have vx:JW aT ar (nx+1) acc y:=ta.ah Az fun q hq=>CT.ah q (ta.H8 q hq) (iE q hq).2
   have FK:∀q∈lG (nx+1) y,nx<q/\q∉F2:=fun q hq=>⟨(iE q hq).1,fun e=>(CT.sub q e).elim (iE q hq).2 (by have:=ta.H8 q hq;omega)⟩
   have Bp:nx∉F2:=fun e=>(CT.sub nx e).elim Ey (by omega)
   obtain ⟨rp,vR,Fp,root,view,B,hR⟩:=S.rd _ _ _ _ NR
   obtain ⟨kF,r9,r3,DY⟩:=f106 hR (n+1)
   have K6:=DY.le
   have T3:=S.ah _ _ _ _ _ _ NR DY.le fun q hq=>DY.ah q (S.lt _ _ _ _ NR q hq)
   have WQ:Fr F hp nx F2 kF r9:=⟨by omega,fun q u1 u2=>by rw[DY.ah q (by omega)];exact Sc.ah q u1 u2,Sc.sub⟩
   have R8:JW kF r9 (nx+1) acc y:=vx.ah K6 fun q hq=>DY.ah q (vx.H8 q hq)
   have hx3:kF nx=some [[.str x.v,iV pg,iV size]]:=by rw[DY.ah nx (by omega)];exact VL
   simp[t0,t9]
   refine ae (by simpa using r3) ?_
   cases lj:(pm σ2).read (n+1) with
   |none =>
    have hc:dF pm st size (f+1) (n+1) acc σ1=none:=by simp only[dF,bU,lj]
    rw[hc]
    simp[nW,lj]
    exact ⟨F2,WQ,_,T3⟩
   |some z =>
    obtain ⟨kind,b⟩:=z
    by_cases hk:kind≠3\/b.length<5
    ·have hc:dF pm st size (f+1) (n+1) acc σ1=none:=by simp only[dF,bU,lj,if_pos hk]
     rw[hc]
     have hl:nW (pm σ2).read (n+1)=.bE [.str [],iV 0,iV 10]:=by simp only[nW,lj,if_pos hk]
     rw[hl]
     simp
     exact ⟨F2,WQ,_,T3⟩
    ·have hl:nW (pm σ2).read (n+1)=.bE [.str (b.drop 4),.v (.int .i64 (aA (b.take 4))),iV 0]:=by simp only[nW,lj,if_neg hk]
     rw[hl]
     have QL:=(hR.pg.Cg lj).1
     simp only[not_or,Nat.not_lt]at hk
     have Yf:¬(kind≠3\/b.length<5):=by simp only[not_or,Nat.not_lt];exact hk
     have QH:(b.drop 4).length=b.length-4:=by simp
     have aaM:aA (b.take 4)<4294967296:=by
      have:=oK (b.take 4)
      have e4:(b.take 4).length=4:=by simp;omega
      rw[e4]at this;exact this
     generalize aey:aA (b.take 4)=next at *
     generalize hd4:b.drop 4=d at *
     obtain ⟨v4,gb,tx,y4,r4,Yj,l4,k4,q4⟩:=f107 R8 d (by omega)
     have rl:=f108 Yj
     have iU:(acc++d).length=acc.length+d.length:=by simp
     have hx4:gb nx=some [[.str x.v,iV pg,iV size]]:=by rw[k4 nx (by omega) (fun e=>by have:=(FK nx e).1;omega)];exact hx3
     have Hd:=S.ah _ _ _ _ _ _ T3 l4 fun q hq=>k4 q (S.lt _ _ _ _ T3 q hq) fun e=>(FK q e).2 hq
     have NT:Fr F hp nx F2 gb tx:=⟨by omega,fun q u1 u2=>by rw[k4 q (by omega) (fun e=>by have:=(FK q e).1;omega)];exact WQ.ah q u1 u2,Sc.sub⟩
     have hcx:dF pm st size (f+1) (n+1) acc σ1=if (next≠0/\d.length≠488)\/size<(acc++d).length then none else dF pm st size f next (acc++d) σ2:=by
      simp only[dF,bU,lj,if_neg Yf,aey,hd4]
     rw[hcx]
     simp[t8]
     refine ae r4 ?_
     by_cases hA:next≠0/\d.length≠488
     ·rw[if_pos (.inl hA)]
      have a1:¬(next:Int)=0:=by have:=hA.1;omega
      have a2:¬(d.length:Int)=488:=by have:=hA.2;omega
      simp[a1,a2,hA.1,hA.2]
      exact ⟨F2,NT,_,Hd⟩
     ·have hq4:∀q∈lG (nx+1) y4,nx<q/\q∉F2:=fun q hq=>by
       rcases q4 q hq with hq|hq
       ·exact FK q hq
       ·exact ⟨by omega,fun e=>by have:=S.lt _ _ _ _ T3 q e;omega⟩
      rw[iU]at rl
      by_cases hB:size<acc.length+d.length
      ·rw[if_pos (.inr hB)]
       have hBI:(size:Int)<((acc.length+d.length:Nat):Int):=by omega
       by_cases h0:next=0
       ·have WU:(next:Int)=0:=by omega
        simp[h0]
        refine ae (by rw[t8];exact rl) ?_
        simp[t4,hx4,hBI,-Int.natCast_add,-Int.ofNat_lt]
        exact ⟨F2,NT,_,Hd⟩
       ·have WU:¬(next:Int)=0:=by omega
        have afb:d.length=488:=Decidable.byContradiction fun e=>hA ⟨h0,e⟩
        have NV:(d.length:Int)=488:=by omega
        simp[h0,NV]
        refine ae (by rw[t8];exact rl) ?_
        simp[t4,hx4,hBI,-Int.natCast_add,-Int.ofNat_lt]
        exact ⟨F2,NT,_,Hd⟩
      ·rw[if_neg (by rintro (e|e);exact hA e;exact hB e)]
       have hBI:¬(size:Int)<((acc.length+d.length:Nat):Int):=by omega
       by_cases h0:next=0
       ·have WU:(next:Int)=0:=by omega
        simp[h0]
        refine ae (by rw[t8];exact rl) ?_
        simp[t4,hx4,hBI,-Int.natCast_add,-Int.ofNat_lt]
        exact ⟨f,by omega,0,rfl,t0,t2,t8,acc++d,σ2,F2,y4,Yj,hq4,Bp,by omega,Hd,NT,T4,by omega,by rw[iU];have:=hk.2;omega,by rw[iU];omega,rfl⟩
       ·have WU:¬(next:Int)=0:=by omega
        have afb:d.length=488:=Decidable.byContradiction fun e=>hA ⟨h0,e⟩
        have NV:(d.length:Int)=488:=by omega
        simp[h0,NV]
        refine ae (by rw[t8];exact rl) ?_
        simp[t4,hx4,hBI,-Int.natCast_add,-Int.ofNat_lt]
        exact ⟨f,by omega,next,rfl,t0,t2,t8,acc++d,σ2,F2,y4,Yj,hq4,Bp,by omega,Hd,NT,T4,aaM,by rw[iU];have:=hk.2;omega,by rw[iU];omega,rfl⟩
end Go.Ai
namespace Go.Ai
open Go.Bt
theorem f71 (n:Int) (hp nx):aZ E 71 [iV n] hp nx (iV 0) hp nx .e:=by
 refine dx e71 rfl ?_
 simp[c71]
 exact fun r=>.inl rfl
def SyR (rt rp rd:Nat) (Fp:List Nat) (p:PM) (root:Bs) (view:Nat->Bs) (B:Nat) (ou:Heap) (hp:Heap) (nx:Nat) (F:List Nat) (_:Unit):Prop:=F=rt::Fp/\FF hp nx rt rp rd Fp p root view B/\∀r∈F,hp r=ou r
theorem syR {rt rp rd Fp p root view B ou}:SyS (SyR rt rp rd Fp p root view B ou) rt (fun _=>p) where
 rd:=fun hp nx F s h=>⟨rp,rd,Fp,root,view,B,h.2.1⟩
 ah:=fun hp nx F s hp' nx' ⟨e,h1,h2⟩ hn hk=>by
  subst e
  obtain ⟨c,hc⟩:=h1.row
  exact ⟨rfl,⟨⟨c,by rw[hk rt (by simp)];exact hc⟩,zU h1.lt hn,h1.pg.ah hn fun r hr=>hk r (by simp[hr]),h1.hB⟩,fun r hr=>by rw[hk r hr];exact h2 r hr⟩
 lt:=fun hp nx F s ⟨e,h1,h2⟩ r hr=>by
  subst e
  rcases zH.1 hr with rfl|hr
  ·exact h1.lt
  ·exact h1.pg.lt r hr
theorem U7 {rt rp rd Fp p root view B ou}:Dq (SyR rt rp rd Fp p root view B ou) (fun _ s=>some s) 71 [] [] (fun _ _=>True) :=
 fun f n s hp nx F _ _ h=>⟨hp,nx,F,0,f71 _ _ _,.refl,rfl,h,trivial⟩
theorem Fl (p:PM) (size:Nat):∀(f n:Nat) (acc:Bs) (ps:List Nat),dF (fun _=>p) (fun _ s=>some s) size f n acc ()=(gT p.read size f n acc ps).map fun r=>(r.1,())
 |f,0,acc,ps=>by
  have h1:dF (fun _=>p) (fun _ s=>some s) size f 0 acc ()=if acc.length=size then some (acc,()) else none:=by cases f<;>rfl
  have h2:gT p.read size f 0 acc ps=if acc.length=size then some (acc,ps) else none:=by cases f<;>rfl
  rw[h1,h2];split<;>rfl
 |0,n+1,acc,ps=>rfl
 |f+1,n+1,acc,ps=>by
  simp only[dF,gT]
  cases p.read (n+1) with
  |none=>rfl
  |some x =>
   obtain ⟨k,b⟩:=x
   simp only
   split
   ·rfl
   ·split
    ·rfl
    ·exact Fl p size f _ _ _
def BU (o:Option Bs):AV:=match o with
 |some v=>.bE [.str v,.v (.int .i64 0)]
 |none=>.bE [.str [],.v (.int .i64 10)]
theorem f38 {hp nx rt rp rd F p root view B} (h:FF hp nx rt rp rd F p root view B) {x:bD} (hx:jd x=true) :
  ∃hp' nx',aZ E 38 [.ptr rt 0 0,.agg x.cells] hp nx (BU (jh p.read x)) hp' nx' .e/\Ro hp nx hp' nx':=by
 have main:=an (P:=fun v hp' nx'=>v=BU (jh p.read x)/\Ro hp nx hp' nx') e38 (args:=[.ptr rt 0 0,.agg x.cells]) rfl (hp:=hp) (nx:=nx) ?_
 ·obtain ⟨v,hp',nx',h1,rfl,h2⟩:=main
  exact ⟨hp',nx',h1,h2⟩
 have ck:Ro hp nx (ab hp nx (some [x.cells])) (nx+1):=⟨by omega,fun r hr=>by simp[show ¬r=nx by omega]⟩
 have h1:=h.ro ck
 rcases hU hx with ⟨a1,a2,a3⟩|⟨pg,size,a1,a2,a3,a4,a5,a6,a7⟩
 ·have Bk:x.cells=[.str x.v,iV 0,iV 0]:=by simp[bD.cells,a1,a2]
  rw[Bk]at ck
  simp[c38,Bk]
  exact ⟨by simp[BU,jh,a1],ck⟩
 ·have Bk:x.cells=[.str x.v,iV pg,iV size]:=by simp[bD.cells,a1,a2]
  have ou:¬x.p=0:=by omega
  have hpI:¬pg=0:=by omega
  have hS:SyR rt rp rd F p root view B (ab hp nx (some [x.cells])) (ab hp nx (some [x.cells])) (nx+1) (rt::F) ():=⟨rfl,h1,fun _ _=>rfl⟩
  obtain ⟨v,hp',nx',F',r1,fr,m⟩:=f70 (syR (rt:=rt)) U7 (x:=x) (size:=size) (pg:=pg) a2 a1 (by omega) (by omega) (by omega) trivial hS
  rw[Fl p size _ _ _ []]at m
  have hv:jh p.read x=(gT p.read size (size+1) pg [] []).map (·.1):=by
   have e1:x.s.toNat=size:=by omega
   have e2:x.p.toNat=pg:=by omega
   simp only[jh,if_neg ou,uN,e1,e2]
  have CJ:∀F',SyR rt rp rd F p root view B (ab hp nx (some [x.cells])) hp' nx' F' ()->Fr (rt::F) (ab hp nx (some [x.cells])) (nx+1) F' hp' nx'->Ro hp nx hp' nx':=fun F' ⟨e,_,hk⟩ fr=>by
   subst e
   refine ⟨by have:=fr.le;omega,fun r hr => ?_⟩
   by_cases hm:r∈rt::F
   ·rw[hk r hm];exact ck.ah r hr
   ·rw[fr.ah r (by omega) hm];exact ck.ah r hr
  rw[hv]
  rw[Bk]at r1 CJ m fr
  simp[c38,Bk,hpI]
  refine ae r1 ?_
  cases hc:gT p.read size (size+1) pg [] [] with
  |none =>
   rw[hc]at m
   obtain ⟨rfl,s',m⟩:=m
   simp
   exact ⟨rfl,CJ F' m fr⟩
  |some y =>
   rw[hc]at m
   obtain ⟨rfl,m⟩:=m
   simp
   exact ⟨rfl,CJ F' m fr⟩
end Go.Ai
namespace Go.Ai
open Go.Bt
structure BO (hp:Heap) (rt rp root:Nat):Prop where
 row:∃c,hp rt=some [.ptr rp 0 0::iV root::c]
theorem uj {n:Nat} {es:List (List AV)} {x:AV} (h:fa n es x) {i:Nat} {c:List AV} (hi:es[i]?=some c) {k:IntKind}:b9 n x (.v (.int k (i:Int)))=some (.rp c):=by
 obtain ⟨nil,sz,cap,rfl,h1,h2⟩:=h
 exact dX ⟨h1,h2⟩ hi rfl
def ET (o:Option (Option Bs)):AV:=match o with
 |some (some v)=>.bE [.str v,.v (.bool true),.v (.int .i64 0)]
 |some none=>.bE [.str [],.v (.bool false),.v (.int .i64 0)]
 |none=>.bE [.str [],.v (.bool false),.v (.int .i64 10)]
theorem f10 {hp nx rt rp rd F p rootS view B} (h:FF hp nx rt rp rd F p rootS view B) {root:Nat} (hr:BO hp rt rp root) (key:Bs) :
  ∃hp' nx',aZ E 10 [.ptr rt 0 0,.str key] hp nx (ET (iG p.read key 12 root)) hp' nx' .e/\Ro hp nx hp' nx':=by
 have main:=an (P:=fun v hp' nx'=>v=ET (iG p.read key 12 root)/\Ro hp nx hp' nx') e10 (args:=[.ptr rt 0 0,.str key]) rfl (hp:=hp) (nx:=nx) ?_
 ·obtain ⟨v,hp',nx',h1,rfl,h2⟩:=main
  exact ⟨hp',nx',h1,h2⟩
 have r0:=f35 h
 obtain ⟨c,hc⟩:=hr.row
 simp[c10]
 refine ae r0 ?_
 simp[hc]
 refine aL (I:=fun (g:Nat×Nat) t=>∃d:Nat,d+g.1=12/\t.tm 8=iV g.2/\t.tm 9=iV d/\t.tm 0=.ptr rt 0 0/\t.tm 1=.str key/\Ro hp nx t.hp t.nx/\iG p.read key 12 root=iG p.read key g.1 g.2) (fun g=>g.1) (12,root) ?_ ?_
 ·exact ⟨0,by simp,by simp,by simp,by simp,by simp,.refl,rfl⟩
 rintro ⟨f,a⟩ tm hp1 nx1 ⟨dd,hf,t8,t9,t0,t1,ck,hg⟩
 simp only at hf t8 t9 t0 t1 ck hg
 rw[hg]
 cases a with
 |zero =>
  have:iG p.read key f 0=some none:=by cases f<;>rfl
  rw[this]
  simp[t8]
  exact ⟨rfl,ck⟩
 |succ a =>
  have Ha:¬((a:Int)+1=0):=by omega
  have agn:¬(((a+1:Nat):Int)=0):=by omega
  cases f with
  |zero =>
   have:iG p.read key 0 (a+1)=none:=rfl
   rw[this]
   have:dd=12:=by omega
   subst this
   simp[t8,t9,Ha]
   exact ⟨rfl,ck⟩
  |succ f =>
   have az:(dd:Int)<12:=by omega
   have w1:IntKind.wrap .i64 ((dd:Int)+1)=((dd+1:Nat):Int):=by rw[aj]<;>omega
   have h1:=h.ro ck
   obtain ⟨v,aT,ar,r2,q2,xo⟩:=f36 h1 (a+1)
   have iD:=ck.trans xo
   simp[t8,t9,Ha,az,t0]
   refine ae (by simpa using r2) ?_
   unfold sa at q2
   cases hn:fN p.read (a+1) with
   |none =>
    rw[hn]at q2
    subst q2
    have:iG p.read key (f+1) (a+1)=none:=by simp only[iG,hn]
    rw[this]
    simp[ez,aa]
    exact ⟨rfl,by have:=iD.le;omega,fun r hr=>by simp[show ¬r=ar by have:=iD.le;omega];exact iD.ah r hr⟩
   |some nd =>
    rw[hn]at q2
    obtain ⟨y,hy,rfl⟩:=q2
    obtain ⟨n1,n2,n3,n4,n5⟩:=h.pg.tz hn
    have Wz:=f37 nd y hy key (by omega) (by omega) (by omega)
    obtain ⟨ky,iy,dy,rfl,hky,hiy,hdy⟩:=id hy
    obtain ⟨k1,k2,k3,rfl⟩:=hky.shape
    obtain ⟨i1,i2,i3,rfl⟩:=hiy.shape
    obtain ⟨d1,d2,d3,rfl⟩:=hdy.shape
    have iC:∀b,Ro hp nx (ab aT ar b) (ar+1):=fun b=>⟨by have:=iD.le;omega,fun r hr=>by simp[show ¬r=ar by have:=iD.le;omega];exact iD.ah r hr⟩
    have aeq:=fun b=>h.ro (iC b)
    simp[aa,t1,aG]
    refine ap (Wz _ _) ?_
    have eF:=dN n1
    cases hl:nd.leaf with
    |false =>
     obtain ⟨g1,g2,g3,g4⟩:=(aY.of n1).inner hl
     have G4:(below nd.keys key+if key∈nd.keys/\nd.leaf=false then 1 else 0)=eE nd.keys key:=by simp only[eE,hl,and_true]
     have fI:=(nB eF key).1
     have tH:nd.kids[eE nd.keys key]?=some (nd.kids[eE nd.keys key]'(by omega)):=zA (by omega)
     have lM:ko nd key=(((eE nd.keys key:Nat):Int),decide (key∈nd.keys)):=by simp only[ko,n1,if_true,G4]
     obtain ⟨cc,e1,e2,e3⟩:=fW (g4 _ (zP (show eE nd.keys key<nd.kids.length by omega)))
     have TT:iG p.read key (f+1) (a+1)=iG p.read key f cc:=by
      simp only[iG,hn,hl,zK,if_false,tH,e1,zl]
     have bJ:=uj hdy (i:=eE nd.keys key) (c:=[iV cc]) (k:=.i64) (by rw[zO,tH,e1];rfl)
     rw[TT]
     simp[lP,lM,hl,bJ,t9,w1,-ag,-Int.natCast_add]
     exact ⟨f,by omega,cc,dd+1,by omega,rfl,rfl,t0,t1,iC _,rfl⟩
    |true =>
     have G4:(below nd.keys key+if key∈nd.keys/\nd.leaf=false then 1 else 0)=below nd.keys key:=by simp[hl]
     have lM:ko nd key=(((below nd.keys key:Nat):Int),decide (key∈nd.keys)):=by simp only[ko,n1,if_true,G4]
     by_cases hm:key∈nd.keys
     ·obtain ⟨l1,l2,l3⟩:=(aY.of n1).leaf hl
      obtain ⟨fI,_⟩:=zB.1 ((kO eF key).1 hm)
      have lL:nd.items[below nd.keys key]?=some (nd.items[below nd.keys key]'(by omega)):=zA (by omega)
      have CG:=l3 _ (zP (show below nd.keys key<nd.items.length by omega))
      have bJ:=uj hiy (i:=below nd.keys key) (c:=(nd.items[below nd.keys key]'(by omega)).cells) (k:=.i64) (by rw[zO,lL];rfl)
      have TT:iG p.read key (f+1) (a+1)=(jh p.read (nd.items[below nd.keys key]'(by omega))).map some:=by
       simp only[iG,hn,hl,if_true,hm,lL]
      rw[TT]
      generalize nd.items[below nd.keys key]'(by omega)=x at *
      have Bk:x.cells=[.str x.v,iV x.p,iV x.s]:=rfl
      obtain ⟨gb,tx,r4,ro4⟩:=f38 (aeq (some [[.v (.bool true),.rs k1 k2 (nd.keys.map aN) k3,.rs i1 i2 (nd.items.map bD.cells) i3,.rs d1 d2 (nd.kids.map bC) d3]])) CG
      rw[Bk]at bJ r4
      simp[lP,lM,hl,hm,bJ,t0,-ag]
      refine ae (by simpa [hl] using r4) ?_
      cases hv:jh p.read x with
      |none =>
       simp[BU]
       exact ⟨rfl,(iC _).trans ro4⟩
      |some vv =>
       simp[BU]
       exact ⟨rfl,(iC _).trans ro4⟩
     ·have TT:iG p.read key (f+1) (a+1)=some none:=by simp only[iG,hn,hl,if_true,hm,if_false]
      rw[TT]
      simp[lP,lM,hl,hm]
      exact ⟨rfl,iC _⟩
end Go.Ai
namespace Go.Ai
open Go.Bt
def j0 (n:Nat):List AV:=[iV n]
def fe (rp root:Nat) (x y:AV):bN:=[[.ptr rp 0 0,iV root,x,y]]
structure sZ (hp:Heap) (nx rt rp rd root:Nat) (x y:AV) (Fp:List Nat) (t:T) (rootS:Bs) (view:Nat->Bs) (B:Nat):Prop where
 nd:(rt::(bc x++(bc y++Fp))).Nodup
 lt:rt<nx
 iQ:hp rt=some (fe rp root x y)
 hx:dq hp nx 1 (t.put.map j0) x
 hy:dq hp nx 1 (t.old.map j0) y
 pg:iS hp nx rp rd Fp t.p rootS view B
 lp:t.put.length<=B
 lo:t.old.length<=B
 ok:ea view t.p.gen rootS
def dD (hp:Heap) (nx rt rp rd:Nat) (F:List Nat) (root:Nat) (t:T) (rootS:Bs) (B:Nat):Prop:=∃x y Fp view,sZ hp nx rt rp rd root x y Fp t rootS view B/\F=rt::(bc x++(bc y++Fp))
theorem dq.lt {hp nx sz es x} (h:dq hp nx sz es x):∀r∈bc x,r<nx:=by
 rcases h with ⟨_,rfl⟩|⟨r,h1,rfl,_⟩
 ·simp
 ·simpa using h1
theorem pU (x:AV):(bc x).Nodup:=by cases x<;>simp[bc]
theorem sZ.LM {hp nx rt rp rd root x y Fp t rootS view B} (h:sZ hp nx rt rp rd root x y Fp t rootS view B) (hB:B<=1000000000):FF hp nx rt rp rd Fp t.p rootS view B:=⟨⟨_,h.iQ⟩,h.lt,h.pg,hB⟩
theorem sZ.ah {hp nx rt rp rd root x y Fp t rootS view B hp' nx'} (h:sZ hp nx rt rp rd root x y Fp t rootS view B) (hn:nx<=nx') (hk:∀r∈rt::(bc x++(bc y++Fp)),hp' r=hp r):sZ hp' nx' rt rp rd root x y Fp t rootS view B :=
 ⟨h.nd,zU h.lt hn,by rw[hk rt (by simp)];exact h.iQ,h.hx.ah hn fun r hr=>hk r (by simp[hr]),h.hy.ah hn fun r hr=>hk r (by simp[hr]),h.pg.ah hn fun r hr=>hk r (by simp[hr]),h.lp,h.lo,h.ok⟩
theorem sZ.H8 {hp nx rt rp rd root x y Fp t rootS view B} (h:sZ hp nx rt rp rd root x y Fp t rootS view B):∀r∈rt::(bc x++(bc y++Fp)),r<nx:=by
 intro r hr
 simp only[zH,zJ]at hr
 rcases hr with rfl|hr|hr|hr
 ·exact h.lt
 ·exact h.hx.lt r hr
 ·exact h.hy.lt r hr
 ·exact h.pg.lt r hr
theorem dD.ah {hp nx rt rp rd F root t rootS B hp' nx'} (h:dD hp nx rt rp rd F root t rootS B) (hn:nx<=nx') (hk:∀r∈F,hp' r=hp r):dD hp' nx' rt rp rd F root t rootS B:=by
 obtain ⟨x,y,Fp,view,h1,rfl⟩:=h
 exact ⟨x,y,Fp,view,h1.ah hn hk,rfl⟩
theorem dD.lt {hp nx rt rp rd F root t rootS B} (h:dD hp nx rt rp rd F root t rootS B):∀r∈F,r<nx:=by
 obtain ⟨x,y,Fp,view,h1,rfl⟩:=h
 exact h1.H8
theorem dD.ro {hp nx rt rp rd F root t rootS B hp' nx'} (h:dD hp nx rt rp rd F root t rootS B) (k:Ro hp nx hp' nx'):dD hp' nx' rt rp rd F root t rootS B:=h.ah k.le fun r hr=>k.ah r (h.lt r hr)
theorem dD.more {hp nx rt rp rd F root t rootS B B'} (h:dD hp nx rt rp rd F root t rootS B) (hb:B<=B'):dD hp nx rt rp rd F root t rootS B':=by
 obtain ⟨x,y,Fp,view,h1,rfl⟩:=h
 exact ⟨x,y,Fp,view,⟨h1.nd,h1.lt,h1.iQ,h1.hx,h1.hy,h1.pg.more hb,by have:=h1.lp;omega,by have:=h1.lo;omega,h1.ok⟩,rfl⟩
theorem iS.nodup {hp nx rp rd F p root view B} (h:iS hp nx rp rd F p root view B):F.Nodup:=by
 obtain ⟨cQ,rm,Fd,h1,rfl⟩:=h
 exact h1.nd
theorem sZ.step {hp nx rt rp rd root x y Fp t rootS view B} (h:sZ hp nx rt rp rd root x y Fp t rootS view B) {hp':Heap} {nx' root':Nat} {x' y':AV} {put' old':List Nat} {B':Nat} (hn:nx<=nx')
  (hk:∀r,r<nx->r≠rt->r∉bc x->r∉bc y->hp' r=hp r) (iQ:hp' rt=some (fe rp root' x' y')) (hx:dq hp' nx' 1 (put'.map j0) x') (hy:dq hp' nx' 1 (old'.map j0) y')
  (sx:∀r∈bc x',r∈bc x\/nx<=r) (sy:∀r∈bc y',r∈bc y\/nx<=r) (hd:∀r∈bc x',r∉bc y') (hB:B<=B') (lp:put'.length<=B') (lo:old'.length<=B') :
  sZ hp' nx' rt rp rd root' x' y' Fp ⟨t.p,put',old'⟩ rootS view B'/\Fr (rt::(bc x++(bc y++Fp))) hp nx (rt::(bc x'++(bc y'++Fp))) hp' nx':=by
 have vX:=h.nd
 rw[zp,zq,zq]at vX
 simp only[zJ,not_or]at vX
 obtain ⟨⟨e1,e2,e3⟩,e4,⟨e5,e6,e7⟩,e8⟩:=vX
 have az:=h.lt
 have hFp:=h.pg.lt
 refine ⟨⟨?_,zU h.lt hn,iQ,hx,hy,(h.pg.ah hn fun r hr=>hk r (hFp r hr) (fun e=>e3 (e▸hr)) (fun e=>e8 r e r (.inr hr) rfl) (fun e=>e7 r e r hr rfl)).more hB,lp,lo,h.ok⟩,⟨hn,fun r u1 u2 => ?_,fun r hr => ?_⟩⟩
 ·rw[zp,zq,zq]
  simp only[zJ,not_or]
  refine ⟨⟨fun e=>(sx _ e).elim e1 (by omega),fun e=>(sy _ e).elim e2 (by omega),e3⟩,pU x',⟨pU y',e6,fun a ha b hb e => ?_⟩,fun a ha b hb e => ?_⟩
  ·subst e
   rcases sy a ha with h1|h1
   ·exact e7 a h1 a hb rfl
   ·have:=hFp a hb;omega
  ·subst e
   rcases hb with hb|hb
   ·exact hd a ha hb
   ·rcases sx a ha with h1|h1
    ·exact e8 a h1 a (.inr hb) rfl
    ·have:=hFp a hb;omega
 ·simp only[zH,zJ,not_or]at u2
  exact hk r u1 u2.1 u2.2.1 u2.2.2.1
 ·simp only[zH,zJ]at hr ⊢
  rcases hr with hr|hr|hr|hr
  ·exact .inl (.inl hr)
  ·exact (sx r hr).imp (fun e=>.inr (.inl e)) id
  ·exact (sy r hr).imp (fun e=>.inr (.inr (.inl e))) id
  ·exact .inl (.inr (.inr (.inr hr)))
theorem sZ.Z3 {hp nx rt rp rd root x y Fp t rootS view B} (h:sZ hp nx rt rp rd root x y Fp t rootS view B):rt∉bc x/\rt∉bc y/\rt∉Fp/\(∀r∈bc x,r∉bc y/\r∉Fp)/\∀r∈bc y,r∉Fp:=by
 have vX:=h.nd
 rw[zp,zq,zq]at vX
 simp only[zJ,not_or]at vX
 obtain ⟨⟨e1,e2,e3⟩,e4,⟨e5,e6,e7⟩,e8⟩:=vX
 exact ⟨e1,e2,e3,fun r hr=>⟨fun e=>e8 r hr r (.inl e) rfl,fun e=>e8 r hr r (.inr e) rfl⟩,fun r hr e=>e7 r hr r e rfl⟩
theorem sZ.vf {hp nx rt rp rd root x y Fp t rootS view B} (h:sZ hp nx rt rp rd root x y Fp t rootS view B) {hp' nx' JV p' kf ef B'} (hP:iS hp' nx' rp rd JV p' kf ef B') (hF:Fr Fp hp nx JV hp' nx') (hB:B<=B') (vt:ea ef p'.gen kf) :
  sZ hp' nx' rt rp rd root x y JV ⟨p',t.put,t.old⟩ kf ef B'/\Fr (rt::(bc x++(bc y++Fp))) hp nx (rt::(bc x++(bc y++JV))) hp' nx':=by
 obtain ⟨e1,e2,e3,e4,e5⟩:=h.Z3
 have az:=h.lt
 have hle:=hF.le
 have CB:=h.hx.lt
 have Ip:=h.hy.lt
 refine ⟨⟨?_,by omega,by rw[hF.ah rt az e3];exact h.iQ,h.hx.ah hle fun r hr=>hF.ah r (CB r hr) (e4 r hr).2,h.hy.ah hle fun r hr=>hF.ah r (Ip r hr) (e5 r hr),hP,by have:=h.lp;show t.put.length<=B';omega,by have:=h.lo;show t.old.length<=B';omega,vt⟩,⟨hle,fun r u1 u2 => ?_,fun r hr => ?_⟩⟩
 ·rw[zp,zq,zq]
  simp only[zJ,not_or]
  refine ⟨⟨e1,e2,fun e=>(hF.sub _ e).elim e3 (by omega)⟩,pU x,⟨pU y,hP.nodup,fun a ha b hb e => ?_⟩,fun a ha b hb e => ?_⟩
  ·subst e
   rcases hF.sub a hb with h1|h1
   ·exact e5 a ha h1
   ·have:=Ip a ha;omega
  ·subst e
   rcases hb with hb|hb
   ·exact (e4 a ha).1 hb
   ·rcases hF.sub a hb with h1|h1
    ·exact (e4 a ha).2 h1
    ·have:=CB a ha;omega
 ·simp only[zH,zJ,not_or]at u2
  exact hF.ah r u1 u2.2.2.2
 ·simp only[zH,zJ]at hr ⊢
  rcases hr with hr|hr|hr|hr
  ·exact .inl (.inl hr)
  ·exact .inl (.inr (.inl hr))
  ·exact .inl (.inr (.inr (.inl hr)))
  ·exact (hF.sub r hr).imp (fun e=>.inr (.inr (.inr e))) id
theorem ea.view {view ef gen root} (h:ea view gen root) (e:∀m,m<2->ef m=view m):ea ef gen root:=by
 have e1:=e (gen % 2) (jC _ (by omega))
 have e2:=e ((gen+1) % 2) (jC _ (by omega))
 exact ⟨h.one,h.le,by rw[e1];exact h.at',by rw[e1];exact h.lt,⟨by rw[e2];exact h.other.lt,fun g s hg=>h.other.le g s (by rw[<-e2];exact hg)⟩⟩
def gP:Except Nat Nat->AV
 |.ok n=>.bE [iV n,.v (.int .i64 0)]
 |.error e=>.bE [.v (.int .i64 0),iV e]
theorem f81 {hp nx rt rp rd F root t rootS B} (h:dD hp nx rt rp rd F root t rootS B) {kind:Nat} {s:Bs} (hk:kind<=255) (hs:s.length<=492) (hB:B<=900000000) :
  ∃hp' nx' F',aZ E 81 [.ptr rt 0 0,iV kind,.str s] hp nx (gP (nz t kind s).1) hp' nx' .e/\dD hp' nx' rt rp rd F' root (nz t kind s).2 rootS (B+1)/\Fr F hp nx F' hp' nx':=by
 have main:=an (P:=fun v hp' nx'=>v=gP (nz t kind s).1/\∃F',dD hp' nx' rt rp rd F' root (nz t kind s).2 rootS (B+1)/\Fr F hp nx F' hp' nx') e81 (args:=[.ptr rt 0 0,iV kind,.str s]) rfl (hp:=hp) (nx:=nx) ?_
 ·obtain ⟨v,hp',nx',h1,rfl,F',h2⟩:=main
  exact ⟨hp',nx',F',h1,h2⟩
 obtain ⟨x,y,Fp,view,h1,rfl⟩:=h
 obtain ⟨hp1,nx1,SP,S0,r1,LU,nf,vq⟩:=f123 h1.pg hk hs (by omega)
 have q:=h1.iQ
 simp only[fe]at q
 unfold nz
 simp[c81,q]
 refine ae r1 ?_
 cases lv:t.p.put kind s with
 |none =>
  rw[lv]at LU
  obtain ⟨oz,ig⟩:=h1.vf (p':=t.p) LU nf (by omega) (h1.ok.view vq)
  simp[gP]
  exact ⟨_,⟨x,y,SP,S0,oz,rfl⟩,ig⟩
 |some r =>
  obtain ⟨n,p1⟩:=r
  rw[lv]at LU
  have Wy:p1.gen=t.p.gen:=(PM.oL lv).2.2.2.2.1
  obtain ⟨oz,ig⟩:=h1.vf (p':=p1) LU nf (by omega) (by rw[Wy];exact h1.ok.view vq)
  have q1:=oz.iQ
  simp only[fe]at q1
  obtain ⟨e1,e2,e3,e4,e5⟩:=oz.Z3
  have CB:=oz.hx.lt
  have Ip:=oz.hy.lt
  have az:=oz.lt
  have n8:=oz.lp
  obtain ⟨aT,a1,a2,a3⟩:=oz.hx.xC (bytes:=8) (new:=[j0 n]) (by simp) (by simp;simp only at n8;omega)
  have G7:∀(h:Heap) (es:bN) (c:Option Nat),aR h 1 (.rs false 1 es c)=some es:=fun _ _ _=>rfl
  have Ux:cF 1 8 x [[iV n]] hp1 nx1=some (.sl nx1 1 0 (t.put.length+1) none,aT,nx1+1):=by simpa [j0] using a1
  have q2:aT rt=some [[.ptr rp 0 0,iV root,x,y]]:=by rw[a3 rt (by omega) e1];exact q1
  have bU:=oz.step (hp':=ab aT rt (some (fe rp root (.sl nx1 1 0 (t.put.length+1) none) y))) (nx':=nx1+1) (root':=root) (x':=.sl nx1 1 0 (t.put.length+1) none) (y':=y) (put':=t.put++[n]) (old':=t.old) (B':=B+1) (by omega)
   (fun r u1 u2 u3 u4=>by simp[u2];exact a3 r (by omega) u3) (by simp)
   (.inr ⟨nx1,by omega,by simp,by simp[show ¬nx1=rt by omega,a2]⟩)
   (oz.hy.ah (by omega) fun r hr=>by
    have h1:=Ip r hr
    simp[show ¬r=rt from fun e=>e2 (e▸hr)]
    exact a3 r (by omega) fun e=>(e4 r e).1 hr)
   (fun r hr=>by simp at hr;exact .inr (by omega)) (fun r hr=>.inl hr) (fun r hr e=>by simp at hr;have:=Ip r e;omega) (by omega) (by simp;simp only at n8;have:=h1.lp;omega) (by have:=h1.lo;omega)
  obtain ⟨me,ie⟩:=bU
  simp[gP,q1,bu,G7,AV.one,Ux,q2,aa]
  exact ⟨_,⟨_,y,SP,S0,me,rfl⟩,ig.trans ie⟩
end Go.Ai
namespace Go.Ai
open Go.Bt
theorem cR {hp:Heap} {nx:Nat} {b:Option bN}:Ro hp nx (ab hp nx b) (nx+1):=⟨by omega,fun r hr=>by simp[show ¬r=nx by omega]⟩
def XE (n:Nd):Prop:=n.keys.length<=50000/\n.items.length<=50000/\n.kids.length<=50000
theorem f131 {hp nx rt rp rd F root t rootS B} (h:dD hp nx rt rp rd F root t rootS B) {n:Nd} {x:AV} (hx:iq n x) (hf:XE n) (hB:B<=900000000) :
  ∃hp' nx' F',aZ E 131 [.ptr rt 0 0,x] hp nx (gP (aV t n).1) hp' nx' .e/\dD hp' nx' rt rp rd F' root (aV t n).2 rootS (B+1)/\Fr F hp nx F' hp' nx':=by
 have main:=an (P:=fun v hp' nx'=>v=gP (aV t n).1/\∃F',dD hp' nx' rt rp rd F' root (aV t n).2 rootS (B+1)/\Fr F hp nx F' hp' nx') e131 (args:=[.ptr rt 0 0,x]) rfl (hp:=hp) (nx:=nx) ?_
 ·obtain ⟨v,hp',nx',h1,rfl,F',h2⟩:=main
  exact ⟨hp',nx',F',h1,h2⟩
 have r1:=f144 n x hx (by have:=hf.1;omega) (by have:=hf.2.1;omega) (by have:=hf.2.2;omega)
 have h1:=h.ro (cR (b:=some [x.cells]))
 have NE:=(cR (hp:=hp) (nx:=nx) (b:=some [x.cells])).fr F
 obtain ⟨b0,k1,k2,k3,k4,i1,i2,i3,i4,d1,d2,d3,d4,rfl⟩:=hx.shape
 simp only[AV.cells]at h1 NE
 simp[c131]
 refine ap (r1 _ _) ?_
 unfold aV Ht
 by_cases hr:ax n=true
 ·have eo:aw n=(bb n).length:=by simp[aw,hr]
  by_cases hs:aw n<=492
  ·have jl:¬(bb n).length>492:=by omega
   have s8:(dP n).toNat<=255:=by unfold dP;split<;>omega
   obtain ⟨aT,ar,F2,r2,iW,ig⟩:=f81 h1 (kind:=(dP n).toNat) (s:=bb n) s8 (by omega) hB
   have tH:(if n.leaf=true then (1:Int) else 2)=((dP n).toNat:Int):=by unfold dP;split<;>rfl
   rw[if_pos ⟨hr,hs⟩]
   simp only[hr,jl,if_true,if_false,tH]
   generalize (dP n).toNat=kk at *
   simp[CV]
   refine ae r2 ?_
   cases hl:(nz t kk (bb n)).1 with
   |ok a=>simp[gP];exact ⟨F2,iW,NE.trans ig⟩
   |error e=>simp[gP];exact ⟨F2,iW,NE.trans ig⟩
  ·have jl:(bb n).length>492:=by omega
   rw[if_neg (fun e=>hs e.2)]
   simp only[hr,jl,if_true]
   simp[CV,gP]
   exact ⟨F,h1.more (by omega),NE⟩
 ·rw[if_neg (fun e=>hr e.1)]
  have se:ax n=false:=by simpa using hr
  simp only[se,zK,if_false]
  simp[CV,gP]
  exact ⟨F,h1.more (by omega),NE⟩
theorem dD.cK {hp nx rt rp rd F root t rootS B q b} (h:dD hp nx rt rp rd F root t rootS B) (hq:q∉F):dD (ab hp q b) nx rt rp rd F root t rootS B :=
 h.ah (zD _) fun r hr=>by simp[show ¬r=q from fun e=>hq (e▸hr)]
theorem Fr.cK {F hp nx F' hp' nx' q b} (h:Fr F hp nx F' hp' nx') (hq:nx<=q):Fr F hp nx F' (ab hp' q b) nx' :=
 ⟨h.le,fun r u1 u2=>by simp[show ¬r=q by omega];exact h.ah r u1 u2,h.sub⟩
def Kg (o:Except Nat Nd) (v:AV):Prop:=match o with
 |.ok n=>∃y,iq n y/\v=.bE [y,.v (.int .i64 0)]
 |.error e=>v=.bE [ez,iV e]
theorem f132 {hp nx rt rp rd F root t rootS B} (h:dD hp nx rt rp rd F root t rootS B) (a:Nat) (hB:B<=900000000) :
  ∃v hp' nx' F',aZ E 132 [.ptr rt 0 0,iV a] hp nx v hp' nx' .e/\Kg (eA t a).1 v/\dD hp' nx' rt rp rd F' root (eA t a).2 rootS (B+1)/\Fr F hp nx F' hp' nx':=by
 have main:=an (P:=fun v hp' nx'=>Kg (eA t a).1 v/\∃F',dD hp' nx' rt rp rd F' root (eA t a).2 rootS (B+1)/\Fr F hp nx F' hp' nx') e132 (args:=[.ptr rt 0 0,iV a]) rfl (hp:=hp) (nx:=nx) ?_
 ·obtain ⟨v,hp',nx',h1,h2,F',h3⟩:=main
  exact ⟨v,hp',nx',F',h1,h2,h3⟩
 have hz:AV.cells ez=[.v (.bool false),nS,nS,nS]:=rfl
 have cU:Ro hp nx (ab hp nx (some [[.v (.bool false),nS,nS,nS]])) (nx+1):=cR
 have h1:=h.ro cU
 have ta:(ab hp nx (some [[.v (.bool false),nS,nS,nS]])) nx=some [[.v (.bool false),nS,nS,nS]]:=by simp
 generalize fq:ab hp nx (some [[.v (.bool false),nS,nS,nS]])=H1 at *
 obtain ⟨x,y,Fp,view,hI,WR⟩:=h1
 obtain ⟨v2,aT,ar,r2,q2,xo⟩:=f36 (hI.LM (by omega)) a
 have Az:=xo.le
 have vx:aT nx=some [[.v (.bool false),nS,nS,nS]]:=by rw[xo.ah nx (by omega)];exact ta
 have LN:¬nx=ar:=by omega
 have agc:¬ar=nx:=by omega
 have iC:∀b,Ro H1 (nx+1) (ab aT ar b) (ar+1):=fun b=>xo.trans cR
 simp[c132,fq]
 refine ae r2 ?_
 unfold sa at q2
 unfold eA
 cases hn:fN t.p.read a with
 |none =>
  rw[hn]at q2
  subst q2
  simp[ez,aa,aG,vx,LN]
  have aaB:Ro hp nx (ab (ab aT ar (some [[.v (.bool false),nS,nS,nS]])) nx (some [[.v (.bool false),nS,nS,nS]])) (ar+1) :=
   ⟨by omega,fun r hr=>by simp[show ¬r=nx by omega,show ¬r=ar by omega];rw[xo.ah r (by omega)];exact cU.ah r hr⟩
  exact ⟨by simp[Kg,ez],F,(h.ro aaB).more (by omega),aaB.fr F⟩
 |some nd =>
  rw[hn]at q2
  obtain ⟨z,VH,rfl⟩:=q2
  obtain ⟨b0,k1,k2,k3,k4,i1,i2,i3,i4,d1,d2,d3,d4,rfl⟩:=VH.shape
  have aaD:Ro hp nx (ab aT ar (some [[.v (.bool b0),.rs k1 k2 k3 k4,.rs i1 i2 i3 i4,.rs d1 d2 d3 d4]])) (ar+1):=cU.trans (iC _)
  have ll:=hI.ah (iC (some [[.v (.bool b0),.rs k1 k2 k3 k4,.rs i1 i2 i3 i4,.rs d1 d2 d3 d4]])).le fun r hr=>(iC (some [[.v (.bool b0),.rs k1 k2 k3 k4,.rs i1 i2 i3 i4,.rs d1 d2 d3 d4]])).ah r (hI.H8 r hr)
  have q3:=ll.iQ
  simp only[fe]at q3
  have R8:(ab aT ar (some [[.v (.bool b0),.rs k1 k2 k3 k4,.rs i1 i2 i3 i4,.rs d1 d2 d3 d4]])) nx=some [[.v (.bool false),nS,nS,nS]]:=by simp[LN,vx]
  have Yj:(ab aT ar (some [[.v (.bool b0),.rs k1 k2 k3 k4,.rs i1 i2 i3 i4,.rs d1 d2 d3 d4]])) ar=some [[.v (.bool b0),.rs k1 k2 k3 k4,.rs i1 i2 i3 i4,.rs d1 d2 d3 d4]]:=by simp
  have q2':aT rt=some [[.ptr rp 0 0,iV root,x,y]]:=by rw[xo.ah rt hI.lt];exact hI.iQ
  have Le:∃H3,H3=ab aT ar (some [[.v (.bool b0),.rs k1 k2 k3 k4,.rs i1 i2 i3 i4,.rs d1 d2 d3 d4]]):=⟨_,rfl⟩
  obtain ⟨H3,Le⟩:=Le
  rw[<-Le]at aaD ll q3 R8 Yj
  obtain ⟨e1,e2,e3,e4,e5⟩:=ll.Z3
  have CB:=ll.hx.lt
  have Ip:=ll.hy.lt
  have aeF:=ll.lt
  have oy:=ll.lo
  obtain ⟨gb,a1,a2,a3⟩:=ll.hy.xC (bytes:=8) (new:=[j0 a]) (by simp) (by simp;omega)
  have G7:∀(h:Heap) (es:bN) (c:Option Nat),aR h 1 (.rs false 1 es c)=some es:=fun _ _ _=>rfl
  have Ux:cF 1 8 y [[iV a]] H3 (ar+1)=some (.sl (ar+1) 1 0 (t.old.length+1) none,gb,ar+1+1):=by simpa [j0] using a1
  have q4:gb rt=some [[.ptr rp 0 0,iV root,x,y]]:=by rw[a3 rt (by omega) e2];exact q3
  have iX:=h.lt
  have Qp:nx∉F:=fun e=>by have:=iX nx e;omega
  have ZZ:ar∉F:=fun e=>by have:=iX ar e;omega
  have nrt:¬nx=rt:=fun e=>Qp (by rw[WR,e];simp)
  have Z1:¬ar=rt:=fun e=>ZZ (by rw[WR,e];simp)
  have ny:nx∉bc y:=fun e=>Qp (by rw[WR];simp[e])
  have ny2:ar∉bc y:=fun e=>ZZ (by rw[WR];simp[e])
  obtain ⟨uG,gA⟩:=ll.step (hp':=ab gb rt (some (fe rp root x (.sl (ar+1) 1 0 (t.old.length+1) none)))) (nx':=ar+1+1) (root':=root) (x':=x) (y':=.sl (ar+1) 1 0 (t.old.length+1) none) (put':=t.put) (old':=t.old++[a]) (B':=B+1) (by omega)
   (fun r u1 u2 u3 u4=>by simp[u2];exact a3 r (by omega) u4) (by simp)
   (ll.hx.ah (by omega) fun r hr=>by
    have h1:=CB r hr
    simp[show ¬r=rt from fun e=>e1 (e▸hr)]
    exact a3 r (by omega) (e4 r hr).1)
   (.inr ⟨ar+1,by omega,by simp,by simp[show ¬ar+1=rt by omega,a2]⟩)
   (fun r hr=>.inl hr) (fun r hr=>by simp at hr;exact .inr (by omega)) (fun r hr e=>by simp at e;have:=CB r hr;omega) (by omega) (by have:=ll.lp;omega) (by simp;omega)
  have hb5:gb nx=some [[.v (.bool false),nS,nS,nS]]:=by rw[a3 nx (by omega) ny];exact R8
  have hb6:gb ar=some [[.v (.bool b0),.rs k1 k2 k3 k4,.rs i1 i2 i3 i4,.rs d1 d2 d3 d4]]:=by rw[a3 ar (by omega) ny2];exact Yj
  rw[Le]at Ux
  simp[aa,aG,show ¬rt=ar from fun e=>Z1 e.symm,q2',bu,G7,AV.one,Ux,q4,nrt,Z1,hb5,hb6]
  have hFb:Fr F hp nx (rt::(bc x++(bc (.sl (ar+1) 1 0 (t.old.length+1) none)++Fp))) (ab gb rt (some (fe rp root x (.sl (ar+1) 1 0 (t.old.length+1) none)))) (ar+1+1):=by
   have h0:=aaD.fr F
   rw[WR]at h0 ⊢
   exact h0.trans gA
  have hTH:dD (ab gb rt (some (fe rp root x (.sl (ar+1) 1 0 (t.old.length+1) none)))) (ar+1+1) rt rp rd _ root ⟨t.p,t.put,t.old++[a]⟩ rootS (B+1):=⟨x,_,Fp,view,uG,rfl⟩
  refine ⟨⟨_,VH,rfl⟩,_,hTH.cK ?_,hFb.cK (zD _)⟩
  simp only[zH,zJ,xI,wO,or_false]
  rintro (e|e|e|e)
  ·exact nrt e
  ·exact Qp (by rw[WR];simp[e])
  ·omega
  ·exact Qp (by rw[WR];simp[e])
end Go.Ai
namespace Go.Ai
open Go.Bt
theorem B6 {x m k:Nat} (hm:m=2 ^ k) (hk:k<=24) {kk:IntKind}:dJ .shr (iV x) (.v (.int kk (k:Int)))=some (iV (x / m:Nat)):=by
 subst hm
 have h2:Nat.min (k:Int).toNat (IntKind.bits .i64)=k:=by simp only[zl];show Nat.min k 64=k;exact qJ (by omega)
 show B9 .shr .i64 (x:Int) (k:Int)=_
 simp only[B9]
 rw[if_neg (by omega),h2]
 have e2:(2:Int) ^ k=((2 ^ k:Nat):Int):=by norm_cast
 rw[e2,qC _ (jK _)]
 norm_cast
theorem Zv (x:Nat) (kk:IntKind):dJ .shr (iV x) (.v (.int kk 24))=some (iV (x / 16777216:Nat)):=B6 (k:=24) (by decide) (by omega)
theorem Zw (x:Nat) (kk:IntKind):dJ .shr (iV x) (.v (.int kk 16))=some (iV (x / 65536:Nat)):=B6 (k:=16) (by decide) (by omega)
theorem adM (x:Nat) (kk:IntKind):dJ .shr (iV x) (.v (.int kk 8))=some (iV (x / 256:Nat)):=B6 (k:=8) (by decide) (by omega)
theorem HL (x:Nat):IntKind.wrap .u8 (x:Int)=((UInt8.ofNat (x % 256)).toNat:Int):=by
 rw[IntKind.wrap_u8];simp
theorem Z0 (x:Nat):aO x 4=[UInt8.ofNat (x / 16777216 % 256),UInt8.ofNat (x / 65536 % 256),UInt8.ofNat (x / 256 % 256),UInt8.ofNat (x % 256)]:=by
 simp[aO,qp]
theorem four (x:Nat):∃a b c:Int,(∀kk,dJ .shr (iV x) (.v (.int kk 24))=some (iV a))/\(∀kk,dJ .shr (iV x) (.v (.int kk 16))=some (iV b))/\(∀kk,dJ .shr (iV x) (.v (.int kk 8))=some (iV c)) /\
  eQ [[.v (.int .u8 (IntKind.wrap .u8 a))],[.v (.int .u8 (IntKind.wrap .u8 b))],[.v (.int .u8 (IntKind.wrap .u8 c))],[.v (.int .u8 (IntKind.wrap .u8 (x:Int)))]]=some (aO x 4):=by
 refine ⟨_,_,_,Zv x,Zw x,adM x,?_⟩
 rw[HL,HL,HL,HL,Z0]
 exact dE [UInt8.ofNat (x / 16777216 % 256),UInt8.ofNat (x / 65536 % 256),UInt8.ofNat (x / 256 % 256),UInt8.ofNat (x % 256)]
theorem Rl (L m:Nat):KD (iV L) (iV (m+488:Nat))=some (.v (.int .i64 ((min L (m+488):Nat):Int))):=by
 have h:min (L:Int) ((m+488:Nat):Int)=((min L (m+488):Nat):Int):=by omega
 by_cases hc:((m+488:Nat):Int)<(L:Int)
 ·have:((min L (m+488):Nat):Int)=((m+488:Nat):Int):=by omega
  simp only[KD,this,hc,if_true]
 ·have:((min L (m+488):Nat):Int)=(L:Int):=by omega
  simp only[KD,this,hc,if_false]
theorem Sw {v:Bs} {m:Nat} (h:m<=v.length):eS (.str v) (some (iV m)) (some (.v (.int .i64 ((min v.length (m+488):Nat):Int))))=some (.str ((v.drop m).take 488)):=by
 have WI:bV v.length v.length (some (iV m)) (some (.v (.int .i64 ((min v.length (m+488):Nat):Int)))) none=some (m,min v.length (m+488),none):=lT (by omega) (by omega)
 have e:(v.take (min v.length (m+488))).drop m=(v.drop m).take 488:=by
  rw[qt]
  by_cases h:m+488<=v.length
  ·rw[Nat.min_eq_right h,wa]
  ·rw[qJ (by omega),zI (by simp),zI (by simp;omega)]
 simp only[eS,WI,e]
def Gm:Except Nat bD->AV
 |.ok x=>.bE [.agg x.cells,.v (.int .i64 0)]
 |.error e=>.bE [.agg [.str [],.v (.int .i64 0),.v (.int .i64 0)],iV e]
theorem f46 {hp nx rt rp rd F root t rootS B} (h:dD hp nx rt rp rd F root t rootS B) {v:Bs} (hv:v.length<=60000) (hN:t.p.st.length<=4096) (hB:B<=800000000) :
  ∃hp' nx' F',aZ E 46 [.ptr rt 0 0,.str v] hp nx (Gm (dl t v).1) hp' nx' .e/\dD hp' nx' rt rp rd F' root (dl t v).2 rootS (B+200)/\Fr F hp nx F' hp' nx':=by
 have main:=an (P:=fun v' hp' nx'=>v'=Gm (dl t v).1/\∃F',dD hp' nx' rt rp rd F' root (dl t v).2 rootS (B+200)/\Fr F hp nx F' hp' nx') e46 (args:=[.ptr rt 0 0,.str v]) rfl (hp:=hp) (nx:=nx) ?_
 ·obtain ⟨v,hp',nx',h1,rfl,F',h2⟩:=main
  exact ⟨hp',nx',F',h1,h2⟩
 have iX:=h.lt
 have Qp:nx∉F:=fun e=>by have:=iX nx e;omega
 by_cases hs:v.length<=60
 ·have VY:(v.length:Int)<=60:=by omega
  have ck:∀b,Ro hp nx (ab hp nx b) (nx+1):=fun b=>cR
  simp[c46,VY,aa,aG]
  unfold dl
  rw[if_pos hs]
  exact ⟨by simp[Gm,bD.cells],F,(h.ro (ck _)).more (by omega),(ck _).fr F⟩
 ·have VY:¬(v.length:Int)<=60:=by omega
  have eW:dl t v=rb (sF v ((v.length-1) / 488+1) 0 t) fun n t=>(.ok ⟨[],n,v.length⟩,t):=by unfold dl;rw[if_neg hs]
  have Yf:(v.length-1) / 488<=122:=by omega
  have w1:IntKind.wrap .i64 ((v.length:Int)-1)=((v.length-1:Nat):Int):=by rw[aj]<;>omega
  have w2:IntKind.wrap .i64 (((v.length-1:Nat):Int) / 488)=(((v.length-1) / 488:Nat):Int):=by
   rw[aj]<;>omega
  have w3:IntKind.wrap .i64 ((((v.length-1) / 488:Nat):Int)*488)=((488*((v.length-1) / 488):Nat):Int):=by rw[aj]<;>omega
  have Ni:Ro hp nx (ab hp nx (some [[.str [],iV 0,iV 0]])) (nx+1):=cR
  have hT0:=h.ro Ni
  have ID:=Ni.fr F
  have tL:(ab hp nx (some [[.str [],iV 0,iV 0]])) nx=some [[.str [],iV 0,iV 0]]:=by simp
  simp[c46,VY,w1,w2,w3,-Int.natCast_mul,-Int.natCast_ediv]
  generalize ab hp nx (some [[.str [],iV 0,iV 0]])=H at *
  generalize s8:(v.length-1) / 488=kk at *
  refine aL (I:=fun (g:Nat×Nat×T×List Nat) s=>g.1<=kk+1/\(∃q:Int,s.tm 7=iV q/\q=488*(g.1:Int)-488)/\s.tm 6=iV g.2.1/\s.tm 1=.str v/\s.tm 0=.ptr rt 0 0/\s.tm 4=.ptr nx 0 0 /\
    s.hp nx=some [[.str [],iV 0,iV 0]]/\nx∉g.2.2.2/\nx<s.nx/\g.2.1<4294967296/\g.2.2.1.p.st.length<=4096/\dD s.hp s.nx rt rp rd g.2.2.2 root g.2.2.1 rootS (B+(kk+1-g.1))/\Fr F hp nx g.2.2.2 s.hp s.nx /\
    sF v (kk+1) 0 t=sF v g.1 g.2.1 g.2.2.1) (fun g=>g.1) (kk+1,0,t,F) ?_ ?_
  ·refine ⟨by simp,⟨((488*kk:Nat):Int),by simp,?_⟩,by simp,by simp,by simp,by simp,tL,Qp,by simp only;omega,by simp,hN,by simpa using hT0,ID,rfl⟩
   simp only
   omega
  rintro ⟨k,next,t1,F1⟩ tm hp1 nx1 ⟨hk,⟨q7,t7,Yd⟩,t6,t1',t0,t4,ta,QB,Wc,mF,Ak,oz,nf,EC⟩
  simp only at hk Yd t7 t6 t1' t0 t4 ta QB Wc mF Ak oz nf EC
  rw[eW,EC]
  cases k with
  |zero =>
   obtain rfl:q7 = -488:=by omega
   have hr:sF v 0 next t1=(.ok next,t1):=rfl
   rw[hr]
   simp[t7,t6,t1',t4,ta,aa]
   refine ⟨by simp[rb,Gm,bD.cells],F1,(oz.cK QB).more (by omega),nf.cK (zD _)⟩
  |succ k =>
   obtain rfl:q7=((488*k:Nat):Int):=by omega
   have NC:(0:Int)<=((488*k:Nat):Int):=by omega
   have w4:IntKind.wrap .i64 (((488*k:Nat):Int)+488)=((488*k+488:Nat):Int):=by rw[aj]<;>omega
   have w5:IntKind.wrap .i64 (((488*k:Nat):Int)-488)=((488*k:Nat):Int)-488:=by rw[aj]<;>omega
   have EB:488*k<v.length:=by omega
   obtain ⟨m,hm⟩:∃m,m=488*k:=⟨_,rfl⟩
   simp only[<-hm]at t7 NC w4 w5 EB
   have Ez:=Rl v.length m
   have Bm:=Sw (v:=v) (m:=m) (by omega)
   obtain ⟨a,b,c,s1,s2,s3,hb⟩:=four next
   have KX:((v.drop m).take 488).length<=488:=by simp;omega
   have WL:uh .add (aO next 4) ((v.drop m).take 488)=some (.str (aO next 4++(v.drop m).take 488)):=by
    simp only[uh];rw[if_pos (by rw[aU];omega)]
   obtain ⟨aT,ar,F2,r2,iW,ig⟩:=f81 oz (kind:=3) (s:=aO next 4++(v.drop m).take 488) (by omega) (by rw[zG,aU];omega) (by omega)
   have aaV:nx∉F2:=fun e=>(ig.sub nx e).elim QB (by omega)
   have vx:aT nx=some [[.str [],iV 0,iV 0]]:=by rw[ig.ah nx Wc QB];exact ta
   have Az:=ig.le
   have aeE:sF v (k+1) next t1=rb (nz t1 3 (aO next 4++(v.drop m).take 488)) fun n t=>sF v k n t:=by rw[hm];rfl
   rw[aeE]
   simp[t7,t6,t1',t0,NC,w4,Ez,Bm,s1,s2,s3,hb,WL,-P5,-Int.natCast_add]
   refine ae r2 ?_
   cases hl:(nz t1 3 (aO next 4++(v.drop m).take 488)) with
   |mk r t2 =>
    rw[hl]at iW
    simp only at iW
    cases r with
    |error e =>
     have he:e≠0:=by
      unfold nz at hl
      split at hl
      ·simp only[zPi,reduceCtorEq,false_and]at hl
      ·simp only[zPi,Except.error.injEq]at hl;omega
     have QG:¬(e:Int)=0:=by omega
     have heD:(decide (e=0))=false:=by simp[he]
     simp[gP,QG,he,t4,vx,aa]
     refine ⟨by simp[rb,Gm],F2,(iW.cK aaV).more (by omega),(nf.trans ig).cK (zD _)⟩
    |ok n =>
     unfold nz at hl
     split at hl
     ·rename_i n0 p0 lv
      simp only[zPi,Except.ok.injEq]at hl
      obtain ⟨rfl,rfl⟩:=hl
      obtain ⟨q1,_,_,_,_,_,q7,_⟩:=PM.oL lv
      have hnb:n0<4096:=by simp[PM.has]at q1;omega
      simp[gP,t7,w5,-Prod.exists]
      refine ⟨(k,n0,⟨p0,t1.put++[n0],t1.old⟩,F2),by simp only;omega,by simp only;omega,by simp only;omega,rfl,t1',t0,t4,vx,aaV,by omega,by simp only;omega,by simp only;omega,iW.more (by simp only;omega),nf.trans ig,rfl⟩
     ·cases hl
end Go.Ai
namespace Go.Ai
open Go.Bt
theorem sZ.Vd {hp nx rt rp rd root x y Fp t rootS view B} (h:sZ hp nx rt rp rd root x y Fp t rootS view B) (a:Nat) {B':Nat} (hB:B<=B') (ho:t.old.length+1<=B') (hB9:B'<=1000000000) :
  ∃gb,cF 1 8 y [[iV a]] hp nx=some (.sl nx 1 0 (t.old.length+1) none,gb,nx+1)/\gb rt=some [[.ptr rp 0 0,iV root,x,y]]/\(∀r,r<nx->r∉bc y->gb r=hp r) /\
   ∃F',dD (ab gb rt (some (fe rp root x (.sl nx 1 0 (t.old.length+1) none)))) (nx+1) rt rp rd F' root ⟨t.p,t.put,t.old++[a]⟩ rootS B' /\
    Fr (rt::(bc x++(bc y++Fp))) hp nx F' (ab gb rt (some (fe rp root x (.sl nx 1 0 (t.old.length+1) none)))) (nx+1):=by
 obtain ⟨e1,e2,e3,e4,e5⟩:=h.Z3
 have CB:=h.hx.lt
 have aeF:=h.lt
 obtain ⟨gb,a1,a2,a3⟩:=h.hy.xC (bytes:=8) (new:=[j0 a]) (by simp) (by simp;omega)
 have Ux:cF 1 8 y [[iV a]] hp nx=some (.sl nx 1 0 (t.old.length+1) none,gb,nx+1):=by simpa [j0] using a1
 have q4:gb rt=some [[.ptr rp 0 0,iV root,x,y]]:=by rw[a3 rt (by omega) e2];exact h.iQ
 obtain ⟨uG,gA⟩:=h.step (hp':=ab gb rt (some (fe rp root x (.sl nx 1 0 (t.old.length+1) none)))) (nx':=nx+1) (root':=root) (x':=x) (y':=.sl nx 1 0 (t.old.length+1) none) (put':=t.put) (old':=t.old++[a]) (B':=B') (by omega)
  (fun r u1 u2 u3 u4=>by simp[u2];exact a3 r (by omega) u4) (by simp)
  (h.hx.ah (by omega) fun r hr=>by
   have h1:=CB r hr
   simp[show ¬r=rt from fun e=>e1 (e▸hr)]
   exact a3 r (by omega) (e4 r hr).1)
  (.inr ⟨nx,by omega,by simp,by simp[show ¬nx=rt by omega,a2]⟩)
  (fun r hr=>.inl hr) (fun r hr=>by simp at hr;exact .inr (by omega)) (fun r hr e=>by simp at e;have:=CB r hr;omega) (by omega) (by have:=h.lp;omega) (by simp;omega)
 exact ⟨gb,Ux,q4,fun r u1 u2=>a3 r (by omega) u2,_,⟨x,_,Fp,view,uG,rfl⟩,gA⟩
def SyT (rt rp rd root:Nat) (rootS:Bs) (B q:Nat) (p:PM) (put:List Nat) (hp:Heap) (nx:Nat) (F:List Nat) (t:T):Prop :=
 ∃F0,F=q::F0/\q∉F0/\q<nx/\hp q=some [[.ptr rt 0 0]]/\dD hp nx rt rp rd F0 root t rootS B/\t.p=p/\t.put=put
theorem syT {rt rp rd root rootS B q p put} (hB:B<=1000000000):SyS (SyT rt rp rd root rootS B q p put) rt (fun t=>t.p) where
 rd:=fun hp nx F t ⟨F0,e,h1,h2,h3,⟨x,y,Fp,view,h4,_⟩,_⟩=>⟨rp,rd,Fp,rootS,view,B,h4.LM hB⟩
 ah:=fun hp nx F t hp' nx' ⟨F0,e,h1,h2,h3,h4,h5⟩ hn hk=>by
  subst e
  exact ⟨F0,rfl,h1,zU h2 hn,by rw[hk q (by simp)];exact h3,h4.ah hn fun r hr=>hk r (by simp[hr]),h5⟩
 lt:=fun hp nx F t ⟨F0,e,h1,h2,h3,h4,_⟩ r hr=>by
  subst e
  rcases zH.1 hr with rfl|hr
  ·exact h2
  ·exact h4.lt r hr
def Dh (n:Nat) (t:T):Option T:=some ⟨t.p,t.put,t.old++[n]⟩
theorem f79 {rt rp rd root rootS B q p put} (hB:B<=1000000000):Dq (SyT rt rp rd root rootS B q p put) Dh 79 [] [.ptr q 0 0] (fun f t=>t.old.length+f<=B):=by
 intro f n t hp nx F hK hn hS
 obtain ⟨F0,rfl,h1,h2,h3,⟨x,y,Fp,view,hI,rfl⟩,rfl,rfl⟩:=hS
 obtain ⟨gb,a1,q4,q5,F',hT,hF⟩:=hI.Vd n (B':=B) (zD _) (by omega) hB
 have az:=hI.H8
 have main:=an (P:=fun v hp' nx'=>v=iV 0/\hp'=(ab gb rt (some (fe rp root x (.sl nx 1 0 (t.old.length+1) none))))/\nx'=nx+1) e79 (args:=[iV n,.ptr q 0 0]) rfl (hp:=hp) (nx:=nx) ?_
 ·obtain ⟨v,hp',nx',r1,rfl,rfl,rfl⟩:=main
  refine ⟨_,_,q::F',0,r1,⟨hF.le,fun r u1 u2 => ?_,fun r hr => ?_⟩,⟨rfl,⟨F',rfl,fun e => ?_,by omega,?_,hT,rfl,rfl⟩,by simp;omega⟩⟩
  ·simp only[zH,not_or]at u2
   exact hF.ah r u1 (by simp only[zH,zJ,not_or];simpa using u2.2)
  ·rcases zH.1 hr with rfl|hr
   ·exact .inl (by simp)
   ·exact (hF.sub r hr).imp (fun e=>zu _ e) id
  ·exact (hF.sub q e).elim h1 (by omega)
  ·rw[hF.ah q h2 h1];exact h3
 have iQ:=hI.iQ
 have G7:∀(h:Heap) (es:bN) (c:Option Nat),aR h 1 (.rs false 1 es c)=some es:=fun _ _ _=>rfl
 simp only[fe]at iQ
 have q6:gb q=some [[.ptr rt 0 0]]:=by rw[q5 q h2 (fun e=>h1 (by simp[e]))];exact h3
 simp[c79,h3,q6,iQ,aa,aG,bu,G7,AV.one,a1,q4,fe]
theorem Fk (size:Nat):∀(f n:Nat) (acc:Bs) (t:T) (ps:List Nat),dF (fun t=>t.p) Dh size f n acc ⟨t.p,t.put,t.old++ps⟩=(gT t.p.read size f n acc ps).map fun r=>(r.1,(⟨t.p,t.put,t.old++r.2⟩:T))
 |f,0,acc,t,ps=>by
  have h1:dF (fun t=>t.p) Dh size f 0 acc ⟨t.p,t.put,t.old++ps⟩=if acc.length=size then some (acc,(⟨t.p,t.put,t.old++ps⟩:T)) else none:=by cases f<;>rfl
  have h2:gT t.p.read size f 0 acc ps=if acc.length=size then some (acc,ps) else none:=by cases f<;>rfl
  rw[h1,h2];split<;>rfl
 |0,n+1,acc,t,ps=>rfl
 |f+1,n+1,acc,t,ps=>by
  simp only[dF,gT,Dh]
  cases t.p.read (n+1) with
  |none=>rfl
  |some x =>
   obtain ⟨k,b⟩:=x
   simp only
   split
   ·rfl
   ·split
    ·rfl
    ·have:=Fk size f (aA (b.take 4)) (acc++b.drop 4) t (ps++[n+1])
     rw[<-zF]at this
     exact this
def rM {α:Type} (hp:Heap) (nx rt rp rd:Nat) (F:List Nat) (root:Nat) (r:R α) (rootS:Bs) (B:Nat):Prop:=match r.1 with
 |.ok _=>dD hp nx rt rp rd F root r.2 rootS B
 |.error e=>e≠0/\∃o,dD hp nx rt rp rd F root ⟨r.2.p,r.2.put,o⟩ rootS B
theorem rM.ofH {α:Type} {hp nx rt rp rd F root rootS B} {r:R α} (h:dD hp nx rt rp rd F root r.2 rootS B) (he:∀e,r.1=.error e->e≠0):rM hp nx rt rp rd F root r rootS B:=by
 unfold rM
 split
 ·exact h
 ·rename_i e h1
  exact ⟨he e h1,r.2.old,h⟩
theorem rM.ah {α:Type} {hp nx rt rp rd F root rootS B hp' nx'} {r:R α} (h:rM hp nx rt rp rd F root r rootS B) (hn:nx<=nx') (hk:∀q∈F,hp' q=hp q):rM hp' nx' rt rp rd F root r rootS B:=by
 unfold rM at *
 split at h
 ·exact dD.ah h hn hk
 ·obtain ⟨h0,o,h1⟩:=h;exact ⟨h0,o,h1.ah hn hk⟩
theorem rM.more {α:Type} {hp nx rt rp rd F root rootS B B'} {r:R α} (h:rM hp nx rt rp rd F root r rootS B) (hb:B<=B'):rM hp nx rt rp rd F root r rootS B':=by
 unfold rM at *
 split at h
 ·exact dD.more h hb
 ·obtain ⟨h0,o,h1⟩:=h;exact ⟨h0,o,h1.more hb⟩
def DZ:Except Nat Unit->AV
 |.ok _=>.v (.int .i64 0)
 |.error e=>iV e
theorem f43 {hp nx rt rp rd F root t rootS B} (h:dD hp nx rt rp rd F root t rootS B) {x:bD} (hx:jd x=true) (hB:B<=800000000) :
  ∃hp' nx' F',aZ E 43 [.ptr rt 0 0,.agg x.cells] hp nx (DZ (gZ t x).1) hp' nx' .e/\rM hp' nx' rt rp rd F' root (gZ t x) rootS (B+61000)/\Fr F hp nx F' hp' nx':=by
 have main:=an (P:=fun v hp' nx'=>v=DZ (gZ t x).1/\∃F',rM hp' nx' rt rp rd F' root (gZ t x) rootS (B+61000)/\Fr F hp nx F' hp' nx') e43 (args:=[.ptr rt 0 0,.agg x.cells]) rfl (hp:=hp) (nx:=nx) ?_
 ·obtain ⟨v,hp',nx',r1,rfl,F',r2⟩:=main
  exact ⟨hp',nx',F',r1,r2⟩
 have iX:=h.lt
 have Qp:nx∉F:=fun e=>by have:=iX nx e;omega
 have oy:t.old.length<=B:=by obtain ⟨_,_,_,_,h1,_⟩:=h;exact h1.lo
 have ck:Ro hp nx (ab (ab hp nx (some [[.ptr rt 0 0]])) (nx+1) (some [x.cells])) (nx+2):=⟨by omega,fun r hr=>by simp[show ¬r=nx by omega,show ¬r=nx+1 by omega]⟩
 have h1:=(h.ro ck).more (B':=B+61000) (by omega)
 have tL:(ab (ab hp nx (some [[.ptr rt 0 0]])) (nx+1) (some [x.cells])) nx=some [[.ptr rt 0 0]]:=by simp
 have ID:=ck.fr F
 rcases hU hx with ⟨a1,a2,a3⟩|⟨pg,size,a1,a2,a3,a4,a5,a6,a7⟩
 ·have Bk:x.cells=[.str x.v,iV 0,iV 0]:=by simp[bD.cells,a1,a2]
  have hl:gZ t x=(.ok (),t):=by simp[gZ,a1]
  rw[Bk]at h1 ID
  rw[hl]
  simp[c43,Bk]
  exact ⟨rfl,F,.ofH h1 (by simp),ID⟩
 ·have Bk:x.cells=[.str x.v,iV pg,iV size]:=by simp[bD.cells,a1,a2]
  have ou:¬x.p=0:=by omega
  have hpI:¬pg=0:=by omega
  have e1:x.s.toNat=size:=by omega
  have e2:x.p.toNat=pg:=by omega
  have hl:gZ t x=match gT t.p.read size (size+1) pg [] [] with|some r=>(.ok (),⟨t.p,t.put,t.old++r.2⟩)|none=>(.error 10,t):=by simp only[gZ,if_neg ou,uN,e1,e2];rfl
  obtain ⟨v,hp',nx',F',r1,fr,m⟩:=f70 (syT (rt:=rt) (rp:=rp) (rd:=rd) (root:=root) (rootS:=rootS) (B:=B+61000) (q:=nx) (p:=t.p) (put:=t.put) (by omega)) (f79 (by omega)) (x:=x) (size:=size) (pg:=pg) a2 a1 (by omega) (by omega) (by omega)
   (s:=t) (hp:=_) (nx:=nx+2) (F:=nx::F) (by omega) ⟨F,rfl,Qp,by omega,tL,h1,rfl,rfl⟩
  have hcg:=Fk size (size+1) pg [] t []
  rw[zT]at hcg
  rw[hcg]at m
  rw[hl]
  have Ah:∀F0,F'=nx::F0->nx∉F0->Fr F hp nx F0 hp' nx':=fun F0 e yB=>by
   subst e
   have q1:=fr.le
   refine ⟨by omega,fun r u1 u2 => ?_,fun r hr => ?_⟩
   ·rw[fr.ah r (by omega) (by simp[u2];omega)];exact ck.ah r u1
   ·rcases fr.sub r (by simp[hr]) with q|q
    ·simp only[zH]at q
     rcases q with rfl|q
     ·exact absurd hr yB
     ·exact .inl q
    ·exact .inr (by omega)
  rw[Bk]at r1
  simp[c43,Bk,hpI]
  refine ae r1 ?_
  cases hc:gT t.p.read size (size+1) pg [] [] with
  |none =>
   rw[hc]at m
   obtain ⟨rfl,t',F0,e,n0,_,_,hT,tp,tq⟩:=m
   simp[DZ]
   exact ⟨F0,⟨by simp,t'.old,by rw[<-tp,<-tq];exact hT⟩,Ah F0 e n0⟩
  |some y =>
   rw[hc]at m
   obtain ⟨rfl,F0,e,n0,_,_,hT,tp,tq⟩:=m
   simp[DZ]
   exact ⟨F0,hT,Ah F0 e n0⟩
end Go.Ai
namespace Go.Ai
open Go.Bt
def ju:dz->AV->Prop
 |.one n,v=>∃x z,iq n x/\fa 4 [x.cells] z/\v=.agg [z,.str []]
 |.two a k b,v=>∃x y z,iq a x/\iq b y/\fa 4 [x.cells,y.cells] z/\v=.agg [z,.str k]
theorem iq.cl {n b0 k1 k2 k3 k4 i1 i2 i3 i4 d1 d2 d3 d4} (h:iq n (.agg [.v (.bool b0),.rs k1 k2 k3 k4,.rs i1 i2 i3 i4,.rs d1 d2 d3 d4])):bl k3=true/\bl i3=true/\bl d3=true/\b0=n.leaf:=by
 obtain ⟨k,i,d,e,⟨_,_,_,rfl,_⟩,⟨_,_,_,rfl,_⟩,⟨_,_,_,rfl,_⟩⟩:=h
 simp only[AV.agg.injEq,List.cons.injEq,AV.rs.injEq,AV.v.injEq,Value.bool.injEq]at e
 obtain ⟨rfl,⟨_,_,rfl,_⟩,⟨_,_,rfl,_⟩,⟨_,_,rfl,_⟩,_⟩:=e
 exact ⟨eH,eI,fh,rfl⟩
theorem Dr {n:Nd} {i j:Nat} (h:vP n i) (k:vP n j):i=j:=by
 rcases Nat.lt_trichotomy i j with e|e|e
 ·have:=k.low i h.pos e
  have:=k.le
  rcases h.top with q|q<;>omega
 ·exact e
 ·have:=h.low j k.pos e
  have:=h.le
  rcases k.top with q|q<;>omega
theorem f133 (n:Nd) (x:AV) (hx:iq n x) (h1:n.keys.length<=60000) (h2:n.items.length<=60000) (h3:n.kids.length<=60001):∃v,ju (kH n) v/\∀hp nx,aZ E 133 [x] hp nx v hp nx .p:=by
 have vI:=f120 n _ hx (by omega) (by omega) (by omega)
 have kE:=hx
 obtain ⟨b0,k1,k2,k3,k4,i1,i2,i3,i4,d1,d2,d3,d4,rfl⟩:=hx.shape
 obtain ⟨l1,l2,l3,_⟩:=hx.cl
 by_cases hs:aw n<=492
 ·have VY:(aw n:Int)<=492:=by omega
  have CK:kH n=.one n:=by simp only[kH,if_pos hs]
  refine fH e133 rfl (by simp[l1,l2,l3]) ?_
  simp[c133]
  refine ap (vI _ _) ?_
  simp[VY,aa,aG,aq,l1,l2,l3]
  rw[CK]
  exact ⟨_,_,kE,⟨false,4,_,rfl,.inr rfl,by simp⟩,rfl⟩
 ·have VY:¬(aw n:Int)<=492:=by omega
  have hr:ax n=true:=by
   cases h:ax n with
   |true=>rfl
   |false=>exact absurd (by simp[aw,h]) hs
  have EB:=Bd hr (by omega)
  have hup:fZ n<=2:=by simp only[fZ];split<;>omega
  obtain ⟨i,ya,yb,hi,hc,ha,hb,r⟩:=f145 n _ kE h1 h2 h3 hr (by omega)
  have hci:i=w9 n n.keys.length 1:=Dr hc (IN hr (by omega))
  have CK:kH n=.two (cI n 0 i) n.keys[i] (cI n (i+fZ n-1) n.keys.length):=by
   simp only[kH,if_neg hs,<-hci,List.getD_eq_getElem?_getD,zA hi,wJ]
  have ha0:=ha
  have tL:=hb
  obtain ⟨QU,Rw,M5,M4,Rv,En,CA,Na,Em,IM,Oo,IL,Lt,rfl⟩:=ha.shape
  obtain ⟨LC,KP,KO,KN,KM,KT,KS,KR,KQ,Lv,Lu,E8,Ls,rfl⟩:=hb.shape
  obtain ⟨VA,Vz,Vy,_⟩:=ha.cl
  obtain ⟨MX,MW,MV,_⟩:=hb.cl
  refine fH e133 rfl (by simp[l1,l2,l3]) ?_
  simp[c133]
  refine ap (vI _ _) ?_
  simp[VY]
  refine ap (r _ _) ?_
  simp[aa,aG,aq,VA,Vz,Vy,MX,MW,MV]
  rw[CK]
  exact ⟨_,_,_,ha0,tL,⟨false,4,_,rfl,.inr rfl,by simp⟩,rfl⟩
theorem f134 (n:Nd) (x:AV) (hx:iq n x) (h1:n.keys.length<=60000) (h2:n.items.length<=60000) (h3:n.kids.length<=60001) (hp nx):aZ E 134 [x] hp nx (.v (.bool (lX n))) hp nx .p:=by
 have vI:=f120 n _ hx (by omega) (by omega) (by omega)
 have kE:=hx
 obtain ⟨k,i,d,rfl,⟨k1,k2,k4,rfl,_⟩,⟨i1,i2,i4,rfl,_⟩,⟨d1,d2,d4,rfl,_⟩⟩:=hx
 refine aF e134 rfl (by simp) ?_ hp nx
 simp[c134]
 by_cases hk:n.kids.length=1
 ·have Iw:(n.kids.length:Int)=1:=by omega
  simp[hk,Iw,lX]
 ·have Iw:¬(n.kids.length:Int)=1:=by omega
  simp[hk,Iw]
  refine ap (vI _ _) ?_
  simp[lX,hk]
  omega
theorem Ua (a b:Nd) (x y:AV) (hx:iq a x) (hy:iq b y) (key:List UInt8) (h1:a.keys.length<=100000) (h2:a.items.length<=100000) (h3:a.kids.length<=100001)
  (v8:b.keys.length<=100000) (Al:b.items.length<=100000) (Se:b.kids.length<=100001) :
  ∃z,iq (mD a key b) z/\∀hp nx,aZ E 146 [x,.str key,y] hp nx z hp nx .p:=by
 by_cases hl:a.leaf=b.leaf
 ·obtain ⟨z,hz,r⟩:=f146 a b x y hx hy hl key h1 h2 h3 v8 Al Se
  exact ⟨z,by rw[mD,if_pos hl];exact hz,r⟩
 ·refine ⟨x,by rw[mD,if_neg hl];exact hx,fun hp nx => ?_⟩
  obtain ⟨b0,k1,k2,k3,k4,i1,i2,i3,i4,d1,d2,d3,d4,rfl⟩:=hx.shape
  obtain ⟨l1,l2,l3,tL⟩:=hx.cl
  obtain ⟨QU,Rw,M5,M4,Rv,En,CA,Na,Em,IM,Oo,IL,Lt,rfl⟩:=hy.shape
  obtain ⟨VA,Vz,Vy,ae4⟩:=hy.cl
  refine aF e146 rfl (by simp[l1,l2,l3,VA,Vz,Vy]) ?_ hp nx
  rw[<-tL,<-ae4]at hl
  have bt:(b0==QU)=false:=by simpa using hl
  simp[c146,bt,aa,aG,aq,l1,l2,l3]
end Go.Ai
