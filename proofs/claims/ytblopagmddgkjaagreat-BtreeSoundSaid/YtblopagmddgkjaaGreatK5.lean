/- Part 5 of what the proof rests on. -/
import Derived.Test.YtblopagmddgkjaaGreatK4
set_option linter.unusedVariables false
set_option linter.unusedSimpArgs false
set_option maxHeartbeats 4000000
namespace Go.Ai
theorem f95 (r:RS) (n:Nat) (hn:n<=6) (hp:Heap) (nx w:Nat) (hw:w<nx) (h:RD hp w r) :
  ∃hp' nx',aY E 95 [.ptr w 0 0,iV n] hp nx (.v (.int .i64 (aF r n).1)) hp' nx' .e/\RD hp' w (aF r n).2/\pU (· = w) hp nx hp' nx':=by
 obtain ⟨hp1,r1,r2,r3⟩:=f96 r n hp nx w h
 have main:=an (P:=fun v hp' nx'=>v=.v (.int .i64 (aF r n).1)/\RD hp' w (aF r n).2/\pU (· = w) hp nx hp' nx') e95 (args:=[.ptr w 0 0,iV n]) rfl (hp:=hp) (nx:=nx) ?_
 ·obtain ⟨v,hp',nx',h1,rfl,h2⟩:=main
  exact ⟨hp',nx',h1,h2⟩
 ·simp[c95]
  refine ae r1 ?_
  have Q8:=Aj r n
  have lC:RD (ab hp1 nx (some (bytesOf (aH r n).1))) w (aF r n).2:=by
   simp only[RD,cg,show ¬w=nx by omega,if_false];exact r2
  have bU:pU (· = w) hp nx (ab hp1 nx (some (bytesOf (aH r n).1))) (nx+1) :=
   r3.trans ⟨by omega,fun q hq _=>by simp[show ¬q=nx by omega]⟩
  have hnr:(aF r n).1=aA (aH r n).1:=rfl
  generalize hbs:(aH r n).1=bs at *
  simp[ZX]
  refine aM (I:=fun (j:Nat) s=>j<=bs.length/\s.tm 13=.int .i64 j/\s.tm 12=.int .i64 bs.length/\s.tm 11=.sl nx 1 0 bs.length none/\s.tm 5=.int .i64 (aA (bs.take j))/\s.hp=ab hp1 nx (some (bytesOf bs))/\s.nx=nx+1)
   (fun j=>bs.length-j) 0 (by simp[aA]) ?_
  rintro j tm hp' nx' ⟨hj,t13,t12,t11,t5,rfl,rfl⟩
  simp only at t13 t12 t11 t5
  by_cases az:j<bs.length
  ·have bH:bs[j]?=some bs[j]:=zA az
   have hgb:(bytesOf bs)[j]?=some [.v (.int .u8 bs[j].toNat)]:=by simp[bytesOf,bH]
   have Yv:IntKind.wrap .i64 ((j:Int)+1)=(j+1:Nat):=by rw[aj]<;>omega
   have mh:(j:Int)<(bs.length:Int):=by omega
   have hx:aA (bs.take j)<281474976710656:=by
    have h1:=oT (bs.take j)
    have h2:256 ^ (bs.take j).length<=256 ^ 6:=wv (by omega) (by simp;omega)
    omega
   have G9:Cn .shl .i64 (aA (bs.take j):Int) 8=some (.int .i64 (IntKind.wrap .i64 ((aA (bs.take j):Int)*256))):=by
    simp only[Cn];rw[if_neg (by omega)];rfl
   have hb8:IntKind.wrap .i64 (bs[j].toNat:Int)=(bs[j].toNat:Nat):=by have:=bs[j].toNat_lt;rw[aj]<;>omega
   have hor:=Is hx bs[j].toNat_lt
   have AL:bs.take (j+1)=bs.take j++[bs[j]]:=by rw[zz,bH];rfl
   simp[t13,t12,t11,t5,mh,hgb,Yv,G9,hb8,hor,-BitVec.toNat_or,-Int.natCast_add,-Int.ofNat_lt,-Int.natCast_mul]
   exact ⟨j+1,by omega,by omega,by simp,by rw[AL,lg]⟩
  ·have:j=bs.length:=by omega
   subst this
   simp[t13,t12,t5]
   refine ⟨?_,lC,bU⟩
   rw[hnr]
theorem f97 (r:RS) (hp:Heap) (nx w:Nat) (hw:w<nx) (h:RD hp w r) :
  ∃hp' nx',aY E 97 [.ptr w 0 0] hp nx (.agg (ea r).1.cells) hp' nx' .e/\RD hp' w (ea r).2/\pU (· = w) hp nx hp' nx':=by
 have main:=an (P:=fun v hp' nx'=>v=.agg (ea r).1.cells/\RD hp' w (ea r).2/\pU (· = w) hp nx hp' nx') e97 (args:=[.ptr w 0 0]) rfl (hp:=hp) (nx:=nx) ?_
 ·obtain ⟨v,hp',nx',h1,rfl,h2⟩:=main
  exact ⟨hp',nx',h1,h2⟩
 ·have aaI:pU (· = w) hp nx (ab hp nx (some [[.str [],iV 0,iV 0]])) (nx+1):=⟨by omega,fun q hq _=>by simp[show ¬q=nx by omega]⟩
  have aeG:RD (ab hp nx (some [[.str [],iV 0,iV 0]])) w r:=by simp only[RD,cg,show ¬w=nx by omega,if_false];exact h
  obtain ⟨hp1,nx1,r1,r2,r3⟩:=f95 r 1 (by omega) _ (nx+1) w (by omega) aeG
  have tn:hp1 nx=some [[.str [],iV 0,iV 0]]:=by rw[r3.ah nx (by omega) (by omega)];simp
  have EO:=r3.le
  simp[c97]
  refine ae r1 ?_
  simp
  by_cases mj:(aF r 1).1=255
  ·have Oh:((aF r 1).1:Int)=255:=by omega
   obtain ⟨aT,ar,u1,u2,u3⟩:=f95 _ 4 (by omega) _ nx1 w (by omega) r2
   have BE:=u3.le
   have vJ:aT nx=some [[.str [],iV 0,iV 0]]:=by rw[u3.ah nx (by omega) (by omega),tn]
   obtain ⟨kr,o6,v1,v2,v3⟩:=f95 _ 4 (by omega) _ ar w (by omega) u2
   have YC:=v3.le
   have Sr:kr nx=some [[.str [],iV 0,iV 0]]:=by rw[v3.ah nx (by omega) (by omega),vJ]
   have CO:kr w=some [[.str (aF (aF (aF r 1).2 4).2 4).2.1,.v (.bool (aF (aF (aF r 1).2 4).2 4).2.2)]]:=v2
   simp[Oh]
   refine ae u1 ?_
   simp
   refine ae v1 ?_
   have Yw:¬w=o6:=by omega
   have WB:¬nx=o6:=by omega
   have hwx:¬w=nx:=by omega
   have bU:pU (· = w) hp nx kr o6:=((aaI.trans r3).trans u3).trans v3
   have aes:¬o6=w:=by omega
   have hxw:¬nx=w:=by omega
   cases N5:(aF (aF (aF r 1).2 4).2 4).2.2<;>by_cases hz:(aF (aF r 1).2 4).1=0 <;>
    (simp[Yw,WB,hwx,hxw,aes,CO,Sr,aa,N5,hz]
     refine ⟨?_,?_,?_⟩
     ·simp[ea,mj,bD.cells,hz]
     ·simp[RD,ea,mj,N5,hz,hwx,Yw]
     ·refine ⟨by omega,fun q hq TU => ?_⟩
      have TU:q≠w:=TU
      simp[show ¬q=nx by omega,show ¬q=o6 by omega,TU]
      exact bU.ah q hq TU)
  ·have Oh:¬((aF r 1).1:Int)=255:=by omega
   obtain ⟨aT,u1,u2,u3⟩:=f96 (aF r 1).2 (aF r 1).1 hp1 nx1 w r2
   have vJ:aT nx=some [[.str [],iV 0,iV 0]]:=by rw[u3.ah nx (by omega) (by omega),tn]
   simp[Oh]
   refine ae u1 ?_
   have hwx:¬w=nx:=by omega
   simp[vJ,aa]
   have bU:pU (· = w) hp nx aT nx1:=((aaI.trans r3).trans u3)
   refine ⟨by simp[ea,mj,bD.cells],by simp[RD,ea,mj,hwx];exact u2,⟨bU.le,fun q hq TU => ?_⟩⟩
   simp[show ¬q=nx by omega]
   exact bU.ah q hq TU
structure NH (hp:Heap) (nx b w:Nat) (n:Nd) (xk xi xd:AV):Prop where
 at':hp b=some [[.v (.bool n.leaf),xk,xi,xd]]
 k:cT hp nx 1 (n.keys.map aN) xk
 i:cT hp nx 3 (n.items.map bD.cells) xi
 d:cT hp nx 1 (n.kids.map bC) xd
 kb:b∉bf xk/\w∉bf xk/\0∉bf xk
 ib:b∉bf xi/\w∉bf xi/\0∉bf xi
 db:b∉bf xd/\w∉bf xd/\0∉bf xd
 ki:∀q∈bf xk,q∉bf xi
 kd:∀q∈bf xk,q∉bf xd
 id':∀q∈bf xi,q∉bf xd
theorem NH.ah {hp hp':Heap} {nx nx' b w:Nat} {n:Nd} {xk xi xd:AV} (h:NH hp nx b w n xk xi xd) (hb:b≠w) (vJ:b<nx) (hs:pU (· = w) hp nx hp' nx'):NH hp' nx' b w n xk xi xd :=
 ⟨by rw[hs.ah b vJ hb,h.at'],h.k.ah hs.le fun r hr=>hs.ah r (h.k.lt r hr) (fun e=>h.kb.2.1 (e▸hr)),h.i.ah hs.le fun r hr=>hs.ah r (h.i.lt r hr) (fun e=>h.ib.2.1 (e▸hr)),
  h.d.ah hs.le fun r hr=>hs.ah r (h.d.lt r hr) (fun e=>h.db.2.1 (e▸hr)),h.kb,h.ib,h.db,h.ki,h.kd,h.id'⟩
theorem NH.RI {hp:Heap} {nx b w:Nat} {n:Nd} {xk xi xd:AV} (h:NH hp nx b w n xk xi xd) (k:Nat):∃x0,iD n x0/\x0.closed=true/\kh (k+3) hp (.agg [.v (.bool n.leaf),xk,xi,xd])=some x0:=by
 obtain ⟨n1,z1,c1,e1,g1⟩:=gn (k:=k) h.k eL
 obtain ⟨n2,z2,c2,e2,g2⟩:=gn (k:=k) h.i eM
 obtain ⟨n3,z3,c3,e3,g3⟩:=gn (k:=k) h.d fk
 refine ⟨.agg [.v (.bool n.leaf),.rs n1 z1 (n.keys.map aN) c1,.rs n2 z2 (n.items.map bD.cells) c2,.rs n3 z3 (n.kids.map bC) c3],⟨_,_,_,rfl,⟨_,_,_,rfl,g1⟩,⟨_,_,_,rfl,g2⟩,⟨_,_,_,rfl,g3⟩⟩,by simp,?_⟩
 exact tY (by simp[e1,e2,e3,aq])
theorem Oy (kind:Int) (hk:kind=1\/kind=2) (s:List UInt8) (tm:Nat->AV) (hp:Heap) (nx:Nat) (n:Nd) (r:RS) (xk xi xd:AV) (t4:tm 4=.ptr 0 0 0) (t6:tm 6=.ptr 1 0 0) (t7:tm 7=.ptr 2 0 0)
  (h0:hp 0=some [eC.cells]) (hN:NH hp nx 1 2 n xk xi xd) (hR:RD hp 2 r) (he:nO kind s=(n,r)) (hl:n.keys.length<=70000/\n.items.length<=70000/\n.kids.length<=70001) :
  W (aY E) fo (oW [.cell 4 (some 4),.t 5] (OK kind s)) ⟨tm,hp,nx⟩:=by
 obtain ⟨x0,kN,hc0,hz0⟩:=hN.RI 3
 have xf:=na (hp:=hp) (nx:=nx) (args:=[.agg [.v (.bool n.leaf),xk,xi,xd]]) (args0:=[x0]) (by simp[hz0]) rfl (f68 n x0 kN (by omega) (by omega) (by omega) cG 0)
 have Su:hp 2=some [[.str r.1,.v (.bool r.2)]]:=hR
 have AB:=hN.at'
 have hd:=De hk s
 rw[he]at hd
 obtain ⟨s1,bad⟩:=r
 simp only at Su hd
 have Mi:hp 0=some [[.v (.bool false),nS,nS,nS]]:=h0
 cases bad
 ·by_cases hs:s1=[]
  ·simp[fo,t4,t6,t7,Su,hs,AB]
   refine ae xf ?_
   cases hr:ax n
   ·simp[t4,t6,t7,Mi,aa]
    refine ⟨.bE [eC,iV 11],by simp[eC,aq],?_⟩
    refine ⟨fun m h => ?_,fun _=>rfl⟩
    rw[hd]at h;simp[hs,hr]at h
   ·obtain ⟨k1,k2⟩:=hN.k.one
    obtain ⟨i1,i2⟩:=hN.i.one
    obtain ⟨d1,d2⟩:=hN.d.one
    have Hu:hp 1=some [[AV.v (Value.bool n.leaf),xk,xi,xd]]:=AB
    simp[t4,t6,t7,Mi,Hu,aa,k2,i2,d2]
    have DO:NH (ab hp 0 (some [[AV.v (Value.bool n.leaf),xk,xi,xd]])) nx 1 2 n xk xi xd :=
     ⟨by simp[AB],hN.k.ah (zD _) (fun q hq=>by simp[show ¬q=0 from fun e=>hN.kb.2.2 (e▸hq)]),hN.i.ah (zD _) (fun q hq=>by simp[show ¬q=0 from fun e=>hN.ib.2.2 (e▸hq)]),
      hN.d.ah (zD _) (fun q hq=>by simp[show ¬q=0 from fun e=>hN.db.2.2 (e▸hq)]),hN.kb,hN.ib,hN.db,hN.ki,hN.kd,hN.id'⟩
    obtain ⟨x1,Lk,Lw,Yt⟩:=DO.RI 2
    refine ⟨.bE [x1,iV 0],rM (by simp[Yt]),fun m h => ?_,fun h => ?_⟩
    ·rw[hd]at h;simp[hs,hr]at h;subst h
     exact ⟨x1,Lk,rfl⟩
    ·rw[hd]at h;simp[hs,hr]at h
  ·simp[fo,t4,t6,t7,Su,hs,Mi,aa]
   refine ⟨.bE [eC,iV 11],by simp[eC,aq],?_⟩
   refine ⟨fun m h => ?_,fun _=>rfl⟩
   rw[hd]at h;simp[hs]at h
 ·simp[fo,t4,t6,t7,Su,Mi,aa]
  refine ⟨.bE [eC,iV 11],by simp[eC,aq],?_⟩
  refine ⟨fun m h => ?_,fun _=>rfl⟩
  rw[hd]at h;simp at h
theorem Qj {K:AV->Heap->Nat->Kd->Prop} (r:RS) (n:Nat) (hn:n<=6) {hp:Heap} {nx w:Nat} (hw:w<nx) (h:RD hp w r)
  (k:∀hp' nx',RD hp' w (aF r n).2->pU (· = w) hp nx hp' nx'->K (.v (.int .i64 (aF r n).1)) hp' nx' .e):gQ (aY E) 95 [.ptr w 0 0,iV n] hp nx K:=by
 obtain ⟨hp',nx',h1,h2,h3⟩:=f95 r n hn hp nx w hw h
 exact ae h1 (k _ _ h2 h3)
theorem afH {K:AV->Heap->Nat->Kd->Prop} (r:RS) (n:Nat) {hp:Heap} {nx w:Nat} (h:RD hp w r)
  (k:∀hp',RD hp' w (aH r n).2->pU (· = w) hp nx hp' nx->K (.str (aH r n).1) hp' nx .e):gQ (aY E) 96 [.ptr w 0 0,iV n] hp nx K:=by
 obtain ⟨hp',h1,h2,h3⟩:=f96 r n hp nx w h
 exact ae h1 (k _ h2 h3)
theorem afG {K:AV->Heap->Nat->Kd->Prop} (r:RS) {hp:Heap} {nx w:Nat} (hw:w<nx) (h:RD hp w r)
  (k:∀hp' nx',RD hp' w (ea r).2->pU (· = w) hp nx hp' nx'->K (.agg (ea r).1.cells) hp' nx' .e):gQ (aY E) 97 [.ptr w 0 0] hp nx K:=by
 obtain ⟨hp',nx',h1,h2,h3⟩:=f97 r hp nx w hw h
 exact ae h1 (k _ _ h2 h3)
theorem NH.key {hp hp':Heap} {nx w:Nat} {n:Nd} {xk xi xd:AV} (h:NH hp nx 1 w n xk xi xd) (h2:1<nx) (hw:w<nx) (k:List UInt8) (h3:hp' nx=some (n.keys.map aN++[aN k])) (h4:∀q,q≠nx->q∉bf xk->hp' q=hp q) :
  NH (ab hp' 1 (some [[.v (.bool n.leaf),.sl nx 1 0 (n.keys.length+1) none,xi,xd]])) (nx+1) 1 w ⟨n.leaf,n.keys++[k],n.items,n.kids⟩ (.sl nx 1 0 (n.keys.length+1) none) xi xd:=by
 have hi:=fun q hq=>h.i.lt q hq
 have hd:=fun q hq=>h.d.lt q hq
 refine ⟨by simp,.inr ⟨nx,by omega,by simp,by simp[show ¬nx=1 by omega,h3]⟩,h.i.ah (by omega) fun q hq => ?_,h.d.ah (by omega) fun q hq => ?_,by simp;omega,h.ib,h.db,?_,?_,h.id'⟩
 ·have:=hi q hq
  have iL:¬q=1:=fun e=>h.ib.1 (e▸hq)
  simp only[cg,iL,if_false]
  exact h4 q (by omega) (fun hk=>h.ki q hk hq)
 ·have:=hd q hq
  have iL:¬q=1:=fun e=>h.db.1 (e▸hq)
  simp only[cg,iL,if_false]
  exact h4 q (by omega) (fun hk=>h.kd q hk hq)
 ·intro q hq;simp at hq;subst hq;intro hq;have:=hi _ hq;omega
 ·intro q hq;simp at hq;subst hq;intro hq;have:=hd _ hq;omega
theorem NH.item {hp hp':Heap} {nx w:Nat} {n:Nd} {xk xi xd:AV} (h:NH hp nx 1 w n xk xi xd) (h2:1<nx) (hw:w<nx) (k:bD) (h3:hp' nx=some (n.items.map bD.cells++[k.cells])) (h4:∀q,q≠nx->q∉bf xi->hp' q=hp q) :
  NH (ab hp' 1 (some [[.v (.bool n.leaf),xk,.sl nx 3 0 (n.items.length+1) none,xd]])) (nx+1) 1 w ⟨n.leaf,n.keys,n.items++[k],n.kids⟩ xk (.sl nx 3 0 (n.items.length+1) none) xd:=by
 have hi:=fun q hq=>h.k.lt q hq
 have hd:=fun q hq=>h.d.lt q hq
 refine ⟨by simp,h.k.ah (by omega) fun q hq => ?_,.inr ⟨nx,by omega,by simp,by simp[show ¬nx=1 by omega,h3]⟩,h.d.ah (by omega) fun q hq => ?_,h.kb,by simp;omega,h.db,?_,h.kd,?_⟩
 ·have:=hi q hq
  have iL:¬q=1:=fun e=>h.kb.1 (e▸hq)
  simp only[cg,iL,if_false]
  exact h4 q (by omega) (fun hk=>h.ki q hq hk)
 ·have:=hd q hq
  have iL:¬q=1:=fun e=>h.db.1 (e▸hq)
  simp only[cg,iL,if_false]
  exact h4 q (by omega) (fun hk=>h.id' q hk hq)
 ·intro q hq FZ;simp at FZ;subst FZ;have:=hi _ hq;omega
 ·intro q hq;simp at hq;subst hq;intro hq;have:=hd _ hq;omega
theorem NH.kid {hp hp':Heap} {nx w:Nat} {n:Nd} {xk xi xd:AV} (h:NH hp nx 1 w n xk xi xd) (h2:1<nx) (hw:w<nx) (k:Int) (h3:hp' nx=some (n.kids.map bC++[bC k])) (h4:∀q,q≠nx->q∉bf xd->hp' q=hp q) :
  NH (ab hp' 1 (some [[.v (.bool n.leaf),xk,xi,.sl nx 1 0 (n.kids.length+1) none]])) (nx+1) 1 w ⟨n.leaf,n.keys,n.items,n.kids++[k]⟩ xk xi (.sl nx 1 0 (n.kids.length+1) none):=by
 have hi:=fun q hq=>h.k.lt q hq
 have hd:=fun q hq=>h.i.lt q hq
 refine ⟨by simp,h.k.ah (by omega) fun q hq => ?_,h.i.ah (by omega) fun q hq => ?_,.inr ⟨nx,by omega,by simp,by simp[show ¬nx=1 by omega,h3]⟩,h.kb,h.ib,by simp;omega,h.ki,?_,?_⟩
 ·have:=hi q hq
  have iL:¬q=1:=fun e=>h.kb.1 (e▸hq)
  simp only[cg,iL,if_false]
  exact h4 q (by omega) (fun hk=>h.kd q hq hk)
 ·have:=hd q hq
  have iL:¬q=1:=fun e=>h.ib.1 (e▸hq)
  simp only[cg,iL,if_false]
  exact h4 q (by omega) (fun hk=>h.id' q hq hk)
 ·intro q hq FZ;simp at FZ;subst FZ;have:=hi _ hq;omega
 ·intro q hq FZ;simp at FZ;subst FZ;have:=hd _ hq;omega
abbrev Xz (kind:Int) (s:List UInt8) (many:Nat) (leaf:Bool) (g:Nat×Nd×RS) (st:St):Prop :=
 g.1<=many/\st.tm 9=.int .i64 g.1/\st.tm 8=.int .i64 many/\st.tm 4=.ptr 0 0 0/\st.tm 6=.ptr 1 0 0/\st.tm 7=.ptr 2 0 0/\st.hp 0=some [eC.cells]/\(∃xk xi xd,NH st.hp st.nx 1 2 g.2.1 xk xi xd)/\RD st.hp 2 g.2.2/\2<st.nx /\
  fE (many-g.1) g.2.1 g.2.2=nO kind s/\g.2.1.leaf=leaf/\g.2.1.keys.length<=g.1/\g.2.1.items.length<=g.1/\g.2.1.kids.length<=g.1+1
theorem Oz (kind:Int) (hk:kind=1\/kind=2) (s:List UInt8) (many:Nat) (hm:many<=65535) (leaf:Bool) (g:Nat×Nd×RS) (st:St) (h0:Xz kind s many leaf g st) :
  W (aY E) (match c67.body with | .seq _ (.seq _ (.seq _ (.seq _ (.seq _ (.seq _ (.seq (.seq _ (.block _ l)) _))))))=>l|_=>.skip) (LY 0 (Ks (aY E) fo (oW [.cell 4 (some 4),.t 5] (OK kind s)))) st:=by
 simp only[c67]
 refine aM (I:=Xz kind s many leaf) (fun g=>many-g.1) g h0 ?_
 rintro ⟨j,n,r⟩ tm hp nx ⟨hj,t9,t8,t4,t6,t7,hz,⟨xk,xi,xd,hN⟩,hR,yP,oh,dj,uL,Az,hl3⟩
 simp only at hj t9 t8 t4 t6 t7 hz hN hR yP oh dj uL Az hl3
 have Su:hp 2=some [[.str r.1,.v (.bool r.2)]]:=hR
 have stop:∀tm,tm 4=.ptr 0 0 0->tm 6=.ptr 1 0 0->tm 7=.ptr 2 0 0->fE (many-j) n r=(n,r)->W (aY E) fo (oW [.cell 4 (some 4),.t 5] (OK kind s)) ⟨tm,hp,nx⟩:=by
  intro tm t4 t6 t7 he
  exact Oy kind hk s tm hp nx n r xk xi xd t4 t6 t7 hz hN hR (by rw[<-oh,he]) ⟨by omega,by omega,by omega⟩
 by_cases az:j<many
 ·have mh:(j:Int)<(many:Int):=by omega
  cases hb:r.2
  ·rw[hb]at Su
   have Sh:fE (many-(j+1)) (eE n r).1 (eE n r).2=nO kind s:=by
    rw[<-oh,show many-j=many-(j+1)+1 by omega,fE,hb];rfl
   have hw9:IntKind.wrap .i64 ((j:Int)+1)=(j+1:Nat):=by rw[aj]<;>omega
   simp[t9,t8,t4,t6,t7,mh,Su,hN.at',-Int.ofNat_lt,-Int.natCast_add]
   refine Qj r 1 (by omega) yP hR ?_
   intro hp1 nx1 hR1 vL
   have EO:=vL.le
   simp[t9,t8,t4,t6,t7,-Int.natCast_add]
   refine afH _ _ hR1 ?_
   intro aT hR2 Oc
   have DO:NH aT nx1 1 2 n xk xi xd:=(hN.ah (by omega) (by omega) vL).ah (by omega) (by omega) Oc
   obtain ⟨kr,a1,a2,a3,a4⟩:=DO.k.xO (bytes:=16) (new:=[aN (aH (aF r 1).2 (aF r 1).1).1]) (by simp) (by simp;omega)
   have hN3:=DO.key (by omega) (by omega) _ a2 a4
   have e1:hp1 1=hp 1:=vL.ah 1 (by omega) (by omega)
   have e2:aT 1=hp1 1:=Oc.ah 1 (by omega) (by omega)
   have e3:kr 1=aT 1:=a4 1 (by omega) DO.kb.1
   have e3z:kr 0=some [eC.cells]:=by
    rw[a4 0 (by omega) DO.kb.2.2,Oc.ah 0 (by omega) (by omega),vL.ah 0 (by omega) (by omega)];exact hz
   have e3r:RD kr 2 (aH (aF r 1).2 (aF r 1).1).2:=by
    show kr 2=_;rw[a4 2 (by omega) DO.kb.2.1];exact hR2
   have eN:=hN.at'
   simp[aN]at a1
   obtain ⟨i1,i2⟩:=hN.i.one
   obtain ⟨d1,d2⟩:=hN.d.one
   simp[t9,t8,t4,t6,t7,a1,e1,e2,e3,eN,aa,-Int.natCast_add]
   cases dU:n.leaf
   ·rw[dU]at hN3
    simp[t9,t8,t4,t6,t7,-Int.natCast_add]
    refine Qj (nx:=nx1+1) _ 4 (by omega) (by omega) (show RD _ 2 (aH (aF r 1).2 (aF r 1).1).2 by simp[RD];exact e3r) ?_
    intro fW sN hR4 Ht
    have hn4:=Ht.le
    have Lx:=hN3.ah (by omega) (by omega) Ht
    obtain ⟨oB,b1,b2,b3,b4⟩:=Lx.d.xO (bytes:=8) (new:=[bC ((aF (aH (aF r 1).2 (aF r 1).1).2 4).1:Int)]) (by simp) (by simp;omega)
    have hN5:=Lx.kid (by omega) (by omega) _ b2 b4
    have g1:=Ht.ah 1 (by omega) (by omega)
    have g5:oB 1=fW 1:=b4 1 (by omega) Lx.db.1
    have e5z:oB 0=some [eC.cells]:=by
     rw[b4 0 (by omega) Lx.db.2.2,Ht.ah 0 (by omega) (by omega)];simpa using e3z
    have e5r:RD oB 2 (aF (aH (aF r 1).2 (aF r 1).1).2 4).2:=by
     show oB 2=_;rw[b4 2 (by omega) Lx.db.2.1];exact hR4
    simp at g1
    simp[bC]at b1
    simp[t9,t8,t4,t6,t7,b1,g1,g5,aa,hw9,-Int.natCast_add,-Prod.exists,-Bool.exists_bool]
    have bU:eE n r=(⟨n.leaf,n.keys++[(aH (aF r 1).2 (aF r 1).1).1],n.items,n.kids++[((aF (aH (aF r 1).2 (aF r 1).1).2 4).1:Int)]⟩,(aF (aH (aF r 1).2 (aF r 1).1).2 4).2):=by
     simp[eE,dU]
    refine ⟨(j+1,_,_),by simp;omega,by omega,by simp,by simp[t8],by simp[t4],by simp[t6],by simp[t7],by simpa using e5z,⟨_,_,_,hN5⟩,by simp[RD];exact e5r,(by show 2<sN+1;omega),?_,?_,by simp;omega,by simp;omega,by simp;omega⟩
    ·rw[bU]at Sh;simpa [dU] using Sh
    ·simp[<-dj,dU]
   ·rw[dU]at hN3
    simp[t9,t8,t4,t6,t7,-Int.natCast_add]
    refine afG (nx:=nx1+1) _ (by omega) (show RD _ 2 (aH (aF r 1).2 (aF r 1).1).2 by simp[RD];exact e3r) ?_
    intro fW sN hR4 Ht
    have hn4:=Ht.le
    have Lx:=hN3.ah (by omega) (by omega) Ht
    obtain ⟨oB,b1,b2,b3,b4⟩:=Lx.i.xO (bytes:=32) (new:=[(ea (aH (aF r 1).2 (aF r 1).1).2).1.cells]) (by simp) (by simp;omega)
    have hN5:=Lx.item (by omega) (by omega) _ b2 b4
    have g1:=Ht.ah 1 (by omega) (by omega)
    have g5:oB 1=fW 1:=b4 1 (by omega) Lx.ib.1
    have e5z:oB 0=some [eC.cells]:=by
     rw[b4 0 (by omega) Lx.ib.2.2,Ht.ah 0 (by omega) (by omega)];simpa using e3z
    have e5r:RD oB 2 (ea (aH (aF r 1).2 (aF r 1).1).2).2:=by
     show oB 2=_;rw[b4 2 (by omega) Lx.ib.2.1];exact hR4
    have Lt:(ea (aH (aF r 1).2 (aF r 1).1).2).1.cells.all AV.one=true:=by simp[bD.cells]
    have iM:(ea (aH (aF r 1).2 (aF r 1).1).2).1.cells.length=3:=by simp[bD.cells]
    simp at g1
    simp at b1
    generalize AT:(ea (aH (aF r 1).2 (aF r 1).1).2).1.cells=cs at *
    simp at Lt
    simp[t9,t8,t4,t6,t7,iM,Lt,b1,g1,g5,aa,hw9,-Int.natCast_add,-Prod.exists,-Bool.exists_bool]
    have bU:eE n r=(⟨n.leaf,n.keys++[(aH (aF r 1).2 (aF r 1).1).1],n.items++[(ea (aH (aF r 1).2 (aF r 1).1).2).1],n.kids⟩,(ea (aH (aF r 1).2 (aF r 1).1).2).2):=by
     simp[eE,dU]
    refine ⟨Lt,(j+1,_,_),by simp;omega,by omega,by simp,by simp[t8],by simp[t4],by simp[t6],by simp[t7],by simpa using e5z,⟨_,_,_,hN5⟩,by simp[RD];exact e5r,(by show 2<sN+1;omega),?_,?_,by simp;omega,by simp;omega,by simp;omega⟩
    ·rw[bU]at Sh;simpa [dU] using Sh
    ·simp[<-dj,dU]
  ·rw[hb]at Su
   simp[t9,t8,t4,t6,t7,mh,Su,-Int.ofNat_lt]
   exact stop _ (by simp[t4]) (by simp[t6]) (by simp[t7]) (Bo hb)
 ·have mh:¬(j:Int)<(many:Int):=by omega
  have:many-j=0:=by omega
  simp[t9,t8,t4,t6,t7,mh,-Int.ofNat_lt]
  exact stop _ (by simp[t4]) (by simp[t6]) (by simp[t7]) (by rw[this];rfl)
theorem f67 (kind:Int) (s:List UInt8):∃v,OK kind s v/\∀hp nx,aY E 67 [iV kind,.str s] hp nx v hp nx .p:=by
 refine fM e67 rfl (by simp) ?_
 have hm:(aF (s,false) 2).1<=65535:=by have:=RC (s,false) 2;omega
 have main:∀(st:St),kind=1\/kind=2->Xz kind s (aF (s,false) 2).1 (decide (kind=1)) (0,(dh kind (aF (s,false) 2).2).1,(dh kind (aF (s,false) 2).2).2) st ->
   W (aY E) (match c67.body with | .seq _ (.seq _ (.seq _ (.seq _ (.seq _ (.seq _ (.seq (.seq _ (.block _ l)) _))))))=>l|_=>.skip) (LY 0 (Ks (aY E) fo (oW [.cell 4 (some 4),.t 5] (OK kind s)))) st :=
  fun st hk h=>Oz kind hk s _ hm _ _ st h
 simp only[c67]at main
 by_cases h1:kind=1
 ·subst h1
  simp[c67,aa,-nW]
  refine Qj (s,false) 2 (by omega) (by omega) (by simp[RD]) ?_
  intro hp1 nx1 hR1 vL
  have e1:=vL.ah 1 (by omega) (by omega)
  have e0:=vL.ah 0 (by omega) (by omega)
  simp at e1 e0
  simp[e1,-nW]
  simp only[nW]
  refine main _ (.inl rfl) ?_
  have hle:=vL.le
  refine ⟨by simp,by simp,by simp,by simp,by simp,by simp,by simpa [eC] using e0,⟨_,_,_,⟨by simpa [dh] using e1,cT.nil,cT.nil,cT.nil,by simp,by simp,by simp,by simp,by simp,by simp⟩⟩,by simpa [dh] using hR1,(by show 2<nx1;omega),rfl,by simp[dh],by simp[dh],by simp[dh],by simp[dh]⟩
 ·by_cases h2:kind=2
  ·subst h2
   simp[c67,aa,-nW]
   refine Qj (s,false) 2 (by omega) (by omega) (by simp[RD]) ?_
   intro hp1 nx1 hR1 vL
   have e1:=vL.ah 1 (by omega) (by omega)
   have e0:=vL.ah 0 (by omega) (by omega)
   have hle:=vL.le
   simp at e1 e0
   simp[e1,-nW]
   refine Qj _ 4 (by omega) (by omega) hR1 ?_
   intro aT ar hR2 Oc
   have g1:=Oc.ah 1 (by omega) (by omega)
   have g0:=Oc.ah 0 (by omega) (by omega)
   have AO:=Oc.le
   rw[e1]at g1
   rw[e0]at g0
   simp[e1,g1,aa,cI,show ¬1=ar by omega,-nW]
   simp only[nW]
   refine main _ (.inr rfl) ?_
   refine ⟨by simp,by simp,by simp,by simp,by simp,by simp,by simp[eC,g0,show ¬0=ar by omega],⟨_,_,_,⟨by simp[dh],cT.nil,cT.nil,.inr ⟨ar,by simp,rfl,?_⟩,by simp,by simp,by simp;omega,by simp,by simp,by simp⟩⟩,?_,(by show 2<ar+1;omega),rfl,by simp[dh],by simp[dh],by simp[dh],by simp[dh]⟩
   ·simp[dh,bC,show ¬ar=1 by omega]
   ·simp[RD,dh,show ¬2=ar by omega];exact hR2
  ·simp[c67,aa,h1,h2,aq]
   refine ⟨fun n h => ?_,fun _=>rfl⟩
   simp[AW,h1,h2]at h
theorem f154 (n:Nat) (hn:0<n) (hl:n<=1000000) (hp:Heap) (nx:Nat):aY E 154 [nS,iV n] hp nx (.sl nx 3 0 0 none) (ab hp nx (some (List.replicate n [.str [],iV 0,iV 0]))) (nx+1) .e:=by
 have main:=(an (P:=fun v hp' nx'=>v=.sl nx 3 0 0 none/\hp'=ab hp nx (some (List.replicate n [.str [],iV 0,iV 0]))/\nx'=nx+1) e154 (args:=[nS,iV n]) rfl (hp:=hp) (nx:=nx) ?_)
 ·obtain ⟨v,hp',nx',h1,rfl,rfl,rfl⟩:=main
  exact h1
 have h1:¬(n:Int)<0:=by omega
 have h2:(0:Int)<n:=by omega
 have h3:IntKind.wrap .i64 (n:Int)=n:=by rw[aj]<;>omega
 have h4:IntKind.wrap .i64 0=0:=rfl
 have hA:An 3 32 [.str [],iV 0,iV 0] nS (iV n) hp nx=some (.sl nx 3 0 n none,ab hp nx (some (List.replicate n [.str [],iV 0,iV 0])),nx+1):=by
  simp only[An]
  rw[if_pos ⟨by omega,by omega,by omega,rfl,rfl⟩]
  simp only[cI,qH,zl]
  rw[if_pos (.inl trivial),if_neg (by omega),if_pos ⟨by simp only[zS];omega,by simp only[zS];omega⟩]
  simp
 simp[c154,h1,h2,h3,h4,b9,bV,idxOf,ef,hA,-Int.ofNat_lt,-Int.natCast_pos]
theorem f152 (es:List (List bD)) (xs:List AV) (c:Option Nat) (h:S7 3 bD.cells es xs) (hn:es.length<=1000) (hs:(cS es).length<=1000000) :
  ∃z,eV 3 ((cS es).map bD.cells) z/\∀hp nx,aY E 152 [.rs false 1 (xs.map fun x=>[x]) c] hp nx z hp nx .p:=by
 refine ⟨if (cS es).length=0 then nS else .rs false 3 ((cS es).map bD.cells) none,?_,fun hp nx => ?_⟩
 ·split
  ·rename_i h0
   have:cS es=[]:=by simpa using h0
   exact ⟨true,0,_,by rw[this];rfl,.inl rfl,fun _=>by rw[this];rfl⟩
  ·exact ⟨false,_,_,rfl,.inr rfl,fun h=>by cases h⟩
 have gj:=h.closed (fun l=>eM)
 have cV:∀l:List bD,(l.map bD.cells).all (fun l=>l.all AV.one)=true:=Bl
 obtain ⟨CN,hx⟩:=h
 refine aD e152 rfl (by simp only[bT,AV.closed,gj,Bool.and_self]) ?_ hp nx
 simp[c152]
 refine aM (I:=fun (j:Nat) s'=>j<=es.length/\s'.tm 11=.int .i64 j/\s'.tm 10=.int .i64 xs.length/\s'.tm 9=.rs false 1 (xs.map fun x=>[x]) c/\s'.tm 0=.rs false 1 (xs.map fun x=>[x]) c/\s'.tm 3=.int .i64 (cS (es.take j)).length/\s'.nx=0/\s'.hp=cG) (fun j=>es.length-j) 0 (by simp[cS]) ?_
 rintro j tm hp nx ⟨hj,t11,t10,t9,t0,t3,yP,ni⟩
 simp only at hj t11 t10 t9 t0 t3 yP ni
 subst yP;subst ni
 by_cases az:j<es.length
 ·have nL:j<xs.length:=by omega
  have mh:(j:Int)<xs.length:=by omega
  have bU:=congrArg List.length (mY az)
  rw[zG]at bU
  have hle:=uX es (j+1)
  have bG:=kX (k:=.i64) (c:=c) nL
  obtain ⟨nil,sz,cap,uJ,hz,Se⟩:=hx j az nL
  have hlen:tM xs[j]=some (.v (.int .i64 (es[j].length:Nat))):=by rw[uJ];simp
  have hw:IntKind.wrap .i64 ((j:Int)+1)=(j+1:Nat):=by rw[aj]<;>omega
  generalize hA:(cS (es.take j)).length=A at *
  generalize hB:(cS (es.take (j+1))).length=B at *
  have mq:IntKind.wrap .i64 ((A:Int)+(es[j].length:Nat))=(B:Nat):=by rw[aj]<;>omega
  have WD:¬(B:Int)<0:=by omega
  simp[t11,t10,t9,t0,t3,mh,bG,hlen,hw,mq,WD,-ag,-Int.ofNat_lt,-Int.natCast_add]
  exact ⟨j+1,by omega,by omega,rfl,by rw[hB]⟩
 have YE:j=es.length:=by omega
 subst YE
 have vF:es.take es.length=es:=zW
 rw[vF]at t3
 by_cases h0:(cS es).length=0
 ·have hem:∀(j:Nat) (h:j<es.length),es[j]=[]:=by
   intro j h
   have:=uX es (j+1)
   rw[mY h,zG]at this
   exact zf.1 (by omega)
  have hG:∀hp nx,aY E 154 [nS,iV 0] hp nx nS hp nx .p:=by
   intro hp nx
   refine aD e154 rfl (by simp) ?_ hp nx
   have h4:IntKind.wrap .i64 0=0:=rfl
   simp[c154,h4,aq]
  rw[h0]at t3
  simp[t11,t10,CN,t3]
  refine ap (hG _ _) ?_
  simp[t0]
  refine aM (I:=fun (j:Nat) s'=>j<=es.length/\s'.tm 27=.int .i64 j/\s'.tm 26=.int .i64 xs.length/\s'.tm 25=.rs false 1 (xs.map fun x=>[x]) c/\s'.tm 6=nS) (fun j=>es.length-j) 0 (by simp) ?_
  rintro j tm hp nx ⟨hj,t27,t26,t25,t6⟩
  simp only at hj t27 t26 t25 t6
  by_cases az:j<es.length
  ·have nL:j<xs.length:=by omega
   have mh:(j:Int)<xs.length:=by omega
   have bG:=kX (k:=.i64) (c:=c) nL
   have hw:IntKind.wrap .i64 ((j:Int)+1)=(j+1:Nat):=by rw[aj]<;>omega
   obtain ⟨nil,sz,cap,uJ,hz,Se⟩:=hx j az nL
   rw[hem j az]at uJ
   have sX:bu 3 32 nS xs[j] hp nx=some (nS,hp,nx):=by
    rw[uJ,bw hz];simp[cI]
   simp[t27,t26,t25,t6,mh,bG,hw,sX,-ag,-Int.ofNat_lt,-Int.natCast_add]
   exact ⟨j+1,by omega,by omega,rfl⟩
  ·have:j=es.length:=by omega
   subst this
   have:¬(es.length:Int)<xs.length:=by omega
   simp[t27,t26,t6,this,zf.1 h0,aq,-Int.ofNat_lt]
 ·simp[t11,t10,CN,t3]
  refine ae (f154 (cS es).length (by omega) hs _ _) ?_
  simp[t0]
  generalize hT:(cS es).length=T at *
  generalize hZ:List.replicate T ([.str [],iV 0,iV 0]:List AV)=Z
  have hZl:Z.length=T:=by rw[<-hZ];simp
  refine aM (I:=fun (j:Nat) s'=>j<=es.length/\s'.tm 27=.int .i64 j/\s'.tm 26=.int .i64 xs.length/\s'.tm 25=.rs false 1 (xs.map fun x=>[x]) c/\s'.tm 6=.sl 0 3 0 (cS (es.take j)).length none/\s'.hp 0=some ((cS (es.take j)).map bD.cells++Z.drop (cS (es.take j)).length)) (fun j=>es.length-j) 0 (by simp[cS,hZ]) ?_
  rintro j tm hp nx ⟨hj,t27,t26,t25,t6,hh⟩
  simp only at hj t27 t26 t25 t6 hh
  by_cases az:j<es.length
  ·have nL:j<xs.length:=by omega
   have mh:(j:Int)<xs.length:=by omega
   have bG:=kX (k:=.i64) (c:=c) nL
   have hw:IntKind.wrap .i64 ((j:Int)+1)=(j+1:Nat):=by rw[aj]<;>omega
   obtain ⟨nil,sz,cap,uJ,hz,Se⟩:=hx j az nL
   have bU:=mY az
   have hle:=uX es (j+1)
   rw[bU,zG]at hle
   have sX:bu 3 32 (.sl 0 3 0 (cS (es.take j)).length none) xs[j] hp nx=some (.sl 0 3 0 (cS (es.take (j+1))).length none,ab hp 0 (some ((cS (es.take (j+1))).map bD.cells++Z.drop (cS (es.take (j+1))).length)),nx):=by
    rw[uJ,bw hz,if_pos (cV _)]
    simp only[cI,if_true,hh,Nat.zero_add]
    rw[if_neg (by simp only[zG,zZ,wN];omega),if_pos (by simp only[zG,zZ,wN];omega),vl (m:=T) (by simp) (by simp only[zZ];omega)]
    rw[bU]
    simp only[zg,zG,zZ]
   simp[t27,t26,t25,t6,mh,bG,hw,sX,-ag,-Int.ofNat_lt,-Int.natCast_add]
   exact ⟨j+1,by omega,by omega,rfl,rfl,rfl⟩
  ·have:j=es.length:=by omega
   subst this
   rw[vF,hT]at t6 hh
   have Ga:Z.drop T=[]:=zr (by omega)
   rw[Ga,zT]at hh
   have:¬(es.length:Int)<xs.length:=by omega
   have CU:=C6 (k:=4) (r:=0) (sz:=3) (i:=0) (len:=T) (cap:=none) hh (by simp[hT]) (by rw[zb,zI (by simp[hT])];simp)
   have htk:(((cS es).map bD.cells).drop 0).take T=(cS es).map bD.cells:=by rw[zb];exact zI (by simp[hT])
   rw[htk]at CU
   have bt:¬cS es=[]:=fun e=>h0 (by rw[<-hT,e];rfl)
   simp[t27,t26,t6,this,h0,CU,bt,-Int.ofNat_lt]
theorem f155 (n:Nat) (hn:0<n) (hl:n<=1000000) (hp:Heap) (nx:Nat):aY E 155 [nS,iV n] hp nx (.sl nx 1 0 0 none) (ab hp nx (some (List.replicate n [iV 0]))) (nx+1) .e:=by
 have main:=(an (P:=fun v hp' nx'=>v=.sl nx 1 0 0 none/\hp'=ab hp nx (some (List.replicate n [iV 0]))/\nx'=nx+1) e155 (args:=[nS,iV n]) rfl (hp:=hp) (nx:=nx) ?_)
 ·obtain ⟨v,hp',nx',h1,rfl,rfl,rfl⟩:=main
  exact h1
 have h1:¬(n:Int)<0:=by omega
 have h2:(0:Int)<n:=by omega
 have h3:IntKind.wrap .i64 (n:Int)=n:=by rw[aj]<;>omega
 have h4:IntKind.wrap .i64 0=0:=rfl
 have hA:An 1 8 [iV 0] nS (iV n) hp nx=some (.sl nx 1 0 n none,ab hp nx (some (List.replicate n [iV 0])),nx+1):=by
  simp only[An]
  rw[if_pos ⟨by omega,by omega,by omega,rfl,rfl⟩]
  simp only[cI,qH,zl]
  rw[if_pos (.inl trivial),if_neg (by omega),if_pos ⟨by simp only[zS];omega,by simp only[zS];omega⟩]
  simp
 simp[c155,h1,h2,h3,h4,b9,bV,idxOf,ef,hA,-Int.ofNat_lt,-Int.natCast_pos]
theorem f153 (es:List (List Int)) (xs:List AV) (c:Option Nat) (h:S7 1 bC es xs) (hn:es.length<=1000) (hs:(cS es).length<=1000000) :
  ∃z,eV 1 ((cS es).map bC) z/\∀hp nx,aY E 153 [.rs false 1 (xs.map fun x=>[x]) c] hp nx z hp nx .p:=by
 refine ⟨if (cS es).length=0 then nS else .rs false 1 ((cS es).map bC) none,?_,fun hp nx => ?_⟩
 ·split
  ·rename_i h0
   have:cS es=[]:=by simpa using h0
   exact ⟨true,0,_,by rw[this];rfl,.inl rfl,fun _=>by rw[this];rfl⟩
  ·exact ⟨false,_,_,rfl,.inr rfl,fun h=>by cases h⟩
 have gj:=h.closed (fun l=>fk)
 have cV:∀l:List Int,(l.map bC).all (fun l=>l.all AV.one)=true:=o5
 obtain ⟨CN,hx⟩:=h
 refine aD e153 rfl (by simp only[bT,AV.closed,gj,Bool.and_self]) ?_ hp nx
 simp[c153]
 refine aM (I:=fun (j:Nat) s'=>j<=es.length/\s'.tm 11=.int .i64 j/\s'.tm 10=.int .i64 xs.length/\s'.tm 9=.rs false 1 (xs.map fun x=>[x]) c/\s'.tm 0=.rs false 1 (xs.map fun x=>[x]) c/\s'.tm 3=.int .i64 (cS (es.take j)).length/\s'.nx=0/\s'.hp=cG) (fun j=>es.length-j) 0 (by simp[cS]) ?_
 rintro j tm hp nx ⟨hj,t11,t10,t9,t0,t3,yP,ni⟩
 simp only at hj t11 t10 t9 t0 t3 yP ni
 subst yP;subst ni
 by_cases az:j<es.length
 ·have nL:j<xs.length:=by omega
  have mh:(j:Int)<xs.length:=by omega
  have bU:=congrArg List.length (mY az)
  rw[zG]at bU
  have hle:=uX es (j+1)
  have bG:=kX (k:=.i64) (c:=c) nL
  obtain ⟨nil,sz,cap,uJ,hz,Se⟩:=hx j az nL
  have hlen:tM xs[j]=some (.v (.int .i64 (es[j].length:Nat))):=by rw[uJ];simp
  have hw:IntKind.wrap .i64 ((j:Int)+1)=(j+1:Nat):=by rw[aj]<;>omega
  generalize hA:(cS (es.take j)).length=A at *
  generalize hB:(cS (es.take (j+1))).length=B at *
  have mq:IntKind.wrap .i64 ((A:Int)+(es[j].length:Nat))=(B:Nat):=by rw[aj]<;>omega
  have WD:¬(B:Int)<0:=by omega
  simp[t11,t10,t9,t0,t3,mh,bG,hlen,hw,mq,WD,-ag,-Int.ofNat_lt,-Int.natCast_add]
  exact ⟨j+1,by omega,by omega,rfl,by rw[hB]⟩
 have YE:j=es.length:=by omega
 subst YE
 have vF:es.take es.length=es:=zW
 rw[vF]at t3
 by_cases h0:(cS es).length=0
 ·have hem:∀(j:Nat) (h:j<es.length),es[j]=[]:=by
   intro j h
   have:=uX es (j+1)
   rw[mY h,zG]at this
   exact zf.1 (by omega)
  have hG:∀hp nx,aY E 155 [nS,iV 0] hp nx nS hp nx .p:=by
   intro hp nx
   refine aD e155 rfl (by simp) ?_ hp nx
   have h4:IntKind.wrap .i64 0=0:=rfl
   simp[c155,h4,aq]
  rw[h0]at t3
  simp[t11,t10,CN,t3]
  refine ap (hG _ _) ?_
  simp[t0]
  refine aM (I:=fun (j:Nat) s'=>j<=es.length/\s'.tm 27=.int .i64 j/\s'.tm 26=.int .i64 xs.length/\s'.tm 25=.rs false 1 (xs.map fun x=>[x]) c/\s'.tm 6=nS) (fun j=>es.length-j) 0 (by simp) ?_
  rintro j tm hp nx ⟨hj,t27,t26,t25,t6⟩
  simp only at hj t27 t26 t25 t6
  by_cases az:j<es.length
  ·have nL:j<xs.length:=by omega
   have mh:(j:Int)<xs.length:=by omega
   have bG:=kX (k:=.i64) (c:=c) nL
   have hw:IntKind.wrap .i64 ((j:Int)+1)=(j+1:Nat):=by rw[aj]<;>omega
   obtain ⟨nil,sz,cap,uJ,hz,Se⟩:=hx j az nL
   rw[hem j az]at uJ
   have sX:bu 1 8 nS xs[j] hp nx=some (nS,hp,nx):=by
    rw[uJ,bw hz];simp[cI]
   simp[t27,t26,t25,t6,mh,bG,hw,sX,-ag,-Int.ofNat_lt,-Int.natCast_add]
   exact ⟨j+1,by omega,by omega,rfl⟩
  ·have:j=es.length:=by omega
   subst this
   have:¬(es.length:Int)<xs.length:=by omega
   simp[t27,t26,t6,this,zf.1 h0,aq,-Int.ofNat_lt]
 ·simp[t11,t10,CN,t3]
  refine ae (f155 (cS es).length (by omega) hs _ _) ?_
  simp[t0]
  generalize hT:(cS es).length=T at *
  generalize hZ:List.replicate T ([iV 0]:List AV)=Z
  have hZl:Z.length=T:=by rw[<-hZ];simp
  refine aM (I:=fun (j:Nat) s'=>j<=es.length/\s'.tm 27=.int .i64 j/\s'.tm 26=.int .i64 xs.length/\s'.tm 25=.rs false 1 (xs.map fun x=>[x]) c/\s'.tm 6=.sl 0 1 0 (cS (es.take j)).length none/\s'.hp 0=some ((cS (es.take j)).map bC++Z.drop (cS (es.take j)).length)) (fun j=>es.length-j) 0 (by simp[cS,hZ]) ?_
  rintro j tm hp nx ⟨hj,t27,t26,t25,t6,hh⟩
  simp only at hj t27 t26 t25 t6 hh
  by_cases az:j<es.length
  ·have nL:j<xs.length:=by omega
   have mh:(j:Int)<xs.length:=by omega
   have bG:=kX (k:=.i64) (c:=c) nL
   have hw:IntKind.wrap .i64 ((j:Int)+1)=(j+1:Nat):=by rw[aj]<;>omega
   obtain ⟨nil,sz,cap,uJ,hz,Se⟩:=hx j az nL
   have bU:=mY az
   have hle:=uX es (j+1)
   rw[bU,zG]at hle
   have sX:bu 1 8 (.sl 0 1 0 (cS (es.take j)).length none) xs[j] hp nx=some (.sl 0 1 0 (cS (es.take (j+1))).length none,ab hp 0 (some ((cS (es.take (j+1))).map bC++Z.drop (cS (es.take (j+1))).length)),nx):=by
    rw[uJ,bw hz,if_pos (cV _)]
    simp only[cI,if_true,hh,Nat.zero_add]
    rw[if_neg (by simp only[zG,zZ,wN];omega),if_pos (by simp only[zG,zZ,wN];omega),vl (m:=T) (by simp) (by simp only[zZ];omega)]
    rw[bU]
    simp only[zg,zG,zZ]
   simp[t27,t26,t25,t6,mh,bG,hw,sX,-ag,-Int.ofNat_lt,-Int.natCast_add]
   exact ⟨j+1,by omega,by omega,rfl,rfl,rfl⟩
  ·have:j=es.length:=by omega
   subst this
   rw[vF,hT]at t6 hh
   have Ga:Z.drop T=[]:=zr (by omega)
   rw[Ga,zT]at hh
   have:¬(es.length:Int)<xs.length:=by omega
   have CU:=C6 (k:=4) (r:=0) (sz:=1) (i:=0) (len:=T) (cap:=none) hh (by simp[hT]) (by rw[zb,zI (by simp[hT])];simp)
   have htk:(((cS es).map bC).drop 0).take T=(cS es).map bC:=by rw[zb];exact zI (by simp[hT])
   rw[htk]at CU
   have bt:¬cS es=[]:=fun e=>h0 (by rw[<-hT,e];rfl)
   simp[t27,t26,t6,this,h0,CU,bt,-Int.ofNat_lt]
theorem abS (ks:List (List UInt8)) (x:AV) (hx:eV 1 (ks.map aN) x) (hl:ks.length<=1000000) (hp:Heap) (nx:Nat) :
  ∃v hp' nx',aY E 112 [x] hp nx v hp' nx' .e/\cT hp' nx' 1 (ks.map aN) v/\nx<=nx'/\(∀r,r<nx->hp' r=hp r)/\∀r∈bf v,nx<=r:=by
 refine an (P:=fun v hp' nx'=>cT hp' nx' 1 (ks.map aN) v/\nx<=nx'/\(∀r,r<nx->hp' r=hp r)/\∀r∈bf v,nx<=r) e112 (args:=[x]) rfl (hp:=hp) (nx:=nx) ?_
 obtain ⟨nil,sz,cap,rfl,hz,hn⟩:=hx
 cases nil
 ·by_cases he:ks=[]
  ·subst he
   have h1:bu 1 16 (.rs false 1 [] (some 0)) (.rs false sz (([]:List (List UInt8)).map aN) cap) hp nx=some (.rs false 1 [] (some 0),hp,nx):=by
    rw[bw hz];simp[cI]
   have xg:bu 1 16 (.rs false 1 [] (some 0)) (.rs false sz [] cap) hp nx=some (.rs false 1 [] (some 0),hp,nx):=h1
   simp[c112,xg,-bw]
   exact .inl ⟨false,1,0,rfl,.inr rfl,fun h=>(by cases h),by simp⟩
  ·have Ls:ks.length≠0:=by simpa using he
   have h1:bu 1 16 (.rs false 1 [] (some 0)) (.rs false sz (ks.map aN) cap) hp nx=some (.sl nx 1 0 ks.length none,ab hp nx (some (ks.map aN)),nx+1):=by
    rw[bw hz,if_pos (mC ks)]
    simp only[cI,zZ,zS,Nat.zero_add]
    rw[if_pos (.inr trivial),if_neg Ls,if_pos (by omega)]
    simp
   simp[c112,h1,-bw]
   refine ⟨.inr ⟨nx,by omega,by simp,by simp⟩,fun r hr=>by simp[show ¬r=nx by omega]⟩
 ·have:=hn rfl
  simp[c112,this]
  exact cT.nil
theorem cT.afL {hp:Heap} {nx sz bytes:Nat} {es:bN} {x:AV} (h:cT hp nx sz es x) {new:bN} (hl:(es.length+new.length)*bytes<=140737488355328) :
  ∃v' hp' nx',cI sz bytes x new hp nx=some (v',hp',nx')/\cT hp' nx' sz (es++new) v'/\nx<=nx'/\(∀q,q<nx->q∉bf x->hp' q=hp q)/\∀q∈bf v',q∈bf x\/nx<=q:=by
 by_cases bt:new=[]
 ·subst bt
  rcases h with ⟨b,z,c,rfl,g1,g2,g3⟩|⟨r,h1,rfl,h2⟩
  ·refine ⟨_,hp,nx,?_,.inl ⟨b,z,c,by rw[zT],g1,by simpa using g2,by simpa using g3⟩,zD _,fun _ _ _=>rfl,by simp⟩
   simp only[cI,zS]
   rw[if_pos g1,if_pos trivial]
  ·refine ⟨.sl r sz 0 (es++[]).length none,ab hp r (some (es++[])),nx,?_,.inr ⟨r,h1,rfl,by simp⟩,zD _,fun q h3 h4=>by simp at h4;simp[h4],fun q hq=>.inl (by simpa using hq)⟩
   simp only[cI,if_true,h2,Nat.zero_add,zS,wH]
   rw[if_neg (by omega),if_pos (zD _)]
   simp[aa]
 ·obtain ⟨hp',h1,h2,h3,h4⟩:=h.xO (bytes:=bytes) bt hl
  exact ⟨_,hp',nx+1,h1,h3,by omega,fun q h5 h6=>h4 q (by omega) h6,fun q hq=>.inr (by simp at hq;omega)⟩
theorem j8 {K:AV->Heap->Nat->Kd->Prop} {hp:Heap} {nx sz bytes:Nat} {es:bN} {x:AV} {new:bN} (h:cT hp nx sz es x) (hl:(es.length+new.length)*bytes<=140737488355328)
  (k:∀v' hp' nx',cT hp' nx' sz (es++new) v'->nx<=nx'->(∀q,q<nx->q∉bf x->hp' q=hp q)->(∀q∈bf v',q∈bf x\/nx<=q)->K v' hp' nx' .e):yu (cI sz bytes x new hp nx) K:=by
 obtain ⟨v',hp',nx',h1,h2,h3,h4,h5⟩:=h.afL (bytes:=bytes) hl
 rw[h1]
 exact k v' hp' nx' h2 h3 h4 h5
theorem Uu (leaf:Bool) (XQ:Bool) (XP:Nat) (Zg:Option Nat) (m6 L:List (List UInt8)) (hbz:XQ=true\/XP=1) (xi xd zi zd v:AV) (w:Nat) (P:AV->Prop) (tm:Nat->AV) (hp:Heap) (nx:Nat)
  (hL:L.length+m6.length<=1000000) (t7:tm 7=.ptr w 0 0) (t5:tm 5=.ptr 1 0 0) (t6:tm 6=.ptr 2 0 0) (h1:hp 1=some [[.v (.bool leaf),.rs XQ XP (m6.map aN) Zg,xi,xd]])
  (hw:hp w=some [[.v (.bool leaf),v,zi,zd]]) (h2:hp 2=some [[.v (.bool false),nS,nS,nS]]) (ho:cT hp nx 1 (L.map aN) v)
  (CO:3<=w) (Yw:w<nx) (hv:∀q∈bf v,3<=q/\q≠w) (Nw:zi.closed=true/\zi.cells=[zi]/\zi.one=true) (V4:zd.closed=true/\zd.cells=[zd]/\zd.one=true)
  (hP:∀kn kz kc,(kn=true\/kz=1)->(kn=true->(L++m6).map aN=[])->P (.agg [.v (.bool leaf),.rs kn kz ((L++m6).map aN) kc,zi,zd])) :
  W (aY E) uY (oW [.cell 6 (some 4)] P) ⟨tm,hp,nx⟩:=by
 have NM:¬1=w:=by omega
 have Lq:¬2=w:=by omega
 have sX:∀hp nx,bu 1 16 v (.rs XQ XP (m6.map aN) Zg) hp nx=cI 1 16 v (m6.map aN) hp nx:=fun hp nx=>by rw[bw hbz,if_pos (mC m6)]
 simp[uY,t7,t5,t6,hw,h1,sX,-bw]
 refine j8 (bytes:=16) (new:=m6.map aN) ho (by simp only[zZ];omega) fun v2 aT ar o2 n2 k2 b2 => ?_
 have mq:aT w=hp w:=k2 w Yw fun h=>(hv w h).2 rfl
 have h22:aT 2=hp 2:=k2 2 (by omega) fun h=>by have:=(hv 2 h).1;omega
 rw[hw]at mq;rw[h2]at h22
 obtain ⟨o2c,o2o⟩:=o2.one
 have Ma:∀q∈bf v2,3<=q/\q≠w:=by
  intro q hq
  rcases b2 q hq with h|h
  ·exact hv q h
  ·omega
 have agw:w∉bf v2:=fun h=>(Ma w h).2 rfl
 have h2n:2∉bf v2:=fun h=>by have:=(Ma 2 h).1;omega
 simp[t7,t5,t6,mq,h22,o2c,o2o,Nw,V4,aa,Lq,Ne.symm Lq]
 obtain ⟨kn,kz,kc,hf,g1,g2⟩:=gn (k:=3) (hp:=ab (ab aT w (some [[.v (.bool leaf),v2,zi,zd]])) 2 (some [[.v (.bool leaf),v2,zi,zd]])) (nx:=ar) (o2.ah (zD _) fun q hq=>by
  have:=Ma q hq
  simp[show ¬q=2 by omega,this.2]) (by rw[<-zg];exact eL)
 rw[<-zg]at hf g2
 refine ⟨.agg [.v (.bool leaf),.rs kn kz ((L++m6).map aN) kc,zi,zd],tY ?_,hP kn kz kc g1 g2⟩
 simp[br,hf,aq,Nw,V4]
theorem f146 (a b:Nd) (x y:AV) (hx:iD a x) (hy:iD b y) (dU:a.leaf=b.leaf) (key:List UInt8) (h1:a.keys.length<=100000) (h2:a.items.length<=100000) (h3:a.kids.length<=100001)
  (xg:b.keys.length<=100000) (AD:b.items.length<=100000) (Sz:b.kids.length<=100001) :
  ∃z,iD (eu a key b) z/\∀hp nx,aY E 146 [x,.str key,y] hp nx z hp nx .p:=by
 obtain ⟨FM,B0,Dw,J8⟩:=a
 obtain ⟨agf,m6,Du,J3⟩:=b
 obtain ⟨kA,iA,dA,rfl,hkA,hiA,hdA⟩:=hx
 obtain ⟨kB,iB,dB,rfl,hkB,hiB,hdB⟩:=hy
 simp only at hkA hiA hdA hkB hiB hdB h1 h2 h3 xg AD Sz dU
 subst dU
 obtain ⟨zi,Nw,ri⟩:=f152 [Dw,Du] [iA,iB] (some 2) ⟨rfl,fun i g g'=>by
  match i,g with
  |0,_=>exact hiA
  |1,_=>exact hiB⟩ (by simp) (by simp[cS];omega)
 obtain ⟨zd,V4,rd⟩:=f153 [J8,J3] [dA,dB] (some 2) ⟨rfl,fun i g g'=>by
  match i,g with
  |0,_=>exact hdA
  |1,_=>exact hdB⟩ (by simp) (by simp[cS];omega)
 have ei:cS [Dw,Du]=Dw++Du:=by simp[cS]
 have ed:cS [J8,J3]=J8++J3:=by simp[cS]
 rw[ei]at Nw;rw[ed]at V4
 have c112:=abS B0 kA hkA (by omega)
 obtain ⟨akn,akz,akc,rfl⟩:=hkA.shape
 obtain ⟨ain,aiz,aic,rfl⟩:=hiA.shape
 obtain ⟨adn,adz,adc,rfl⟩:=hdA.shape
 obtain ⟨XQ,XP,Zg,rfl,hbz,hbn⟩:=hkB
 obtain ⟨bin,biz,bic,rfl⟩:=hiB.shape
 obtain ⟨bdn,bdz,bdc,rfl⟩:=hdB.shape
 have zi1:zi.closed=true/\zi.cells=[zi]/\zi.one=true:=by
  obtain ⟨zin,ziz,zic,rfl⟩:=Nw.shape
  exact ⟨eM,rfl,rfl⟩
 have zd1:zd.closed=true/\zd.cells=[zd]/\zd.one=true:=by
  obtain ⟨zin,ziz,zic,rfl⟩:=V4.shape
  exact ⟨fk,rfl,rfl⟩
 obtain ⟨agj,UZ,U0⟩:=id zi1
 obtain ⟨agk,U1,U2⟩:=id zd1
 refine fM e146 rfl (by simp) ?_
 obtain ⟨v,hp1,nx1,r1,o1,n1,k1,b1⟩:=c112 (ab (ab (ab cG 0 (some [[.v (.bool FM),.rs akn akz (B0.map aN) akc,.rs ain aiz (Dw.map bD.cells) aic,.rs adn adz (J8.map bC) adc]])) 1 (some [[.v (.bool FM),.rs XQ XP (m6.map aN) Zg,.rs bin biz (Du.map bD.cells) bic,.rs bdn bdz (J3.map bC) bdc]])) 2 (some [[.v (.bool false),nS,nS,nS]])) 3
 have p0:=k1 0 (by omega)
 have p1:=k1 1 (by omega)
 have p2:=k1 2 (by omega)
 simp at p0 p1 p2
 have agy:(FM==FM)=true:=by simp
 obtain ⟨o1c,o1o⟩:=o1.one
 simp[c146]
 refine ae r1 ?_
 simp[p0,p1,p2]
 refine ap (ri _ _) ?_
 simp[p0,p1,p2]
 refine ap (rd _ _) ?_
 have g0:¬0=nx1:=by omega
 have g1:¬1=nx1:=by omega
 have g2:¬2=nx1:=by omega
 have vE:nx1∉bf v:=fun h=>by have:=o1.lt nx1 h;omega
 cases FM
 ·simp[p0,p1,p2,o1c,o1o,UZ,U0,U1,U2,aa,g0,g1,g2]
  have DP:¬nx1=1:=by omega
  have g2':¬nx1=2:=by omega
  generalize hH:ab (ab hp1 nx1 (some [[AV.v (Value.bool false),nS,nS,nS]])) nx1 (some [[AV.v (Value.bool false),v,zi,zd]])=H2
  have hHn:H2 nx1=some [[AV.v (Value.bool false),v,zi,zd]]:=by rw[<-hH];simp
  have hHo:∀q,q≠nx1->H2 q=hp1 q:=fun q hq=>by rw[<-hH];simp[hq]
  have o2:cT H2 (nx1+1) 1 (B0.map aN) v:=o1.ah (by omega) fun q hq=>hHo q fun e=>vE (e▸hq)
  refine j8 (bytes:=16) (new:=[[AV.str key]]) o2 (by simp only[zZ,zV,zS];omega) fun v2 aT ar o3 n3 k3 b3 => ?_
  obtain ⟨o3c,QK⟩:=o3.one
  have w1:aT nx1=H2 nx1:=k3 nx1 (by omega) vE
  have w2:aT 1=H2 1:=k3 1 (by omega) fun h=>by have:=b1 1 h;omega
  have w3:aT 2=H2 2:=k3 2 (by omega) fun h=>by have:=b1 2 h;omega
  rw[hHn]at w1
  rw[hHo 1 (Ne.symm DP),p1]at w2
  rw[hHo 2 (Ne.symm g2'),p2]at w3
  have Sr:∀q∈bf v2,3<=q/\q≠nx1:=by
   intro q hq
   rcases b3 q hq with h|h
   ·exact ⟨b1 q h,fun e=>vE (e▸h)⟩
   ·omega
  have o3':cT (ab aT nx1 (some [[AV.v (Value.bool false),v2,zi,zd]])) ar 1 ((B0++[key]).map aN) v2:=by
   have:=o3.ah (hp':=ab aT nx1 (some [[AV.v (Value.bool false),v2,zi,zd]])) (zD _) fun q hq=>by simp[(Sr q hq).2]
   simpa [aN] using this
  simp[p0,p1,p2,o3c,QK,UZ,U0,U1,U2,aa,g0,g1,g2,w1,w2,w3]
  refine Uu false XQ XP Zg m6 (B0++[key]) hbz _ _ zi zd v2 nx1 _ _ _ _ (by simp only[zG,zV,zS];omega) (by simp) (by simp) (by simp) (by simp[g1,w2];exact ⟨rfl,rfl⟩) (by simp) (by simp[g2,w3]) (by simpa using o3') n1 (by omega) Sr zi1 zd1 fun kn kz kc q1 q2 => ?_
  refine ⟨_,_,_,rfl,⟨kn,kz,kc,?_,q1,?_⟩,Nw,V4⟩
  ·simp[eu]
  ·simpa [eu] using q2
 ·simp[p0,p1,p2,o1c,o1o,UZ,U0,U1,U2,aa,g0,g1,g2]
  refine Uu true XQ XP Zg m6 B0 hbz _ _ zi zd v nx1 _ _ _ _ (by omega) (by simp) (by simp) (by simp) (by simp[g1,p1];exact ⟨rfl,rfl⟩) (by simp) (by simp[g2,p2]) (o1.ah (by omega) fun q hq=>by simp[show ¬q=nx1 from fun e=>vE (e▸hq)]) n1 (by omega) (fun q hq=>⟨b1 q hq,fun e=>vE (e▸hq)⟩) zi1 zd1 fun kn kz kc q1 q2 => ?_
  refine ⟨_,_,_,rfl,⟨kn,kz,kc,?_,q1,?_⟩,Nw,V4⟩
  ·simp[eu]
  ·simpa [eu] using q2
def xw (hp:Heap) (nx sz:Nat) (es:bN) (x:AV):Prop :=
 (es=[]/\∃b z,x=.rs b z [] (some 0)/\(b=true\/z=sz))\/∃r,r<nx/\x=.sl r sz 0 es.length none/\hp r=some es
theorem xw.own {hp nx sz es x} (h:xw hp nx sz es x):cT hp nx sz es x:=by
 rcases h with ⟨rfl,b,z,rfl,h⟩|h
 ·exact .inl ⟨b,z,0,rfl,h,fun _=>rfl,by simp⟩
 ·exact .inr h
theorem xw.ah {hp hp':Heap} {nx nx' sz:Nat} {es:bN} {x:AV} (h:xw hp nx sz es x) (hn:nx<=nx') (hk:∀r∈bf x,hp' r=hp r):xw hp' nx' sz es x:=by
 rcases h with h|⟨r,h1,rfl,h2⟩
 ·exact .inl h
 ·exact .inr ⟨r,by omega,rfl,by rw[hk r (by simp),h2]⟩
def DC (hp:Heap) (nx sz:Nat) (x:AV) (es':bN) (v:AV) (hp':Heap) (nx':Nat):Prop :=
 xw hp' nx' sz es' v/\nx<=nx'/\(∀y,y<nx->y∉bf x->hp' y=hp y)/\∀y∈bf v,nx<=y
theorem CG {f:Nat} (hf:M9 f=true) {sz r nx:Nat} {es es':bN} {rest:List AV} {hp:Heap} (h:hp r=some es) (hr:r<nx)
  (key:∀spare:bN,Plain sz spare->∃v aT ar,aY E0 f (.sl r sz 0 es.length (some (es.length+spare.length))::rest) (ab hp r (some (es++spare))) nx v aT ar .e/\QF sz (es.length+spare.length) es' r nx hp v aT ar) :
  ∃v hp' nx',aY E f (.sl r sz 0 es.length none::rest) hp nx v hp' nx' .e/\DC hp nx sz (.sl r sz 0 es.length none) es' v hp' nx':=by
 refine ⟨.sl nx sz 0 es'.length none,ab (ab hp r none) nx (some es'),nx+1,uk (.inl ⟨hf,rfl,rfl,r,sz,es,es',rest,rfl,h,rfl,rfl,fun spare hs => ?_⟩),.inr ⟨nx,by omega,rfl,by simp⟩,by omega,fun y h1 h2 => ?_,by simp⟩
 ·obtain ⟨v,aT,ar,h1,q2,c2,rfl,h3,h4,h5⟩:=key spare hs
  exact ⟨aT,ar,.e,q2,c2,h1,h3,h4,h5⟩
 ·simp at h2
  simp[show ¬y=nx by omega,h2]
theorem f75 (es:bN) (x:AV) (i q nx:Nat) (t:TypeId) (row:List AV) (hp:Heap) (hO:xw hp nx 1 es x) (hi:i<=es.length) (hl:es.length<=1000000) (cV:es.all (fun l=>l.all AV.one)=true) (eI:row.all AV.one=true)
  (hq:q+1<nx) (h1:hp q=some [row]) (h2:hp (q+1)=some [[.ty t 0],[]]) (QU:q∉bf x) (NI:q+1∉bf x) :
  ∃v hp' nx',aY E 75 [x,iV i,.sl q 1 0 1 (some 1)] hp nx v hp' nx' .e/\DC hp nx 1 x (mJ es i row) v hp' nx':=by
 rcases hO with ⟨rfl,b,z,rfl,hz⟩|⟨r,hr,rfl,h⟩
 ·have Hl:i=0:=by simpa using hi
  subst Hl
  have hk:aR hp 1 (.sl q 1 0 1 (some 1))=some [row]:=by simp[aR,h1]
  have ha:cI 1 16 (.rs b z [] (some 0)) [row] hp nx=some (.sl nx 1 0 1 none,ab hp nx (some [row]),nx+1):=by
   simp only[cI];rw[if_pos hz,if_neg (by simp),if_pos (by simp)];simp
  refine an e75 rfl ?_
  simp only[c75]
  simp[b9,bV,idxOf,hz,ef,bu,hk,eI,ha]
  exact ⟨.inr ⟨nx,by omega,rfl,by simp[mJ]⟩,by omega,fun y h3 h4=>by simp[show ¬y=nx by omega],by simp⟩
 ·simp at QU NI
  exact CG rfl h hr fun spare hs=>aaD r q i nx t es spare row hp hi hl cV eI hr hq QU NI h1 h2 hs
theorem f76 (es:bN) (x:AV) (i q nx:Nat) (t:TypeId) (row:List AV) (hp:Heap) (hO:xw hp nx 3 es x) (hi:i<=es.length) (hl:es.length<=1000000) (cV:es.all (fun l=>l.all AV.one)=true) (eI:row.all AV.one=true)
  (hq:q+1<nx) (h1:hp q=some [row]) (h2:hp (q+1)=some [[.ty t 0],[]]) (QU:q∉bf x) (NI:q+1∉bf x) :
  ∃v hp' nx',aY E 76 [x,iV i,.sl q 3 0 1 (some 1)] hp nx v hp' nx' .e/\DC hp nx 3 x (mJ es i row) v hp' nx':=by
 rcases hO with ⟨rfl,b,z,rfl,hz⟩|⟨r,hr,rfl,h⟩
 ·have Hl:i=0:=by simpa using hi
  subst Hl
  have hk:aR hp 3 (.sl q 3 0 1 (some 1))=some [row]:=by simp[aR,h1]
  have ha:cI 3 32 (.rs b z [] (some 0)) [row] hp nx=some (.sl nx 3 0 1 none,ab hp nx (some [row]),nx+1):=by
   simp only[cI];rw[if_pos hz,if_neg (by simp),if_pos (by simp)];simp
  refine an e76 rfl ?_
  simp only[c76]
  simp[b9,bV,idxOf,hz,ef,bu,hk,eI,ha]
  exact ⟨.inr ⟨nx,by omega,rfl,by simp[mJ]⟩,by omega,fun y h3 h4=>by simp[show ¬y=nx by omega],by simp⟩
 ·simp at QU NI
  exact CG rfl h hr fun spare hs=>aaC r q i nx t es spare row hp hi hl cV eI hr hq QU NI h1 h2 hs
theorem f77 (es:bN) (x:AV) (i nx:Nat) (hp:Heap) (hO:xw hp nx 1 es x) (hi:i<es.length) (hl:es.length<=1000000) (cV:es.all (fun l=>l.all AV.one)=true) :
  ∃v hp' nx',aY E 77 [x,iV i,iV (i+1:Nat)] hp nx v hp' nx' .e/\DC hp nx 1 x (xn es i) v hp' nx':=by
 rcases hO with ⟨rfl,_⟩|⟨r,hr,rfl,h⟩
 ·simp at hi
 ·exact CG rfl h hr fun spare hs=>aca r i nx es spare hp hi hl cV hr
theorem f78 (es:bN) (x:AV) (i nx:Nat) (hp:Heap) (hO:xw hp nx 3 es x) (hi:i<es.length) (hl:es.length<=1000000) (cV:es.all (fun l=>l.all AV.one)=true) :
  ∃v hp' nx',aY E 78 [x,iV i,iV (i+1:Nat)] hp nx v hp' nx' .e/\DC hp nx 3 x (xn es i) v hp' nx':=by
 rcases hO with ⟨rfl,_⟩|⟨r,hr,rfl,h⟩
 ·simp at hi
 ·exact CG rfl h hr fun spare hs=>ab9 r i nx es spare hp hi hl cV hr
theorem abR (es:bN) (x:AV) (hx:eV 1 es x) (cV:es.all (fun l=>l.all AV.one)=true) (hl:es.length<=1000000) (hp:Heap) (nx:Nat) :
  ∃v hp' nx',aY E 112 [x] hp nx v hp' nx' .e/\DC hp nx 1 (.v undef) es v hp' nx':=by
 refine an (P:=DC hp nx 1 (.v undef) es) e112 (args:=[x]) rfl (hp:=hp) (nx:=nx) ?_
 obtain ⟨nil,sz,cap,rfl,hz,hn⟩:=hx
 cases nil
 ·by_cases he:es=[]
  ·subst he
   have xg:bu 1 16 (.rs false 1 [] (some 0)) (.rs false sz [] cap) hp nx=some (.rs false 1 [] (some 0),hp,nx):=by
    rw[bw hz];simp[cI]
   simp[c112,xg,-bw]
   exact ⟨.inl ⟨rfl,false,1,rfl,.inr rfl⟩,by omega,fun y _ _=>rfl,by simp⟩
  ·have Ls:es.length≠0:=by simpa using he
   have h1:bu 1 16 (.rs false 1 [] (some 0)) (.rs false sz es cap) hp nx=some (.sl nx 1 0 es.length none,ab hp nx (some es),nx+1):=by
    rw[bw hz,if_pos cV]
    simp only[cI,zS,Nat.zero_add]
    rw[if_pos (.inr trivial),if_neg Ls,if_pos (by omega)]
    simp
   simp[c112,h1,-bw]
   exact ⟨.inr ⟨nx,by omega,by simp,by simp⟩,by omega,fun r hr _=>by simp[show ¬r=nx by omega],by simp⟩
 ·have:=hn rfl
  subst this
  simp[c112]
  exact ⟨.inl ⟨rfl,true,0,rfl,.inl rfl⟩,by omega,fun y _ _=>rfl,by simp⟩
theorem abQ (es:bN) (x:AV) (hx:eV 3 es x) (cV:es.all (fun l=>l.all AV.one)=true) (hl:es.length<=1000000) (hp:Heap) (nx:Nat) :
  ∃v hp' nx',aY E 113 [x] hp nx v hp' nx' .e/\DC hp nx 3 (.v undef) es v hp' nx':=by
 refine an (P:=DC hp nx 3 (.v undef) es) e113 (args:=[x]) rfl (hp:=hp) (nx:=nx) ?_
 obtain ⟨nil,sz,cap,rfl,hz,hn⟩:=hx
 cases nil
 ·by_cases he:es=[]
  ·subst he
   have xg:bu 3 32 (.rs false 3 [] (some 0)) (.rs false sz [] cap) hp nx=some (.rs false 3 [] (some 0),hp,nx):=by
    rw[bw hz];simp[cI]
   simp[c113,xg,-bw]
   exact ⟨.inl ⟨rfl,false,3,rfl,.inr rfl⟩,by omega,fun y _ _=>rfl,by simp⟩
  ·have Ls:es.length≠0:=by simpa using he
   have h1:bu 3 32 (.rs false 3 [] (some 0)) (.rs false sz es cap) hp nx=some (.sl nx 3 0 es.length none,ab hp nx (some es),nx+1):=by
    rw[bw hz,if_pos cV]
    simp only[cI,zS,Nat.zero_add]
    rw[if_pos (.inr trivial),if_neg Ls,if_pos (by omega)]
    simp
   simp[c113,h1,-bw]
   exact ⟨.inr ⟨nx,by omega,by simp,by simp⟩,by omega,fun r hr _=>by simp[show ¬r=nx by omega],by simp⟩
 ·have:=hn rfl
  subst this
  simp[c113]
  exact ⟨.inl ⟨rfl,true,0,rfl,.inl rfl⟩,by omega,fun y _ _=>rfl,by simp⟩
theorem yi (l:List (List UInt8)):(l.map aN).all (fun c=>c.all AV.one)=true:=by
 rw[List.all_map,zQ];intro x _;rfl
theorem yj (l:List bD):(l.map bD.cells).all (fun c=>c.all AV.one)=true:=by
 rw[List.all_map,zQ];intro x _;rfl
theorem abJ (n:Nd) (x:AV) (hx:iD n x) (dU:n.leaf=true) (hl:n.keys.length<=100000) (hi:n.items.length=n.keys.length) (hp:Heap) (nx:Nat) :
  ∃v hp' nx',aY E 74 [x,iV 0,iV n.keys.length] hp nx v hp' nx' .e/\∃xk xi,v=.agg [.v (.bool true),xk,xi,nS]/\xw hp' nx' 1 (n.keys.map aN) xk/\xw hp' nx' 3 (n.items.map bD.cells) xi /\
   nx<=nx'/\(∀y,y<nx->hp' y=hp y)/\(∀y∈bf xk,nx<=y)/\∀y∈bf xi,nx<=y/\y∉bf xk:=by
 obtain ⟨leaf,keys,items,kids⟩:=n
 obtain ⟨kA,iA,dA,rfl,hk,lQ,hd⟩:=hx
 simp only at hk lQ hd dU hl hi
 subst dU
 obtain ⟨k1,k2,k3⟩:=oL (k:=.i64) (k':=.i64) (a:=0) (b:=keys.length) hk (by omega) (by simp)
 obtain ⟨i1,i2,i3⟩:=oL (k:=.i64) (k':=.i64) (a:=0) (b:=keys.length) lQ (by omega) (by simp;omega)
 have Nq:eV 1 (keys.map aN) k1:=by
  have:((keys.map aN).take keys.length).drop 0=keys.map aN:=by rw[zb,zI (by simp)]
  rw[this]at k2;exact k2
 have CL:eV 3 (items.map bD.cells) i1:=by
  have:((items.map bD.cells).take keys.length).drop 0=items.map bD.cells:=by rw[zb,zI (by simp;omega)]
  rw[this]at i2;exact i2
 obtain ⟨kn,oy,kc,rfl⟩:=hk.shape
 obtain ⟨vB,vx,ic,rfl⟩:=lQ.shape
 obtain ⟨dn,xm,dc,rfl⟩:=hd.shape
 have Np:b9 1 (.rs kn oy (keys.map aN) kc) (some (iV 0)) (some (iV keys.length)) none=some k1:=k3
 have Nv:b9 3 (.rs vB vx (items.map bD.cells) ic) (some (iV 0)) (some (iV keys.length)) none=some i1:=i3
 let h0:Heap:=ab (ab hp nx (some [[.v (.bool true),.rs kn oy (keys.map aN) kc,.rs vB vx (items.map bD.cells) ic,.rs dn xm (kids.map bC) dc]])) (nx+1) (some [[.v (.bool false),nS,nS,nS]])
 obtain ⟨v1,hp1,nx1,c1,o1,g1,g2,g3⟩:=abR _ _ Nq (yi keys) (by simp;omega) h0 (nx+1+1)
 have f1:∀y,y<nx+1+1->hp1 y=h0 y:=fun y h=>g2 y h (by simp[bf])
 have e0:hp1 nx=some [[.v (.bool true),.rs kn oy (keys.map aN) kc,.rs vB vx (items.map bD.cells) ic,.rs dn xm (kids.map bC) dc]]:=by rw[f1 nx (by omega)];simp[h0]
 have e1:hp1 (nx+1)=some [[.v (.bool false),nS,nS,nS]]:=by rw[f1 (nx+1) (by omega)];simp[h0]
 have IP:=o1.own.one
 have abb:=o1.own.lt
 have n1:¬nx=nx1:=by omega
 have n2:¬nx+1=nx1:=by omega
 let hA:Heap:=ab (ab hp1 nx1 (some [[.v (.bool false),nS,nS,nS]])) nx1 (some [[.v (.bool true),v1,nS,nS]])
 obtain ⟨v2,aT,ar,c2,o2,m1,m2,m3⟩:=abQ _ _ CL (yj items) (by simp;omega) hA (nx1+1)
 have f2:∀y,y<nx1+1->aT y=hA y:=fun y h=>m2 y h (by simp[bf])
 have e2:aT nx1=some [[.v (.bool true),v1,nS,nS]]:=by rw[f2 nx1 (by omega)];simp[hA]
 have e3:aT (nx+1)=some [[.v (.bool false),nS,nS,nS]]:=by rw[f2 _ (by omega)];simp[hA,n2,e1]
 have TZ:=o2.own.one
 have fN:=o2.own.lt
 refine an e74 rfl ?_
 simp[c74,Np]
 refine ae c1 ?_
 simp[IP.1,IP.2,aa,e0,h0,n1]
 rw[Nv]
 simp
 refine ae c2 ?_
 simp[IP.1,IP.2,TZ.1,TZ.2,aa,e2,e3,n2]
 refine ⟨v1,v2,⟨rfl,rfl⟩,o1.ah (by omega) fun r hr => ?_,o2.ah (zD _) fun r hr => ?_,by omega,fun y hy => ?_,fun y hy => ?_,fun y hy => ?_⟩
 ·have a1:=g3 r hr
  have a2:=abb r hr
  simp[show ¬r=nx1 by omega,show ¬r=nx+1 by omega]
  rw[f2 r (by omega)];simp[hA,show ¬r=nx1 by omega]
 ·have a1:=m3 r hr
  simp[show ¬r=nx1 by omega,show ¬r=nx+1 by omega]
 ·simp[show ¬y=nx1 by omega,show ¬y=nx+1 by omega]
  rw[f2 y (by omega)];simp[hA,show ¬y=nx1 by omega]
  rw[f1 y (by omega)];simp[h0,show ¬y=nx by omega,show ¬y=nx+1 by omega]
 ·have:=g3 y hy;omega
 ·have a1:=m3 y hy
  exact ⟨by omega,fun h=>by have:=abb y h;omega⟩
theorem EC {α:Type} (f:α->List AV) (l:List α) (i:Nat) (a:α):mJ (l.map f) i (f a)=(gg l i a).map f:=by simp[mJ,gg,wR,wS]
theorem OJ {α:Type} (f:α->List AV) (l:List α) (i:Nat):xn (l.map f) i=(fP l i).map f:=by simp[xn,fP,wR,wS]
theorem abK (n:Nd) (x:AV) (hx:iD n x) (hr:ax n=true) (dU:n.leaf=true) (hl:n.keys.length<=60000) (iM:n.items.length=n.keys.length) (lP:n.kids.length<=60000) (i:Nat) (hi:i<=n.keys.length) (key:List UInt8) (it:bD) (z:AV) (hz:eV 3 [it.cells] z) :
  ∃y,iD ⟨true,gg n.keys i key,gg n.items i it,[]⟩ y/\∀hp nx,aY E 42 [x,iV i,.str key,z] hp nx y hp nx .p:=by
 have td:=f68 n x hx (by omega) (by omega) (by omega)
 rw[hr]at td
 obtain ⟨kA,iA,dA,rfl,hk,lQ,hd⟩:=id hx
 obtain ⟨kn,oy,kc,rfl⟩:=hk.shape
 obtain ⟨vB,vx,ic,rfl⟩:=lQ.shape
 obtain ⟨dn,xm,dc,rfl⟩:=hd.shape
 obtain ⟨zn,zsz,zc,rfl,CM,hzn⟩:=hz
 rw[dU]at hx td ⊢
 have aeq:zn=false:=by
  cases zn
  ·rfl
  ·exact absurd (hzn rfl) (by simp)
 subst aeq
 have hz3:zsz=3:=by simpa using CM
 subst hz3
 have Lt:bT it.cells=true:=by simp[bD.cells]
 have Ub:it.cells.all AV.one=true:=rfl
 let Z:List AV:=[.v (.bool false),nS,nS,nS]
 let nl:AV:=nS
 let A:List AV:=[.v (.bool true),.rs kn oy (n.keys.map aN) kc,.rs vB vx (n.items.map bD.cells) ic,.rs dn xm (n.kids.map bC) dc]
 let h0:Heap:=ab (ab cG 0 (some [A])) 1 (some [Z])
 obtain ⟨_,hp1,nx1,c1,xk,xi,rfl,RA,VC,l1,DQ,bk1,bi1⟩:=abJ n _ hx dU (by omega) iM h0 2
 have okc:=RA.own.one
 have oic:=VC.own.one
 have VB:=RA.own.lt
 have oil:=VC.own.lt
 let h2:Heap:=ab (ab hp1 nx1 (some [Z])) nx1 (some [[.v (.bool true),xk,xi,nl]])
 let h3:Heap:=ab (ab h2 (nx1+1) (some [[.str key]])) (nx1+1+1) (some [[.ty 9 0],[]])
 have YM:∀y,y<nx1->h3 y=hp1 y:=fun y hy=>by simp[h3,h2,show ¬y=nx1+1+1 by omega,show ¬y=nx1+1 by omega,show ¬y=nx1 by omega]
 obtain ⟨v1,fW,sN,c2,o4,l4,oI,b4⟩:=f75 (n.keys.map aN) xk i (nx1+1) (nx1+1+2) 9 [.str key] h3 (RA.ah (by omega) fun r hr=>YM r (VB r hr)) (by simpa using hi) (by simp;omega) (yi _) rfl (by omega) (by simp[h3]) (by simp[h3])
  (fun h=>by have:=VB _ h;omega) (fun h=>by have:=VB _ h;omega)
 have vE:=o4.own.one
 have Wd:=o4.own.lt
 have nk:nx1∉bf xk:=fun h=>by have:=VB _ h;omega
 have e4:fW nx1=some [[.v (.bool true),xk,xi,nl]]:=by rw[oI nx1 (by omega) nk];simp[h3,h2,show ¬nx1=nx1+1+1 by omega]
 have e69:fW 1=some [Z]:=by
  rw[oI 1 (by omega) (fun h=>by have:=bk1 _ h;omega),YM 1 (by omega),DQ 1 (by omega)];simp[h0]
 let h5:Heap:=ab fW nx1 (some [[.v (.bool true),v1,xi,nl]])
 let h6:Heap:=ab (ab h5 sN (some [it.cells])) (sN+1) (some [[.ty 84 0],[]])
 have h6o:∀y,y<sN->y≠nx1->h6 y=fW y:=fun y hy RU=>by simp[h6,h5,show ¬y=sN+1 by omega,show ¬y=sN by omega,RU]
 have RB:∀y∈bf xi,y<nx1/\y∉bf xk:=fun y hy=>⟨oil y hy,(bi1 y hy).2⟩
 obtain ⟨v2,DL,Tu,c3,o7,l7,HC,b7⟩:=f76 (n.items.map bD.cells) xi i sN (sN+2) 84 it.cells h6 (VC.ah (by omega) fun r hr=>by
   obtain ⟨a1,a2⟩:=RB r hr
   rw[h6o r (by omega) (by omega),oI r (by omega) a2,YM r a1]) (by simpa [iM] using hi) (by simp;omega) (yj _) Ub (by omega) (by simp[h6]) (by simp[h6])
  (fun h=>by have:=(RB _ h).1;omega) (fun h=>by have:=(RB _ h).1;omega)
 have Ma:=o7.own.one
 have n14:¬nx1=sN:=by omega
 have n15:¬nx1=sN+1:=by omega
 have e7:DL nx1=some [[.v (.bool true),v1,xi,nl]]:=by rw[HC nx1 (by omega) (fun h=>by have:=(RB _ h).1;omega)];simp[h6,h5,n14,n15]
 have e71:DL 1=some [Z]:=by rw[HC 1 (by omega) (fun h=>by have:=(bi1 _ h).1;omega),h6o 1 (by omega) (by omega),e69]
 replace e71:DL 1=some [[.v (.bool false),nS,nS,nS]]:=e71
 replace e7:DL nx1=some [[.v (.bool true),v1,xi,nS]]:=e7
 replace e4:fW nx1=some [[.v (.bool true),xk,xi,nS]]:=e4
 have RE:¬1=nx1:=by omega
 refine fM e42 rfl (by simp[Lt]) ?_
 have g1:¬(i:Int)<0:=by omega
 have g2:¬(n.keys.length:Int)<i:=by omega
 simp[c42,aa]
 refine ap (td _ _) ?_
 simp[g1,g2,aa]
 refine ae c1 ?_
 simp[aa,okc.1,okc.2,oic.1,oic.2,Mu]
 refine ae c2 ?_
 have i3:it.cells.length=3:=rfl
 have it3:it.cells.take 3=it.cells:=rfl
 simp[aa,vE.1,vE.2,e4,i3,it3,Mu,Ub]
 refine ae c3 ?_
 simp[aa,vE.1,vE.2,Ma.1,Ma.2,e7,e71,RE]
 refine ⟨by simp[n14,n15],?_⟩
 have Z9:=(o4.ah (nx':=Tu) (hp':=ab (ab DL nx1 (some [[.v (.bool true),v1,v2,nS]])) 1 (some [[.v (.bool true),v1,v2,nS]])) (by omega) fun r hr=>by
  have a1:=b4 r hr
  have a2:=Wd r hr
  simp[show ¬r=1 by omega,show ¬r=nx1 by omega]
  rw[HC r (by omega) (fun h=>by have:=(RB _ h).1;omega),h6o r a2 (by omega)]).own
 have Z8:=(o7.ah (nx':=Tu) (hp':=ab (ab DL nx1 (some [[.v (.bool true),v1,v2,nS]])) 1 (some [[.v (.bool true),v1,v2,nS]])) (zD _) fun r hr=>by
  have a1:=b7 r hr
  simp[show ¬r=1 by omega,show ¬r=nx1 by omega]).own
 rw[show ([.str key]:List AV)=aN key from rfl,EC]at Z9
 rw[EC]at Z8
 obtain ⟨p1,p2,p3,p4,p5⟩:=gn (k:=3) Z9 eL
 obtain ⟨q1,q2,q3,q4,q5⟩:=gn (k:=3) Z8 eM
 refine ⟨_,tY (k:=4) (cs':=[.v (.bool true),.rs p1 p2 _ p3,.rs q1 q2 _ q3,nS]) (by
  rw[br,br,br,br,p4,q4,aq (by simp),aq (by simp)];rfl),_,_,_,rfl,⟨p1,p2,p3,rfl,p5⟩,⟨q1,q2,q3,rfl,q5⟩,.v9⟩
theorem abL (n:Nd) (x:AV) (hx:iD n x) (hr:ax n=true) (dU:n.leaf=true) (hl:n.keys.length<=60000) (iM:n.items.length=n.keys.length) (lP:n.kids.length<=60000) (i:Nat) (hi:i<n.keys.length) (key:List UInt8) (z:AV) (hz:eV 3 [] z) :
  ∃y,iD ⟨true,fP n.keys i,fP n.items i,[]⟩ y/\∀hp nx,aY E 42 [x,iV i,.str key,z] hp nx y hp nx .p:=by
 have td:=f68 n x hx (by omega) (by omega) (by omega)
 rw[hr]at td
 obtain ⟨kA,iA,dA,rfl,hk,lQ,hd⟩:=id hx
 obtain ⟨kn,oy,kc,rfl⟩:=hk.shape
 obtain ⟨vB,vx,ic,rfl⟩:=lQ.shape
 obtain ⟨dn,xm,dc,rfl⟩:=hd.shape
 obtain ⟨zn,zsz,zc,rfl,CM,hzn⟩:=hz
 rw[dU]at hx td ⊢
 let Z:List AV:=[.v (.bool false),nS,nS,nS]
 let nl:AV:=nS
 let A:List AV:=[.v (.bool true),.rs kn oy (n.keys.map aN) kc,.rs vB vx (n.items.map bD.cells) ic,.rs dn xm (n.kids.map bC) dc]
 let h0:Heap:=ab (ab cG 0 (some [A])) 1 (some [Z])
 obtain ⟨_,hp1,nx1,c1,xk,xi,rfl,RA,VC,l1,DQ,bk1,bi1⟩:=abJ n _ hx dU (by omega) iM h0 2
 have okc:=RA.own.one
 have oic:=VC.own.one
 have VB:=RA.own.lt
 have oil:=VC.own.lt
 let h2:Heap:=ab (ab hp1 nx1 (some [Z])) nx1 (some [[.v (.bool true),xk,xi,nl]])
 have h2o:∀y,y<nx1->h2 y=hp1 y:=fun y hy=>by simp[h2,show ¬y=nx1 by omega]
 obtain ⟨v1,fW,sN,c2,o4,l4,oI,b4⟩:=f77 (n.keys.map aN) xk i (nx1+1) h2 (RA.ah (by omega) fun r hr=>h2o r (VB r hr)) (by simpa using hi) (by simp;omega) (yi _)
 have vE:=o4.own.one
 have Wd:=o4.own.lt
 have nk:nx1∉bf xk:=fun h=>by have:=VB _ h;omega
 have e4:fW nx1=some [[.v (.bool true),xk,xi,nl]]:=by rw[oI nx1 (by omega) nk];simp[h2]
 have e69:fW 1=some [Z]:=by
  rw[oI 1 (by omega) (fun h=>by have:=bk1 _ h;omega),h2o 1 (by omega),DQ 1 (by omega)];simp[h0]
 let h5:Heap:=ab fW nx1 (some [[.v (.bool true),v1,xi,nl]])
 have h5o:∀y,y<sN->y≠nx1->h5 y=fW y:=fun y hy RU=>by simp[h5,RU]
 have RB:∀y∈bf xi,y<nx1/\y∉bf xk:=fun y hy=>⟨oil y hy,(bi1 y hy).2⟩
 obtain ⟨v2,DL,Tu,c3,o7,l7,HC,b7⟩:=f78 (n.items.map bD.cells) xi i sN h5 (VC.ah (by omega) fun r hr=>by
   obtain ⟨a1,a2⟩:=RB r hr
   rw[h5o r (by omega) (by omega),oI r (by omega) a2,h2o r a1]) (by simpa [iM] using hi) (by simp;omega) (yj _)
 have Ma:=o7.own.one
 have n14:¬nx1=sN:=by omega
 have e7:DL nx1=some [[.v (.bool true),v1,xi,nl]]:=by rw[HC nx1 (by omega) (fun h=>by have:=(RB _ h).1;omega)];simp[h5]
 have e71:DL 1=some [Z]:=by rw[HC 1 (by omega) (fun h=>by have:=(bi1 _ h).1;omega),h5o 1 (by omega) (by omega),e69]
 replace e71:DL 1=some [[.v (.bool false),nS,nS,nS]]:=e71
 replace e7:DL nx1=some [[.v (.bool true),v1,xi,nS]]:=e7
 replace e4:fW nx1=some [[.v (.bool true),xk,xi,nS]]:=e4
 have RE:¬1=nx1:=by omega
 refine fM e42 rfl (by simp) ?_
 have g1:¬(i:Int)<0:=by omega
 have g2:¬(n.keys.length:Int)<i:=by omega
 simp[c42,aa]
 refine ap (td _ _) ?_
 simp[g1,g2,aa]
 refine ae c1 ?_
 have e10:hp1 0=some [[.v (.bool true),.rs kn oy (n.keys.map aN) kc,.rs vB vx (n.items.map bD.cells) ic,.rs dn xm (n.kids.map bC) dc]]:=by rw[DQ 0 (by omega)];simp[h0,A]
 have n01:¬0=nx1:=by omega
 have w1:IntKind.wrap .i64 ((i:Int)+1)=(i+1:Nat):=by rw[aj]<;>omega
 simp[aa,okc.1,okc.2,oic.1,oic.2,hi,w1,e10,n01,-Int.natCast_add]
 refine ae c2 ?_
 simp[aa,vE.1,vE.2,e4,w1,-Int.natCast_add]
 refine ae c3 ?_
 simp[aa,vE.1,vE.2,Ma.1,Ma.2,e7,e71,RE]
 have Z9:=(o4.ah (nx':=Tu) (hp':=ab (ab DL nx1 (some [[.v (.bool true),v1,v2,nS]])) 1 (some [[.v (.bool true),v1,v2,nS]])) (by omega) fun r hr=>by
  have a1:=b4 r hr
  have a2:=Wd r hr
  simp[show ¬r=1 by omega,show ¬r=nx1 by omega]
  rw[HC r (by omega) (fun h=>by have:=(RB _ h).1;omega),h5o r a2 (by omega)]).own
 have Z8:=(o7.ah (nx':=Tu) (hp':=ab (ab DL nx1 (some [[.v (.bool true),v1,v2,nS]])) 1 (some [[.v (.bool true),v1,v2,nS]])) (zD _) fun r hr=>by
  have a1:=b7 r hr
  simp[show ¬r=1 by omega,show ¬r=nx1 by omega]).own
 rw[OJ]at Z9 Z8
 obtain ⟨p1,p2,p3,p4,p5⟩:=gn (k:=3) Z9 eL
 obtain ⟨q1,q2,q3,q4,q5⟩:=gn (k:=3) Z8 eM
 refine ⟨_,tY (k:=4) (cs':=[.v (.bool true),.rs p1 p2 _ p3,.rs q1 q2 _ q3,nS]) (by
  rw[br,br,br,br,p4,q4,aq (by simp),aq (by simp)];rfl),_,_,_,rfl,⟨p1,p2,p3,rfl,p5⟩,⟨q1,q2,q3,rfl,q5⟩,.v9⟩
end Go.Ai
namespace Go.Bt
open Go.Ai
def Up (l:bh):Prop:=l.Pairwise fun p q=>al p.1 q.1=true
theorem dC {a b c:Bytes} (h:al a b=true) (k:al c b=false):al a c=true:=by
 by_cases e:b=c
 ·rw[<-e];exact h
 ·exact cK h (pc k e)
theorem UY:∀{keys vs:List Bytes},kS keys->Up (keys.zip vs):=by
 intro keys vs h
 rw[Up,qX]
 intro i j hi hj yU
 simp only[List.getElem_zip]
 exact h i j (by simp at hj;omega) yU
end Go.Bt
namespace Go.Bt
open Go.Ai
abbrev ff:=Bytes->Option Bytes->Nat->bh->List Nat->Prop
inductive oo (P:ff):Bytes->Option Bytes->List Bytes->List Int->bh->List Nat->Prop
 |one {lo hi c l ps}:P lo hi c.toNat l ps->oo P lo hi [] [c] l ps
 |cons {lo k hi c l ps ks cs l' dl}:P lo (some k) c.toNat l ps->oo P k hi ks cs l' dl->oo P lo hi (k::ks) (c::cs) (l++l') (ps++dl)
inductive m9 (P:ff):Bytes->Bytes->List Bytes->List Int->bh->List Nat->Prop
 |nil {lo}:m9 P lo lo [] [] [] []
 |cons {lo k KZ c l ps ks cs l' dl}:P lo (some k) c.toNat l ps->m9 P k KZ ks cs l' dl->m9 P lo KZ (k::ks) (c::cs) (l++l') (ps++dl)
inductive lv (P:ff):Option Bytes->Option Bytes->List Bytes->List Int->bh->List Nat->Prop
 |nil {hi}:lv P hi hi [] [] [] []
 |cons {k KZ hi c l ps ks cs l' dl}:P k KZ c.toNat l ps->lv P KZ hi ks cs l' dl->lv P (some k) hi (k::ks) (c::cs) (l++l') (ps++dl)
theorem oo.len {P:ff} {lo hi ks cs l ps} (h:oo P lo hi ks cs l ps):cs.length=ks.length+1:=by
 induction h with
 |one _=>rfl
 |cons _ _ ih=>simp[ih]
theorem m9.len {P:ff} {lo hi ks cs l ps} (h:m9 P lo hi ks cs l ps):cs.length=ks.length:=by
 induction h with
 |nil=>rfl
 |cons _ _ ih=>simp[ih]
theorem lv.len {P:ff} {lo hi ks cs l ps} (h:lv P lo hi ks cs l ps):cs.length=ks.length:=by
 induction h with
 |nil=>rfl
 |cons _ _ ih=>simp[ih]
theorem oo.imp {P Q:ff} {lo hi ks cs l ps} (h:oo P lo hi ks cs l ps) (e:∀lo hi c l' dl,P lo hi c l' dl->(∀m∈dl,m∈ps)->Q lo hi c l' dl):oo Q lo hi ks cs l ps:=by
 induction h with
 |one h=>exact .one (e _ _ _ _ _ h fun m hm=>hm)
 |cons h _ ih=>exact .cons (e _ _ _ _ _ h fun m hm=>by simp[hm]) (ih fun lo hi c l' dl g hp=>e _ _ _ _ _ g fun m hm=>by simp[hp m hm])
theorem lv.one {P:ff} {a:Bytes} {b hi:Option Bytes} {c:Int} {l ps ks cs l' dl} (h:P a b c.toNat l ps) (hr:lv P b hi ks cs l' dl):oo P a hi ks (c::cs) (l++l') (ps++dl):=by
 induction hr generalizing a c l ps with
 |nil=>simpa using oo.one h
 |cons g _ ih=>exact .cons h (ih g)
theorem m9.seg {P:ff} {lo a:Bytes} {hi ks cs l ps K7 cs' l' dl} (hl:m9 P lo a ks cs l ps) (h:oo P a hi K7 cs' l' dl):oo P lo hi (ks++K7) (cs++cs') (l++l') (ps++dl):=by
 induction hl with
 |nil=>simpa using h
 |cons g _ ih=>simpa [zF] using oo.cons g (ih h)
theorem MC {P:ff} {lo a:Bytes} {b hi:Option Bytes} {c:Int} {ks1 cs1 l1 p1 l p tN sA l2 p2} (h1:m9 P lo a ks1 cs1 l1 p1) (h:P a b c.toNat l p) (h2:lv P b hi tN sA l2 p2) :
  oo P lo hi (ks1++tN) (cs1++c::sA) (l1++(l++l2)) (p1++(p++p2)):=h1.seg (lv.one h h2)
theorem A8 {P:ff} {lo hi ks cs l ps} (h:oo P lo hi ks cs l ps):∃b c cs' l1 l2 p1 p2,cs=c::cs'/\P lo b c.toNat l1 p1/\lv P b hi ks cs' l2 p2/\l=l1++l2/\ps=p1++p2:=by
 induction h with
 |one h=>exact ⟨_,_,_,_,_,_,_,rfl,h,.nil,by simp,by simp⟩
 |cons h _ ih =>
  obtain ⟨b,c,cs',l1,l2,p1,p2,rfl,h1,h2,rfl,rfl⟩:=ih
  exact ⟨_,_,_,_,_,_,_,rfl,h,.cons h1 h2,rfl,rfl⟩
theorem Vg {P:ff} {lo hi ks cs l ps} (h:oo P lo hi ks cs l ps):∀i,i<cs.length->∃a b c cs1 sA ks1 tN l1 l' l2 p1 p' p2,
  ks=ks1++tN/\cs=cs1++c::sA/\cs1.length=i/\m9 P lo a ks1 cs1 l1 p1/\P a b c.toNat l' p'/\lv P b hi tN sA l2 p2/\l=l1++(l'++l2)/\ps=p1++(p'++p2):=by
 induction h with
 |one h =>
  intro i hi
  obtain rfl:i=0:=by simpa using hi
  exact ⟨_,_,_,[],[],[],[],_,_,_,_,_,_,rfl,rfl,rfl,.nil,h,.nil,by simp,by simp⟩
 |cons h hs ih =>
  rename_i lo k hi c l ps ks cs l' dl
  intro i hi
  cases i with
  |zero =>
   obtain ⟨b,c',cs',l1,l2,p1,p2,rfl,h1,h2,rfl,rfl⟩:=A8 hs
   exact ⟨_,_,_,[],_,[],_,_,_,_,_,_,_,rfl,rfl,rfl,.nil,h,.cons h1 h2,rfl,rfl⟩
  |succ i =>
   obtain ⟨a,b,c',cs1,sA,ks1,tN,l1,l',l2,p1,p',p2,rfl,rfl,rfl,g1,g2,g3,rfl,rfl⟩:=ih i (by simpa using hi)
   exact ⟨a,b,c',c::cs1,sA,k::ks1,tN,_,l',l2,_,p',p2,rfl,rfl,by simp,.cons h g1,g2,g3,by simp[zF],by simp[zF]⟩
theorem Kv {P:ff} {b hi ks c cs l ps} (h:lv P b hi ks (c::cs) l ps):∃k K7 KZ l1 l2 p1 p2,b=some k/\ks=k::K7/\P k KZ c.toNat l1 p1/\lv P KZ hi K7 cs l2 p2/\l=l1++l2/\ps=p1++p2:=by
 cases h with
 |cons h hr=>exact ⟨_,_,_,_,_,_,_,rfl,rfl,h,hr,rfl,rfl⟩
theorem Kw {P:ff} {lo a ks cs l ps} (h:m9 P lo a ks cs l ps):∀i,cs.length=i+1->∃a' c cs' K7 l1 l2 p1 p2,ks=K7++[a]/\cs=cs'++[c]/\m9 P lo a' K7 cs' l1 p1/\P a' (some a) c.toNat l2 p2/\l=l1++l2/\ps=p1++p2:=by
 induction h with
 |nil=>intro i hi;simp at hi
 |cons h hr ih =>
  rename_i lo k KZ c l ps ks cs l' dl
  intro i hi
  cases i with
  |zero =>
   have:cs=[]:=by simpa using hi
   subst this
   cases hr
   exact ⟨_,_,[],[],[],_,[],_,rfl,rfl,.nil,h,by simp,by simp⟩
  |succ i =>
   obtain ⟨a',c',cs',K7,l1,l2,p1,p2,rfl,rfl,g1,g2,rfl,rfl⟩:=ih i (by simpa using hi)
   exact ⟨a',c',c::cs',k::K7,_,l2,_,p2,rfl,rfl,.cons h g1,g2,by simp[zF],by simp[zF]⟩
def fK (rd:fx) (N:Bytes->Option Bytes->Nd->bh->List Nat->Prop):ff:=fun lo hi a l ps =>
 ∃n dl,rd a=some ((dT n).toNat,ba n)/\123<=aw n/\aw n<=492/\n.keys≠[]/\N lo hi n l dl/\ps=a::dl
def aB (rd:fx):Nat->Bytes->Option Bytes->Nd->bh->List Nat->Prop
 |0,lo,hi,n,l,ps=>n.leaf=true/\ax n=true/\(∀k∈n.keys,xD lo hi k=true)/\∃vs ia,fv rd n.items vs ia/\l=n.keys.zip vs/\ps=ia.flatten
 |h+1,lo,hi,n,l,ps=>n.leaf=false/\n.items=[]/\(∀k∈n.keys,k.length<=60)/\(∀c∈n.kids,ke c=true) /\
   oo (fun lo hi a l ps=>∃n dl,rd a=some ((dT n).toNat,ba n)/\123<=aw n/\aw n<=492/\n.keys≠[]/\aB rd h lo hi n l dl/\ps=a::dl) lo hi n.keys n.kids l ps
theorem aB.succ {rd:fx} {h:Nat} {lo hi n l ps}:aB rd (h+1) lo hi n l ps↔n.leaf=false/\n.items=[]/\(∀k∈n.keys,k.length<=60)/\(∀c∈n.kids,ke c=true)/\oo (fK rd (aB rd h)) lo hi n.keys n.kids l ps:=Iff.rfl
theorem aB.move {rd mo:fx}:∀{h:Nat} {lo hi n l ps},aB rd h lo hi n l ps->(∀m∈ps,mo m=rd m)->aB mo h lo hi n l ps
 |0,lo,hi,n,l,ps,⟨h1,h2,h3,vs,ia,h4,h5,h6⟩,e=>⟨h1,h2,h3,vs,ia,h4.move (fun m hm=>e m (by rw[h6];exact hm)),h5,h6⟩
 |h+1,lo,hi,n,l,ps,⟨h1,h2,h3,h4,h5⟩,e=>⟨h1,h2,h3,h4,h5.imp fun lo hi a l' dl ⟨n',q,g1,g2,g3,g4,g5,g6⟩ hp =>
   ⟨n',q,by rw[e a (hp a (by rw[g6];simp))];exact g1,g2,g3,g4,g5.move (fun m hm=>e m (hp m (by rw[g6];simp[hm]))),g6⟩⟩
theorem fK.move {rd mo:fx} {h:Nat} {lo hi a l ps} (k:fK rd (aB rd h) lo hi a l ps) (e:∀m∈ps,mo m=rd m):fK mo (aB mo h) lo hi a l ps:=by
 obtain ⟨n',q,g1,g2,g3,g4,g5,g6⟩:=k
 exact ⟨n',q,by rw[e a (by rw[g6];simp)];exact g1,g2,g3,g4,g5.move (fun m hm=>e m (by rw[g6];simp[hm])),g6⟩
theorem vy {rd:fx} {n v ps} (h:eO rd n v ps):∀m∈ps,(rd m).isSome=true:=by
 induction h with
 |nil=>simp
 |cons hn h hb hs hf hr ih =>
  intro m hm
  rcases zH.1 hm with rfl|hm
  ·simp[h]
  ·exact ih m hm
theorem lZ.has {rd:fx} {x v ps} (h:lZ rd x v ps):∀m∈ps,(rd m).isSome=true:=by
 rcases h with ⟨_,_,rfl⟩|⟨_,h,_⟩
 ·simp
 ·exact vy h
theorem fv.has {rd:fx} {xs vs ia} (h:fv rd xs vs ia):∀m∈ia.flatten,(rd m).isSome=true:=by
 intro m hm
 obtain ⟨q,hq,hm⟩:=qe.1 hm
 obtain ⟨i,hi,rfl⟩:=zY hq
 exact (h.2.2 i (by have:=h.2.1;omega) (by have:=h.1;have:=h.2.1;omega) hi).has m hm
theorem oo.mem {P:ff} {Q:Nat->Prop} {lo hi ks cs l ps} (h:oo P lo hi ks cs l ps) (e:∀lo hi c l' dl,P lo hi c l' dl->∀m∈dl,Q m):∀m∈ps,Q m:=by
 induction h with
 |one h=>exact e _ _ _ _ _ h
 |cons h _ ih=>intro m hm;rcases zJ.1 hm with hm|hm;exact e _ _ _ _ _ h m hm;exact ih m hm
theorem aB.has {rd:fx}:∀{h:Nat} {lo hi n l ps},aB rd h lo hi n l ps->∀m∈ps,(rd m).isSome=true
 |0,lo,hi,n,l,ps,⟨h1,h2,h3,vs,ia,h4,h5,h6⟩=>by rw[h6];exact h4.has
 |h+1,lo,hi,n,l,ps,⟨h1,h2,h3,h4,h5⟩=>h5.mem fun lo hi a l' dl ⟨n',q,g1,g2,g3,g4,g5,g6⟩ m hm=>by
   rw[g6]at hm
   rcases zH.1 hm with rfl|hm
   ·simp[g1]
   ·exact g5.has m hm
theorem fK.has {rd:fx} {h:Nat} {lo hi a l ps} (k:fK rd (aB rd h) lo hi a l ps):∀m∈ps,(rd m).isSome=true:=by
 obtain ⟨n',q,g1,g2,g3,g4,g5,rfl⟩:=k
 intro m hm
 rcases zH.1 hm with rfl|hm
 ·simp[g1]
 ·exact g5.has m hm
def Grow (rd mo:fx):Prop:=∀m x,rd m=some x->mo m=some x
theorem Grow.eq {rd mo:fx} (g:Grow rd mo) {m:Nat} (h:(rd m).isSome=true):mo m=rd m:=by
 obtain ⟨x,hx⟩:=wM.1 h
 rw[hx];exact g m x hx
theorem Grow.trans {a b c:fx} (g:Grow a b) (k:Grow b c):Grow a c:=fun m x h=>k m x (g m x h)
theorem aB.grow {rd mo:fx} {h lo hi n l ps} (k:aB rd h lo hi n l ps) (g:Grow rd mo):aB mo h lo hi n l ps:=k.move fun m hm=>g.eq (k.has m hm)
theorem fK.grow {rd mo:fx} {h lo hi a l ps} (k:fK rd (aB rd h) lo hi a l ps) (g:Grow rd mo):fK mo (aB mo h) lo hi a l ps:=k.move fun m hm=>g.eq (k.has m hm)
theorem m9.grow {rd mo:fx} {h lo hi ks cs l ps} (k:m9 (fK rd (aB rd h)) lo hi ks cs l ps) (g:Grow rd mo):m9 (fK mo (aB mo h)) lo hi ks cs l ps:=by
 induction k with
 |nil=>exact .nil
 |cons h _ ih=>exact .cons (h.grow g) ih
theorem lv.grow {rd mo:fx} {h lo hi ks cs l ps} (k:lv (fK rd (aB rd h)) lo hi ks cs l ps) (g:Grow rd mo):lv (fK mo (aB mo h)) lo hi ks cs l ps:=by
 induction k with
 |nil=>exact .nil
 |cons h _ ih=>exact .cons (h.grow g) ih
end Go.Bt
namespace Go.Bt
open Go.Ai
theorem cu {lo:Bytes} {hi:Option Bytes} {k:Bytes}:xD lo hi k=true↔al k lo=false/\∀b,hi=some b->al k b=true:=by
 cases hi<;>simp[xD]
theorem ie {a b c:Bytes} (h:al b a=false) (k:al b c=true):al a c=true:=by
 by_cases e:a=b
 ·rw[e];exact k
 ·exact cK (pc h e) k
def Good (P:ff):Prop:=∀lo hi a l ps,P lo hi a l ps->l≠[]/\∀p∈l,xD lo hi p.1=true
theorem rL {P:ff} (g:Good P) {lo k a l ps} (h:P lo (some k) a l ps):al lo k=true:=by
 obtain ⟨h1,h2⟩:=g _ _ _ _ _ h
 obtain ⟨p,hp⟩:=List.exists_mem_of_ne_nil _ h1
 obtain ⟨h3,h4⟩:=cu.1 (h2 p hp)
 exact ie h3 (h4 k rfl)
theorem oO {P:ff} (g:Good P) {lo hi ks cs l ps} (h:oo P lo hi ks cs l ps) :
  (l≠[]/\∀p∈l,xD lo hi p.1=true)/\(∀k∈ks,al lo k=true/\∀b,hi=some b->al k b=true)/\ks.Pairwise (fun a b=>al a b=true):=by
 induction h with
 |one h=>exact ⟨g _ _ _ _ _ h,by simp,.nil⟩
 |cons h hs ih =>
  rename_i lo k hi c l ps ks cs l' dl
  obtain ⟨⟨i1,i2⟩,i3,i4⟩:=ih
  obtain ⟨g1,g2⟩:=g _ _ _ _ _ h
  have ER:=rL g h
  have hkh:∀b,hi=some b->al k b=true:=by
   intro b hb
   obtain ⟨q,hq⟩:=List.exists_mem_of_ne_nil _ i1
   obtain ⟨q1,q2⟩:=cu.1 (i2 q hq)
   exact ie q1 (q2 b hb)
  refine ⟨⟨by simp[g1],fun p hp => ?_⟩,fun x hx => ?_,?_⟩
  ·rcases zJ.1 hp with hp|hp
   ·obtain ⟨a1,a2⟩:=cu.1 (g2 p hp)
    exact cu.2 ⟨a1,fun b hb=>cK (a2 k rfl) (hkh b hb)⟩
   ·obtain ⟨a1,a2⟩:=cu.1 (i2 p hp)
    exact cu.2 ⟨eZ (dC ER a1),a2⟩
  ·rcases zH.1 hx with rfl|hx
   ·exact ⟨ER,hkh⟩
   ·exact ⟨cK ER (i3 x hx).1,(i3 x hx).2⟩
  ·exact List.pairwise_cons.2 ⟨fun x hx=>(i3 x hx).1,i4⟩
theorem aB.Xk {rd:fx}:∀{h:Nat} {lo hi n l ps},aB rd h lo hi n l ps->(h=0->n.keys≠[])->l≠[]/\∀p∈l,xD lo hi p.1=true
 |0,lo,hi,n,l,ps,⟨h1,h2,h3,vs,ia,h4,h5,h6⟩,hk=>by
  have hf:=((aZ.of h2).leaf h1).1
  have hv:=h4.1
  refine ⟨fun e=>hk rfl ?_,fun p hp => ?_⟩
  ·rw[h5]at e
   have:(n.keys.zip vs).length=0:=by rw[e];rfl
   simp at this
   rcases this with h|h
   ·exact h
   ·subst h;simp at hv;rw[<-zf];omega
  ·rw[h5]at hp
   exact h3 _ (qK hp).1
 |h+1,lo,hi,n,l,ps,⟨h1,h2,h3,h4,h5⟩,_=>(oO (fun lo hi a l ps ⟨n',q,g1,g2,g3,g4,g5,g6⟩=>g5.Xk fun _=>g4) h5).1
theorem fG (rd:fx) (h:Nat):Good (fK rd (aB rd h)):=fun lo hi a l ps ⟨n',q,g1,g2,g3,g4,g5,g6⟩=>g5.Xk fun _=>g4
theorem Ky {P:ff} (g:Good P) {lo a ks cs l ps} (h:m9 P lo a ks cs l ps):(∀p∈l,al p.1 a=true/\al p.1 lo=false)/\al a lo=false:=by
 induction h with
 |nil=>exact ⟨by simp,bc _⟩
 |cons h hr ih =>
  rename_i lo k KZ c l ps ks cs l' dl
  obtain ⟨i1,i2⟩:=ih
  have ER:=rL g h
  refine ⟨fun p hp => ?_,eZ (dC ER i2)⟩
  rcases zJ.1 hp with hp|hp
  ·obtain ⟨a1,a2⟩:=cu.1 ((g _ _ _ _ _ h).2 p hp)
   exact ⟨dC (a2 k rfl) i2,a1⟩
  ·exact ⟨(i1 p hp).1,eZ (dC ER (i1 p hp).2)⟩
theorem Ku {P:ff} (g:Good P) {b hi ks cs l ps} (h:lv P b hi ks cs l ps):∀p∈l,∃k,b=some k/\al p.1 k=false:=by
 induction h with
 |nil=>simp
 |cons h hr ih =>
  rename_i k KZ hi c l ps ks cs l' dl
  intro p hp
  refine ⟨k,rfl,?_⟩
  rcases zJ.1 hp with hp|hp
  ·exact (cu.1 ((g _ _ _ _ _ h).2 p hp)).1
  ·obtain ⟨m,rfl,hm⟩:=ih p hp
   exact eZ (dC (rL g h) hm)
theorem kJ {ks:List Bytes}:kS ks↔ks.Pairwise (fun a b=>al a b=true):=by
 rw[qX]
 exact ⟨fun h i j hi hj yU=>h i j hj yU,fun h i j hj yU=>h i j (by omega) hj yU⟩
theorem Kx {P:ff} {lo a ks cs l ps} (h:m9 P lo a ks cs l ps):(ks=[]/\a=lo)\/ks.getLast?=some a:=by
 induction h with
 |nil=>exact .inl ⟨rfl,rfl⟩
 |cons h hr ih =>
  rcases ih with ⟨rfl,rfl⟩|ih
  ·exact .inr rfl
  ·refine .inr ?_
   rename_i ks cs l' dl
   cases ks with
   |nil=>cases ih
   |cons x ks=>rw[List.getLast?_cons_cons];exact ih
theorem Kt {P:ff} {b hi ks cs l ps} (h:lv P b hi ks cs l ps):(ks=[]/\b=hi)\/(ks.head?=b/\b.isSome=true):=by
 cases h with
 |nil=>exact .inl ⟨rfl,rfl⟩
 |cons=>exact .inr ⟨rfl,rfl⟩
theorem Ii {P:ff} (g:Good P) {lo hi ks cs l ps} (h:oo P lo hi ks cs l ps) {key:Bytes} (hk:xD lo hi key=true):eH ks key<cs.length/\∃a b c cs1 sA ks1 tN l1 l' l2 p1 p' p2,
  ks=ks1++tN/\cs=cs1++c::sA/\cs1.length=eH ks key/\m9 P lo a ks1 cs1 l1 p1/\P a b c.toNat l' p'/\lv P b hi tN sA l2 p2/\l=l1++(l'++l2)/\ps=p1++(p'++p2) /\
  xD a b key=true/\(∀p∈l1,al p.1 key=true)/\(∀p∈l2,al key p.1=true):=by
 obtain ⟨s1,s2,s3⟩:=nJ (kJ.2 (oO g h).2.2) key
 have hlen:=h.len
 refine ⟨by omega,?_⟩
 obtain ⟨a,b,c,cs1,sA,ks1,tN,l1,l',l2,p1,p',p2,rfl,rfl,e3,g1,g2,g3,rfl,rfl⟩:=Vg h (eH ks key) (by omega)
 have el:=g1.len
 have er:=g3.len
 obtain ⟨k1,k2⟩:=cu.1 hk
 have hb:xD a b key=true:=by
  refine cu.2 ⟨?_,fun y hy => ?_⟩
  ·rcases Kx g1 with ⟨rfl,rfl⟩|e
   ·exact k1
   ·have bt:0<ks1.length:=by cases ks1 with
     |nil=>cases e
     |cons=>simp
    rw[List.getLast?_eq_getElem?]at e
    obtain ⟨az,e⟩:=zB.1 e
    have:=s2 (ks1.length-1) (by simp;omega) (by omega)
    rw[wq az,e]at this
    exact this
  ·rcases Kt g3 with ⟨rfl,rfl⟩|⟨e,_⟩
   ·exact k2 y hy
   ·rw[hy]at e
    have bt:0<tN.length:=by cases tN with
     |nil=>cases e
     |cons=>simp
    rw[List.head?_eq_getElem?]at e
    obtain ⟨az,e⟩:=zB.1 e
    have:=s3 ks1.length (by simp;omega) (by omega)
    rw[wj (zD _)]at this
    simp only[Nat.sub_self,e]at this
    exact this
 obtain ⟨b1,b2⟩:=cu.1 hb
 exact ⟨a,b,c,cs1,sA,ks1,tN,l1,l',l2,p1,p',p2,rfl,rfl,e3,g1,g2,g3,rfl,rfl,hb,fun p hp=>dC ((Ky g g1).1 p hp).1 b1,fun p hp=>by
  obtain ⟨k,hk,e⟩:=Ku g g3 p hp
  exact dC (b2 k hk) e⟩
theorem rI {P:ff} (g:Good P) {n:Nd} {lo hi l ps} (h1:n.leaf=false) (h2:n.items=[]) (h3:∀k∈n.keys,k.length<=60) (h4:∀c∈n.kids,ke c=true) (h:oo P lo hi n.keys n.kids l ps) (hk:n.keys≠[]):ax n=true:=by
 have hl:=h.len
 simp only[ax,zN]
 constructor
 ·exact iF.2 ⟨kJ.2 (oO g h).2.2,fun i hi=>h3 _ (zP hi)⟩
 ·have:0<n.keys.length:=zt.2 hk
  simp[iU,h1,h2,hl,this]
  exact h4
theorem aB.right {rd:fx} {h:Nat} {lo hi n l ps} (k:aB rd h lo hi n l ps) (hk:n.keys≠[]):ax n=true:=by
 cases h with
 |zero=>exact k.2.1
 |succ h=>obtain ⟨h1,h2,h3,h4,h5⟩:=aB.succ.1 k;exact rI (fG rd h) h1 h2 h3 h4 h5 hk
def IG (k:Bytes):Nat:=5+k.length
theorem D2 {n:Nd} (dU:n.leaf=false):∀k,k<=n.keys.length->bO n k=((n.keys.take k).map IG).sum
 |0,_=>by simp[bO]
 |k+1,h=>by
  have hz:n.keys[k]?=some n.keys[k]:=zA (by omega)
  rw[zz,hz,bO,D2 dU k (by omega),zg,wV]
  have e1:n.keys.getD k []=n.keys[k]:=by simp[show k<n.keys.length by omega]
  simp only[bQ,dU,zK,if_false,e1,jJ,wI,qi,jB,List.sum_nil,wH,IG]
  omega
theorem oM {n:Nd} (hr:ax n=true) (dU:n.leaf=false):aw n=6+(n.keys.map IG).sum:=by
 rw[aw,if_pos hr,bK,bS,D2 dU _ (zD _),zW]
 simp[dU]
end Go.Bt
namespace Go.Bt
open Go.Ai
structure uo (p p':PM) (pn:List Nat):Prop where
 gen:p'.gen=p.gen
 pins:p'.pins=p.pins
 len:p'.st.length=p.st.length
 nd:pn.Nodup
 new:∀m∈pn,p.has m=true/\p.is m=0/\p'.is m=2
 same:∀m,m∉pn->p'.st.getD m (0,0)=p.st.getD m (0,0)/\p'.rd m=p.rd m
theorem has_eq {p p':PM} (h:p'.st.length=p.st.length) (m:Nat):p'.has m=p.has m:=by simp[PM.has,h]
theorem uo.refl (p:PM):uo p p []:=⟨rfl,rfl,rfl,.nil,by simp,fun _ _=>⟨rfl,rfl⟩⟩
theorem uo.is {p p':PM} {pn} (h:uo p p' pn) {m:Nat} (hm:m∉pn):p'.is m=p.is m:=by simp only[PM.is,(h.same m hm).1]
theorem uo.trans {a b c:PM} {l m:List Nat} (h:uo a b l) (k:uo b c m):uo a c (l++m):=by
 have hd:∀x∈l,x∉m:=fun x hx hm=>by have:=(h.new x hx).2.2;have:=(k.new x hm).2.1;omega
 refine ⟨k.gen.trans h.gen,k.pins.trans h.pins,k.len.trans h.len,zq.2 ⟨h.nd,k.nd,fun x hx y hy e=>hd x hx (e▸hy)⟩,fun x hx => ?_,fun x hx => ?_⟩
 ·rcases zJ.1 hx with hx|hx
  ·obtain ⟨h1,h2,h3⟩:=h.new x hx
   exact ⟨h1,h2,by rw[k.is (hd x hx)];exact h3⟩
  ·obtain ⟨h1,h2,h3⟩:=k.new x hx
   have hl:x∉l:=fun e=>hd x e hx
   exact ⟨by rw[<-has_eq h.len];exact h1,by rw[<-h.is hl];exact h2,h3⟩
 ·simp only[zJ,not_or]at hx
  obtain ⟨h1,h2⟩:=h.same x hx.1
  obtain ⟨k1,k2⟩:=k.same x hx.2
  exact ⟨k1.trans h1,k2.trans h2⟩
theorem Bf {p:PM} {m:Nat} {x} (h:p.read m=some x):p.has m=true/\p.is m≠0/\p.rd m=some x:=by
 unfold PM.read at h
 split at h
 ·rename_i g;exact ⟨g.1,g.2,h⟩
 ·cases h
theorem Il {p:PM} {m:Nat} (h1:p.has m=true) (h2:p.is m≠0):p.read m=p.rd m:=by unfold PM.read;rw[if_pos ⟨h1,h2⟩]
theorem uo.grow {p p':PM} {pn} (h:uo p p' pn):Grow p.read p'.read:=by
 intro m x hm
 obtain ⟨h1,h2,h3⟩:=Bf hm
 have hn:m∉pn:=fun e=>h2 (h.new m e).2.1
 rw[Il (by rw[has_eq h.len];exact h1) (by rw[h.is hn];exact h2),(h.same m hn).2,h3]
theorem uo.put {p p':PM} {kind n:Nat} {s:Bytes} (h:p.put kind s=some (n,p')):uo p p' [n]/\p'.read n=some (kind,s):=by
 obtain ⟨h1,h2,h3,h4,h5,h6,h7,h8⟩:=PM.oU h
 refine ⟨⟨h5,h6,h7,by simp,?_,fun m hm=>h8 m (by simpa using hm)⟩,?_⟩
 ·intro m hm
  simp only[wo]at hm;subst hm
  exact ⟨h1,h2,h3⟩
 ·rw[Il (by rw[has_eq h7];exact h1) (by omega),h4]
structure Dz (t t':T) (pn on:List Nat):Prop where
 p:uo t.p t'.p pn
 put:t'.put=t.put++pn
 old:t'.old=t.old++on
theorem Dz.refl (t:T):Dz t t [] []:=⟨.refl _,by simp,by simp⟩
theorem Dz.trans {a b c:T} {l m k n:List Nat} (h:Dz a b l k) (g:Dz b c m n):Dz a c (l++m) (k++n) :=
 ⟨h.p.trans g.p,by rw[g.put,h.put,zF],by rw[g.old,h.old,zF]⟩
def Full (p:PM):Prop:=∀m,p.has m=true->p.is m≠0
def xt {α:Type} (t:T) (x:R α) (b:Nat) (post:α->T->List Nat->List Nat->Prop):Prop :=
 ∃pn on,Dz t x.2 pn on/\pn.length<=b/\match x.1 with
  |.ok a=>post a x.2 pn on
  |.error e=>e=6/\Full x.2.p/\pn.length+1<=b
theorem xt.ok {α:Type} {t:T} {a:α} {post:α->T->List Nat->List Nat->Prop} {b:Nat} (h:post a t [] []):xt t (.ok a,t) b post:=⟨[],[],.refl t,by simp,h⟩
theorem xt.bind {α β:Type} {t:T} {x:R α} {f:α->T->R β} {b1 b2 b:Nat} {P:α->T->List Nat->List Nat->Prop} {Q:β->T->List Nat->List Nat->Prop}
  (h:xt t x b1 P) (k:∀a t' pn on,Dz t t' pn on->P a t' pn on->xt t' (f a t') b2 fun c A5 Vt on'=>Q c A5 (pn++Vt) (on++on')) (hb:b1+b2<=b):xt t (rb x f) b Q:=by
 obtain ⟨pn,on,h1,h2,h3⟩:=h
 obtain ⟨r,t'⟩:=x
 cases r with
 |ok a =>
  obtain ⟨Vt,on',g1,g2,g3⟩:=k a t' pn on h1 h3
  refine ⟨pn++Vt,on++on',h1.trans g1,by rw[zG];omega,?_⟩
  show match (f a t').1 with
   |.ok c=>Q c (f a t').2 (pn++Vt) (on++on')
   |.error e=>e=6/\Full (f a t').2.p/\(pn++Vt).length+1<=b
  generalize f a t'=y at g3
  obtain ⟨r,t2⟩:=y
  cases r with
  |ok c=>exact g3
  |error e =>
   obtain ⟨q1,q2,q3⟩:=g3
   exact ⟨q1,q2,by rw[zG];omega⟩
 |error e =>
  obtain ⟨q1,q2,q3⟩:=h3
  exact ⟨pn,on,h1,by omega,q1,q2,by omega⟩
theorem xt.imp {α:Type} {t:T} {x:R α} {b1 b:Nat} {P Q:α->T->List Nat->List Nat->Prop} (h:xt t x b1 P) (k:∀a t' pn on,Dz t t' pn on->P a t' pn on->Q a t' pn on) (hb:b1<=b):xt t x b Q:=by
 obtain ⟨pn,on,h1,h2,h3⟩:=h
 obtain ⟨r,t'⟩:=x
 refine ⟨pn,on,h1,by omega,?_⟩
 cases r with
 |ok a=>exact k a t' pn on h1 h3
 |error e =>
  obtain ⟨q1,q2,q3⟩:=h3
  exact ⟨q1,q2,by omega⟩
theorem IE (t:T) (kind:Nat) (s:Bytes):xt t (nI t kind s) 1 fun n t' pn on=>pn=[n]/\on=[]/\t'.p.read n=some (kind,s)/\2<=n/\n<t.p.st.length:=by
 unfold nI
 cases h:t.p.put kind s with
 |none=>exact ⟨[],[],.refl t,by simp,rfl,fun m hm=>PM.MJ h m hm,by simp⟩
 |some r =>
  obtain ⟨n,p'⟩:=r
  obtain ⟨h1,h2⟩:=uo.put h
  have hh:=(h1.new n (by simp)).1
  simp only[PM.has,zN,decide_eq_true_eq]at hh
  exact ⟨[n],[],⟨h1,rfl,by simp⟩,by simp,rfl,rfl,h2,hh⟩
theorem ik (t:T) {n:Nd} (h1:ax n=true) (h2:aw n<=492):xt t (aV t n) 1 fun a t' pn on=>pn=[a]/\on=[]/\t'.p.read a=some ((dT n).toNat,ba n)/\2<=a/\a<t.p.st.length:=by
 unfold aV
 rw[if_pos ⟨h1,h2⟩]
 exact IE t _ _
theorem nK {rd:fx} {n v ps} (h:eO rd n v ps):(n≠0->v≠[]/\2<=n)/\ps.length<=v.length:=by
 induction h with
 |nil=>simp
 |cons hn h hb hs hf hr ih =>
  have:=zt.2 hs
  exact ⟨fun _=>⟨by simp[hs],hn⟩,by simp;omega⟩
theorem Tj (x:Nat) (s:Bytes):(aO x 4++s).take 4=aO x 4:=by rw[wK (by rw[li];exact zD 4)];exact zI (by rw[li];exact zD 4)
theorem UD (x:Nat) (s:Bytes):(aO x 4++s).drop 4=s:=by rw[wt (by rw[li];exact zD 4),List.drop_of_length_le (by rw[li];exact zD 4)];rfl
theorem LW {rd:fx} {n:Nat} {v:Bytes} {ps:List Nat} (h:eO rd n v ps) {size:Nat}:∀{f:Nat} {acc:Bytes} {qs:List Nat},ps.length<=f->acc.length+v.length=size->g9 rd size f n acc qs=some (acc++v,qs++ps):=by
 induction h with
 |nil=>intro f acc qs hf hs;cases f<;>simp at hs<;>simp[g9,hs]
 |cons hn h hb hs hf hr ih =>
  rename_i n next s t ps
  intro f acc qs hl ew
  obtain ⟨f,rfl⟩:∃g,f=g+1:=⟨f-1,by simp at hl;omega⟩
  obtain ⟨n,rfl⟩:∃m,n=m+1:=⟨n-1,by omega⟩
  have hr4:aA (aO next 4)=next:=fp 4 next (by omega)
  have hlen:¬(aO next 4++s).length<5:=by rw[zG,li];have:=zt.2 hs;omega
  simp only[g9,h,Tj,UD,hr4]
  rw[if_neg (by simp only[ne_eq,not_true,false_or];exact hlen),if_neg (by rintro (e|e);exact e.2 (hf e.1);simp at e ew;omega),ih (by simp at hl;omega) (by simp at ew ⊢;omega)]
  simp
theorem BY {rd:fx} {x:bD} {v:Bytes} {ps:List Nat} (h:lZ rd x v ps) (hp:x.p≠0):uW rd x=some (v,ps):=by
 rcases h with ⟨h,_⟩|⟨h0,h1,h2⟩
 ·exact absurd h hp
 ·unfold uW
  have e:x.s.toNat=v.length:=by omega
  rw[LW h1 (by have:=(nK h1).2;omega) (by simp[e])];rfl
theorem A1 {rd:fx} {x:bD} {v:Bytes} {ps:List Nat} (h:lZ rd x v ps):jq rd x=some v:=by
 unfold jq
 by_cases hp:x.p=0
 ·rw[if_pos hp]
  rcases h with ⟨_,h,_⟩|⟨h0,_⟩
  ·rw[h]
  ·omega
 ·rw[if_neg hp,BY h hp];rfl
theorem Es (t:T) {x:bD} {v:Bytes} {ps:List Nat} (h:lZ t.p.read x v ps):xt t (ig t x) 0 fun _ t' pn on=>pn=[]/\on=ps:=by
 unfold ig
 by_cases hp:x.p=0
 ·rw[if_pos hp]
  rcases h with ⟨_,_,rfl⟩|⟨h0,_⟩
  ·exact .ok ⟨rfl,rfl⟩
  ·omega
 ·rw[if_neg hp,BY h hp]
  exact ⟨[],ps,⟨.refl _,by simp,rfl⟩,by simp,rfl,rfl⟩
theorem eO.grow {rd mo:fx} {n v ps} (h:eO rd n v ps) (g:Grow rd mo):eO mo n v ps:=h.move fun m hm=>g.eq (vy h m hm)
theorem EA (v:Bytes) (hv:v.length<=60000):∀(k next:Nat) (t:T) (w:Bytes) (ps:List Nat),t.p.st.length<=4096->eO t.p.read next w ps->next<4096->w=v.drop (488*k)->488*(k-1)<v.length ->
  xt t (sR v k next t) k fun n t' pn on=>on=[]/\n<4096/\∃qs,eO t'.p.read n v qs/\qs.Perm (ps++pn)
 |0,next,t,w,ps,hN,h,hn,hw,hk=>.ok ⟨rfl,hn,ps,by simpa [hw] using h,by simp⟩
 |k+1,next,t,w,ps,hN,h,hn,hw,hk=>by
  unfold sR
  refine (IE t _ _).bind (b2:=k) (fun n t' pn on ht hp => ?_) (by omega)
  obtain ⟨rfl,rfl,h3,h4,h5⟩:=hp
  have bt:(v.drop (488*k)).take 488≠[]:=by rw[<-zt];simp;omega
  have hc:eO t'.p.read n ((v.drop (488*k)).take 488++w) (n::ps):=by
   refine .cons h4 h3 (by omega) bt (fun hz => ?_) (h.grow ht.p.grow)
   have:=((nK h).1 hz).1
   rw[hw,<-zt]at this
   simp at this ⊢;omega
  have mq:(v.drop (488*k)).take 488++w=v.drop (488*k):=by
   rw[hw,show 488*(k+1)=488*k+488 by omega,<-qv,zy]
  refine (EA v hv k n t' _ _ (by rw[ht.p.len];exact hN) hc (by omega) mq (by omega)).imp (fun a A5 Vt on' Mb hq => ?_) (zD _)
  obtain ⟨rfl,q1,qs,q2,q3⟩:=hq
  exact ⟨rfl,q1,qs,q2,q3.trans (by simpa using (List.perm_middle (a:=n) (l₁:=ps) (l₂:=Vt)).symm)⟩
def lh (v:Bytes):Nat:=if v.length<=60 then 0 else (v.length-1) / 488+1
theorem CH (t:T) {v:Bytes} (hv:v.length<=60000) (hN:t.p.st.length<=4096):xt t (dp t v) (lh v) fun x t' pn on=>on=[]/\jl x=true/\(if 0<x.p then 9 else 1+x.v.length)<=61/\∃qs,lZ t'.p.read x v qs/\qs.Perm pn:=by
 unfold dp lh
 by_cases h:v.length<=60
 ·rw[if_pos h,if_pos h]
  exact .ok ⟨rfl,by simp[jl,h],by simp;omega,[],.inl ⟨rfl,rfl,rfl⟩,.refl _⟩
 ·rw[if_neg h,if_neg h]
  refine (EA v hv ((v.length-1) / 488+1) 0 t [] [] hN .nil (by omega) ?_ (by simp;omega)).bind (b2:=0) (fun n t' pn on ht hp => ?_) (by omega)
  ·symm;rw[List.drop_eq_nil_iff];omega
  ·obtain ⟨rfl,h1,qs,h2,h3⟩:=hp
   have hnz:2<=n:=by
    rcases qG n with e|e
    ·subst e;cases h2 with
     |nil=>simp at h
     |cons hn=>omega
    ·exact ((nK h2).1 (by omega)).2
   refine .ok ⟨rfl,?_,?_,qs,(.inr ⟨show (0:Int)<(n:Int) by omega,by simpa using h2,by simp⟩),by simpa using h3⟩
   ·have e1:¬(n:Int)=0:=by omega
    have e2:(2:Int)<=(n:Int):=by omega
    have e3:(n:Int)<4096:=by omega
    have e4:(60:Int)<(v.length:Int):=by omega
    have e5:(v.length:Int)<=60000:=by omega
    simp only[jl,e1,if_false,ke,e2,e3,e4,e5,decide_true,Bool.and_self]
   ·rw[if_pos (show (0:Int)<(n:Int) by omega)];omega
end Go.Bt
namespace Go.Bt
open Go.Ai
theorem BV (n:Nd):∀(f i:Nat),n.keys.length<=f+i->i+gi n<=n.keys.length->i<=xo n f i/\xo n f i+gi n<=n.keys.length /\
  (∀j,i<=j->j<xo n f i->2*((bo n).length+bO n j)<aw n)/\(xo n f i+gi n=n.keys.length\/aw n<=2*((bo n).length+bO n (xo n f i)))
 |0,i,hf,hi=>by
  have hup:1<=gi n:=by simp only[gi];split<;>omega
  omega
 |f+1,i,hf,hi=>by
  simp only[xo]
  split
  ·rename_i h
   obtain ⟨a,b,c,d⟩:=BV n f (i+1) (by omega) (by omega)
   refine ⟨by omega,b,fun j h1 h2 => ?_,d⟩
   rcases zj i j with g|g
   ·exact c j g h2
   ·have:j=i:=by omega
    subst this;exact h.1
  ·rename_i h
   refine ⟨zD _,hi,fun j h1 h2=>by omega,?_⟩
   rcases zj (i+gi n) n.keys.length with g|g
   ·exact .inr (Nat.le_of_not_lt fun e=>h ⟨e,g⟩)
   ·exact .inl (by omega)
theorem Bq {n:Nd} (hr:ax n=true) (Sp:492<aw n):4<=n.keys.length:=by
 have jc:aw n=(bo n).length+bO n n.keys.length:=by simp only[aw,hr,if_true,bK]
 have hw:=rh (aZ.of hr) n.keys.length (zD _)
 have hh:(bo n).length<=6:=by rw[bS];split<;>omega
 omega
def gG (n:Nd):Nat:=xo n n.keys.length 1
theorem I9 {n:Nd} (hr:ax n=true) (Sp:492<aw n):vX n (gG n):=by
 have hk:=Bq hr Sp
 have hup:gi n<=2:=by simp only[gi];split<;>omega
 obtain ⟨a,b,c,d⟩:=BV n n.keys.length 1 (by omega) (by omega)
 exact ⟨a,b,fun j h1 h2=>c j h1 h2,d⟩
theorem W9 {n:Nd} (hr:ax n=true) {i:Nat} (hc:vX n i) (Sp:492<aw n) (TS:aw n<=700):aw (cM n 0 i)<=492/\aw (cM n (i+gi n-1) n.keys.length)<=492:=by
 have hf:=aZ.of hr
 have jc:aw n=(bo n).length+bO n n.keys.length:=by simp only[aw,hr,if_true,bK]
 have lH:=hc.pos
 have hle:=hc.le
 have aaF:1<=gi n:=by simp only[gi];split<;>omega
 have s1:=ru hr (a:=0) (b:=i) (by omega) (by omega) (fun _=>by omega)
 have s2:=ru hr (a:=i+gi n-1) (b:=n.keys.length) (by omega) (by omega) (fun h=>by simp only[gi,h]at hle ⊢;simp at hle ⊢;omega)
 have z0:bO n 0=0:=rfl
 have BD:i=1\/(2*((bo n).length+bO n (i-1))<aw n/\bO n i=bO n (i-1)+bQ n (i-1)):=by
  by_cases h1:i=1
  ·exact .inl h1
  ·refine .inr ⟨hc.low (i-1) (by omega) (by omega),?_⟩
   obtain ⟨j,rfl⟩:∃j,i=j+1:=⟨i-1,by omega⟩
   rfl
 have hw:=fun j hj=>fX hf (i:=j) hj
 have s11:bO n 1=bQ n 0:=by simp[bO]
 have hh6:(bo n).length<=6:=by rw[bS];split<;>omega
 have w0:=hw 0 (by omega)
 have wp:=hw (i-1) (by omega)
 have af5:bO n i<=bO n (i+gi n-1):=by
  cases hl:n.leaf
  ·have:i+gi n-1=i+1:=by simp[gi,hl]
   rw[this];show _<=bO n i+bQ n i;omega
  ·have:i+gi n-1=i:=by simp[gi,hl]
   rw[this];exact zD _
 constructor
 ·rcases BD with h1|⟨h1,h3⟩
  ·subst h1;omega
  ·omega
 ·rcases hc.top with ht|ht
  ·have e:n.keys.length=(i+gi n-1)+1:=by omega
   have BB:bO n n.keys.length=bO n (i+gi n-1)+bQ n (i+gi n-1):=by rw[e];rfl
   have wl:=hw (i+gi n-1) (by omega)
   omega
  ·omega
theorem fv.cut {rd:fx} {xs vs ia} (h:fv rd xs vs ia) (i:Nat):fv rd (xs.take i) (vs.take i) (ia.take i)/\fv rd (xs.drop i) (vs.drop i) (ia.drop i):=by
 obtain ⟨h1,h2,h3⟩:=h
 refine ⟨⟨by simp[h1],by simp[h2],fun j a b c => ?_⟩,⟨by simp[h1],by simp[h2],fun j a b c => ?_⟩⟩
 ·simp only[wy];exact h3 j (by simp at a;omega) (by simp at b;omega) (by simp at c;omega)
 ·simp only[qA];exact h3 _ (by simp at a;omega) (by simp at b;omega) (by simp at c;omega)
theorem fv.xO {rd:fx} {xs vs ia xs' vs' Z5} (h:fv rd xs vs ia) (k:fv rd xs' vs' Z5):fv rd (xs++xs') (vs++vs') (ia++Z5):=by
 obtain ⟨h1,h2,h3⟩:=h
 obtain ⟨k1,k2,k3⟩:=k
 refine ⟨by simp[h1,k1],by simp[h2,k2],fun j a b c => ?_⟩
 by_cases hj:j<xs.length
 ·rw[wq hj,wq (by omega),wq (by omega)];exact h3 j hj _ _
 ·rw[wj (by omega),wj (by omega),wj (by omega)]
  simp only[h1,h2]
  exact k3 _ (by simp at a;omega) (by simp at b;omega) (by simp at c;omega)
theorem xy {α β:Type} (l:List α) (m:List β) (i:Nat):l.zip m=(l.take i).zip (m.take i)++(l.drop i).zip (m.drop i):=by
 induction l generalizing m i with
 |nil=>simp
 |cons a l ih =>
  cases m with
  |nil=>simp
  |cons b m =>
   cases i with
   |zero=>simp
   |succ i=>simp[<-ih]
theorem z6 {α:Type} (l:List (List α)) (i:Nat):l.flatten=(l.take i).flatten++(l.drop i).flatten:=by rw[<-qC,zy]
def iZ (rd:fx) (h:Nat) (lo:Bytes) (hi:Option Bytes):dG->bh->List Nat->Prop
 |.one n,l,ps=>aB rd h lo hi n l ps/\aw n<=492
 |.two a k b,l,ps=>∃la lb pa pb,aB rd h lo (some k) a la pa/\aB rd h k hi b lb pb/\l=la++lb/\ps=pa++pb/\123<=aw a/\aw a<=492/\123<=aw b/\aw b<=492/\a.keys≠[]/\b.keys≠[]/\k.length<=60
theorem Ru {P:ff} {lo hi ks cs l ps} (h:oo P lo hi ks cs l ps):∀i (kO:i<ks.length),∃la lb pa pb,oo P lo (some ks[i]) (ks.take i) (cs.take (i+1)) la pa/\oo P ks[i] hi (ks.drop (i+1)) (cs.drop (i+1)) lb pb/\l=la++lb/\ps=pa++pb:=by
 induction h with
 |one h=>intro i hi;simp at hi
 |cons h hs ih =>
  intro i hi
  cases i with
  |zero=>exact ⟨_,_,_,_,.one h,hs,rfl,rfl⟩
  |succ i =>
   obtain ⟨la,lb,pa,pb,g1,g2,rfl,rfl⟩:=ih i (by simpa using hi)
   exact ⟨_,lb,_,pb,.cons h g1,g2,by simp,by simp⟩
theorem xK {rd:fx} {h:Nat} {lo hi n l ps} (k:aB rd h lo hi n l ps) (hs:aw n<=700):iZ rd h lo hi (kP n) l ps:=by
 unfold kP
 split
 ·rename_i h0;exact ⟨k,h0⟩
 ·rename_i h0
  have hr:ax n=true:=by
   by_cases e:ax n=true
   ·exact e
   ·exfalso;apply h0;simp[aw,e]
  have hc:=I9 hr (by omega)
  obtain ⟨q1,q2⟩:=MI hr hc (by omega)
  obtain ⟨q3,q4⟩:=W9 hr hc (by omega) hs
  have lH:=hc.pos
  have hle:=hc.le
  have hup:1<=gi n:=by simp only[gi];split<;>omega
  have az:gG n<n.keys.length:=by omega
  have Hj:n.keys.getD (gG n) []=n.keys[gG n]:=by simp[az]
  have lP:=(aZ.of hr).yB _ az
  have bt:∀m:Nd,123<=aw m->m.keys≠[]:=by
   intro m hm e
   have sr:ax m=true:=by
    by_cases e:ax m=true
    ·exact e
    ·simp[aw,e]at hm
   have:aw m=(bo m).length+bO m m.keys.length:=by simp only[aw,sr,if_true,bK]
   rw[e]at this
   have hh6:(bo m).length<=6:=by rw[bS];split<;>omega
   simp[bO]at this;omega
  have eJ:kS n.keys:=(iF.1 (by simp only[ax,zN]at hr;exact hr.1)).1
  show iZ rd h lo hi (.two (cM n 0 (gG n)) (n.keys.getD (gG n) []) (cM n (gG n+gi n-1) n.keys.length)) l ps
  rw[Hj]
  cases h with
  |zero =>
   obtain ⟨h1,h2,h3,vs,ia,h4,h5,h6⟩:=k
   have hu:gG n+gi n-1=gG n:=by simp[gi,h1]
   rw[hu]at q2 q4 ⊢
   obtain ⟨v1,v2⟩:=h4.cut (gG n)
   refine ⟨_,_,_,_,⟨h1,sE hr (by omega) (by omega) (fun e=>by rw[h1]at e;cases e),?_,vs.take (gG n),ia.take (gG n),?_,rfl,rfl⟩,⟨h1,sE hr (by omega) (by omega) (fun e=>by rw[h1]at e;cases e),?_,vs.drop (gG n),ia.drop (gG n),?_,rfl,rfl⟩,?_,?_,q1,q3,q2,q4,bt _ q1,bt _ q2,lP⟩
   ·intro x hx
    simp only[cM,zb]at hx
    obtain ⟨b1,b2⟩:=cu.1 (h3 x (zw hx))
    refine cu.2 ⟨b1,fun b hb => ?_⟩
    obtain ⟨j,hj,rfl⟩:=zY hx
    simp only[zOi]at hb;subst hb
    simp only[wy]
    exact eJ _ _ az (by simp at hj;omega)
   ·simp only[cM,h1,if_true,zb];exact v1
   ·intro x hx
    simp only[cM,zW]at hx
    obtain ⟨b1,b2⟩:=cu.1 (h3 x (zx hx))
    refine cu.2 ⟨?_,b2⟩
    obtain ⟨j,hj,rfl⟩:=zY hx
    simp only[qA]
    rcases qG j with rfl|hj0
    ·exact bc _
    ·exact eZ (eJ _ _ (by simp at hj;omega) (by omega))
   ·have e:n.items.length=n.keys.length:=((aZ.of hr).leaf h1).1
    simp only[cM,h1,if_true];rw[<-e,zW];exact v2
   ·rw[h5];simp only[cM,zb,zW];exact xy _ _ _
   ·rw[h6];exact z6 _ _
  |succ h =>
   obtain ⟨h1,h2,h3,h4,h5⟩:=aB.succ.1 k
   have hu:gG n+gi n-1=gG n+1:=by simp[gi,h1]
   rw[hu]at q2 q4 ⊢
   obtain ⟨la,lb,pa,pb,g1,g2,rfl,rfl⟩:=Ru h5 _ az
   have aeY:=h5.len
   refine ⟨la,lb,pa,pb,aB.succ.2 ⟨h1,by simp[cM,h1],?_,?_,?_⟩,aB.succ.2 ⟨h1,by simp[cM,h1],?_,?_,?_⟩,rfl,rfl,q1,q3,q2,q4,bt _ q1,bt _ q2,lP⟩
   ·intro x hx;simp only[cM,zb]at hx;exact h3 x (zw hx)
   ·intro x hx;simp only[cM,h1,zK,if_false,zb]at hx;exact h4 x (zw hx)
   ·simpa [cM,h1] using g1
   ·intro x hx;simp only[cM,zW]at hx;exact h3 x (zx hx)
   ·intro x hx;simp only[cM,h1,zK,if_false]at hx;exact h4 x (zw (zx hx))
   ·have e:n.kids.take (n.keys.length+1)=n.kids:=by rw[<-aeY,zW]
    simpa [cM,h1,e] using g2
end Go.Bt
namespace Go.Bt
open Go.Ai
def xp (x:Nat) (l:List Nat):Nat:=l.count x
def aab (x a:Nat):Nat:=if a==x then 1 else 0
theorem ft (x:Nat) (a b:List Nat):xp x (a++b)=xp x a+xp x b:=List.count_append
theorem fc (x a:Nat) (b:List Nat):xp x (a::b)=aab x a+xp x b:=by simp[xp,aab,List.count_cons];omega
theorem fT (x:Nat):xp x []=0:=rfl
theorem dY {a b:List Nat} (h:∀x,xp x a=xp x b):a.Perm b:=qh.2 h
theorem dM {a b:List Nat} (h:a.Perm b) (x:Nat):xp x a=xp x b:=qh.1 h x
def xQ (key:Bytes) (m l:bh):bh:=l.filter (fun p=>al p.1 key)++m++l.filter (fun p=>al key p.1)
theorem Rr {key:Bytes} {m l1 l l2:bh} (h1:∀p∈l1,al p.1 key=true) (h2:∀p∈l2,al key p.1=true):xQ key m (l1++(l++l2))=l1++(xQ key m l++l2):=by
 have e1:l1.filter (fun p=>al p.1 key)=l1:=wX.2 h1
 have e2:l1.filter (fun p=>al key p.1)=[]:=wC.2 fun p hp=>by rw[eZ (h1 p hp)];simp
 have e3:l2.filter (fun p=>al key p.1)=l2:=wX.2 h2
 have e4:l2.filter (fun p=>al p.1 key)=[]:=wC.2 fun p hp=>by rw[eZ (h2 p hp)];simp
 simp only[xQ,wU,e1,e2,e3,e4,zh,zT,zF]
theorem MY {key:Bytes} {l1 l l2:bh} (h1:∀p∈l1,al p.1 key=true) (h2:∀p∈l2,al key p.1=true) (h:∃p∈l1++(l++l2),p.1=key):∃p∈l,p.1=key:=by
 obtain ⟨p,hp,e⟩:=h
 rcases zJ.1 hp with hp|hp
 ·exact absurd e (mu (h1 p hp))
 ·rcases zJ.1 hp with hp|hp
  ·exact ⟨p,hp,e⟩
  ·exact absurd e.symm (mu (h2 p hp))
def pY (act:T->Nd->R Nd) (key:Bytes) (m:bh) (AI:Prop) (b:Nat):Prop :=
 ∀t n lo hi l ps,t.p.st.length<=4096->aB t.p.read 0 lo hi n l ps->xD lo hi key=true->aw n<=492->(AI->∃p∈l,p.1=key) ->
  xt t (act t n) b fun n' t' pn on=>∃dl,aB t'.p.read 0 lo hi n' (xQ key m l) dl/\(dl++on).Perm (ps++pn)/\aw n'<=aw n+122
theorem dS {n:Nd} (h:0<aw n):ax n=true:=by
 by_cases e:ax n=true
 ·exact e
 ·simp[aw,e]at h
theorem CI {n:Nd} (h:123<=aw n):n.keys≠[]:=by
 intro e
 have hr:=dS (show 0<aw n by omega)
 have:aw n=(bo n).length+bO n n.keys.length:=by simp only[aw,hr,if_true,bK]
 rw[e]at this
 have hh6:(bo n).length<=6:=by rw[bS];split<;>omega
 simp[bO]at this;omega
theorem K8 (n:Nd):(((dT n).toNat:Nat):Int)=dT n:=by unfold dT;split<;>rfl
theorem o8 {rd:fx} {a:Nat} {n:Nd} (h:rd a=some ((dT n).toNat,ba n)) (hr:ax n=true) (hs:aw n<=492):fS rd a=some n:=by
 have jt:(ba n).length<=492:=by simpa [aw,hr] using hs
 have hk:n.keys.length<65536:=by have:=(Bc hr 492 jt).1;omega
 have:=Dd hr hk
 simp only[fS,h]
 rw[K8];exact this
theorem Mv (t:T) {a:Nat} {n:Nd} (h:t.p.read a=some ((dT n).toNat,ba n)) (hr:ax n=true) (hs:aw n<=492):eD t a=(.ok n,⟨t.p,t.put,t.old++[a]⟩):=by
 unfold eD
 rw[o8 h hr hs]
theorem Rv {P:ff} {lo k hi ks cs l ps K7 cs' l' dl} (h:oo P lo (some k) ks cs l ps) (g:oo P k hi K7 cs' l' dl):oo P lo hi (ks++[k]++K7) (cs++cs') (l++l') (ps++dl):=by
 generalize hb:some k=b at h
 induction h with
 |one h=>subst hb;exact .cons h g
 |cons h _ ih=>simpa [zF] using oo.cons h (ih hb)
theorem pe {rd:fx} {h:Nat} {lo k hi x lx px y ly py} (hx:aB rd h lo (some k) x lx px) (hy:aB rd h k hi y ly py) (hk:k.length<=60) (h1:al lo k=true) (h2:∀b,hi=some b->al k b=true) :
  mH x k y=eu x k y/\aB rd h lo hi (eu x k y) (lx++ly) (px++py):=by
 have hl:x.leaf=y.leaf:=by
  cases h with
  |zero=>rw[hx.1,hy.1]
  |succ h=>rw[hx.1,hy.1]
 refine ⟨by simp[mH,hl],?_⟩
 cases h with
 |zero =>
  obtain ⟨a1,a2,a3,vs,ia,a4,rfl,rfl⟩:=hx
  obtain ⟨b1,b2,b3,ws,qss,b4,rfl,rfl⟩:=hy
  obtain ⟨c1,c2,c3⟩:=(aZ.of a2).leaf a1
  obtain ⟨d1,d2,d3⟩:=(aZ.of b2).leaf b1
  have ra:kS x.keys:=(iF.1 (by simp only[ax,zN]at a2;exact a2.1)).1
  have rb':kS y.keys:=(iF.1 (by simp only[ax,zN]at b2;exact b2.1)).1
  have hxk:∀z∈x.keys,al z k=true:=fun z hz=>(cu.1 (a3 z hz)).2 k rfl
  have hyk:∀z∈y.keys,al z k=false:=fun z hz=>(cu.1 (b3 z hz)).1
  have IR:(eu x k y).keys=x.keys++y.keys:=by simp[eu,a1]
  refine ⟨a1,?_,?_,vs++ws,ia++qss,a4.xO b4,?_,by simp⟩
  ·simp only[ax,zN]
   constructor
   ·rw[IR]
    refine iF.2 ⟨kJ.2 (List.pairwise_append.2 ⟨kJ.1 ra,kJ.1 rb',fun z hz w hw=>dC (hxk z hz) (hyk w hw)⟩),fun i hi => ?_⟩
    rcases zJ.1 (zP hi) with hm|hm
    ·obtain ⟨j,hj,e⟩:=zY hm;rw[<-e];exact (aZ.of a2).yB j hj
    ·obtain ⟨j,hj,e⟩:=zY hm;rw[<-e];exact (aZ.of b2).yB j hj
   ·have:(eu x k y).leaf=true:=a1
    simp only[iU,this,if_true,IR,zN,decide_eq_true_eq,zQ]
    refine ⟨⟨by simp[eu,c1,d1],by simp[eu,c2,d2]⟩,fun z hz => ?_⟩
    simp only[eu,zJ]at hz
    exact hz.elim (c3 z) (d3 z)
  ·rw[IR]
   intro z hz
   rcases zJ.1 hz with hz|hz
   ·exact cu.2 ⟨(cu.1 (a3 z hz)).1,fun b hb=>cK (hxk z hz) (h2 b hb)⟩
   ·exact cu.2 ⟨eZ (dC h1 (hyk z hz)),(cu.1 (b3 z hz)).2⟩
  ·rw[IR,qS (by rw[a4.1,c1])]
 |succ h =>
  obtain ⟨a1,a2,a3,a4,a5⟩:=aB.succ.1 hx
  obtain ⟨b1,b2,b3,b4,b5⟩:=aB.succ.1 hy
  refine aB.succ.2 ⟨a1,by simp[eu,a2,b2],fun z hz => ?_,fun z hz => ?_,?_⟩
  ·simp only[eu,a1,zK,if_false,zJ,wo]at hz
   rcases hz with (hz|hz)|hz
   ·exact a3 z hz
   ·rw[hz];exact hk
   ·exact b3 z hz
  ·simp only[eu,zJ]at hz
   exact hz.elim (a4 z) (b4 z)
  ·simpa only[eu,a1,zK,if_false] using Rv a5 b5
theorem Bv {rd:fx} {h:Nat} {lo k hi x lx px y ly py} (hx:aB rd h lo (some k) x lx px) (hy:aB rd h k hi y ly py) (hk:k.length<=60) (h1:al lo k=true) (h2:∀b,hi=some b->al k b=true)
  (hs:aw x<=122/\123<=aw y/\aw y<=492\/aw y<=122/\123<=aw x/\aw x<=492):123<=aw (eu x k y)/\aw (eu x k y)<=700:=by
 have hj:=(pe hx hy hk h1 h2).2
 cases h with
 |zero =>
  obtain ⟨a1,a2,a3,vs,ia,a4,rfl,rfl⟩:=hx
  obtain ⟨b1,b2,b3,ws,qss,b4,rfl,rfl⟩:=hy
  have e1:=size_leaf a2 a1 ((aZ.of a2).leaf a1).1
  have e2:=size_leaf b2 b1 ((aZ.of b2).leaf b1).1
  have e3:=size_leaf hj.2.1 hj.1 ((aZ.of hj.2.1).leaf hj.1).1
  have e4:(eu x k y).keys.zip (eu x k y).items=x.keys.zip x.items++y.keys.zip y.items:=by
   simp only[eu,a1,if_true,zT]
   rw[qS ((aZ.of a2).leaf a1).1.symm]
  rw[e4,zg,wV]at e3
  omega
 |succ h =>
  obtain ⟨a1,a2,a3,a4,a5⟩:=aB.succ.1 hx
  obtain ⟨b1,b2,b3,b4,b5⟩:=aB.succ.1 hy
  obtain ⟨c1,c2,c3,c4,c5⟩:=aB.succ.1 hj
  have ek:(eu x k y).keys=x.keys++[k]++y.keys:=by simp[eu,a1]
  have e3:=oM (rI (fG rd h) c1 c2 c3 c4 c5 (by rw[ek];simp)) c1
  rw[ek,zg,zg,wV,wV]at e3
  have hkw:([k].map IG).sum=5+k.length:=by simp[IG]
  have ew:∀z:Nd,z.leaf=false->z.items=[]->(∀k∈z.keys,k.length<=60)->(∀c∈z.kids,ke c=true)->(∃lo hi l ps,oo (fK rd (aB rd h)) lo hi z.keys z.kids l ps)->(z.keys.map IG).sum<=aw z/\aw z<=6+(z.keys.map IG).sum:=by
   intro z z1 z2 z3 z4 ⟨_,_,_,_,z5⟩
   by_cases e:z.keys=[]
   ·rw[e]
    have:aw z=0:=by
     have:ax z=false:=by simp[ax,iU,z1,e]
     simp[aw,this]
    simp[this]
   ·have:=oM (rI (fG rd h) z1 z2 z3 z4 z5 e) z1
    omega
  have q1:=ew x a1 a2 a3 a4 ⟨_,_,_,_,a5⟩
  have q2:=ew y b1 b2 b3 b4 ⟨_,_,_,_,b5⟩
  omega
def Laid:dG->Prop
 |.one x=>123<=aw x
 |.two _ _ _=>True
theorem Fw {n:Nd} (h:123<=aw n):Laid (kP n):=by unfold kP;split;exact h;trivial
theorem ad0 {P:ff} {lo a:Bytes} {b hi:Option Bytes} {k:Bytes} {c d:Int} {ks1 cs1 l1 p1 l p l' p' tN sA l2 p2} (h1:m9 P lo a ks1 cs1 l1 p1) (h:P a (some k) c.toNat l p) (h':P k b d.toNat l' p') (h2:lv P b hi tN sA l2 p2) :
  oo P lo hi (ks1++[k]++tN) (cs1++[c,d]++sA) (l1++((l++l')++l2)) (p1++((p++p')++p2)):=by
 have:=h1.seg (oo.cons h (lv.one h' h2))
 simpa [zF] using this
theorem yl {rd:fx} {h:Nat} {lo hi n l ps} (k:aB rd (h+1) lo hi n l ps) (hs:6+(n.keys.map IG).sum<=700):iZ rd (h+1) lo hi (kC n) l ps:=by
 obtain ⟨a1,a2,a3,a4,a5⟩:=aB.succ.1 k
 have hz:aw n<=700/\(n.kids.length=1->aw n=0):=by
  by_cases e:n.keys=[]
  ·have:ax n=false:=by simp[ax,iU,a1,e]
   simp[aw,this]
  ·have:=oM (rI (fG rd h) a1 a2 a3 a4 a5 e) a1
   refine ⟨by omega,fun h => ?_⟩
   have hl:=a5.len
   have:=zt.2 e
   omega
 unfold kC
 split
 ·rename_i h1;exact ⟨k,by rw[hz.2 h1];omega⟩
 ·exact xK k hz.1
theorem oR {t:T} {h:Nat} {lo a:Bytes} {b hi:Option Bytes} {n:Nd} {ks1 km tN:List Bytes} {cs1 cm sA:List Int} {l1 l2 l:bh} {p1 p2 ps:List Nat} {q:dG}
  (hN:t.p.st.length<=4096) (ek:n.keys=ks1++(km++tN)) (ec:n.kids=cs1++(cm++sA)) (hm:cm.length=km.length+1)
  (h3:∀k∈n.keys,k.length<=60) (h4:∀c∈n.kids,ke c=true) (hs:6+(n.keys.map IG).sum<=492)
  (g1:m9 (fK t.p.read (aB t.p.read h)) lo a ks1 cs1 l1 p1) (g2:lv (fK t.p.read (aB t.p.read h)) b hi tN sA l2 p2) (hq:iZ t.p.read h a b q l ps) (hl:Laid q) :
  xt t (bL t n cs1.length (cs1.length+cm.length) q) 2 fun q t' pn on=>on=[]/\∃dl,iZ t'.p.read (h+1) lo hi q (l1++(l++l2)) dl/\dl.Perm (p1++(ps++p2)++pn):=by
 have e1:=g1.len
 have k1:n.keys.take cs1.length=ks1:=by rw[ek,e1];simp
 have k2:n.keys.drop (cs1.length+cm.length-1)=tN:=by
  rw[ek,e1,hm,show ks1.length+(km.length+1)-1=(ks1++km).length by simp,<-zF,qN]
 have c1:n.kids.take cs1.length=cs1:=by rw[ec];simp
 have c2:n.kids.drop (cs1.length+cm.length)=sA:=by rw[ec,<-zG,<-zF,qN]
 have tT:∀k∈ks1,k.length<=60:=fun k hk=>h3 k (by rw[ek];simp[hk])
 have nf:∀k∈tN,k.length<=60:=fun k hk=>h3 k (by rw[ek];simp[hk])
 have Lw:∀k∈cs1,ke k=true:=fun k hk=>h4 k (by rw[ec];simp[hk])
 have E3:∀k∈sA,ke k=true:=fun k hk=>h4 k (by rw[ec];simp[hk])
 have yG:6+(ks1.map IG).sum+(tN.map IG).sum<=492:=by rw[ek]at hs;simp only[zg,wV]at hs;omega
 have WO:∀c:Nat,2<=c->c<t.p.st.length->ke (c:Int)=true:=fun c u v=>by simp[ke];omega
 cases q with
 |one x =>
  obtain ⟨x1,x2⟩:=hq
  unfold bL
  refine (ik t (dS (show 0<aw x by have:123<=aw x:=hl;omega)) x2).bind (b2:=0) (fun c t' pn on ht hp => ?_) (by omega)
  obtain ⟨rfl,rfl,r1,r2,r3⟩:=hp
  have Hj:fK t'.p.read (aB t'.p.read h) a b (c:Int).toNat l (c::ps):=⟨x,ps,r1,hl,x2,CI hl,x1.grow ht.p.grow,rfl⟩
  have Wl:=MC (g1.grow ht.p.grow) Hj (g2.grow ht.p.grow)
  refine .ok ⟨rfl,p1++((c::ps)++p2),yl (aB.succ.2 ⟨rfl,rfl,?_,?_,?_⟩) ?_,?_⟩
  ·intro k hk
   simp only[mz,k1,k2,zT,zJ]at hk
   exact hk.elim (tT k) (nf k)
  ·intro k hk
   simp only[mz,c1,c2,zJ,wo]at hk
   rcases hk with (hk|hk)|hk
   ·exact Lw k hk
   ·rw[hk];exact WO c r2 r3
   ·exact E3 k hk
  ·simp only[mz,k1,k2,c1,c2,zT,zF,List.singleton_append];exact Wl
  ·simp only[mz,k1,k2,zT,zg,wV];omega
  ·exact dY fun x=>by simp only[ft,fc,fT];omega
 |two x k y =>
  obtain ⟨la,lb,pa,pb,x1,y1,rfl,rfl,xs1,ZE,ys1,ZD,xk,yk,kk⟩:=hq
  unfold bL
  refine (ik t (dS (by omega)) ZE).bind (b2:=1) (fun c t' pn on ht hp => ?_) (by omega)
  obtain ⟨rfl,rfl,r1,r2,r3⟩:=hp
  refine (ik t' (dS (by omega)) ZD).bind (b2:=0) (fun d A5 pn on Mb hp => ?_) (by omega)
  obtain ⟨rfl,rfl,s1,s2,s3⟩:=hp
  rw[ht.p.len]at s3
  have g:=ht.p.grow.trans Mb.p.grow
  have Hj:fK A5.p.read (aB A5.p.read h) a (some k) (c:Int).toNat la (c::pa):=⟨x,pa,Mb.p.grow _ _ r1,xs1,ZE,xk,x1.grow g,rfl⟩
  have WQ:fK A5.p.read (aB A5.p.read h) k b (d:Int).toNat lb (d::pb):=⟨y,pb,s1,ys1,ZD,yk,y1.grow g,rfl⟩
  have Wl:=ad0 (g1.grow g) Hj WQ (g2.grow g)
  refine .ok ⟨rfl,p1++(((c::pa)++(d::pb))++p2),yl (aB.succ.2 ⟨rfl,rfl,?_,?_,?_⟩) ?_,?_⟩
  ·intro z hz
   simp only[mz,k1,k2,zJ,wo]at hz
   rcases hz with (hz|hz)|hz
   ·exact tT z hz
   ·rw[hz];exact kk
   ·exact nf z hz
  ·intro z hz
   simp only[mz,c1,c2,zJ,zH,wO,or_false]at hz
   rcases hz with (hz|hz|hz)|hz
   ·exact Lw z hz
   ·rw[hz];exact WO c r2 r3
   ·rw[hz];exact WO d s2 s3
   ·exact E3 z hz
  ·simp only[mz,k1,k2,c1,c2];exact Wl
  ·simp only[mz,k1,k2,zg,wV,wI,qi,jB,List.sum_nil,IG]at yG ⊢;omega
  ·exact dY fun x=>by simp only[ft,fc,fT];omega
end Go.Bt
namespace Go.Bt
open Go.Ai
theorem rf (t:T) {a:Nat} {n:Nd} (h:t.p.read a=some ((dT n).toNat,ba n)) (hr:ax n=true) (hs:aw n<=492):xt t (eD t a) 0 fun n' t' pn on=>n'=n/\pn=[]/\on=[a]/\t'.p=t.p:=by
 rw[Mv t h hr hs]
 exact ⟨[],[a],⟨.refl _,by simp,rfl⟩,by simp,rfl,rfl,rfl,rfl⟩
theorem Gu {rd:fx} {h:Nat} {lo hi x l ps} (k:aB rd h lo hi x l ps) (hs:l8 x=true):aw x<=122:=by
 simp only[l8,qB,decide_eq_true_eq]at hs
 rcases hs with hs|hs
 ·by_cases hr:ax x=true
  ·cases h with
   |zero =>
    have:=((aZ.of hr).leaf k.1).2.1
    rw[this]at hs;simp at hs
   |succ h =>
    have:=(aZ.of hr).inner k.1
    omega
  ·simp[aw,hr]
 ·omega
theorem KQ {x:Nd} (hs:¬l8 x=true):Laid (.one x):=by
 simp only[l8,qB,decide_eq_true_eq,not_or]at hs
 show 123<=aw x
 omega
theorem Qt {t:T} {h:Nat} {lo a:Bytes} {b hi:Option Bytes} {n:Nd} {ks1 tN:List Bytes} {cs1 sA:List Int} {c:Int} {l1 l2 l:bh} {p1 p2 ps:List Nat} {q:dG}
  (hN:t.p.st.length<=4096) (ek:n.keys=ks1++tN) (ec:n.kids=cs1++c::sA) (hk:n.keys≠[])
  (h3:∀k∈n.keys,k.length<=60) (h4:∀c∈n.kids,ke c=true) (hs:6+(n.keys.map IG).sum<=492)
  (g1:m9 (fK t.p.read (aB t.p.read h)) lo a ks1 cs1 l1 p1) (g2:lv (fK t.p.read (aB t.p.read h)) b hi tN sA l2 p2) (IY:∀b',b=some b'->al a b'=true) (hq:iZ t.p.read h a b q l ps) :
  xt t (lX t n cs1.length q) 2 fun q t' pn on=>∃dl,iZ t'.p.read (h+1) lo hi q (l1++(l++l2)) dl/\(dl++on).Perm (p1++(ps++p2)++pn):=by
 have R8:Laid q->xt t (bL t n cs1.length (cs1.length+1) q) 2 fun q t' pn on=>∃dl,iZ t'.p.read (h+1) lo hi q (l1++(l++l2)) dl/\(dl++on).Perm (p1++(ps++p2)++pn):=fun hl =>
  (oR (km:=[]) (cm:=[c]) hN (by simpa using ek) (by simpa using ec) rfl h3 h4 hs g1 g2 hq hl).imp (fun q t' pn on _ ⟨e,dl,x1,x2⟩=>⟨dl,x1,by rw[e,zT];exact x2⟩) (zD _)
 cases q with
 |two x k y=>exact R8 trivial
 |one x =>
  simp only[lX]
  split
  ·rename_i TS
   obtain ⟨x1,x2⟩:=hq
   have hx:=Gu x1 TS
   have e1:=g1.len
   have e2:=g2.len
   by_cases hc:cs1=[]
   ·subst hc
    cases g1
    cases sA with
    |nil =>
     exfalso
     apply hk
     have:tN.length=0:=by simpa using e2.symm
     rw[ek,zf.1 this];rfl
    |cons c' sA =>
     obtain ⟨k,agu,KZ,l21,l22,p21,p22,rfl,rfl,jn,g2',rfl,rfl⟩:=Kv g2
     obtain ⟨o,p',r1,r2,r3,r4,r5,rfl⟩:=jn
     have lP:k.length<=60:=h3 k (by rw[ek];simp)
     have sY:=IY k rfl
     have hkm:∀b',KZ=some b'->al k b'=true:=fun b' e=>by
      subst e;exact rL (fG t.p.read h) ⟨o,p',r1,r2,r3,r4,r5,rfl⟩
     have e0:fi t n ([]:List Int).length x=rb (eD t c'.toNat) fun o t=>(.ok (kP (mH x k o),0),t):=by
      have q1:n.kids[1]?=some c':=by rw[ec];rfl
      have q2:n.keys.getD 0 []=k:=by rw[ek];rfl
      simp only[fi,zS,if_true,q1,q2]
     rw[e0]
     have hN':=hN
     refine xt.bind (b1:=0) (b2:=2) (P:=fun r t' pn on=>pn=[]/\on=[c'.toNat]/\t'.p=t.p/\r=(kP (eu x k o),0)) ?_ (fun r t' pn on ht hp => ?_) (by omega)
     ·refine (rf t r1 (dS (by omega)) r3).bind (b2:=0) (fun n' t' pn on ht hp => ?_) (by omega)
      obtain ⟨rfl,rfl,rfl,hp⟩:=hp
      exact .ok ⟨rfl,rfl,hp,by rw[(pe x1 r5 lP sY hkm).1]⟩
     ·obtain ⟨rfl,rfl,hp,rfl⟩:=hp
      obtain ⟨j1,j2⟩:=Bv x1 r5 lP sY hkm (.inl ⟨hx,r2,r3⟩)
      have CW:=xK (pe x1 r5 lP sY hkm).2 j2
      rw[<-hp]at CW g2' hN'
      refine (oR (t:=t') (cs1:=[]) (ks1:=[]) (km:=[k]) (cm:=[c,c']) hN' (by simpa using ek) (by simpa using ec) rfl h3 h4 hs .nil g2' CW (Fw j1)).imp ?_ (zD _)
      rintro q A5 pn on _ ⟨rfl,dl,y1,y2⟩
      refine ⟨dl,by simpa [zF] using y1,dY fun z => ?_⟩
      have:=dM y2 z
      simp only[ft,fc,fT]at this ⊢;omega
   ·obtain ⟨j,hj⟩:∃j,cs1.length=j+1:=⟨cs1.length-1,by have:=zt.2 hc;omega⟩
    obtain ⟨a',c',Dg,aem,l11,l12,p11,p12,rfl,rfl,DP,jn,rfl,rfl⟩:=Kw g1 j hj
    obtain ⟨o,p',r1,r2,r3,r4,r5,rfl⟩:=jn
    have lP:a.length<=60:=h3 a (by rw[ek];simp)
    have sY:al a' a=true:=rL (fG t.p.read h) ⟨o,p',r1,r2,r3,r4,r5,rfl⟩
    have f1:=DP.len
    have hj':Dg.length=j:=by simpa using hj
    have e0:fi t n (Dg++[c']).length x=rb (eD t c'.toNat) fun o t=>(.ok (kP (mH o a x),Dg.length),t):=by
     have q1:n.kids[Dg.length]?=some c':=by rw[ec];simp
     have q2:n.keys.getD Dg.length []=a:=by rw[ek,f1];simp
     have q3:(Dg++[c']).length=Dg.length+1:=by simp
     simp only[fi,q3,Nat.add_sub_cancel,q1,q2,Nat.succ_ne_zero,if_false]
    rw[e0]
    have hN':=hN
    refine xt.bind (b1:=0) (b2:=2) (P:=fun r t' pn on=>pn=[]/\on=[c'.toNat]/\t'.p=t.p/\r=(kP (eu o a x),Dg.length)) ?_ (fun r t' pn on ht hp => ?_) (by omega)
    ·refine (rf t r1 (dS (by omega)) r3).bind (b2:=0) (fun n' t' pn on ht hp => ?_) (by omega)
     obtain ⟨rfl,rfl,rfl,hp⟩:=hp
     exact .ok ⟨rfl,rfl,hp,by rw[(pe r5 x1 lP sY IY).1]⟩
    ·obtain ⟨rfl,rfl,hp,rfl⟩:=hp
     obtain ⟨j1,j2⟩:=Bv r5 x1 lP sY IY (.inr ⟨hx,r2,r3⟩)
     have CW:=xK (pe r5 x1 lP sY IY).2 j2
     rw[<-hp]at CW g2 DP hN'
     refine (oR (t:=t') (cs1:=Dg) (ks1:=aem) (km:=[a]) (cm:=[c',c]) hN' (by simpa [zF] using ek) (by simpa [zF] using ec) rfl h3 h4 hs DP g2 CW (Fw j1)).imp ?_ (zD _)
     rintro q A5 pn on _ ⟨rfl,dl,y1,y2⟩
     refine ⟨dl,by simpa [zF] using y1,dY fun z => ?_⟩
     have:=dM y2 z
     simp only[ft,fc,fT]at this ⊢;omega
  ·rename_i TS
   exact R8 (KQ TS)
theorem Ac {act:T->Nd->R Nd} {key:Bytes} {m:bh} {AI:Prop} {b:Nat} (ha:pY act key m AI b):∀{h f a:Nat} {t:T} {lo:Bytes} {hi:Option Bytes} {n:Nd} {l:bh} {ps:List Nat},h<f->t.p.st.length<=4096 ->
  t.p.read a=some ((dT n).toNat,ba n)->aw n<=492->n.keys≠[]->aB t.p.read h lo hi n l ps->xD lo hi key=true->(AI->∃p∈l,p.1=key) ->
  xt t (cY act key f a t) (b+2*h) fun q t' pn on=>∃dl,iZ t'.p.read h lo hi q (xQ key m l) dl/\(dl++on).Perm (a::ps++pn)
 |0,f,a,t,lo,hi,n,l,ps,hf,hN,hr,hs,hk,hn,NS,hm=>by
  obtain ⟨f,rfl⟩:∃g,f=g+1:=⟨f-1,by omega⟩
  unfold cY
  refine (rf t hr (hn.right hk) hs).bind (b2:=b) (fun n' t' pn on ht hp => ?_) (by omega)
  obtain ⟨rfl,rfl,rfl,hp⟩:=hp
  have h1:n'.leaf=true:=hn.1
  simp only[h1,if_true]
  rw[<-hp]at hn hN
  refine (ha t' n' lo hi l ps hN hn NS hs hm).bind (b2:=0) (fun n2 t2 pn on yF aT => ?_) (by omega)
  obtain ⟨dl,x1,x2,x3⟩:=aT
  refine .ok ⟨dl,xK x1 (by omega),dY fun z => ?_⟩
  have:=dM x2 z
  simp only[ft,fc,fT]at this ⊢;omega
 |h+1,f,a,t,lo,hi,n,l,ps,hf,hN,hr,hs,hk,hn,NS,hm=>by
  obtain ⟨f,rfl⟩:∃g,f=g+1:=⟨f-1,by omega⟩
  unfold cY
  have QT:=hn.right hk
  refine (rf t hr QT hs).bind (b2:=b+2*(h+1)) (fun n' t' pn on ht hp => ?_) (by omega)
  obtain ⟨rfl,rfl,rfl,hp⟩:=hp
  have h1:n'.leaf=false:=hn.1
  rw[<-hp]at hn hN
  obtain ⟨a1,a2,a3,a4,a5⟩:=aB.succ.1 hn
  have ew:=oM QT a1
  obtain ⟨az,a',b',c,cs1,sA,ks1,tN,l1,l',l2,p1,p',p2,e1,e2,e3,g1,g2,g3,rfl,rfl,ng,oE,DN⟩:=Ii (fG t'.p.read h) a5 NS
  have e4:n'.kids[eH n'.keys key]?=some c:=by rw[e2,<-e3];simp
  simp only[h1,zK,if_false,e4]
  obtain ⟨k,q,r1,r2,r3,r4,r5,rfl⟩:=g2
  refine (Ac ha (h:=h) (f:=f) (by omega) hN r1 r3 r4 r5 ng (fun e=>MY oE DN (hm e))).bind (b2:=2) (fun q2 t2 pn on yF aT => ?_) (by omega)
  obtain ⟨dl,x1,x2⟩:=aT
  rw[<-e3]
  refine (Qt (t:=t2) (c:=c) (by rw[yF.p.len];exact hN) e1 e2 hk a3 a4 (by omega) (g1.grow yF.p.grow) (g3.grow yF.p.grow) ?_ x1).imp ?_ (by omega)
  ·rintro b' rfl
   exact rL (fG t'.p.read h) ⟨k,q,r1,r2,r3,r4,r5,rfl⟩
  ·rintro q3 t3 pn3 on3 _ ⟨ps3,y1,y2⟩
   refine ⟨ps3,by rw[Rr oE DN];exact y1,dY fun z => ?_⟩
   have u1:=dM x2 z
   have u2:=dM y2 z
   simp only[ft,fc,fT]at u1 u2 ⊢;omega
end Go.Bt
namespace Go.Bt
open Go.Ai
def dt (rd:fx):Nat->Nat->bh->List Nat->Prop
 |0,root,l,ps=>root=0/\l=[]/\ps=[]
 |h+1,root,l,ps=>∃n dl,2<=root/\root<4096/\rd root=some ((dT n).toNat,ba n)/\aw n<=492/\n.keys≠[]/\aB rd h [] none n l dl/\ps=root::dl
theorem dt.move {rd mo:fx} {d root l ps} (k:dt rd d root l ps) (e:∀m∈ps,mo m=rd m):dt mo d root l ps:=by
 cases d with
 |zero=>exact k
 |succ h =>
  obtain ⟨n,dl,h1,h2,h3,h4,h5,h6,rfl⟩:=k
  exact ⟨n,dl,h1,h2,by rw[e root (by simp)];exact h3,h4,h5,h6.move (fun m hm=>e m (by simp[hm])),rfl⟩
theorem GO {rd:fx} {lo hi}:aB rd 0 lo hi ⟨true,[],[],[]⟩ [] []:=⟨rfl,rfl,by simp,[],[],⟨rfl,rfl,fun i h=>by simp at h⟩,rfl,rfl⟩
theorem size_empty:aw ⟨true,[],[],[]⟩=2:=rfl
theorem IF {t:T} {h:Nat} {n:Nd} {l:bh} {ps:List Nat} {b:Nat} (hb:1<=b) (hN:t.p.st.length<=4096) (hn:aB t.p.read h [] none n l ps) (hk:n.keys≠[]) (hs:aw n<=492) :
  xt t (aV t n) b fun r t' pn on=>on=[]/\∃d dl,dt t'.p.read d r l dl/\dl.Perm (ps++pn) :=
 (ik t (hn.right hk) hs).imp (fun a t' pn on ht hp=>by
  obtain ⟨rfl,rfl,r1,r2,r3⟩:=hp
  exact ⟨rfl,h+1,a::ps,⟨n,ps,r2,by omega,r1,hs,hk,hn.grow ht.p.grow,rfl⟩,dY fun z=>by simp only[ft,fc,fT];omega⟩) hb
theorem E7 {t:T} {h:Nat} {l:bh} {ps:List Nat} {q:dG} (hN:t.p.st.length<=4096) (hq:iZ t.p.read h [] none q l ps) :
  xt t (dK t q) 3 fun r t' pn on=>on=[]/\∃d dl,dt t'.p.read d r l dl/\dl.Perm (ps++pn):=by
 cases q with
 |one n =>
  obtain ⟨hn,hs⟩:=hq
  simp only[dK]
  split
  ·rename_i he
   obtain ⟨h1,h2⟩:=he
   cases h with
   |zero =>
    obtain ⟨a1,a2,a3,vs,ia,a4,rfl,rfl⟩:=hn
    have e1:n.items=[]:=zf.1 (by rw[((aZ.of a2).leaf a1).1,h2];rfl)
    have e2:ia=[]:=zf.1 (by rw[a4.2.1,e1];rfl)
    exact .ok ⟨rfl,0,[],⟨rfl,by simp[h2],rfl⟩,by simp[e2]⟩
   |succ h=>rw[(aB.succ.1 hn).1]at h1;cases h1
  ·rename_i he
   split
   ·rename_i h1
    cases h with
    |zero =>
     have:=((aZ.of hn.2.1).leaf hn.1).2.1
     rw[this]at h1;simp at h1
    |succ h =>
     obtain ⟨a1,a2,a3,a4,a5⟩:=aB.succ.1 hn
     have hl:=a5.len
     generalize NR:n.keys=ks at a5 hl
     generalize AT:n.kids=cs at a5 hl h1 a4 ⊢
     cases a5 with
     |one g =>
      rename_i c
      obtain ⟨k,q,r1,r2,r3,r4,r5,rfl⟩:=g
      obtain ⟨c',e,u1,u2⟩:=gf (a4 c (by simp))
      refine .ok ⟨rfl,h+1,_,⟨k,q,?_,?_,r1,r3,r4,r5,rfl⟩,by simp⟩
      ·simp[e];omega
      ·simp[e];omega
     |cons g _=>simp at h1;subst h1;simp at hl
   ·rename_i h1
    refine IF (by omega) hN hn ?_ hs
    intro e
    cases h with
    |zero=>exact he ⟨hn.1,e⟩
    |succ h=>have:=(aB.succ.1 hn).2.2.2.2.len;rw[e]at this;exact h1 this
 |two a k b =>
  obtain ⟨la,lb,pa,pb,x1,y1,rfl,rfl,xs1,ZE,ys1,ZD,xk,yk,kk⟩:=hq
  simp only[dK]
  refine (ik t (dS (by omega)) ZE).bind (b2:=2) (fun c t' pn on ht hp => ?_) (by omega)
  obtain ⟨rfl,rfl,r1,r2,r3⟩:=hp
  refine (ik t' (dS (by omega)) ZD).bind (b2:=1) (fun d A5 pn on Mb hp => ?_) (by omega)
  obtain ⟨rfl,rfl,s1,s2,s3⟩:=hp
  rw[ht.p.len]at s3
  have g:=ht.p.grow.trans Mb.p.grow
  have Hj:fK A5.p.read (aB A5.p.read h) [] (some k) (c:Int).toNat la (c::pa):=⟨a,pa,Mb.p.grow _ _ r1,xs1,ZE,xk,x1.grow g,rfl⟩
  have WQ:fK A5.p.read (aB A5.p.read h) k none (d:Int).toNat lb (d::pb):=⟨b,pb,s1,ys1,ZD,yk,y1.grow g,rfl⟩
  have hn:aB A5.p.read (h+1) [] none ⟨false,[k],[],[(c:Int),(d:Int)]⟩ (la++lb) ((c::pa)++(d::pb)):=by
   refine aB.succ.2 ⟨rfl,rfl,by simpa using kk,fun z hz => ?_,.cons Hj (.one WQ)⟩
   simp only[zH,wO,or_false]at hz
   rcases hz with rfl|rfl
   ·simp[ke];omega
   ·simp[ke];omega
  have ew:=oM (hn.right (by simp)) rfl
  refine (IF (t:=A5) (b:=1) (by omega) (by rw[Mb.p.len,ht.p.len];exact hN) hn (by simp) (by rw[ew];simp[IG];omega)).imp (fun r t3 pn on ht3 hp => ?_) (by omega)
  obtain ⟨rfl,d',dl,z1,z2⟩:=hp
  refine ⟨rfl,d',dl,z1,dY fun z => ?_⟩
  have:=dM z2 z
  simp only[ft,fc,fT]at this ⊢;omega
theorem CK (k:Bytes):xD [] none k=true:=by
 have:al k []=false:=by cases k<;>rfl
 simp[xD,this]
theorem Rs {act:T->Nd->R Nd} {key:Bytes} {m:bh} {AI:Prop} {b:Nat} (ha:pY act key m AI b) {d root:Nat} {t:T} {l:bh} {ps:List Nat} (hd:d<=12) (hN:t.p.st.length<=4096) (hr:dt t.p.read d root l ps) (hm:AI->∃p∈l,p.1=key) :
  xt t (r9 act key root t) (b+2*d+3) fun r t' pn on=>∃d' dl,dt t'.p.read d' r (xQ key m l) dl/\(dl++on).Perm (ps++pn):=by
 unfold r9
 cases d with
 |zero =>
  obtain ⟨rfl,rfl,rfl⟩:=hr
  simp only[if_true]
  refine (ha t _ [] none [] [] hN GO (CK key) (by rw[size_empty];omega) hm).bind (b2:=3) (fun n t' pn on ht hp => ?_) (by omega)
  obtain ⟨dl,x1,x2,x3⟩:=hp
  rw[size_empty]at x3
  refine (E7 (t:=t') (h:=0) (by rw[ht.p.len];exact hN) (show iZ t'.p.read 0 [] none (.one n) _ _ from ⟨x1,by omega⟩)).imp (fun r t2 Vs on2 yF aT => ?_) (by omega)
  obtain ⟨rfl,d',Vr,y1,y2⟩:=aT
  refine ⟨d',Vr,y1,dY fun z => ?_⟩
  have u1:=dM x2 z
  have u2:=dM y2 z
  simp only[ft,fc,fT]at u1 u2 ⊢;omega
 |succ h =>
  obtain ⟨n,dl,h1,h2,h3,h4,h5,h6,rfl⟩:=hr
  rw[if_neg (by omega)]
  refine (Ac ha (h:=h) (f:=12) (by omega) hN h3 h4 h5 h6 (CK key) hm).bind (b2:=3) (fun q t' pn on ht hp => ?_) (by omega)
  obtain ⟨ps1,x1,x2⟩:=hp
  refine (E7 (t:=t') (by rw[ht.p.len];exact hN) x1).imp (fun r t2 Vs on2 yF aT => ?_) (by omega)
  obtain ⟨rfl,d',Vr,y1,y2⟩:=aT
  refine ⟨d',Vr,y1,dY fun z => ?_⟩
  have u1:=dM x2 z
  have u2:=dM y2 z
  simp only[ft,fc,fT]at u1 u2 ⊢;omega
end Go.Bt
namespace Go.Bt
open Go.Ai
def rZ (keys:List Bytes) (key:Bytes):Nat:=below keys key+if key∈keys then 1 else 0
theorem Kk {keys:List Bytes} (hr:kS keys) (k:Bytes):rZ keys k<=keys.length/\(∀j (hj:j<keys.length),j<rZ keys k->al k keys[j]=false)/\∀j (hj:j<keys.length),rZ keys k<=j->al k keys[j]=true:=nJ hr k
theorem IC {keys vs:List Bytes} (hr:kS keys) (key:Bytes):(keys.zip vs).filter (fun p=>al p.1 key)=(keys.take (below keys key)).zip (vs.take (below keys key)):=by
 obtain ⟨h1,h2,h3⟩:=fu hr key
 rw[xy keys vs (below keys key),wU]
 have e1:((keys.take (below keys key)).zip (vs.take (below keys key))).filter (fun p=>al p.1 key)=(keys.take (below keys key)).zip (vs.take (below keys key)):=by
  refine wX.2 fun p hp => ?_
  obtain ⟨j,hj,e⟩:=zY (qK hp).1
  rw[<-e,wy]
  exact h2 j (by simp at hj;omega) (by simp at hj;omega)
 have e2:((keys.drop (below keys key)).zip (vs.drop (below keys key))).filter (fun p=>al p.1 key)=[]:=by
  refine wC.2 fun p hp => ?_
  obtain ⟨j,hj,e⟩:=zY (qK hp).1
  rw[<-e,qA,h3 _ (by simp at hj;omega) (by omega)]
  simp
 rw[e1,e2,zT]
theorem ID {keys vs:List Bytes} (hr:kS keys) (key:Bytes):(keys.zip vs).filter (fun p=>al key p.1)=(keys.drop (rZ keys key)).zip (vs.drop (rZ keys key)):=by
 obtain ⟨h1,h2,h3⟩:=Kk hr key
 rw[xy keys vs (rZ keys key),wU]
 have e1:((keys.take (rZ keys key)).zip (vs.take (rZ keys key))).filter (fun p=>al key p.1)=[]:=by
  refine wC.2 fun p hp => ?_
  obtain ⟨j,hj,e⟩:=zY (qK hp).1
  rw[<-e,wy,h2 j (by simp at hj;omega) (by simp at hj;omega)]
  simp
 have e2:((keys.drop (rZ keys key)).zip (vs.drop (rZ keys key))).filter (fun p=>al key p.1)=(keys.drop (rZ keys key)).zip (vs.drop (rZ keys key)):=by
  refine wX.2 fun p hp => ?_
  obtain ⟨j,hj,e⟩:=zY (qK hp).1
  rw[<-e,qA]
  exact h3 _ (by simp at hj;omega) (by omega)
 rw[e1,e2,zh]
theorem dR {n:Nd} (hr:ax n=true):kS n.keys:=(iF.1 (by simp only[ax,zN]at hr;exact hr.1)).1
theorem II {rd:fx} {lo hi n l ps} {key v:Bytes} {x:bD} {qs:List Nat} (hn:aB rd 0 lo hi n l ps) (hk:key∉n.keys) (hl:key.length<=60) (hb:xD lo hi key=true) (hx:jl x=true) (hv:lZ rd x v qs)
  (hw:(if 0<x.p then 9 else 1+x.v.length)<=61) :
  ∃dl,aB rd 0 lo hi (pf n (below n.keys key) key x) (xQ key [(key,v)] l) dl/\dl.Perm (ps++qs)/\aw (pf n (below n.keys key) key x)<=aw n+122:=by
 obtain ⟨h1,h2,h3,vs,ia,h4,rfl,rfl⟩:=hn
 have eJ:=dR h2
 obtain ⟨b1,b2,b3⟩:=(aZ.of h2).leaf h1
 have Q8:=(fu eJ key).1
 have hut:rZ n.keys key=below n.keys key:=by simp[rZ,hk]
 have yK:ax (pf n (below n.keys key) key x)=true:=by
  show ax ⟨true,gg n.keys (below n.keys key) key,gg n.items (below n.keys key) x,[]⟩=true
  simp only[ax,zN]
  constructor
  ·refine iF.2 ⟨Nt eJ hk,fun j hj => ?_⟩
   have hm:(gg n.keys (below n.keys key) key)[j]∈gg n.keys (below n.keys key) key:=zP hj
   have:(gg n.keys (below n.keys key) key)[j]=key\/(gg n.keys (below n.keys key) key)[j]∈n.keys:=by
    simp only[gg,zJ,zH]at hm
    rcases hm with hm|hm|hm
    ·exact .inr (zw hm)
    ·exact .inl hm
    ·exact .inr (zx hm)
   show (gg n.keys (below n.keys key) key)[j].length<=60
   rcases this with h|h
   ·rw[h];exact hl
   ·obtain ⟨q,hq,e⟩:=zY h
    rw[<-e];exact (aZ.of h2).yB q hq
  ·simp only[iU,if_true,zN,decide_eq_true_eq]
   refine ⟨⟨by rw[ph Q8,ph (by omega),b1],rfl⟩,?_⟩
   rw[zQ]
   intro y hy
   simp only[gg,zJ,zH]at hy
   rcases hy with hy|hy|hy
   ·exact b3 y (zw hy)
   ·subst hy;exact hx
   ·exact b3 y (zx hy)
 obtain ⟨v1,v2⟩:=h4.cut (below n.keys key)
 have cV:fv rd [x] [v] [qs]:=⟨rfl,rfl,fun i a b c=>by
  have:i=0:=by simpa using a
  subst this;exact hv⟩
 have Wc:=v1.xO (cV.xO v2)
 refine ⟨_,⟨rfl,yK,fun k jn => ?_,vs.take (below n.keys key)++([v]++vs.drop (below n.keys key)),ia.take (below n.keys key)++([qs]++ia.drop (below n.keys key)),Wc,?_,rfl⟩,?_,?_⟩
 ·simp only[pf,gg,zJ,zH]at jn
  rcases jn with jn|jn|jn
  ·exact h3 k (zw jn)
  ·rw[jn];exact hb
  ·exact h3 k (zx jn)
 ·rw[xQ,IC eJ,ID eJ,hut]
  simp only[pf,gg]
  rw[qS (by simp;have:=h4.1;omega),zF]
  rfl
 ·refine dY fun z => ?_
  rw[z6 ia (below n.keys key)]
  simp only[qC,wg,List.flatten_nil,ft,fT];omega
 ·have hz:=ph (a:=key) Q8
  have V5:=ph (l:=n.items) (i:=below n.keys key) (a:=x) (by omega)
  rw[size_leaf yK rfl (by simp only[pf];omega),size_leaf h2 h1 b1]
  simp only[pf]
  rw[Mn b1.symm]
  have hs:((n.keys.zip n.items).map Tg).sum=(((n.keys.zip n.items).take (below n.keys key)).map Tg).sum+(((n.keys.zip n.items).drop (below n.keys key)).map Tg).sum:=by
   rw[<-wV,<-zg,zy]
  have hwt:Tg (key,x)<=122:=by simp only[Tg];split at hw<;>split<;>omega
  rw[hs,gg]
  simp only[zg,wV,wI,jB]
  omega
theorem I6 {rd:fx} {lo hi n l ps} {key:Bytes} (hn:aB rd 0 lo hi n l ps) (hk:key∈n.keys) :
  ∃y v qs dl,n.items[below n.keys key]?=some y/\lZ rd y v qs/\aB rd 0 lo hi (ko n (below n.keys key)) (xQ key [] l) dl/\(dl++qs).Perm ps/\aw (ko n (below n.keys key))<=aw n/\key∉(ko n (below n.keys key)).keys/\below (ko n (below n.keys key)).keys key=below n.keys key:=by
 obtain ⟨h1,h2,h3,vs,ia,h4,rfl,rfl⟩:=hn
 have eJ:=dR h2
 obtain ⟨b1,b2,b3⟩:=(aZ.of h2).leaf h1
 obtain ⟨s1,s2,s3⟩:=fu eJ key
 obtain ⟨az,he⟩:=zB.1 ((kW eJ key).1 hk)
 have hut:rZ n.keys key=below n.keys key+1:=by simp[rZ,hk]
 have uL:=h4.1
 have Az:=h4.2.1
 have oA:(fP n.keys (below n.keys key)).Sublist n.keys:=by
  have:n.keys=n.keys.take (below n.keys key)++n.keys.drop (below n.keys key):=(zy _ _).symm
  conv=>rhs;rw[this]
  exact List.Sublist.append (List.Sublist.refl _) (List.drop_sublist_drop_left _ (by omega))
 have Hd:kS (fP n.keys (below n.keys key)):=kJ.2 ((kJ.1 eJ).sublist oA)
 have yK:ax (ko n (below n.keys key))=true:=by
  show ax ⟨true,fP n.keys (below n.keys key),fP n.items (below n.keys key),[]⟩=true
  simp only[ax,zN]
  constructor
  ·refine iF.2 ⟨Hd,fun j hj => ?_⟩
   obtain ⟨q,hq,e⟩:=zY (oA.subset (zP hj))
   show (fP n.keys (below n.keys key))[j].length<=60
   rw[<-e];exact (aZ.of h2).yB q hq
  ·simp only[iU,if_true,zN,decide_eq_true_eq]
   refine ⟨⟨by simp[fP];omega,rfl⟩,?_⟩
   rw[zQ]
   intro y hy
   simp only[fP,zJ]at hy
   rcases hy with hy|hy
   ·exact b3 y (zw hy)
   ·exact b3 y (zx hy)
 obtain ⟨v1,_⟩:=h4.cut (below n.keys key)
 obtain ⟨_,v2⟩:=h4.cut (below n.keys key+1)
 have hnk:key∉fP n.keys (below n.keys key):=by
  intro hm
  simp only[fP,zJ]at hm
  rcases hm with hm|hm
  ·obtain ⟨j,hj,e⟩:=zY hm
   rw[wy]at e
   have:=s2 j (by simp at hj;omega) (by simp at hj;omega)
   rw[e,bc]at this;cases this
  ·obtain ⟨j,hj,e⟩:=zY hm
   rw[qA]at e
   have:=eJ (below n.keys key) (below n.keys key+1+j) (by simp at hj;omega) (by omega)
   rw[he,e,bc]at this;cases this
 refine ⟨n.items[below n.keys key]'(by omega),vs[below n.keys key]'(by omega),ia[below n.keys key]'(by omega),_,zA (by omega),h4.2.2 _ (by omega) (by omega) (by omega),
  ⟨rfl,yK,fun k jn=>h3 k (oA.subset jn),_,_,v1.xO v2,?_,rfl⟩,?_,?_,hnk,?_⟩
 ·rw[xQ,IC eJ,ID eJ,hut]
  simp only[ko,fP]
  rw[qS (by simp;omega),zT]
 ·refine dY fun z => ?_
  rw[z6 ia (below n.keys key),zO (show below n.keys key<ia.length by omega)]
  simp only[qC,wg,ft];omega
 ·rw[size_leaf yK rfl (by simp[ko,fP];omega),size_leaf h2 h1 b1]
  simp only[ko,fP]
  rw[qS (by simp;omega),xy n.keys n.items (below n.keys key),zO az,zO (show below n.keys key<n.items.length by omega)]
  simp only[zg,wV,qn,wI,jB]
  omega
 ·show below (fP n.keys (below n.keys key)) key=_
  refine Am (by simp[fP];omega) (fun j hj h => ?_) (fun j hj h => ?_)
  ·simp only[fP]
   rw[wq (by simp;omega),wy]
   exact s2 j (by simp[fP]at hj;omega) h
  ·simp only[fP]
   rw[wj (by simp;omega),qA]
   simp only[wD]
   simp only[fP,zG,wD,wN]at hj
   exact s3 _ (by omega) (by omega)
theorem Rq {key:Bytes} {m l:bh}:xQ key m (xQ key [] l)=xQ key m l:=by
 have e:∀x y z:Bytes,al x y=true->al y x=false:=fun x y _ h=>j5 h
 simp only[xQ,wU,List.filter_filter,zT]
 have f1:(l.filter fun a=>al a.1 key&&al key a.1)=[]:=wC.2 fun p _=>by
  cases h:al p.1 key
  ·simp
  ·simp[j5 h]
 have f2:(l.filter fun a=>al key a.1&&al a.1 key)=[]:=wC.2 fun p _=>by
  cases h:al p.1 key
  ·simp
  ·simp[j5 h]
 simp only[f1,f2,Bool.and_self,zT,zh]
theorem Ry {key value:Bytes} (h1:key.length<=60) (h2:value.length<=60000):pY (Em key value) key [(key,value)] False (lh value):=by
 intro t n lo hi l ps hN hn hb hs _
 unfold Em
 refine (CH t h2 hN).bind (b2:=0) (fun x t' pn on ht hp => ?_) (by omega)
 obtain ⟨rfl,x1,x2,qs,x3,x4⟩:=hp
 have T3:=hn.grow ht.p.grow
 split
 ·rename_i hk
  obtain ⟨y,v,qy,ps1,y1,y2,y3,y4,y5,y6,y7⟩:=I6 T3 hk
  rw[y1]
  refine (Es t' y2).bind (b2:=0) (fun _ t2 Vs on2 yF aT => ?_) (by omega)
  obtain ⟨rfl,rfl⟩:=aT
  obtain ⟨Vr,z1,z2,z3⟩:=II y3 y6 h1 hb x1 x3 x2
  rw[y7]at z1 z3
  refine .ok ⟨Vr,by rw[<-Rq];exact z1.grow yF.p.grow,dY fun z => ?_,by omega⟩
  have u1:=dM x4 z
  have u2:=dM y4 z
  have u3:=dM z2 z
  simp only[ft,fc,fT]at u1 u2 u3 ⊢;omega
 ·rename_i hk
  obtain ⟨Vr,z1,z2,z3⟩:=II T3 hk h1 hb x1 x3 x2
  refine .ok ⟨Vr,z1,dY fun z => ?_,by omega⟩
  have u1:=dM x4 z
  have u3:=dM z2 z
  simp only[ft,fc,fT]at u1 u3 ⊢;omega
theorem SO {key:Bytes}:pY (ta key) key [] True 0:=by
 intro t n lo hi l ps hN hn hb hs hm
 have hk:key∈n.keys:=by
  obtain ⟨p,hp,e⟩:=hm trivial
  obtain ⟨_,_,_,vs,ia,_,rfl,_⟩:=hn
  rw[<-e];exact (qK hp).1
 unfold ta
 obtain ⟨y,v,qy,ps1,y1,y2,y3,y4,y5,y6,y7⟩:=I6 hn hk
 rw[y1]
 refine (Es t y2).bind (b2:=0) (fun _ t2 Vs on2 yF aT => ?_) (by omega)
 obtain ⟨rfl,rfl⟩:=aT
 refine .ok ⟨ps1,y3.grow yF.p.grow,dY fun z => ?_,by omega⟩
 have u2:=dM y4 z
 simp only[ft,fc,fT]at u2 ⊢;omega
end Go.Bt
namespace Go.Bt
open Go.Ai
theorem yp:∀{a b:List Nat},a.Nodup->(∀x∈a,x∈b)->a.length<=b.length
 |[],b,_,_=>by simp
 |x::a,b,h,hs=>by
  rw[zp]at h
  have hx:x∈b:=hs x (by simp)
  have:=yp (a:=a) (b:=b.erase x) h.2 fun y hy=>by
   have bt:y≠x:=fun e=>h.1 (e▸hy)
   exact (List.mem_erase_of_ne bt).2 (hs y (by simp[hy]))
  rw[List.length_erase_of_mem hx]at this
  have:=List.length_pos_of_mem hx
  simp;omega
def sD (p:PM) (m:Nat):Prop:=p.is m=0\/p.is m=2
structure Step (p p':PM):Prop where
 gen:p'.gen=p.gen
 pins:p'.pins=p.pins
 len:p'.st.length=p.st.length
 at':∀m,(p'.st.getD m (0,0)=p.st.getD m (0,0)/\p'.rd m=p.rd m)\/(sD p m/\sD p' m)\/(p.is m=1/\p'.is m=3/\p'.rd m=p.rd m)
theorem Step.refl (p:PM):Step p p:=⟨rfl,rfl,rfl,fun _=>.inl ⟨rfl,rfl⟩⟩
theorem iq {p p':PM} {m:Nat} (h:p'.st.getD m (0,0)=p.st.getD m (0,0)):p'.is m=p.is m:=by simp only[PM.is,h]
theorem Step.trans {a b c:PM} (h:Step a b) (k:Step b c):Step a c:=by
 refine ⟨k.gen.trans h.gen,k.pins.trans h.pins,k.len.trans h.len,fun m => ?_⟩
 rcases h.at' m with ⟨h1,h2⟩|⟨h1,h2⟩|⟨h1,h2,h3⟩<;>rcases k.at' m with ⟨k1,k2⟩|⟨k1,k2⟩|⟨k1,k2,k3⟩
 ·exact .inl ⟨k1.trans h1,k2.trans h2⟩
 ·exact .inr (.inl ⟨by simpa only[sD,iq h1] using k1,k2⟩)
 ·exact .inr (.inr ⟨by rw[<-iq h1];exact k1,k2,k3.trans h2⟩)
 ·exact .inr (.inl ⟨h1,by simpa only[sD,iq k1] using h2⟩)
 ·exact .inr (.inl ⟨h1,k2⟩)
 ·simp only[sD]at h2;omega
 ·exact .inr (.inr ⟨h1,by rw[iq k1];exact h2,k2.trans h3⟩)
 ·simp only[sD]at k1;omega
 ·omega
theorem Step.read {p p':PM} (h:Step p p') {m:Nat} (h0:p.is m≠0) (h2:p.is m≠2):p'.read m=p.read m:=by
 have hh:=has_eq h.len m
 rcases h.at' m with ⟨a,b⟩|⟨a,b⟩|⟨a,b,c⟩
 ·simp only[PM.read,hh,iq a,b]
 ·simp only[sD]at a;omega
 ·simp only[PM.read,hh,a,b,c];simp
def Own (p:PM) (ps:List Nat):Prop:=ps.Nodup/\∀m,m∈ps↔p.has m=true/\(p.is m=1\/p.is m=2)
def Com (p:PM) (ps:List Nat):Prop:=ps.Nodup/\∀m,m∈ps↔p.has m=true/\(p.is m=1\/p.is m=3)
theorem Step.com {p p':PM} (h:Step p p') {ps:List Nat} (k:Com p ps):Com p' ps:=by
 refine ⟨k.1,fun m=>(k.2 m).trans ?_⟩
 rw[has_eq h.len]
 have:(p.is m=1\/p.is m=3)↔(p'.is m=1\/p'.is m=3):=by
  rcases h.at' m with ⟨a,b⟩|⟨a,b⟩|⟨a,b,c⟩
  ·rw[iq a]
  ·simp only[sD]at a b;omega
  ·omega
 rw[this]
structure acZ (p p':PM) (l:List Nat):Prop where
 rd:p'.rd=p.rd
 gen:p'.gen=p.gen
 pins:p'.pins=p.pins
 len:p'.st.length=p.st.length
 ah:∀m,m∉l->p'.st.getD m (0,0)=p.st.getD m (0,0)
 drop:∀m∈l,(p.is m=2->p'.is m=0)/\(p.is m=1->p'.is m=3)
theorem s9:∀(l:List Nat) (p:PM),l.Nodup->(∀m∈l,p.has m=true/\(p.is m=1\/p.is m=2))->∃p',gS p l=(p',0)/\lU p l=p'/\acZ p p' l
 |[],p,_,_=>⟨p,rfl,rfl,rfl,rfl,rfl,rfl,fun _ _=>rfl,by simp⟩
 |n::l,p,hd,hl=>by
  rw[zp]at hd
  obtain ⟨h1,h2⟩:=hl n (by simp)
  cases hp:p.drop n with
  |none =>
   exfalso
   unfold PM.drop at hp
   rw[if_pos h1]at hp
   split at hp
   ·cases hp
   ·rename_i g
    rw[if_pos (by omega)]at hp;cases hp
  |some p1 =>
   obtain ⟨a1,a2,a3,a4,a5,a6,a7⟩:=PM.rQ hp
   have hk:∀m,m≠n->p1.is m=p.is m:=fun m hm=>iq (a7 m hm)
   obtain ⟨p',e1,e2,e3⟩:=s9 l p1 hd.2 fun m hm=>by
    have bt:m≠n:=fun e=>hd.1 (e▸hm)
    rw[has_eq a6,hk m bt];exact hl m (by simp[hm])
   refine ⟨p',by simp only[gS,hp];exact e1,by simp only[lU,hp,wJ];exact e2,e3.rd.trans a3,e3.gen.trans a4,e3.pins.trans a5,e3.len.trans a6,fun m hm => ?_,fun m hm => ?_⟩
   ·simp only[zH,not_or]at hm
    rw[e3.ah m hm.2,a7 m hm.1]
   ·by_cases oD:m=n
    ·subst oD
     have:p'.is m=p1.is m:=iq (e3.ah m hd.1)
     rw[this]
     rcases a2 with ⟨b1,b2⟩|⟨b1,b2⟩
     ·exact ⟨fun _=>by simp only[PM.is,b2],fun e=>by omega⟩
     ·exact ⟨fun e=>by omega,fun _=>b2⟩
    ·have rJ:m∈l:=by simpa [oD] using hm
     rw[<-hk m oD];exact e3.drop m rJ
theorem SB {p:PM} {l:List Nat} (h:∀m,p.has m=true->p.is m=0->m∈l):p.free<=l.length:=by
 unfold PM.free
 refine yp (List.Nodup.sublist List.filter_sublist List.nodup_range) fun m hm => ?_
 simp only[List.mem_filter,wL,zN,decide_eq_true_eq]at hm
 exact h m (by simp[PM.has,hm.1,hm.2.1]) hm.2.2
theorem SC {p p':PM} (hl:p'.st.length=p.st.length) (h:∀m,p'.is m=p.is m):p'.free=p.free:=by
 unfold PM.free
 rw[hl]
 congr 1
 exact List.filter_congr fun m _=>by rw[h]
theorem Ft {act:T->Nd->R Nd} {key:Bytes} {m:bh} {AI:Prop} {b:Nat} (ha:pY act key m AI b) {d root:Nat} {p:PM} {l:bh} {ps:List Nat} (hd:d<=12) (hN:p.st.length<=4096) (hr:dt p.read d root l ps) (ho:Own p ps) (hm:AI->∃q∈l,q.1=key) :
  (∃p' r d' dl,jo act key root p=(0,p',r)/\dt p'.read d' r (xQ key m l) dl/\Own p' dl/\Step p p') \/
  (∃p',jo act key root p=(6,p',root)/\Step p p'/\(∀m,p'.is m=p.is m)/\p'.read=p.read/\p.free+1<=b+2*d+3):=by
 have H:=Rs ha (t:=⟨p,[],[]⟩) hd hN hr hm
 unfold jo
 obtain ⟨pn,on,h1,h2,h3⟩:=H
 generalize r9 act key root ⟨p,[],[]⟩=x at h1 h3 ⊢
 obtain ⟨r,t⟩:=x
 obtain ⟨hx,lG,hold⟩:=h1
 simp only[zh]at lG hold hx
 obtain ⟨p1,put,old⟩:=t
 simp only at lG hold hx h3
 subst lG hold
 have hfp:∀m∈put,m∉ps:=fun m hm hp=>by
  have:=(hx.new m hm).2.1
  have:=((ho.2 m).1 hp).2
  omega
 cases r with
 |ok root' =>
  obtain ⟨d',dl,sr,TW⟩:=h3
  have w8:(ps++put).Nodup:=zq.2 ⟨ho.1,hx.nd,fun a ha b hb e=>hfp b hb (e▸ha)⟩
  have aa6:(dl++old).Nodup:=TW.nodup_iff.2 w8
  rw[zq]at aa6
  obtain ⟨n1,n2,n3⟩:=aa6
  have ng:∀m,m∈dl\/m∈old↔m∈ps\/m∈put:=fun m=>by
   have:=TW.mem_iff (a:=m)
   simpa using this
  have bU:∀m,m∈ps\/m∈put->p1.has m=true/\(p1.is m=1\/p1.is m=2):=fun m hm=>by
   by_cases hp:m∈put
   ·obtain ⟨a1,a2,a3⟩:=hx.new m hp
    exact ⟨by rw[has_eq hx.len];exact a1,.inr a3⟩
   ·have rJ:m∈ps:=hm.resolve_right hp
    obtain ⟨a1,a2⟩:=(ho.2 m).1 rJ
    exact ⟨by rw[has_eq hx.len];exact a1,by rw[hx.is hp];exact a2⟩
  obtain ⟨p2,e1,e2,e3⟩:=s9 old p1 n2 fun m hm=>bU m ((ng m).1 (.inr hm))
  have hlen:p2.st.length=p.st.length:=e3.len.trans hx.len
  refine .inl ⟨p2,root',d',dl,by simp[e1],sr.move fun m hm => ?_,⟨n1,fun m=>⟨fun hm => ?_,fun hm => ?_⟩⟩,⟨e3.gen.trans hx.gen,e3.pins.trans hx.pins,hlen,fun m => ?_⟩⟩
  ·have sV:m∉old:=fun e=>n3 m hm m e rfl
   simp only[PM.read,has_eq e3.len,iq (e3.ah m sV),e3.rd]
  ·have sV:m∉old:=fun e=>n3 m hm m e rfl
   obtain ⟨a1,a2⟩:=bU m ((ng m).1 (.inl hm))
   exact ⟨by rw[has_eq e3.len];exact a1,by rw[iq (e3.ah m sV)];exact a2⟩
  ·obtain ⟨a1,a2⟩:=hm
   have sV:m∉old:=fun e=>by
    have g1:=(bU m ((ng m).1 (.inr e))).2
    have g2:=e3.drop m e
    rcases g1 with g1|g1
    ·have:=g2.2 g1;omega
    ·have:=g2.1 g1;omega
   rw[iq (e3.ah m sV)]at a2
   refine ((ng m).2 ?_).resolve_right sV
   by_cases hp:m∈put
   ·exact .inr hp
   ·exact .inl ((ho.2 m).2 ⟨by rw[<-has_eq hlen];exact a1,by rw[<-hx.is hp];exact a2⟩)
  ·by_cases hp:m∈put
   ·obtain ⟨a1,a2,a3⟩:=hx.new m hp
    refine .inr (.inl ⟨.inl a2,?_⟩)
    by_cases Sd:m∈old
    ·exact .inl ((e3.drop m Sd).1 a3)
    ·exact .inr (by rw[iq (e3.ah m Sd)];exact a3)
   ·obtain ⟨s1,s2⟩:=hx.same m hp
    by_cases Sd:m∈old
    ·have g1:=(bU m ((ng m).1 (.inr Sd))).2
     have g2:=e3.drop m Sd
     rcases g1 with g1|g1
     ·exact .inr (.inr ⟨by rw[<-iq s1];exact g1,g2.2 g1,by rw[e3.rd];exact s2⟩)
     ·exact .inr (.inl ⟨.inr (by rw[<-iq s1];exact g1),.inl (g2.1 g1)⟩)
    ·exact .inl ⟨(e3.ah m Sd).trans s1,by rw[e3.rd];exact s2⟩
 |error e =>
  obtain ⟨rfl,abj,az⟩:=h3
  obtain ⟨p2,e1,e2,e3⟩:=s9 put p1 hx.nd fun m hm=>⟨by rw[has_eq hx.len];exact (hx.new m hm).1,.inr (hx.new m hm).2.2⟩
  have hlen:p2.st.length=p.st.length:=e3.len.trans hx.len
  have QZ:∀m,p2.is m=p.is m:=fun m=>by
   by_cases hp:m∈put
   ·rw[(e3.drop m hp).1 (hx.new m hp).2.2,(hx.new m hp).2.1]
   ·rw[iq (e3.ah m hp),hx.is hp]
  refine .inr ⟨p2,by simp[e2],⟨e3.gen.trans hx.gen,e3.pins.trans hx.pins,hlen,fun m => ?_⟩,QZ,funext fun m => ?_,?_⟩
  ·by_cases hp:m∈put
   ·have:=(hx.new m hp).2.1
    exact .inr (.inl ⟨.inl this,.inl (by rw[QZ];exact this)⟩)
   ·obtain ⟨s1,s2⟩:=hx.same m hp
    exact .inl ⟨(e3.ah m hp).trans s1,by rw[e3.rd];exact s2⟩
  ·by_cases hp:m∈put
   ·have:=(hx.new m hp).2.1
    simp[PM.read,QZ,this]
   ·simp only[PM.read,has_eq hlen,QZ,e3.rd,(hx.same m hp).2]
  ·refine wF (Nat.succ_le_succ (SB (l:=put) fun m hm h0 => ?_)) az
   by_cases hp:m∈put
   ·exact hp
   ·exact absurd (by rw[hx.is hp];exact h0) (abj m (by rw[has_eq hx.len];exact hm))
theorem oo.many {P:ff} {w:Nat} {lo hi ks cs l ps} (h:oo P lo hi ks cs l ps) (e:∀lo hi c l' dl,P lo hi c l' dl->w<=dl.length):cs.length*w<=ps.length:=by
 induction h with
 |one h=>simpa using e _ _ _ _ _ h
 |cons h _ ih=>have:=e _ _ _ _ _ h;simp only[zV,zG,ze];omega
theorem yq {rd:fx}:∀{h:Nat} {lo hi n l ps},aB rd h lo hi n l ps->n.keys≠[]->2 ^ (h+1)<=ps.length+2
 |0,_,_,_,_,_,_,_=>by omega
 |h+1,lo,hi,n,l,ps,hn,hk=>by
  obtain ⟨a1,a2,a3,a4,a5⟩:=aB.succ.1 hn
  have hl:=a5.len
  have:=zt.2 hk
  have h2:=a5.many (w:=2 ^ (h+1)-1) fun lo hi c l' dl ⟨k,q,r1,r2,r3,r4,r5,e⟩=>by
   have:=yq r5 r4
   rw[e];simp;omega
  have h3:2*(2 ^ (h+1)-1)<=n.kids.length*(2 ^ (h+1)-1):=zX _ (by omega)
  have h4:2 ^ (h+1+1)=2*2 ^ (h+1):=by rw[jI];omega
  have h5:1<=2 ^ (h+1):=Nat.one_le_two_pow
  omega
theorem gU {p:PM} {d root l ps} (hr:dt p.read d root l ps) (ho:Own p ps) (hN:p.st.length<=300):d<=8:=by
 cases d with
 |zero=>omega
 |succ h =>
  obtain ⟨n,dl,h1,h2,h3,h4,h5,h6,rfl⟩:=hr
  have:=yq h6 h5
  have hlen:(root::dl).length<=(List.range p.st.length).length:=yp ho.1 fun m hm=>by
   have:=((ho.2 m).1 hm).1
   simp only[PM.has,zN,decide_eq_true_eq]at this
   simpa using this.2
  simp at hlen
  have h9:¬9<=h+1:=fun e=>by
   have:2 ^ 9<=2 ^ (h+1):=wv (by omega) e
   omega
  omega
end Go.Bt
namespace Go.Bt
open Go.Ai
theorem E9 {rd:fx} (hz:rd 0=none) {k:Bytes}:∀{h f a:Nat} {lo:Bytes} {hi:Option Bytes} {n:Nd} {l:bh} {ps:List Nat},h<f->rd a=some ((dT n).toNat,ba n)->aw n<=492->n.keys≠[]->aB rd h lo hi n l ps->xD lo hi k=true->iP rd k f a=some (look l k)
 |h,f,a,lo,hi,n,l,ps,hf,hr,hs,hk,hn,hb=>by
  obtain ⟨f,rfl⟩:∃g,f=g+1:=⟨f-1,by omega⟩
  obtain ⟨a,rfl⟩:∃g,a=g+1:=⟨a-1,by
   rcases qG a with e|e
   ·rw[e,hz]at hr;cases hr
   ·omega⟩
  have QT:=hn.right hk
  simp only[iP,o8 hr QT hs]
  cases h with
  |zero =>
   obtain ⟨h1,h2,h3,vs,ia,h4,rfl,rfl⟩:=hn
   have eJ:=dR h2
   have iM:=((aZ.of h2).leaf h1).1
   rw[if_pos h1]
   by_cases hm:k∈n.keys
   ·have Q8:=(kW eJ k).1 hm
    obtain ⟨az,he⟩:=zB.1 Q8
    have hx:n.items[below n.keys k]?=some (n.items[below n.keys k]'(by omega)):=zA (by omega)
    have hv:=h4.2.2 _ (show below n.keys k<n.items.length by omega) (by have:=h4.1;omega) (by have:=h4.2.1;omega)
    rw[if_pos hm,hx]
    simp only[A1 hv,qP]
    rw[vu Q8 (fun j hj e => ?_) (by have:=h4.1;omega),zA]
    have h8:=(fu eJ k).2.1 j (by omega) hj
    have h9:n.keys[j]?=some (n.keys[j]'(by omega)):=zA (by omega)
    rw[h9,zOi]at e
    rw[e,bc]at h8;cases h8
   ·rw[if_neg hm,rG fun p hp e=>hm (by rw[<-e];exact (qK hp).1)]
  |succ h =>
   obtain ⟨a1,a2,a3,a4,a5⟩:=aB.succ.1 hn
   obtain ⟨az,a',b',c,cs1,sA,ks1,tN,l1,l',l2,p1,p',p2,e1,e2,e3,g1,g2,g3,rfl,rfl,ng,oE,DN⟩:=Ii (fG rd h) a5 hb
   have e4:n.kids[eH n.keys k]?=some c:=by rw[e2,<-e3];simp
   simp only[a1,zK,if_false,e4]
   obtain ⟨k',q,r1,r2,r3,r4,r5,rfl⟩:=g2
   rw[E9 hz (h:=h) (f:=f) (by omega) r1 r3 r4 r5 ng,tL,tL,rG (l:=l1) (fun p hp e => ?_),rG (l:=l2) (fun p hp e => ?_)]
   ·simp
   ·have:=DN p hp;rw[e,bc]at this;cases this
   ·have:=oE p hp;rw[e,bc]at this;cases this
theorem SA {rd:fx} (hz:rd 0=none) {k:Bytes} {d root l ps} (hd:d<=12) (hr:dt rd d root l ps):iP rd k 12 root=some (look l k):=by
 cases d with
 |zero=>obtain ⟨rfl,rfl,rfl⟩:=hr;simp[iP,look]
 |succ h =>
  obtain ⟨n,dl,h1,h2,h3,h4,h5,h6,rfl⟩:=hr
  exact E9 hz (by omega) h3 h4 h5 h6 (CK k)
theorem z9 {rd:fx} (hz:rd 0=none):∀{h f a dd:Nat} {lo:Bytes} {hi:Option Bytes} {n:Nd} {l:bh} {ps:List Nat},h<f->rd a=some ((dT n).toNat,ba n)->aw n<=492->n.keys≠[]->aB rd h lo hi n l ps->dQ rd f dd a=dd+h
 |h,f,a,dd,lo,hi,n,l,ps,hf,hr,hs,hk,hn=>by
  obtain ⟨f,rfl⟩:∃g,f=g+1:=⟨f-1,by omega⟩
  have ha:a≠0:=fun e=>by rw[e,hz]at hr;cases hr
  have QT:=hn.right hk
  simp only[dQ,o8 hr QT hs,if_neg ha]
  cases h with
  |zero=>rw[if_pos hn.1];rfl
  |succ h =>
   obtain ⟨a1,a2,a3,a4,a5⟩:=aB.succ.1 hn
   obtain ⟨b,c,cs',l1,l2,p1,p2,e1,g1,g2,rfl,rfl⟩:=A8 a5
   simp only[a1,zK,if_false,e1,qj]
   obtain ⟨k',q,r1,r2,r3,r4,r5,rfl⟩:=g1
   rw[z9 hz (h:=h) (f:=f) (by omega) r1 r3 r4 r5];omega
theorem BU {rd:fx} (hz:rd 0=none) {d root l ps} (hd:d<=12) (hr:dt rd d root l ps):dQ rd 12 1 root=d:=by
 cases d with
 |zero=>obtain ⟨rfl,rfl,rfl⟩:=hr;simp[dQ]
 |succ h =>
  obtain ⟨n,dl,h1,h2,h3,h4,h5,h6,rfl⟩:=hr
  rw[z9 hz (by omega) h3 h4 h5 h6];omega
def ox (lo hi:Bytes) (aI:Nat) (out l:bh):bh:=(out++l.filter fun p=>mc lo hi p.1).take aI
theorem Ej {lo hi:Bytes} {aI:Nat} {out a b:bh}:ox lo hi aI (ox lo hi aI out a) b=ox lo hi aI out (a++b):=by
 simp only[ox,wU,<-zF]
 rw[List.take_append,List.take_append (l₁:=out++List.filter (fun p=>mc lo hi p.1) a),List.take_take,Nat.min_self,wD]
 congr 1
 congr 1
 omega
theorem MH {lo hi:Bytes} {aI:Nat} {out a:bh}:(ox lo hi aI out a).length<=aI:=by simp[ox];omega
theorem Bh {lo hi:Bytes} {aI:Nat} {out a:bh} (h:out.length<=aI) (hm:aI<=out.length):ox lo hi aI out a=out:=by
 simp only[ox]
 rw[wK hm,zI h]
theorem rB {lo hi:Bytes} {aI:Nat} {out a:bh} (h:out.length<=aI) (hm:∀p∈a,mc lo hi p.1=false):ox lo hi aI out a=out:=by
 have:a.filter (fun p=>mc lo hi p.1)=[]:=wC.2 fun p hp=>by simp[hm p hp]
 simp only[ox,this,zT]
 exact zI h
theorem yA {rd:fx} {lo hi:Bytes} {aI:Nat}:∀{keys:List Bytes} {items:List bD} {vs:List Bytes} {ia:List (List Nat)} {out:bh},fv rd items vs ia->keys.length=items.length->out.length<=aI ->
  jk rd lo hi aI (keys.zip items) out=some (ox lo hi aI out (keys.zip vs))
 |[],items,vs,ia,out,hv,hl,ho=>by
  simp only[List.zip_nil_left,jk]
  rw[rB ho (by simp)]
 |k::keys,[],vs,ia,out,hv,hl,ho=>by simp at hl
 |k::keys,x::items,[],ia,out,hv,hl,ho=>by have:=hv.1;simp at this
 |k::keys,x::items,v::vs,[],out,hv,hl,ho=>by have:=hv.2.1;simp at this
 |k::keys,x::items,v::vs,qs::ia,out,hv,hl,ho=>by
  have h0:lZ rd x v qs:=hv.2.2 0 (by simp) (by simp) (by simp)
  have ht:fv rd items vs ia:=⟨by simpa using hv.1,by simpa using hv.2.1,fun i a b c=>hv.2.2 (i+1) (by simp;omega) (by simp;omega) (by simp;omega)⟩
  simp only[qn,jk]
  have e:(k,v)::keys.zip vs=[(k,v)]++keys.zip vs:=rfl
  rw[e,<-Ej]
  split
  ·rename_i h
   have:ox lo hi aI out [(k,v)]=out:=by
    rcases h with h|h
    ·exact rB ho (by simpa using h)
    ·exact Bh ho h
   rw[this]
   exact yA ht (by simpa using hl) ho
  ·rename_i h
   simp only[not_or,Bool.not_eq_false,Nat.not_le]at h
   have:ox lo hi aI out [(k,v)]=out++[(k,v)]:=by
    simp only[ox,qE,h.1,if_true,List.filter_nil]
    exact zI (by simp;omega)
   rw[this,A1 h0]
   exact yA ht (by simpa using hl) (by simp;omega)
theorem K9 {w:Nat->bh->Option bh} {lo hi:Bytes} {prev:Option Bytes} {c:Int} {out:bh}:iH w lo hi prev [] [c] out=if eF lo hi prev none=true then some out else w c.toNat out:=by
 show (if eF lo hi prev none=true then some out else match w c.toNat out with|some o=>some o|none=>none)=_
 cases w c.toNat out<;>rfl
theorem G3 {w:Nat->bh->Option bh} {lo hi:Bytes} {prev:Option Bytes} {k:Bytes} {ks:List Bytes} {c:Int} {cs:List Int} {out:bh} :
  iH w lo hi prev (k::ks) (c::cs) out=if eF lo hi prev (some k)=true then iH w lo hi (some k) ks cs out else match w c.toNat out with|some o=>iH w lo hi (some k) ks cs o|none=>none:=rfl
theorem Nm {P:ff} (g:Good P) {w:Nat->bh->Option bh} {lo hi:Bytes} {aI:Nat} (hw:∀a b c l ps out,P a b c l ps->out.length<=aI->w c out=some (ox lo hi aI out l)) {ZQ shi ks cs l ps} (h:oo P ZQ shi ks cs l ps) :
  ∀{prev:Option Bytes} {out:bh},(∀q,prev=some q->q=ZQ)->out.length<=aI->iH w lo hi prev ks cs out=some (ox lo hi aI out l):=by
 have jm:∀{a:Bytes} {b:Option Bytes} {c:Nat} {l ps prev},(∀q,prev=some q->q=a)->P a b c l ps->eF lo hi prev b=true->∀p∈l,mc lo hi p.1=false:=by
  intro a b c l ps prev hq hp hs p hm
  obtain ⟨b1,b2⟩:=cu.1 ((g _ _ _ _ _ hp).2 p hm)
  simp only[eF,qB]at hs
  rcases hs with hs|hs
  ·cases b with
   |none=>cases hs
   |some k =>
    simp only[wh]at hs
    have:=dC (b2 k rfl) hs
    simp[mc,this]
  ·cases prev with
   |none=>cases hs
   |some q =>
    have:=hq q rfl
    subst this
    simp only[zN,decide_eq_true_eq,wh]at hs
    have h2:al p.1 hi=false:=by
     by_cases e:al p.1 hi=true
     ·have:=ie b1 e;rw[hs.2]at this;cases this
     ·simpa using e
    simp[mc,h2,hs.1]
 have Wj:∀{a:Bytes} {b:Option Bytes} {c:Nat} {l ps prev},(∀q,prev=some q->q=a)->P a b c l ps->eF lo hi prev none=true->∀p∈l,mc lo hi p.1=false:=by
  intro a b c l ps prev hq hp hs p hm
  obtain ⟨b1,b2⟩:=cu.1 ((g _ _ _ _ _ hp).2 p hm)
  simp only[eF,Bool.false_or]at hs
  cases prev with
  |none=>cases hs
  |some q =>
   have:=hq q rfl
   subst this
   simp only[zN,decide_eq_true_eq,wh]at hs
   have h2:al p.1 hi=false:=by
    by_cases e:al p.1 hi=true
    ·have:=ie b1 e;rw[hs.2]at this;cases this
    ·simpa using e
   simp[mc,h2,hs.1]
 induction h with
 |one hp =>
  intro prev out hq ho
  rw[K9]
  by_cases hs:eF lo hi prev none=true
  ·rw[if_pos hs,rB ho (Wj hq hp hs)]
  ·rw[if_neg hs,hw _ _ _ _ _ _ hp ho]
 |cons hp hs ih =>
  rename_i k _ _ _ _ _ _ _ _
  intro prev out hq ho
  rw[<-Ej]
  rw[G3]
  by_cases hsk:eF lo hi prev (some k)=true
  ·rw[if_pos hsk,rB ho (jm hq hp hsk)]
   exact ih (by simp) ho
  ·rw[if_neg hsk,hw _ _ _ _ _ _ hp ho]
   exact ih (by simp) MH
theorem ye {rd:fx} (hz:rd 0=none) {lo hi:Bytes} {aI:Nat}:∀{h f a:Nat} {ZQ:Bytes} {shi:Option Bytes} {n:Nd} {l out:bh} {ps:List Nat},h<f->rd a=some ((dT n).toNat,ba n)->aw n<=492->n.keys≠[]->aB rd h ZQ shi n l ps->out.length<=aI ->
  bM rd lo hi aI f a out=some (ox lo hi aI out l)
 |h,f,a,ZQ,shi,n,l,out,ps,hf,hr,hs,hk,hn,ho=>by
  obtain ⟨f,rfl⟩:∃g,f=g+1:=⟨f-1,by omega⟩
  have ha:a≠0:=fun e=>by rw[e,hz]at hr;cases hr
  have QT:=hn.right hk
  unfold bM
  split
  ·rename_i h0
   rw[Bh ho (h0.resolve_left ha)]
  ·simp only[o8 hr QT hs]
   cases h with
   |zero =>
    obtain ⟨h1,h2,h3,vs,ia,h4,rfl,rfl⟩:=hn
    rw[if_pos h1]
    exact yA h4 (((aZ.of h2).leaf h1).1.symm) ho
   |succ h =>
    obtain ⟨a1,a2,a3,a4,a5⟩:=aB.succ.1 hn
    rw[if_neg (by rw[a1];simp)]
    exact Nm (fG rd h) (fun a b c l ps out ⟨k',q,r1,r2,r3,r4,r5,_⟩ ho=>ye hz (h:=h) (f:=f) (by omega) r1 r3 r4 r5 ho) a5 (by simp) ho
theorem KF {rd:fx} (hz:rd 0=none) {lo hi:Bytes} {aI:Nat} {d root l ps} (hd:d<=12) (hr:dt rd d root l ps):bM rd lo hi aI 12 root []=some ((l.filter fun p=>mc lo hi p.1).take aI):=by
 cases d with
 |zero=>obtain ⟨rfl,rfl,rfl⟩:=hr;simp[bM]
 |succ h =>
  obtain ⟨n,dl,h1,h2,h3,h4,h5,h6,rfl⟩:=hr
  rw[ye hz (by omega) h3 h4 h5 h6 (by simp)];simp[ox]
end Go.Bt
namespace Go.Bt
open Go.Ai
def uD (use:Bool) (p:PM):fx:=fun m=>if p.has m=true/\(use=true\/p.is m≠0) then p.rd m else none
theorem Io (p:PM):uD false p=p.read:=by funext m;simp[uD,PM.read]
structure DE (use:Bool) (s s':LK) (ps:List Nat):Prop where
 gen:s'.p.gen=s.p.gen
 pins:s'.p.pins=s.p.pins
 len:s'.p.st.length=s.p.st.length
 rd:s'.p.rd=s.p.rd
 met:∀m,m∈s'.met↔m∈ps\/m∈s.met
 off:use=false->s'.p=s.p
 on:use=true->∀m,(m∈ps->s'.p.is m=1)/\(m∉ps->s'.p.st.getD m (0,0)=s.p.st.getD m (0,0))
theorem DE.refl (use:Bool) (s s':LK) (h1:s'.p=s.p) (h2:s'.met=s.met):DE use s s' []:=⟨by rw[h1],by rw[h1],by rw[h1],by rw[h1],by simp[h2],fun _=>h1,fun _ m=>⟨by simp,fun _=>by rw[h1]⟩⟩
theorem DE.trans {use:Bool} {a b c:LK} {l m:List Nat} (h:DE use a b l) (k:DE use b c m):DE use a c (l++m):=by
 refine ⟨k.gen.trans h.gen,k.pins.trans h.pins,k.len.trans h.len,k.rd.trans h.rd,fun x => ?_,fun e=>(k.off e).trans (h.off e),fun e x=>⟨fun hx => ?_,fun hx => ?_⟩⟩
 ·rw[k.met,h.met,zJ];constructor
  ·rintro (a|a|a)
   ·exact .inl (.inr a)
   ·exact .inl (.inl a)
   ·exact .inr a
  ·rintro ((a|a)|a)
   ·exact .inr (.inl a)
   ·exact .inl a
   ·exact .inr (.inr a)
 ·by_cases hm:x∈m
  ·exact (k.on e x).1 hm
  ·rw[iq ((k.on e x).2 hm)]
   exact (h.on e x).1 ((zJ.1 hx).resolve_right hm)
 ·simp only[zJ,not_or]at hx
  exact ((k.on e x).2 hx.2).trans ((h.on e x).2 hx.1)
theorem DE.uD {use:Bool} {a b:LK} {l:List Nat} (h:DE use a b l):uD use b.p=uD use a.p:=by
 cases use with
 |false=>rw[h.off rfl]
 |true=>funext m;simp only[Bt.uD,has_eq h.len,h.rd,true_or]
theorem DE.read {use:Bool} {a b:LK} {l:List Nat} (h:DE use a b l) {m:Nat} (hm:m∈l):b.p.read m=Bt.uD use a.p m:=by
 cases use with
 |false=>rw[h.off rfl,Io]
 |true =>
  have:=(h.on rfl m).1 hm
  simp[PM.read,Bt.uD,has_eq h.len,h.rd,this]
def Kf (use:Bool) (s:LK) (ps:List Nat):Prop:=∀m∈ps,m∉s.met/\(use=true->s.p.is m=0)
theorem Kf.next {use:Bool} {a b:LK} {l ps:List Nat} (h:DE use a b l) (k:Kf use a ps) (hd:∀m∈l,m∉ps):Kf use b ps:=fun m hm=>by
 have hl:m∉l:=fun e=>hd m e hm
 refine ⟨fun e=>((h.met m).1 e).elim hl (k m hm).1,fun e => ?_⟩
 rw[iq ((h.on e m).2 hl)];exact (k m hm).2 e
theorem Iw {use:Bool} {s:LK} {n:Nat} (h1:n∉s.met) (h2:use=true->s.p.is n=0) (h3:s.p.has n=true):∃s',gw use s n=some s'/\DE use s s' [n]/\s'.leaf=s.leaf:=by
 unfold gw
 rw[if_neg h1]
 cases use with
 |false=>exact ⟨_,rfl,⟨rfl,rfl,rfl,rfl,by simp,fun _=>rfl,fun e=>by cases e⟩,rfl⟩
 |true =>
  have az:n<s.p.st.length:=by simp[PM.has]at h3;exact h3.2
  simp only[if_true,PM.use,h3,h2 rfl,and_self,qP]
  refine ⟨_,rfl,⟨rfl,rfl,by simp[PM.set],rfl,by simp,fun e=>(by cases e),fun _ m=>⟨fun hm => ?_,fun hm => ?_⟩⟩,rfl⟩
  ·simp only[wo]at hm;subst hm
   simp[PM.is,PM.set,az]
  ·simp only[wo]at hm
   simp only[PM.set,List.getD_eq_getElem?_getD]
   rw[we (Ne.symm hm)]
theorem Ip {use:Bool} {p:PM} {m:Nat} {x} (h:uD use p m=some x):p.has m=true:=by
 unfold uD at h
 split at h
 ·rename_i g;exact g.1
 ·cases h
theorem xH {p:PM} {m:Nat} (h:p.has m=true):2<=m/\m<p.st.length:=by simpa [PM.has] using h
theorem LX {use:Bool} {size:Nat} {rd:fx} {n:Nat} {v:Bytes} {ps:List Nat} (h:eO rd n v ps):∀{f:Nat} {acc:Bytes} {s:LK},uD use s.p=rd->ps.Nodup->Kf use s ps->ps.length<=f->acc.length+v.length=size ->
  ∃s',pL use size f n acc s=some s'/\DE use s s' ps/\s'.leaf=s.leaf:=by
 induction h with
 |nil=>intro f acc s hr hd ho hf hs;exact ⟨s,by cases f<;>simp at hs<;>simp[pL,hs],.refl _ _ _ rfl rfl,rfl⟩
 |cons hn h hb hs hf hr ih =>
  rename_i n next b t ps
  intro f acc s lC hd ho hl ew
  obtain ⟨f,rfl⟩:∃g,f=g+1:=⟨f-1,by simp at hl;omega⟩
  obtain ⟨n,rfl⟩:∃m,n=m+1:=⟨n-1,by omega⟩
  have hr4:aA (aO next 4)=next:=fp 4 next (by omega)
  have hlen:¬(aO next 4++b).length<5:=by rw[zG,li];have:=zt.2 hs;omega
  rw[zp]at hd
  have IN:uD use s.p (n+1)=some (3,aO next 4++b):=by rw[lC];exact h
  obtain ⟨s1,e1,k1,k2⟩:=Iw (ho (n+1) (by simp)).1 (ho (n+1) (by simp)).2 (Ip IN)
  have aeF:s1.p.read (n+1)=some (3,aO next 4++b):=by rw[k1.read (by simp)];exact IN
  obtain ⟨s2,e2,j1,j2⟩:=ih (f:=f) (acc:=acc++b) (s:=s1) (by rw[k1.uD];exact lC) hd.2 (Kf.next k1 (fun m hm=>ho m (by simp[hm])) (by simpa using hd.1)) (by simp at hl;omega) (by simp at ew ⊢;omega)
  refine ⟨s2,?_,k1.trans j1,j2.trans k2⟩
  simp only[pL,e1,aeF,Tj,UD,hr4]
  rw[if_neg (by simp only[ne_eq,not_true,false_or];exact hlen),if_neg (by rintro (e|e);exact e.2 (hf e.1);simp at e ew;omega)]
  exact e2
theorem uH {use:Bool} {rd:fx}:∀{items:List bD} {vs:List Bytes} {ia:List (List Nat)} {s:LK},fv rd items vs ia->uD use s.p=rd->ia.flatten.Nodup->Kf use s ia.flatten->∃s',iI use items s=some s'/\DE use s s' ia.flatten/\s'.leaf=s.leaf
 |[],vs,ia,s,hv,hr,hd,ho=>by
  have:ia=[]:=zf.1 (by rw[hv.2.1];rfl)
  subst this
  exact ⟨s,rfl,.refl _ _ _ rfl rfl,rfl⟩
 |x::items,[],ia,s,hv,hr,hd,ho=>by have:=hv.1;simp at this
 |x::items,v::vs,[],s,hv,hr,hd,ho=>by have:=hv.2.1;simp at this
 |x::items,v::vs,qs::ia,s,hv,hr,hd,ho=>by
  have h0:lZ rd x v qs:=hv.2.2 0 (by simp) (by simp) (by simp)
  have ht:fv rd items vs ia:=⟨by simpa using hv.1,by simpa using hv.2.1,fun i a b c=>hv.2.2 (i+1) (by simp;omega) (by simp;omega) (by simp;omega)⟩
  rw[wg]at hd ho ⊢
  rw[zq]at hd
  obtain ⟨d1,d2,d3⟩:=hd
  simp only[iI]
  by_cases hp:x.p=0
  ·rw[if_pos hp]
   rcases h0 with ⟨_,_,rfl⟩|⟨h0,_⟩
   ·exact uH ht hr d2 (fun m hm=>ho m (by simp[hm]))
   ·omega
  ·rw[if_neg hp]
   rcases h0 with ⟨h0,_⟩|⟨h0,h1,h2⟩
   ·exact absurd h0 hp
   ·obtain ⟨s1,e1,k1,k2⟩:=LX (use:=use) (size:=x.s.toNat) h1 (f:=x.s.toNat+1) (acc:=[]) hr d1 (fun m hm=>ho m (by simp[hm])) (by have:=(nK h1).2;omega) (by simp;omega)
    obtain ⟨s2,e2,j1,j2⟩:=uH (s:=s1) ht (by rw[k1.uD];exact hr) d2 (Kf.next k1 (fun m hm=>ho m (by simp[hm])) fun m hm rJ=>d3 m hm m rJ rfl)
    exact ⟨s2,by rw[e1];exact e2,k1.trans j1,j2.trans k2⟩
theorem KR {rd:fx} {h lo hi n l ps} (hn:aB rd h lo hi n l ps):n.keys.all (xD lo hi)=true:=by
 rw[zQ]
 cases h with
 |zero=>exact hn.2.2.1
 |succ h =>
  obtain ⟨a1,a2,a3,a4,a5⟩:=aB.succ.1 hn
  intro k hk
  obtain ⟨b1,b2⟩:=(oO (fG rd h) a5).2.1 k hk
  exact cu.2 ⟨eZ b1,b2⟩
theorem Nn {use:Bool} {rd:fx} {P:ff} {D:Nat} {w:Nat->Bytes->Option Bytes->LK->Option LK}
  (hw:∀lo hi c l ps s,uD use s.p=rd->P lo hi c l ps->ps.Nodup->Kf use s ps->(s.leaf=0\/s.leaf=D)->∃s',w c lo hi s=some s'/\DE use s s' ps/\s'.leaf=D) {lo hi ks cs l ps} (h:oo P lo hi ks cs l ps) :
  ∀{s:LK},uD use s.p=rd->ps.Nodup->Kf use s ps->(s.leaf=0\/s.leaf=D)->∃s',kE w hi lo ks cs s=some s'/\DE use s s' ps/\s'.leaf=D:=by
 induction h with
 |one hp =>
  intro s hr hd ho hl
  obtain ⟨s',e,k1,k2⟩:=hw _ _ _ _ _ _ hr hp hd ho hl
  exact ⟨s',by simp only[kE,e],k1,k2⟩
 |cons hp hs ih =>
  intro s hr hd ho hl
  rw[zq]at hd
  obtain ⟨d1,d2,d3⟩:=hd
  obtain ⟨s1,e1,k1,k2⟩:=hw _ _ _ _ _ _ hr hp d1 (fun m hm=>ho m (by simp[hm])) hl
  obtain ⟨s2,e2,j1,j2⟩:=ih (s:=s1) (by rw[k1.uD];exact hr) d2 (Kf.next k1 (fun m hm=>ho m (by simp[hm])) fun m hm rJ=>d3 m hm m rJ rfl) (.inr k2)
  exact ⟨s2,by simp only[kE,e1];exact e2,k1.trans j1,j2⟩
theorem look_ok {use:Bool} {rd:fx}:∀{h f a deep:Nat} {lo:Bytes} {hi:Option Bytes} {n:Nd} {l:bh} {ps:List Nat} {s:LK},h<f->uD use s.p=rd->rd a=some ((dT n).toNat,ba n)->(1<deep->123<=aw n)->aw n<=492->n.keys≠[]->aB rd h lo hi n l ps->(a::ps).Nodup->Kf use s (a::ps)->(s.leaf=0\/s.leaf=deep+h) ->
  ∃s',iG use f a deep lo hi s=some s'/\DE use s s' (a::ps)/\s'.leaf=deep+h
 |h,f,a,deep,lo,hi,n,l,ps,s,hf,lC,hr,h1,h2,hk,hn,hd,ho,hl=>by
  obtain ⟨f,rfl⟩:∃g,f=g+1:=⟨f-1,by omega⟩
  rw[zp]at hd
  have QT:=hn.right hk
  have Ay:uD use s.p a=some ((dT n).toNat,ba n):=by rw[lC];exact hr
  obtain ⟨s1,e1,k1,k2⟩:=Iw (ho a (by simp)).1 (ho a (by simp)).2 (Ip Ay)
  have aa1:fS s1.p.read a=some n:=o8 (by rw[k1.read (by simp)];exact Ay) QT h2
  have T1:Kf use s1 ps:=Kf.next k1 (fun m hm=>ho m (by simp[hm])) (by simpa using hd.1)
  have c1:¬((1<deep/\aw n<123)\/n.keys=[]):=by rintro (⟨e,g⟩|e);have:=h1 e;omega;exact hk e
  simp only[iG,e1,aa1]
  rw[if_neg c1,if_neg (by rw[KR hn];simp)]
  cases h with
  |zero =>
   obtain ⟨q1,q2,q3,vs,ia,q4,rfl,rfl⟩:=hn
   rw[if_pos q1,if_neg (by rw[k2];rintro ⟨e,g⟩;omega)]
   obtain ⟨s2,e2,j1,j2⟩:=uH (use:=use) (s:=⟨s1.p,s1.met,deep⟩) q4 (by show uD use s1.p=rd;rw[k1.uD];exact lC) hd.2 T1
   refine ⟨s2,e2,?_,j2⟩
   have:DE use s1 ⟨s1.p,s1.met,deep⟩ []:=.refl _ _ _ rfl rfl
   exact k1.trans (this.trans j1)
  |succ h =>
   obtain ⟨a1,a2,a3,a4,a5⟩:=aB.succ.1 hn
   rw[if_neg (by rw[a1];simp)]
   have hw:∀lo hi c l ps s,uD use s.p=rd->fK rd (aB rd h) lo hi c l ps->ps.Nodup->Kf use s ps->(s.leaf=0\/s.leaf=deep+(h+1))->∃s',iG use f c (deep+1) lo hi s=some s'/\DE use s s' ps/\s'.leaf=deep+(h+1):=by
    rintro lo hi c l ps s hr ⟨k',q,r1,r2,r3,r4,r5,rfl⟩ hd ho hl
    obtain ⟨s',g1,g2,g3⟩:=look_ok (h:=h) (f:=f) (deep:=deep+1) (by omega) hr r1 (fun _=>r2) r3 r4 r5 hd ho (hl.imp id fun e=>by omega)
    exact ⟨s',g1,g2,by omega⟩
   obtain ⟨s2,e2,j1,j2⟩:=Nn hw a5 (s:=s1) (by rw[k1.uD];exact lC) hd.2 T1 (by rw[k2];exact hl)
   exact ⟨s2,e2,k1.trans j1,j2⟩
theorem QE {p:PM} {d root l ps} (hd:d<=12) (hr:dt (uD true p) d root l ps) (hn:ps.Nodup) (h0:∀m∈ps,p.is m=0):∃p',sf true p root=some p'/\p'.rd=p.rd/\p'.gen=p.gen/\p'.pins=p.pins/\p'.st.length=p.st.length/\∀m,(m∈ps->p'.is m=1)/\(m∉ps->p'.st.getD m (0,0)=p.st.getD m (0,0)):=by
 cases d with
 |zero=>obtain ⟨rfl,rfl,rfl⟩:=hr;exact ⟨p,by simp[sf],rfl,rfl,rfl,rfl,by simp⟩
 |succ h =>
  obtain ⟨n,dl,h1,h2,h3,h4,h5,h6,rfl⟩:=hr
  obtain ⟨s',e,k1,k2⟩:=look_ok (use:=true) (f:=12) (deep:=1) (s:=⟨p,[],0⟩) (by omega) rfl h3 (by omega) h4 h5 h6 hn (fun m hm=>⟨by simp,fun _=>h0 m hm⟩) (.inl rfl)
  exact ⟨s'.p,by simp[sf,e,show root≠0 by omega],k1.rd,k1.gen,k1.pins,k1.len,fun m=>k1.on rfl m⟩
theorem HX {p:PM} {d root l ps} (hd:d<=12) (hr:dt p.read d root l ps) (hn:ps.Nodup):sf false p root=some p:=by
 cases d with
 |zero=>obtain ⟨rfl,rfl,rfl⟩:=hr;simp[sf]
 |succ h =>
  obtain ⟨n,dl,h1,h2,h3,h4,h5,h6,rfl⟩:=hr
  obtain ⟨s',e,k1,k2⟩:=look_ok (use:=false) (rd:=p.read) (f:=12) (deep:=1) (s:=⟨p,[],0⟩) (by omega) (Io p) h3 (by omega) h4 h5 h6 hn (fun m hm=>⟨by simp,fun e=>by cases e⟩) (.inl rfl)
  simp[sf,e,show root≠0 by omega,k1.off rfl]
end Go.Bt
namespace Go.Bt
open Go.Ai
theorem U5 {a b:bh}:Up (a++b)↔Up a/\Up b/\∀p∈a,∀q∈b,al p.1 q.1=true:=List.pairwise_append
theorem Vf {P:ff} (g:Good P) (hu:∀lo hi c l ps,P lo hi c l ps->Up l) {lo hi ks cs l ps} (h:oo P lo hi ks cs l ps):Up l:=by
 induction h with
 |one h=>exact hu _ _ _ _ _ h
 |cons h hs ih =>
  rename_i lo k hi c l ps ks cs l' dl
  refine U5.2 ⟨hu _ _ _ _ _ h,ih,fun p hp q hq => ?_⟩
  exact dC ((cu.1 ((g _ _ _ _ _ h).2 p hp)).2 k rfl) (cu.1 ((oO g hs).1.2 q hq)).1
theorem aB.up {rd:fx}:∀{h:Nat} {lo hi n l ps},aB rd h lo hi n l ps->Up l
 |0,lo,hi,n,l,ps,⟨h1,h2,h3,vs,ia,h4,h5,h6⟩=>by rw[h5];exact UY (dR h2)
 |h+1,lo,hi,n,l,ps,hn=>Vf (fG rd h) (fun lo hi c l ps ⟨k',q,r1,r2,r3,r4,r5,_⟩=>r5.up) (aB.succ.1 hn).2.2.2.2
theorem dt.up {rd:fx} {d root l ps} (k:dt rd d root l ps):Up l:=by
 cases d with
 |zero=>obtain ⟨_,rfl,_⟩:=k;exact .nil
 |succ h=>obtain ⟨n,dl,h1,h2,h3,h4,h5,h6,rfl⟩:=k;exact h6.up
theorem dt.DS {rd:fx} {d root l ps} (k:dt rd d root l ps):(root=0↔l=[])/\(d=0↔l=[]):=by
 cases d with
 |zero=>obtain ⟨rfl,rfl,rfl⟩:=k;simp
 |succ h =>
  obtain ⟨n,dl,h1,h2,h3,h4,h5,h6,rfl⟩:=k
  have:=(h6.Xk fun _=>h5).1
  exact ⟨⟨fun e=>by omega,fun e=>absurd e this⟩,⟨fun e=>by omega,fun e=>absurd e this⟩⟩
def gC (k v:Bytes):bh->Bool->bh
 |[],put=>if put=true then [] else [(k,v)]
 |p::r,put=>(if put=false/\al p.1 k=false then [(k,v)] else [])++((if p.1≠k then [p] else [])++gC k v r (put || !al p.1 k))
def bJ (k:Bytes) (l:bh):bh:=l.filter fun p=>decide (p.1≠k)
theorem x7 (k v:Bytes):∀{l:bh},gC k v l true=bJ k l
 |[]=>rfl
 |p::r=>by
  simp only[gC,Bool.true_eq_false,false_and,if_false,zh,Bool.true_or,x7 k v (l:=r),bJ,qE]
  by_cases h:p.1=k<;>simp[h]
theorem B7 {p:Bytes×Bytes} {l:bh}:Up (p::l)↔(∀q∈l,al p.1 q.1=true)/\Up l:=List.pairwise_cons
theorem sJ {k:Bytes}:∀{l:bh},Up l->bJ k l=xQ k [] l
 |[],_=>rfl
 |p::r,h=>by
  obtain ⟨h1,h2⟩:=B7.1 h
  have ih:=sJ (k:=k) h2
  simp only[bJ,xQ,qE,zT]at ih ⊢
  cases az:al p.1 k with
  |true =>
   have bt:=mu az
   have pB:=j5 az
   simp only[bt,pB,ne_eq,not_false_eq_true,decide_true,if_true,zK,if_false]
   exact congrArg (p :: ·) ih
  |false =>
   have hz:r.filter (fun p=>al p.1 k)=[]:=wC.2 fun q hq e=>by
    have:=ie az (cK (h1 q hq) e)
    rw[bc]at this;cases this
   rw[hz]at ih ⊢
   simp only[zh]at ih ⊢
   by_cases he:p.1=k
   ·simp only[he,ne_eq,not_true,decide_false,bc,zK,if_false]
    exact ih
   ·have pB:=pc az (Ne.symm he)
    simp only[he,pB,ne_eq,not_false_eq_true,decide_true,if_true,zK,if_false,ih,zh]
theorem sI {k v:Bytes}:∀{l:bh},Up l->gC k v l false=xQ k [(k,v)] l
 |[],_=>rfl
 |p::r,h=>by
  obtain ⟨h1,h2⟩:=B7.1 h
  have ih:=sI (k:=k) (v:=v) h2
  cases az:al p.1 k with
  |true =>
   have bt:=mu az
   have pB:=j5 az
   simp only[gC,az,Bool.true_eq_false,and_false,if_false,zh,jN,Bool.or_false,ih,bt,ne_eq,not_false_eq_true,if_true]
   simp only[xQ,qE,az,pB,if_true,zK,if_false]
   rfl
  |false =>
   simp only[gC,az,and_self,if_true,jM,Bool.or_true,x7]
   have hz:r.filter (fun p=>al p.1 k)=[]:=wC.2 fun q hq e=>by
    have:=ie az (cK (h1 q hq) e)
    rw[bc]at this;cases this
   have hd:=sJ (k:=k) h2
   simp only[xQ,hz,zh,zT]at hd
   simp only[xQ,qE,az,hz,zK,if_false,zh]
   rw[hd]
   by_cases he:p.1=k
   ·simp only[he,ne_eq,not_true,if_false,bc,zK,zh]
   ·have pB:=pc az (Ne.symm he)
    simp only[he,pB,ne_eq,not_false_eq_true,if_true]
    rfl
theorem M7 {k v:Bytes} {l:bh}:look (xQ k [(k,v)] l) k=some v:=by
 have h0:look (l.filter fun p=>al p.1 k) k=none:=rG fun p hp e=>by
  have:=(List.mem_filter.1 hp).2
  rw[e,bc]at this;cases this
 simp only[xQ,zF]
 rw[tL,h0,tL]
 simp[look]
theorem Eu {l:bh} {k:Bytes}:(look l k).isSome=true↔∃p∈l,p.1=k:=by
 simp only[look,Option.isSome_map,List.find?_isSome,decide_eq_true_eq]
theorem Eh {l:bh} {k:Bytes} (h:look l k=none):bJ k l=l:=by
 refine wX.2 fun p hp => ?_
 have:¬(look l k).isSome=true:=by rw[h];simp
 rw[Eu]at this
 simp only[ne_eq,decide_not,wh,decide_eq_false_iff_not]
 exact fun e=>this ⟨p,hp,e⟩
theorem x9 {k:Bytes}:∀{l:bh},Up l->(look l k).isSome=true->(bJ k l).length+1=l.length
 |[],_,h=>by simp[look]at h
 |p::r,hu,h=>by
  obtain ⟨h1,h2⟩:=B7.1 hu
  by_cases he:p.1=k
  ·have:bJ k r=r:=wX.2 fun q hq=>by
    have:=mu (h1 q hq)
    simp only[ne_eq,decide_not,wh,decide_eq_false_iff_not]
    intro e;exact this (he.trans e.symm)
   simp only[bJ]at this
   simp only[bJ,qE,he,ne_eq,not_true,decide_false,zK,if_false,zV]
   rw[this]
  ·have hr:(look r k).isSome=true:=by
    simp only[look,List.find?_cons,he,decide_false]at h ⊢;exact h
   have:=x9 h2 hr
   have e:bJ k (p::r)=p::bJ k r:=by simp[bJ,qE,he]
   rw[e,zV,zV,this]
theorem getD_map {α:Type} {f:α->α} {d:α} (hf:f d=d) (l:List α) (m:Nat):(l.map f).getD m d=f (l.getD m d):=by
 simp only[List.getD_eq_getElem?_getD,zM]
 cases l[m]? with
 |none=>simp[hf]
 |some x=>rfl
theorem uU (p:PM) (m:Nat):p.ch.st.getD m (0,0)=cP p.low (cR (p.gen+1) (p.st.getD m (0,0))):=by
 simp only[PM.ch]
 rw[getD_map (by simp[cP]),getD_map (by simp[cR])]
theorem FN (p:PM) (m:Nat):p.gP.st.getD m (0,0)=eA (p.st.getD m (0,0)):=by
 simp only[PM.gP]
 rw[getD_map (by simp[eA])]
theorem Kr (g low:Nat) (s:Nat×Nat):(cP low (cR g s)).1=if s.1=1\/s.1=2 then 1 else if s.1=3 then (if g<=low then 0 else 4) else if s.1=4 then (if s.2<=low then 0 else 4) else s.1:=by
 obtain ⟨a,b⟩:=s
 simp only[cP,cR]
 by_cases h2:a=2
 ·subst h2;simp
 ·by_cases h3:a=3
  ·subst h3;simp;split<;>rfl
  ·by_cases h4:a=4
   ·subst h4;simp;split<;>rfl
   ·simp only[h2,h3,h4,if_false,false_and,or_false]
    by_cases h1:a=1<;>simp[h1]
theorem Ea (g low:Nat) (s:Nat×Nat) (h:s.1=3) (hg:¬g<=low):cP low (cR g s)=(4,g):=by
 obtain ⟨a,b⟩:=s
 simp only at h;subst h
 simp[cP,cR,hg]
theorem Eb (g low:Nat) (s:Nat×Nat) (h:s.1=4) (hg:¬s.2<=low):cP low (cR g s)=s:=by
 obtain ⟨a,b⟩:=s
 simp only at h hg;subst h
 simp[cP,cR,hg]
theorem HY (s:Nat×Nat) (h:s.1=4):eA s=s:=by
 obtain ⟨a,b⟩:=s
 simp only at h;subst h
 simp[eA]
theorem jz (p:PM) (m:Nat):p.ch.is m=if p.is m=1\/p.is m=2 then 1 else if p.is m=3 then (if p.gen+1<=p.low then 0 else 4) else if p.is m=4 then (if (p.st.getD m (0,0)).2<=p.low then 0 else 4) else p.is m:=by
 simp only[PM.is,uU]
 exact Kr _ _ _
theorem L5 (s:Nat×Nat):(eA s).1=if s.1=2 then 0 else if s.1=3 then 1 else s.1:=by
 obtain ⟨a,b⟩:=s
 simp only[eA]
 by_cases h2:a=2
 ·simp[h2]
 ·by_cases h3:a=3
  ·simp[h3]
  ·simp[h2,h3]
theorem ls (p:PM) (m:Nat):p.gP.is m=if p.is m=2 then 0 else if p.is m=3 then 1 else p.is m:=by
 simp only[PM.is,FN]
 exact L5 _
theorem gZ (p:PM):p.ch.st.length=p.st.length:=by simp[PM.ch]
theorem k7 (p:PM):p.gP.st.length=p.st.length:=by simp[PM.gP]
theorem ry {p p':PM} {m:Nat} (hl:p'.st.length=p.st.length) (hr:p'.rd=p.rd) (h1:p.is m≠0) (h2:p'.is m≠0):p'.read m=p.read m:=by
 simp only[PM.read,has_eq hl,hr]
 by_cases h:p.has m=true
 ·rw[if_pos ⟨h,h2⟩,if_pos ⟨h,h1⟩]
 ·rw[if_neg (fun e=>h e.1),if_neg (fun e=>h e.1)]
structure Inv (p:PM) (root:Nat) (l:bh) (du:Nat) (cJ:bh):Prop where
 len:p.st.length<=300
 OM:∃d ps,dt p.read d root l ps/\Own p ps
 com:∃d ps,dt p.read d du cJ ps/\Com p ps
 top:∀m,p.is m<=4
 wait:p.pins=[]->∀m,p.is m≠4
 pin:∀g∈p.pins,g<=p.gen
def Kept (p:PM) (g root:Nat) (l:bh):Prop:=∃d ps,d<=8/\dt p.read d root l ps/\ps.Nodup/\∀m∈ps,p.is m=1\/p.is m=3\/(p.is m=4/\g<(p.st.getD m (0,0)).2)
theorem Im (p:PM):p.read 0=none:=by simp[PM.read,PM.has]
theorem Step.keeps {p p':PM} (h:Step p p') {g root l} (k:Kept p g root l):Kept p' g root l:=by
 obtain ⟨d,ps,hd,hr,hn,hs⟩:=k
 refine ⟨d,ps,hd,hr.move fun m hm => ?_,hn,fun m hm => ?_⟩
 ·have:=hs m hm;exact h.read (by omega) (by omega)
 ·have h0:=hs m hm
  rcases h.at' m with ⟨a,b⟩|⟨a,b⟩|⟨a,b,c⟩
  ·rw[iq a,a];exact h0
  ·simp only[sD]at a;omega
  ·exact .inr (.inl b)
theorem Step.inv {p p':PM} (h:Step p p') {root l du cJ root' l'} (k:Inv p root l du cJ) (hc:∃d ps,dt p'.read d root' l' ps/\Own p' ps):Inv p' root' l' du cJ:=by
 obtain ⟨d,ps,hr,hcm⟩:=k.com
 have h4:∀m,p'.is m<=4/\(p'.is m=4->p.is m=4):=fun m=>by
  have:=k.top m
  rcases h.at' m with ⟨a,b⟩|⟨a,b⟩|⟨a,b,c⟩
  ·rw[iq a];exact ⟨this,id⟩
  ·simp only[sD]at b;omega
  ·omega
 refine ⟨by rw[h.len];exact k.len,hc,⟨d,ps,hr.move fun m hm => ?_,h.com hcm⟩,fun m=>(h4 m).1,fun e m e4=>k.wait (by rw[<-h.pins];exact e) m ((h4 m).2 e4),by rw[h.pins,h.gen];exact k.pin⟩
 have:=((hcm.2 m).1 hm).2
 exact h.read (by omega) (by omega)
theorem HK {p:PM} {root l du cJ} (k:Inv p root l du cJ) (hg:p.gen+1<=9223372036854775807):Inv p.ch root l root l:=by
 obtain ⟨d,ps,hr,ho⟩:=k.OM
 have sr:dt p.ch.read d root l ps:=hr.move fun m hm=>by
  have:=((ho.2 m).1 hm).2
  exact ry (gZ p) rfl (by omega) (by rw[jz,if_pos this];omega)
 have WK:∀m,(p.ch.is m=1\/p.ch.is m=2)↔(p.is m=1\/p.is m=2):=fun m=>by
  rw[jz];have:=k.top m;(repeat' split)<;>omega
 have DM:∀m,(p.ch.is m=1\/p.ch.is m=3)↔(p.is m=1\/p.is m=2):=fun m=>by
  rw[jz];have:=k.top m;(repeat' split)<;>omega
 refine ⟨by rw[gZ];exact k.len,⟨d,ps,sr,ho.1,fun m => ?_⟩,⟨d,ps,sr,ho.1,fun m => ?_⟩,fun m => ?_,fun e m => ?_,fun g hgp => ?_⟩
 ·rw[has_eq (gZ p),WK];exact ho.2 m
 ·rw[has_eq (gZ p),DM];exact ho.2 m
 ·rw[jz];have:=k.top m;(repeat' split)<;>omega
 ·have hl:p.low=9223372036854775807:=by
   have:p.pins=[]:=e
   simp[PM.low,this]
  have:=k.wait e m
  rw[jz,hl,if_pos hg];(repeat' split)<;>omega
 ·have:=k.pin g hgp
  show g<=p.gen+1
  omega
theorem foldl_min (l:List Nat):∀a:Nat,l.foldl Nat.min a<=a/\∀g∈l,l.foldl Nat.min a<=g:=by
 induction l with
 |nil=>intro a;simp
 |cons x l ih =>
  intro a
  obtain ⟨h1,h2⟩:=ih (Nat.min a x)
  have h3:Nat.min a x<=a:=Nat.min_le_left a x
  have h4:Nat.min a x<=x:=Nat.min_le_right a x
  refine ⟨wF h1 h3,fun g hg => ?_⟩
  rcases zH.1 hg with rfl|hg
  ·exact wF h1 h4
  ·exact h2 g hg
theorem Dn {p:PM} {g root l} (k:Kept p g root l) (hp:g∈p.pins) (hg:g<=p.gen) (R1:∀m,p.is m<=4):Kept p.ch g root l:=by
 obtain ⟨d,ps,hd,hr,hn,hs⟩:=k
 have tP:p.low<=g:=(foldl_min p.pins _).2 g hp
 have hng:¬p.gen+1<=p.low:=by omega
 have bU:∀m∈ps,p.ch.is m=1\/p.ch.is m=3\/(p.ch.is m=4/\g<(p.ch.st.getD m (0,0)).2):=fun m hm=>by
  rcases hs m hm with h|h|⟨h,h'⟩
  ·left;rw[jz,if_pos (.inl h)]
  ·right;right
   have e:=Ea (p.gen+1) p.low (p.st.getD m (0,0)) h hng
   simp only[PM.is,uU,e,true_and]
   omega
  ·right;right
   have e:=Eb (p.gen+1) p.low (p.st.getD m (0,0)) h (by omega)
   simp only[PM.is]at h
   simp only[PM.is,uU,e,h,true_and]
   exact h'
 refine ⟨d,ps,hd,hr.move fun m hm => ?_,hn,bU⟩
 have h1:=hs m hm
 have h2:=bU m hm
 exact ry (gZ p) rfl (by omega) (by omega)
theorem L4 {p:PM} {root l du cJ} (k:Inv p root l du cJ):Inv p.gP du cJ du cJ:=by
 obtain ⟨d,ps,hr,hc⟩:=k.com
 have sr:dt p.gP.read d du cJ ps:=hr.move fun m hm=>by
  have:=((hc.2 m).1 hm).2
  exact ry (k7 p) rfl (by omega) (by rw[ls];(repeat' split)<;>omega)
 have WK:∀m,(p.gP.is m=1\/p.gP.is m=2)↔(p.is m=1\/p.is m=3):=fun m=>by rw[ls];(repeat' split)<;>omega
 have DM:∀m,(p.gP.is m=1\/p.gP.is m=3)↔(p.is m=1\/p.is m=3):=fun m=>by rw[ls];(repeat' split)<;>omega
 refine ⟨by rw[k7];exact k.len,⟨d,ps,sr,hc.1,fun m => ?_⟩,⟨d,ps,sr,hc.1,fun m => ?_⟩,fun m => ?_,fun e m => ?_,k.pin⟩
 ·rw[has_eq (k7 p),WK];exact hc.2 m
 ·rw[has_eq (k7 p),DM];exact hc.2 m
 ·rw[ls];have:=k.top m;(repeat' split)<;>omega
 ·rw[ls];have:=k.wait e m;(repeat' split)<;>omega
theorem FO {p:PM} {g root l} (k:Kept p g root l):Kept p.gP g root l:=by
 obtain ⟨d,ps,hd,hr,hn,hs⟩:=k
 have bU:∀m∈ps,p.gP.is m=1\/p.gP.is m=3\/(p.gP.is m=4/\g<(p.gP.st.getD m (0,0)).2):=fun m hm=>by
  rcases hs m hm with h|h|⟨h,h'⟩
  ·left;rw[ls,if_neg (by omega),if_neg (by omega)];exact h
  ·left;rw[ls,if_neg (by omega),if_pos h]
  ·right;right
   simp only[PM.is,FN,HY _ h]at h ⊢
   exact ⟨h,h'⟩
 refine ⟨d,ps,hd,hr.move fun m hm => ?_,hn,bU⟩
 have h1:=hs m hm
 have h2:=bU m hm
 exact ry (k7 p) rfl (by omega) (by omega)
def PM.se (p:PM) (gen:Nat) (rd:fx):PM:=⟨gen,p.st.map fun _=>(0,0),rd,[]⟩
theorem J7 (p:PM) (gen:Nat) (rd:fx) (m:Nat):(p.se gen rd).is m=0:=by
 simp only[PM.is,PM.se]
 have:(p.st.map fun _=>((0,0):Nat×Nat)).getD m (0,0)=(0,0):=by
  simp only[List.getD_eq_getElem?_getD,zM]
  cases p.st[m]?<;>rfl
 rw[this]
theorem QC {p:PM} {root l} (k:Inv p root l root l) (hp:p.pins=[]) (bU:∀m,p.is m=0\/p.is m=1) {gen:Nat} {rd:fx} (lC:∀m,p.has m=true->rd m=p.rd m) :
  ∃q,sf true (p.se gen rd) root=some q/\Inv q root l root l/\q.free=p.free/\q.gen=gen/\q.pins=[]/\q.st.length=p.st.length/\q.rd=rd:=by
 obtain ⟨d,ps,hr,ho⟩:=k.OM
 have hd:=gU hr ho k.len
 have hlen:(p.se gen rd).st.length=p.st.length:=by simp[PM.se]
 have YA:dt (uD true (p.se gen rd)) d root l ps:=hr.move fun m hm=>by
  obtain ⟨h1,h2⟩:=(ho.2 m).1 hm
  simp only[uD,has_eq hlen,h1,true_or,and_self,if_true,PM.read]
  rw[if_pos ⟨trivial,by omega⟩]
  exact lC m h1
 obtain ⟨q,e,q1,q2,q3,q4,q5⟩:=QE (by omega) YA ho.1 fun m _=>J7 p gen rd m
 have hq:∀m,q.is m=if m∈ps then 1 else 0:=fun m=>by
  by_cases hm:m∈ps
  ·rw[(q5 m).1 hm,if_pos hm]
  ·rw[iq ((q5 m).2 hm),if_neg hm,J7]
 have hpq:∀m,q.is m=1↔m∈ps:=fun m=>by rw[hq];split<;>simp_all
 have pu:Own q ps:=⟨ho.1,fun m=>by
  constructor
  ·intro hm
   exact ⟨by rw[has_eq (q4.trans hlen)];exact ((ho.2 m).1 hm).1,.inl ((hpq m).2 hm)⟩
  ·rintro ⟨_,h⟩
   rw[hq]at h;split at h
   ·assumption
   ·omega⟩
 have afd:Com q ps:=⟨ho.1,fun m=>by
  rw[pu.2 m]
  have:(q.is m=1\/q.is m=2)↔(q.is m=1\/q.is m=3):=by rw[hq];split<;>omega
  rw[this]⟩
 have Hb:dt q.read d root l ps:=hr.move fun m hm=>by
  obtain ⟨h1,h2⟩:=(ho.2 m).1 hm
  simp only[PM.read,has_eq (q4.trans hlen),h1,(hpq m).2 hm,q1,true_and]
  rw[if_pos (by omega),if_pos (by omega)]
  exact lC m h1
 refine ⟨q,e,⟨by rw[q4,hlen];exact k.len,⟨d,ps,Hb,pu⟩,⟨d,ps,Hb,afd⟩,fun m=>by rw[hq];split<;>omega,fun _ m=>by rw[hq];split<;>omega,by rw[q3];simp[PM.se]⟩,?_,q2,q3,q4.trans hlen,q1⟩
 unfold PM.free
 rw[q4.trans hlen]
 congr 1
 refine List.filter_congr fun m hm => ?_
 by_cases h2:2<=m
 ·have hh:p.has m=true:=by simp[PM.has,h2,wL.1 hm]
  have e1:q.is m=0↔p.is m=0:=by
   rw[hq]
   have:=ho.2 m
   have:=bU m
   split
   ·rename_i hm
    have:=((ho.2 m).1 hm).2
    omega
   ·rename_i hm
    have:¬(p.is m=1\/p.is m=2):=fun e=>hm ((ho.2 m).2 ⟨hh,e⟩)
    omega
  simp only[h2,decide_true,Bool.true_and]
  exact decide_eq_decide.2 e1
 ·simp[h2]
theorem Dp {p:PM} {root l du cJ} (k:Inv p root l du cJ) (hp:p.pins=[]) (hg:p.gen+1<=9223372036854775807):∀m,p.ch.is m=0\/p.ch.is m=1:=fun m=>by
 have h1:=k.top m
 have h2:=k.wait hp m
 have hl:p.low=9223372036854775807:=by simp[PM.low,hp]
 rw[jz,hl,if_pos hg];(repeat' split)<;>omega
end Go.Bt
namespace Go.Ai
open Go.Bt
structure Gg (hp:Heap) (nx rt rp rd:Nat) (F:List Nat) (p:PM) (root:Bs) (view:Nat->Bs) (B:Nat):Prop where
 row:∃c,hp rt=some [.ptr rp 0 0::c]
 lt:rt<nx
 pg:ja hp nx rp rd F p root view B
 hB:B<=1000000000
theorem Gg.ro {hp nx hp' nx' rt rp rd F p root view B} (h:Gg hp nx rt rp rd F p root view B) (k:Ro hp nx hp' nx'):Gg hp' nx' rt rp rd F p root view B:=by
 obtain ⟨c,hc⟩:=h.row
 exact ⟨⟨c,by rw[k.ah rt h.lt];exact hc⟩,zU h.lt k.le,h.pg.ro k,h.hB⟩
theorem MP {b:Bs} {k g:Nat} {s:Bs} (h:mA b=some (k,g,s)):s.length<=492/\k<=255:=by
 unfold mA at h
 split at h
 ·cases h
 ·split at h
  ·rename_i h1 h2
   simp only[zOi,zPi]at h
   obtain ⟨rfl,rfl,rfl⟩:=h
   have:=rA (b:=b) (i:=2) (n:=1) rfl
   exact ⟨by simp;omega,by omega⟩
  ·cases h
theorem ja.Cu {hp nx rp rd F p root view B} (h:ja hp nx rp rd F p root view B) {n k:Nat} {s:Bs} (e:p.read n=some (k,s)):s.length<=492/\k<=255:=by
 obtain ⟨cU,rm,Fd,h1,rfl⟩:=h
 obtain ⟨e1,e2,e3⟩:=Bf e
 obtain ⟨a,b⟩:=xH e1
 rw[h1.rdv n a b,zC]at e3
 obtain ⟨⟨k',g,s'⟩,e4,e5⟩:=e3
 simp only[zPi]at e5
 obtain ⟨rfl,rfl⟩:=e5
 exact MP e4
theorem ja.tH {hp nx rp rd F p root view B} (h:ja hp nx rp rd F p root view B) {n:Nat} {nd:Nd} (e:fS p.read n=some nd):ax nd=true/\aw nd<=492/\nd.keys.length<=492/\nd.items.length<=492/\nd.kids.length<=493:=by
 unfold fS at e
 split at e
 ·rename_i k s hs
  obtain ⟨d1,d2,d3,d4,d5⟩:=Df e
  have hl:=(h.Cu hs).1
  rw[<-d2]at hl
  obtain ⟨l1,l2,l3⟩:=Bc d4 492 hl
  exact ⟨d4,by simpa [aw,d4] using hl,l1,l2,l3⟩
 ·cases e
theorem f35 {hp nx rt rp rd F p root view B} (h:Gg hp nx rt rp rd F p root view B):aY E 35 [.ptr rt 0 0] hp nx (iV 0) hp nx .e:=by
 obtain ⟨c,hc⟩:=h.row
 refine dF e35 rfl ?_
 simp[c35,hc]
 exact fun r=>.inl rfl
theorem f66 (e:Int) (hp nx):aY E 66 [iV e] hp nx (.v (.int .i64 (if e=0\/e=9 then e else 10))) hp nx .p:=by
 refine aD e66 rfl (by simp) ?_ hp nx
 by_cases h0:e=0
 ·simp[c66,h0]
 ·by_cases h9:e=9
  ·simp[c66,h9]
  ·simp[c66,h0,h9]
def sm (rd:fx) (n:Nat) (v:AV):Prop:=match fS rd n with
 |some nd=>∃y,iD nd y/\v=.bE [y,.v (.int .i64 0)]
 |none=>v=.bE [eC,.v (.int .i64 10)]
theorem f36 {hp nx rt rp rd F p root view B} (h:Gg hp nx rt rp rd F p root view B) (n:Nat) :
  ∃v hp' nx',aY E 36 [.ptr rt 0 0,iV n] hp nx v hp' nx' .e/\sm p.read n v/\Ro hp nx hp' nx':=by
 refine an (P:=fun v hp' nx'=>sm p.read n v/\Ro hp nx hp' nx') e36 (args:=[.ptr rt 0 0,iV n]) rfl (hp:=hp) (nx:=nx) ?_
 have NB:Ro hp nx (ab hp nx (some [[.v (.bool false),nS,nS,nS]])) (nx+1):=⟨by omega,fun r hr=>by simp[show ¬r=nx by omega]⟩
 have h1:=h.ro NB
 obtain ⟨Wz,MS,e,r1,he,cX⟩:=f65 h1.pg n h1.hB
 obtain ⟨c,hc⟩:=h1.row
 have bt:¬rt=nx:=by have:=h.lt;omega
 simp only[cg,bt,if_false]at hc
 have hx:Wz nx=some [[.v (.bool false),nS,nS,nS]]:=by rw[cX.ah nx (by omega)];simp
 have hle:=cX.le
 have R6:=NB.trans cX
 simp[c36,bt,hc]
 refine ae r1 ?_
 cases hr:p.read n with
 |none =>
  have he0:¬e=0:=by omega
  have r2:=f66 e Wz MS
  rw[if_neg (by omega)]at r2
  simp[n8,hr,he0]
  refine ap r2 ?_
  simp[hx,aa]
  exact ⟨by simp[sm,fS,hr,eC],R6.le,fun r sr=>by simp[show ¬r=nx by omega];exact R6.ah r sr⟩
 |some x =>
  obtain ⟨k,b⟩:=x
  obtain ⟨v,hv,r2⟩:=f67 k b
  simp[n8,hr]
  refine ap (r2 _ _) ?_
  cases hd:AW k b with
  |none =>
   have RX:=hv.2 hd
   subst RX
   have r3:=f66 11 (ab Wz MS (some [[.v (.bool false),nS,nS,nS]])) (MS+1)
   have Lq:¬nx=MS:=by omega
   simp[eC,aa]
   refine ap (by simpa [aG] using r3) ?_
   simp[hx,aa,Lq]
   exact ⟨by simp[sm,fS,hr,hd,eC],by omega,fun r sr=>by simp[show ¬r=nx by omega,show ¬r=MS by omega];exact R6.ah r sr⟩
  |some nd =>
   obtain ⟨y,hy,rfl⟩:=hv.1 nd hd
   obtain ⟨b0,k1,k2,k3,k4,i1,i2,i3,i4,d1,d2,d3,d4,rfl⟩:=hy.shape
   have r3:=fun hp nx=>f66 0 hp nx
   have Lq:¬nx=MS:=by omega
   simp[aa]
   refine ap (r3 _ _) ?_
   simp[hx,aa,Lq]
   exact ⟨by simp only[sm,fS,hr,hd];exact ⟨_,hy,rfl⟩,by omega,fun r sr=>by simp[show ¬r=nx by omega,show ¬r=MS by omega];exact R6.ah r sr⟩
end Go.Ai
namespace Go.Ai
open Go.Bt
theorem Vz {a y k:Nat} (hy:y<2 ^ k) (h:a*2 ^ k+y<9223372036854775808):dN .or (iV (a*2 ^ k:Nat)) (iV y)=some (iV (a*2 ^ k+y:Nat)):=by
 have h1:(BitVec.ofInt (IntKind.bits .i64) ((a*2 ^ k:Nat):Int))=BitVec.ofNat 64 (a*2 ^ k):=BitVec.ofInt_natCast ..
 have h2:(BitVec.ofInt (IntKind.bits .i64) (y:Int))=BitVec.ofNat 64 y:=BitVec.ofInt_natCast ..
 have h3:(BitVec.ofNat 64 (a*2 ^ k)).toNat=a*2 ^ k:=by rw[BitVec.toNat_ofNat,show (2:Nat) ^ 64=18446744073709551616 from rfl];omega
 have h4:(BitVec.ofNat 64 y).toNat=y:=by rw[BitVec.toNat_ofNat,show (2:Nat) ^ 64=18446744073709551616 from rfl];omega
 have h5:=Nat.shiftLeft_add_eq_or_of_lt hy a
 rw[Nat.shiftLeft_eq]at h5
 have h6:(BitVec.ofNat 64 (a*2 ^ k) ||| BitVec.ofNat 64 y).toNat=a*2 ^ k+y:=by rw[BitVec.toNat_or,h3,h4,h5]
 show some (AV.v (.int .i64 (IntKind.wrap .i64 (((BitVec.ofInt (IntKind.bits .i64) ((a*2 ^ k:Nat):Int)) ||| (BitVec.ofInt (IntKind.bits .i64) (y:Int))).toNat:Int))))=_
 rw[h1,h2]
 exact (congrArg (fun n:Nat=>some (AV.v (.int .i64 (IntKind.wrap .i64 (n:Int))))) h6).trans (by show some (AV.v (.int .i64 (IntKind.wrap .i64 ((a*2 ^ k+y:Nat):Int))))=_;rw[aj (by omega) (by omega)])
theorem Rt {x k:Nat} (hk:k<=24) (hx:x<256) {kk:IntKind}:dN .shl (iV x) (.v (.int kk (k:Int)))=some (iV (x*2 ^ k:Nat)):=by
 have h1:x*2 ^ k<=255*2 ^ 24:=qu (by omega) (wv (by omega) hk)
 have h2:Nat.min (k:Int).toNat (IntKind.bits .i64)=k:=by simp only[zl];show Nat.min k 64=k;exact qJ (by omega)
 show Cn .shl .i64 (x:Int) (k:Int)=_
 simp only[Cn]
 rw[if_neg (by omega),h2]
 have h3:(x:Int)*2 ^ k=((x*2 ^ k:Nat):Int):=by norm_cast
 rw[h3,aj (by omega) (by omega)]
theorem GL {a y m:Nat} (k:Nat) (hm:m=2 ^ k) (hy:y<m) (h:a*m+y<9223372036854775808):dN .or (iV (a*m:Nat)) (iV y)=some (iV (a*m+y:Nat)):=by
 subst hm;exact Vz hy h
theorem Ck {x m k:Nat} (hm:m=2 ^ k) (hk:k<=24) (hx:x<256) {kk:IntKind}:dN .shl (iV x) (.v (.int kk (k:Int)))=some (iV (x*m:Nat)):=by
 subst hm;exact Rt hk hx
theorem ZT {x:Nat} (hx:x<256) (kk:IntKind):dN .shl (iV x) (.v (.int kk 24))=some (iV (x*16777216:Nat)):=Ck (k:=24) (by decide) (by omega) hx
theorem ZU {x:Nat} (hx:x<256) (kk:IntKind):dN .shl (iV x) (.v (.int kk 16))=some (iV (x*65536:Nat)):=Ck (k:=16) (by decide) (by omega) hx
theorem adZ {x:Nat} (hx:x<256) (kk:IntKind):dN .shl (iV x) (.v (.int kk 8))=some (iV (x*256:Nat)):=Ck (k:=8) (by decide) (by omega) hx
theorem Vc (x c:Nat):x*65536+c*256=(x*256+c)*256:=by omega
theorem or3 {a b c d:Nat} (ha:a<256) (hb:b<256) (hc:c<256) (hd:d<256):∃y0 y1 y2 z1 z2:Int,(∀kk,dN .shl (iV a) (.v (.int kk 24))=some (iV y0))/\(∀kk,dN .shl (iV b) (.v (.int kk 16))=some (iV y1))/\(∀kk,dN .shl (iV c) (.v (.int kk 8))=some (iV y2)) /\
  dN .or (iV y0) (iV y1)=some (iV z1)/\dN .or (iV z1) (iV y2)=some (iV z2)/\dN .or (iV z2) (iV d)=some (.v (.int .i64 ((((a*256+b)*256+c)*256+d:Nat):Int))):=by
 have o1:=GL (a:=a) (m:=16777216) 24 (by decide) (y:=b*65536) (by omega) (by omega)
 have o2:=GL (a:=a*256+b) (m:=65536) 16 (by decide) (y:=c*256) (by omega) (by omega)
 have o3:=GL (a:=(a*256+b)*256+c) (m:=256) 8 (by decide) (y:=d) (by omega) (by omega)
 have e1:a*16777216+b*65536=(a*256+b)*65536:=by omega
 have e2:=Vc (a*256+b) c
 rw[e1]at o1
 rw[e2]at o2
 exact ⟨_,_,_,_,_,ZT ha,ZU hb,adZ hc,o1,o2,o3⟩
theorem Vn {a b c d:UInt8}:aA [a,b,c,d]=((a.toNat*256+b.toNat)*256+c.toNat)*256+d.toNat:=by simp[aA];omega
def oa (rd:fx) (n:Nat):AV:=match rd n with
 |some (k,b)=>if k≠3\/b.length<5 then .bE [.str [],.v (.int .i64 0),.v (.int .i64 10)] else .bE [.str (b.drop 4),.v (.int .i64 (aA (b.take 4))),.v (.int .i64 0)]
 |none=>.bE [.str [],.v (.int .i64 0),.v (.int .i64 10)]
theorem f106 {hp nx rt rp rd F p root view B} (h:Gg hp nx rt rp rd F p root view B) (n:Nat) :
  ∃hp' nx',aY E 106 [.ptr rt 0 0,iV n] hp nx (oa p.read n) hp' nx' .e/\Ro hp nx hp' nx':=by
 have main:=an (P:=fun v hp' nx'=>v=oa p.read n/\Ro hp nx hp' nx') e106 (args:=[.ptr rt 0 0,iV n]) rfl (hp:=hp) (nx:=nx) ?_
 ·obtain ⟨v,hp',nx',h1,rfl,h2⟩:=main
  exact ⟨hp',nx',h1,h2⟩
 obtain ⟨Wz,MS,e,r1,he,cX⟩:=f65 h.pg n h.hB
 obtain ⟨c,hc⟩:=h.row
 simp[c106,hc]
 refine ae r1 ?_
 cases hr:p.read n with
 |none =>
  have he0:¬e=0:=by omega
  have r2:=f66 e Wz MS
  rw[if_neg (by omega)]at r2
  simp[n8,hr,he0]
  refine ap r2 ?_
  simp[oa,hr]
  exact cX
 |some x =>
  obtain ⟨k,b⟩:=x
  obtain ⟨Q8,lP⟩:=h.pg.Cu hr
  by_cases hk:k=3
  ·subst hk
   by_cases h5:b.length<5
   ·have h5I:(b.length:Int)<5:=by omega
    simp[n8,hr,h5,h5I,oa]
    exact cX
   ·have h5I:¬(b.length:Int)<5:=by omega
    match b,h5 with
    |b0::b1::b2::b3::rest,h5 =>
     have c0:∀x:UInt8,IntKind.wrap .i64 (x.toNat:Int)=(x.toNat:Int):=fun x=>by have:=x.toNat_lt;rw[aj]<;>omega
     have l0:=b0.toNat_lt;have l1:=b1.toNat_lt;have l2:=b2.toNat_lt;have l3:=b3.toNat_lt
     obtain ⟨y0,y1,y2,z1,z2,s0,s1,s2,o1,o2,o3⟩:=or3 (show b0.toNat<256 by omega) (show b1.toNat<256 by omega) (show b2.toNat<256 by omega) (show b3.toNat<256 by omega)
     rw[<-Vn]at o3
     have fq:¬((rest.length:Int)+1+1+1+1<5):=by simp at h5;omega
     have ER:oa p.read n=.bE [.str rest,.v (.int .i64 (aA [b0,b1,b2,b3])),iV 0]:=by
      simp only[oa,hr];rw[if_neg (by rintro (e|e);exact e rfl;exact h5 e)];rfl
     have BB:eW (.str (b0::b1::b2::b3::rest)) (some (iV 4)) none=some (.str rest):=by
      have hb:bV (b0::b1::b2::b3::rest).length (b0::b1::b2::b3::rest).length (some (.v (.int .i64 (4:Nat)))) none none=some (4,(b0::b1::b2::b3::rest).length,none):=tf (by simp)
      have e:(4:Int)=((4:Nat):Int):=rfl
      simp only[eW]
      rw[e,hb];simp
     rw[ER]
     simp[n8,hr,fq,c0,s0,s1,s2,o1,o2,o3,BB,-S0,-Qr]
     exact cX
    |[],h5=>simp at h5
    |[_],h5=>simp at h5
    |[_,_],h5=>simp at h5
    |[_,_,_],h5=>simp at h5
  ·have IS:¬(k:Int)=3:=by omega
   simp[n8,hr,IS,hk,oa]
   exact cX
end Go.Ai
namespace Go.Ai
open Go.Bt
def H5 (hp:Heap) (nx:Nat) (l:List UInt8) (y:AV):Prop :=
 (y=nS/\l=[])\/∃q es k,q+1<nx/\y=.sl q 1 0 l.length none/\hp (q+1)=some [[.ty 5 k]]/\hp q=some es/\l.length<=es.length/\es.take l.length=bytesOf l
theorem H5.xO {hp:Heap} {nx:Nat} {l m:List UInt8} {y:AV} (h:H5 hp nx l y) (hl:l.length+m.length<=1000000000) :
  ∃y' hp' nx',vj 5 y (bytesOf m) hp nx=some (y',hp',nx')/\H5 hp' nx' (l++m) y'/\nx<=nx'/\(∀p,p<nx->p∉bf y->hp' p=hp p)/\∀p∈bf y',p∈bf y\/nx<=p:=by
 rcases h with ⟨rfl,rfl⟩|⟨q,es,k,h1,rfl,h2,h3,h4,h5⟩
 ·by_cases hm:m=[]
  ·subst hm
   exact ⟨nS,hp,nx,rfl,.inl ⟨rfl,rfl⟩,zD _,fun _ _ _=>rfl,by simp⟩
  ·have rJ:m.length≠0:=by simpa using hm
   refine ⟨.sl nx 1 0 m.length none,ab (ab hp nx (some (bytesOf m))) (nx+1) (some [[.ty 5 0]]),nx+2,?_,?_,by omega,?_,?_⟩
   ·simp only[vj,aJ]
    rw[if_neg rJ,if_pos (by simp only[zS]at hl;omega)]
   ·refine .inr ⟨nx,bytesOf m,0,by omega,rfl,by simp,by simp,by simp[aJ],?_⟩
    simp only[zh]
    rw[<-aJ (l:=m)];exact zW
   ·intro p hp1 _;simp[show ¬p=nx by omega,show ¬p=nx+1 by omega]
   ·intro p hp1;simp at hp1;right;omega
 ·by_cases hc:l.length+m.length<=es.length
  ·refine ⟨.sl q 1 0 (l.length+m.length) none,ab hp q (some (aa es l.length (bytesOf m))),nx,?_,?_,zD _,?_,?_⟩
   ·simp only[vj,h2,h3,aJ,and_self,if_true]
    rw[if_pos ⟨trivial,h4⟩,if_pos hc]
   ·have BB:(aa es l.length (bytesOf m)).take (l++m).length=bytesOf (l++m):=by
     have e1:(bytesOf m).length=m.length:=aJ
     simp only[aa,h5]
     rw[zF,zG,List.take_append,aJ]
     have:(bytesOf l).take (l.length+m.length)=bytesOf l:=zI (by rw[aJ];omega)
     rw[this,wa,wK (by rw[e1];omega),zI (by rw[e1];omega)]
     simp[bytesOf]
    refine .inr ⟨q,aa es l.length (bytesOf m),k,h1,by simp,by simp[h2],by simp,?_,BB⟩
    simp only[aa,zG,h5,aJ,wN];omega
   ·intro p hp1 aT;simp at aT;simp[aT]
   ·intro p hp1;left;simpa using hp1
  ·refine ⟨.sl nx 1 0 (l.length+m.length) none,ab (ab (ab hp q none) nx (some (es.take l.length++bytesOf m))) (nx+1) (some [[.ty 5 0]]),nx+2,?_,?_,by omega,?_,?_⟩
   ·simp only[vj,h2,h3,aJ,and_self,if_true]
    rw[if_pos ⟨trivial,h4⟩,if_neg hc,if_pos (by omega)]
   ·refine .inr ⟨nx,es.take l.length++bytesOf m,0,by omega,by simp,by simp,by simp,?_,?_⟩
    ·rw[h5];simp[aJ]
    ·rw[h5]
     have:bytesOf l++bytesOf m=bytesOf (l++m):=by simp[bytesOf]
     rw[this,<-aJ (l:=l++m)];exact zW
   ·intro p hp1 aT;simp at aT;simp[aT,show ¬p=nx by omega,show ¬p=nx+1 by omega]
   ·intro p hp1;simp at hp1;right;omega
theorem H5.other {hp hp':Heap} {nx nx':Nat} {l:List UInt8} {y:AV} (h:H5 hp nx l y) (hn:nx<=nx') (hk:∀p,p<nx->(∀q∈bf y,p=q\/p=q+1)->bf y≠[]->hp' p=hp p):H5 hp' nx' l y:=by
 rcases h with ⟨rfl,rfl⟩|⟨q,es,k,h1,rfl,h2,h3,h4,h5⟩
 ·exact .inl ⟨rfl,rfl⟩
 ·exact .inr ⟨q,es,k,by omega,rfl,by rw[hk (q+1) h1 (by simp) (by simp),h2],by rw[hk q (by omega) (by simp) (by simp),h3],h4,h5⟩
theorem H5.set {hp hp':Heap} {nx r:Nat} {l:List UInt8} {y:AV} {b:bN} (h:H5 hp nx l y) (hr:hp r=some b) (hb:b.length=1/\(∀x∈b,x.length=2)) (h5:r∉bf y) (hk:∀p,p≠r->hp' p=hp p):H5 hp' nx l y:=by
 refine h.other (zD _) fun p h1 h2 h3=>hk p ?_
 rintro rfl
 rcases h with ⟨rfl,rfl⟩|⟨q,es,k,h1,rfl,h6,h7,_⟩
 ·exact h3 rfl
 ·rcases h2 q (by simp) with e|e
  ·exact h5 (by simp[e])
  ·subst e;rw[hr]at h6;simp only[zOi]at h6;subst h6
   have:=hb.2 [AV.ty 5 k] (by simp)
   simp at this
theorem tx:∀l:List UInt8,AF (bytesOf l)=some l
 |[]=>rfl
 |b::l=>by
  have ih:=tx l
  simp only[bytesOf,wI,AF,pP]at ih ⊢
  rw[ih];simp
structure Kh (hp:Heap) (nx r:Nat) (l:Bs) (y:AV):Prop where
 lt:r+1<nx
 ty:hp (r+1)=some [[.ty 167 2]]
 at':∃a,hp r=some [[a,y]]/\(a=.v (.pointer none)\/a=.ptr r 0 0)
 XK:H5 hp nx l y
 n1:r∉bf y
 n2:r+1∉bf y
def lK (r:Nat) (y:AV):List Nat:=r::(r+1)::(bf y++(bf y).map (· + 1))
theorem Kh.ah {hp hp':Heap} {nx nx' r:Nat} {l:Bs} {y:AV} (h:Kh hp nx r l y) (hn:nx<=nx') (hk:∀q∈lK r y,hp' q=hp q):Kh hp' nx' r l y:=by
 obtain ⟨a,h1,h2⟩:=h.at'
 refine ⟨by have:=h.lt;omega,by rw[hk _ (by simp[lK])];exact h.ty,⟨a,by rw[hk _ (by simp[lK])];exact h1,h2⟩,h.XK.other hn fun p p1 p2 p3 => ?_,h.n1,h.n2⟩
 rcases h.XK with ⟨rfl,_⟩|⟨q,es,k,_,rfl,_⟩
 ·exact absurd rfl p3
 ·rcases p2 q (by simp) with e|e
  ·exact hk p (by simp[lK,e])
  ·exact hk p (by simp[lK,e])
theorem Kh.Ix {hp:Heap} {nx r:Nat} {l:Bs} {y:AV} (h:Kh hp nx r l y):∀q∈lK r y,q<nx:=by
 intro q hq
 have:=h.lt
 simp only[lK,zH,zJ,wk]at hq
 rcases hq with rfl|rfl|hq|⟨z,hz,rfl⟩
 ·omega
 ·omega
 ·rcases h.XK with ⟨rfl,_⟩|⟨q',es,k,h1,rfl,_⟩
  ·simp at hq
  ·simp at hq;omega
 ·rcases h.XK with ⟨rfl,_⟩|⟨q',es,k,h1,rfl,_⟩
  ·simp at hz
  ·simp at hz;omega
theorem H5.len {hp nx l y} (h:H5 hp nx l y):tM y=some (iV l.length):=by
 rcases h with ⟨rfl,rfl⟩|⟨q,es,k,h1,rfl,_⟩<;>simp
theorem H5.one {hp nx l y} (h:H5 hp nx l y):y.cells=[y]/\y.one=true:=by
 rcases h with ⟨rfl,rfl⟩|⟨q,es,k,h1,rfl,_⟩<;>exact ⟨rfl,rfl⟩
theorem f130 (hp:Heap) (nx r:Nat) (a y:AV) (ha:a=.v (.pointer none)\/a=.ptr r 0 0) (h:hp r=some [[a,y]]) (ht:hp (r+1)=some [[.ty 167 2]]) :
  ∃hp',aY E 130 [.ptr r 0 0] hp nx (.bE []) hp' nx .e/\hp' r=some [[.ptr r 0 0,y]]/\∀p,p≠r->hp' p=hp p:=by
 have main:=an (P:=fun v hp' nx'=>v=.bE []/\nx'=nx/\hp' r=some [[.ptr r 0 0,y]]/\∀p,p≠r->hp' p=hp p) e130 (args:=[.ptr r 0 0]) rfl (hp:=hp) (nx:=nx) ?_
 ·obtain ⟨v,hp',nx',h1,rfl,rfl,h2⟩:=main
  exact ⟨hp',h1,h2⟩
 ·rcases ha with rfl|rfl
  ·simp[c130,h,ht]
   refine ap (Vl _ _ _) ?_
   simp[h,ht,aa]
   exact fun p h1 h2=>absurd h2 h1
  ·simp[c130,h,ht]
theorem f108 {hp:Heap} {nx r:Nat} {l:Bs} {y:AV} (h:Kh hp nx r l y):aY E 108 [.ptr r 0 0] hp nx (iV l.length) hp nx .e:=by
 obtain ⟨a,h1,h2⟩:=h.at'
 have hl:=h.XK.len
 refine dF e108 rfl ?_
 simp[c108,h1,hl]
 exact fun r=>.inl rfl
theorem f107 {hp:Heap} {nx r:Nat} {l:Bs} {y:AV} (h:Kh hp nx r l y) (s:Bs) (hl:l.length+s.length<=1000000000) :
  ∃v hp' nx' y',aY E 107 [.ptr r 0 0,.str s] hp nx v hp' nx' .e/\Kh hp' nx' r (l++s) y'/\nx<=nx'/\(∀q,q<nx->q∉lK r y->hp' q=hp q)/\∀q∈lK r y',q∈lK r y\/nx<=q:=by
 have main:=an (P:=fun v hp' nx'=>∃y',Kh hp' nx' r (l++s) y'/\nx<=nx'/\(∀q,q<nx->q∉lK r y->hp' q=hp q)/\∀q∈lK r y',q∈lK r y\/nx<=q) e107 (args:=[.ptr r 0 0,.str s]) rfl (hp:=hp) (nx:=nx) ?_
 ·obtain ⟨v,hp',nx',h1,y',h2⟩:=main
  exact ⟨v,hp',nx',y',h1,h2⟩
 obtain ⟨a,h1,h2⟩:=h.at'
 have az:=h.lt
 obtain ⟨hp1,r1,q1,k1⟩:=f130 hp nx r a y h2 h1 h.ty
 have t1:H5 hp1 nx l y:=h.XK.set h1 (by simp) h.n1 k1
 have w1:hp1 (r+1)=some [[.ty 167 2]]:=by rw[k1 _ (by omega)];exact h.ty
 have hx:aR hp1 1 (.str s)=some (bytesOf s):=rfl
 obtain ⟨y',aT,ar,g1,g2,g3,g4,g5⟩:=t1.xO (m:=s) hl
 have cV:=g2.one
 have n1:r∉bf y':=fun hh=>(g5 r hh).elim h.n1 (by omega)
 have n2:r+1∉bf y':=fun hh=>(g5 _ hh).elim h.n2 (by omega)
 have v2:aT r=some [[.ptr r 0 0,y]]:=by rw[g4 r (by omega) h.n1];exact q1
 have w2:aT (r+1)=some [[.ty 167 2]]:=by rw[g4 (r+1) (by omega) h.n2];exact w1
 simp[c107]
 refine ae r1 ?_
 simp[q1,DY,hx,mD,g1,v2,cV,aa]
 refine ⟨y',⟨by omega,by simp[w2],⟨_,by simp,.inr rfl⟩,g2.set v2 (by simp) n1 (fun p hp=>by simp[hp]),n1,n2⟩,g3,fun q u1 u2 => ?_,fun q hq => ?_⟩
 ·simp only[lK,zH,zJ,not_or]at u2
  simp[u2.1]
  rw[g4 q u1 u2.2.2.1,k1 q u2.1]
 ·simp only[lK,zH,zJ,wk]at hq ⊢
  rcases hq with hq|hq|hq|⟨z,hz,rfl⟩
  ·exact .inl (.inl hq)
  ·exact .inl (.inr (.inl hq))
  ·exact (g5 q hq).imp (fun e=>.inr (.inr (.inl e))) id
  ·rcases g5 z hz with e|e
   ·exact .inl (.inr (.inr (.inr ⟨z,e,rfl⟩)))
   ·exact .inr (by omega)
theorem f109 {hp:Heap} {nx r:Nat} {l:Bs} {y:AV} (h:Kh hp nx r l y) (hl:l.length<=1000000000) (bt:l≠[]) :
  ∃hp' nx',aY E 109 [.ptr r 0 0] hp nx (.str l) hp' nx' .e/\nx<=nx'/\∀q,q<nx->q∉lK r y->hp' q=hp q:=by
 have main:=an (P:=fun v hp' nx'=>v=.str l/\nx<=nx'/\∀q,q<nx->q∉lK r y->hp' q=hp q) e109 (args:=[.ptr r 0 0]) rfl (hp:=hp) (nx:=nx) ?_
 ·obtain ⟨v,hp',nx',h1,rfl,h2⟩:=main
  exact ⟨hp',nx',h1,h2⟩
 obtain ⟨a,h1,h2⟩:=h.at'
 rcases h.XK with ⟨rfl,rfl⟩|⟨q,es,k,g1,rfl,g2,g3,g4,g5⟩
 ·exact absurd rfl bt
 ·have lH:0<l.length:=zt.2 bt
  simp[c109,h1,lH,g2,g3,g5,tx]
  exact ⟨⟨g4,by omega⟩,fun q1 u1 u2 e=>absurd (by rw[e];simp[lK]) u2⟩
end Go.Ai
namespace Go.Ai
open Go.Bt
structure SyS {σ:Type} (Sy:Heap->Nat->List Nat->σ->Prop) (rt:Nat) (pm:σ->PM):Prop where
 rd:∀hp nx F s,Sy hp nx F s->∃rp v7 Fp root view B,Gg hp nx rt rp v7 Fp (pm s) root view B
 ah:∀hp nx F s hp' nx',Sy hp nx F s->nx<=nx'->(∀r∈F,hp' r=hp r)->Sy hp' nx' F s
 lt:∀hp nx F s,Sy hp nx F s->∀r∈F,r<nx
def dJ {σ:Type} (pm:σ->PM) (st:Nat->σ->Option σ) (size:Nat):Nat->Nat->Bs->σ->Option (Bs×σ)
 |_,0,acc,s=>if acc.length=size then some (acc,s) else none
 |0,_+1,_,_=>none
 |f+1,n+1,acc,s=>match st (n+1) s with
  |some s'=>(match (pm s').read (n+1) with
   |some (kind,b)=>if kind≠3\/b.length<5 then none
     else if (aA (b.take 4)≠0/\(b.drop 4).length≠488)\/size<(acc++b.drop 4).length then none
     else dJ pm st size f (aA (b.take 4)) (acc++b.drop 4) s'
   |none=>none)
  |none=>none
def DF {σ:Type} (Sy:Heap->Nat->List Nat->σ->Prop) (st:Nat->σ->Option σ) (k:Nat) (first cap:List AV) (K:Nat->σ->Prop):Prop :=
 ∀f n s hp nx F,K (f+1) s->n<4294967296->Sy hp nx F s->∃hp' nx' F' e,aY E k (first++[.v (.int .i64 (n:Nat))]++cap) hp nx (.v (.int .i64 e)) hp' nx' .e/\Fr F hp nx F' hp' nx'/\match st n s with
  |some s'=>e=0/\Sy hp' nx' F' s'/\K f s'
  |none=>e=10/\∃s',Sy hp' nx' F' s'
theorem f70 {σ:Type} {Sy:Heap->Nat->List Nat->σ->Prop} {rt:Nat} {pm:σ->PM} (S:SyS Sy rt pm) {st:Nat->σ->Option σ} {k:Nat} {first cap:List AV} {K:Nat->σ->Prop} (hE:DF Sy st k first cap K)
  {x:bD} {size pg:Nat} (hs:x.s=size) (hp':x.p=pg) (hz:0<size) (V5:size<=60000) (yO:pg<4294967296) {hp:Heap} {nx:Nat} {F:List Nat} {s:σ} (hK:K (size+1) s) (h:Sy hp nx F s) :
  ∃v hp' nx' F',aY E 70 [.ptr rt 0 0,.agg x.cells,.fn (.func k) first cap] hp nx v hp' nx' .e/\Fr F hp nx F' hp' nx'/\match dJ pm st size (size+1) pg [] s with
   |some r=>v=.bE [.str r.1,.v (.int .i64 0)]/\Sy hp' nx' F' r.2
   |none=>v=.bE [.str [],.v (.int .i64 10)]/\∃s',Sy hp' nx' F' s':=by
 have main:=an (P:=fun v hp' nx'=>∃F',Fr F hp nx F' hp' nx'/\match dJ pm st size (size+1) pg [] s with
   |some r=>v=.bE [.str r.1,.v (.int .i64 0)]/\Sy hp' nx' F' r.2
   |none=>v=.bE [.str [],.v (.int .i64 10)]/\∃s',Sy hp' nx' F' s') e70 (args:=[.ptr rt 0 0,.agg x.cells,.fn (.func k) first cap]) rfl (hp:=hp) (nx:=nx) ?_
 ·obtain ⟨v,hp',nx',h1,F',h2⟩:=main
  exact ⟨v,hp',nx',F',h1,h2⟩
 have yS:=S.lt _ _ _ _ h
 have Bz:x.cells=[.str x.v,iV pg,iV size]:=by simp[bD.cells,hs,hp']
 simp[c70,Bz,show ¬nx=nx+1+1 by omega]
 generalize hH:ab (ab (ab hp nx (some [[.str x.v,iV pg,iV size]])) (nx+1) (some [[.v (.pointer none),nS]])) (nx+1+1) (some [[.ty 167 2]])=H
 have hHk:∀r,r<nx->H r=hp r:=fun r hr=>by rw[<-hH];simp[show ¬r=nx by omega,show ¬r=nx+1 by omega,show ¬r=nx+1+1 by omega]
 have hHx:H nx=some [[.str x.v,iV pg,iV size]]:=by rw[<-hH];simp[show ¬nx=nx+1+1 by omega]
 have hB:Kh H (nx+1+2) (nx+1) [] nS:=⟨by omega,by rw[<-hH];simp,⟨.v (.pointer none),by rw[<-hH];simp,.inl rfl⟩,.inl ⟨rfl,rfl⟩,by simp,by simp⟩
 have hS:Sy H (nx+1+2) F s:=S.ah _ _ _ _ _ _ h (by omega) fun r hr=>hHk r (yS r hr)
 have hF:Fr F hp nx F H (nx+1+2):=⟨by omega,fun r hr _=>hHk r hr,fun r hr=>.inl hr⟩
 refine aM (I:=fun (g:Nat×Nat×Bs×σ) t=>∃F' y,t.tm 9=iV g.2.1/\t.tm 0=.ptr rt 0 0/\t.tm 2=.fn (.func k) first cap/\t.tm 4=.ptr nx 0 0/\t.tm 8=.ptr (nx+1) 0 0 /\
   t.hp nx=some [[.str x.v,iV pg,iV size]]/\Kh t.hp t.nx (nx+1) g.2.2.1 y/\(∀q∈lK (nx+1) y,nx<q/\q∉F')/\nx∉F'/\nx<t.nx/\Sy t.hp t.nx F' g.2.2.2/\Fr F hp nx F' t.hp t.nx /\
   K g.1 g.2.2.2/\g.2.1<4294967296/\size+1<=g.1+g.2.2.1.length/\g.2.2.1.length<=size/\dJ pm st size (size+1) pg [] s=dJ pm st size g.1 g.2.1 g.2.2.1 g.2.2.2) (fun g=>g.1) (size+1,pg,[],s) ?_ ?_
 ·refine ⟨F,nS,by simp,by simp,by simp,by simp,by simp,hHx,hB,?_,?_,by simp only;omega,hS,hF,hK,yO,by simp,by simp,rfl⟩
  ·intro q hq
   simp[lK]at hq
   rcases hq with rfl|rfl
   ·exact ⟨by omega,fun e=>by have:=yS _ e;omega⟩
   ·exact ⟨by omega,fun e=>by have:=yS _ e;omega⟩
  ·exact fun e=>by have:=yS _ e;omega
 rintro ⟨f,n,acc,σ1⟩ tm hp1 nx1 ⟨F1,y,t9,t0,t2,t4,t8,Lk,tn,iL,EO,aa2,vL,nn,hK1,aa9,Wh,Wg,hch⟩
 simp only at t9 t0 t2 t4 t8 Lk tn iL EO aa2 vL nn hK1 aa9 Wh Wg hch
 rw[hch]
 cases n with
 |zero =>
  have hc0:dJ pm st size f 0 acc σ1=if acc.length=size then some (acc,σ1) else none:=by cases f<;>rfl
  rw[hc0]
  have rl:=f108 tn
  simp[t9]
  by_cases he:acc.length=size
  ·have Q3:(acc.length:Int)=(size:Int):=by omega
   rw[he]at rl
   obtain ⟨aT,ar,r2,l2,k2⟩:=f109 tn (by omega) (by intro e;rw[e]at he;simp at he;omega)
   simp[t8,t4,Lk,he]
   refine ae rl ?_
   simp[t8,t4,Lk]
   refine ae r2 ?_
   simp
   have aeX:=nn.le
   refine ⟨F1,⟨by omega,fun q u1 u2 => ?_,nn.sub⟩,?_⟩
   ·rw[k2 q (by omega) (fun e=>by have:=(iL q e).1;omega)];exact nn.ah q u1 u2
   ·exact S.ah _ _ _ _ _ _ vL l2 fun q hq=>k2 q (S.lt _ _ _ _ vL q hq) fun e=>(iL q e).2 hq
  ·have Q3:¬(acc.length:Int)=(size:Int):=by omega
   simp[t8,t4,Lk,he]
   refine ae rl ?_
   simp[t8,t4,Lk,Q3]
   exact ⟨F1,nn,_,vL⟩
 |succ n =>
  obtain ⟨f,rfl⟩:∃g,f=g+1:=⟨f-1,by omega⟩
  have aeX:=nn.le
  obtain ⟨aT,ar,F2,e,r2,C7,m2⟩:=hE f (n+1) σ1 hp1 nx1 F1 hK1 aa9 vL
  have Sw:=nn.trans C7
  have AO:=C7.le
  have CQ:¬((n:Int)+1=0):=by omega
  simp[t9,CQ,t2]
  refine ae (by simpa using r2) ?_
  cases bU:st (n+1) σ1 with
  |none =>
   rw[bU]at m2
   obtain ⟨rfl,s',m2⟩:=m2
   have hc:dJ pm st size (f+1) (n+1) acc σ1=none:=by simp only[dJ,bU]
   rw[hc]
   simp
   exact ⟨F2,Sw,s',m2⟩
  |some σ2 =>
   rw[bU]at m2
   obtain ⟨rfl,Oc,Uo⟩:=m2
   have V9:aT nx=some [[.str x.v,iV pg,iV size]]:=by rw[C7.ah nx aa2 EO];exact Lk
   have vJ:Kh aT ar (nx+1) acc y:=tn.ah AO fun q hq=>C7.ah q (tn.Ix q hq) (iL q hq).2
   have FZ:∀q∈lK (nx+1) y,nx<q/\q∉F2:=fun q hq=>⟨(iL q hq).1,fun e=>(C7.sub q e).elim (iL q hq).2 (by have:=tn.Ix q hq;omega)⟩
   have BE:nx∉F2:=fun e=>(C7.sub nx e).elim EO (by omega)
   obtain ⟨rp,v7,Fp,root,view,B,hR⟩:=S.rd _ _ _ _ Oc
   obtain ⟨kr,o6,r3,Cq⟩:=f106 hR (n+1)
   have Lr:=Cq.le
   have Un:=S.ah _ _ _ _ _ _ Oc Cq.le fun q hq=>Cq.ah q (S.lt _ _ _ _ Oc q hq)
   have Xf:Fr F hp nx F2 kr o6:=⟨by omega,fun q u1 u2=>by rw[Cq.ah q (by omega)];exact Sw.ah q u1 u2,Sw.sub⟩
   have Sr:Kh kr o6 (nx+1) acc y:=vJ.ah Lr fun q hq=>Cq.ah q (vJ.Ix q hq)
   have hx3:kr nx=some [[.str x.v,iV pg,iV size]]:=by rw[Cq.ah nx (by omega)];exact V9
   simp[t0,t9]
   refine ae (by simpa using r3) ?_
   cases lC:(pm σ2).read (n+1) with
   |none =>
    have hc:dJ pm st size (f+1) (n+1) acc σ1=none:=by simp only[dJ,bU,lC]
    rw[hc]
    simp[oa,lC]
    exact ⟨F2,Xf,_,Un⟩
   |some z =>
    obtain ⟨kind,b⟩:=z
    by_cases hk:kind≠3\/b.length<5
    ·have hc:dJ pm st size (f+1) (n+1) acc σ1=none:=by simp only[dJ,bU,lC,if_pos hk]
     rw[hc]
     have hl:oa (pm σ2).read (n+1)=.bE [.str [],iV 0,iV 10]:=by simp only[oa,lC,if_pos hk]
     rw[hl]
     simp
     exact ⟨F2,Xf,_,Un⟩
    ·have hl:oa (pm σ2).read (n+1)=.bE [.str (b.drop 4),.v (.int .i64 (aA (b.take 4))),iV 0]:=by simp only[oa,lC,if_neg hk]
     rw[hl]
     have Q8:=(hR.pg.Cu lC).1
     simp only[not_or,Nat.not_lt]at hk
     have YD:¬(kind≠3\/b.length<5):=by simp only[not_or,Nat.not_lt];exact hk
     have Q4:(b.drop 4).length=b.length-4:=by simp
     have aaZ:aA (b.take 4)<4294967296:=by
      have:=oT (b.take 4)
      have e4:(b.take 4).length=4:=by simp;omega
      rw[e4]at this;exact this
     generalize aeL:aA (b.take 4)=next at *
     generalize hd4:b.drop 4=d at *
     obtain ⟨v4,fW,sN,y4,r4,YH,l4,k4,q4⟩:=f107 Sr d (by omega)
     have rl:=f108 YH
     have jc:(acc++d).length=acc.length+d.length:=by simp
     have hx4:fW nx=some [[.str x.v,iV pg,iV size]]:=by rw[k4 nx (by omega) (fun e=>by have:=(FZ nx e).1;omega)];exact hx3
     have Ht:=S.ah _ _ _ _ _ _ Un l4 fun q hq=>k4 q (S.lt _ _ _ _ Un q hq) fun e=>(FZ q e).2 hq
     have Oe:Fr F hp nx F2 fW sN:=⟨by omega,fun q u1 u2=>by rw[k4 q (by omega) (fun e=>by have:=(FZ q e).1;omega)];exact Xf.ah q u1 u2,Sw.sub⟩
     have hcx:dJ pm st size (f+1) (n+1) acc σ1=if (next≠0/\d.length≠488)\/size<(acc++d).length then none else dJ pm st size f next (acc++d) σ2:=by
      simp only[dJ,bU,lC,if_neg YD,aeL,hd4]
     rw[hcx]
     simp[t8]
     refine ae r4 ?_
     by_cases hA:next≠0/\d.length≠488
     ·rw[if_pos (.inl hA)]
      have a1:¬(next:Int)=0:=by have:=hA.1;omega
      have a2:¬(d.length:Int)=488:=by have:=hA.2;omega
      simp[a1,a2,hA.1,hA.2]
      exact ⟨F2,Oe,_,Ht⟩
     ·have hq4:∀q∈lK (nx+1) y4,nx<q/\q∉F2:=fun q hq=>by
       rcases q4 q hq with hq|hq
       ·exact FZ q hq
       ·exact ⟨by omega,fun e=>by have:=S.lt _ _ _ _ Un q e;omega⟩
      rw[jc]at rl
      by_cases hB:size<acc.length+d.length
      ·rw[if_pos (.inr hB)]
       have hBI:(size:Int)<((acc.length+d.length:Nat):Int):=by omega
       by_cases h0:next=0
       ·have Xj:(next:Int)=0:=by omega
        simp[h0]
        refine ae (by rw[t8];exact rl) ?_
        simp[t4,hx4,hBI,-Int.natCast_add,-Int.ofNat_lt]
        exact ⟨F2,Oe,_,Ht⟩
       ·have Xj:¬(next:Int)=0:=by omega
        have afo:d.length=488:=Decidable.byContradiction fun e=>hA ⟨h0,e⟩
        have Og:(d.length:Int)=488:=by omega
        simp[h0,Og]
        refine ae (by rw[t8];exact rl) ?_
        simp[t4,hx4,hBI,-Int.natCast_add,-Int.ofNat_lt]
        exact ⟨F2,Oe,_,Ht⟩
      ·rw[if_neg (by rintro (e|e);exact hA e;exact hB e)]
       have hBI:¬(size:Int)<((acc.length+d.length:Nat):Int):=by omega
       by_cases h0:next=0
       ·have Xj:(next:Int)=0:=by omega
        simp[h0]
        refine ae (by rw[t8];exact rl) ?_
        simp[t4,hx4,hBI,-Int.natCast_add,-Int.ofNat_lt]
        exact ⟨f,by omega,0,rfl,t0,t2,t8,acc++d,σ2,F2,y4,YH,hq4,BE,by omega,Ht,Oe,Uo,by omega,by rw[jc];have:=hk.2;omega,by rw[jc];omega,rfl⟩
       ·have Xj:¬(next:Int)=0:=by omega
        have afo:d.length=488:=Decidable.byContradiction fun e=>hA ⟨h0,e⟩
        have Og:(d.length:Int)=488:=by omega
        simp[h0,Og]
        refine ae (by rw[t8];exact rl) ?_
        simp[t4,hx4,hBI,-Int.natCast_add,-Int.ofNat_lt]
        exact ⟨f,by omega,next,rfl,t0,t2,t8,acc++d,σ2,F2,y4,YH,hq4,BE,by omega,Ht,Oe,Uo,aaZ,by rw[jc];have:=hk.2;omega,by rw[jc];omega,rfl⟩
end Go.Ai
namespace Go.Ai
open Go.Bt
theorem f71 (n:Int) (hp nx):aY E 71 [iV n] hp nx (iV 0) hp nx .e:=by
 refine dF e71 rfl ?_
 simp[c71]
 exact fun r=>.inl rfl
def SyR (rt rp rd:Nat) (Fp:List Nat) (p:PM) (root:Bs) (view:Nat->Bs) (B:Nat) (oC:Heap) (hp:Heap) (nx:Nat) (F:List Nat) (_:Unit):Prop:=F=rt::Fp/\Gg hp nx rt rp rd Fp p root view B/\∀r∈F,hp r=oC r
theorem syR {rt rp rd Fp p root view B oC}:SyS (SyR rt rp rd Fp p root view B oC) rt (fun _=>p) where
 rd:=fun hp nx F s h=>⟨rp,rd,Fp,root,view,B,h.2.1⟩
 ah:=fun hp nx F s hp' nx' ⟨e,h1,h2⟩ hn hk=>by
  subst e
  obtain ⟨c,hc⟩:=h1.row
  exact ⟨rfl,⟨⟨c,by rw[hk rt (by simp)];exact hc⟩,zU h1.lt hn,h1.pg.ah hn fun r hr=>hk r (by simp[hr]),h1.hB⟩,fun r hr=>by rw[hk r hr];exact h2 r hr⟩
 lt:=fun hp nx F s ⟨e,h1,h2⟩ r hr=>by
  subst e
  rcases zH.1 hr with rfl|hr
  ·exact h1.lt
  ·exact h1.pg.lt r hr
theorem Vu {rt rp rd Fp p root view B oC}:DF (SyR rt rp rd Fp p root view B oC) (fun _ s=>some s) 71 [] [] (fun _ _=>True) :=
 fun f n s hp nx F _ _ h=>⟨hp,nx,F,0,f71 _ _ _,.refl,rfl,h,trivial⟩
theorem FE (p:PM) (size:Nat):∀(f n:Nat) (acc:Bs) (ps:List Nat),dJ (fun _=>p) (fun _ s=>some s) size f n acc ()=(g9 p.read size f n acc ps).map fun r=>(r.1,())
 |f,0,acc,ps=>by
  have h1:dJ (fun _=>p) (fun _ s=>some s) size f 0 acc ()=if acc.length=size then some (acc,()) else none:=by cases f<;>rfl
  have h2:g9 p.read size f 0 acc ps=if acc.length=size then some (acc,ps) else none:=by cases f<;>rfl
  rw[h1,h2];split<;>rfl
 |0,n+1,acc,ps=>rfl
 |f+1,n+1,acc,ps=>by
  simp only[dJ,g9]
  cases p.read (n+1) with
  |none=>rfl
  |some x =>
   obtain ⟨k,b⟩:=x
   simp only
   split
   ·rfl
   ·split
    ·rfl
    ·exact FE p size f _ _ _
def B6 (o:Option Bs):AV:=match o with
 |some v=>.bE [.str v,.v (.int .i64 0)]
 |none=>.bE [.str [],.v (.int .i64 10)]
theorem f38 {hp nx rt rp rd F p root view B} (h:Gg hp nx rt rp rd F p root view B) {x:bD} (hx:jl x=true) :
  ∃hp' nx',aY E 38 [.ptr rt 0 0,.agg x.cells] hp nx (B6 (jq p.read x)) hp' nx' .e/\Ro hp nx hp' nx':=by
 have main:=an (P:=fun v hp' nx'=>v=B6 (jq p.read x)/\Ro hp nx hp' nx') e38 (args:=[.ptr rt 0 0,.agg x.cells]) rfl (hp:=hp) (nx:=nx) ?_
 ·obtain ⟨v,hp',nx',h1,rfl,h2⟩:=main
  exact ⟨hp',nx',h1,h2⟩
 have bZ:Ro hp nx (ab hp nx (some [x.cells])) (nx+1):=⟨by omega,fun r hr=>by simp[show ¬r=nx by omega]⟩
 have h1:=h.ro bZ
 rcases il hx with ⟨a1,a2,a3⟩|⟨pg,size,a1,a2,a3,a4,a5,a6,a7⟩
 ·have Bz:x.cells=[.str x.v,iV 0,iV 0]:=by simp[bD.cells,a1,a2]
  rw[Bz]at bZ
  simp[c38,Bz]
  exact ⟨by simp[B6,jq,a1],bZ⟩
 ·have Bz:x.cells=[.str x.v,iV pg,iV size]:=by simp[bD.cells,a1,a2]
  have oC:¬x.p=0:=by omega
  have hpI:¬pg=0:=by omega
  have hS:SyR rt rp rd F p root view B (ab hp nx (some [x.cells])) (ab hp nx (some [x.cells])) (nx+1) (rt::F) ():=⟨rfl,h1,fun _ _=>rfl⟩
  obtain ⟨v,hp',nx',F',r1,fr,m⟩:=f70 (syR (rt:=rt)) Vu (x:=x) (size:=size) (pg:=pg) a2 a1 (by omega) (by omega) (by omega) trivial hS
  rw[FE p size _ _ _ []]at m
  have hv:jq p.read x=(g9 p.read size (size+1) pg [] []).map (·.1):=by
   have e1:x.s.toNat=size:=by omega
   have e2:x.p.toNat=pg:=by omega
   simp only[jq,if_neg oC,uW,e1,e2]
  have CV:∀F',SyR rt rp rd F p root view B (ab hp nx (some [x.cells])) hp' nx' F' ()->Fr (rt::F) (ab hp nx (some [x.cells])) (nx+1) F' hp' nx'->Ro hp nx hp' nx':=fun F' ⟨e,_,hk⟩ fr=>by
   subst e
   refine ⟨by have:=fr.le;omega,fun r hr => ?_⟩
   by_cases hm:r∈rt::F
   ·rw[hk r hm];exact bZ.ah r hr
   ·rw[fr.ah r (by omega) hm];exact bZ.ah r hr
  rw[hv]
  rw[Bz]at r1 CV m fr
  simp[c38,Bz,hpI]
  refine ae r1 ?_
  cases hc:g9 p.read size (size+1) pg [] [] with
  |none =>
   rw[hc]at m
   obtain ⟨rfl,s',m⟩:=m
   simp
   exact ⟨rfl,CV F' m fr⟩
  |some y =>
   rw[hc]at m
   obtain ⟨rfl,m⟩:=m
   simp
   exact ⟨rfl,CV F' m fr⟩
end Go.Ai
namespace Go.Ai
open Go.Bt
structure FU (hp:Heap) (rt rp root:Nat):Prop where
 row:∃c,hp rt=some [.ptr rp 0 0::iV root::c]
theorem uA {n:Nat} {es:List (List AV)} {x:AV} (h:eV n es x) {i:Nat} {c:List AV} (hi:es[i]?=some c) {k:IntKind}:cd n x (.v (.int k (i:Int)))=some (.rp c):=by
 obtain ⟨nil,sz,cap,rfl,h1,h2⟩:=h
 exact eb ⟨h1,h2⟩ hi rfl
def C5 (o:Option (Option Bs)):AV:=match o with
 |some (some v)=>.bE [.str v,.v (.bool true),.v (.int .i64 0)]
 |some none=>.bE [.str [],.v (.bool false),.v (.int .i64 0)]
 |none=>.bE [.str [],.v (.bool false),.v (.int .i64 10)]
theorem f10 {hp nx rt rp rd F p rootS view B} (h:Gg hp nx rt rp rd F p rootS view B) {root:Nat} (hr:FU hp rt rp root) (key:Bs) :
  ∃hp' nx',aY E 10 [.ptr rt 0 0,.str key] hp nx (C5 (iP p.read key 12 root)) hp' nx' .e/\Ro hp nx hp' nx':=by
 have main:=an (P:=fun v hp' nx'=>v=C5 (iP p.read key 12 root)/\Ro hp nx hp' nx') e10 (args:=[.ptr rt 0 0,.str key]) rfl (hp:=hp) (nx:=nx) ?_
 ·obtain ⟨v,hp',nx',h1,rfl,h2⟩:=main
  exact ⟨hp',nx',h1,h2⟩
 have r0:=f35 h
 obtain ⟨c,hc⟩:=hr.row
 simp[c10]
 refine ae r0 ?_
 simp[hc]
 refine aM (I:=fun (g:Nat×Nat) t=>∃d:Nat,d+g.1=12/\t.tm 8=iV g.2/\t.tm 9=iV d/\t.tm 0=.ptr rt 0 0/\t.tm 1=.str key/\Ro hp nx t.hp t.nx/\iP p.read key 12 root=iP p.read key g.1 g.2) (fun g=>g.1) (12,root) ?_ ?_
 ·exact ⟨0,by simp,by simp,by simp,by simp,by simp,.refl,rfl⟩
 rintro ⟨f,a⟩ tm hp1 nx1 ⟨dd,hf,t8,t9,t0,t1,bZ,hg⟩
 simp only at hf t8 t9 t0 t1 bZ hg
 rw[hg]
 cases a with
 |zero =>
  have:iP p.read key f 0=some none:=by cases f<;>rfl
  rw[this]
  simp[t8]
  exact ⟨rfl,bZ⟩
 |succ a =>
  have Hq:¬((a:Int)+1=0):=by omega
  have agz:¬(((a+1:Nat):Int)=0):=by omega
  cases f with
  |zero =>
   have:iP p.read key 0 (a+1)=none:=rfl
   rw[this]
   have:dd=12:=by omega
   subst this
   simp[t8,t9,Hq]
   exact ⟨rfl,bZ⟩
  |succ f =>
   have az:(dd:Int)<12:=by omega
   have w1:IntKind.wrap .i64 ((dd:Int)+1)=((dd+1:Nat):Int):=by rw[aj]<;>omega
   have h1:=h.ro bZ
   obtain ⟨v,aT,ar,r2,q2,vm⟩:=f36 h1 (a+1)
   have iK:=bZ.trans vm
   simp[t8,t9,Hq,az,t0]
   refine ae (by simpa using r2) ?_
   unfold sm at q2
   cases hn:fS p.read (a+1) with
   |none =>
    rw[hn]at q2
    subst q2
    have:iP p.read key (f+1) (a+1)=none:=by simp only[iP,hn]
    rw[this]
    simp[eC,aa]
    exact ⟨rfl,by have:=iK.le;omega,fun r hr=>by simp[show ¬r=ar by have:=iK.le;omega];exact iK.ah r hr⟩
   |some nd =>
    rw[hn]at q2
    obtain ⟨y,hy,rfl⟩:=q2
    obtain ⟨n1,n2,n3,n4,n5⟩:=h.pg.tH hn
    have WZ:=f37 nd y hy key (by omega) (by omega) (by omega)
    obtain ⟨ky,iy,dy,rfl,hky,hiy,hdy⟩:=id hy
    obtain ⟨k1,k2,k3,rfl⟩:=hky.shape
    obtain ⟨i1,i2,i3,rfl⟩:=hiy.shape
    obtain ⟨d1,d2,d3,rfl⟩:=hdy.shape
    have iJ:∀b,Ro hp nx (ab aT ar b) (ar+1):=fun b=>⟨by have:=iK.le;omega,fun r hr=>by simp[show ¬r=ar by have:=iK.le;omega];exact iK.ah r hr⟩
    have aeD:=fun b=>h.ro (iJ b)
    simp[aa,t1,aG]
    refine ap (WZ _ _) ?_
    have eJ:=dR n1
    cases hl:nd.leaf with
    |false =>
     obtain ⟨g1,g2,g3,g4⟩:=(aZ.of n1).inner hl
     have Hk:(below nd.keys key+if key∈nd.keys/\nd.leaf=false then 1 else 0)=eH nd.keys key:=by simp only[eH,hl,and_true]
     have fN:=(nJ eJ key).1
     have tQ:nd.kids[eH nd.keys key]?=some (nd.kids[eH nd.keys key]'(by omega)):=zA (by omega)
     have lR:kF nd key=(((eH nd.keys key:Nat):Int),decide (key∈nd.keys)):=by simp only[kF,n1,if_true,Hk]
     obtain ⟨cc,e1,e2,e3⟩:=gf (g4 _ (zP (show eH nd.keys key<nd.kids.length by omega)))
     have Ue:iP p.read key (f+1) (a+1)=iP p.read key f cc:=by
      simp only[iP,hn,hl,zK,if_false,tQ,e1,zl]
     have bG:=uA hdy (i:=eH nd.keys key) (c:=[iV cc]) (k:=.i64) (by rw[zM,tQ,e1];rfl)
     rw[Ue]
     simp[lS,lR,hl,bG,t9,w1,-ag,-Int.natCast_add]
     exact ⟨f,by omega,cc,dd+1,by omega,rfl,rfl,t0,t1,iJ _,rfl⟩
    |true =>
     have Hk:(below nd.keys key+if key∈nd.keys/\nd.leaf=false then 1 else 0)=below nd.keys key:=by simp[hl]
     have lR:kF nd key=(((below nd.keys key:Nat):Int),decide (key∈nd.keys)):=by simp only[kF,n1,if_true,Hk]
     by_cases hm:key∈nd.keys
     ·obtain ⟨l1,l2,l3⟩:=(aZ.of n1).leaf hl
      obtain ⟨fN,_⟩:=zB.1 ((kW eJ key).1 hm)
      have lQ:nd.items[below nd.keys key]?=some (nd.items[below nd.keys key]'(by omega)):=zA (by omega)
      have CS:=l3 _ (zP (show below nd.keys key<nd.items.length by omega))
      have bG:=uA hiy (i:=below nd.keys key) (c:=(nd.items[below nd.keys key]'(by omega)).cells) (k:=.i64) (by rw[zM,lQ];rfl)
      have Ue:iP p.read key (f+1) (a+1)=(jq p.read (nd.items[below nd.keys key]'(by omega))).map some:=by
       simp only[iP,hn,hl,if_true,hm,lQ]
      rw[Ue]
      generalize nd.items[below nd.keys key]'(by omega)=x at *
      have Bz:x.cells=[.str x.v,iV x.p,iV x.s]:=rfl
      obtain ⟨fW,sN,r4,ro4⟩:=f38 (aeD (some [[.v (.bool true),.rs k1 k2 (nd.keys.map aN) k3,.rs i1 i2 (nd.items.map bD.cells) i3,.rs d1 d2 (nd.kids.map bC) d3]])) CS
      rw[Bz]at bG r4
      simp[lS,lR,hl,hm,bG,t0,-ag]
      refine ae (by simpa [hl] using r4) ?_
      cases hv:jq p.read x with
      |none =>
       simp[B6]
       exact ⟨rfl,(iJ _).trans ro4⟩
      |some vv =>
       simp[B6]
       exact ⟨rfl,(iJ _).trans ro4⟩
     ·have Ue:iP p.read key (f+1) (a+1)=some none:=by simp only[iP,hn,hl,if_true,hm,if_false]
      rw[Ue]
      simp[lS,lR,hl,hm]
      exact ⟨rfl,iJ _⟩
end Go.Ai
namespace Go.Ai
open Go.Bt
def kf (n:Nat):List AV:=[iV n]
def fh (rp root:Nat) (x y:AV):bN:=[[.ptr rp 0 0,iV root,x,y]]
structure th (hp:Heap) (nx rt rp rd root:Nat) (x y:AV) (Fp:List Nat) (t:T) (rootS:Bs) (view:Nat->Bs) (B:Nat):Prop where
 nd:(rt::(bf x++(bf y++Fp))).Nodup
 lt:rt<nx
 ix:hp rt=some (fh rp root x y)
 hx:dD hp nx 1 (t.put.map kf) x
 hy:dD hp nx 1 (t.old.map kf) y
 pg:ja hp nx rp rd Fp t.p rootS view B
 lp:t.put.length<=B
 lo:t.old.length<=B
 ok:eh view t.p.gen rootS
def dE (hp:Heap) (nx rt rp rd:Nat) (F:List Nat) (root:Nat) (t:T) (rootS:Bs) (B:Nat):Prop:=∃x y Fp view,th hp nx rt rp rd root x y Fp t rootS view B/\F=rt::(bf x++(bf y++Fp))
theorem dD.lt {hp nx sz es x} (h:dD hp nx sz es x):∀r∈bf x,r<nx:=by
 rcases h with ⟨_,rfl⟩|⟨r,h1,rfl,_⟩
 ·simp
 ·simpa using h1
theorem rq (x:AV):(bf x).Nodup:=by cases x<;>simp[bf]
theorem th.KE {hp nx rt rp rd root x y Fp t rootS view B} (h:th hp nx rt rp rd root x y Fp t rootS view B) (hB:B<=1000000000):Gg hp nx rt rp rd Fp t.p rootS view B:=⟨⟨_,h.ix⟩,h.lt,h.pg,hB⟩
theorem th.ah {hp nx rt rp rd root x y Fp t rootS view B hp' nx'} (h:th hp nx rt rp rd root x y Fp t rootS view B) (hn:nx<=nx') (hk:∀r∈rt::(bf x++(bf y++Fp)),hp' r=hp r):th hp' nx' rt rp rd root x y Fp t rootS view B :=
 ⟨h.nd,zU h.lt hn,by rw[hk rt (by simp)];exact h.ix,h.hx.ah hn fun r hr=>hk r (by simp[hr]),h.hy.ah hn fun r hr=>hk r (by simp[hr]),h.pg.ah hn fun r hr=>hk r (by simp[hr]),h.lp,h.lo,h.ok⟩
theorem th.Ix {hp nx rt rp rd root x y Fp t rootS view B} (h:th hp nx rt rp rd root x y Fp t rootS view B):∀r∈rt::(bf x++(bf y++Fp)),r<nx:=by
 intro r hr
 simp only[zH,zJ]at hr
 rcases hr with rfl|hr|hr|hr
 ·exact h.lt
 ·exact h.hx.lt r hr
 ·exact h.hy.lt r hr
 ·exact h.pg.lt r hr
theorem dE.ah {hp nx rt rp rd F root t rootS B hp' nx'} (h:dE hp nx rt rp rd F root t rootS B) (hn:nx<=nx') (hk:∀r∈F,hp' r=hp r):dE hp' nx' rt rp rd F root t rootS B:=by
 obtain ⟨x,y,Fp,view,h1,rfl⟩:=h
 exact ⟨x,y,Fp,view,h1.ah hn hk,rfl⟩
theorem dE.lt {hp nx rt rp rd F root t rootS B} (h:dE hp nx rt rp rd F root t rootS B):∀r∈F,r<nx:=by
 obtain ⟨x,y,Fp,view,h1,rfl⟩:=h
 exact h1.Ix
theorem dE.ro {hp nx rt rp rd F root t rootS B hp' nx'} (h:dE hp nx rt rp rd F root t rootS B) (k:Ro hp nx hp' nx'):dE hp' nx' rt rp rd F root t rootS B:=h.ah k.le fun r hr=>k.ah r (h.lt r hr)
theorem dE.more {hp nx rt rp rd F root t rootS B B'} (h:dE hp nx rt rp rd F root t rootS B) (hb:B<=B'):dE hp nx rt rp rd F root t rootS B':=by
 obtain ⟨x,y,Fp,view,h1,rfl⟩:=h
 exact ⟨x,y,Fp,view,⟨h1.nd,h1.lt,h1.ix,h1.hx,h1.hy,h1.pg.more hb,by have:=h1.lp;omega,by have:=h1.lo;omega,h1.ok⟩,rfl⟩
theorem ja.nodup {hp nx rp rd F p root view B} (h:ja hp nx rp rd F p root view B):F.Nodup:=by
 obtain ⟨cU,rm,Fd,h1,rfl⟩:=h
 exact h1.nd
theorem th.step {hp nx rt rp rd root x y Fp t rootS view B} (h:th hp nx rt rp rd root x y Fp t rootS view B) {hp':Heap} {nx' root':Nat} {x' y':AV} {put' old':List Nat} {B':Nat} (hn:nx<=nx')
  (hk:∀r,r<nx->r≠rt->r∉bf x->r∉bf y->hp' r=hp r) (ix:hp' rt=some (fh rp root' x' y')) (hx:dD hp' nx' 1 (put'.map kf) x') (hy:dD hp' nx' 1 (old'.map kf) y')
  (sx:∀r∈bf x',r∈bf x\/nx<=r) (sy:∀r∈bf y',r∈bf y\/nx<=r) (hd:∀r∈bf x',r∉bf y') (hB:B<=B') (lp:put'.length<=B') (lo:old'.length<=B') :
  th hp' nx' rt rp rd root' x' y' Fp ⟨t.p,put',old'⟩ rootS view B'/\Fr (rt::(bf x++(bf y++Fp))) hp nx (rt::(bf x'++(bf y'++Fp))) hp' nx':=by
 have w8:=h.nd
 rw[zp,zq,zq]at w8
 simp only[zJ,not_or]at w8
 obtain ⟨⟨e1,e2,e3⟩,e4,⟨e5,e6,e7⟩,e8⟩:=w8
 have az:=h.lt
 have hFp:=h.pg.lt
 refine ⟨⟨?_,zU h.lt hn,ix,hx,hy,(h.pg.ah hn fun r hr=>hk r (hFp r hr) (fun e=>e3 (e▸hr)) (fun e=>e8 r e r (.inr hr) rfl) (fun e=>e7 r e r hr rfl)).more hB,lp,lo,h.ok⟩,⟨hn,fun r u1 u2 => ?_,fun r hr => ?_⟩⟩
 ·rw[zp,zq,zq]
  simp only[zJ,not_or]
  refine ⟨⟨fun e=>(sx _ e).elim e1 (by omega),fun e=>(sy _ e).elim e2 (by omega),e3⟩,rq x',⟨rq y',e6,fun a ha b hb e => ?_⟩,fun a ha b hb e => ?_⟩
  ·subst e
   rcases sy a ha with h1|h1
   ·exact e7 a h1 a hb rfl
   ·have:=hFp a hb;omega
  ·subst e
   rcases hb with hb|hb
   ·exact hd a ha hb
   ·rcases sx a ha with h1|h1
    ·exact e8 a h1 a (.inr hb) rfl
    ·have:=hFp a hb;omega
 ·simp only[zH,zJ,not_or]at u2
  exact hk r u1 u2.1 u2.2.1 u2.2.2.1
 ·simp only[zH,zJ]at hr ⊢
  rcases hr with hr|hr|hr|hr
  ·exact .inl (.inl hr)
  ·exact (sx r hr).imp (fun e=>.inr (.inl e)) id
  ·exact (sy r hr).imp (fun e=>.inr (.inr (.inl e))) id
  ·exact .inl (.inr (.inr (.inr hr)))
theorem th.nds {hp nx rt rp rd root x y Fp t rootS view B} (h:th hp nx rt rp rd root x y Fp t rootS view B):rt∉bf x/\rt∉bf y/\rt∉Fp/\(∀r∈bf x,r∉bf y/\r∉Fp)/\∀r∈bf y,r∉Fp:=by
 have w8:=h.nd
 rw[zp,zq,zq]at w8
 simp only[zJ,not_or]at w8
 obtain ⟨⟨e1,e2,e3⟩,e4,⟨e5,e6,e7⟩,e8⟩:=w8
 exact ⟨e1,e2,e3,fun r hr=>⟨fun e=>e8 r hr r (.inl e) rfl,fun e=>e8 r hr r (.inr e) rfl⟩,fun r hr e=>e7 r hr r e rfl⟩
theorem th.vr {hp nx rt rp rd root x y Fp t rootS view B} (h:th hp nx rt rp rd root x y Fp t rootS view B) {hp' nx' Kg p' kw ej B'} (hP:ja hp' nx' rp rd Kg p' kw ej B') (hF:Fr Fp hp nx Kg hp' nx') (hB:B<=B') (vG:eh ej p'.gen kw) :
  th hp' nx' rt rp rd root x y Kg ⟨p',t.put,t.old⟩ kw ej B'/\Fr (rt::(bf x++(bf y++Fp))) hp nx (rt::(bf x++(bf y++Kg))) hp' nx':=by
 obtain ⟨e1,e2,e3,e4,e5⟩:=h.nds
 have az:=h.lt
 have hle:=hF.le
 have CN:=h.hx.lt
 have IK:=h.hy.lt
 refine ⟨⟨?_,by omega,by rw[hF.ah rt az e3];exact h.ix,h.hx.ah hle fun r hr=>hF.ah r (CN r hr) (e4 r hr).2,h.hy.ah hle fun r hr=>hF.ah r (IK r hr) (e5 r hr),hP,by have:=h.lp;show t.put.length<=B';omega,by have:=h.lo;show t.old.length<=B';omega,vG⟩,⟨hle,fun r u1 u2 => ?_,fun r hr => ?_⟩⟩
 ·rw[zp,zq,zq]
  simp only[zJ,not_or]
  refine ⟨⟨e1,e2,fun e=>(hF.sub _ e).elim e3 (by omega)⟩,rq x,⟨rq y,hP.nodup,fun a ha b hb e => ?_⟩,fun a ha b hb e => ?_⟩
  ·subst e
   rcases hF.sub a hb with h1|h1
   ·exact e5 a ha h1
   ·have:=IK a ha;omega
  ·subst e
   rcases hb with hb|hb
   ·exact (e4 a ha).1 hb
   ·rcases hF.sub a hb with h1|h1
    ·exact (e4 a ha).2 h1
    ·have:=CN a ha;omega
 ·simp only[zH,zJ,not_or]at u2
  exact hF.ah r u1 u2.2.2.2
 ·simp only[zH,zJ]at hr ⊢
  rcases hr with hr|hr|hr|hr
  ·exact .inl (.inl hr)
  ·exact .inl (.inr (.inl hr))
  ·exact .inl (.inr (.inr (.inl hr)))
  ·exact (hF.sub r hr).imp (fun e=>.inr (.inr (.inr e))) id
theorem eh.view {view ej gen root} (h:eh view gen root) (e:∀m,m<2->ej m=view m):eh ej gen root:=by
 have e1:=e (gen % 2) (jC _ (by omega))
 have e2:=e ((gen+1) % 2) (jC _ (by omega))
 exact ⟨h.one,h.le,by rw[e1];exact h.at',by rw[e1];exact h.lt,⟨by rw[e2];exact h.other.lt,fun g s hg=>h.other.le g s (by rw[<-e2];exact hg)⟩⟩
def gV:Except Nat Nat->AV
 |.ok n=>.bE [iV n,.v (.int .i64 0)]
 |.error e=>.bE [.v (.int .i64 0),iV e]
theorem f81 {hp nx rt rp rd F root t rootS B} (h:dE hp nx rt rp rd F root t rootS B) {kind:Nat} {s:Bs} (hk:kind<=255) (hs:s.length<=492) (hB:B<=900000000) :
  ∃hp' nx' F',aY E 81 [.ptr rt 0 0,iV kind,.str s] hp nx (gV (nI t kind s).1) hp' nx' .e/\dE hp' nx' rt rp rd F' root (nI t kind s).2 rootS (B+1)/\Fr F hp nx F' hp' nx':=by
 have main:=an (P:=fun v hp' nx'=>v=gV (nI t kind s).1/\∃F',dE hp' nx' rt rp rd F' root (nI t kind s).2 rootS (B+1)/\Fr F hp nx F' hp' nx') e81 (args:=[.ptr rt 0 0,iV kind,.str s]) rfl (hp:=hp) (nx:=nx) ?_
 ·obtain ⟨v,hp',nx',h1,rfl,F',h2⟩:=main
  exact ⟨hp',nx',F',h1,h2⟩
 obtain ⟨x,y,Fp,view,h1,rfl⟩:=h
 obtain ⟨hp1,nx1,S8,Th,r1,Mf,nn,vE⟩:=f123 h1.pg hk hs (by omega)
 have q:=h1.ix
 simp only[fh]at q
 unfold nI
 simp[c81,q]
 refine ae r1 ?_
 cases lG:t.p.put kind s with
 |none =>
  rw[lG]at Mf
  obtain ⟨oF,iu⟩:=h1.vr (p':=t.p) Mf nn (by omega) (h1.ok.view vE)
  simp[gV]
  exact ⟨_,⟨x,y,S8,Th,oF,rfl⟩,iu⟩
 |some r =>
  obtain ⟨n,p1⟩:=r
  rw[lG]at Mf
  have WY:p1.gen=t.p.gen:=(PM.oU lG).2.2.2.2.1
  obtain ⟨oF,iu⟩:=h1.vr (p':=p1) Mf nn (by omega) (by rw[WY];exact h1.ok.view vE)
  have q1:=oF.ix
  simp only[fh]at q1
  obtain ⟨e1,e2,e3,e4,e5⟩:=oF.nds
  have CN:=oF.hx.lt
  have IK:=oF.hy.lt
  have az:=oF.lt
  have oh:=oF.lp
  obtain ⟨aT,a1,a2,a3⟩:=oF.hx.xO (bytes:=8) (new:=[kf n]) (by simp) (by simp;simp only at oh;omega)
  have Hn:∀(h:Heap) (es:bN) (c:Option Nat),aR h 1 (.rs false 1 es c)=some es:=fun _ _ _=>rfl
  have US:cI 1 8 x [[iV n]] hp1 nx1=some (.sl nx1 1 0 (t.put.length+1) none,aT,nx1+1):=by simpa [kf] using a1
  have q2:aT rt=some [[.ptr rp 0 0,iV root,x,y]]:=by rw[a3 rt (by omega) e1];exact q1
  have bU:=oF.step (hp':=ab aT rt (some (fh rp root (.sl nx1 1 0 (t.put.length+1) none) y))) (nx':=nx1+1) (root':=root) (x':=.sl nx1 1 0 (t.put.length+1) none) (y':=y) (put':=t.put++[n]) (old':=t.old) (B':=B+1) (by omega)
   (fun r u1 u2 u3 u4=>by simp[u2];exact a3 r (by omega) u3) (by simp)
   (.inr ⟨nx1,by omega,by simp,by simp[show ¬nx1=rt by omega,a2]⟩)
   (oF.hy.ah (by omega) fun r hr=>by
    have h1:=IK r hr
    simp[show ¬r=rt from fun e=>e2 (e▸hr)]
    exact a3 r (by omega) fun e=>(e4 r e).1 hr)
   (fun r hr=>by simp at hr;exact .inr (by omega)) (fun r hr=>.inl hr) (fun r hr e=>by simp at hr;have:=IK r e;omega) (by omega) (by simp;simp only at oh;have:=h1.lp;omega) (by have:=h1.lo;omega)
  obtain ⟨mi,ir⟩:=bU
  simp[gV,q1,bu,Hn,AV.one,US,q2,aa]
  exact ⟨_,⟨_,y,S8,Th,mi,rfl⟩,iu.trans ir⟩
end Go.Ai
namespace Go.Ai
open Go.Bt
theorem cN {hp:Heap} {nx:Nat} {b:Option bN}:Ro hp nx (ab hp nx b) (nx+1):=⟨by omega,fun r hr=>by simp[show ¬r=nx by omega]⟩
def X4 (n:Nd):Prop:=n.keys.length<=50000/\n.items.length<=50000/\n.kids.length<=50000
theorem f131 {hp nx rt rp rd F root t rootS B} (h:dE hp nx rt rp rd F root t rootS B) {n:Nd} {x:AV} (hx:iD n x) (hf:X4 n) (hB:B<=900000000) :
  ∃hp' nx' F',aY E 131 [.ptr rt 0 0,x] hp nx (gV (aV t n).1) hp' nx' .e/\dE hp' nx' rt rp rd F' root (aV t n).2 rootS (B+1)/\Fr F hp nx F' hp' nx':=by
 have main:=an (P:=fun v hp' nx'=>v=gV (aV t n).1/\∃F',dE hp' nx' rt rp rd F' root (aV t n).2 rootS (B+1)/\Fr F hp nx F' hp' nx') e131 (args:=[.ptr rt 0 0,x]) rfl (hp:=hp) (nx:=nx) ?_
 ·obtain ⟨v,hp',nx',h1,rfl,F',h2⟩:=main
  exact ⟨hp',nx',F',h1,h2⟩
 have r1:=f144 n x hx (by have:=hf.1;omega) (by have:=hf.2.1;omega) (by have:=hf.2.2;omega)
 have h1:=h.ro (cN (b:=some [x.cells]))
 have NY:=(cN (hp:=hp) (nx:=nx) (b:=some [x.cells])).fr F
 obtain ⟨b0,k1,k2,k3,k4,i1,i2,i3,i4,d1,d2,d3,d4,rfl⟩:=hx.shape
 simp only[AV.cells]at h1 NY
 simp[c131]
 refine ap (r1 _ _) ?_
 unfold aV HJ
 by_cases hr:ax n=true
 ·have ew:aw n=(ba n).length:=by simp[aw,hr]
  by_cases hs:aw n<=492
  ·have jt:¬(ba n).length>492:=by omega
   have tj:(dT n).toNat<=255:=by unfold dT;split<;>omega
   obtain ⟨aT,ar,F2,r2,jd,iu⟩:=f81 h1 (kind:=(dT n).toNat) (s:=ba n) tj (by omega) hB
   have tQ:(if n.leaf=true then (1:Int) else 2)=((dT n).toNat:Int):=by unfold dT;split<;>rfl
   rw[if_pos ⟨hr,hs⟩]
   simp only[hr,jt,if_true,if_false,tQ]
   generalize (dT n).toNat=kk at *
   simp[C9]
   refine ae r2 ?_
   cases hl:(nI t kk (ba n)).1 with
   |ok a=>simp[gV];exact ⟨F2,jd,NY.trans iu⟩
   |error e=>simp[gV];exact ⟨F2,jd,NY.trans iu⟩
  ·have jt:(ba n).length>492:=by omega
   rw[if_neg (fun e=>hs e.2)]
   simp only[hr,jt,if_true]
   simp[C9,gV]
   exact ⟨F,h1.more (by omega),NY⟩
 ·rw[if_neg (fun e=>hr e.1)]
  have sr:ax n=false:=by simpa using hr
  simp only[sr,zK,if_false]
  simp[C9,gV]
  exact ⟨F,h1.more (by omega),NY⟩
theorem dE.cQ {hp nx rt rp rd F root t rootS B q b} (h:dE hp nx rt rp rd F root t rootS B) (hq:q∉F):dE (ab hp q b) nx rt rp rd F root t rootS B :=
 h.ah (zD _) fun r hr=>by simp[show ¬r=q from fun e=>hq (e▸hr)]
theorem Fr.cQ {F hp nx F' hp' nx' q b} (h:Fr F hp nx F' hp' nx') (hq:nx<=q):Fr F hp nx F' (ab hp' q b) nx' :=
 ⟨h.le,fun r u1 u2=>by simp[show ¬r=q by omega];exact h.ah r u1 u2,h.sub⟩
def KB (o:Except Nat Nd) (v:AV):Prop:=match o with
 |.ok n=>∃y,iD n y/\v=.bE [y,.v (.int .i64 0)]
 |.error e=>v=.bE [eC,iV e]
theorem f132 {hp nx rt rp rd F root t rootS B} (h:dE hp nx rt rp rd F root t rootS B) (a:Nat) (hB:B<=900000000) :
  ∃v hp' nx' F',aY E 132 [.ptr rt 0 0,iV a] hp nx v hp' nx' .e/\KB (eD t a).1 v/\dE hp' nx' rt rp rd F' root (eD t a).2 rootS (B+1)/\Fr F hp nx F' hp' nx':=by
 have main:=an (P:=fun v hp' nx'=>KB (eD t a).1 v/\∃F',dE hp' nx' rt rp rd F' root (eD t a).2 rootS (B+1)/\Fr F hp nx F' hp' nx') e132 (args:=[.ptr rt 0 0,iV a]) rfl (hp:=hp) (nx:=nx) ?_
 ·obtain ⟨v,hp',nx',h1,h2,F',h3⟩:=main
  exact ⟨v,hp',nx',F',h1,h2,h3⟩
 have hz:AV.cells eC=[.v (.bool false),nS,nS,nS]:=rfl
 have cX:Ro hp nx (ab hp nx (some [[.v (.bool false),nS,nS,nS]])) (nx+1):=cN
 have h1:=h.ro cX
 have tn:(ab hp nx (some [[.v (.bool false),nS,nS,nS]])) nx=some [[.v (.bool false),nS,nS,nS]]:=by simp
 generalize fw:ab hp nx (some [[.v (.bool false),nS,nS,nS]])=H1 at *
 obtain ⟨x,y,Fp,view,hI,Xg⟩:=h1
 obtain ⟨v2,aT,ar,r2,q2,vm⟩:=f36 (hI.KE (by omega)) a
 have AO:=vm.le
 have vJ:aT nx=some [[.v (.bool false),nS,nS,nS]]:=by rw[vm.ah nx (by omega)];exact tn
 have L8:¬nx=ar:=by omega
 have agp:¬ar=nx:=by omega
 have iJ:∀b,Ro H1 (nx+1) (ab aT ar b) (ar+1):=fun b=>vm.trans cN
 simp[c132,fw]
 refine ae r2 ?_
 unfold sm at q2
 unfold eD
 cases hn:fS t.p.read a with
 |none =>
  rw[hn]at q2
  subst q2
  simp[eC,aa,aG,vJ,L8]
  have aaO:Ro hp nx (ab (ab aT ar (some [[.v (.bool false),nS,nS,nS]])) nx (some [[.v (.bool false),nS,nS,nS]])) (ar+1) :=
   ⟨by omega,fun r hr=>by simp[show ¬r=nx by omega,show ¬r=ar by omega];rw[vm.ah r (by omega)];exact cX.ah r hr⟩
  exact ⟨by simp[KB,eC],F,(h.ro aaO).more (by omega),aaO.fr F⟩
 |some nd =>
  rw[hn]at q2
  obtain ⟨z,V5,rfl⟩:=q2
  obtain ⟨b0,k1,k2,k3,k4,i1,i2,i3,i4,d1,d2,d3,d4,rfl⟩:=V5.shape
  have aaQ:Ro hp nx (ab aT ar (some [[.v (.bool b0),.rs k1 k2 k3 k4,.rs i1 i2 i3 i4,.rs d1 d2 d3 d4]])) (ar+1):=cX.trans (iJ _)
  have ju:=hI.ah (iJ (some [[.v (.bool b0),.rs k1 k2 k3 k4,.rs i1 i2 i3 i4,.rs d1 d2 d3 d4]])).le fun r hr=>(iJ (some [[.v (.bool b0),.rs k1 k2 k3 k4,.rs i1 i2 i3 i4,.rs d1 d2 d3 d4]])).ah r (hI.Ix r hr)
  have q3:=ju.ix
  simp only[fh]at q3
  have Sr:(ab aT ar (some [[.v (.bool b0),.rs k1 k2 k3 k4,.rs i1 i2 i3 i4,.rs d1 d2 d3 d4]])) nx=some [[.v (.bool false),nS,nS,nS]]:=by simp[L8,vJ]
  have YH:(ab aT ar (some [[.v (.bool b0),.rs k1 k2 k3 k4,.rs i1 i2 i3 i4,.rs d1 d2 d3 d4]])) ar=some [[.v (.bool b0),.rs k1 k2 k3 k4,.rs i1 i2 i3 i4,.rs d1 d2 d3 d4]]:=by simp
  have q2':aT rt=some [[.ptr rp 0 0,iV root,x,y]]:=by rw[vm.ah rt hI.lt];exact hI.ix
  have Lz:∃H3,H3=ab aT ar (some [[.v (.bool b0),.rs k1 k2 k3 k4,.rs i1 i2 i3 i4,.rs d1 d2 d3 d4]]):=⟨_,rfl⟩
  obtain ⟨H3,Lz⟩:=Lz
  rw[<-Lz]at aaQ ju q3 Sr YH
  obtain ⟨e1,e2,e3,e4,e5⟩:=ju.nds
  have CN:=ju.hx.lt
  have IK:=ju.hy.lt
  have aeS:=ju.lt
  have oE:=ju.lo
  obtain ⟨fW,a1,a2,a3⟩:=ju.hy.xO (bytes:=8) (new:=[kf a]) (by simp) (by simp;omega)
  have Hn:∀(h:Heap) (es:bN) (c:Option Nat),aR h 1 (.rs false 1 es c)=some es:=fun _ _ _=>rfl
  have US:cI 1 8 y [[iV a]] H3 (ar+1)=some (.sl (ar+1) 1 0 (t.old.length+1) none,fW,ar+1+1):=by simpa [kf] using a1
  have q4:fW rt=some [[.ptr rp 0 0,iV root,x,y]]:=by rw[a3 rt (by omega) e2];exact q3
  have je:=h.lt
  have QL:nx∉F:=fun e=>by have:=je nx e;omega
  have aaf:ar∉F:=fun e=>by have:=je ar e;omega
  have nrt:¬nx=rt:=fun e=>QL (by rw[Xg,e];simp)
  have aah:¬ar=rt:=fun e=>aaf (by rw[Xg,e];simp)
  have ny:nx∉bf y:=fun e=>QL (by rw[Xg];simp[e])
  have ny2:ar∉bf y:=fun e=>aaf (by rw[Xg];simp[e])
  obtain ⟨uO,gH⟩:=ju.step (hp':=ab fW rt (some (fh rp root x (.sl (ar+1) 1 0 (t.old.length+1) none)))) (nx':=ar+1+1) (root':=root) (x':=x) (y':=.sl (ar+1) 1 0 (t.old.length+1) none) (put':=t.put) (old':=t.old++[a]) (B':=B+1) (by omega)
   (fun r u1 u2 u3 u4=>by simp[u2];exact a3 r (by omega) u4) (by simp)
   (ju.hx.ah (by omega) fun r hr=>by
    have h1:=CN r hr
    simp[show ¬r=rt from fun e=>e1 (e▸hr)]
    exact a3 r (by omega) (e4 r hr).1)
   (.inr ⟨ar+1,by omega,by simp,by simp[show ¬ar+1=rt by omega,a2]⟩)
   (fun r hr=>.inl hr) (fun r hr=>by simp at hr;exact .inr (by omega)) (fun r hr e=>by simp at e;have:=CN r hr;omega) (by omega) (by have:=ju.lp;omega) (by simp;omega)
  have hb5:fW nx=some [[.v (.bool false),nS,nS,nS]]:=by rw[a3 nx (by omega) ny];exact Sr
  have hb6:fW ar=some [[.v (.bool b0),.rs k1 k2 k3 k4,.rs i1 i2 i3 i4,.rs d1 d2 d3 d4]]:=by rw[a3 ar (by omega) ny2];exact YH
  rw[Lz]at US
  simp[aa,aG,show ¬rt=ar from fun e=>aah e.symm,q2',bu,Hn,AV.one,US,q4,nrt,aah,hb5,hb6]
  have hFb:Fr F hp nx (rt::(bf x++(bf (.sl (ar+1) 1 0 (t.old.length+1) none)++Fp))) (ab fW rt (some (fh rp root x (.sl (ar+1) 1 0 (t.old.length+1) none)))) (ar+1+1):=by
   have h0:=aaQ.fr F
   rw[Xg]at h0 ⊢
   exact h0.trans gH
  have hTH:dE (ab fW rt (some (fh rp root x (.sl (ar+1) 1 0 (t.old.length+1) none)))) (ar+1+1) rt rp rd _ root ⟨t.p,t.put,t.old++[a]⟩ rootS (B+1):=⟨x,_,Fp,view,uO,rfl⟩
  refine ⟨⟨_,V5,rfl⟩,_,hTH.cQ ?_,hFb.cQ (zD _)⟩
  simp only[zH,zJ,xW,wO,or_false]
  rintro (e|e|e|e)
  ·exact nrt e
  ·exact QL (by rw[Xg];simp[e])
  ·omega
  ·exact QL (by rw[Xg];simp[e])
end Go.Ai
namespace Go.Ai
open Go.Bt
theorem Cj {x m k:Nat} (hm:m=2 ^ k) (hk:k<=24) {kk:IntKind}:dN .shr (iV x) (.v (.int kk (k:Int)))=some (iV (x / m:Nat)):=by
 subst hm
 have h2:Nat.min (k:Int).toNat (IntKind.bits .i64)=k:=by simp only[zl];show Nat.min k 64=k;exact qJ (by omega)
 show Cn .shr .i64 (x:Int) (k:Int)=_
 simp only[Cn]
 rw[if_neg (by omega),h2]
 have e2:(2:Int) ^ k=((2 ^ k:Nat):Int):=by norm_cast
 rw[e2,qD _ (jK _)]
 norm_cast
theorem ZR (x:Nat) (kk:IntKind):dN .shr (iV x) (.v (.int kk 24))=some (iV (x / 16777216:Nat)):=Cj (k:=24) (by decide) (by omega)
theorem ZS (x:Nat) (kk:IntKind):dN .shr (iV x) (.v (.int kk 16))=some (iV (x / 65536:Nat)):=Cj (k:=16) (by decide) (by omega)
theorem adY (x:Nat) (kk:IntKind):dN .shr (iV x) (.v (.int kk 8))=some (iV (x / 256:Nat)):=Cj (k:=8) (by decide) (by omega)
theorem H8 (x:Nat):IntKind.wrap .u8 (x:Int)=((UInt8.ofNat (x % 256)).toNat:Int):=by
 rw[IntKind.wrap_u8];simp
theorem aag (x:Nat):aO x 4=[UInt8.ofNat (x / 16777216 % 256),UInt8.ofNat (x / 65536 % 256),UInt8.ofNat (x / 256 % 256),UInt8.ofNat (x % 256)]:=by
 simp[aO,qp]
theorem four (x:Nat):∃a b c:Int,(∀kk,dN .shr (iV x) (.v (.int kk 24))=some (iV a))/\(∀kk,dN .shr (iV x) (.v (.int kk 16))=some (iV b))/\(∀kk,dN .shr (iV x) (.v (.int kk 8))=some (iV c)) /\
  eT [[.v (.int .u8 (IntKind.wrap .u8 a))],[.v (.int .u8 (IntKind.wrap .u8 b))],[.v (.int .u8 (IntKind.wrap .u8 c))],[.v (.int .u8 (IntKind.wrap .u8 (x:Int)))]]=some (aO x 4):=by
 refine ⟨_,_,_,ZR x,ZS x,adY x,?_⟩
 rw[H8,H8,H8,H8,aag]
 exact dI [UInt8.ofNat (x / 16777216 % 256),UInt8.ofNat (x / 65536 % 256),UInt8.ofNat (x / 256 % 256),UInt8.ofNat (x % 256)]
theorem RF (L m:Nat):KY (iV L) (iV (m+488:Nat))=some (.v (.int .i64 ((min L (m+488):Nat):Int))):=by
 have h:min (L:Int) ((m+488:Nat):Int)=((min L (m+488):Nat):Int):=by omega
 by_cases hc:((m+488:Nat):Int)<(L:Int)
 ·have:((min L (m+488):Nat):Int)=((m+488:Nat):Int):=by omega
  simp only[KY,this,hc,if_true]
 ·have:((min L (m+488):Nat):Int)=(L:Int):=by omega
  simp only[KY,this,hc,if_false]
theorem SP {v:Bs} {m:Nat} (h:m<=v.length):eW (.str v) (some (iV m)) (some (.v (.int .i64 ((min v.length (m+488):Nat):Int))))=some (.str ((v.drop m).take 488)):=by
 have W7:bV v.length v.length (some (iV m)) (some (.v (.int .i64 ((min v.length (m+488):Nat):Int)))) none=some (m,min v.length (m+488),none):=lW (by omega) (by omega)
 have e:(v.take (min v.length (m+488))).drop m=(v.drop m).take 488:=by
  rw[qt]
  by_cases h:m+488<=v.length
  ·rw[Nat.min_eq_right h,wa]
  ·rw[qJ (by omega),zI (by simp),zI (by simp;omega)]
 simp only[eW,W7,e]
def GC:Except Nat bD->AV
 |.ok x=>.bE [.agg x.cells,.v (.int .i64 0)]
 |.error e=>.bE [.agg [.str [],.v (.int .i64 0),.v (.int .i64 0)],iV e]
theorem f46 {hp nx rt rp rd F root t rootS B} (h:dE hp nx rt rp rd F root t rootS B) {v:Bs} (hv:v.length<=60000) (hN:t.p.st.length<=4096) (hB:B<=800000000) :
  ∃hp' nx' F',aY E 46 [.ptr rt 0 0,.str v] hp nx (GC (dp t v).1) hp' nx' .e/\dE hp' nx' rt rp rd F' root (dp t v).2 rootS (B+200)/\Fr F hp nx F' hp' nx':=by
 have main:=an (P:=fun v' hp' nx'=>v'=GC (dp t v).1/\∃F',dE hp' nx' rt rp rd F' root (dp t v).2 rootS (B+200)/\Fr F hp nx F' hp' nx') e46 (args:=[.ptr rt 0 0,.str v]) rfl (hp:=hp) (nx:=nx) ?_
 ·obtain ⟨v,hp',nx',h1,rfl,F',h2⟩:=main
  exact ⟨hp',nx',F',h1,h2⟩
 have je:=h.lt
 have QL:nx∉F:=fun e=>by have:=je nx e;omega
 by_cases hs:v.length<=60
 ·have Wm:(v.length:Int)<=60:=by omega
  have bZ:∀b,Ro hp nx (ab hp nx b) (nx+1):=fun b=>cN
  simp[c46,Wm,aa,aG]
  unfold dp
  rw[if_pos hs]
  exact ⟨by simp[GC,bD.cells],F,(h.ro (bZ _)).more (by omega),(bZ _).fr F⟩
 ·have Wm:¬(v.length:Int)<=60:=by omega
  have fa:dp t v=rb (sR v ((v.length-1) / 488+1) 0 t) fun n t=>(.ok ⟨[],n,v.length⟩,t):=by unfold dp;rw[if_neg hs]
  have YD:(v.length-1) / 488<=122:=by omega
  have w1:IntKind.wrap .i64 ((v.length:Int)-1)=((v.length-1:Nat):Int):=by rw[aj]<;>omega
  have w2:IntKind.wrap .i64 (((v.length-1:Nat):Int) / 488)=(((v.length-1) / 488:Nat):Int):=by
   rw[aj]<;>omega
  have w3:IntKind.wrap .i64 ((((v.length-1) / 488:Nat):Int)*488)=((488*((v.length-1) / 488):Nat):Int):=by rw[aj]<;>omega
  have NB:Ro hp nx (ab hp nx (some [[.str [],iV 0,iV 0]])) (nx+1):=cN
  have hT0:=h.ro NB
  have IZ:=NB.fr F
  have tW:(ab hp nx (some [[.str [],iV 0,iV 0]])) nx=some [[.str [],iV 0,iV 0]]:=by simp
  simp[c46,Wm,w1,w2,w3,-Int.natCast_mul,-Int.natCast_ediv]
  generalize ab hp nx (some [[.str [],iV 0,iV 0]])=H at *
  generalize tj:(v.length-1) / 488=kk at *
  refine aM (I:=fun (g:Nat×Nat×T×List Nat) s=>g.1<=kk+1/\(∃q:Int,s.tm 7=iV q/\q=488*(g.1:Int)-488)/\s.tm 6=iV g.2.1/\s.tm 1=.str v/\s.tm 0=.ptr rt 0 0/\s.tm 4=.ptr nx 0 0 /\
    s.hp nx=some [[.str [],iV 0,iV 0]]/\nx∉g.2.2.2/\nx<s.nx/\g.2.1<4294967296/\g.2.2.1.p.st.length<=4096/\dE s.hp s.nx rt rp rd g.2.2.2 root g.2.2.1 rootS (B+(kk+1-g.1))/\Fr F hp nx g.2.2.2 s.hp s.nx /\
    sR v (kk+1) 0 t=sR v g.1 g.2.1 g.2.2.1) (fun g=>g.1) (kk+1,0,t,F) ?_ ?_
  ·refine ⟨by simp,⟨((488*kk:Nat):Int),by simp,?_⟩,by simp,by simp,by simp,by simp,tW,QL,by simp only;omega,by simp,hN,by simpa using hT0,IZ,rfl⟩
   simp only
   omega
  rintro ⟨k,next,t1,F1⟩ tm hp1 nx1 ⟨hk,⟨q7,t7,YB⟩,t6,t1',t0,t4,tn,QW,WB,mK,AB,oF,nn,ES⟩
  simp only at hk YB t7 t6 t1' t0 t4 tn QW WB mK AB oF nn ES
  rw[fa,ES]
  cases k with
  |zero =>
   obtain rfl:q7 = -488:=by omega
   have hr:sR v 0 next t1=(.ok next,t1):=rfl
   rw[hr]
   simp[t7,t6,t1',t4,tn,aa]
   refine ⟨by simp[rb,GC,bD.cells],F1,(oF.cQ QW).more (by omega),nn.cQ (zD _)⟩
  |succ k =>
   obtain rfl:q7=((488*k:Nat):Int):=by omega
   have NX:(0:Int)<=((488*k:Nat):Int):=by omega
   have w4:IntKind.wrap .i64 (((488*k:Nat):Int)+488)=((488*k+488:Nat):Int):=by rw[aj]<;>omega
   have w5:IntKind.wrap .i64 (((488*k:Nat):Int)-488)=((488*k:Nat):Int)-488:=by rw[aj]<;>omega
   have ER:488*k<v.length:=by omega
   obtain ⟨m,hm⟩:∃m,m=488*k:=⟨_,rfl⟩
   simp only[<-hm]at t7 NX w4 w5 ER
   have EP:=RF v.length m
   have BB:=SP (v:=v) (m:=m) (by omega)
   obtain ⟨a,b,c,s1,s2,s3,hb⟩:=four next
   have Lm:((v.drop m).take 488).length<=488:=by simp;omega
   have Xa:uy .add (aO next 4) ((v.drop m).take 488)=some (.str (aO next 4++(v.drop m).take 488)):=by
    simp only[uy];rw[if_pos (by rw[aU];omega)]
   obtain ⟨aT,ar,F2,r2,jd,iu⟩:=f81 oF (kind:=3) (s:=aO next 4++(v.drop m).take 488) (by omega) (by rw[zG,aU];omega) (by omega)
   have aa8:nx∉F2:=fun e=>(iu.sub nx e).elim QW (by omega)
   have vJ:aT nx=some [[.str [],iV 0,iV 0]]:=by rw[iu.ah nx WB QW];exact tn
   have AO:=iu.le
   have aeR:sR v (k+1) next t1=rb (nI t1 3 (aO next 4++(v.drop m).take 488)) fun n t=>sR v k n t:=by rw[hm];rfl
   rw[aeR]
   simp[t7,t6,t1',t0,NX,w4,EP,BB,s1,s2,s3,hb,Xa,-Qq,-Int.natCast_add]
   refine ae r2 ?_
   cases hl:(nI t1 3 (aO next 4++(v.drop m).take 488)) with
   |mk r t2 =>
    rw[hl]at jd
    simp only at jd
    cases r with
    |error e =>
     have he:e≠0:=by
      unfold nI at hl
      split at hl
      ·simp only[zPi,reduceCtorEq,false_and]at hl
      ·simp only[zPi,Except.error.injEq]at hl;omega
     have Q3:¬(e:Int)=0:=by omega
     have heD:(decide (e=0))=false:=by simp[he]
     simp[gV,Q3,he,t4,vJ,aa]
     refine ⟨by simp[rb,GC],F2,(jd.cQ aa8).more (by omega),(nn.trans iu).cQ (zD _)⟩
    |ok n =>
     unfold nI at hl
     split at hl
     ·rename_i n0 p0 lG
      simp only[zPi,Except.ok.injEq]at hl
      obtain ⟨rfl,rfl⟩:=hl
      obtain ⟨q1,_,_,_,_,_,q7,_⟩:=PM.oU lG
      have hnb:n0<4096:=by simp[PM.has]at q1;omega
      simp[gV,t7,w5,-Prod.exists]
      refine ⟨(k,n0,⟨p0,t1.put++[n0],t1.old⟩,F2),by simp only;omega,by simp only;omega,by simp only;omega,rfl,t1',t0,t4,vJ,aa8,by omega,by simp only;omega,by simp only;omega,jd.more (by simp only;omega),nn.trans iu,rfl⟩
     ·cases hl
end Go.Ai
namespace Go.Ai
open Go.Bt
theorem th.VA {hp nx rt rp rd root x y Fp t rootS view B} (h:th hp nx rt rp rd root x y Fp t rootS view B) (a:Nat) {B':Nat} (hB:B<=B') (ho:t.old.length+1<=B') (hB9:B'<=1000000000) :
  ∃fW,cI 1 8 y [[iV a]] hp nx=some (.sl nx 1 0 (t.old.length+1) none,fW,nx+1)/\fW rt=some [[.ptr rp 0 0,iV root,x,y]]/\(∀r,r<nx->r∉bf y->fW r=hp r) /\
   ∃F',dE (ab fW rt (some (fh rp root x (.sl nx 1 0 (t.old.length+1) none)))) (nx+1) rt rp rd F' root ⟨t.p,t.put,t.old++[a]⟩ rootS B' /\
    Fr (rt::(bf x++(bf y++Fp))) hp nx F' (ab fW rt (some (fh rp root x (.sl nx 1 0 (t.old.length+1) none)))) (nx+1):=by
 obtain ⟨e1,e2,e3,e4,e5⟩:=h.nds
 have CN:=h.hx.lt
 have aeS:=h.lt
 obtain ⟨fW,a1,a2,a3⟩:=h.hy.xO (bytes:=8) (new:=[kf a]) (by simp) (by simp;omega)
 have US:cI 1 8 y [[iV a]] hp nx=some (.sl nx 1 0 (t.old.length+1) none,fW,nx+1):=by simpa [kf] using a1
 have q4:fW rt=some [[.ptr rp 0 0,iV root,x,y]]:=by rw[a3 rt (by omega) e2];exact h.ix
 obtain ⟨uO,gH⟩:=h.step (hp':=ab fW rt (some (fh rp root x (.sl nx 1 0 (t.old.length+1) none)))) (nx':=nx+1) (root':=root) (x':=x) (y':=.sl nx 1 0 (t.old.length+1) none) (put':=t.put) (old':=t.old++[a]) (B':=B') (by omega)
  (fun r u1 u2 u3 u4=>by simp[u2];exact a3 r (by omega) u4) (by simp)
  (h.hx.ah (by omega) fun r hr=>by
   have h1:=CN r hr
   simp[show ¬r=rt from fun e=>e1 (e▸hr)]
   exact a3 r (by omega) (e4 r hr).1)
  (.inr ⟨nx,by omega,by simp,by simp[show ¬nx=rt by omega,a2]⟩)
  (fun r hr=>.inl hr) (fun r hr=>by simp at hr;exact .inr (by omega)) (fun r hr e=>by simp at e;have:=CN r hr;omega) (by omega) (by have:=h.lp;omega) (by simp;omega)
 exact ⟨fW,US,q4,fun r u1 u2=>a3 r (by omega) u2,_,⟨x,_,Fp,view,uO,rfl⟩,gH⟩
def SyT (rt rp rd root:Nat) (rootS:Bs) (B q:Nat) (p:PM) (put:List Nat) (hp:Heap) (nx:Nat) (F:List Nat) (t:T):Prop :=
 ∃F0,F=q::F0/\q∉F0/\q<nx/\hp q=some [[.ptr rt 0 0]]/\dE hp nx rt rp rd F0 root t rootS B/\t.p=p/\t.put=put
theorem syT {rt rp rd root rootS B q p put} (hB:B<=1000000000):SyS (SyT rt rp rd root rootS B q p put) rt (fun t=>t.p) where
 rd:=fun hp nx F t ⟨F0,e,h1,h2,h3,⟨x,y,Fp,view,h4,_⟩,_⟩=>⟨rp,rd,Fp,rootS,view,B,h4.KE hB⟩
 ah:=fun hp nx F t hp' nx' ⟨F0,e,h1,h2,h3,h4,h5⟩ hn hk=>by
  subst e
  exact ⟨F0,rfl,h1,zU h2 hn,by rw[hk q (by simp)];exact h3,h4.ah hn fun r hr=>hk r (by simp[hr]),h5⟩
 lt:=fun hp nx F t ⟨F0,e,h1,h2,h3,h4,_⟩ r hr=>by
  subst e
  rcases zH.1 hr with rfl|hr
  ·exact h2
  ·exact h4.lt r hr
def Dx (n:Nat) (t:T):Option T:=some ⟨t.p,t.put,t.old++[n]⟩
theorem f79 {rt rp rd root rootS B q p put} (hB:B<=1000000000):DF (SyT rt rp rd root rootS B q p put) Dx 79 [] [.ptr q 0 0] (fun f t=>t.old.length+f<=B):=by
 intro f n t hp nx F hK hn hS
 obtain ⟨F0,rfl,h1,h2,h3,⟨x,y,Fp,view,hI,rfl⟩,rfl,rfl⟩:=hS
 obtain ⟨fW,a1,q4,q5,F',hT,hF⟩:=hI.VA n (B':=B) (zD _) (by omega) hB
 have az:=hI.Ix
 have main:=an (P:=fun v hp' nx'=>v=iV 0/\hp'=(ab fW rt (some (fh rp root x (.sl nx 1 0 (t.old.length+1) none))))/\nx'=nx+1) e79 (args:=[iV n,.ptr q 0 0]) rfl (hp:=hp) (nx:=nx) ?_
 ·obtain ⟨v,hp',nx',r1,rfl,rfl,rfl⟩:=main
  refine ⟨_,_,q::F',0,r1,⟨hF.le,fun r u1 u2 => ?_,fun r hr => ?_⟩,⟨rfl,⟨F',rfl,fun e => ?_,by omega,?_,hT,rfl,rfl⟩,by simp;omega⟩⟩
  ·simp only[zH,not_or]at u2
   exact hF.ah r u1 (by simp only[zH,zJ,not_or];simpa using u2.2)
  ·rcases zH.1 hr with rfl|hr
   ·exact .inl (by simp)
   ·exact (hF.sub r hr).imp (fun e=>zu _ e) id
  ·exact (hF.sub q e).elim h1 (by omega)
  ·rw[hF.ah q h2 h1];exact h3
 have ix:=hI.ix
 have Hn:∀(h:Heap) (es:bN) (c:Option Nat),aR h 1 (.rs false 1 es c)=some es:=fun _ _ _=>rfl
 simp only[fh]at ix
 have q6:fW q=some [[.ptr rt 0 0]]:=by rw[q5 q h2 (fun e=>h1 (by simp[e]))];exact h3
 simp[c79,h3,q6,ix,aa,aG,bu,Hn,AV.one,a1,q4,fh]
theorem FD (size:Nat):∀(f n:Nat) (acc:Bs) (t:T) (ps:List Nat),dJ (fun t=>t.p) Dx size f n acc ⟨t.p,t.put,t.old++ps⟩=(g9 t.p.read size f n acc ps).map fun r=>(r.1,(⟨t.p,t.put,t.old++r.2⟩:T))
 |f,0,acc,t,ps=>by
  have h1:dJ (fun t=>t.p) Dx size f 0 acc ⟨t.p,t.put,t.old++ps⟩=if acc.length=size then some (acc,(⟨t.p,t.put,t.old++ps⟩:T)) else none:=by cases f<;>rfl
  have h2:g9 t.p.read size f 0 acc ps=if acc.length=size then some (acc,ps) else none:=by cases f<;>rfl
  rw[h1,h2];split<;>rfl
 |0,n+1,acc,t,ps=>rfl
 |f+1,n+1,acc,t,ps=>by
  simp only[dJ,g9,Dx]
  cases t.p.read (n+1) with
  |none=>rfl
  |some x =>
   obtain ⟨k,b⟩:=x
   simp only
   split
   ·rfl
   ·split
    ·rfl
    ·have:=FD size f (aA (b.take 4)) (acc++b.drop 4) t (ps++[n+1])
     rw[<-zF]at this
     exact this
def rX {α:Type} (hp:Heap) (nx rt rp rd:Nat) (F:List Nat) (root:Nat) (r:R α) (rootS:Bs) (B:Nat):Prop:=match r.1 with
 |.ok _=>dE hp nx rt rp rd F root r.2 rootS B
 |.error e=>e≠0/\∃o,dE hp nx rt rp rd F root ⟨r.2.p,r.2.put,o⟩ rootS B
theorem rX.ofH {α:Type} {hp nx rt rp rd F root rootS B} {r:R α} (h:dE hp nx rt rp rd F root r.2 rootS B) (he:∀e,r.1=.error e->e≠0):rX hp nx rt rp rd F root r rootS B:=by
 unfold rX
 split
 ·exact h
 ·rename_i e h1
  exact ⟨he e h1,r.2.old,h⟩
theorem rX.ah {α:Type} {hp nx rt rp rd F root rootS B hp' nx'} {r:R α} (h:rX hp nx rt rp rd F root r rootS B) (hn:nx<=nx') (hk:∀q∈F,hp' q=hp q):rX hp' nx' rt rp rd F root r rootS B:=by
 unfold rX at *
 split at h
 ·exact dE.ah h hn hk
 ·obtain ⟨h0,o,h1⟩:=h;exact ⟨h0,o,h1.ah hn hk⟩
theorem rX.more {α:Type} {hp nx rt rp rd F root rootS B B'} {r:R α} (h:rX hp nx rt rp rd F root r rootS B) (hb:B<=B'):rX hp nx rt rp rd F root r rootS B':=by
 unfold rX at *
 split at h
 ·exact dE.more h hb
 ·obtain ⟨h0,o,h1⟩:=h;exact ⟨h0,o,h1.more hb⟩
def Eg:Except Nat Unit->AV
 |.ok _=>.v (.int .i64 0)
 |.error e=>iV e
theorem f43 {hp nx rt rp rd F root t rootS B} (h:dE hp nx rt rp rd F root t rootS B) {x:bD} (hx:jl x=true) (hB:B<=800000000) :
  ∃hp' nx' F',aY E 43 [.ptr rt 0 0,.agg x.cells] hp nx (Eg (ig t x).1) hp' nx' .e/\rX hp' nx' rt rp rd F' root (ig t x) rootS (B+61000)/\Fr F hp nx F' hp' nx':=by
 have main:=an (P:=fun v hp' nx'=>v=Eg (ig t x).1/\∃F',rX hp' nx' rt rp rd F' root (ig t x) rootS (B+61000)/\Fr F hp nx F' hp' nx') e43 (args:=[.ptr rt 0 0,.agg x.cells]) rfl (hp:=hp) (nx:=nx) ?_
 ·obtain ⟨v,hp',nx',r1,rfl,F',r2⟩:=main
  exact ⟨hp',nx',F',r1,r2⟩
 have je:=h.lt
 have QL:nx∉F:=fun e=>by have:=je nx e;omega
 have oE:t.old.length<=B:=by obtain ⟨_,_,_,_,h1,_⟩:=h;exact h1.lo
 have bZ:Ro hp nx (ab (ab hp nx (some [[.ptr rt 0 0]])) (nx+1) (some [x.cells])) (nx+2):=⟨by omega,fun r hr=>by simp[show ¬r=nx by omega,show ¬r=nx+1 by omega]⟩
 have h1:=(h.ro bZ).more (B':=B+61000) (by omega)
 have tW:(ab (ab hp nx (some [[.ptr rt 0 0]])) (nx+1) (some [x.cells])) nx=some [[.ptr rt 0 0]]:=by simp
 have IZ:=bZ.fr F
 rcases il hx with ⟨a1,a2,a3⟩|⟨pg,size,a1,a2,a3,a4,a5,a6,a7⟩
 ·have Bz:x.cells=[.str x.v,iV 0,iV 0]:=by simp[bD.cells,a1,a2]
  have hl:ig t x=(.ok (),t):=by simp[ig,a1]
  rw[Bz]at h1 IZ
  rw[hl]
  simp[c43,Bz]
  exact ⟨rfl,F,.ofH h1 (by simp),IZ⟩
 ·have Bz:x.cells=[.str x.v,iV pg,iV size]:=by simp[bD.cells,a1,a2]
  have oC:¬x.p=0:=by omega
  have hpI:¬pg=0:=by omega
  have e1:x.s.toNat=size:=by omega
  have e2:x.p.toNat=pg:=by omega
  have hl:ig t x=match g9 t.p.read size (size+1) pg [] [] with|some r=>(.ok (),⟨t.p,t.put,t.old++r.2⟩)|none=>(.error 10,t):=by simp only[ig,if_neg oC,uW,e1,e2];rfl
  obtain ⟨v,hp',nx',F',r1,fr,m⟩:=f70 (syT (rt:=rt) (rp:=rp) (rd:=rd) (root:=root) (rootS:=rootS) (B:=B+61000) (q:=nx) (p:=t.p) (put:=t.put) (by omega)) (f79 (by omega)) (x:=x) (size:=size) (pg:=pg) a2 a1 (by omega) (by omega) (by omega)
   (s:=t) (hp:=_) (nx:=nx+2) (F:=nx::F) (by omega) ⟨F,rfl,QL,by omega,tW,h1,rfl,rfl⟩
  have hcg:=FD size (size+1) pg [] t []
  rw[zT]at hcg
  rw[hcg]at m
  rw[hl]
  have yV:∀F0,F'=nx::F0->nx∉F0->Fr F hp nx F0 hp' nx':=fun F0 e yQ=>by
   subst e
   have q1:=fr.le
   refine ⟨by omega,fun r u1 u2 => ?_,fun r hr => ?_⟩
   ·rw[fr.ah r (by omega) (by simp[u2];omega)];exact bZ.ah r u1
   ·rcases fr.sub r (by simp[hr]) with q|q
    ·simp only[zH]at q
     rcases q with rfl|q
     ·exact absurd hr yQ
     ·exact .inl q
    ·exact .inr (by omega)
  rw[Bz]at r1
  simp[c43,Bz,hpI]
  refine ae r1 ?_
  cases hc:g9 t.p.read size (size+1) pg [] [] with
  |none =>
   rw[hc]at m
   obtain ⟨rfl,t',F0,e,n0,_,_,hT,tp,tq⟩:=m
   simp[Eg]
   exact ⟨F0,⟨by simp,t'.old,by rw[<-tp,<-tq];exact hT⟩,yV F0 e n0⟩
  |some y =>
   rw[hc]at m
   obtain ⟨rfl,F0,e,n0,_,_,hT,tp,tq⟩:=m
   simp[Eg]
   exact ⟨F0,hT,yV F0 e n0⟩
end Go.Ai
namespace Go.Ai
open Go.Bt
def jQ:dG->AV->Prop
 |.one n,v=>∃x z,iD n x/\eV 4 [x.cells] z/\v=.agg [z,.str []]
 |.two a k b,v=>∃x y z,iD a x/\iD b y/\eV 4 [x.cells,y.cells] z/\v=.agg [z,.str k]
theorem iD.cl {n b0 k1 k2 k3 k4 i1 i2 i3 i4 d1 d2 d3 d4} (h:iD n (.agg [.v (.bool b0),.rs k1 k2 k3 k4,.rs i1 i2 i3 i4,.rs d1 d2 d3 d4])):bl k3=true/\bl i3=true/\bl d3=true/\b0=n.leaf:=by
 obtain ⟨k,i,d,e,⟨_,_,_,rfl,_⟩,⟨_,_,_,rfl,_⟩,⟨_,_,_,rfl,_⟩⟩:=h
 simp only[AV.agg.injEq,List.cons.injEq,AV.rs.injEq,AV.v.injEq,Value.bool.injEq]at e
 obtain ⟨rfl,⟨_,_,rfl,_⟩,⟨_,_,rfl,_⟩,⟨_,_,rfl,_⟩,_⟩:=e
 exact ⟨eL,eM,fk,rfl⟩
theorem DG {n:Nd} {i j:Nat} (h:vX n i) (k:vX n j):i=j:=by
 rcases Nat.lt_trichotomy i j with e|e|e
 ·have:=k.low i h.pos e
  have:=k.le
  rcases h.top with q|q<;>omega
 ·exact e
 ·have:=h.low j k.pos e
  have:=h.le
  rcases k.top with q|q<;>omega
theorem f133 (n:Nd) (x:AV) (hx:iD n x) (h1:n.keys.length<=60000) (h2:n.items.length<=60000) (h3:n.kids.length<=60001):∃v,jQ (kP n) v/\∀hp nx,aY E 133 [x] hp nx v hp nx .p:=by
 have vS:=f120 n _ hx (by omega) (by omega) (by omega)
 have kN:=hx
 obtain ⟨b0,k1,k2,k3,k4,i1,i2,i3,i4,d1,d2,d3,d4,rfl⟩:=hx.shape
 obtain ⟨l1,l2,l3,_⟩:=hx.cl
 by_cases hs:aw n<=492
 ·have Wm:(aw n:Int)<=492:=by omega
  have CW:kP n=.one n:=by simp only[kP,if_pos hs]
  refine fM e133 rfl (by simp[l1,l2,l3]) ?_
  simp[c133]
  refine ap (vS _ _) ?_
  simp[Wm,aa,aG,aq,l1,l2,l3]
  rw[CW]
  exact ⟨_,_,kN,⟨false,4,_,rfl,.inr rfl,by simp⟩,rfl⟩
 ·have Wm:¬(aw n:Int)<=492:=by omega
  have hr:ax n=true:=by
   cases h:ax n with
   |true=>rfl
   |false=>exact absurd (by simp[aw,h]) hs
  have ER:=Bq hr (by omega)
  have hup:gi n<=2:=by simp only[gi];split<;>omega
  obtain ⟨i,ya,yb,hi,hc,ha,hb,r⟩:=f145 n _ kN h1 h2 h3 hr (by omega)
  have hci:i=xo n n.keys.length 1:=DG hc (I9 hr (by omega))
  have CW:kP n=.two (cM n 0 i) n.keys[i] (cM n (i+gi n-1) n.keys.length):=by
   simp only[kP,if_neg hs,<-hci,List.getD_eq_getElem?_getD,zA hi,wJ]
  have ha0:=ha
  have tW:=hb
  obtain ⟨Ri,RP,Nq,Np,RO,EF,CL,Nv,EE,I8,OL,I7,LP,rfl⟩:=ha.shape
  obtain ⟨L0,Le,Ld,Lc,Lb,Li,Lh,Lg,Lf,LR,LQ,Fv,LO,rfl⟩:=hb.shape
  obtain ⟨VX,VW,VV,_⟩:=ha.cl
  obtain ⟨Ni,Nh,Ng,_⟩:=hb.cl
  refine fM e133 rfl (by simp[l1,l2,l3]) ?_
  simp[c133]
  refine ap (vS _ _) ?_
  simp[Wm]
  refine ap (r _ _) ?_
  simp[aa,aG,aq,VX,VW,VV,Ni,Nh,Ng]
  rw[CW]
  exact ⟨_,_,_,ha0,tW,⟨false,4,_,rfl,.inr rfl,by simp⟩,rfl⟩
theorem f134 (n:Nd) (x:AV) (hx:iD n x) (h1:n.keys.length<=60000) (h2:n.items.length<=60000) (h3:n.kids.length<=60001) (hp nx):aY E 134 [x] hp nx (.v (.bool (l8 n))) hp nx .p:=by
 have vS:=f120 n _ hx (by omega) (by omega) (by omega)
 have kN:=hx
 obtain ⟨k,i,d,rfl,⟨k1,k2,k4,rfl,_⟩,⟨i1,i2,i4,rfl,_⟩,⟨d1,d2,d4,rfl,_⟩⟩:=hx
 refine aD e134 rfl (by simp) ?_ hp nx
 simp[c134]
 by_cases hk:n.kids.length=1
 ·have IS:(n.kids.length:Int)=1:=by omega
  simp[hk,IS,l8]
 ·have IS:¬(n.kids.length:Int)=1:=by omega
  simp[hk,IS]
  refine ap (vS _ _) ?_
  simp[l8,hk]
  omega
theorem Uv (a b:Nd) (x y:AV) (hx:iD a x) (hy:iD b y) (key:List UInt8) (h1:a.keys.length<=100000) (h2:a.items.length<=100000) (h3:a.kids.length<=100001)
  (xg:b.keys.length<=100000) (AD:b.items.length<=100000) (Sz:b.kids.length<=100001) :
  ∃z,iD (mH a key b) z/\∀hp nx,aY E 146 [x,.str key,y] hp nx z hp nx .p:=by
 by_cases hl:a.leaf=b.leaf
 ·obtain ⟨z,hz,r⟩:=f146 a b x y hx hy hl key h1 h2 h3 xg AD Sz
  exact ⟨z,by rw[mH,if_pos hl];exact hz,r⟩
 ·refine ⟨x,by rw[mH,if_neg hl];exact hx,fun hp nx => ?_⟩
  obtain ⟨b0,k1,k2,k3,k4,i1,i2,i3,i4,d1,d2,d3,d4,rfl⟩:=hx.shape
  obtain ⟨l1,l2,l3,tW⟩:=hx.cl
  obtain ⟨Ri,RP,Nq,Np,RO,EF,CL,Nv,EE,I8,OL,I7,LP,rfl⟩:=hy.shape
  obtain ⟨VX,VW,VV,afh⟩:=hy.cl
  refine aD e146 rfl (by simp[l1,l2,l3,VX,VW,VV]) ?_ hp nx
  rw[<-tW,<-afh]at hl
  have bt:(b0==Ri)=false:=by simpa using hl
  simp[c146,bt,aa,aG,aq,l1,l2,l3]
end Go.Ai
