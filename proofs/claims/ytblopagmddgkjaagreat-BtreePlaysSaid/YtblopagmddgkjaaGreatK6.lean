/- Part 6 of what the proof of BtreePlays rests on. -/
import Derived.Test.YtblopagmddgkjaaGreatK5
set_option linter.unusedVariables false
set_option linter.unusedSimpArgs false
set_option maxHeartbeats 4000000
namespace Go.Ai
open Go.Bt
def dK (m:Nat) (n:Nd):Prop:=n.keys.length<=m/\n.items.length<=m/\n.kids.length<=m+1
def rW (m:Nat):dz->Prop
 |.one n=>dK m n
 |.two a _ b=>dK m a/\dK m b
theorem dK.more {m m' n} (h:dK m n) (k:m<=m'):dK m' n:=⟨by have:=h.1;omega,by have:=h.2.1;omega,by have:=h.2.2;omega⟩
theorem dK.part {m n} (h:dK m n) (a b:Nat):dK m (cI n a b):=by
 obtain ⟨h1,h2,h3⟩:=h
 refine ⟨?_,?_,?_⟩
 ·simp[cI];omega
 ·simp only[cI];split<;>simp<;>omega
 ·simp only[cI];split<;>simp<;>omega
theorem dK.cut {m n} (h:dK m n):rW m (kH n):=by
 unfold kH
 split
 ·exact h
 ·exact ⟨h.part _ _,h.part _ _⟩
theorem dK.join {m m' a b k} (h:dK m a) (h':dK m' b):dK (m+m'+1) (mD a k b):=by
 obtain ⟨h1,h2,h3⟩:=h
 obtain ⟨g1,g2,g3⟩:=h'
 unfold mD
 split
 ·refine ⟨?_,?_,?_⟩
  ·simp only[ej,zG];split<;>simp<;>omega
  ·simp only[ej,zG];omega
  ·simp only[ej,zG];omega
 ·exact ⟨by omega,by omega,by omega⟩
theorem sZ.ni {hp nx rt rp rd root x y Fp t rootS view B} (h:sZ hp nx rt rp rd root x y Fp t rootS view B) {a:Nat} {n:Nd} (e:(eA t a).1=.ok n):dK 492 n/\ax n=true:=by
 unfold eA at e
 split at e
 ·rename_i n' hn
  simp only[Except.ok.injEq]at e
  subst e
  obtain ⟨h1,h2,h3,h4,h5⟩:=h.pg.tz hn
  exact ⟨⟨h3,h4,h5⟩,h1⟩
 ·cases e
theorem ug {t:T} {a e:Nat} (h:(eA t a).1=.error e):e≠0:=by
 unfold eA at h
 split at h
 ·cases h
 ·simp only[Except.error.injEq]at h;omega
theorem dD.ni {hp nx rt rp rd F root t rootS B} (h:dD hp nx rt rp rd F root t rootS B) {a:Nat} {n:Nd} (e:(eA t a).1=.ok n):dK 492 n/\ax n=true:=by
 obtain ⟨x,y,Fp,view,h1,_⟩:=h
 exact h1.ni e
theorem Fr.sB {F hp nx F2 aT ar kF r9} (hF:Fr F hp nx F2 aT ar) (hn:ar<=r9) (hk:∀r,r<ar->(r<nx\/r∈F2)->kF r=aT r):Fr F hp nx F2 kF r9 :=
 ⟨wH hF.le hn,fun r u1 u2=>by rw[hk r (by have:=hF.le;omega) (.inl u1)];exact hF.ah r u1 u2,fun r hr=>(hF.sub r hr)⟩
def z2:AV:=.agg [nS,.str []]
def Kh (o:Except Nat (dz×Nat)) (v:AV):Prop:=match o with
 |.ok r=>∃p,ju r.1 p/\v=.bE [p,iV r.2,iV (r.2+2:Nat),.v (.int .i64 0)]
 |.error e=>v=.bE [z2,.v (.int .i64 0),.v (.int .i64 0),iV e]
theorem ju.cl {p v} (h:ju p v):v.closed=true/\∃z k,v=.agg [z,k]/\z.one=true/\k.one=true:=by
 cases p with
 |one n =>
  obtain ⟨x,z,h1,⟨b,s,c,rfl,_⟩,rfl⟩:=h
  obtain ⟨b0,k1,k2,k3,k4,i1,i2,i3,i4,d1,d2,d3,d4,rfl⟩:=h1.shape
  obtain ⟨l1,l2,l3,_⟩:=h1.cl
  exact ⟨by simp[l1,l2,l3],_,_,rfl,rfl,rfl⟩
 |two a k b =>
  obtain ⟨x,y,z,h1,h2,⟨b,s,c,rfl,_⟩,rfl⟩:=h
  obtain ⟨b0,k1,k2,k3,k4,i1,i2,i3,i4,d1,d2,d3,d4,rfl⟩:=h1.shape
  obtain ⟨l1,l2,l3,_⟩:=h1.cl
  obtain ⟨QU,Rw,M5,M4,Rv,En,CA,Na,Em,IM,Oo,IL,Lt,rfl⟩:=h2.shape
  obtain ⟨VA,Vz,Vy,_⟩:=h2.cl
  exact ⟨by simp[l1,l2,l3,VA,Vz,Vy],_,_,rfl,rfl,rfl⟩
end Go.Ai
namespace Go.Ai
open Go.Bt
theorem AT {n:Nat} {x:AV} {es:List (List AV)} {b:Nat} {k:IntKind} (hx:fa n es x) (h:b<=es.length):∃y,fa n (es.take b) y/\b8 n x none (some (.v (.int k b))) none=some y:=by
 obtain ⟨nil,sz,cap,rfl,hz,hn⟩:=hx
 refine ⟨.rs nil sz ((es.take b).drop 0) (cap.map (· - 0)),⟨nil,sz,_,by rw[zb],hz,fun h=>by simp[hn h]⟩,?_⟩
 have hb:bV es.length es.length none (some (.v (.int k (b:Int)))) none=some (0,b,none):=by
  simp only[bV,idxOf,qM,Option.isSome_none]
  rw[if_pos (by omega)]
  simp
 simp only[b8,if_pos hz,hb,dY]
theorem ui {n:Nat} {x:AV} {es:List (List AV)} {a:Nat} {k:IntKind} (hx:fa n es x) (h:a<=es.length):∃y,fa n (es.drop a) y/\b8 n x (some (.v (.int k a))) none none=some y:=by
 obtain ⟨nil,sz,cap,rfl,hz,hn⟩:=hx
 refine ⟨.rs nil sz ((es.take es.length).drop a) (cap.map (· - a)),⟨nil,sz,_,by rw[zW],hz,fun h=>by simp[hn h]⟩,?_⟩
 have hb:bV es.length es.length (some (.v (.int k (a:Int)))) none none=some (a,es.length,none):=by
  simp[bV,idxOf,h]
 simp only[b8,if_pos hz,hb,dY]
theorem kR {hp:Heap} {nx sz bytes:Nat} {s x:AV} {es:bN} (h:aR hp sz x=some es) (ho:es.all (fun l=>l.all AV.one)=true):bu sz bytes s x hp nx=cF sz bytes s es hp nx:=by
 simp only[bu,h,ho,if_true]
theorem fa.W5 {n:Nat} {x:AV} {es:bN} (h:fa n es x) (hp:Heap):aR hp n x=some es:=by
 obtain ⟨nil,sz,cap,rfl,hz,_⟩:=h
 simp only[aR,if_pos hz]
theorem dq.W5 {n:Nat} {x:AV} {es:bN} {hp nx} (h:dq hp nx n es x):aR hp n x=some es:=by
 rcases h with ⟨rfl,rfl⟩|⟨r,h1,rfl,h2⟩
 ·simp[aR]
 ·simp[aR,h2]
def JS (hp:Heap) (nx n:Nat) (es:bN) (x:AV):Prop:=fa n es x\/∃r,r<nx/\x=.sl r n 0 es.length none/\hp r=some es
theorem cP.slO {hp nx n es x} (h:cP hp nx n es x):JS hp nx n es x:=by
 rcases h with ⟨b,z,c,rfl,h1,h2,_⟩|h
 ·exact .inl ⟨b,z,_,rfl,h1,h2⟩
 ·exact .inr h
theorem JS.ah {hp hp' nx nx' n es x} (h:JS hp nx n es x) (hn:nx<=nx') (hk:∀r∈bc x,hp' r=hp r):JS hp' nx' n es x:=by
 rcases h with h|⟨r,h1,rfl,h2⟩
 ·exact .inl h
 ·exact .inr ⟨r,by omega,rfl,by rw[hk r (by simp)];exact h2⟩
theorem JS.one {hp nx n es x} (h:JS hp nx n es x):x.cells=[x]/\x.one=true:=by
 rcases h with ⟨_,_,_,rfl,_⟩|⟨r,h1,rfl,h2⟩<;>exact ⟨rfl,rfl⟩
theorem JS.lt {hp nx n es x} (h:JS hp nx n es x):∀r∈bc x,r<nx:=by
 rcases h with ⟨_,_,_,rfl,_⟩|⟨r,h1,rfl,h2⟩
 ·simp
 ·simpa using h1
def Dn (hp:Heap) (nx:Nat) (L:List Nat) (n:Nd) (x:AV):Prop:=∃k i d,x=.agg [.v (.bool n.leaf),k,i,d]/\JS hp nx 1 (n.keys.map aN) k/\fa 3 (n.items.map bD.cells) i/\JS hp nx 1 (n.kids.map bC) d/\L=bc k++bc d
theorem Dn.ah {hp hp' nx nx' L n x} (h:Dn hp nx L n x) (hn:nx<=nx') (hk:∀r∈L,hp' r=hp r):Dn hp' nx' L n x:=by
 obtain ⟨k,i,d,rfl,h1,h2,h3,rfl⟩:=h
 exact ⟨k,i,d,rfl,h1.ah hn fun r hr=>hk r (by simp[hr]),h2,h3.ah hn fun r hr=>hk r (by simp[hr]),rfl⟩
theorem Dn.lt {hp nx L n x} (h:Dn hp nx L n x):∀r∈L,r<nx:=by
 obtain ⟨k,i,d,rfl,h1,h2,h3,rfl⟩:=h
 intro r hr
 rcases zJ.1 hr with hr|hr
 ·exact h1.lt r hr
 ·exact h3.lt r hr
theorem iq.ndO {hp nx n x} (h:iq n x):Dn hp nx [] n x:=by
 obtain ⟨k,i,d,rfl,h1,h2,h3⟩:=h
 refine ⟨k,i,d,rfl,.inl h1,h2,.inl h3,?_⟩
 obtain ⟨_,_,_,rfl,_⟩:=h1
 obtain ⟨_,_,_,rfl,_⟩:=h3
 rfl
theorem JS.j5 {hp nx n es x} (h:JS hp nx n es x) (hc:bl es=true) {k:Nat}:∃y,fa n es y/\j5 (k+2) hp x=some y:=by
 rcases h with ⟨a,b,c,rfl,h1⟩|⟨r,h1,rfl,h2⟩
 ·exact ⟨_,⟨a,b,c,rfl,h1⟩,aq (by simpa using hc)⟩
 ·refine ⟨.rs false n es none,⟨false,n,_,rfl,.inr rfl,by simp⟩,?_⟩
  rw[CS h2 (by simp) (by simpa using hc)]
  simp
theorem JS.fJ {hp nx n es x} (h:JS hp nx n es x) (hc:bl es=true) {k:Nat} {L:List Nat} (hL:∀r∈bc x,r∈L):∃y,fa n es y/\Go.Ai.fJ (k+2) (de hp L) x=some y:=by
 rcases h with ⟨a,b,c,rfl,h1⟩|⟨r,h1,rfl,h2⟩
 ·refine ⟨_,⟨a,b,c,rfl,h1⟩,?_⟩
  simp only[Go.Ai.fJ]
  rw[if_pos (by simpa using hc)]
 ·have hr:de hp L r=some es:=by simp only[de];rw[if_pos (hL r (by simp))];exact h2
  refine ⟨.rs false n es none,⟨false,n,_,rfl,.inr rfl,by simp⟩,?_⟩
  have hm:dS (dS (Go.Ai.j5 (k+1) (de hp L))) es=some es:=mA fun x hx=>mA fun y hy=>aq (pu (nK hc x hx) y hy)
  simp only[Go.Ai.fJ,rH,zK,if_false,hr]
  simp[hm]
theorem Dn.Rp {hp nx L n x} (h:Dn hp nx L n x):∃x0,iq n x0/\dS (j5 6 hp) [x]=some [x0]:=by
 obtain ⟨k,i,d,rfl,h1,⟨i1,i2,i4,rfl,h2⟩,h3,rfl⟩:=h
 obtain ⟨k',g1,e1⟩:=h1.j5 eH (k:=3)
 obtain ⟨d',g3,e3⟩:=h3.j5 fh (k:=3)
 have e0:j5 6 hp (.agg [.v (.bool n.leaf),k,.rs i1 i2 (n.items.map bD.cells) i4,d])=some (.agg [.v (.bool n.leaf),k',.rs i1 i2 (n.items.map bD.cells) i4,d']):=tO (by simp[br,e1,e3,aq])
 exact ⟨_,⟨k',_,d',rfl,g1,⟨i1,i2,i4,rfl,h2⟩,g3⟩,by simp[br,e0]⟩
theorem nI {k hp x} (h:x.closed=true):fJ (k+1) hp x=some x:=by simp only[fJ];rw[if_pos h]
theorem Lh {k hp cs} (h:(AV.agg cs).closed=false):fJ (k+1) hp (.agg cs)=(dS (fJ k hp) cs).map .agg:=by rw[fJ];simp only[h,zK,if_false]
theorem Dn.IH {hp nx L n x} (h:Dn hp nx L n x):∃x0,iq n x0/\fJ 6 (de hp L) x=some x0:=by
 obtain ⟨k,i,d,rfl,h1,⟨i1,i2,i4,rfl,h2⟩,h3,rfl⟩:=h
 obtain ⟨k',g1,e1⟩:=h1.fJ eH (k:=3) (L:=bc k++bc d) (fun r hr=>by simp[hr])
 obtain ⟨d',g3,e3⟩:=h3.fJ fh (k:=3) (L:=bc k++bc d) (fun r hr=>by simp[hr])
 refine ⟨.agg [.v (.bool n.leaf),k',.rs i1 i2 (n.items.map bD.cells) i4,d'],⟨k',_,d',rfl,g1,⟨_,_,_,rfl,h2⟩,g3⟩,?_⟩
 by_cases hc:(AV.agg [.v (.bool n.leaf),k,.rs i1 i2 (n.items.map bD.cells) i4,d]).closed=true
 ·have Wq:k.closed=true:=by simp at hc;exact hc.1
  have hdc:d.closed=true:=by simp at hc;exact hc.2
  rw[nI Wq]at e1
  rw[nI hdc]at e3
  cases e1;cases e3
  exact nI hc
 ·have La:(AV.agg [.v (.bool n.leaf),k,.rs i1 i2 (n.items.map bD.cells) i4,d]).closed=false:=by simpa using hc
  rw[show (6:Nat)=5+1 from rfl,Lh La]
  simp only[br,e1,e3,show (5:Nat)=3+2 from rfl,nI (x:=.v _) Fh,nI (x:=.rs i1 i2 (n.items.map bD.cells) i4) (by simp)]
  rfl
def iO (hp:Heap) (nx:Nat) (L:List Nat) (p:dz) (v:AV):Prop:=(L=[]/\ju p v)\/∃n x c,p=.one n/\n.kids.length=1/\Dn hp nx L n x/\v=.agg [.rs false 4 [x.cells] c,.str []]
theorem fG {hp L r} (h:r∉L):j7 hp L r=hp r:=by simp only[j7];rw[if_neg h]
end Go.Ai
namespace Go.Ai
open Go.Bt
def xB:cC:=match c136.body with | .seq _ (.seq _ (.seq _ (.seq _ (.seq _ (.seq _ (.seq _ t))))))=>t|_=>.skip
theorem Ub {hp:Heap} {nx q6 q10 q17 lo:Nat} {n:Nd} {kA iA dA kv dv:AV} {K:List Bs} {D:List Int} {b:Nat} {tm:Nat->AV} {P:AV->Heap->Nat->Prop} {kb:Bool}
  (t3:tm 3=iV b) (t6:tm 6=.ptr q6 0 0) (t10:tm 10=.ptr q10 0 0) (t17:tm 17=.ptr q17 0 0)
  (hk:fa 1 (n.keys.map aN) kA) (h6:hp q6=some [[.v (.bool kb),kA,iA,dA]]) (im:hp q10=some [[nS,.str []]]) (h17:hp q17=some [[.v (.bool false),kv,nS,dv]])
  (l6:q6<lo) (Qs:q10<lo) (l17:lo<=q17) (m17:q17<nx) (ok:cP hp nx 1 (K.map aN) kv) (od:cP hp nx 1 (D.map bC) dv) (bk:∀q∈bc kv,lo<=q/\q≠q17/\q∉bc dv) (bd:∀q∈bc dv,lo<=q/\q≠q17)
  (hb:0<b) (hbk:b<=n.keys.length+1) (hK:K.length<=6000) (lK:n.keys.length<=5000) (hD:D.length<=12000)
  (hP:∀L w hp' nx',nx<=nx'->(∀r,r<lo->r≠q10->hp' r=hp r)->iO hp' nx' L (kh ⟨false,K++n.keys.drop (b-1),[],D⟩) w->(∀r∈L,lo<=r)->P (.bE [w,iV 0]) hp' nx') :
  W (aZ E) xB (rT [.cell 10 (some 2),.t 11] P) ⟨tm,hp,nx⟩:=by
 obtain ⟨k2,m9,s4⟩:=ui (k:=.i64) hk (a:=b-1) (by simp;omega)
 have w1:IntKind.wrap .i64 ((b:Int)-1)=((b-1:Nat):Int):=by rw[aj]<;>omega
 rw[<-wS]at m9
 have e4:=fun (h:Heap) (m:Nat) (s:AV)=>kR (hp:=h) (nx:=m) (bytes:=16) (s:=s) (m9.W5 h) (mw _)
 obtain ⟨M0,MZ,MY,rfl,vY⟩:=hk
 have age:¬q6=q17:=by omega
 have Tf:¬q10=q17:=by omega
 obtain ⟨c3,Qo⟩:=od.one
 simp[xB,c136,t3,t6,t10,t17,h6,im,h17,w1,s4,e4]
 refine jX (bytes:=16) ok (by simp;omega) fun FH H1 m1 o1 l1 g1 b1 => ?_
 have p17:H1 q17=some [[.v (.bool false),kv,nS,dv]]:=by rw[g1 q17 m17 (fun e=>(bk q17 e).2.1 rfl)];exact h17
 have Ko:H1 q10=some [[nS,.str []]]:=by rw[g1 q10 (by omega) (fun e=>by have:=(bk q10 e).1;omega)];exact im
 obtain ⟨c4,XS⟩:=o1.one
 have odl:=od.len
 have oy:lo<=nx:=by omega
 have bk':∀q∈bc FH,lo<=q/\q≠q17/\q∉bc dv:=fun q hq=>(b1 q hq).elim (bk q) fun h=>⟨by omega,by omega,fun e=>by have:=od.lt q e;omega⟩
 rw[<-wS,<-zf]at o1
 obtain ⟨H2,oB⟩:∃H2,H2=ab H1 q17 (some [[.v (.bool false),FH,nS,dv]]):=⟨_,rfl⟩
 have Gu:H2 q10=some [[nS,.str []]]:=by simp[oB,Tf,Ko]
 have Vb:H2 q17=some [[.v (.bool false),FH,nS,dv]]:=by simp[oB]
 have Tg:∀r,r<lo->H2 r=hp r:=fun r hr=>by simp[oB,show ¬r=q17 by omega];exact g1 r (by omega) fun e=>by have:=(bk r e).1;omega
 have o1':cP H2 m1 1 ((K++n.keys.drop (b-1)).map aN) FH:=o1.ah (zD _) fun q hq=>by simp[oB,(bk' q hq).2.1]
 have od':cP H2 m1 1 (D.map bC) dv:=od.ah l1 fun q hq=>by simp[oB,(bd q hq).2];exact g1 q (od.lt q hq) fun e=>(bk q e).2.2 hq
 simp[t3,t6,t10,t17,p17,c3,Qo,c4,XS,aa,aG,odl,Tf,<-oB,Vb]
 have vX:Dn H2 m1 (bc FH++bc dv) ⟨false,K++n.keys.drop (b-1),[],D⟩ (.agg [.v (.bool false),FH,nS,dv]):=⟨FH,_,dv,rfl,o1'.slO,.vT,od'.slO,rfl⟩
 have Sb:∀r∈bc FH++bc dv,lo<=r:=fun r hr=>(zJ.1 hr).elim (fun h=>(bk' r h).1) fun h=>(bd r h).1
 by_cases QJ:D.length=1
 ·have QI:(D.length:Int)=1:=by omega
  simp[QJ,t10,t17,Vb,Gu,c3,Qo,c4,XS,aa,aG]
  refine hP (bc FH++bc dv) _ _ _ (by omega) (fun r h1 h2=>by simp[h2];exact Tg r h1) (.inr ⟨_,_,some 1,by simp[kh,QJ],QJ,vX.ah (zD _) fun r hr => ?_,rfl⟩) Sb
  have:=Sb r hr
  simp[show ¬r=q10 by omega]
 ·have QI:¬(D.length:Int)=1:=by omega
  obtain ⟨x0,h0,e0⟩:=vX.IH
  obtain ⟨v,hv,r⟩:=f133 _ x0 h0 (by simp;omega) (by simp) (by simp;omega)
  obtain ⟨vc,vz,vk,rfl,vo⟩:=hv.cl
  have r':=ub (args:=[.agg [.v (.bool false),FH,nS,dv]]) (args0:=[x0]) (hp:=H2) (nx:=m1) (bc FH++bc dv) (by simp[br,e0]) (r _ _)
  simp[QI,QJ,t10,t17,Vb,Gu,c3,Qo,c4,XS,aa,aG]
  refine ae r' ?_
  have adV:j7 H2 (bc FH++bc dv) q10=some [[nS,.str []]]:=by rw[fG fun e=>by have:=Sb _ e;omega];exact Gu
  simp[t10,adV,aa,vo]
  refine hP [] _ _ _ (by omega) (fun r h1 h2=>by simp[h2];rw[fG fun e=>by have:=Sb _ e;omega];exact Tg r h1) (.inl ⟨rfl,?_⟩) (by simp)
  simp only[kh,if_neg QJ]
  exact hv
def Dc:cC:=match c136.body with | .seq _ (.seq _ (.seq _ t))=>t|_=>.skip
theorem abB {hp:Heap} {nx q6 q9 q10:Nat} {n:Nd} {kA iA dA y z:AV} {key:Bs} {cs:List Int} {a b:Nat} {tm:Nat->AV} {P:AV->Heap->Nat->Prop} {kb:Bool}
  (t2:tm 2=iV a) (t3:tm 3=iV b) (t6:tm 6=.ptr q6 0 0) (t9:tm 9=.ptr q9 0 0) (t10:tm 10=.ptr q10 0 0) (t12:tm 12=y)
  (hk:fa 1 (n.keys.map aN) kA) (hi:fa 3 (n.items.map bD.cells) iA) (hd:fa 1 (n.kids.map bC) dA) (hy:dq hp nx 1 (cs.map bC) y)
  (h6:hp q6=some [[.v (.bool kb),kA,iA,dA]]) (h9:hp q9=some [[z,.str key]]) (im:hp q10=some [[nS,.str []]]) (l6:q6<nx) (l9:q9<nx) (Qs:q10<nx)
  (n69:q6≠q9) (agf:q6≠q10) (agd:q9≠q10) (y6:q6∉bc y) (y9:q9∉bc y) (y10:q10∉bc y)
  (hr:n.kids.length=n.keys.length+1) (IC:a<b) (hb:b<=n.kids.length) (gd:dK 5000 n) (AF:cs.length=1\/cs.length=2) (hzo:z.one=true/\z.cells=[z])
  (hP:∀L w hp' nx',nx<=nx'->(∀r,r<nx->r≠q10->r∉bc y->hp' r=hp r)->iO hp' nx' L (kh (ms n a b (if cs.length=2 then [key] else []) cs)) w->(∀r∈L,nx<=r)->P (.bE [w,iV 0]) hp' nx') :
  W (aZ E) Dc (rT [.cell 10 (some 2),.t 11] P) ⟨tm,hp,nx⟩:=by
 have lK:=gd.1
 have QH:=gd.2.2
 obtain ⟨d1,QJ,s1⟩:=AT (k:=.i64) hd (b:=a) (by simp;omega)
 obtain ⟨d2,Bu,s2⟩:=ui (k:=.i64) hd (a:=b) (by simp;omega)
 obtain ⟨k1,tI,s3⟩:=AT (k:=.i64) hk (b:=a) (by simp;omega)
 obtain ⟨k2,m9,s4⟩:=ui (k:=.i64) hk (a:=b-1) (by simp;omega)
 have w1:IntKind.wrap .i64 ((b:Int)-1)=((b-1:Nat):Int):=by rw[aj]<;>omega
 rw[<-wR]at QJ tI
 rw[<-wS]at Bu m9
 have e1:=fun (h:Heap) (m:Nat) (s:AV)=>kR (hp:=h) (nx:=m) (bytes:=8) (s:=s) (QJ.W5 h) (oS _)
 have e2:=fun (h:Heap) (m:Nat) (s:AV)=>kR (hp:=h) (nx:=m) (bytes:=8) (s:=s) (Bu.W5 h) (oS _)
 have e3:=fun (h:Heap) (m:Nat) (s:AV)=>kR (hp:=h) (nx:=m) (bytes:=16) (s:=s) (tI.W5 h) (mw _)
 have e4:=fun (h:Heap) (m:Nat) (s:AV)=>kR (hp:=h) (nx:=m) (bytes:=16) (s:=s) (m9.W5 h) (mw _)
 obtain ⟨M0,MZ,MY,rfl,vY⟩:=hk
 obtain ⟨Tm,Tl,Tk,rfl,EF⟩:=hi
 obtain ⟨Ug,Uf,Ue,rfl,FO⟩:=hd
 have n6:¬q6=nx:=by omega
 have n9:¬q9=nx:=by omega
 have Z4:¬q10=nx:=by omega
 simp[Dc,c136,t6,t9,t10,t12,t2,t3,h6,h9,im,n6,n9,Z4,s1,e1,aa,aG]
 obtain ⟨H0,hH0⟩:∃H0,H0=ab hp nx (some [[AV.v (Value.bool false),nS,nS,nS]]):=⟨_,rfl⟩
 have z0:∀r,r<nx->H0 r=hp r:=fun r hr=>by simp[hH0,show ¬r=nx by omega]
 have zn:H0 nx=some [[AV.v (Value.bool false),nS,nS,nS]]:=by simp[hH0]
 rw[<-hH0]
 refine jX (bytes:=8) (cP.nil) (by simp;omega) fun v1 H1 m1 o1 l1 g1 b1 => ?_
 have y1:aR H1 1 y=some (cs.map bC):=(hy.ah (hp':=H1) (nx':=m1) (by omega) fun r hr=>by rw[g1 r (by have:=hy.lt r hr;omega) (by simp),z0 r (hy.lt r hr)]).W5
 have f1:∀r,r<=nx->H1 r=H0 r:=fun r hr=>g1 r (by omega) (by simp)
 have p6:H1 q6=some [[.v (.bool kb),.rs M0 MZ (n.keys.map aN) MY,.rs Tm Tl (n.items.map bD.cells) Tk,.rs Ug Uf (n.kids.map bC) Ue]]:=by rw[f1 q6 (by omega),z0 q6 l6,h6]
 simp[t6,t9,t10,t12,t2,t3,p6,kR y1 (oS _)]
 refine jX (bytes:=8) o1 (by simp;omega) fun v2 H2 m2 o2 l2 g2 b2 => ?_
 have bv1:∀q∈bc v1,nx+1<=q:=fun q hq=>(b1 q hq).elim (by simp) id
 have f2:∀r,r<=nx->H2 r=H0 r:=fun r hr=>by rw[g2 r (by omega) (fun e=>by have:=bv1 r e;omega)];exact f1 r hr
 have p6:H2 q6=some [[.v (.bool kb),.rs M0 MZ (n.keys.map aN) MY,.rs Tm Tl (n.items.map bD.cells) Tk,.rs Ug Uf (n.kids.map bC) Ue]]:=by rw[f2 q6 (by omega),z0 q6 l6,h6]
 simp[t6,t9,t10,t12,t2,t3,p6,s2,e2]
 refine jX (bytes:=8) o2 (by simp;omega) fun v3 H3 m3 o3 l3 g3 b3 => ?_
 have bv2:∀q∈bc v2,nx+1<=q:=fun q hq=>(b2 q hq).elim (bv1 q) (by omega)
 have bv3:∀q∈bc v3,nx+1<=q:=fun q hq=>(b3 q hq).elim (bv2 q) (by omega)
 have f3:∀r,r<=nx->H3 r=H0 r:=fun r hr=>by rw[g3 r (by omega) (fun e=>by have:=bv2 r e;omega)];exact f2 r hr
 have p6:H3 q6=some [[.v (.bool kb),.rs M0 MZ (n.keys.map aN) MY,.rs Tm Tl (n.items.map bD.cells) Tk,.rs Ug Uf (n.kids.map bC) Ue]]:=by rw[f3 q6 (by omega),z0 q6 l6,h6]
 have pn:H3 nx=some [[AV.v (Value.bool false),nS,nS,nS]]:=by rw[f3 nx (by omega),zn]
 obtain ⟨c3,Qo⟩:=o3.one
 simp[t6,t9,t10,t12,t2,t3,p6,pn,c3,Qo,aa,n6,n9,Z4,s3,e3,aG]
 refine ⟨⟨(f1 q6 (by omega)).symm,by rw[f1 q6 (by omega),f2 q6 (by omega)]⟩,?_⟩
 obtain ⟨K0,hK0⟩:∃K0,K0=ab H3 nx (some [[AV.v (Value.bool false),nS,nS,v3]]):=⟨_,rfl⟩
 rw[<-hK0]
 have zk:∀r,r<nx->K0 r=hp r:=fun r hr=>by simp[hK0,show ¬r=nx by omega];rw[f3 r (by omega),z0 r hr]
 have kn0:K0 nx=some [[AV.v (Value.bool false),nS,nS,v3]]:=by simp[hK0]
 have ov:∀q∈bc v3,K0 q=H3 q:=fun q hq=>by have:=bv3 q hq;simp[hK0,show ¬q=nx by omega]
 have ZY:=o3.ah (hp':=K0) (zD _) ov
 refine jX (bytes:=16) (cP.nil) (by simp;omega) fun Ql K1 m4 q1 l4 h1 IM => ?_
 have Uq:∀q∈bc Ql,m3<=q:=fun q hq=>(IM q hq).elim (by simp) id
 have Rf:∀q∈bc v3,K1 q=K0 q:=fun q hq=>h1 q (o3.lt q hq) (by simp)
 have j1:∀r,r<=nx->K1 r=K0 r:=fun r hr=>h1 r (by omega) (by simp)
 obtain ⟨c4,XS⟩:=q1.one
 have p6:K1 q6=some [[.v (.bool kb),.rs M0 MZ (n.keys.map aN) MY,.rs Tm Tl (n.items.map bD.cells) Tk,.rs Ug Uf (n.kids.map bC) Ue]]:=by rw[j1 q6 (by omega),zk q6 l6,h6]
 have p9:K1 q9=some [[z,.str key]]:=by rw[j1 q9 (by omega),zk q9 l9,h9]
 have pn:K1 nx=some [[AV.v (Value.bool false),nS,nS,v3]]:=by rw[j1 nx (by omega),kn0]
 have lcs:=hy.len
 have Ny:∀r,r<nx->K1 r=hp r:=fun r hr=>by rw[j1 r (by omega),zk r hr]
 have Rc:cP K1 m4 1 ((n.keys.take a).map aN) Ql:=by simpa only[zh,<-wR] using q1
 have ZX:cP K1 m4 1 ((n.kids.take a++cs++n.kids.drop b).map bC) v3:=by simpa only[zh,<-wR,<-wS,<-zf] using ZY.ah (by omega) Rf
 have bd3:∀q∈bc v3,nx<=q/\q≠nx:=fun q hq=>by have:=bv3 q hq;omega
 have agh:=o3.lt
 obtain ⟨T,hT⟩:∃T,T=xB:=⟨_,rfl⟩
 have iW:=hT
 simp only[xB,c136]at iW
 rw[<-iW]
 by_cases h2:cs.length=2
 ·have Hh:(cs.length:Int)=2:=by omega
  rw[if_pos h2]at hP
  simp[t6,t9,t10,t12,t2,t3,p6,p9,pn,c3,Qo,c4,XS,aa,n6,n9,Z4,aG,lcs,Hh,h2]
  obtain ⟨K2,T4⟩:∃K2,K2=ab K1 nx (some [[AV.v (Value.bool false),Ql,nS,v3]]):=⟨_,rfl⟩
  rw[<-T4]
  have CF:∀r,r<nx->K2 r=hp r:=fun r hr=>by simp[T4,show ¬r=nx by omega];exact Ny r hr
  have U5:K2 nx=some [[AV.v (Value.bool false),Ql,nS,v3]]:=by simp[T4]
  have q2':cP K2 m4 1 ((n.keys.take a).map aN) Ql:=Rc.ah (zD _) fun q hq=>by have:=Uq q hq;simp[T4,show ¬q=nx by omega]
  have o4:cP K2 m4 1 ((n.kids.take a++cs++n.kids.drop b).map bC) v3:=ZX.ah (zD _) fun q hq=>by have:=bv3 q hq;simp[T4,show ¬q=nx by omega]
  refine jX (bytes:=16) q2' (by simp;omega) fun w3 K3 m5 r1 l5 u1 d5 => ?_
  have nw1:∀q,q<=nx->q∉bc Ql:=fun q hq e=>by have:=Uq q e;omega
  have pn3:K3 nx=some [[AV.v (Value.bool false),Ql,nS,v3]]:=by rw[u1 nx (by omega) (nw1 nx (zD _))];exact U5
  have bw3:∀q∈bc w3,m3<=q:=fun q hq=>(d5 q hq).elim (Uq q) (by omega)
  obtain ⟨c5,o5o⟩:=r1.one
  simp[t6,t9,t10,t12,t2,t3,pn3,c3,Qo,c5,o5o,aa,n6,n9,Z4,aG]
  rw[hT]
  have yE:∀r,r<nx->ab K3 nx (some [[AV.v (Value.bool false),w3,nS,v3]]) r=hp r:=fun r hr=>by simp[show ¬r=nx by omega];rw[u1 r (by omega) (nw1 r (by omega))];exact CF r hr
  have nv3:∀q∈bc v3,q∉bc Ql:=fun q hq e=>by have:=Uq q e;have:=o3.lt q hq;omega
  refine Ub (lo:=nx) (q6:=q6) (q10:=q10) (q17:=nx) (n:=n) (b:=b) (K:=n.keys.take a++[key]) (D:=n.kids.take a++cs++n.kids.drop b) (kv:=w3) (dv:=v3) (by simp[t3]) (by simp[t6]) (by simp[t10]) (by simp) ⟨M0,MZ,MY,rfl,vY⟩ (by rw[yE q6 l6];exact h6) (by rw[yE q10 Qs];exact im) (by simp) l6 Qs (zD _) (by omega)
   ((by simpa [aN] using r1:cP K3 m5 1 ((n.keys.take a++[key]).map aN) w3).ah (zD _) fun q hq=>by have:=bw3 q hq;simp[show ¬q=nx by omega]) (o4.ah (by omega) fun q hq=>by have:=bv3 q hq;simp[show ¬q=nx by omega];exact u1 q (by have:=o3.lt q hq;omega) (nv3 q hq))
   (fun q hq=>⟨by have:=bw3 q hq;omega,by have:=bw3 q hq;omega,fun e=>by have:=bw3 q hq;have:=o3.lt q e;omega⟩) bd3 (by omega) (by omega) (by simp;omega) (by omega) (by simp;omega) fun L w hp' nx' g1 g2 g3 g4 => ?_
  refine hP L w hp' nx' (by omega) (fun r u1 u2 _=>by rw[g2 r u1 u2];exact yE r u1) ?_ g4
  simpa [ms] using g3
 ·have Hh:¬(cs.length:Int)=2:=by omega
  rw[if_neg h2]at hP
  simp[t6,t9,t10,t12,t2,t3,p6,p9,pn,c3,Qo,c4,XS,aa,n6,n9,Z4,aG,lcs,Hh,h2]
  rw[hT]
  have yE:∀r,r<nx->ab K1 nx (some [[AV.v (Value.bool false),Ql,nS,v3]]) r=hp r:=fun r hr=>by simp[show ¬r=nx by omega];exact Ny r hr
  refine Ub (lo:=nx) (q6:=q6) (q10:=q10) (q17:=nx) (n:=n) (b:=b) (K:=n.keys.take a) (D:=n.kids.take a++cs++n.kids.drop b) (kv:=Ql) (dv:=v3) (by simp[t3]) (by simp[t6]) (by simp[t10]) (by simp) ⟨M0,MZ,MY,rfl,vY⟩ (by rw[yE q6 l6];exact h6) (by rw[yE q10 Qs];exact im) (by simp) l6 Qs (zD _) (by omega)
   (Rc.ah (zD _) fun q hq=>by have:=Uq q hq;simp[show ¬q=nx by omega]) (ZX.ah (zD _) fun q hq=>by have:=bv3 q hq;simp[show ¬q=nx by omega])
   (fun q hq=>⟨by have:=Uq q hq;omega,by have:=Uq q hq;omega,fun e=>by have:=Uq q hq;have:=o3.lt q e;omega⟩) bd3 (by omega) (by omega) (by simp;omega) (by omega) (by simp;omega) fun L w hp' nx' g1 g2 g3 g4 => ?_
  refine hP L w hp' nx' (by omega) (fun r u1 u2 _=>by rw[g2 r u1 u2];exact yE r u1) ?_ g4
  simpa [ms] using g3
end Go.Ai
namespace Go.Ai
open Go.Bt
def fy (t:T):List Nd->R (List Nat)
 |[]=>(.ok [],t)
 |n::r=>rb (aV t n) fun c t=>rb (fy t r) fun cs t=>(.ok (c::cs),t)
def eT:dz->List Nd
 |.one n=>[n]
 |.two a _ b=>[a,b]
def KL:dz->Bs
 |.one _=>[]
 |.two _ k _=>k
theorem ti (t:T) (n:Nd) (a b:Nat) (p:dz):bM t n a b p=rb (fy t (eT p)) fun cs t=>(.ok (kh (ms n a b (if (eT p).length=2 then [KL p] else []) (cs.map fun (c:Nat)=>(c:Int)))),t):=by
 cases p with
 |one x =>
  simp only[bM,eT,fy,KL]
  cases h:aV t x with
  |mk r t2=>cases r<;>simp[rb]
 |two x k y =>
  simp only[bM,eT,fy,KL]
  cases h:aV t x with
  |mk r t2 =>
   cases r with
   |error e=>simp[rb]
   |ok c =>
    simp only[rb]
    cases h:aV t2 y with
    |mk r t3=>cases r<;>simp[rb]
theorem eD {t:T} {n:Nd} {e:Nat} {t2:T} (h:aV t n=(.error e,t2)):e≠0:=by
 unfold aV at h
 split at h
 ·unfold nz at h
  split at h
  ·simp only[zPi,reduceCtorEq,false_and]at h
  ·simp only[zPi,Except.error.injEq]at h;omega
 ·simp only[zPi,Except.error.injEq]at h;omega
theorem KG {t t2:T} {ns:List Nd} {cs:List Nat} (h:fy t ns=(.ok cs,t2)):cs.length=ns.length:=by
 induction ns generalizing t t2 cs with
 |nil=>simp only[fy,zPi,Except.ok.injEq]at h;rw[<-h.1];rfl
 |cons n r ih =>
  simp only[fy]at h
  cases h1:aV t n with
  |mk o t3 =>
   rw[h1]at h
   cases o with
   |error e=>simp[rb]at h
   |ok c =>
    simp only[rb]at h
    cases h2:fy t3 r with
    |mk o t4 =>
     rw[h2]at h
     cases o with
     |error e=>simp at h
     |ok cs' =>
      simp only[zPi,Except.ok.injEq]at h
      have:=ih h2
      rw[<-h.1];simp[this]
def jW (hp:Heap) (nx lo:Nat) (F:List Nat) (o:Except Nat dz) (v:AV):Prop:=match o with
 |.ok p=>∃L w,v=.bE [w,.v (.int .i64 0)]/\iO hp nx L p w/\∀r∈L,lo<=r/\r∉F
 |.error e=>v=.bE [z2,iV e]
theorem ju.rows {p PA} (h:ju p PA):∃rows z,PA=.agg [z,.str (KL p)]/\fa 4 rows z/\rows.length=(eT p).length/\∀i (hi:i<(eT p).length),∃x,iq (eT p)[i] x/\rows[i]?=some x.cells:=by
 cases p with
 |one n =>
  obtain ⟨x,z,h1,h2,rfl⟩:=h
  refine ⟨_,z,rfl,h2,rfl,fun i hi => ?_⟩
  simp only[eT,zV,zS]at hi
  obtain rfl:i=0:=by omega
  exact ⟨x,h1,rfl⟩
 |two a k b =>
  obtain ⟨x,y,z,h1,h2,h3,rfl⟩:=h
  refine ⟨_,z,rfl,h3,rfl,fun i hi => ?_⟩
  simp only[eT,zV,zS]at hi
  rcases (by omega:i=0\/i=1) with rfl|rfl
  ·exact ⟨x,h1,rfl⟩
  ·exact ⟨y,h2,rfl⟩
theorem aao (n:Nat):bC (n:Int)=j0 n:=rfl
theorem f136 {hp nx rt rp rd F root t rootS B} (h:dD hp nx rt rp rd F root t rootS B) {n:Nd} {nA PA:AV} {p:dz} (hn:iq n nA) (xt:ju p PA) (n8:rW 5000 p) {a b:Nat} (hr:n.kids.length=n.keys.length+1) (IC:a<b) (hb:b<=n.kids.length) (gd:dK 5000 n) (hB:B<=800000000) :
  ∃v hp' nx' F',aZ E 136 [.ptr rt 0 0,nA,iV a,iV b,PA] hp nx v hp' nx' .e/\jW hp' nx' nx F' (bM t n a b p).1 v/\rM hp' nx' rt rp rd F' root (bM t n a b p) rootS (B+10)/\Fr F hp nx F' hp' nx':=by
 have main:=an (P:=fun v hp' nx'=>∃F',jW hp' nx' nx F' (bM t n a b p).1 v/\rM hp' nx' rt rp rd F' root (bM t n a b p) rootS (B+10)/\Fr F hp nx F' hp' nx') e136 (args:=[.ptr rt 0 0,nA,iV a,iV b,PA]) rfl (hp:=hp) (nx:=nx) ?_
 ·obtain ⟨v,hp',nx',h1,F',h2⟩:=main
  exact ⟨v,hp',nx',F',h1,h2⟩
 have iX:=h.lt
 rw[ti]
 obtain ⟨rows,z,rfl,hz,Dv,eb⟩:=xt.rows
 have WA:∀i (hi:i<(eT p).length),XE (eT p)[i]:=by
  intro i hi
  cases p with
  |one x =>
   simp only[eT,zV,zS]at hi ⊢;obtain rfl:i=0:=by omega
   have:=n8;exact ⟨by have:=this.1;simp;omega,by have:=this.2.1;simp;omega,by have:=this.2.2;simp;omega⟩
  |two x k y =>
   simp only[eT,zV,zS]at hi ⊢
   have h1:=n8.1;have h2:=n8.2
   rcases (by omega:i=0\/i=1) with rfl|rfl
   ·exact ⟨by have:=h1.1;simp;omega,by have:=h1.2.1;simp;omega,by have:=h1.2.2;simp;omega⟩
   ·exact ⟨by have:=h2.1;simp;omega,by have:=h2.2.1;simp;omega,by have:=h2.2.2;simp;omega⟩
 have RW:(eT p).length=1\/(eT p).length=2:=by cases p<;>simp[eT]
 generalize eT p=ns at *
 generalize KL p=key at *
 obtain ⟨zn,zs,zc,rfl,Eo⟩:=hz
 have yB:=hn
 obtain ⟨kA,iA,dA,rfl,hkS,Yh,hdS⟩:=hn
 have cU:∀X Y Z,Ro hp nx (ab (ab (ab hp nx X) (nx+1) Y) (nx+1+1) Z) (nx+1+1+1):=fun X Y Z=>⟨by omega,fun r hr=>by simp[show ¬r=nx by omega,show ¬r=nx+1 by omega,show ¬r=nx+1+1 by omega]⟩
 obtain ⟨TC,hT⟩:∃TC,TC=Dc:=⟨_,rfl⟩
 have iW:=hT
 simp only[Dc,c136]at iW
 simp only[c136]
 rw[<-iW]
 obtain ⟨M0,MZ,MY,rfl,vY⟩:=id hkS
 obtain ⟨Tm,Tl,Tk,rfl,EF⟩:=id Yh
 obtain ⟨Ug,Uf,Ue,rfl,FO⟩:=id hdS
 simp[Dv]
 obtain ⟨H1,fq⟩:∃H1,H1=ab (ab (ab hp nx (some [[.v (.bool n.leaf),.rs M0 MZ (n.keys.map aN) MY,.rs Tm Tl (n.items.map bD.cells) Tk,.rs Ug Uf (n.kids.map bC) Ue]])) (nx+1) (some [[.rs zn zs rows zc,.str key]])) (nx+1+1) (some [[nS,.str []]]):=⟨_,rfl⟩
 rw[<-fq]
 have ck:=cU (some [[.v (.bool n.leaf),.rs M0 MZ (n.keys.map aN) MY,.rs Tm Tl (n.items.map bD.cells) Tk,.rs Ug Uf (n.kids.map bC) Ue]]) (some [[.rs zn zs rows zc,.str key]]) (some [[nS,.str []]])
 rw[<-fq]at ck
 have b0:H1 nx=some [[.v (.bool n.leaf),.rs M0 MZ (n.keys.map aN) MY,.rs Tm Tl (n.items.map bD.cells) Tk,.rs Ug Uf (n.kids.map bC) Ue]]:=by simp[fq,show ¬nx=nx+1+1 by omega]
 have b1:H1 (nx+1)=some [[.rs zn zs rows zc,.str key]]:=by simp[fq]
 have b2:H1 (nx+1+1)=some [[nS,.str []]]:=by simp[fq]
 have nF:∀q,nx<=q->q∉F:=fun q hq e=>by have:=iX q e;omega
 refine aL (I:=fun (g:Nat×T×List Nat×List Nat) s=>∃y,g.1<=ns.length/\s.tm 21=iV g.1/\s.tm 19=.rs zn zs rows zc/\s.tm 20=iV ns.length/\s.tm 0=.ptr rt 0 0/\s.tm 2=iV a/\s.tm 3=iV b /\
   s.tm 6=.ptr nx 0 0/\s.tm 9=.ptr (nx+1) 0 0/\s.tm 10=.ptr (nx+1+1) 0 0/\s.tm 12=y/\s.hp nx=H1 nx/\s.hp (nx+1)=H1 (nx+1)/\s.hp (nx+1+1)=H1 (nx+1+1)/\nx+1+1+1<=s.nx/\dq s.hp s.nx 1 (g.2.2.2.map j0) y /\
   (∀q∈bc y,nx+1+1+1<=q/\q∉g.2.2.1)/\(∀q,nx<=q->q<nx+1+1+1->q∉g.2.2.1)/\dD s.hp s.nx rt rp rd g.2.2.1 root g.2.1 rootS (B+g.1)/\Fr F hp nx g.2.2.1 s.hp s.nx /\
   fy t ns=rb (fy g.2.1 (ns.drop g.1)) (fun r t=>(.ok (g.2.2.2++r),t))/\g.2.2.2.length=g.1) (fun g=>ns.length-g.1) (0,t,F,[]) ?_ ?_
 ·refine ⟨nS,by simp,by simp,by simp,by simp,by simp,by simp,by simp,by simp,by simp,by simp,by simp,rfl,rfl,rfl,zD _,.inl ⟨rfl,rfl⟩,by simp,fun q h1 _=>nF q h1,(h.ro ck).more (by omega),ck.fr F,?_,rfl⟩
  simp only[zb,zh]
  cases hl:fy t ns with
  |mk r t2=>cases r<;>rfl
 rintro ⟨i,t1,F1,cs⟩ tm hp1 nx1 ⟨y,hi,t21,t19,t20,t0,t2,t3,t6,t9,t10,t12,kE,KV,VL,Ye,hW,Bj,Bn,oz,nf,EC,gf⟩
 simp only at hi t21 t19 t20 t0 t2 t3 t6 t9 t10 t12 kE KV VL Ye hW Bj Bn oz nf EC gf
 rw[EC]
 rw[b0]at kE;rw[b1]at KV;rw[b2]at VL
 by_cases az:i<ns.length
 ·have bn:(i:Int)<(ns.length:Int):=by omega
  obtain ⟨x,hxA,Tq⟩:=eb i az
  have bJ:=aS (n:=4) (k:=.i64) (cap:=zc) Eo Tq
  obtain ⟨xb,uY,uX,xk3,xk4,xi1,xi2,xi3,xi4,u9,uZ,xd3,xd4,rfl⟩:=hxA.shape
  have iD:Ro hp1 nx1 (ab hp1 nx1 (some [[.v (.bool xb),.rs uY uX xk3 xk4,.rs xi1 xi2 xi3 xi4,.rs u9 uZ xd3 xd4]])) (nx1+1):=cR
  have WO:=oz.ro iD
  obtain ⟨aT,ar,F2,r2,me,ie⟩:=f131 WO hxA (WA i az) (by omega)
  have K6:=ie.le
  have s9:ns.drop i=ns[i]::ns.drop (i+1):=zN az
  have oZ:fy t1 (ns.drop i)=rb (aV t1 ns[i]) fun c t=>rb (fy t (ns.drop (i+1))) fun cs t=>(.ok (c::cs),t):=by rw[s9];rfl
  simp[t21,t19,t20,t0,bn,bJ,-ag,aa,aG]
  refine ae r2 ?_
  have oa:∀q,q<nx1->q∉F1->aT q=hp1 q:=fun q u1 u2=>by rw[ie.ah q (by omega) u2];simp[show ¬q=nx1 by omega]
  have Hf:∀q,q<nx1->q∉F1->q∉F2:=fun q u1 u2 e=>(ie.sub q e).elim u2 (by omega)
  cases hl:aV t1 ns[i] with
  |mk o t4 =>
   rw[hl]at me
   cases o with
   |error e =>
    have he:¬e=0:=eD hl
    have Ko:aT (nx+1+1)=some [[nS,.str []]]:=by rw[oa _ (by omega) (Bn _ (by omega) (by omega))];exact VL
    simp[gP,he,t10,Ko,aa]
    rw[oZ,hl]
    simp only[rb]
    exact ⟨F2,rfl,⟨he,t4.old,(me.more (by omega)).cK (Hf _ (by omega) (Bn _ (by omega) (by omega)))⟩,(nf.trans ((iD.fr F1).trans ie)).sB (zD _) fun r u1 u2=>by
     simp[show ¬r=nx+1+1 from fun e=>u2.elim (by omega) fun q=>Hf _ (by omega) (Bn _ (by omega) (by omega)) (e▸q)]⟩
   |ok c =>
    have Ip:=hW.lt
    have Ym:dq aT ar 1 (cs.map j0) y:=hW.ah (by omega) fun q hq=>oa q (Ip q hq) (Bj q hq).2
    obtain ⟨gb,a1,a2,a3⟩:=Ym.xC (bytes:=8) (new:=[j0 c]) (by simp) (by simp;omega)
    simp only[j0,zZ,zV,zS,Nat.zero_add]at a1
    have w1:IntKind.wrap .i64 ((i:Int)+1)=((i+1:Nat):Int):=by rw[aj]<;>omega
    have hyn:∀q,q<nx+1+1+1->q∉bc y:=fun q h1 h2=>by have:=(Bj q h2).1;omega
    have Ws:∀q,nx<=q->q<nx+1+1+1->gb q=hp1 q:=fun q h1 h2=>by rw[a3 q (by omega) (hyn q h2)];exact oa q (by omega) (Bn q h1 h2)
    have Nb:∀q∈bc y,q∉F2:=fun q hq=>Hf q (Ip q hq) (Bj q hq).2
    have mJ:=me.lt
    simp[gP,t12,t21,a1,w1,-Prod.exists]
    refine ⟨(i+1,t4,F2,cs++[c]),by simp only;omega,by simp only;omega,rfl,t19,t20,t0,t2,t3,t6,t9,t10,?_⟩
    have Aj:dD gb (ar+1) rt rp rd F2 root t4 rootS (B+(i+1)):=(me.more (by omega)).ah (by omega) fun q hq=>a3 q (by have:=mJ q hq;omega) fun e=>Nb q e hq
    have ml:Fr F hp nx F2 gb (ar+1):=(nf.trans ((iD.fr F1).trans ie)).sB (by omega) fun r u1 u2=>a3 r (by omega) fun e=>u2.elim (fun q=>by have:=(Bj r e).1;omega) fun q=>Nb r e q
    refine ⟨by rw[Ws nx (by omega) (by omega),kE,b0],by rw[Ws _ (by omega) (by omega),KV,b1],by rw[Ws _ (by omega) (by omega),VL,b2],by omega,.inr ⟨ar,by omega,by simp,by simp[a2,j0]⟩,⟨by omega,fun e=>by have:=mJ _ e;omega⟩,
     fun q h1 h2=>Hf q (by omega) (Bn q h1 h2),Aj,ml,?_,by simp[gf]⟩
    rw[oZ,hl]
    simp only[rb]
    cases fy t4 (ns.drop (i+1)) with
    |mk o t5=>cases o<;>simp
 ·have rS:i=ns.length:=by omega
  subst rS
  have bn:¬(ns.length:Int)<(ns.length:Int):=by omega
  simp[t21,t20]
  rw[hT]
  refine abB (n:=n) (key:=key) (cs:=cs.map fun (c:Nat)=>(c:Int)) (a:=a) (b:=b) t2 t3 t6 t9 t10 t12 hkS Yh hdS (by rw[qx];exact hW) kE KV VL (by omega) (by omega) (by omega) (by omega) (by omega) (by omega) (fun e=>by have:=(Bj _ e).1;omega) (fun e=>by have:=(Bj _ e).1;omega) (fun e=>by have:=(Bj _ e).1;omega) hr IC hb gd (by simp;omega) ⟨rfl,rfl⟩ fun L w hp' nx' g1 g2 g3 g4 => ?_
  simp only[wt,fy,rb,zT]
  rw[zZ,gf]at g3
  refine ⟨F1,⟨L,w,rfl,g3,fun r hr=>⟨by have:=g4 r hr;omega,fun e=>by have:=oz.lt r e;have:=g4 r hr;omega⟩⟩,?_,?_⟩
  ·exact (oz.more (by omega)).ah g1 fun r hr=>g2 r (oz.lt r hr) (fun e=>Bn _ (by omega) (by omega) (e▸hr)) fun e=>(Bj r e).2 hr
  ·exact nf.sB g1 fun r u1 u2=>g2 r u1 (fun e=>u2.elim (by omega) fun q=>Bn _ (by omega) (by omega) (e▸q)) fun e=>u2.elim (fun q=>by have:=(Bj r e).1;omega) fun q=>(Bj r e).2 q
end Go.Ai
namespace Go.Ai
open Go.Bt
theorem Fr.HY {F L hp nx F2 aT ar kF r9} (hF:Fr F hp nx F2 aT ar) (hn:ar<=r9) (hk:∀r,r<ar->(r<nx/\r∉L\/r∈F2)->kF r=aT r):Fr (L++F) hp nx F2 kF r9 :=
 ⟨wH hF.le hn,fun r u1 u2=>by
  simp only[zJ,not_or]at u2
  rw[hk r (by have:=hF.le;omega) (.inl ⟨u1,u2.1⟩)];exact hF.ah r u1 u2.2,fun r hr=>(hF.sub r hr).imp (fun q=>zJ.2 (.inr q)) id⟩
theorem abD {hp nx rt rp rd F root t rootS B} (h:dD hp nx rt rp rd F root t rootS B) {n x:Nd} {nA xA:AV} (hn:iq n nA) {L:List Nat} (hx:Dn hp nx L x xA) (Ld:∀r∈L,r∉F) (hr:ax n=true) (dg:n.leaf=false) (hj:1<n.kids.length) (gd:dK 5000 n) (nE:dK 5000 x) (hB:B<=800000000) :
  ∃v hp' nx' F',aZ E 135 [.ptr rt 0 0,nA,iV 0,xA] hp nx v hp' nx' .e/\Kh (ff t n 0 x).1 v/\rM hp' nx' rt rp rd F' root (ff t n 0 x) rootS (B+1)/\Fr (L++F) hp nx F' hp' nx':=by
 have main:=an (P:=fun v hp' nx'=>Kh (ff t n 0 x).1 v/\∃F',rM hp' nx' rt rp rd F' root (ff t n 0 x) rootS (B+1)/\Fr (L++F) hp nx F' hp' nx') e135 (args:=[.ptr rt 0 0,nA,iV 0,xA]) rfl (hp:=hp) (nx:=nx) ?_
 ·obtain ⟨v,hp',nx',h1,h2,F',h3⟩:=main
  exact ⟨v,hp',nx',F',h1,h2,h3⟩
 have hf:=(aY.of hr).inner dg
 have Wq:0<n.keys.length:=by have:=hf.2.1;omega
 have vw:1<n.kids.length:=by omega
 have G9:=hf.2.2.2 _ (zP vw)
 obtain ⟨c,hc⟩:∃c:Nat,n.kids[1]=(c:Int):=⟨(n.kids[1]).toNat,by simp only[jZ,zM,decide_eq_true_eq]at G9;omega⟩
 have hle:ff t n 0 x=rb (eA t c) fun o t=>(.ok (kH (mD x (n.keys[0]) o),0),t):=by
  simp[ff,zA vw,zA Wq,hc]
 have kE:=hx
 have uH:=hx.lt
 obtain ⟨k,i,d,rfl,⟨k1,k2,k4,rfl,jf⟩,⟨i1,i2,i4,rfl,kG⟩,⟨d1,d2,d4,rfl,AE⟩⟩:=hn
 obtain ⟨xk,_,xd,rfl,SV,⟨En,CA,Em,rfl,xiS⟩,Qk,hLe⟩:=hx
 obtain ⟨uY,uX⟩:=SV.one
 obtain ⟨u9,uZ⟩:=Qk.one
 have a1:b9 1 (.rs d1 d2 (n.kids.map bC) d4) (iV 1)=some (.rp [iV c]):=aS (k:=.i64) (j:=1) (n:=1) AE (by simp[zA vw,hc,bC])
 have a2:b9 1 (.rs k1 k2 (n.keys.map aN) k4) (iV 0)=some (.rp [.str n.keys[0]]):=aS (k:=.i64) (j:=0) (n:=1) jf (by simp[zA Wq,aN])
 have hH:=(⟨_,rfl⟩:∃H1,H1=ab (ab (ab hp nx (some [[.v (.bool n.leaf),.rs k1 k2 (n.keys.map aN) k4,.rs i1 i2 (n.items.map bD.cells) i4,.rs d1 d2 (n.kids.map bC) d4]])) (nx+1) (some [[.v (.bool x.leaf),xk,.rs En CA (x.items.map bD.cells) Em,xd]])) (nx+1+1) (some [[nS,.str []]]))
 obtain ⟨H1,fq⟩:=hH
 have tL:H1 nx=some [[.v (.bool n.leaf),.rs k1 k2 (n.keys.map aN) k4,.rs i1 i2 (n.items.map bD.cells) i4,.rs d1 d2 (n.kids.map bC) d4]]:=by simp[fq,show ¬nx=nx+1+1 by omega]
 have ta:H1 (nx+1)=some [[.v (.bool x.leaf),xk,.rs En CA (x.items.map bD.cells) Em,xd]]:=by simp[fq]
 have vx:H1 (nx+1+1)=some [[nS,.str []]]:=by simp[fq]
 have cU:Ro hp nx H1 (nx+1+1+1):=⟨by omega,fun r hr=>by simp[fq,show ¬r=nx by omega,show ¬r=nx+1 by omega,show ¬r=nx+1+1 by omega]⟩
 have h1:=h.ro cU
 have iX:=h.lt
 obtain ⟨v2,aT,ar,F2,r2,q2,iW,ig⟩:=f132 h1 c (by omega)
 have Az:=ig.le
 have nF:∀q,nx<=q->q<nx+1+1+1->q∉F/\q∉F2/\aT q=H1 q:=fun q u1 u2=>by
  have hq:q∉F:=fun e=>by have:=iX q e;omega
  exact ⟨hq,fun e=>(ig.sub q e).elim hq (by omega),ig.ah q (by omega) hq⟩
 have m0:=nF nx (by omega) (by omega)
 have m1:=nF (nx+1) (by omega) (by omega)
 have m2:=nF (nx+1+1) (by omega) (by omega)
 have p0:=m0.2.2.trans tL
 have p1:=m1.2.2.trans ta
 have p2:=m2.2.2.trans vx
 have mJ:=iW.lt
 have Et:∀H:Heap,(∀r∈L,H r=hp r)->de H L=de hp L:=fun H hH=>by
  funext r
  simp only[de]
  split
  ·rename_i hr;exact hH r hr
  ·rfl
 have dn2:∀H:Heap,j7 H L (nx+1+1)=H (nx+1+1):=fun H=>fG fun e=>by have:=uH _ e;omega
 have NS:∀r∈F2,r∉L:=fun r hr e=>(ig.sub r hr).elim (Ld r e) fun q=>by have:=uH r e;omega
 simp[c135,a1,a2,hc,-ag,-Int.natCast_add,<-fq,tL,ta,vx,uY,uX,u9,uZ]
 refine ae r2 ?_
 rw[hle]
 cases ht:eA t c with
 |mk ro t2 =>
  rw[ht]at q2 iW
  cases ro with
  |error e =>
   have he:¬e=0:=ug (by rw[ht])
   simp only[Kg]at q2
   subst q2
   simp[ez,he,aa,aG,uY,uX,u9,uZ,p0,p1,p2,show ¬nx=ar by omega,show ¬ar=nx by omega,show ¬nx=ar+1 by omega,show ¬ar+1=nx by omega,show ¬nx=ar+1+1 by omega,show ¬ar+1+1=nx by omega,show ¬nx+1=ar by omega,show ¬ar=nx+1 by omega,show ¬nx+1=ar+1 by omega,show ¬ar+1=nx+1 by omega,show ¬nx+1=ar+1+1 by omega,show ¬ar+1+1=nx+1 by omega,show ¬nx+1+1=ar by omega,show ¬ar=nx+1+1 by omega,show ¬nx+1+1=ar+1 by omega,show ¬ar+1=nx+1+1 by omega,show ¬nx+1+1=ar+1+1 by omega,show ¬ar+1+1=nx+1+1 by omega,show ¬ar=ar+1+1 by omega,show ¬ar+1+1=ar by omega]
   refine ⟨rfl,F2,⟨he,t2.old,(iW.ah (nx':=ar+1) (by omega) fun r hr => ?_)⟩,((cU.fr F).trans ig).HY (by omega) fun r u1 u2 => ?_⟩
   ·have:=mJ r hr
    simp[show ¬r=ar by omega,show ¬r=nx+1+1 from fun e=>m2.2.1 (e▸hr)]
   ·simp[show ¬r=ar by omega,show ¬r=nx+1+1 from fun e=>u2.elim (by omega) (fun q=>m2.2.1 (e▸q))]
  |ok o =>
   obtain ⟨y,Du,rfl⟩:=q2
   have oy:=(h1.ni (a:=c) (n:=o) (by rw[ht])).1
   have hy:=Du
   obtain ⟨LC,KP,KO,KN,KM,KT,KS,KR,KQ,Lv,Lu,E8,Ls,rfl⟩:=hy.shape
   obtain ⟨MX,MW,MV,_⟩:=hy.cl
   obtain ⟨x0,WM,e0⟩:=kE.IH
   obtain ⟨z,hz,rz⟩:=Ua x o _ _ WM Du (n.keys[0]) (by have:=nE.1;have:=oy.1;omega) (by have:=nE.2.1;have:=oy.2.1;omega) (by have:=nE.2.2;have:=oy.2.2;omega) (by have:=nE.1;have:=oy.1;omega) (by have:=nE.2.1;have:=oy.2.1;omega) (by have:=nE.2.2;have:=oy.2.2;omega)
   have Wn:=nE.join oy (k:=n.keys[0])
   obtain ⟨pA,xt,Cb⟩:=f133 _ z hz (by have:=Wn.1;omega) (by have:=Wn.2.1;omega) (by have:=Wn.2.2;omega)
   obtain ⟨pcl,pz,pk,rfl,po⟩:=xt.cl
   simp[aa,aG,uY,uX,u9,uZ,p0,p1,p2,a2,show ¬nx=ar by omega,show ¬ar=nx by omega,show ¬nx=ar+1 by omega,show ¬ar+1=nx by omega,show ¬nx=ar+1+1 by omega,show ¬ar+1+1=nx by omega,show ¬nx+1=ar by omega,show ¬ar=nx+1 by omega,show ¬nx+1=ar+1 by omega,show ¬ar+1=nx+1 by omega,show ¬nx+1=ar+1+1 by omega,show ¬ar+1+1=nx+1 by omega,show ¬nx+1+1=ar by omega,show ¬ar=nx+1+1 by omega,show ¬nx+1+1=ar+1 by omega,show ¬ar+1=nx+1+1 by omega,show ¬nx+1+1=ar+1+1 by omega,show ¬ar+1+1=nx+1+1 by omega,show ¬ar=ar+1+1 by omega,show ¬ar+1+1=ar by omega,-ag,-Int.natCast_add]
   refine ae (ub (args:=[.agg [.v (.bool x.leaf),xk,.rs En CA (x.items.map bD.cells) Em,xd],.str (n.keys[0]),.agg [.v (.bool LC),.rs KP KO KN KM,.rs KT KS KR KQ,.rs Lv Lu E8 Ls]]) (args0:=[x0,.str (n.keys[0]),.agg [.v (.bool LC),.rs KP KO KN KM,.rs KT KS KR KQ,.rs Lv Lu E8 Ls]]) L (by
    rw[Et _ fun r hr=>by
     have u1:=uH r hr
     simp[show ¬r=ar by omega,show ¬r=ar+1 by omega,show ¬r=ar+1+1 by omega]
     rw[ig.ah r (by omega) (Ld r hr)]
     exact cU.ah r u1]
    simp[br,e0,nI,MX,MW,MV]) (rz _ _)) ?_
   simp[aa,aG,uY,uX,u9,uZ,p0,p1,p2,a2,show ¬nx=ar by omega,show ¬ar=nx by omega,show ¬nx=ar+1 by omega,show ¬ar+1=nx by omega,show ¬nx=ar+1+1 by omega,show ¬ar+1+1=nx by omega,show ¬nx+1=ar by omega,show ¬ar=nx+1 by omega,show ¬nx+1=ar+1 by omega,show ¬ar+1=nx+1 by omega,show ¬nx+1=ar+1+1 by omega,show ¬ar+1+1=nx+1 by omega,show ¬nx+1+1=ar by omega,show ¬ar=nx+1+1 by omega,show ¬nx+1+1=ar+1 by omega,show ¬ar+1=nx+1+1 by omega,show ¬nx+1+1=ar+1+1 by omega,show ¬ar+1+1=nx+1+1 by omega,show ¬ar=ar+1+1 by omega,show ¬ar+1+1=ar by omega,-ag,-Int.natCast_add]
   refine ap (Cb _ _) ?_
   simp[aa,aG,uY,uX,u9,uZ,p0,p1,p2,dn2,a2,show ¬nx=ar by omega,show ¬ar=nx by omega,show ¬nx=ar+1 by omega,show ¬ar+1=nx by omega,show ¬nx=ar+1+1 by omega,show ¬ar+1+1=nx by omega,show ¬nx+1=ar by omega,show ¬ar=nx+1 by omega,show ¬nx+1=ar+1 by omega,show ¬ar+1=nx+1 by omega,show ¬nx+1=ar+1+1 by omega,show ¬ar+1+1=nx+1 by omega,show ¬nx+1+1=ar by omega,show ¬ar=nx+1+1 by omega,show ¬nx+1+1=ar+1 by omega,show ¬ar+1=nx+1+1 by omega,show ¬nx+1+1=ar+1+1 by omega,show ¬ar+1+1=nx+1+1 by omega,show ¬ar=ar+1+1 by omega,show ¬ar+1+1=ar by omega,-ag,-Int.natCast_add]
   refine ⟨?_,⟨_,xt,rfl⟩,F2,(iW.ah (by omega) fun r hr => ?_),((cU.fr F).trans ig).HY (by omega) fun r u1 u2 => ?_⟩
   ·exact po
   ·have:=mJ r hr
    simp[show ¬r=nx+1+1 from fun e=>m2.2.1 (e▸hr)]
    rw[fG (NS r hr)]
    simp[show ¬r=ar by omega,show ¬r=ar+1 by omega,show ¬r=ar+1+1 by omega]
   ·have hrL:r∉L:=u2.elim (fun q=>q.2) (NS r)
    simp[show ¬r=nx+1+1 from fun e=>u2.elim (by omega) (fun q=>m2.2.1 (e▸q))]
    rw[fG hrL]
    simp[show ¬r=ar by omega,show ¬r=ar+1 by omega,show ¬r=ar+1+1 by omega]
theorem abC {hp nx rt rp rd F root t rootS B} (h:dD hp nx rt rp rd F root t rootS B) {n x:Nd} {nA xA:AV} (hn:iq n nA) {L:List Nat} (hx:Dn hp nx L x xA) (Ld:∀r∈L,r∉F) (hr:ax n=true) (dg:n.leaf=false) {j:Nat} (hj:j+1<n.kids.length) (gd:dK 5000 n) (nE:dK 5000 x) (hB:B<=800000000) :
  ∃v hp' nx' F',aZ E 135 [.ptr rt 0 0,nA,iV (j+1:Nat),xA] hp nx v hp' nx' .e/\Kh (ff t n (j+1) x).1 v/\rM hp' nx' rt rp rd F' root (ff t n (j+1) x) rootS (B+1)/\Fr (L++F) hp nx F' hp' nx':=by
 have main:=an (P:=fun v hp' nx'=>Kh (ff t n (j+1) x).1 v/\∃F',rM hp' nx' rt rp rd F' root (ff t n (j+1) x) rootS (B+1)/\Fr (L++F) hp nx F' hp' nx') e135 (args:=[.ptr rt 0 0,nA,iV (j+1:Nat),xA]) rfl (hp:=hp) (nx:=nx) ?_
 ·obtain ⟨v,hp',nx',h1,h2,F',h3⟩:=main
  exact ⟨v,hp',nx',F',h1,h2,h3⟩
 have hf:=(aY.of hr).inner dg
 have Wq:j<n.keys.length:=by have:=hf.2.1;omega
 have vw:j<n.kids.length:=by omega
 have G9:=hf.2.2.2 _ (zP vw)
 obtain ⟨c,hc⟩:∃c:Nat,n.kids[j]=(c:Int):=⟨(n.kids[j]).toNat,by simp only[jZ,zM,decide_eq_true_eq]at G9;omega⟩
 have hle:ff t n (j+1) x=rb (eA t c) fun o t=>(.ok (kH (mD o (n.keys[j]) x),j),t):=by
  simp[ff,zA vw,zA Wq,hc]
 have kE:=hx
 have uH:=hx.lt
 obtain ⟨k,i,d,rfl,⟨k1,k2,k4,rfl,jf⟩,⟨i1,i2,i4,rfl,kG⟩,⟨d1,d2,d4,rfl,AE⟩⟩:=hn
 obtain ⟨xk,_,xd,rfl,SV,⟨En,CA,Em,rfl,xiS⟩,Qk,hLe⟩:=hx
 obtain ⟨uY,uX⟩:=SV.one
 obtain ⟨u9,uZ⟩:=Qk.one
 have a1:b9 1 (.rs d1 d2 (n.kids.map bC) d4) (iV j)=some (.rp [iV c]):=aS (k:=.i64) (j:=j) (n:=1) AE (by simp[zA vw,hc,bC])
 have a2:b9 1 (.rs k1 k2 (n.keys.map aN) k4) (iV j)=some (.rp [.str n.keys[j]]):=aS (k:=.i64) (j:=j) (n:=1) jf (by simp[zA Wq,aN])
 have hjb:j<=5000:=by have:=gd.2.2;omega
 have w1:IntKind.wrap .i64 (((j+1:Nat):Int)-1)=(j:Int):=by rw[aj]<;>omega
 have w2:IntKind.wrap .i64 ((j:Int)+2)=((j+2:Nat):Int):=by rw[aj]<;>omega
 have n0:¬((j+1:Nat):Int)=0:=by omega
 have n1:¬(j:Int)=((j+1:Nat):Int):=by omega
 have hH:=(⟨_,rfl⟩:∃H1,H1=ab (ab (ab hp nx (some [[.v (.bool n.leaf),.rs k1 k2 (n.keys.map aN) k4,.rs i1 i2 (n.items.map bD.cells) i4,.rs d1 d2 (n.kids.map bC) d4]])) (nx+1) (some [[.v (.bool x.leaf),xk,.rs En CA (x.items.map bD.cells) Em,xd]])) (nx+1+1) (some [[nS,.str []]]))
 obtain ⟨H1,fq⟩:=hH
 have tL:H1 nx=some [[.v (.bool n.leaf),.rs k1 k2 (n.keys.map aN) k4,.rs i1 i2 (n.items.map bD.cells) i4,.rs d1 d2 (n.kids.map bC) d4]]:=by simp[fq,show ¬nx=nx+1+1 by omega]
 have ta:H1 (nx+1)=some [[.v (.bool x.leaf),xk,.rs En CA (x.items.map bD.cells) Em,xd]]:=by simp[fq]
 have vx:H1 (nx+1+1)=some [[nS,.str []]]:=by simp[fq]
 have cU:Ro hp nx H1 (nx+1+1+1):=⟨by omega,fun r hr=>by simp[fq,show ¬r=nx by omega,show ¬r=nx+1 by omega,show ¬r=nx+1+1 by omega]⟩
 have h1:=h.ro cU
 have iX:=h.lt
 obtain ⟨v2,aT,ar,F2,r2,q2,iW,ig⟩:=f132 h1 c (by omega)
 have Az:=ig.le
 have nF:∀q,nx<=q->q<nx+1+1+1->q∉F/\q∉F2/\aT q=H1 q:=fun q u1 u2=>by
  have hq:q∉F:=fun e=>by have:=iX q e;omega
  exact ⟨hq,fun e=>(ig.sub q e).elim hq (by omega),ig.ah q (by omega) hq⟩
 have m0:=nF nx (by omega) (by omega)
 have m1:=nF (nx+1) (by omega) (by omega)
 have m2:=nF (nx+1+1) (by omega) (by omega)
 have p0:=m0.2.2.trans tL
 have p1:=m1.2.2.trans ta
 have p2:=m2.2.2.trans vx
 have mJ:=iW.lt
 have Et:∀H:Heap,(∀r∈L,H r=hp r)->de H L=de hp L:=fun H hH=>by
  funext r
  simp only[de]
  split
  ·rename_i hr;exact hH r hr
  ·rfl
 have dn2:∀H:Heap,j7 H L (nx+1+1)=H (nx+1+1):=fun H=>fG fun e=>by have:=uH _ e;omega
 have NS:∀r∈F2,r∉L:=fun r hr e=>(ig.sub r hr).elim (Ld r e) fun q=>by have:=uH r e;omega
 simp[c135,w1,w2,n0,n1,a1,a2,hc,-ag,-Int.natCast_add,<-fq,tL,ta,vx,uY,uX,u9,uZ]
 refine ae r2 ?_
 rw[hle]
 cases ht:eA t c with
 |mk ro t2 =>
  rw[ht]at q2 iW
  cases ro with
  |error e =>
   have he:¬e=0:=ug (by rw[ht])
   simp only[Kg]at q2
   subst q2
   simp[ez,he,aa,aG,uY,uX,u9,uZ,p0,p1,p2,show ¬nx=ar by omega,show ¬ar=nx by omega,show ¬nx=ar+1 by omega,show ¬ar+1=nx by omega,show ¬nx=ar+1+1 by omega,show ¬ar+1+1=nx by omega,show ¬nx+1=ar by omega,show ¬ar=nx+1 by omega,show ¬nx+1=ar+1 by omega,show ¬ar+1=nx+1 by omega,show ¬nx+1=ar+1+1 by omega,show ¬ar+1+1=nx+1 by omega,show ¬nx+1+1=ar by omega,show ¬ar=nx+1+1 by omega,show ¬nx+1+1=ar+1 by omega,show ¬ar+1=nx+1+1 by omega,show ¬nx+1+1=ar+1+1 by omega,show ¬ar+1+1=nx+1+1 by omega,show ¬ar=ar+1+1 by omega,show ¬ar+1+1=ar by omega]
   refine ⟨rfl,F2,⟨he,t2.old,(iW.ah (nx':=ar+1) (by omega) fun r hr => ?_)⟩,((cU.fr F).trans ig).HY (by omega) fun r u1 u2 => ?_⟩
   ·have:=mJ r hr
    simp[show ¬r=ar by omega,show ¬r=nx+1+1 from fun e=>m2.2.1 (e▸hr)]
   ·simp[show ¬r=ar by omega,show ¬r=nx+1+1 from fun e=>u2.elim (by omega) (fun q=>m2.2.1 (e▸q))]
  |ok o =>
   obtain ⟨y,Du,rfl⟩:=q2
   have oy:=(h1.ni (a:=c) (n:=o) (by rw[ht])).1
   have hy:=Du
   obtain ⟨LC,KP,KO,KN,KM,KT,KS,KR,KQ,Lv,Lu,E8,Ls,rfl⟩:=hy.shape
   obtain ⟨MX,MW,MV,_⟩:=hy.cl
   obtain ⟨x0,WM,e0⟩:=kE.IH
   obtain ⟨z,hz,rz⟩:=Ua o x _ _ Du WM (n.keys[j]) (by have:=nE.1;have:=oy.1;omega) (by have:=nE.2.1;have:=oy.2.1;omega) (by have:=nE.2.2;have:=oy.2.2;omega) (by have:=nE.1;have:=oy.1;omega) (by have:=nE.2.1;have:=oy.2.1;omega) (by have:=nE.2.2;have:=oy.2.2;omega)
   have Wn:=oy.join nE (k:=n.keys[j])
   obtain ⟨pA,xt,Cb⟩:=f133 _ z hz (by have:=Wn.1;omega) (by have:=Wn.2.1;omega) (by have:=Wn.2.2;omega)
   obtain ⟨pcl,pz,pk,rfl,po⟩:=xt.cl
   simp[aa,aG,uY,uX,u9,uZ,p0,p1,p2,a2,show ¬nx=ar by omega,show ¬ar=nx by omega,show ¬nx=ar+1 by omega,show ¬ar+1=nx by omega,show ¬nx=ar+1+1 by omega,show ¬ar+1+1=nx by omega,show ¬nx+1=ar by omega,show ¬ar=nx+1 by omega,show ¬nx+1=ar+1 by omega,show ¬ar+1=nx+1 by omega,show ¬nx+1=ar+1+1 by omega,show ¬ar+1+1=nx+1 by omega,show ¬nx+1+1=ar by omega,show ¬ar=nx+1+1 by omega,show ¬nx+1+1=ar+1 by omega,show ¬ar+1=nx+1+1 by omega,show ¬nx+1+1=ar+1+1 by omega,show ¬ar+1+1=nx+1+1 by omega,show ¬ar=ar+1+1 by omega,show ¬ar+1+1=ar by omega,w1,w2,n0,n1,-ag,-Int.natCast_add]
   refine ae (ub (args:=[.agg [.v (.bool LC),.rs KP KO KN KM,.rs KT KS KR KQ,.rs Lv Lu E8 Ls],.str (n.keys[j]),.agg [.v (.bool x.leaf),xk,.rs En CA (x.items.map bD.cells) Em,xd]]) (args0:=[.agg [.v (.bool LC),.rs KP KO KN KM,.rs KT KS KR KQ,.rs Lv Lu E8 Ls],.str (n.keys[j]),x0]) L (by
    rw[Et _ fun r hr=>by
     have u1:=uH r hr
     simp[show ¬r=ar by omega,show ¬r=ar+1 by omega,show ¬r=ar+1+1 by omega]
     rw[ig.ah r (by omega) (Ld r hr)]
     exact cU.ah r u1]
    simp[br,e0,nI,MX,MW,MV]) (rz _ _)) ?_
   simp[aa,aG,uY,uX,u9,uZ,p0,p1,p2,a2,show ¬nx=ar by omega,show ¬ar=nx by omega,show ¬nx=ar+1 by omega,show ¬ar+1=nx by omega,show ¬nx=ar+1+1 by omega,show ¬ar+1+1=nx by omega,show ¬nx+1=ar by omega,show ¬ar=nx+1 by omega,show ¬nx+1=ar+1 by omega,show ¬ar+1=nx+1 by omega,show ¬nx+1=ar+1+1 by omega,show ¬ar+1+1=nx+1 by omega,show ¬nx+1+1=ar by omega,show ¬ar=nx+1+1 by omega,show ¬nx+1+1=ar+1 by omega,show ¬ar+1=nx+1+1 by omega,show ¬nx+1+1=ar+1+1 by omega,show ¬ar+1+1=nx+1+1 by omega,show ¬ar=ar+1+1 by omega,show ¬ar+1+1=ar by omega,w1,w2,n0,n1,-ag,-Int.natCast_add]
   refine ap (Cb _ _) ?_
   simp[aa,aG,uY,uX,u9,uZ,p0,p1,p2,dn2,a2,show ¬nx=ar by omega,show ¬ar=nx by omega,show ¬nx=ar+1 by omega,show ¬ar+1=nx by omega,show ¬nx=ar+1+1 by omega,show ¬ar+1+1=nx by omega,show ¬nx+1=ar by omega,show ¬ar=nx+1 by omega,show ¬nx+1=ar+1 by omega,show ¬ar+1=nx+1 by omega,show ¬nx+1=ar+1+1 by omega,show ¬ar+1+1=nx+1 by omega,show ¬nx+1+1=ar by omega,show ¬ar=nx+1+1 by omega,show ¬nx+1+1=ar+1 by omega,show ¬ar+1=nx+1+1 by omega,show ¬nx+1+1=ar+1+1 by omega,show ¬ar+1+1=nx+1+1 by omega,show ¬ar=ar+1+1 by omega,show ¬ar+1+1=ar by omega,w1,w2,n0,n1,-ag,-Int.natCast_add]
   refine ⟨?_,⟨_,xt,rfl⟩,F2,(iW.ah (by omega) fun r hr => ?_),((cU.fr F).trans ig).HY (by omega) fun r u1 u2 => ?_⟩
   ·exact po
   ·have:=mJ r hr
    simp[show ¬r=nx+1+1 from fun e=>m2.2.1 (e▸hr)]
    rw[fG (NS r hr)]
    simp[show ¬r=ar by omega,show ¬r=ar+1 by omega,show ¬r=ar+1+1 by omega]
   ·have hrL:r∉L:=u2.elim (fun q=>q.2) (NS r)
    simp[show ¬r=nx+1+1 from fun e=>u2.elim (by omega) (fun q=>m2.2.1 (e▸q))]
    rw[fG hrL]
    simp[show ¬r=ar by omega,show ¬r=ar+1 by omega,show ¬r=ar+1+1 by omega]
end Go.Ai
namespace Go.Ai
open Go.Bt
def fb:dz->Prop
 |.one n=>∀c∈n.kids,0<=c
 |.two _ _ _=>True
theorem Lf (t:T) (a:Nd) (k:Bs) (b:Nd):dG t (.two a k b)=rb (fy t [a,b]) fun cs t=>aV t ⟨false,[k],[],cs.map fun (c:Nat)=>(c:Int)⟩:=by
 simp only[dG,fy]
 cases h:aV t a with
 |mk r t2 =>
  cases r with
  |error e=>simp[rb]
  |ok c =>
   simp only[rb]
   cases h:aV t2 b with
   |mk r t3=>cases r<;>simp[rb]
theorem NZ {k hp r i o}:fJ (k+1) hp (.ptr r i o)=some (.ptr r i o):=by
 rw[fJ]
 split<;>rfl
theorem HJ {E:Env} {f:Nat} {hp:Heap} {nx:Nat} {L:List Nat} {n:Nd} {r:Nat} {x v:AV} {hp':Heap} {nx':Nat} {k:Kd} (hx:Dn hp nx L n x) {x0:AV} (e0:fJ 6 (de hp L) x=some x0) (h:aZ E f [.ptr r 0 0,x0] (j7 hp L) nx v hp' nx' k):aZ E f [.ptr r 0 0,x] hp nx v hp' nx' .e :=
 ub L (by simp[br,e0,NZ]) h
theorem Sj {hp nx rt rp rd F root t rootS B} (h:dD hp nx rt rp rd F root t rootS B) {PA:AV} {xa xb:Nd} {key:Bs} (xt:ju (.two xa key xb) PA) (n8:rW 5000 (.two xa key xb)) (hB:B<=800000000) :
  ∃hp' nx' F',aZ E 110 [.ptr rt 0 0,PA] hp nx (gP (dG t (.two xa key xb)).1) hp' nx' .e/\rM hp' nx' rt rp rd F' root (dG t (.two xa key xb)) rootS (B+10)/\Fr F hp nx F' hp' nx':=by
 have main:=an (P:=fun v hp' nx'=>v=gP (dG t (.two xa key xb)).1/\∃F',rM hp' nx' rt rp rd F' root (dG t (.two xa key xb)) rootS (B+10)/\Fr F hp nx F' hp' nx') e110 (args:=[.ptr rt 0 0,PA]) rfl (hp:=hp) (nx:=nx) ?_
 ·obtain ⟨v,hp',nx',h1,rfl,F',h2⟩:=main
  exact ⟨hp',nx',F',h1,h2⟩
 have iX:=h.lt
 rw[Lf]
 obtain ⟨rows,z,rfl,hz,Dv,eb⟩:=xt.rows
 obtain ⟨ns,Iu⟩:∃ns,ns=[xa,xb]:=⟨_,rfl⟩
 have Nx:KL (.two xa key xb)=key:=rfl
 rw[Nx]at xt ⊢
 have WA:∀i (hi:i<ns.length),XE ns[i]:=by
  intro i hi
  subst Iu
  simp only[zV,zS]at hi
  have h1:=n8.1;have h2:=n8.2
  rcases (by omega:i=0\/i=1) with rfl|rfl
  ·exact ⟨by have:=h1.1;simp;omega,by have:=h1.2.1;simp;omega,by have:=h1.2.2;simp;omega⟩
  ·exact ⟨by have:=h2.1;simp;omega,by have:=h2.2.1;simp;omega,by have:=h2.2.2;simp;omega⟩
 have RW:ns.length=2:=by rw[Iu];rfl
 have aeo:rows.length=ns.length:=by rw[Dv,Iu];rfl
 have aaz:∀i (hi:i<ns.length),∃x,iq ns[i] x/\rows[i]?=some x.cells:=by subst Iu;exact eb
 clear eb Dv
 have eb:=aaz
 have Dv:=aeo
 rw[<-Iu]
 obtain ⟨zn,zs,zc,rfl,Eo⟩:=hz
 have ck:Ro hp nx (ab hp nx (some [[.rs zn zs rows zc,.str key]])) (nx+1):=cR
 simp[c110,Dv,RW]
 obtain ⟨H1,fq⟩:∃H1,H1=ab hp nx (some [[.rs zn zs rows zc,.str key]]):=⟨_,rfl⟩
 rw[<-fq]at ck ⊢
 have b0:H1 nx=some [[.rs zn zs rows zc,.str key]]:=by simp[fq]
 have nF:∀q,nx<=q->q∉F:=fun q hq e=>by have:=iX q e;omega
 refine aL (I:=fun (g:Nat×T×List Nat×List Nat) s=>∃y,g.1<=ns.length/\s.tm 46=iV g.1/\s.tm 44=.rs zn zs rows zc/\s.tm 45=iV ns.length/\s.tm 0=.ptr rt 0 0 /\
   s.tm 3=.ptr nx 0 0/\s.tm 7=y/\s.hp nx=H1 nx/\nx+1<=s.nx/\dq s.hp s.nx 1 (g.2.2.2.map j0) y /\
   (∀q∈bc y,nx+1<=q/\q∉g.2.2.1)/\nx∉g.2.2.1/\dD s.hp s.nx rt rp rd g.2.2.1 root g.2.1 rootS (B+g.1)/\Fr F hp nx g.2.2.1 s.hp s.nx /\
   fy t ns=rb (fy g.2.1 (ns.drop g.1)) (fun r t=>(.ok (g.2.2.2++r),t))/\g.2.2.2.length=g.1) (fun g=>ns.length-g.1) (0,t,F,[]) ?_ ?_
 ·refine ⟨nS,by simp,by simp,by simp,by simp[RW],by simp,by simp,by simp,rfl,zD _,.inl ⟨rfl,rfl⟩,by simp,nF _ (zD _),(h.ro ck).more (by omega),ck.fr F,?_,rfl⟩
  simp only[zb,zh]
  cases hl:fy t ns with
  |mk r t2=>cases r<;>rfl
 rintro ⟨i,t1,F1,cs⟩ tm hp1 nx1 ⟨y,hi,t21,t19,t20,t0,t3,t12,kE,Ye,hW,Bj,Bn,oz,nf,EC,gf⟩
 simp only at hi t21 t19 t20 t0 t3 t12 kE Ye hW Bj Bn oz nf EC gf
 rw[EC]
 rw[b0]at kE
 by_cases az:i<ns.length
 ·have bn:(i:Int)<(ns.length:Int):=by omega
  obtain ⟨x,hxA,Tq⟩:=eb i az
  have bJ:=aS (n:=4) (k:=.i64) (cap:=zc) Eo Tq
  obtain ⟨xb,uY,uX,xk3,xk4,xi1,xi2,xi3,xi4,u9,uZ,xd3,xd4,rfl⟩:=hxA.shape
  have iD:Ro hp1 nx1 (ab hp1 nx1 (some [[.v (.bool xb),.rs uY uX xk3 xk4,.rs xi1 xi2 xi3 xi4,.rs u9 uZ xd3 xd4]])) (nx1+1):=cR
  have WO:=oz.ro iD
  obtain ⟨aT,ar,F2,r2,me,ie⟩:=f131 WO hxA (WA i az) (by omega)
  have K6:=ie.le
  have s9:ns.drop i=ns[i]::ns.drop (i+1):=zN az
  have oZ:fy t1 (ns.drop i)=rb (aV t1 ns[i]) fun c t=>rb (fy t (ns.drop (i+1))) fun cs t=>(.ok (c::cs),t):=by rw[s9];rfl
  simp[t21,t19,t20,t0,bn,bJ,-ag,aa,aG]
  refine ae r2 ?_
  have oa:∀q,q<nx1->q∉F1->aT q=hp1 q:=fun q u1 u2=>by rw[ie.ah q (by omega) u2];simp[show ¬q=nx1 by omega]
  have Hf:∀q,q<nx1->q∉F1->q∉F2:=fun q u1 u2 e=>(ie.sub q e).elim u2 (by omega)
  cases hl:aV t1 ns[i] with
  |mk o t4 =>
   rw[hl]at me
   cases o with
   |error e =>
    have he:¬e=0:=eD hl
    simp[gP,he]
    rw[oZ,hl]
    simp only[rb]
    exact ⟨trivial,F2,⟨he,t4.old,me.more (by omega)⟩,nf.trans ((iD.fr F1).trans ie)⟩
   |ok c =>
    have Ip:=hW.lt
    have Ym:dq aT ar 1 (cs.map j0) y:=hW.ah (by omega) fun q hq=>oa q (Ip q hq) (Bj q hq).2
    obtain ⟨gb,a1,a2,a3⟩:=Ym.xC (bytes:=8) (new:=[j0 c]) (by simp) (by simp;omega)
    simp only[j0,zZ,zV,zS,Nat.zero_add]at a1
    have w1:IntKind.wrap .i64 ((i:Int)+1)=((i+1:Nat):Int):=by rw[aj]<;>omega
    have hyn:nx∉bc y:=fun h2=>by have:=(Bj _ h2).1;omega
    have Ws:gb nx=hp1 nx:=by rw[a3 _ (by omega) hyn];exact oa _ (by omega) Bn
    have Nb:∀q∈bc y,q∉F2:=fun q hq=>Hf q (Ip q hq) (Bj q hq).2
    have mJ:=me.lt
    simp[gP,t12,t21,a1,w1,-Prod.exists]
    have Aj:dD gb (ar+1) rt rp rd F2 root t4 rootS (B+(i+1)):=(me.more (by omega)).ah (by omega) fun q hq=>a3 q (by have:=mJ q hq;omega) fun e=>Nb q e hq
    have ml:Fr F hp nx F2 gb (ar+1):=(nf.trans ((iD.fr F1).trans ie)).sB (by omega) fun r u1 u2=>a3 r (by omega) fun e=>u2.elim (fun q=>by have:=(Bj r e).1;omega) fun q=>Nb r e q
    refine ⟨(i+1,t4,F2,cs++[c]),by simp only;omega,by simp only;omega,rfl,t19,t20,t0,t3,by rw[Ws,kE,b0],by omega,.inr ⟨ar,by omega,by simp,by simp[a2,j0]⟩,⟨by omega,fun e=>by have:=mJ _ e;omega⟩,
     Hf _ (by omega) Bn,Aj,ml,?_,by simp[gf]⟩
    rw[oZ,hl]
    simp only[rb]
    cases fy t4 (ns.drop (i+1)) with
    |mk o t5=>cases o<;>simp
 ·have rS:i=ns.length:=by omega
  subst rS
  have bn:¬(ns.length:Int)<(ns.length:Int):=by omega
  have To:=hW.one
  have vX:Dn hp1 nx1 (bc y) ⟨false,[key],[],cs.map fun (c:Nat)=>(c:Int)⟩ (.agg [.v (.bool false),.rs false 1 [[.str key]] (some 1),nS,y]) :=
   ⟨_,_,y,rfl,.inl ⟨false,1,_,rfl,.inr rfl,by simp⟩,.vT,(by
    rcases hW with ⟨e1,rfl⟩|⟨r,e1,rfl,e2⟩
    ·exact .inl (by rw[qx];exact (show fa 1 (cs.map j0) _ by rw[e1];exact .vT))
    ·exact .inr ⟨r,e1,by simp,by rw[qx];exact e2⟩),by simp[bc]⟩
  obtain ⟨x0,WM,e0⟩:=vX.IH
  have ae6:dD (j7 hp1 (bc y)) nx1 rt rp rd F1 root t1 rootS (B+ns.length):=oz.ah (zD _) fun r hr=>fG fun e=>(Bj r e).2 hr
  obtain ⟨aT,ar,F2,r2,me,ie⟩:=f131 ae6 WM ⟨by simp,by simp,by simp;omega⟩ (by omega)
  simp[t21,t20,t0,t3,kE,t12,To.1,To.2,aa]
  refine ae (HJ vX e0 r2) ?_
  simp only[wt,fy,rb,zT]
  have hFd:Fr F hp nx F1 (j7 hp1 (bc y)) nx1:=nf.sB (zD _) fun r u1 u2=>fG fun e=>u2.elim (fun q=>by have:=(Bj r e).1;omega) fun q=>(Bj r e).2 q
  cases hl:aV t1 ⟨false,[key],[],cs.map fun (c:Nat)=>(c:Int)⟩ with
  |mk o t4 =>
   rw[hl]at me
   cases o with
   |error e =>
    simp[gP]
    exact ⟨F2,⟨eD hl,t4.old,me.more (by omega)⟩,hFd.trans ie⟩
   |ok c =>
    simp[gP]
    exact ⟨F2,me.more (by omega),hFd.trans ie⟩
theorem Sk {hp nx rt rp rd F root t rootS B} (h:dD hp nx rt rp rd F root t rootS B) {PA:AV} {n:Nd} {L:List Nat} (xt:iO hp nx L (.one n) PA) (Ld:∀r∈L,r∉F) (n8:dK 5000 n) (yE:∀c∈n.kids,0<=c) (hB:B<=800000000) :
  ∃hp' nx' F',aZ E 110 [.ptr rt 0 0,PA] hp nx (gP (dG t (.one n)).1) hp' nx' .e/\rM hp' nx' rt rp rd F' root (dG t (.one n)) rootS (B+10)/\Fr F hp nx F' hp' nx':=by
 have main:=an (P:=fun v hp' nx'=>v=gP (dG t (.one n)).1/\∃F',rM hp' nx' rt rp rd F' root (dG t (.one n)) rootS (B+10)/\Fr F hp nx F' hp' nx') e110 (args:=[.ptr rt 0 0,PA]) rfl (hp:=hp) (nx:=nx) ?_
 ·obtain ⟨v,hp',nx',h1,rfl,F',h2⟩:=main
  exact ⟨hp',nx',F',h1,h2⟩
 have iX:=h.lt
 obtain ⟨x,z,VK,hz,rfl,s8⟩:∃x z,Dn hp nx L n x/\(∃nil sz cap,z=.rs nil sz [x.cells] cap/\(nil=true\/sz=4)/\(nil=true->[x.cells]=[]))/\PA=.agg [z,.str []]/\(n.kids.length=1\/iq n x):=by
  rcases xt with ⟨rfl,x,z,h1,h2,rfl⟩|⟨n',x,c,e,h1,h2,rfl⟩
  ·exact ⟨x,z,h1.ndO,h2,rfl,.inr h1⟩
  ·cases e
   exact ⟨x,_,h2,⟨false,4,c,rfl,.inr rfl,by simp⟩,rfl,.inl h1⟩
 obtain ⟨zn,zs,zc,rfl,Eo⟩:=hz
 have bJ:=aS (n:=4) (k:=.i64) (cap:=zc) (j:=0) Eo (by rfl)
 have kE:=VK
 have uH:=VK.lt
 obtain ⟨xk,_,xd,rfl,SV,⟨i1,i2,i4,rfl,xiS⟩,Qk,hLe⟩:=VK
 obtain ⟨uY,uX⟩:=SV.one
 obtain ⟨u9,uZ⟩:=Qk.one
 have GC:¬nx=nx+1:=by omega
 have ck:∀X Y,Ro hp nx (ab (ab hp nx X) (nx+1) Y) (nx+1+1):=fun X Y=>⟨by omega,fun r hr=>by simp[show ¬r=nx by omega,show ¬r=nx+1 by omega]⟩
 have h1:=(h.ro (ck (some [[.rs zn zs [[.v (.bool n.leaf),xk,.rs i1 i2 (n.items.map bD.cells) i4,xd]] zc,.str []]]) (some [[.v (.bool n.leaf),xk,.rs i1 i2 (n.items.map bD.cells) i4,xd]]))).more (B':=B+9) (by omega)
 have fin:∀X Y,dD (ab (ab hp nx X) (nx+1) Y) (nx+1+1) rt rp rd F root t rootS (B+10)/\Fr F hp nx F (ab (ab hp nx X) (nx+1) Y) (nx+1+1):=fun X Y=>⟨(h.ro (ck X Y)).more (by omega),(ck X Y).fr F⟩
 have lk:tD xk=some (iV n.keys.length):=by
  rcases SV with ⟨_,_,_,rfl,_⟩|⟨r,_,rfl,_⟩<;>simp
 have ld:tD xd=some (iV n.kids.length):=by
  rcases Qk with ⟨_,_,_,rfl,_⟩|⟨r,_,rfl,_⟩<;>simp
 simp only[AV.cells]at bJ
 change b9 4 _ (iV 0)=some (.rp [.v (.bool n.leaf),xk,.rs i1 i2 (n.items.map bD.cells) i4,xd]) at bJ
 by_cases hA:n.leaf=true/\n.keys=[]
 ·have hg:dG t (.one n)=(.ok 0,t):=by simp only[dG,if_pos hA]
  rw[hg]
  obtain ⟨hA1,hA2⟩:=hA
  have R1:n.keys.length=0:=by rw[hA2];rfl
  rw[hA1]at bJ
  rw[hA2]at lk
  simp[c110,hA1,bJ,-ag,uY,uX,u9,uZ,aa,aG,GC,lk,ld]
  exact ⟨rfl,F,(fin _ _).1,(fin _ _).2⟩
 ·by_cases dg:n.leaf=true
  ·have R1:¬n.keys=[]:=fun e=>hA ⟨dg,e⟩
   by_cases tI:n.kids.length=1
   ·obtain ⟨c,hc⟩:∃c:Nat,n.kids=[(c:Int)]:=by
     match lK:n.kids,tI with
     |[c],_=>exact ⟨c.toNat,by have:=yE c (by rw[lK];simp);simp;omega⟩
    have hg:dG t (.one n)=(.ok c,t):=by simp only[dG,if_neg hA,if_pos tI];simp[hc]
    rw[hg]
    have aeM:(n.kids.length:Int)=1:=by omega
    rw[dg]at bJ
    rcases Qk with ⟨y1,y2,y4,rfl,hyz⟩|⟨r,hr,rfl,GR⟩
    ·have nb:=aS (n:=1) (k:=.i64) (cap:=y4) (j:=0) (cells:=[iV c]) hyz (by simp[hc,bC])
     change b9 1 _ (iV 0)=_ at nb
     simp[c110,dg,bJ,-ag,uY,uX,u9,uZ,aa,aG,GC,lk,ld,tI,nb,R1]
     exact ⟨rfl,F,(fin _ _).1,(fin _ _).2⟩
    ·have uD:(n.kids.map bC).length=1:=by simp[tI]
     rw[uD]at bJ
     have V0:hp r=some [[iV c]]:=by rw[GR,hc];rfl
     simp[c110,dg,bJ,-ag,uY,uX,u9,uZ,aa,aG,GC,lk,ld,tI,V0,show ¬r=nx by omega,show ¬r=nx+1 by omega,R1]
     exact ⟨rfl,F,(fin _ _).1,(fin _ _).2⟩
   ·have hNA:iq n (.agg [.v (.bool n.leaf),xk,.rs i1 i2 (n.items.map bD.cells) i4,xd]):=s8.resolve_left tI
    have Iw:¬(n.kids.length:Int)=1:=by omega
    have hg:dG t (.one n)=aV t n:=by simp only[dG,if_neg hA,if_neg tI]
    rw[hg]
    obtain ⟨aT,ar,F2,r2,me,ie⟩:=f131 h1 hNA ⟨by have:=n8.1;omega,by have:=n8.2.1;omega,by have:=n8.2.2;omega⟩ (by omega)
    have ml:=((ck (some [[.rs zn zs [[.v (.bool n.leaf),xk,.rs i1 i2 (n.items.map bD.cells) i4,xd]] zc,.str []]]) (some [[.v (.bool n.leaf),xk,.rs i1 i2 (n.items.map bD.cells) i4,xd]])).fr F).trans ie
    rw[dg]at r2 bJ
    simp[c110,dg,bJ,-ag,uY,uX,u9,uZ,aa,aG,GC,lk,ld,tI,Iw,R1]
    refine ae r2 ?_
    cases hl:aV t n with
    |mk o t4 =>
     rw[hl]at me
     cases o with
     |error e=>simp[gP];exact ⟨F2,⟨eD hl,t4.old,me.more (by omega)⟩,ml⟩
     |ok c=>simp[gP];exact ⟨F2,me.more (by omega),ml⟩
  ·have dg:n.leaf=false:=by simpa using dg
   by_cases tI:n.kids.length=1
   ·obtain ⟨c,hc⟩:∃c:Nat,n.kids=[(c:Int)]:=by
     match lK:n.kids,tI with
     |[c],_=>exact ⟨c.toNat,by have:=yE c (by rw[lK];simp);simp;omega⟩
    have hg:dG t (.one n)=(.ok c,t):=by simp only[dG,if_neg hA,if_pos tI];simp[hc]
    rw[hg]
    have aeM:(n.kids.length:Int)=1:=by omega
    rw[dg]at bJ
    rcases Qk with ⟨y1,y2,y4,rfl,hyz⟩|⟨r,hr,rfl,GR⟩
    ·have nb:=aS (n:=1) (k:=.i64) (cap:=y4) (j:=0) (cells:=[iV c]) hyz (by simp[hc,bC])
     change b9 1 _ (iV 0)=_ at nb
     simp[c110,dg,bJ,-ag,uY,uX,u9,uZ,aa,aG,GC,lk,ld,tI,nb]
     exact ⟨rfl,F,(fin _ _).1,(fin _ _).2⟩
    ·have uD:(n.kids.map bC).length=1:=by simp[tI]
     rw[uD]at bJ
     have V0:hp r=some [[iV c]]:=by rw[GR,hc];rfl
     simp[c110,dg,bJ,-ag,uY,uX,u9,uZ,aa,aG,GC,lk,ld,tI,V0,show ¬r=nx by omega,show ¬r=nx+1 by omega]
     exact ⟨rfl,F,(fin _ _).1,(fin _ _).2⟩
   ·have hNA:iq n (.agg [.v (.bool n.leaf),xk,.rs i1 i2 (n.items.map bD.cells) i4,xd]):=s8.resolve_left tI
    have Iw:¬(n.kids.length:Int)=1:=by omega
    have hg:dG t (.one n)=aV t n:=by simp only[dG,if_neg hA,if_neg tI]
    rw[hg]
    obtain ⟨aT,ar,F2,r2,me,ie⟩:=f131 h1 hNA ⟨by have:=n8.1;omega,by have:=n8.2.1;omega,by have:=n8.2.2;omega⟩ (by omega)
    have ml:=((ck (some [[.rs zn zs [[.v (.bool n.leaf),xk,.rs i1 i2 (n.items.map bD.cells) i4,xd]] zc,.str []]]) (some [[.v (.bool n.leaf),xk,.rs i1 i2 (n.items.map bD.cells) i4,xd]])).fr F).trans ie
    rw[dg]at r2 bJ
    simp[c110,dg,bJ,-ag,uY,uX,u9,uZ,aa,aG,GC,lk,ld,tI,Iw]
    refine ae r2 ?_
    cases hl:aV t n with
    |mk o t4 =>
     rw[hl]at me
     cases o with
     |error e=>simp[gP];exact ⟨F2,⟨eD hl,t4.old,me.more (by omega)⟩,ml⟩
     |ok c=>simp[gP];exact ⟨F2,me.more (by omega),ml⟩
end Go.Ai
namespace Go.Ai
open Go.Bt
theorem iO.ah {hp nx L p v hp' nx'} (h:iO hp nx L p v) (hn:nx<=nx') (hk:∀r∈L,hp' r=hp r):iO hp' nx' L p v:=by
 rcases h with h|⟨n,x,c,e,h1,h2,h3⟩
 ·exact .inl h
 ·exact .inr ⟨n,x,c,e,h1,h2.ah hn hk,h3⟩
theorem iO.lt {hp nx L p v} (h:iO hp nx L p v):∀r∈L,r<nx:=by
 rcases h with ⟨rfl,_⟩|⟨n,x,c,e,h1,h2,h3⟩
 ·simp
 ·exact h2.lt
theorem iO.cl {hp nx L p v} (h:iO hp nx L p v):∃z k,v=.agg [z,k]/\z.one=true/\k.one=true:=by
 rcases h with ⟨_,h⟩|⟨n,x,c,e,h1,h2,rfl⟩
 ·exact h.cl.2
 ·exact ⟨_,_,rfl,rfl,rfl⟩
theorem jW.ah {hp nx lo F o v hp' nx'} (h:jW hp nx lo F o v) (hn:nx<=nx') (hk:∀r,lo<=r->r∉F->r<nx->hp' r=hp r):jW hp' nx' lo F o v:=by
 cases o with
 |error e=>exact h
 |ok p =>
  obtain ⟨L,w,h1,h2,h3⟩:=h
  exact ⟨L,w,h1,h2.ah hn fun r hr=>hk r (h3 r hr).1 (h3 r hr).2 (h2.lt r hr),h3⟩
theorem jW.lower {hp nx lo lo' F o v} (h:jW hp nx lo F o v) (hl:lo'<=lo):jW hp nx lo' F o v:=by
 cases o with
 |error e=>exact h
 |ok p =>
  obtain ⟨L,w,h1,h2,h3⟩:=h
  exact ⟨L,w,h1,h2,fun r hr=>⟨by have:=(h3 r hr).1;omega,(h3 r hr).2⟩⟩
theorem Cc {t:T} {n:Nd} {a b:Nat} {p:dz} {e:Nat} (h:(bM t n a b p).1=.error e):e≠0:=by
 cases p with
 |one x =>
  simp only[bM]at h
  cases hl:aV t x with
  |mk o t2=>rw[hl]at h;cases o with
   |ok c=>simp[rb]at h
   |error e'=>simp[rb]at h;subst h;exact eD hl
 |two x k y =>
  simp only[bM]at h
  cases hl:aV t x with
  |mk o t2=>rw[hl]at h;cases o with
   |error e'=>simp[rb]at h;subst h;exact eD hl
   |ok c =>
    simp only[rb]at h
    cases Ag:aV t2 y with
    |mk o t3=>rw[Ag]at h;cases o with
     |ok c=>simp at h
     |error e'=>simp at h;subst h;exact eD Ag
def Dd:cC:=match c111.body with | .seq _ (.seq _ (.seq _ (.seq _ (.seq _ (.seq _ (.seq _ (.seq _ (.seq _ (.seq _ t)))))))))=>t|_=>.skip
def De:cC:=match c111.body with | .seq _ (.seq _ (.seq _ (.seq _ (.seq _ (.seq _ (.seq _ (.seq _ t)))))))=>t|_=>.skip
theorem Uc {hp:Heap} {nx rt rp rd:Nat} {F:List Nat} {root:Nat} {t:T} {rootS:Bs} {B q10 q12 q16 a b:Nat} {tm:Nat->AV} {P:AV->Heap->Nat->Prop} (h:dD hp nx rt rp rd F root t rootS B) {n:Nd} {nA PA:AV} {p:dz}
  (t0:tm 0=.ptr rt 0 0) (t10:tm 10=.ptr q10 0 0) (t12:tm 12=.ptr q12 0 0) (t16:tm 16=.ptr q16 0 0) (t17:tm 17=iV a) (t18:tm 18=iV b)
  (hn:iq n nA) (xt:ju p PA) (v7:hp q12=some [nA.cells]) (QN:hp q16=some [PA.cells]) (im:hp q10=some [[nS,.str []]]) (Qs:q10<nx) (f10:q10∉F)
  (n8:rW 5000 p) (hr:n.kids.length=n.keys.length+1) (IC:a<b) (hb:b<=n.kids.length) (gd:dK 5000 n) (hB:B<=800000000)
  (hP:∀v hp' nx' F',jW hp' nx' nx F' (bM t n a b p).1 v->rM hp' nx' rt rp rd F' root (bM t n a b p) rootS (B+10)->nx<=nx'->(∀r,r<nx->r≠q10->r∉F->hp' r=hp r)->(∀r∈F',r∈F\/nx<=r)->P v hp' nx') :
  W (aZ E) Dd (rT [.cell 10 (some 2),.t 11] P) ⟨tm,hp,nx⟩:=by
 obtain ⟨v,hp1,nx1,F1,r1,q1,oz,nf⟩:=f136 h hn xt n8 hr IC hb gd hB
 obtain ⟨b0,k1,k2,k3,k4,i1,i2,i3,i4,d1,d2,d3,d4,rfl⟩:=hn.shape
 obtain ⟨pcl,pz,pk,rfl,po⟩:=xt.cl
 have hle:=nf.le
 have afp:q10∉F1:=fun e=>(nf.sub _ e).elim f10 (by omega)
 have Ko:hp1 q10=some [[nS,.str []]]:=by rw[nf.ah _ Qs f10];exact im
 simp only[AV.cells]at v7 QN
 simp[Dd,c111,t0,t10,t12,t16,t17,t18,v7,QN,po]
 refine ae r1 ?_
 have fin:∀Y,jW (ab hp1 q10 Y) nx1 nx F1 (bM t n a b p).1 v/\rM (ab hp1 q10 Y) nx1 rt rp rd F1 root (bM t n a b p) rootS (B+10)/\nx<=nx1/\(∀r,r<nx->r≠q10->r∉F->(ab hp1 q10 Y) r=hp r)/\(∀r∈F1,r∈F\/nx<=r):=fun Y =>
  ⟨q1.ah (zD _) fun r u1 u2 _=>by simp[show ¬r=q10 by omega],oz.ah (zD _) fun r hr=>by simp[show ¬r=q10 from fun e=>afp (e▸hr)],hle,fun r u1 u2 u3=>by simp[u2];exact nf.ah r u1 u3,nf.sub⟩
 cases ho:(bM t n a b p).1 with
 |error e =>
  have he:¬e=0:=Cc ho
  have Rc:=q1
  rw[ho]at Rc
  simp only[jW,z2]at Rc
  subst Rc
  simp[t10,Ko,aa]
  obtain ⟨g1,g2,g3,g4,g5⟩:=fin (some [[nS,.str []]])
  exact hP _ _ _ F1 (by rw[ho]at g1 ⊢;exact g1) g2 g3 g4 g5
 |ok p' =>
  have Rc:=q1
  rw[ho]at Rc
  obtain ⟨L,w,rfl,hw,hL⟩:=Rc
  obtain ⟨z,k,rfl,z1,z2'⟩:=hw.cl
  simp[t10,Ko,aa,z1,z2']
  obtain ⟨g1,g2,g3,g4,g5⟩:=fin (some [[z,k]])
  exact hP _ _ _ F1 (by rw[ho]at g1 ⊢;exact g1) g2 g3 g4 g5
end Go.Ai
namespace Go.Ai
open Go.Bt
theorem f135 {hp nx rt rp rd F root t rootS B} (h:dD hp nx rt rp rd F root t rootS B) {n x:Nd} {nA xA:AV} (hn:iq n nA) {L:List Nat} (hx:Dn hp nx L x xA) (Ld:∀r∈L,r∉F) (hr:ax n=true) (dg:n.leaf=false) {i:Nat} (hi:i<n.kids.length) (gd:dK 5000 n) (nE:dK 5000 x) (hB:B<=800000000) :
  ∃v hp' nx' F',aZ E 135 [.ptr rt 0 0,nA,iV i,xA] hp nx v hp' nx' .e/\Kh (ff t n i x).1 v/\rM hp' nx' rt rp rd F' root (ff t n i x) rootS (B+1)/\Fr (L++F) hp nx F' hp' nx':=by
 have hf:=(aY.of hr).inner dg
 cases i with
 |zero=>exact abD h hn hx Ld hr dg (by have:=hf.1;have:=hf.2.1;omega) gd nE hB
 |succ j=>exact abC h hn hx Ld hr dg hi gd nE hB
theorem Ei {hp nx rt rp rd F root t rootS B} (h:dD hp nx rt rp rd F root t rootS B) {n x:Nd} (hr:ax n=true) (dg:n.leaf=false) {i:Nat} (hi:i<n.kids.length) (nE:dK 600 x) {r:dz×Nat} {t2:T} (e:ff t n i x=(.ok r,t2)):rW 1200 r.1/\r.2+2<=n.kids.length:=by
 have hf:=(aY.of hr).inner dg
 unfold ff at e
 split at e
 ·rename_i h0
  split at e
  ·rename_i c hc
   cases ht:eA t c.toNat with
   |mk o t3 =>
    rw[ht]at e
    cases o with
    |error e'=>simp[rb]at e
    |ok o =>
     simp only[rb,zPi,Except.ok.injEq]at e
     obtain ⟨rfl,_⟩:=e
     have:=(h.ni (a:=c.toNat) (n:=o) (by rw[ht])).1
     refine ⟨((nE.join this).more (by omega)).cut,?_⟩
     simp only
     have:=hf.1;have:=hf.2.1;omega
  ·cases e
 ·rename_i h0
  split at e
  ·rename_i c hc
   cases ht:eA t c.toNat with
   |mk o t3 =>
    rw[ht]at e
    cases o with
    |error e'=>simp[rb]at e
    |ok o =>
     simp only[rb,zPi,Except.ok.injEq]at e
     obtain ⟨rfl,_⟩:=e
     have:=(h.ni (a:=c.toNat) (n:=o) (by rw[ht])).1
     refine ⟨((this.join nE).more (by omega)).cut,?_⟩
     simp only
     omega
  ·cases e
theorem rW.more {m m' p} (h:rW m p) (k:m<=m'):rW m' p:=by
 cases p with
 |one n=>exact dK.more h k
 |two a k' b=>exact ⟨dK.more h.1 k,dK.more h.2 k⟩
theorem abH {hp:Heap} {nx rt rp rd:Nat} {F L:List Nat} {root:Nat} {t:T} {rootS:Bs} {B q10 q12 q16 i:Nat} {tm:Nat->AV} {P:AV->Heap->Nat->Prop} (h:dD hp nx rt rp rd F root t rootS B) {n:Nd} {nA PA:AV} {p:dz}
  (t0:tm 0=.ptr rt 0 0) (t10:tm 10=.ptr q10 0 0) (t12:tm 12=.ptr q12 0 0) (t16:tm 16=.ptr q16 0 0) (t14:tm 14=iV i)
  (hn:iq n nA) (xt:iO hp nx L p PA) (v7:hp q12=some [nA.cells]) (QN:hp q16=some [PA.cells]) (im:hp q10=some [[nS,.str []]]) (Qs:q10<nx) (l12:q12<nx) (l16:q16<nx) (f10:q10∉L++F) (f12:q12∉L++F) (f16:q16∉L++F)
  (n1:q10≠q12) (n2:q10≠q16) (n3:q12≠q16) (Ld:∀r∈L,r∉F) (n8:rW 600 p) (hr:ax n=true) (dg:n.leaf=false) (hi:i<n.kids.length) (gd:dK 492 n) (hB:B<=700000000)
  (hP:∀v hp' nx' F',jW hp' nx' nx F' (lU t n i p).1 v->rM hp' nx' rt rp rd F' root (lU t n i p) rootS (B+20)->nx<=nx'->(∀r,r<nx->r≠q10->r≠q16->r∉L++F->hp' r=hp r)->(∀r∈F',r∈L++F\/nx<=r)->P v hp' nx') :
  W (aZ E) De (rT [.cell 10 (some 2),.t 11] P) ⟨tm,hp,nx⟩:=by
 have hf:=(aY.of hr).inner dg
 have iR:i<494:=by have:=gd.2.2;omega
 have w1:IntKind.wrap .i64 ((i:Int)+1)=((i+1:Nat):Int):=by rw[aj]<;>omega
 obtain ⟨TC,hT⟩:∃TC,TC=Dd:=⟨_,rfl⟩
 have iW:=hT
 simp only[Dd,c111]at iW
 simp only[De,c111]
 rw[<-iW]
 have yB:=hn
 obtain ⟨b0,k1,k2,k3,k4,i1,i2,i3,i4,d1,d2,d3,d4,rfl⟩:=hn.shape
 simp only[AV.cells]at v7
 have plain:∀tm',tm' 0=.ptr rt 0 0->tm' 10=.ptr q10 0 0->tm' 12=.ptr q12 0 0->tm' 16=.ptr q16 0 0->tm' 17=iV i->tm' 18=iV (i+1:Nat)->ju p PA->lU t n i p=bM t n i (i+1) p ->
   W (aZ E) TC (rT [.cell 10 (some 2),.t 11] P) ⟨tm',hp,nx⟩:=by
  intro tm' e0 e10 e12 e16 e17 e18 hA hb
  rw[hT]
  rw[hb]at hP
  refine Uc h e0 e10 e12 e16 e17 e18 yB hA v7 QN im Qs (fun e=>f10 (by simp[e])) (n8.more (by omega)) hf.2.1 (by omega) (by omega) (gd.more (by omega)) (by omega) fun v hp' nx' F' g1 g2 g3 g4 g5 => ?_
  exact hP v hp' nx' F' g1 (g2.more (by omega)) g3 (fun r u1 u2 u3 u4=>g4 r u1 u2 (fun e=>u4 (by simp[e]))) fun r hr=>(g5 r hr).imp (fun q=>by simp[q]) id
 cases p with
 |two a k b =>
  rcases xt with ⟨_,hA⟩|⟨n',x,c,e,_⟩
  ·have hA0:=hA
   obtain ⟨x,y,z,hx,hy,⟨zn,zs,zc,rfl,Eo⟩,rfl⟩:=hA
   simp only[AV.cells]at QN
   simp[t14,w1,t16,QN,-Int.natCast_add]
   exact plain _ (by simp[t0]) (by simp[t10]) (by simp[t12]) (by simp[t16]) (by simp) (by simp) hA0 rfl
  ·cases e
 |one x =>
  obtain ⟨xA,z,VK,⟨zn,zs,zc,rfl,Eo⟩,rfl,s8⟩:∃xA z,Dn hp nx L x xA/\(∃nil sz cap,z=.rs nil sz [xA.cells] cap/\(nil=true\/sz=4)/\(nil=true->[xA.cells]=[]))/\PA=.agg [z,.str []]/\(x.kids.length=1\/ju (.one x) PA):=by
   rcases xt with ⟨rfl,hA⟩|⟨n',x',c,e,h1,h2,rfl⟩
   ·have hA0:=hA
    obtain ⟨x',z,h1,h2,rfl⟩:=hA
    exact ⟨x',z,h1.ndO,h2,rfl,.inr hA0⟩
   ·cases e
    exact ⟨x',_,h2,⟨false,4,c,rfl,.inr rfl,by simp⟩,rfl,.inl h1⟩
  have bJ:=aS (n:=4) (k:=.i64) (cap:=zc) (j:=0) Eo (by rfl)
  have kE:=VK
  obtain ⟨x0,WM,z0⟩:=VK.Rp
  have Tv:=f134 x x0 WM (by have:=n8.1;omega) (by have:=n8.2.1;omega) (by have:=n8.2.2;omega)
  obtain ⟨xk,_,xd,rfl,SV,⟨j1,j2,j4,rfl,xiS⟩,Qk,hLe⟩:=VK
  obtain ⟨uY,uX⟩:=SV.one
  obtain ⟨u9,uZ⟩:=Qk.one
  simp only[AV.cells]at bJ QN
  change b9 4 _ (iV 0)=some (.rp [.v (.bool x.leaf),xk,.rs j1 j2 (x.items.map bD.cells) j4,xd]) at bJ
  have adS:=m6 (hp:=hp) (nx:=nx) z0 rfl (Tv cG 0)
  simp[t14,w1,t16,QN,bJ,-ag,uY,uX,u9,uZ,-Int.natCast_add]
  refine ae adS ?_
  by_cases hs:lX x=true
  ·have hb:lU t n i (.one x)=rb (ff t n i x) fun r t=>bM t n r.2 (r.2+2) r.1:=by simp only[lU,if_pos hs]
   rw[hb]at hP
   obtain ⟨v,aT,ar,F2,r2,q2,me,ie⟩:=f135 h yB kE Ld hr dg hi (gd.more (by omega)) (dK.more n8 (by omega)) (by omega)
   have hle:=ie.le
   simp[hs,t0,t12,t16,t14,v7,QN,bJ,-ag,uY,uX,u9,uZ,-Int.natCast_add]
   refine ae r2 ?_
   have g16:q16∉F2:=fun e=>(ie.sub _ e).elim f16 (by omega)
   have WW:q10∉F2:=fun e=>(ie.sub _ e).elim f10 (by omega)
   have p16:=ie.ah q16 l16 f16
   have Ko:=(ie.ah q10 Qs f10).trans im
   have p12:=(ie.ah q12 l12 f12).trans v7
   rw[QN]at p16
   cases hl:ff t n i x with
   |mk o t2 =>
    rw[hl]at q2 me hP
    cases o with
    |error e =>
     obtain ⟨he,o',Aj⟩:=me
     simp only[Kh,z2]at q2
     subst q2
     simp[t0,t10,t12,t16,p16,Ko,p12,aa,he,n1,n2,n3,Ne.symm n2]
     refine hP _ _ _ F2 rfl ⟨he,o',((Aj.more (by omega)).cK g16).cK WW⟩ (by omega) (fun r u1 u2 u3 u4 => ?_) ie.sub
     ·simp[u2,u3];exact ie.ah r u1 u4
    |ok rr =>
     obtain ⟨pA,aaK,rfl⟩:=q2
     obtain ⟨lp1,lp2⟩:=Ei h hr dg hi n8 hl
     obtain ⟨pcl,pz,pk,rfl,po⟩:=aaK.cl
     simp[t0,t10,t12,t16,p16,Ko,p12,aa,po,n1,n2,n3,Ne.symm n2,-Int.natCast_add]
     rw[hT]
     refine Uc (q10:=q10) (q12:=q12) (q16:=q16) (a:=rr.2) (b:=rr.2+2) (dD.cK me g16) (by simp[t0]) (by simp[t10]) (by simp[t12]) (by simp[t16]) (by simp) (by simp) yB aaK (by simp[n3,p12]) (by simp) (by simp[n2,Ko]) (by omega) WW (lp1.more (by omega)) hf.2.1 (by omega) lp2 (gd.more (by omega)) (by omega) fun v hp' nx' F' g1 g2 g3 g4 g5 => ?_
     refine hP v hp' nx' F' (g1.lower hle) (g2.more (by omega)) (by omega) (fun r u1 u2 u3 u4 => ?_) fun r hr=>(g5 r hr).elim (ie.sub r) fun q=>.inr (by omega)
     ·rw[g4 r (by omega) u2 fun e=>(ie.sub r e).elim u4 (by omega)]
      simp[u3]
      exact ie.ah r u1 u4
  ·have hA:ju (.one x) (.agg [.rs zn zs [[.v (.bool x.leaf),xk,.rs j1 j2 (x.items.map bD.cells) j4,xd]] zc,.str []]):=by
    refine s8.resolve_left fun e=>hs (by simp[lX,e])
   simp[hs]
   exact plain _ (by simp[t0]) (by simp[t10]) (by simp[t12]) (by simp[t16]) (by simp) (by simp) hA (by simp only[lU,if_neg hs])
end Go.Ai
namespace Go.Ai
open Go.Bt
def kL (bx:List (Nat×bN)) (hp:Heap) (nx:Nat) (F:List Nat):Prop:=∀q∈bx,hp q.1=some q.2/\q.1<nx/\q.1∉F
theorem kL.fr {bx hp nx F F' hp' nx'} (h:kL bx hp nx F) (k:Fr F hp nx F' hp' nx'):kL bx hp' nx' F':=fun q hq=>by
 obtain ⟨h1,h2,h3⟩:=h q hq
 have:=k.le
 exact ⟨by rw[k.ah _ h2 h3];exact h1,by omega,fun e=>(k.sub _ e).elim h3 (by omega)⟩
def UZ (o:Except Nat Nd) (v:AV):Prop:=match o with
 |.ok n=>∃y,iq n y/\v=.bE [y,.v (.int .i64 0)]
 |.error e=>∃n y,iq n y/\v=.bE [y,iV e]
structure pM (bx:List (Nat×bN)) (rt rp rd root:Nat) (rootS:Bs) (k:Nat) (first cap:List AV) (act:T->Nd->R Nd) (HK:Nd->Prop):Prop where
 run:∀hp nx F t B n x,dD hp nx rt rp rd F root t rootS B->kL bx hp nx F->iq n x->dK 492 n->n.leaf=true->ax n=true->HK n->t.p.st.length<=4096->B<=700000000 ->
  ∃v hp' nx' F',aZ E k (first++[x]++cap) hp nx v hp' nx' .e/\UZ (act t n).1 v/\rM hp' nx' rt rp rd F' root (act t n) rootS (B+61900)/\Fr F hp nx F' hp' nx'
 len:∀t n n' t',act t n=(.ok n',t')->dK 492 n->n.leaf=true->dK 493 n'/\n'.kids=[]
def BS (rd:fE) (key:Bs) (HK:Nd->Prop):Nat->Nat->Prop
 |0,_=>True
 |f+1,a=>∀n,fN rd a=some n->(n.leaf=true->HK n)/\(n.leaf=false->∀c,n.kids[eE n.keys key]?=some c->BS rd key HK f c.toNat)
theorem FZ {t:T} {a:Nat} {n:Nd} {t2:T} (h:eA t a=(.ok n,t2)):fN t.p.read a=some n/\t2.p=t.p:=by
 unfold eA at h
 split at h
 ·rename_i m hm
  simp only[zPi,Except.ok.injEq]at h
  obtain ⟨rfl,rfl⟩:=h
  exact ⟨hm,rfl⟩
 ·cases h
theorem Fe {n:Nd} (h:∀c∈n.kids,0<=c):fb (kH n):=by
 unfold kH
 split
 ·exact h
 ·trivial
theorem Mv {n:Nd} {a b:Nat} {ks:List Bs} {cs:List Int} (gd:dK 492 n) (hk:ks.length<=1) (hc:cs.length<=2) (IC:a<b) (hb:b<=n.kids.length) (hr:n.kids.length=n.keys.length+1):dK 493 (ms n a b ks cs):=by
 obtain ⟨h1,h2,h3⟩:=gd
 refine ⟨?_,?_,?_⟩
 ·simp only[ms,zG,wD,wN];omega
 ·simp[ms]
 ·simp only[ms,zG,wD,wN];omega
theorem Kp {n:Nd} {a b:Nat} {ks:List Bs} {cs:List Int} (hn:∀c∈n.kids,0<=c) (hc:∀c∈cs,0<=c):∀c∈(ms n a b ks cs).kids,0<=c:=by
 intro c h
 simp only[ms,zJ]at h
 rcases h with (h|h)|h
 ·exact hn c (zw h)
 ·exact hc c h
 ·exact hn c (zx h)
theorem Ks {n:Nd} (h:dK 493 n) (hk:∀c∈n.kids,0<=c):rW 600 (kh n)/\fb (kh n):=by
 unfold kh
 split
 ·exact ⟨dK.more h (by omega),hk⟩
 ·exact ⟨h.cut.more (by omega),Fe hk⟩
theorem oJ {t t':T} {n:Nd} {a b:Nat} {p q:dz} (gd:dK 492 n) (IC:a<b) (hb:b<=n.kids.length) (hr:n.kids.length=n.keys.length+1) (hn:∀c∈n.kids,0<=c) (h:bM t n a b p=(.ok q,t')):rW 600 q/\fb q:=by
 rw[ti]at h
 have aT:(eT p).length<=2:=by cases p<;>simp[eT]
 cases hl:fy t (eT p) with
 |mk o t2 =>
  rw[hl]at h
  cases o with
  |error e=>simp[rb]at h
  |ok cs =>
   simp only[rb,zPi,Except.ok.injEq]at h
   obtain ⟨rfl,_⟩:=h
   have:=KG hl
   refine Ks (Mv gd ?_ (by simp;omega) IC hb hr) (Kp hn ?_)
   ·split<;>simp
   ·intro c hc
    simp only[wk]at hc
    obtain ⟨m,_,rfl⟩:=hc
    omega
theorem Gk {n:Nd} (hr:ax n=true) (dg:n.leaf=false):∀c∈n.kids,0<=c:=fun c hc=>by
 have:=((aY.of hr).inner dg).2.2.2 c hc
 obtain ⟨m,e,_⟩:=fW this
 omega
theorem P9 {hp nx rt rp rd F root t rootS B} (h:dD hp nx rt rp rd F root t rootS B) {n:Nd} (hr:ax n=true) (dg:n.leaf=false) {i:Nat} (hi:i<n.kids.length) (gd:dK 492 n) {p q:dz} (n8:rW 600 p) {t':T} (e:lU t n i p=(.ok q,t')):rW 600 q/\fb q:=by
 have hf:=(aY.of hr).inner dg
 have hk:=Gk hr dg
 cases p with
 |two a k b =>
  have e':bM t n i (i+1) (.two a k b)=(.ok q,t'):=e
  exact oJ gd (by omega) (by omega) hf.2.1 hk e'
 |one x =>
  simp only[lU]at e
  split at e
  ·cases hl:ff t n i x with
   |mk o t2 =>
    rw[hl]at e
    cases o with
    |error e'=>simp[rb]at e
    |ok r =>
     simp only[rb]at e
     obtain ⟨_,l2⟩:=Ei h hr dg hi n8 hl
     exact oJ gd (by omega) l2 hf.2.1 hk e
  ·exact oJ gd (by omega) (by omega) hf.2.1 hk e
theorem f111 {bx:List (Nat×bN)} {rt rp rd root:Nat} {rootS:Bs} {k:Nat} {first cap:List AV} {act:T->Nd->R Nd} {HK:Nd->Prop} (A:pM bx rt rp rd root rootS k first cap act HK) {key:Bs}:∀(f d:Nat) {hp:Heap} {nx:Nat} {F:List Nat} {t:T} {B:Nat} (a:Nat),d+f=13->dD hp nx rt rp rd F root t rootS B->kL bx hp nx F->t.p.st.length<=4096->BS t.p.read key HK f a->B+62000+40*f<=700000000 ->
  ∃v hp' nx' F',aZ E 111 [.ptr rt 0 0,iV a,iV d,.str key,.fn (.func k) first cap] hp nx v hp' nx' .e/\jW hp' nx' nx F' (cV act key f a t).1 v/\rM hp' nx' rt rp rd F' root (cV act key f a t) rootS (B+62000+40*f)/\Fr F hp nx F' hp' nx' /\
   ∀p t',cV act key f a t=(.ok p,t')->rW 600 p/\fb p:=by
 intro f
 induction f with
 |zero =>
  intro d hp nx F t B a hd h CM hN Yn hB
  obtain rfl:d=13:=by omega
  have hc:cV act key 0 a t=(.error 10,t):=rfl
  rw[hc]
  have main:=an (P:=fun v hp' nx'=>∃F',jW hp' nx' nx F' (Except.error 10) v/\rM (α:=dz) hp' nx' rt rp rd F' root (.error 10,t) rootS (B+62000+40*0)/\Fr F hp nx F' hp' nx') e111 (args:=[.ptr rt 0 0,iV a,iV 13,.str key,.fn (.func k) first cap]) rfl (hp:=hp) (nx:=nx) ?_
  ·obtain ⟨v,hp',nx',h1,F',h2,h3,h4⟩:=main
   exact ⟨v,hp',nx',F',h1,h2,h3,h4,fun p t' e=>by cases e⟩
  simp[c111,aa,aG]
  exact ⟨F,rfl,⟨by simp,t.old,(h.ro cR).more (by omega)⟩,cR.fr F⟩
 |succ f ih =>
  intro d hp nx F t B a hd h CM hN Yn hB
  have main:=an (P:=fun v hp' nx'=>∃F',jW hp' nx' nx F' (cV act key (f+1) a t).1 v/\rM hp' nx' rt rp rd F' root (cV act key (f+1) a t) rootS (B+62000+40*(f+1))/\Fr F hp nx F' hp' nx'/\∀p t',cV act key (f+1) a t=(.ok p,t')->rW 600 p/\fb p) e111 (args:=[.ptr rt 0 0,iV a,iV d,.str key,.fn (.func k) first cap]) rfl (hp:=hp) (nx:=nx) ?_
  ·obtain ⟨v,hp',nx',h1,F',h2⟩:=main
   exact ⟨v,hp',nx',F',h1,h2⟩
  have QI:¬(12:Int)<(d:Int):=by omega
  obtain ⟨TC,hT⟩:∃TC,TC=De:=⟨_,rfl⟩
  have iW:=hT
  simp only[De,c111]at iW
  simp only[c111]
  rw[<-iW]
  have cU:Ro hp nx (ab hp nx (some [[nS,.str []]])) (nx+1):=cR
  have h1:=h.ro cU
  have WG:=CM.fr (cU.fr F)
  have abe:(ab hp nx (some [[nS,.str []]])) nx=some [[nS,.str []]]:=by simp
  obtain ⟨H1,fq⟩:∃H1,H1=ab hp nx (some [[nS,AV.str []]]):=⟨_,rfl⟩
  rw[<-fq]at cU h1 WG abe
  have iX:=h.lt
  have nF:nx∉F:=fun e=>by have:=iX nx e;omega
  obtain ⟨v2,aT,ar,F2,r2,q2,me,ie⟩:=f132 h1 a (by omega)
  have hle:=ie.le
  have ID:=(cU.fr F).trans ie
  have Kz:nx∉F2:=fun e=>(ie.sub nx e).elim nF (by omega)
  have Ko:=(ie.ah nx (by omega) nF).trans abe
  have mJ:=me.lt
  have KA:ar∉F2:=fun e=>by have:=mJ ar e;omega
  have LN:¬nx=ar:=by omega
  have XU:¬ar=nx:=by omega
  simp[QI,<-fq]
  refine ae r2 ?_
  cases ht:eA t a with
  |mk o t2 =>
   rw[ht]at q2 me
   cases o with
   |error e =>
    have hc:cV act key (f+1) a t=(.error e,t2):=by simp only[cV,ht,rb]
    rw[hc]
    have he:¬e=0:=ug (by rw[ht])
    simp only[Kg]at q2
    subst q2
    simp[ez,he,aa,aG,Ko,LN,XU]
    refine ⟨F2,rfl,⟨he,t2.old,((me.more (by omega)).ro cR).cK Kz⟩,ID.sB (by omega) fun r u1 u2 => ?_⟩
    simp[show ¬r=ar by omega,show ¬r=nx from fun e=>u2.elim (by omega) fun q=>Kz (e▸q)]
   |ok n =>
    obtain ⟨y,Du,rfl⟩:=q2
    obtain ⟨gd,hr⟩:=h1.ni (a:=a) (n:=n) (by rw[ht])
    obtain ⟨Wd,RK⟩:=FZ ht
    obtain ⟨LU,hP2⟩:=Yn n Wd
    have hy:=Du
    obtain ⟨b0,k1,k2,k3,k4,i1,i2,i3,i4,d1,d2,d3,d4,rfl⟩:=Du.shape
    obtain ⟨_,_,_,tL⟩:=Du.cl
    have iC:Ro aT ar (ab aT ar (some [[.v (.bool b0),.rs k1 k2 k3 k4,.rs i1 i2 i3 i4,.rs d1 d2 d3 d4]])) (ar+1):=cR
    have Aj:=me.ro iC
    have ml:=ID.trans (iC.fr F2)
    have WE:=CM.fr ml
    have Gu:(ab aT ar (some [[.v (.bool b0),.rs k1 k2 k3 k4,.rs i1 i2 i3 i4,.rs d1 d2 d3 d4]])) nx=some [[nS,.str []]]:=by simp[LN,Ko]
    have Gt:(ab aT ar (some [[.v (.bool b0),.rs k1 k2 k3 k4,.rs i1 i2 i3 i4,.rs d1 d2 d3 d4]])) ar=some [[.v (.bool b0),.rs k1 k2 k3 k4,.rs i1 i2 i3 i4,.rs d1 d2 d3 d4]]:=by simp
    obtain ⟨H4,QM⟩:∃H4,H4=ab aT ar (some [[AV.v (.bool b0),.rs k1 k2 k3 k4,.rs i1 i2 i3 i4,.rs d1 d2 d3 d4]]):=⟨_,rfl⟩
    rw[<-QM]at Aj ml WE Gu Gt
    simp[aa,aG,<-QM,Gt]
    cases dg:n.leaf with
    |true =>
     rw[dg]at tL
     subst tL
     simp[Gt]
     obtain ⟨v5,rn,sC,F5,r5,q5,uG,gA⟩:=A.run H4 (ar+1) F2 t2 (B+1) n _ Aj WE hy gd dg hr (LU dg) (by rw[RK];exact hN) (by omega)
     refine ae (by simpa using r5) ?_
     have R0:=gA.le
     have UW:=(gA.ah nx (by omega) Kz).trans Gu
     have UU:=(gA.ah ar (by omega) KA).trans Gt
     have WW:nx∉F5:=fun e=>(gA.sub _ e).elim Kz (by omega)
     have g12:ar∉F5:=fun e=>(gA.sub _ e).elim KA (by omega)
     have By:=ml.trans gA
     have hc:cV act key (f+1) a t=rb (act t2 n) fun n t=>(.ok (kH n),t):=by simp only[cV,ht,rb,dg,if_true]
     rw[hc]
     cases ha:act t2 n with
     |mk o t5 =>
      rw[ha]at q5 uG
      cases o with
      |error e =>
       obtain ⟨he,o',FQ⟩:=uG
       obtain ⟨_,y',Au,rfl⟩:=q5
       obtain ⟨QU,Rw,M5,M4,Rv,En,CA,Na,Em,IM,Oo,IL,Lt,rfl⟩:=Au.shape
       simp[he,aa,aG,UW,UU,LN,XU]
       refine ⟨F5,rfl,⟨he,o',((FQ.more (by omega)).cK g12).cK WW⟩,By.sB (zD _) fun r u1 u2 => ?_,fun p t' e=>by cases e⟩
       simp[show ¬r=ar from fun e=>u2.elim (by omega) fun q=>g12 (e▸q),show ¬r=nx from fun e=>u2.elim (by omega) fun q=>WW (e▸q)]
      |ok n' =>
       obtain ⟨y',Au,rfl⟩:=q5
       obtain ⟨l1,l2⟩:=A.len _ _ _ _ ha gd dg
       obtain ⟨pA,xt,Cb⟩:=f133 n' _ Au (by have:=l1.1;omega) (by have:=l1.2.1;omega) (by have:=l1.2.2;omega)
       obtain ⟨pcl,pz,pk,rfl,po⟩:=xt.cl
       obtain ⟨QU,Rw,M5,M4,Rv,En,CA,Na,Em,IM,Oo,IL,Lt,rfl⟩:=Au.shape
       simp[aa,aG,UW,UU,LN,XU]
       refine ap (Cb _ _) ?_
       simp[aa,aG,UW,UU,LN,XU,po]
       refine ⟨F5,⟨[],_,rfl,.inl ⟨rfl,xt⟩,by simp⟩,((dD.more uG (by omega)).cK g12).cK WW,By.sB (zD _) fun r u1 u2 => ?_,fun p t' e => ?_⟩
       ·simp[show ¬r=ar from fun e=>u2.elim (by omega) fun q=>g12 (e▸q),show ¬r=nx from fun e=>u2.elim (by omega) fun q=>WW (e▸q)]
       ·simp only[rb,zPi,Except.ok.injEq]at e
        obtain ⟨rfl,_⟩:=e
        exact ⟨(l1.cut).more (by omega),Fe (by rw[l2];simp)⟩
    |false =>
     rw[dg]at tL
     subst tL
     have Wz:=f37 n _ hy key (by have:=gd.1;omega) (by have:=gd.2.1;omega) (by have:=gd.2.2;omega)
     have eF:=dN hr
     obtain ⟨g1,g2,g3,g4⟩:=(aY.of hr).inner dg
     have G4:(below n.keys key+if key∈n.keys/\n.leaf=false then 1 else 0)=eE n.keys key:=by simp only[eE,dg,and_true]
     have fI:=(nB eF key).1
     have vZ:eE n.keys key<n.kids.length:=by omega
     have tH:n.kids[eE n.keys key]?=some (n.kids[eE n.keys key]'vZ):=zA vZ
     have lM:ko n key=(((eE n.keys key:Nat):Int),decide (key∈n.keys)):=by simp only[ko,hr,if_true,G4]
     obtain ⟨cc,e1,e2,e3⟩:=fW (g4 _ (zP vZ))
     have hdS:fa 1 (n.kids.map bC) (.rs d1 d2 d3 d4):=by
      obtain ⟨_,_,_,e,_,_,AE⟩:=id hy
      simp only[AV.agg.injEq,List.cons.injEq,and_true]at e
      rw[e.2.2.2];exact AE
     have bJ:=uj hdS (i:=eE n.keys key) (c:=[iV cc]) (k:=.i64) (by rw[zO,tH,e1];rfl)
     have hc:cV act key (f+1) a t=rb (cV act key f cc t2) fun p t=>lU t n (eE n.keys key) p:=by simp only[cV,ht,rb,dg,tH,e1,zl,zK,if_false]
     rw[hc]
     have w1:IntKind.wrap .i64 ((d:Int)+1)=((d+1:Nat):Int):=by rw[aj]<;>omega
     obtain ⟨v5,rn,sC,F5,r5,q5,uG,gA,vt⟩:=ih (d+1) (hp:=H4) (nx:=ar+1) (F:=F2) (t:=t2) (B:=B+1) cc (by omega) Aj WE (by rw[RK];exact hN) (by rw[RK];have:=hP2 dg _ tH;rw[e1]at this;exact this) (by omega)
     have R0:=gA.le
     have UW:=(gA.ah nx (by omega) Kz).trans Gu
     have UU:=(gA.ah ar (by omega) KA).trans Gt
     have WV:nx∉F5:=fun e=>(gA.sub _ e).elim Kz (by omega)
     have afd:ar∉F5:=fun e=>(gA.sub _ e).elim KA (by omega)
     have By:=ml.trans gA
     simp[Gt]
     refine ap (Wz _ _) ?_
     simp[lP,lM,bJ,w1,Gt,-ag,-Int.natCast_add]
     refine ae r5 ?_
     cases ha:cV act key f cc t2 with
     |mk o t5 =>
      rw[ha]at q5 uG vt
      have Vi:¬nx=sC:=by omega
      have Vh:¬ar=sC:=by omega
      cases o with
      |error e =>
       obtain ⟨he,o',FQ⟩:=uG
       simp only[jW,z2]at q5
       subst q5
       simp[he,aa,aG,UW,UU,LN,XU,Vi,Vh]
       refine ⟨F5,rfl,⟨he,o',((FQ.more (by omega)).ro cR).cK WV⟩,By.sB (by omega) fun r u1 u2 => ?_,fun p t' e=>by cases e⟩
       simp[show ¬r=sC by omega,show ¬r=nx from fun e=>u2.elim (by omega) fun q=>WV (e▸q)]
      |ok p =>
       obtain ⟨L,w,rfl,hw,hL⟩:=q5
       obtain ⟨lp,kp⟩:=vt p t5 rfl
       obtain ⟨z,kk,rfl,zo⟩:=hw.cl
       have aem:Ro rn sC (ab rn sC (some [[z,kk]])) (sC+1):=cR
       have FQ:=dD.ro uG aem
       simp[aa,aG,zo,UW,UU,LN,XU,Vi,Vh]
       rw[hT]
       have aeH:=dD.lt uG
       refine abH (q10:=nx) (q12:=ar) (q16:=sC) (i:=eE n.keys key) (L:=L) (p:=p) FQ (by simp) (by simp) (by simp) (by simp) (by simp) hy (hw.ah (by omega) fun r hr=>by have:=hw.lt r hr;simp[show ¬r=sC by omega]) (by simp[Vh,UU]) (by simp) (by simp[Vi,UW]) (by omega) (by omega) (by omega)
        (fun e=>(zJ.1 e).elim (fun q=>by have:=(hL _ q).1;omega) WV) (fun e=>(zJ.1 e).elim (fun q=>by have:=(hL _ q).1;omega) afd) (fun e=>(zJ.1 e).elim (fun q=>by have:=hw.lt _ q;omega) fun q=>by have:=aeH _ q;omega) (by omega) (by omega) (by omega) (fun r hr=>(hL r hr).2) lp hr dg vZ gd (by omega) fun v hp' nx' F' u1 u2 u3 u4 u5 => ?_
       refine ⟨F',u1.lower (by omega),u2.more (by omega),⟨by omega,fun r v1 v2 => ?_,fun r hr => ?_⟩,fun q t' e=>P9 FQ hr dg vZ gd lp e⟩
       ·rw[u4 r (by omega) (by omega) (by omega) fun e=>(zJ.1 e).elim (fun q=>by have:=(hL _ q).1;omega) fun q=>(By.sub r q).elim v2 (by omega)]
        simp[show ¬r=sC by omega]
        exact By.ah r v1 v2
       ·rcases u5 r hr with q|q
        ·rcases zJ.1 q with q|q
         ·exact .inr (by have:=(hL r q).1;omega)
         ·exact By.sub r q
        ·exact .inr (by omega)
end Go.Ai
namespace Go.Ai
open Go.Bt
theorem f110 {hp nx rt rp rd F root t rootS B} (h:dD hp nx rt rp rd F root t rootS B) {PA:AV} {p:dz} {L:List Nat} (xt:iO hp nx L p PA) (Ld:∀r∈L,r∉F) (n8:rW 5000 p) (yE:fb p) (hB:B<=800000000) :
  ∃hp' nx' F',aZ E 110 [.ptr rt 0 0,PA] hp nx (gP (dG t p).1) hp' nx' .e/\rM hp' nx' rt rp rd F' root (dG t p) rootS (B+10)/\Fr F hp nx F' hp' nx':=by
 cases p with
 |one n=>exact Sk h xt Ld n8 yE hB
 |two a k b =>
  rcases xt with ⟨_,hA⟩|⟨_,_,_,e,_⟩
  ·exact Sj h hA n8 hB
  ·cases e
theorem dD.xn {hp nx rt rp rd F root t rootS B} (h:dD hp nx rt rp rd F root t rootS B) (r:Nat):∃x y,hp rt=some [[.ptr rp 0 0,iV root,x,y]] /\
  dD (ab hp rt (some [[.ptr rp 0 0,iV r,x,y]])) nx rt rp rd F r t rootS B/\Fr F hp nx F (ab hp rt (some [[.ptr rp 0 0,iV r,x,y]])) nx:=by
 obtain ⟨x,y,Fp,view,hI,rfl⟩:=h
 obtain ⟨e1,e2,e3,e4,e5⟩:=hI.Z3
 have hx:=hI.hx;have hy:=hI.hy
 obtain ⟨hT,hF⟩:=hI.step (hp':=ab hp rt (some (fe rp r x y))) (nx':=nx) (root':=r) (x':=x) (y':=y) (put':=t.put) (old':=t.old) (B':=B) (zD _) (fun q u1 u2 u3 u4=>by simp[u2]) (by simp)
  (hx.ah (zD _) fun q hq=>by simp[show ¬q=rt from fun e=>e1 (e▸hq)]) (hy.ah (zD _) fun q hq=>by simp[show ¬q=rt from fun e=>e2 (e▸hq)])
  (fun q hq=>.inl hq) (fun q hq=>.inl hq) (fun q hq=>(e4 q hq).1) (zD _) hI.lp hI.lo
 exact ⟨x,y,hI.iQ,⟨x,y,Fp,view,hT,rfl⟩,hF⟩
def Oe {α:Type}:Except Nat α->Nat
 |.ok _=>0
 |.error e=>e
def acJ (hp:Heap) (nx rt rp rd:Nat) (F:List Nat) (root:Nat) (r:R Nat) (rootS:Bs) (B:Nat):Prop:=match r.1 with
 |.ok r'=>dD hp nx rt rp rd F r' r.2 rootS B
 |.error e=>e≠0/\∃o,dD hp nx rt rp rd F root ⟨r.2.p,r.2.put,o⟩ rootS B
theorem f72 {bx:List (Nat×bN)} {rt rp rd root:Nat} {rootS:Bs} {k:Nat} {first cap:List AV} {act:T->Nd->R Nd} {HK:Nd->Prop} (A:pM bx rt rp rd root rootS k first cap act HK) {key:Bs} {hp:Heap} {nx:Nat} {F:List Nat} {t:T} {B:Nat} (h:dD hp nx rt rp rd F root t rootS B) (CM:kL bx hp nx F) (hN:t.p.st.length<=4096) (hP0:root=0->HK ⟨true,[],[],[]⟩) (Yn:root≠0->BS t.p.read key HK 12 root) (hB:B<=600000000) :
  ∃hp' nx' F',aZ E 72 [.ptr rt 0 0,.str key,.fn (.func k) first cap] hp nx (.v (.int .i64 (Oe (rP act key root t).1:Nat))) hp' nx' .e/\acJ hp' nx' rt rp rd F' root (rP act key root t) rootS (B+63000)/\Fr F hp nx F' hp' nx':=by
 have main:=an (P:=fun v hp' nx'=>v=.v (.int .i64 (Oe (rP act key root t).1:Nat))/\∃F',acJ hp' nx' rt rp rd F' root (rP act key root t) rootS (B+63000)/\Fr F hp nx F' hp' nx') e72 (args:=[.ptr rt 0 0,.str key,.fn (.func k) first cap]) rfl (hp:=hp) (nx:=nx) ?_
 ·obtain ⟨v,hp',nx',h1,rfl,F',h2⟩:=main
  exact ⟨hp',nx',F',h1,h2⟩
 have iX:=h.lt
 obtain ⟨x0,y0,RL,_⟩:=h.xn 0
 by_cases h0:root=0
 ·have WU:(root:Int)=0:=by omega
  have hx:iq ⟨true,[],[],[]⟩ (.agg [.v (.bool true),nS,nS,nS]):=⟨_,_,_,rfl,.vT,.vT,.vT⟩
  obtain ⟨v5,rn,sC,F5,r5,q5,uG,gA⟩:=A.run hp nx F t B _ _ h CM hx ⟨by simp,by simp,by simp⟩ rfl (by decide) (hP0 h0) hN (by omega)
  have R0:=gA.le
  have ht:rP act key root t=rb (act t ⟨true,[],[],[]⟩) fun n t=>dG t (.one n):=by simp only[rP,if_pos h0]
  rw[ht]
  simp[c72,RL,WU,aa]
  refine ae (by simpa using r5) ?_
  cases ha:act t ⟨true,[],[],[]⟩ with
  |mk o t5 =>
   rw[ha]at q5 uG
   cases o with
   |error e =>
    obtain ⟨he,o',FQ⟩:=uG
    obtain ⟨_,y',Au,rfl⟩:=q5
    obtain ⟨QU,Rw,M5,M4,Rv,En,CA,Na,Em,IM,Oo,IL,Lt,rfl⟩:=Au.shape
    simp[he,aa,aG]
    exact ⟨rfl,F5,⟨he,o',(FQ.more (by omega)).ro cR⟩,gA.trans (cR.fr F5)⟩
   |ok n' =>
    obtain ⟨y',Au,rfl⟩:=q5
    obtain ⟨l1,l2⟩:=A.len _ _ _ _ ha ⟨by simp,by simp,by simp⟩ rfl
    have Du:=Au
    obtain ⟨QU,Rw,M5,M4,Rv,En,CA,Na,Em,IM,Oo,IL,Lt,rfl⟩:=Au.shape
    have FQ:=dD.ro uG (cR (b:=some [[.v (.bool QU),.rs Rw M5 M4 Rv,.rs En CA Na Em,.rs IM Oo IL Lt]]))
    have By:=gA.trans ((cR (hp:=rn) (nx:=sC) (b:=some [[.v (.bool QU),.rs Rw M5 M4 Rv,.rs En CA Na Em,.rs IM Oo IL Lt]])).fr F5)
    have hpO:∀hp nx,iO hp nx [] (.one n') (.agg [.rs false 4 [[.v (.bool QU),.rs Rw M5 M4 Rv,.rs En CA Na Em,.rs IM Oo IL Lt]] (some 1),.str []]):=fun _ _=>.inl ⟨rfl,_,_,Du,⟨false,4,_,rfl,.inr rfl,by simp⟩,rfl⟩
    obtain ⟨Dw,Td,F7,r7,WN,hF7⟩:=f110 FQ (hpO _ _) (by simp) (dK.more l1 (by omega)) (by simp only[fb,l2];simp) (by omega)
    simp[aa,aG]
    refine ae r7 ?_
    have hF8:=By.trans hF7
    simp only[rb]
    cases hg:dG t5 (.one n') with
    |mk o t8 =>
     rw[hg]at WN
     cases o with
     |error e =>
      obtain ⟨he,o',hT8⟩:=WN
      simp[gP,he]
      exact ⟨rfl,F7,⟨he,o',hT8.more (by omega)⟩,hF8⟩
     |ok r =>
      obtain ⟨x,y,iQ,hT9,hF9⟩:=dD.xn WN r
      simp[gP,iQ,aa]
      exact ⟨rfl,F7,dD.more hT9 (by omega),hF8.trans hF9⟩
 ·have WU:¬(root:Int)=0:=by omega
  have ht:rP act key root t=rb (cV act key 12 root t) fun p t=>dG t p:=by simp only[rP,if_neg h0]
  rw[ht]
  obtain ⟨v5,rn,sC,F5,r5,q5,uG,gA,vt⟩:=f111 A (key:=key) 12 1 root (by omega) h CM hN (Yn h0) (by omega)
  have R0:=gA.le
  simp[c72,RL,WU,h0,aa]
  refine ae (by simpa using r5) ?_
  cases ha:cV act key 12 root t with
  |mk o t5 =>
   rw[ha]at q5 uG vt
   cases o with
   |error e =>
    obtain ⟨he,o',FQ⟩:=uG
    simp only[jW,z2]at q5
    subst q5
    simp[he,aa,aG]
    exact ⟨rfl,F5,⟨he,o',(FQ.more (by omega)).ro cR⟩,gA.trans (cR.fr F5)⟩
   |ok p =>
    obtain ⟨L,w,rfl,hw,hL⟩:=q5
    obtain ⟨lp,kp⟩:=vt p t5 rfl
    obtain ⟨z,kk,rfl,zo⟩:=hw.cl
    have FQ:=dD.ro uG (cR (b:=some [[z,kk]]))
    have By:=gA.trans ((cR (hp:=rn) (nx:=sC) (b:=some [[z,kk]])).fr F5)
    obtain ⟨Dw,Td,F7,r7,WN,hF7⟩:=f110 FQ (hw.ah (hp':=ab rn sC (some [[z,kk]])) (nx':=sC+1) (by omega) fun r hr=>by have:=hw.lt r hr;simp[show ¬r=sC by omega]) (fun r hr=>(hL r hr).2) (lp.more (by omega)) kp (by omega)
    simp[aa,aG,zo]
    refine ae r7 ?_
    have hF8:=By.trans hF7
    simp only[rb]
    cases hg:dG t5 p with
    |mk o t8 =>
     rw[hg]at WN
     cases o with
     |error e =>
      obtain ⟨he,o',hT8⟩:=WN
      simp[gP,he]
      exact ⟨rfl,F7,⟨he,o',hT8.more (by omega)⟩,hF8⟩
     |ok r =>
      obtain ⟨x,y,iQ,hT9,hF9⟩:=dD.xn WN r
      simp[gP,iQ,aa]
      exact ⟨rfl,F7,dD.more hT9 (by omega),hF8.trans hF9⟩
end Go.Ai
namespace Go.Ai
open Go.Bt
theorem Oh (p:PM) (n:Nat):((p.drop n).getD p).gen=p.gen:=by
 cases h:p.drop n with
 |none=>rfl
 |some p'=>exact (PM.rF h).2.2.2.1
theorem sZ.drop {hp nx rt rp rd root x y Fp t rootS view B} (h:sZ hp nx rt rp rd root x y Fp t rootS view B) (n:Nat) :
  ∃hp',aZ E 73 [.ptr rp 0 0,.v (.int .i64 n)] hp nx (.v (.int .i64 (match t.p.drop n with|some _=>0|none=>3))) hp' nx .e/\sZ hp' nx rt rp rd root x y Fp ⟨(t.p.drop n).getD t.p,t.put,t.old⟩ rootS view B/\Fr (rt::(bc x++(bc y++Fp))) hp nx (rt::(bc x++(bc y++Fp))) hp' nx:=by
 obtain ⟨hp',r1,hP,hF⟩:=f73 h.pg n
 obtain ⟨h1,h2⟩:=h.vf hP hF (zD _) (by rw[Oh];exact h.ok)
 exact ⟨hp',r1,h1,h2⟩
theorem sZ.more {hp nx rt rp rd root x y Fp t rootS view B B'} (h:sZ hp nx rt rp rd root x y Fp t rootS view B) (hb:B<=B'):sZ hp nx rt rp rd root x y Fp t rootS view B' :=
 ⟨h.nd,h.lt,h.iQ,h.hx,h.hy,h.pg.more hb,by have:=h.lp;omega,by have:=h.lo;omega,h.ok⟩
theorem dD.clear {hp nx rt rp rd F root t rootS B} (h:dD hp nx rt rp rd F root t rootS B):∃x y F',hp rt=some [[.ptr rp 0 0,iV root,x,y]] /\
  dD (ab hp rt (some [[.ptr rp 0 0,iV root,nS,nS]])) nx rt rp rd F' root ⟨t.p,[],[]⟩ rootS B/\Fr F hp nx F' (ab hp rt (some [[.ptr rp 0 0,iV root,nS,nS]])) nx:=by
 obtain ⟨x,y,Fp,view,hI,rfl⟩:=h
 obtain ⟨hT,hF⟩:=hI.step (hp':=ab hp rt (some (fe rp root nS nS))) (nx':=nx) (root':=root) (x':=nS) (y':=nS) (put':=[]) (old':=[]) (B':=B) (zD _) (fun q u1 u2 u3 u4=>by simp[u2]) (by simp)
  (.inl ⟨rfl,rfl⟩) (.inl ⟨rfl,rfl⟩) (by simp) (by simp) (by simp) (zD _) (by simp) (by simp)
 exact ⟨x,y,_,hI.iQ,⟨_,_,Fp,view,hT,rfl⟩,hF⟩
theorem FA {hp nx x} {es:List Nat} (h:dq hp nx 1 (es.map j0) x) {i:Nat} (hi:i<es.length):∃r,x=.sl r 1 0 es.length none/\r<nx/\hp r=some (es.map j0):=by
 rcases h with ⟨e,rfl⟩|⟨r,h1,rfl,h2⟩
 ·have:es.length=0:=by simpa using congrArg List.length e
  omega
 ·exact ⟨r,by simp,h1,h2⟩
theorem f40 {bx:List (Nat×bN)} {rt rp rd root:Nat} {rootS:Bs} {k:Nat} {first cap:List AV} {act:T->Nd->R Nd} {HK:Nd->Prop} (A:pM bx rt rp rd root rootS k first cap act HK) {key:Bs} {hp:Heap} {nx:Nat} {F:List Nat} {t:T} {B:Nat} (h:dD hp nx rt rp rd F root t rootS B) (CM:kL bx hp nx F) (hN:t.p.st.length<=4096) (hP0:root=0->HK ⟨true,[],[],[]⟩) (Yn:root≠0->BS t.p.read key HK 12 root) (hB:B<=500000000) :
  ∃hp' nx' F' t',aZ E 40 [.ptr rt 0 0,.str key,.fn (.func k) first cap] hp nx (.v (.int .i64 ((jg act key root t.p).1:Nat))) hp' nx' .e/\dD hp' nx' rt rp rd F' (jg act key root t.p).2.2 t' rootS (B+64000)/\t'.p=(jg act key root t.p).2.1/\Fr F hp nx F' hp' nx':=by
 have main:=an (P:=fun v hp' nx'=>v=.v (.int .i64 ((jg act key root t.p).1:Nat))/\∃F' t',dD hp' nx' rt rp rd F' (jg act key root t.p).2.2 t' rootS (B+64000)/\t'.p=(jg act key root t.p).2.1/\Fr F hp nx F' hp' nx') e40 (args:=[.ptr rt 0 0,.str key,.fn (.func k) first cap]) rfl (hp:=hp) (nx:=nx) ?_
 ·obtain ⟨v,hp',nx',h1,rfl,F',t',h2⟩:=main
  exact ⟨hp',nx',F',t',h1,h2⟩
 obtain ⟨x0,y0,F1,RL,oz,nf⟩:=h.clear
 have WG:=CM.fr nf
 obtain ⟨aT,ar,F2,r2,iW,ig⟩:=f72 A (key:=key) oz WG hN hP0 Yn (by omega)
 have ie:=nf.trans ig
 simp[c40,RL,aa,aG]
 refine ae r2 ?_
 unfold jg
 cases ht:rP act key root ⟨t.p,[],[]⟩ with
 |mk o t2 =>
  rw[ht]at iW
  cases o with
  |error e =>
   obtain ⟨he,o',x,y,Fp,view,hI,rfl⟩:=iW
   have iQ:=hI.iQ
   simp only[fe]at iQ
   have CB:=hI.hx.len
   simp[Oe,he,iQ,CB]
   refine aL (I:=fun (g:Nat×PM) s=>g.1<=t2.put.length/\s.tm 30=iV g.1/\s.tm 28=x/\s.tm 29=iV t2.put.length/\s.tm 0=.ptr rt 0 0/\s.tm 7=iV e/\s.nx=ar/\sZ s.hp ar rt rp rd root x y Fp ⟨g.2,t2.put,o'⟩ rootS view (B+63000) /\
    Fr F hp nx (rt::(bc x++(bc y++Fp))) s.hp ar/\lR t2.p t2.put=lR g.2 (t2.put.drop g.1)) (fun g=>t2.put.length-g.1) (0,t2.p) ?_ ?_
   ·exact ⟨by simp,by simp,by simp,by simp,by simp,by simp[Oe],rfl,hI,ie,by simp⟩
   rintro ⟨i,p⟩ tm hp1 nx1 ⟨hi,t30,t28,t29,t0,t7,yA,sN,LW,hd⟩
   simp only at hi t30 t28 t29 t0 t7 yA sN LW hd
   subst yA
   by_cases az:i<t2.put.length
   ·have bn:(i:Int)<(t2.put.length:Int):=by omega
    obtain ⟨r,uB,Dv,GR⟩:=FA sN.hx az
    have Nh:=sN.iQ
    simp only[fe]at Nh
    obtain ⟨gb,r4,tM,ml⟩:=sN.drop (t2.put[i])
    have n8:=sN.lp
    simp only at n8 r4 tM GR uB
    have w1:IntKind.wrap .i64 ((i:Int)+1)=((i+1:Nat):Int):=by rw[aj]<;>omega
    have yG:t2.put[i]?=some t2.put[i]:=zA az
    simp[t30,t29,t28,bn,uB,GR,t0,Nh,yG,j0]
    refine ae r4 ?_
    simp[t30,w1,-Prod.exists]
    refine ⟨(i+1,(p.drop t2.put[i]).getD p),by simp only;omega,by simp only;omega,rfl,by simp[t28,uB],t29,t0,t7,by rw[<-uB];exact tM,by have:=LW.trans ml;rw[uB]at this;simpa using this,?_⟩
    simp only
    rw[hd,zN az]
    rfl
   ·have rS:i=t2.put.length:=by omega
    subst rS
    simp[t30,t29,t7]
    rw[wt]at hd
    exact ⟨_,⟨p,t2.put,o'⟩,⟨x,y,Fp,view,sN.more (by omega),rfl⟩,hd.symm,LW⟩
  |ok r =>
   obtain ⟨x,y,Fp,view,hI,rfl⟩:=iW
   have iQ:=hI.iQ
   simp only[fe]at iQ
   have Ip:=hI.hy.len
   simp[Oe,iQ,Ip]
   refine aL (I:=fun (g:Nat×PM) s=>g.1<=t2.old.length/\s.tm 47=iV g.1/\s.tm 45=y/\s.tm 46=iV t2.old.length/\s.tm 0=.ptr rt 0 0/\s.nx=ar/\sZ s.hp ar rt rp rd r x y Fp ⟨g.2,t2.put,t2.old⟩ rootS view (B+63000) /\
    Fr F hp nx (rt::(bc x++(bc y++Fp))) s.hp ar/\gM t2.p t2.old=gM g.2 (t2.old.drop g.1)) (fun g=>t2.old.length-g.1) (0,t2.p) ?_ ?_
   ·exact ⟨by simp,by simp,by simp,by simp,by simp,rfl,hI,ie,by simp⟩
   rintro ⟨i,p⟩ tm hp1 nx1 ⟨hi,t30,t28,t29,t0,yA,sN,LW,hd⟩
   simp only at hi t30 t28 t29 t0 yA sN LW hd
   subst yA
   by_cases az:i<t2.old.length
   ·have bn:(i:Int)<(t2.old.length:Int):=by omega
    obtain ⟨q,uB,Dv,GR⟩:=FA sN.hy az
    have Nh:=sN.iQ
    simp only[fe]at Nh
    obtain ⟨gb,r4,tM,ml⟩:=sN.drop (t2.old[i])
    have n8:=sN.lo
    simp only at n8 r4 tM GR uB
    have w1:IntKind.wrap .i64 ((i:Int)+1)=((i+1:Nat):Int):=by rw[aj]<;>omega
    have yG:t2.old[i]?=some t2.old[i]:=zA az
    have hdc:=zN az
    simp[t30,t29,t28,bn,uB,GR,t0,Nh,yG,j0]
    refine ae r4 ?_
    cases s9:p.drop t2.old[i] with
    |none =>
     rw[s9]at tM
     have iU:gM t2.p t2.old=(p,10):=by rw[hd,hdc];simp only[gM,s9]
     simp[s9]
     refine ap (f66 3 _ _) ?_
     simp
     rw[iU]
     exact ⟨rfl,_,⟨p,t2.put,t2.old⟩,⟨x,y,Fp,view,tM.more (by omega),rfl⟩,rfl,LW.trans ml⟩
    |some p' =>
     rw[s9]at tM
     simp[s9,t30,w1,-Prod.exists]
     refine ⟨(i+1,p'),by simp only;omega,by simp only;omega,rfl,by simp[t28,uB],t29,t0,by rw[<-uB];exact tM,by have:=LW.trans ml;rw[uB]at this;simpa using this,?_⟩
     simp only
     rw[hd,hdc]
     simp only[gM,s9]
   ·have rS:i=t2.old.length:=by omega
    subst rS
    simp[t30,t29]
    rw[wt]at hd
    rw[hd]
    exact ⟨rfl,_,⟨p,t2.put,t2.old⟩,⟨x,y,Fp,view,sN.more (by omega),rfl⟩,rfl,LW⟩
end Go.Ai
namespace Go.Ai
open Go.Bt
theorem A0 {n:Nd} (h2:ax n=true) (h1:n.leaf=true) {key:Bs} (hk:key∈n.keys):ax (j8 n (below n.keys key))=true/\(j8 n (below n.keys key)).keys.length+1=n.keys.length/\(j8 n (below n.keys key)).items.length=(j8 n (below n.keys key)).keys.length/\below n.keys key<n.keys.length:=by
 have eF:=dN h2
 obtain ⟨b1,b2,b3⟩:=(aY.of h2).leaf h1
 obtain ⟨az,he⟩:=zB.1 ((kO eF key).1 hk)
 have ot:(fK n.keys (below n.keys key)).Sublist n.keys:=by
  have:n.keys=n.keys.take (below n.keys key)++n.keys.drop (below n.keys key):=(zy _ _).symm
  conv=>rhs;rw[this]
  exact List.Sublist.append (List.Sublist.refl _) (List.drop_sublist_drop_left _ (by omega))
 have GV:kK (fK n.keys (below n.keys key)):=kw.2 ((kw.1 eF).sublist ot)
 refine ⟨?_,by simp[j8,fK];omega,by simp[j8,fK];omega,az⟩
 show ax ⟨true,fK n.keys (below n.keys key),fK n.items (below n.keys key),[]⟩=true
 simp only[ax,zM]
 constructor
 ·refine iv.2 ⟨GV,fun j hj => ?_⟩
  obtain ⟨q,hq,e⟩:=zY (ot.subset (zP hj))
  show (fK n.keys (below n.keys key))[j].length<=60
  rw[<-e];exact (aY.of h2).yi q hq
 ·simp only[iL,if_true,zM,decide_eq_true_eq]
  refine ⟨⟨by simp[fK];omega,rfl⟩,?_⟩
  rw[zQ]
  intro y hy
  simp only[fK,zJ]at hy
  rcases hy with hy|hy
  ·exact b3 y (zw hy)
  ·exact b3 y (zx hy)
theorem MR {v:Bs}:∀(k n:Nat) (t t':T) (e:Except Nat Nat),sF v k n t=(e,t')->t'.p.st.length=t.p.st.length/\∀m,e=.error m->m≠0
 |0,n,t,t',e,h=>by simp only[sF,zPi]at h;obtain ⟨rfl,rfl⟩:=h;exact ⟨rfl,fun m h=>by cases h⟩
 |k+1,n,t,t',e,h=>by
  simp only[sF]at h
  cases hl:nz t 3 (aO n 4++(v.drop (488*k)).take 488) with
  |mk o t2 =>
   rw[hl]at h
   unfold nz at hl
   split at hl
   ·rename_i c p lv
    simp only[zPi]at hl
    obtain ⟨rfl,rfl⟩:=hl
    simp only[rb]at h
    obtain ⟨h1,h2⟩:=MR k c _ _ _ h
    exact ⟨by rw[h1];exact (PM.oL lv).2.2.2.2.2.2.1,h2⟩
   ·simp only[zPi]at hl
    obtain ⟨rfl,rfl⟩:=hl
    simp only[rb,zPi]at h
    obtain ⟨rfl,rfl⟩:=h
    exact ⟨rfl,fun m hm=>by simp only[Except.error.injEq]at hm;omega⟩
theorem At {t t':T} {v:Bs} {e:Nat} (h:dl t v=(.error e,t')):e≠0:=by
 unfold dl at h
 split at h
 ·cases h
 ·cases hl:sF v ((v.length-1) / 488+1) 0 t with
  |mk o t2 =>
   rw[hl]at h
   cases o with
   |ok c=>simp[rb]at h
   |error e' =>
    simp only[rb,zPi,Except.error.injEq]at h
    obtain ⟨rfl,_⟩:=h
    exact (MR _ _ _ _ _ hl).2 _ rfl
theorem U2 {rt rp rd root:Nat} {rootS key value:Bs} {q1 q2 q3:Nat} (hv:value.length<=60000):pM [(q1,[[.ptr rt 0 0]]),(q2,[[.str value]]),(q3,[[.str key]])] rt rp rd root rootS 45 [] [.ptr q1 0 0,.ptr q2 0 0,.ptr q3 0 0] (D5 key value) (fun _=>True) where
 len:=fun t n n' t' h hl dg=>by
  unfold D5 at h
  cases h1:dl t value with
  |mk o t2 =>
   rw[h1]at h
   cases o with
   |error e=>simp[rb]at h
   |ok it =>
    simp only[rb]at h
    split at h
    ·split at h
     ·rename_i y hy
      cases h2:gZ t2 y with
      |mk o t3 =>
       rw[h2]at h
       cases o with
       |error e=>simp at h
       |ok u =>
        simp only[zPi,Except.ok.injEq]at h
        obtain ⟨rfl,_⟩:=h
        refine ⟨⟨?_,?_,?_⟩,rfl⟩
        ·have:=hl.1;simp[oX,j8,fX,fK];omega
        ·have:=hl.2.1;simp[oX,j8,fX,fK];omega
        ·simp[oX,j8]
     ·cases h
    ·simp only[zPi,Except.ok.injEq]at h
     obtain ⟨rfl,_⟩:=h
     refine ⟨⟨?_,?_,?_⟩,rfl⟩
     ·have:=hl.1;simp[oX,fX];omega
     ·have:=hl.2.1;simp[oX,fX];omega
     ·simp[oX]
 run:=fun hp nx F t B n x h CM hx gd dg hr _ hN hB=>by
  obtain ⟨b1,b1l,b1F⟩:=CM (q1,[[.ptr rt 0 0]]) (by simp)
  obtain ⟨b2,b2l,b2F⟩:=CM (q2,[[.str value]]) (by simp)
  obtain ⟨b3,b3l,b3F⟩:=CM (q3,[[.str key]]) (by simp)
  simp only at b1 b1l b1F b2 b2l b2F b3 b3l b3F
  have main:=an (P:=fun v hp' nx'=>UZ (D5 key value t n).1 v/\∃F',rM hp' nx' rt rp rd F' root (D5 key value t n) rootS (B+61900)/\Fr F hp nx F' hp' nx') e45 (args:=[x,.ptr q1 0 0,.ptr q2 0 0,.ptr q3 0 0]) rfl (hp:=hp) (nx:=nx) ?_
  ·obtain ⟨v,hp',nx',h1,h2,F',h3⟩:=main
   exact ⟨v,hp',nx',F',h1,h2,h3⟩
  have kE:=hx
  obtain ⟨b0,k1,k2,k3,k4,i1,i2,i3,i4,d1,d2,d3,d4,rfl⟩:=hx.shape
  obtain ⟨H1,fq⟩:∃H1,H1=ab (ab hp nx (some [[.v (.bool b0),.rs k1 k2 k3 k4,.rs i1 i2 i3 i4,.rs d1 d2 d3 d4]])) (nx+1) (some [[.v (.bool false),nS,nS,nS]]):=⟨_,rfl⟩
  have cU:Ro hp nx H1 (nx+1+1):=⟨by omega,fun r hr=>by simp[fq,show ¬r=nx by omega,show ¬r=nx+1 by omega]⟩
  have h1:=h.ro cU
  have iX:=h.lt
  have nF:∀q,nx<=q->q∉F:=fun q hq e=>by have:=iX q e;omega
  have p0:H1 nx=some [[.v (.bool b0),.rs k1 k2 k3 k4,.rs i1 i2 i3 i4,.rs d1 d2 d3 d4]]:=by simp[fq]
  have p1:H1 (nx+1)=some [[.v (.bool false),nS,nS,nS]]:=by simp[fq]
  have a1:=(cU.ah q1 b1l).trans b1
  have a2:=(cU.ah q2 b2l).trans b2
  have a3:=(cU.ah q3 b3l).trans b3
  obtain ⟨aT,ar,F2,r2,iW,ig⟩:=f46 h1 hv hN (by omega)
  have ie:=(cU.fr F).trans ig
  have hle:=ig.le
  have Kz:∀q,q<nx+1+1->q∉F->q∉F2:=fun q u1 u2 e=>(ig.sub q e).elim u2 (by omega)
  have s0:=(ig.ah nx (by omega) (nF _ (by omega))).trans p0
  have s1:=(ig.ah (nx+1) (by omega) (nF _ (by omega))).trans p1
  have c1:=(ig.ah q1 (by omega) b1F).trans a1
  have c2:=(ig.ah q2 (by omega) b2F).trans a2
  have c3:=(ig.ah q3 (by omega) b3F).trans a3
  have e0:¬nx=ar:=by omega
  have e1:¬nx+1=ar:=by omega
  have e2:¬q1=ar:=by omega
  have e3:¬q2=ar:=by omega
  have e4:¬q3=ar:=by omega
  have e0':¬ar=nx:=by omega
  have YH:¬ar=nx+1:=by omega
  simp[c45,<-fq,a1,a2]
  refine ae r2 ?_
  have lv:D5 key value t n=rb (dl t value) fun x t =>
    if key∈n.keys then (match n.items[below n.keys key]? with
     |some y=>rb (gZ t y) fun _ t=>(.ok (oX (j8 n (below n.keys key)) (below n.keys key) key x),t)
     |none=>(.error 10,t))
    else (.ok (oX n (below n.keys key) key x),t):=rfl
  rw[lv]
  cases hl:dl t value with
  |mk o t2 =>
   rw[hl]at iW
   cases o with
   |error e =>
    have he:¬e=0:=At hl
    simp[Gm,he,aa,aG,s0,s1,e0,e1,e0',YH]
    refine ⟨⟨n,_,kE,rfl⟩,F2,⟨he,t2.old,(((dD.more iW (by omega)).ro cR).cK (Kz _ (by omega) (nF _ (by omega))))⟩,ie.sB (by omega) fun r u1 u2 => ?_⟩
    simp[show ¬r=ar by omega,show ¬r=nx+1 from fun e=>u2.elim (by omega) fun q=>Kz _ (by omega) (nF _ (by omega)) (e▸q)]
   |ok it =>
    simp[Gm,bD.cells,aa,aG,s0,s1,c3,e0,e1,e0',YH,e4]
    have iC:Ro aT ar (ab aT ar (some [it.cells])) (ar+1):=cR
    have me:=dD.ro iW iC
    have ml:=ie.trans (iC.fr F2)
    simp only[bD.cells]at iC me ml
    obtain ⟨H3,Le⟩:∃H3,H3=ab aT ar (some [[.str it.v,iV it.p,iV it.s]]):=⟨_,rfl⟩
    rw[<-Le]at iC me ml
    have s0':H3 nx=_:=(iC.ah nx (by omega)).trans s0
    have s1':H3 (nx+1)=_:=(iC.ah (nx+1) (by omega)).trans s1
    have BL:H3 q1=_:=(iC.ah q1 (by omega)).trans c1
    have JF:H3 q3=_:=(iC.ah q3 (by omega)).trans c3
    have s7:H3 ar=some [[.str it.v,iV it.p,iV it.s]]:=by simp[Le]
    have Wz:=f37 n _ kE key (by have:=gd.1;omega) (by have:=gd.2.1;omega) (by have:=gd.2.2;omega)
    have G4:(below n.keys key+if key∈n.keys/\n.leaf=false then 1 else 0)=below n.keys key:=by simp[dg]
    have lM:ko n key=(((below n.keys key:Nat):Int),decide (key∈n.keys)):=by simp only[ko,hr,if_true,G4]
    obtain ⟨g1,g2,g3⟩:=(aY.of hr).leaf dg
    have QL:below n.keys key<=n.keys.length:=(fo (dN hr) key).1
    have lK:n.kids.length<=60000:=by rw[g2];simp
    have X5:fa 3 [it.cells] (.rs false 3 [[.str it.v,iV it.p,iV it.s]] (some 1)):=⟨false,3,_,rfl,.inr rfl,by simp⟩
    rw[<-Le]
    refine ap (Wz _ _) ?_
    by_cases hm:key∈n.keys
    ·obtain ⟨IM,Oo,IL,Lt⟩:=A0 hr dg hm
     have lL:n.items[below n.keys key]?=some (n.items[below n.keys key]'(by omega)):=zA (by omega)
     have CG:=g3 _ (zP (show below n.keys key<n.items.length by omega))
     have Yh:fa 3 (n.items.map bD.cells) (.rs i1 i2 i3 i4):=by
      obtain ⟨_,_,_,e,_,kG,_⟩:=id kE
      simp only[AV.agg.injEq,List.cons.injEq,and_true]at e
      rw[e.2.2.1];exact kG
     have bJ:=uj Yh (i:=below n.keys key) (c:=(n.items[below n.keys key]'(by omega)).cells) (k:=.i64) (by rw[zO,lL];rfl)
     simp only[lL,if_pos hm,rb]
     generalize n.items[below n.keys key]'(by omega)=y at *
     obtain ⟨gb,tx,F4,r4,Aj,gA⟩:=f43 me CG (by omega)
     simp only[bD.cells]at bJ r4
     have aa3:=gA.le
     have ME:∀q,q<ar+1->q∉F2->q∉F4:=fun q u1 u2 e=>(gA.sub q e).elim u2 (by omega)
     have KA:ar∉F2:=fun e=>by have:=iW.lt _ e;omega
     have nn0:=Kz nx (by omega) (nF _ (by omega))
     have Te:=Kz (nx+1) (by omega) (nF _ (by omega))
     have z0:gb nx=_:=(gA.ah nx (by omega) nn0).trans s0'
     have z1:gb (nx+1)=_:=(gA.ah (nx+1) (by omega) Te).trans s1'
     have z3:gb q3=_:=(gA.ah q3 (by omega) (Kz _ (by omega) b3F)).trans JF
     have z7:gb ar=_:=(gA.ah ar (by omega) KA).trans s7
     have By:=ml.trans gA
     simp[lP,lM,hm,s0',s1',BL,JF,bJ,-ag,-Int.natCast_add]
     refine ae r4 ?_
     cases TM:gZ t2 y with
     |mk o t4 =>
      rw[TM]at Aj
      cases o with
      |error e =>
       obtain ⟨he,o',uG⟩:=Aj
       simp[DZ,he,aa,aG,z0,z1]
       refine ⟨⟨n,_,kE,rfl⟩,F4,⟨he,o',(uG.more (by omega)).cK (ME _ (by omega) Te)⟩,By.sB (zD _) fun r u1 u2 => ?_⟩
       simp[show ¬r=nx+1 from fun e=>u2.elim (by omega) fun q=>ME _ (by omega) Te (e▸q)]
      |ok u =>
       obtain ⟨y1,X6,ry1⟩:=abz n _ kE hr dg (by have:=gd.1;omega) g1 lK (below n.keys key) Lt [] nS .vT
       obtain ⟨y2,RB,ry2⟩:=aby (j8 n (below n.keys key)) y1 X6 IM rfl (by have:=gd.1;omega) IL (by simp[j8]) (below n.keys key) (by omega) key it _ X5
       have VJ:=X6
       have VI:=RB
       obtain ⟨m0,m1,m2,m3,m4,o1,o2,o3,o4,l1,l2,l3,l4,rfl⟩:=X6.shape
       obtain ⟨m0',m1',m2',m3',m4',o1',o2',ZY,o4',VA,Vz,Vy,l4',rfl⟩:=RB.shape
       simp[DZ,aa,aG,z0,z1]
       refine ap (ry1 _ _) ?_
       simp[aa,aG,z0,z1,z3,z7,e0,e1,e0',YH,show ¬q3=nx by omega]
       refine ap (ry2 _ _) ?_
       simp[aa,aG,z0,z1]
       refine ⟨⟨_,VI,rfl⟩,F4,(((dD.more Aj (by omega)).cK (ME _ (by omega) nn0)).cK (ME _ (by omega) Te)),By.sB (zD _) fun r u1 u2 => ?_⟩
       simp[show ¬r=nx+1 from fun e=>u2.elim (by omega) fun q=>ME _ (by omega) Te (e▸q),show ¬r=nx from fun e=>u2.elim (by omega) fun q=>ME _ (by omega) nn0 (e▸q)]
    ·simp only[if_neg hm,rb]
     obtain ⟨y2,RB,ry2⟩:=aby n _ kE hr dg (by have:=gd.1;omega) g1 lK (below n.keys key) QL key it _ X5
     have VI:=RB
     obtain ⟨m0',m1',m2',m3',m4',o1',o2',ZY,o4',VA,Vz,Vy,l4',rfl⟩:=RB.shape
     simp[lP,lM,hm,s0',s1',BL,JF,s7,-Int.natCast_add]
     refine ap (ry2 _ _) ?_
     simp[aa,aG,s0',s1']
     have Te:=Kz (nx+1) (by omega) (nF _ (by omega))
     refine ⟨⟨_,VI,rfl⟩,F2,((dD.more me (by omega)).cK Te),ml.sB (zD _) fun r u1 u2 => ?_⟩
     simp[show ¬r=nx+1 from fun e=>u2.elim (by omega) fun q=>Te (e▸q)]
end Go.Ai
namespace Go.Ai
open Go.Bt
theorem Ad (rd:fE) (key:Bs):∀(f a:Nat),BS rd key (fun _=>True) f a
 |0,_=>trivial
 |f+1,a=>fun n _=>⟨fun _=>trivial,fun _ c _=>Ad rd key f c.toNat⟩
theorem dD.f35 {hp nx rt rp rd F root t rootS B} (h:dD hp nx rt rp rd F root t rootS B) (hB:B<=1000000000):aZ E 35 [.ptr rt 0 0] hp nx (iV 0) hp nx .e:=by
 obtain ⟨x,y,Fp,view,hI,_⟩:=h
 exact Go.Ai.f35 (hI.LM hB)
theorem f16 {hp nx rt rp rd F root t rootS B} (h:dD hp nx rt rp rd F root t rootS B) {key value:Bs} (hN:t.p.st.length<=4096) (hB:B<=400000000) :
  ∃hp' nx' F' t',aZ E 16 [.ptr rt 0 0,.str key,.str value] hp nx (.v (.int .i64 ((uu key value t.p root).1:Nat))) hp' nx' .e/\dD hp' nx' rt rp rd F' (uu key value t.p root).2.2 t' rootS (B+64000)/\t'.p=(uu key value t.p root).2.1/\Fr F hp nx F' hp' nx':=by
 have main:=an (P:=fun v hp' nx'=>v=.v (.int .i64 ((uu key value t.p root).1:Nat))/\∃F' t',dD hp' nx' rt rp rd F' (uu key value t.p root).2.2 t' rootS (B+64000)/\t'.p=(uu key value t.p root).2.1/\Fr F hp nx F' hp' nx') e16 (args:=[.ptr rt 0 0,.str key,.str value]) rfl (hp:=hp) (nx:=nx) ?_
 ·obtain ⟨v,hp',nx',h1,rfl,F',t',h2⟩:=main
  exact ⟨hp',nx',F',t',h1,h2⟩
 have iX:=h.lt
 obtain ⟨H1,fq⟩:∃H1,H1=ab (ab (ab hp nx (some [[.ptr rt 0 0]])) (nx+1) (some [[.str key]])) (nx+1+1) (some [[.str value]]):=⟨_,rfl⟩
 have ck:Ro hp nx H1 (nx+1+1+1):=⟨by omega,fun r hr=>by simp[fq,show ¬r=nx by omega,show ¬r=nx+1 by omega,show ¬r=nx+1+1 by omega]⟩
 have h1:=h.ro ck
 have nf:=ck.fr F
 have nF:∀q,nx<=q->q∉F:=fun q hq e=>by have:=iX q e;omega
 have b0:H1 nx=some [[.ptr rt 0 0]]:=by simp[fq,show ¬nx=nx+1+1 by omega]
 have b1:H1 (nx+1)=some [[.str key]]:=by simp[fq]
 have b2:H1 (nx+1+1)=some [[.str value]]:=by simp[fq]
 have r35:=h1.f35 (by omega)
 unfold uu
 simp[c16,<-fq,b0]
 refine ae r35 ?_
 by_cases hk:60<key.length
 ·have Iw:(60:Int)<(key.length:Int):=by omega
  simp[b1,hk,Iw]
  exact ⟨F,t,h1.more (by omega),rfl,nf⟩
 ·have Iw:¬(60:Int)<(key.length:Int):=by omega
  by_cases hv:60000<value.length
  ·have hvI:(60000:Int)<(value.length:Int):=by omega
   simp[b1,b2,hk,Iw,hv,hvI]
   exact ⟨F,t,h1.more (by omega),rfl,nf⟩
  ·have hvI:¬(60000:Int)<(value.length:Int):=by omega
   have CM:kL [(nx,[[.ptr rt 0 0]]),(nx+1+1,[[.str value]]),(nx+1,[[.str key]])] H1 (nx+1+1+1) F:=by
    intro q hq
    simp only[zH,wO,or_false]at hq
    rcases hq with rfl|rfl|rfl
    ·exact ⟨b0,by simp only;omega,nF _ (by simp only;omega)⟩
    ·exact ⟨b2,by simp only;omega,nF _ (by simp only;omega)⟩
    ·exact ⟨b1,by simp only;omega,nF _ (by simp only;omega)⟩
   obtain ⟨aT,ar,F2,t2,r2,iW,yo,ig⟩:=f40 (U2 (rt:=rt) (rp:=rp) (rd:=rd) (root:=root) (rootS:=rootS) (key:=key) (value:=value) (q1:=nx) (q2:=nx+1+1) (q3:=nx+1) (by omega)) (key:=key) h1 CM hN (fun _=>trivial) (fun _=>Ad _ _ _ _) (by omega)
   simp[b0,b1,b2,hk,Iw,hv,hvI]
   refine ae r2 ?_
   simp
   exact ⟨F2,t2,iW,yo,nf.trans ig⟩
theorem W8 {rt rp rd root:Nat} {rootS key:Bs} {q1 q3:Nat}:pM [(q1,[[.ptr rt 0 0]]),(q3,[[.str key]])] rt rp rd root rootS 41 [] [.ptr q3 0 0,.ptr q1 0 0] (sS key) (fun n=>key∈n.keys) where
 len:=fun t n n' t' h hl dg=>by
  unfold sS at h
  split at h
  ·rename_i y hy
   cases h2:gZ t y with
   |mk o t3 =>
    rw[h2]at h
    cases o with
    |error e=>simp[rb]at h
    |ok u =>
     simp only[rb,zPi,Except.ok.injEq]at h
     obtain ⟨rfl,_⟩:=h
     refine ⟨⟨?_,?_,?_⟩,rfl⟩
     ·have:=hl.1;simp[j8,fK];omega
     ·have:=hl.2.1;simp[j8,fK];omega
     ·simp[j8]
  ·cases h
 run:=fun hp nx F t B n x h CM hx gd dg hr hm hN hB=>by
  obtain ⟨b1,b1l,b1F⟩:=CM (q1,[[.ptr rt 0 0]]) (by simp)
  obtain ⟨b3,b3l,b3F⟩:=CM (q3,[[.str key]]) (by simp)
  simp only at b1 b1l b1F b3 b3l b3F
  have main:=an (P:=fun v hp' nx'=>UZ (sS key t n).1 v/\∃F',rM hp' nx' rt rp rd F' root (sS key t n) rootS (B+61900)/\Fr F hp nx F' hp' nx') e41 (args:=[x,.ptr q3 0 0,.ptr q1 0 0]) rfl (hp:=hp) (nx:=nx) ?_
  ·obtain ⟨v,hp',nx',h1,h2,F',h3⟩:=main
   exact ⟨v,hp',nx',F',h1,h2,h3⟩
  have kE:=hx
  obtain ⟨b0,k1,k2,k3,k4,i1,i2,i3,i4,d1,d2,d3,d4,rfl⟩:=hx.shape
  obtain ⟨H1,fq⟩:∃H1,H1=ab (ab hp nx (some [[.v (.bool b0),.rs k1 k2 k3 k4,.rs i1 i2 i3 i4,.rs d1 d2 d3 d4]])) (nx+1) (some [[.v (.bool false),nS,nS,nS]]):=⟨_,rfl⟩
  have cU:Ro hp nx H1 (nx+1+1):=⟨by omega,fun r hr=>by simp[fq,show ¬r=nx by omega,show ¬r=nx+1 by omega]⟩
  have h1:=h.ro cU
  have iX:=h.lt
  have nF:∀q,nx<=q->q∉F:=fun q hq e=>by have:=iX q e;omega
  have p0:H1 nx=some [[.v (.bool b0),.rs k1 k2 k3 k4,.rs i1 i2 i3 i4,.rs d1 d2 d3 d4]]:=by simp[fq]
  have p1:H1 (nx+1)=some [[.v (.bool false),nS,nS,nS]]:=by simp[fq]
  have a1:=(cU.ah q1 b1l).trans b1
  have a3:=(cU.ah q3 b3l).trans b3
  have Wz:=f37 n _ kE key (by have:=gd.1;omega) (by have:=gd.2.1;omega) (by have:=gd.2.2;omega)
  have G4:(below n.keys key+if key∈n.keys/\n.leaf=false then 1 else 0)=below n.keys key:=by simp[dg]
  have lM:ko n key=(((below n.keys key:Nat):Int),decide (key∈n.keys)):=by simp only[ko,hr,if_true,G4]
  obtain ⟨g1,g2,g3⟩:=(aY.of hr).leaf dg
  have lK:n.kids.length<=60000:=by rw[g2];simp
  obtain ⟨IM,Oo,IL,Lt⟩:=A0 hr dg hm
  have lL:n.items[below n.keys key]?=some (n.items[below n.keys key]'(by omega)):=zA (by omega)
  have CG:=g3 _ (zP (show below n.keys key<n.items.length by omega))
  have Yh:fa 3 (n.items.map bD.cells) (.rs i1 i2 i3 i4):=by
   obtain ⟨_,_,_,e,_,kG,_⟩:=id kE
   simp only[AV.agg.injEq,List.cons.injEq,and_true]at e
   rw[e.2.2.1];exact kG
  have bJ:=uj Yh (i:=below n.keys key) (c:=(n.items[below n.keys key]'(by omega)).cells) (k:=.i64) (by rw[zO,lL];rfl)
  have aeX:sS key t n=rb (gZ t (n.items[below n.keys key]'(by omega))) fun _ t=>(.ok (j8 n (below n.keys key)),t):=by simp only[sS,lL]
  rw[aeX]
  generalize n.items[below n.keys key]'(by omega)=y at *
  obtain ⟨gb,tx,F4,r4,Aj,gA⟩:=f43 h1 CG (by omega)
  simp only[bD.cells]at bJ r4
  obtain ⟨y1,X6,ry1⟩:=abz n _ kE hr dg (by have:=gd.1;omega) g1 lK (below n.keys key) Lt [] nS .vT
  have VJ:=X6
  obtain ⟨m0,m1,m2,m3,m4,o1,o2,o3,o4,l1,l2,l3,l4,rfl⟩:=X6.shape
  have By:=(cU.fr F).trans gA
  have ME:nx+1∉F4:=fun e=>(gA.sub _ e).elim (nF _ (by omega)) (by omega)
  have z1:=(gA.ah (nx+1) (by omega) (nF _ (by omega))).trans p1
  simp[c41,<-fq,p0,a1,a3]
  refine ap (Wz _ _) ?_
  simp[lP,lM,p0,a1,bJ,-ag,-Int.natCast_add]
  refine ap (ry1 _ _) ?_
  simp[lP,lM,p0,a1,bJ,-ag,-Int.natCast_add]
  refine ae r4 ?_
  cases TM:gZ t y with
  |mk o t4 =>
   rw[TM]at Aj
   cases o with
   |error e =>
    obtain ⟨he,o',uG⟩:=Aj
    simp[DZ,aa,aG,z1]
    refine ⟨⟨_,_,VJ,rfl⟩,F4,⟨he,o',(uG.more (by omega)).cK ME⟩,By.sB (zD _) fun r u1 u2 => ?_⟩
    simp[show ¬r=nx+1 from fun e=>u2.elim (by omega) fun q=>ME (e▸q)]
   |ok u =>
    simp[DZ,aa,aG,z1]
    refine ⟨⟨_,VJ,rfl⟩,F4,((dD.more Aj (by omega)).cK ME),By.sB (zD _) fun r u1 u2 => ?_⟩
    simp[show ¬r=nx+1 from fun e=>u2.elim (by omega) fun q=>ME (e▸q)]
end Go.Ai
namespace Go.Ai
open Go.Bt
theorem BR {rd:fE} {key:Bs} {v:Bs}:∀(f a:Nat),iG rd key f a=some (some v)->a≠0/\BS rd key (fun n=>key∈n.keys) f a
 |f,0,h=>by cases f<;>simp[iG]at h
 |0,a+1,h=>by simp[iG]at h
 |f+1,a+1,h=>by
  refine ⟨by omega,fun n hn => ?_⟩
  simp only[iG,hn]at h
  refine ⟨fun hl => ?_,fun hl c hc => ?_⟩
  ·rw[if_pos hl]at h
   split at h
   ·assumption
   ·simp at h
  ·rw[if_neg (by simp[hl]),hc]at h
   exact (BR f _ h).2
theorem dD.get {hp nx rt rp rd F root t rootS B} (h:dD hp nx rt rp rd F root t rootS B) (hB:B<=1000000000) (key:Bs):∃hp' nx',aZ E 10 [.ptr rt 0 0,.str key] hp nx (ET (iG t.p.read key 12 root)) hp' nx' .e/\Ro hp nx hp' nx':=by
 obtain ⟨x,y,Fp,view,hI,_⟩:=h
 have iQ:=hI.iQ
 exact f10 (hI.LM hB) ⟨⟨_,iQ⟩⟩ key
theorem sw {α β:Type} {x:R α} {f:α->T->R β} {L:Nat} (h:x.2.p.st.length=L) (hf:∀a t,t.p.st.length=L->(f a t).2.p.st.length=L):(rb x f).2.p.st.length=L:=by
 obtain ⟨o,t⟩:=x
 cases o with
 |ok a=>exact hf a t h
 |error e=>exact h
theorem MS (t:T) (k:Nat) (s:Bs):(nz t k s).2.p.st.length=t.p.st.length:=by
 unfold nz
 split
 ·rename_i n p lv;exact (PM.oL lv).2.2.2.2.2.2.1
 ·rfl
theorem gR (t:T) (n:Nd):(aV t n).2.p.st.length=t.p.st.length:=by
 unfold aV
 split
 ·exact MS _ _ _
 ·rfl
theorem Vv (v:Bs):∀(k n:Nat) (t:T),(sF v k n t).2.p.st.length=t.p.st.length
 |0,n,t=>rfl
 |k+1,n,t=>sw (MS _ _ _) fun a t' h=>by rw[Vv v k a t'];exact h
theorem Rm (t:T) (x:bD):(gZ t x).2.p.st.length=t.p.st.length:=by
 unfold gZ
 split
 ·rfl
 ·split<;>rfl
theorem BZ (t:T) (a:Nat):(eA t a).2.p.st.length=t.p.st.length:=by
 unfold eA
 split<;>rfl
theorem ss (t:T) (n:Nd) (a b:Nat) (p:dz):(bM t n a b p).2.p.st.length=t.p.st.length:=by
 cases p with
 |one x=>exact sw (gR _ _) fun c t' h=>h
 |two x k y=>exact sw (gR _ _) fun c t' h=>sw ((gR _ _).trans h) fun d AS h=>h
theorem Rq (t:T) (n:Nd) (i:Nat) (x:Nd):(ff t n i x).2.p.st.length=t.p.st.length:=by
 unfold ff
 split
 ·split
  ·exact sw (BZ _ _) fun c t' h=>h
  ·rfl
 ·split
  ·exact sw (BZ _ _) fun c t' h=>h
  ·rfl
theorem SH (t:T) (n:Nd) (i:Nat) (p:dz):(lU t n i p).2.p.st.length=t.p.st.length:=by
 cases p with
 |one x =>
  simp only[lU]
  split
  ·exact sw (Rq _ _ _ _) fun c t' h=>(ss _ _ _ _ _).trans h
  ·exact ss _ _ _ _ _
 |two a k b=>exact ss _ _ _ _ _
theorem BI {act:T->Nd->R Nd} (hA:∀t n,(act t n).2.p.st.length=t.p.st.length) (key:Bs):∀(f a:Nat) (t:T),(cV act key f a t).2.p.st.length=t.p.st.length
 |0,a,t=>rfl
 |f+1,a,t=>by
  refine sw (BZ _ _) fun n t' h => ?_
  split
  ·exact sw ((hA _ _).trans h) fun n AS h=>h
  ·split
   ·exact sw ((BI hA key f _ _).trans h) fun p AS h=>(SH _ _ _ _).trans h
   ·exact h
theorem IF (t:T) (p:dz):(dG t p).2.p.st.length=t.p.st.length:=by
 cases p with
 |one n =>
  simp only[dG]
  split
  ·rfl
  ·split
   ·rfl
   ·exact gR _ _
 |two a k b=>exact sw (gR _ _) fun c t' h=>sw ((gR _ _).trans h) fun d AS h=>(gR _ _).trans h
theorem UL {act:T->Nd->R Nd} (hA:∀t n,(act t n).2.p.st.length=t.p.st.length) (key:Bs) (root:Nat) (t:T):(rP act key root t).2.p.st.length=t.p.st.length:=by
 unfold rP
 split
 ·exact sw (hA _ _) fun n t' h=>(IF _ _).trans h
 ·exact sw (BI hA key _ _ _) fun n t' h=>(IF _ _).trans h
theorem BD:∀(l:List Nat) (p:PM),(lR p l).st.length=p.st.length
 |[],p=>rfl
 |n::r,p=>by
  simp only[lR]
  rw[BD r]
  cases h:p.drop n with
  |none=>rfl
  |some p'=>exact (PM.rF h).2.2.2.2.2.1
theorem BE:∀(l:List Nat) (p:PM),(gM p l).1.st.length=p.st.length
 |[],p=>rfl
 |n::r,p=>by
  simp only[gM]
  cases h:p.drop n with
  |none=>rfl
  |some p'=>exact (BE r p').trans (PM.rF h).2.2.2.2.2.1
theorem Lq {act:T->Nd->R Nd} (hA:∀t n,(act t n).2.p.st.length=t.p.st.length) (key:Bytes) (root:Nat) (p:PM):(jg act key root p).2.1.st.length=p.st.length:=by
 have h:=UL hA key root ⟨p,[],[]⟩
 unfold jg
 cases ht:rP act key root ⟨p,[],[]⟩ with
 |mk o t2 =>
  rw[ht]at h
  cases o with
  |ok r=>exact (BE _ _).trans h
  |error e=>exact (BD _ _).trans h
theorem W7 (key:Bs) (t:T) (n:Nd):(sS key t n).2.p.st.length=t.p.st.length:=by
 unfold sS
 split
 ·exact sw (Rm _ _) fun u t' h=>h
 ·rfl
theorem f12 {hp nx rt rp rd F root t rootS B} (h:dD hp nx rt rp rd F root t rootS B) {keys:List Bs} {kA:AV} (hk:fa 1 (keys.map aN) kA) (hN:t.p.st.length<=4096) (lK:keys.length<=1000000) (hB:B+64000*keys.length<=400000000) :
  ∃hp' nx' F' t',aZ E 12 [.ptr rt 0 0,kA] hp nx (.bE [.v (.int .i64 ((dh keys 0 t.p root).1:Nat)),.v (.int .i64 ((dh keys 0 t.p root).2.1:Nat))]) hp' nx' .e/\dD hp' nx' rt rp rd F' (dh keys 0 t.p root).2.2.2 t' rootS (B+64000*keys.length)/\t'.p=(dh keys 0 t.p root).2.2.1/\Fr F hp nx F' hp' nx':=by
 have main:=an (P:=fun v hp' nx'=>v=(.bE [.v (.int .i64 ((dh keys 0 t.p root).1:Nat)),.v (.int .i64 ((dh keys 0 t.p root).2.1:Nat))])/\∃F' t',dD hp' nx' rt rp rd F' (dh keys 0 t.p root).2.2.2 t' rootS (B+64000*keys.length)/\t'.p=(dh keys 0 t.p root).2.2.1/\Fr F hp nx F' hp' nx') e12 (args:=[.ptr rt 0 0,kA]) rfl (hp:=hp) (nx:=nx) ?_
 ·obtain ⟨v,hp',nx',h1,rfl,F',t',h2⟩:=main
  exact ⟨hp',nx',F',t',h1,h2⟩
 obtain ⟨kn,ks,kc,rfl,vY⟩:=id hk
 have iX:=h.lt
 have Qp:nx∉F:=fun e=>by have:=iX nx e;omega
 obtain ⟨H1,fq⟩:∃H1,H1=ab hp nx (some [[.ptr rt 0 0]]):=⟨_,rfl⟩
 have ck:Ro hp nx H1 (nx+1):=by rw[fq];exact cR
 have h1:=h.ro ck
 have nf:=ck.fr F
 have b0:H1 nx=some [[.ptr rt 0 0]]:=by simp[fq]
 simp[c12,<-fq,b0]
 refine ae (h1.f35 (by omega)) ?_
 simp
 refine aL (I:=fun (g:Nat×Nat×T×Nat×List Nat) s=>g.1<=keys.length/\g.2.1<=g.1/\s.tm 20=iV g.1/\s.tm 18=.rs kn ks (keys.map aN) kc/\s.tm 19=iV keys.length/\s.tm 7=iV g.2.1/\s.tm 2=.ptr nx 0 0/\s.hp nx=some [[.ptr rt 0 0]]/\nx∉g.2.2.2.2/\nx<s.nx /\
   dD s.hp s.nx rt rp rd g.2.2.2.2 g.2.2.2.1 g.2.2.1 rootS (B+64000*g.1)/\Fr F hp nx g.2.2.2.2 s.hp s.nx/\g.2.2.1.p.st.length<=4096/\dh keys 0 t.p root=dh (keys.drop g.1) g.2.1 g.2.2.1.p g.2.2.2.1) (fun g=>keys.length-g.1) (0,0,t,root,F) ?_ ?_
 ·exact ⟨by simp,by simp,by simp,by simp,by simp,by simp,by simp,b0,Qp,by simp only;omega,by simpa using h1,nf,hN,by simp⟩
 rintro ⟨i,m,t1,UX,F1⟩ tm hp1 nx1 ⟨hi,hm,t20,t18,t19,t7,t2,c0,QB,Wc,oz,LW,Ak,hd⟩
 simp only at hi hm t20 t18 t19 t7 t2 c0 QB Wc oz LW Ak hd
 rw[hd]
 by_cases az:i<keys.length
 ·have bn:(i:Int)<(keys.length:Int):=by omega
  have yG:keys[i]?=some keys[i]:=zA az
  have bJ:=aS (n:=1) (k:=.i64) (cap:=kc) (j:=i) (cells:=[.str keys[i]]) vY (by simp[yG,aN])
  have s9:keys.drop i=keys[i]::keys.drop (i+1):=zN az
  have QH:∀m p r,dh (keys.drop i) m p r=match iG p.read keys[i] 12 r with
    |none=>(m,10,p,r)
    |some none=>dh (keys.drop (i+1)) m p r
    |some (some _)=>match jg (sS keys[i]) keys[i] r p with
     |(0,p,r)=>dh (keys.drop (i+1)) (m+1) p r
     |(e,p,r)=>(m,e,p,r):=fun m p r=>by rw[s9];rfl
  have hmul:64000*(i+1)=64000*i+64000:=by omega
  have afU:64000*(i+1)<=64000*keys.length:=by omega
  rw[QH]
  have cU:Ro hp1 nx1 (ab hp1 nx1 (some [[.str keys[i]]])) (nx1+1):=cR
  have iW:=oz.ro cU
  obtain ⟨aT,ar,r2,iD⟩:=iW.get (by omega) keys[i]
  have Az:=iD.le
  have me:=iW.ro iD
  have aaE:=cU.trans iD
  have ie:=LW.trans (aaE.fr F1)
  have c0':aT nx=some [[.ptr rt 0 0]]:=(aaE.ah nx Wc).trans c0
  have c9':aT nx1=some [[.str keys[i]]]:=by rw[iD.ah nx1 (by omega)];simp
  have ne:¬nx=nx1:=by omega
  have ne':¬nx1=nx:=by omega
  have w1:IntKind.wrap .i64 ((i:Int)+1)=((i+1:Nat):Int):=by rw[aj]<;>omega
  have w2:IntKind.wrap .i64 ((m:Int)+1)=((m+1:Nat):Int):=by rw[aj]<;>omega
  have w3:IntKind.wrap .i64 (((m+1:Nat):Int)-1)=(m:Int):=by rw[aj]<;>omega
  simp[t20,t18,t19,t2,bn,bJ,-ag,aa,aG,c0,ne,ne']
  refine ae r2 ?_
  cases hg:iG t1.p.read keys[i] 12 UX with
  |none =>
   simp[ET,t7]
   exact ⟨F1,t1,me.more (by omega),rfl,ie⟩
  |some o =>
   cases o with
   |none =>
    simp[ET,t7,t20,w1,-Prod.exists]
    refine ⟨(i+1,m,t1,UX,F1),by simp only;omega,by simp only;omega,by simp only;omega,by simp only;omega,t18,t19,rfl,t2,c0',QB,by omega,me.more (by simp only;omega),ie,Ak,rfl⟩
   |some v =>
    simp[ET,t7,c0',c9',t2]
    have CM:kL [(nx,[[.ptr rt 0 0]]),(nx1,[[.str keys[i]]])] aT ar F1:=by
     intro q hq
     simp only[zH,wO,or_false]at hq
     rcases hq with rfl|rfl
     ·exact ⟨c0',by simp only;omega,QB⟩
     ·exact ⟨c9',by simp only;omega,fun e=>by have:=oz.lt _ e;simp only at this;omega⟩
    obtain ⟨pl1,pl2⟩:=BR _ _ hg
    obtain ⟨gb,tx,F4,t4,r4,Aj,ht4,ml⟩:=f40 (W8 (rt:=rt) (rp:=rp) (rd:=rd) (root:=UX) (rootS:=rootS) (key:=keys[i]) (q1:=nx) (q3:=nx1)) (key:=keys[i]) me CM Ak (fun e=>absurd e pl1) (fun _=>pl2) (by omega)
    have hdn:=Lq (W7 keys[i]) keys[i] UX t1.p
    have aa3:=ml.le
    have aeD:nx∉F4:=fun e=>(ml.sub _ e).elim QB (by omega)
    have afw:gb nx=some [[.ptr rt 0 0]]:=(ml.ah nx (by omega) QB).trans c0'
    have gA:=ie.trans ml
    refine ae r4 ?_
    rcases EL:jg (sS keys[i]) keys[i] UX t1.p with ⟨e,p',r'⟩
    rw[EL]at Aj ht4 hdn
    simp only at Aj ht4 hdn
    cases e with
    |zero =>
     simp[t7,t20,w1,w2,-Prod.exists]
     refine ⟨(i+1,m+1,t4,r',F4),by simp only;omega,by simp only;omega,by simp only;omega,by simp only;omega,t18,t19,by simp only;omega,t2,afw,aeD,by omega,Aj.more (by simp only;omega),gA,by simp only[ht4];omega,by simp only[ht4]⟩
    |succ e =>
     have QG:¬((e:Int)+1=0):=by omega
     simp[t7,w2,w3,QG]
     exact ⟨by rw[aj]<;>omega,F4,t4,Aj.more (by omega),ht4,gA⟩
 ·have rS:i=keys.length:=by omega
  subst rS
  simp[t20,t19,t7]
  have hd0:dh [] m t1.p UX=(m,0,t1.p,UX):=rfl
  rw[hd0]
  exact ⟨⟨rfl,rfl⟩,F1,t1,oz.more (by omega),rfl,LW⟩
end Go.Ai
namespace Go.Ai
open Go.Bt
theorem f19 {hp nx rt rp rd F p rootS view B} (h:FF hp nx rt rp rd F p rootS view B) {root:Nat} (hr:BO hp rt rp root) :
  ∃hp' nx',aZ E 19 [.ptr rt 0 0] hp nx (.v (.int .i64 (eO p.read 12 1 root:Nat))) hp' nx' .e/\Ro hp nx hp' nx':=by
 have main:=an (P:=fun v hp' nx'=>v=(.v (.int .i64 (eO p.read 12 1 root:Nat)))/\Ro hp nx hp' nx') e19 (args:=[.ptr rt 0 0]) rfl (hp:=hp) (nx:=nx) ?_
 ·obtain ⟨v,hp',nx',h1,rfl,h2⟩:=main
  exact ⟨hp',nx',h1,h2⟩
 have r0:=f35 h
 obtain ⟨c,hc⟩:=hr.row
 simp[c19]
 refine ae r0 ?_
 simp[hc]
 refine aL (I:=fun (g:Nat×Nat) t=>∃d:Nat,d+g.1=13/\t.tm 3=iV g.2/\t.tm 4=iV d/\t.tm 0=.ptr rt 0 0/\Ro hp nx t.hp t.nx/\eO p.read 12 1 root=eO p.read g.1 d g.2) (fun g=>g.1) (12,root) ?_ ?_
 ·exact ⟨1,by simp,by simp,by simp,by simp,.refl,rfl⟩
 rintro ⟨f,a⟩ tm hp1 nx1 ⟨d,hd,t3,t4,t0,ck,hg⟩
 simp only at hd t3 t4 t0 ck hg
 rw[hg]
 by_cases ha:a=0
 ·subst ha
  have:eO p.read f d 0=0:=by cases f<;>simp[eO]
  rw[this]
  simp[t3]
  exact ck
 ·have Ha:¬(a:Int)=0:=by omega
  cases f with
  |zero =>
   obtain rfl:d=13:=by omega
   have:eO p.read 0 13 a=0:=rfl
   rw[this]
   simp[t3,t4,Ha,ha]
   exact ck
  |succ f =>
   have QI:(d:Int)<=12:=by omega
   have w1:IntKind.wrap .i64 ((d:Int)+1)=((d+1:Nat):Int):=by rw[aj]<;>omega
   have h1:=h.ro ck
   obtain ⟨v,aT,ar,r2,q2,xo⟩:=f36 h1 a
   have iD:=ck.trans xo
   have Az:=iD.le
   have iC:∀b,Ro hp nx (ab aT ar b) (ar+1):=fun b=>⟨by omega,fun r hr=>by simp[show ¬r=ar by omega];exact iD.ah r hr⟩
   simp[t3,t4,Ha,ha,QI,t0]
   refine ae r2 ?_
   unfold sa at q2
   cases hn:fN p.read a with
   |none =>
    rw[hn]at q2
    subst q2
    have:eO p.read (f+1) d a=0:=by simp only[eO,if_neg ha,hn]
    rw[this]
    simp[ez,aa,aG]
    exact iC _
   |some nd =>
    rw[hn]at q2
    obtain ⟨y,hy,rfl⟩:=q2
    obtain ⟨n1,n2,n3,n4,n5⟩:=h.pg.tz hn
    obtain ⟨ky,iy,dy,rfl,hky,hiy,hdy⟩:=id hy
    obtain ⟨k1,k2,k3,rfl⟩:=hky.shape
    obtain ⟨i1,i2,i3,rfl⟩:=hiy.shape
    obtain ⟨d1,d2,d3,rfl⟩:=hdy.shape
    simp[aa,aG]
    cases hl:nd.leaf with
    |true =>
     have:eO p.read (f+1) d a=d:=by simp only[eO,if_neg ha,hn,hl,if_true]
     rw[this]
     simp[hl,t4]
     exact iC _
    |false =>
     obtain ⟨g1,g2,g3,g4⟩:=(aY.of n1).inner hl
     have tH:nd.kids[0]?=some (nd.kids[0]'(by omega)):=zA (by omega)
     obtain ⟨cc,e1,e2,e3⟩:=fW (g4 _ (zP (show 0<nd.kids.length by omega)))
     have bJ:=uj hdy (i:=0) (c:=[iV cc]) (k:=.i64) (by rw[zO,tH,e1];rfl)
     change b9 1 _ (iV 0)=_ at bJ
     have:eO p.read (f+1) d a=eO p.read f (d+1) cc:=by simp only[eO,if_neg ha,hn,hl,tH,e1,zK,if_false,zl]
     rw[this]
     simp[hl,bJ,t4,w1,-ag,-Int.natCast_add,-Prod.exists]
     exact ⟨(f,cc),by simp only;omega,d+1,by simp only;omega,rfl,rfl,t0,iC _,rfl⟩
end Go.Ai
namespace Go.Ai
open Go.Bt
theorem f15 {hp nx rp rd F p rootS view B} (h:iS hp nx rp rd F p rootS view B) (ok:ea view p.gen rootS) (root:Nat) :
  ∃hp' F',aZ E 15 [.ptr rp 0 0,iV root] hp nx (.ptr nx 0 0) hp' (nx+1) .e/\dD hp' (nx+1) nx rp rd F' root ⟨p,[],[]⟩ rootS B/\Fr F hp nx F' hp' (nx+1):=by
 have az:=h.lt
 have nF:nx∉F:=fun e=>by have:=az nx e;omega
 have ck:Ro hp nx (ab hp nx (some (fe rp root nS nS))) (nx+1):=cR
 have main:=an (P:=fun v hp' nx'=>v=.ptr nx 0 0/\nx'=nx+1/\hp'=ab hp nx (some (fe rp root nS nS))) e15 (args:=[.ptr rp 0 0,iV root]) rfl (hp:=hp) (nx:=nx) ?_
 ·obtain ⟨v,hp',nx',r1,rfl,rfl,rfl⟩:=main
  refine ⟨_,nx::F,r1,⟨_,_,F,view,⟨?_,by omega,by simp,.inl ⟨rfl,rfl⟩,.inl ⟨rfl,rfl⟩,h.ah (by omega) fun r hr=>ck.ah r (az r hr),by simp,by simp,ok⟩,by simp⟩,⟨by omega,fun r u1 u2=>ck.ah r u1,fun r hr => ?_⟩⟩
  ·simpa [nF] using h.nodup
  ·rcases zH.1 hr with rfl|hr
   ·exact .inr (zD _)
   ·exact .inl hr
 simp[c15,aa,fe]
theorem f18 {hp nx rt rp rd F root t rootS B} (h:dD hp nx rt rp rd F root t rootS B):aZ E 18 [.ptr rt 0 0] hp nx (iV root) hp nx .e:=by
 obtain ⟨x,y,iQ,_⟩:=h.xn 0
 refine dx e18 rfl ?_
 simp[c18,iQ]
 exact fun r=>.inl rfl
theorem f14 (e:Int) (hp nx):aZ E 14 [iV e] hp nx (iV e) hp nx .p:=by
 refine aF e14 rfl (by simp) ?_ hp nx
 simp[c14]
end Go.Ai
namespace Go.Ai
open Go.Bt
theorem wr0:IntKind.wrap .i64 0=0:=by decide
end Go.Ai
namespace Go.Ai
open Go.Bt
def ba (x:Bs×Bs):List AV:=[.str x.1,.str x.2]
structure Dl (hp:Heap) (nx rt rp vR:Nat) (Fp:List Nat) (p:PM) (rootS:Bs) (view:Nat->Bs) (B q4 q5 q6 q7 fP q12:Nat) (lo hi:Bs) (aI:Nat) (out:List (Bs×Bs)) (x:AV):Prop where
 rd:FF hp nx rt rp vR Fp p rootS view B
 h4:hp q4=some [[.ptr rt 0 0]]
 h5:hp q5=some [[.str lo]]
 h6:hp q6=some [[.str hi]]
 h7:hp q7=some [[iV aI]]
 v7:hp q12=some [[.fn (.func 39) [] [.ptr fP 0 0,.ptr q7 0 0,.ptr q4 0 0,.ptr q5 0 0,.ptr q6 0 0,.ptr q12 0 0]]]
 vC:hp fP=some [[x]]
 w:dq hp nx 2 (out.map ba) x
 l:∀r∈[q4,q5,q6,q7,fP,q12],r<nx
 Rk:fP∉q4::q5::q6::q7::q12::rt::Fp
 n0:∀r∈bc x,r∉fP::q4::q5::q6::q7::q12::rt::Fp
 ol:out.length<=20000
structure BP (fP:Nat) (hp:Heap) (nx:Nat) (x:AV) (hp':Heap) (nx':Nat) (x':AV):Prop where
 le:nx<=nx'
 ah:∀r,r<nx->r≠fP->r∉bc x->hp' r=hp r
 sub:∀r∈bc x',r∈bc x\/nx<=r
theorem BP.trans {fP hp nx x hp1 nx1 x1 aT ar x2} (h:BP fP hp nx x hp1 nx1 x1) (k:BP fP hp1 nx1 x1 aT ar x2):BP fP hp nx x aT ar x2 :=
 ⟨wH h.le k.le,fun r u1 u2 u3=>by rw[k.ah r (by have:=h.le;omega) u2 fun e=>(h.sub r e).elim u3 (by omega)];exact h.ah r u1 u2 u3,
  fun r hr=>(k.sub r hr).elim (h.sub r) fun q=>.inr (by have:=h.le;omega)⟩
theorem BP.ro {fP hp nx x hp' nx'} (k:Ro hp nx hp' nx'):BP fP hp nx x hp' nx' x:=⟨k.le,fun r u _ _=>k.ah r u,fun r hr=>.inl hr⟩
theorem Dl.ro {hp nx rt rp vR Fp p rootS view B q4 q5 q6 q7 fP q12 lo hi aI out x hp' nx'} (h:Dl hp nx rt rp vR Fp p rootS view B q4 q5 q6 q7 fP q12 lo hi aI out x) (k:Ro hp nx hp' nx'):Dl hp' nx' rt rp vR Fp p rootS view B q4 q5 q6 q7 fP q12 lo hi aI out x:=by
 have hl:=h.l
 simp only[zH,wO,or_false,forall_eq_or_imp,forall_eq]at hl
 obtain ⟨a,b,c,d,e,f⟩:=hl
 have wl:∀r∈bc x,r<nx:=by
  rcases h.w with ⟨_,rfl⟩|⟨r,h1,rfl,_⟩
  ·simp
  ·simpa using h1
 exact ⟨h.rd.ro k,(k.ah _ a).trans h.h4,(k.ah _ b).trans h.h5,(k.ah _ c).trans h.h6,(k.ah _ d).trans h.h7,(k.ah _ f).trans h.v7,(k.ah _ e).trans h.vC,h.w.ah k.le fun r hr=>k.ah r (wl r hr),fun r hr=>zU (h.l r hr) k.le,h.Rk,h.n0,h.ol⟩
theorem Dl.xC {hp nx rt rp vR Fp p rootS view B q4 q5 q6 q7 fP q12 lo hi aI out x} (h:Dl hp nx rt rp vR Fp p rootS view B q4 q5 q6 q7 fP q12 lo hi aI out x) (k v:Bs) (hm:out.length<20000) :
  ∃gb,cF 2 32 x [[.str k,.str v]] hp nx=some (.sl nx 2 0 (out.length+1) none,gb,nx+1)/\gb fP=some [[x]] /\
   Dl (ab gb fP (some [[.sl nx 2 0 (out.length+1) none]])) (nx+1) rt rp vR Fp p rootS view B q4 q5 q6 q7 fP q12 lo hi aI (out++[(k,v)]) (.sl nx 2 0 (out.length+1) none) /\
   BP fP hp nx x (ab gb fP (some [[.sl nx 2 0 (out.length+1) none]])) (nx+1) (.sl nx 2 0 (out.length+1) none):=by
 have hl:=h.l
 simp only[zH,wO,or_false,forall_eq_or_imp,forall_eq]at hl
 obtain ⟨a,b,c,d,e,f⟩:=hl
 have Rk:=h.Rk
 have n0:=h.n0
 obtain ⟨gb,a1,a2,a3⟩:=h.w.xC (bytes:=32) (new:=[[.str k,.str v]]) (by simp) (by simp;have:=h.ol;omega)
 simp only[zZ,zV,zS,Nat.zero_add]at a1
 have adT:fP∉bc x:=fun q=>n0 fP q (by simp)
 have ah:∀r,r<nx->r≠fP->r∉bc x->(ab gb fP (some [[.sl nx 2 0 (out.length+1) none]])) r=hp r:=fun r u1 u2 u3=>by simp[u2];exact a3 r (by omega) u3
 have K:∀r∈q4::q5::q6::q7::q12::rt::Fp,r≠fP/\r∉bc x:=fun r hr=>⟨fun q=>Rk (q▸hr),fun q=>n0 r q (zu _ hr)⟩
 have k1:=fun r (hr:r∈q4::q5::q6::q7::q12::rt::Fp) (hl:r<nx)=>ah r hl (K r hr).1 (K r hr).2
 obtain ⟨cc,hc⟩:=h.rd.row
 refine ⟨gb,a1,by rw[a3 fP (by omega) adT];exact h.vC,⟨⟨⟨cc,by rw[k1 rt (by simp) h.rd.lt];exact hc⟩,by have:=h.rd.lt;omega,h.rd.pg.ah (by omega) fun r hr=>k1 r (by simp[hr]) (h.rd.pg.lt r hr),h.rd.hB⟩,
  (k1 _ (by simp) a).trans h.h4,(k1 _ (by simp) b).trans h.h5,(k1 _ (by simp) c).trans h.h6,(k1 _ (by simp) d).trans h.h7,(k1 _ (by simp) f).trans h.v7,by simp,.inr ⟨nx,by omega,by simp,by simp[show ¬nx=fP by omega,a2,ba]⟩,
  fun r hr=>by have:=h.l r hr;omega,Rk,fun r hr q => ?_,by simp;omega⟩,⟨by omega,ah,fun r hr=>.inr (by simp at hr;omega)⟩⟩
 simp only[xI,zH,wO,or_false]at hr
 subst hr
 simp only[zH]at q
 have h1:=h.rd.lt
 rcases q with q|q|q|q|q|q|q|q
 ·omega
 ·omega
 ·omega
 ·omega
 ·omega
 ·omega
 ·omega
 ·have:=h.rd.pg.lt _ q;omega
end Go.Ai
namespace Go.Ai
open Go.Bt
def vH:cC:=match c39.body with | .seq _ (.seq _ (.seq _ (.seq _ (.seq _ (.seq (.seq _ (.cond _ t _)) _)))))=>t|_=>.skip
def JE:cC:=match vH with | .seq (.seq _ (.block _ (.loop (.seq _ (.seq _ (.seq (.block _ (.seq _ (.seq _ t))) _)))))) _=>t|_=>.skip
theorem afl {hp nx rt rp vR Fp p rootS view B q4 q5 q6 q7 fP q12 lo hi aI out x} (h:Dl hp nx rt rp vR Fp p rootS view B q4 q5 q6 q7 fP q12 lo hi aI out x) {n:Nd} {nA:AV} {q:Nat} {tm:Nat->AV} {Q:eP->St->Prop}
  (t2:tm 2=.ptr fP 0 0) (t3:tm 3=.ptr q7 0 0) (t4:tm 4=.ptr q4 0 0) (t5:tm 5=.ptr q5 0 0) (t6:tm 6=.ptr q6 0 0) (t11:tm 11=.ptr q 0 0) (hn:iq n nA) (hq:hp q=some [nA.cells]) (RP:q<nx) (V8:q≠fP) (Qz:q∉bc x)
  (hr:ax n=true) (dg:n.leaf=true) (gd:dK 492 n) (TI:aI<=20000)
  (hP:∀tm' v hp' nx' x',tm' 10=v->(match jc p.read lo hi aI (n.keys.zip n.items) out with|some uw=>v=.v (.int .i64 0)/\Dl hp' nx' rt rp vR Fp p rootS view B q4 q5 q6 q7 fP q12 lo hi aI uw x'|none=>v=.v (.int .i64 10))->BP fP hp nx x hp' nx' x'->Q .ret ⟨tm',hp',nx'⟩) :
  W (aZ E) vH Q ⟨tm,hp,nx⟩:=by
 obtain ⟨g1,g2,g3⟩:=(aY.of hr).leaf dg
 have lK:=gd.1
 obtain ⟨TC,hT⟩:∃TC,TC=JE:=⟨_,rfl⟩
 have iW:=hT
 simp only[JE,vH,c39]at iW
 simp only[vH,c39]
 rw[<-iW]
 obtain ⟨k,i,d,rfl,⟨k1,k2,k4,rfl,jf⟩,⟨i1,i2,i4,rfl,EF⟩,⟨d1,d2,d4,rfl,AE⟩⟩:=hn
 simp only[AV.cells]at hq
 simp[t11,hq]
 refine aL (I:=fun (g:Nat×List (Bs×Bs)×AV) s=>g.1<=n.keys.length/\s.tm 44=iV g.1/\s.tm 42=.rs k1 k2 (n.keys.map aN) k4/\s.tm 43=iV n.keys.length/\s.tm 2=.ptr fP 0 0/\s.tm 3=.ptr q7 0 0/\s.tm 4=.ptr q4 0 0/\s.tm 5=.ptr q5 0 0/\s.tm 6=.ptr q6 0 0/\s.tm 11=.ptr q 0 0 /\
   Dl s.hp s.nx rt rp vR Fp p rootS view B q4 q5 q6 q7 fP q12 lo hi aI g.2.1 g.2.2/\BP fP hp nx x s.hp s.nx g.2.2/\jc p.read lo hi aI (n.keys.zip n.items) out=jc p.read lo hi aI ((n.keys.zip n.items).drop g.1) g.2.1) (fun g=>n.keys.length-g.1) (0,out,x) ?_ ?_
 ·exact ⟨by simp,by simp,by simp,by simp,by simp[t2],by simp[t3],by simp[t4],by simp[t5],by simp[t6],by simp[t11],h,BP.ro .refl,by simp⟩
 rintro ⟨i,iT,x1⟩ tm hp1 nx1 ⟨iR,t44,t42,t43,t2,t3,t4,t5,t6,t11,hS,hF,eW⟩
 simp only at iR t44 t42 t43 t2 t3 t4 t5 t6 t11 hS hF eW
 have iE:hp1 q=_:=(hF.ah q RP V8 Qz).trans hq
 by_cases az:i<n.keys.length
 ·have bn:(i:Int)<(n.keys.length:Int):=by omega
  have tH:n.keys[i]?=some n.keys[i]:=zA az
  have bJ:=aS (n:=1) (k:=.i64) (cap:=k4) (j:=i) (cells:=[.str n.keys[i]]) jf (by simp[tH,aN])
  have NA:i<n.items.length:=by omega
  have lL:n.items[i]?=some n.items[i]:=zA NA
  have nb:=aS (n:=3) (k:=.i64) (cap:=i4) (j:=i) (cells:=(n.items[i]).cells) EF (by simp[lL])
  have CG:=g3 _ (zP NA)
  have hzl:i<(n.keys.zip n.items).length:=by simp;omega
  have FO:(n.keys.zip n.items).drop i=(n.keys[i],n.items[i])::(n.keys.zip n.items).drop (i+1):=by rw[zN hzl];simp
  have w1:IntKind.wrap .i64 ((i:Int)+1)=((i+1:Nat):Int):=by rw[aj]<;>omega
  rw[FO]at eW
  generalize n.keys[i]=kk at *
  generalize n.items[i]=it at *
  obtain ⟨e4,e5,e6,e7,e11⟩:=And.intro hS.h4 (And.intro hS.h5 (And.intro hS.h6 (And.intro hS.h7 hS.vC)))
  have lx:=hS.w.len
  simp only[zZ]at lx
  by_cases c4:aI<=iT.length
  ·have je:lu lo hi kk=false\/aI<=iT.length:=.inr c4
   have P0:(aI:Int)<=(iT.length:Int):=by omega
   by_cases c1:al kk lo=true
   ·simp[t44,t42,t43,t2,t3,t4,t5,t6,t11,bn,bJ,e4,e5,e6,e7,e11,lx,-ag,-Prod.exists,c1,P0,c4]
    refine ⟨(i+1,iT,x1),by simp only;omega,by simp only;omega,by simp only;exact w1,hS,hF,?_⟩
    simp only
    rw[eW,jc,if_pos je]
   ·have BL:al kk lo=false:=by simpa using c1
    by_cases c2:hi=[]
    ·subst c2
     simp[t44,t42,t43,t2,t3,t4,t5,t6,t11,bn,bJ,e4,e5,e6,e7,e11,lx,-ag,-Prod.exists,BL,P0,c4]
     refine ⟨(i+1,iT,x1),by simp only;omega,by simp only;omega,by simp only;exact w1,hS,hF,?_⟩
     simp only
     rw[eW,jc,if_pos je]
    ·by_cases c3:al kk hi=true
     ·simp[t44,t42,t43,t2,t3,t4,t5,t6,t11,bn,bJ,e4,e5,e6,e7,e11,lx,-ag,-Prod.exists,BL,c2,c3,P0,c4]
      refine ⟨(i+1,iT,x1),by simp only;omega,by simp only;omega,by simp only;exact w1,hS,hF,?_⟩
      simp only
      rw[eW,jc,if_pos je]
     ·have JF:al kk hi=false:=by simpa using c3
      simp[t44,t42,t43,t2,t3,t4,t5,t6,t11,bn,bJ,e4,e5,e6,e7,e11,lx,-ag,-Prod.exists,BL,c2,JF,P0,c4]
      refine ⟨(i+1,iT,x1),by simp only;omega,by simp only;omega,by simp only;exact w1,hS,hF,?_⟩
      simp only
      rw[eW,jc,if_pos je]
  ·have P0:¬(aI:Int)<=(iT.length:Int):=by omega
   by_cases c1:al kk lo=true
   ·have je:lu lo hi kk=false\/aI<=iT.length:=.inl (by simp[lu,c1])
    simp[t44,t42,t43,t2,t3,t4,t5,t6,t11,bn,bJ,e4,e5,e6,e7,e11,lx,-ag,-Prod.exists,c1,P0,c4]
    refine ⟨(i+1,iT,x1),by simp only;omega,by simp only;omega,by simp only;exact w1,hS,hF,?_⟩
    simp only
    rw[eW,jc,if_pos je]
   ·have BL:al kk lo=false:=by simpa using c1
    obtain ⟨rn,sC,r5,Qm⟩:=f38 hS.rd CG
    have yL:=hS.ro Qm
    simp only[bD.cells]at nb r5
    by_cases c2:hi=[]
    ·subst c2
     have pc:¬(lu lo [] kk=false\/aI<=iT.length):=by simp[lu,BL];omega
     rw[jc,if_neg pc]at eW
     simp[t44,t42,t43,t2,t3,t4,t5,t6,t11,bn,bJ,e4,e5,e6,e7,e11,lx,-ag,-Prod.exists,BL,P0,c4]
     rw[hT]
     simp[JE,vH,c39,t44,t42,t43,t2,t3,t4,t5,t6,t11,bn,bJ,e4,e5,e6,e7,e11,lx,-ag,-Prod.exists,iE,nb,BL,P0,c4]
     refine ae r5 ?_
     cases hv:jh p.read it with
     |none =>
      rw[hv]at eW
      simp[BU]
      exact hP _ (iV 10) _ _ x1 (by simp) (by rw[eW]) (hF.trans (.ro Qm))
     |some v =>
      rw[hv]at eW
      obtain ⟨Dw,a1,a2,a3,a4⟩:=yL.xC kk v (by omega)
      have f11:rn fP=some [[x1]]:=yL.vC
      simp[BU,f11,t2,t44,aa,a1,a2,aG,w1,-Prod.exists]
      refine ⟨(i+1,iT++[(kk,v)],.sl sC 2 0 (iT.length+1) none),by simp only;omega,by simp only;omega,by simp only;omega,t42,t43,t3,t4,t5,t6,t11,a3,hF.trans ((BP.ro Qm).trans a4),eW⟩
    ·by_cases c3:al kk hi=true
     ·have pc:¬(lu lo hi kk=false\/aI<=iT.length):=by simp[lu,BL,c2,c3];omega
      rw[jc,if_neg pc]at eW
      simp[t44,t42,t43,t2,t3,t4,t5,t6,t11,bn,bJ,e4,e5,e6,e7,e11,lx,-ag,-Prod.exists,BL,c2,c3,P0,c4]
      rw[hT]
      simp[JE,vH,c39,t44,t42,t43,t2,t3,t4,t5,t6,t11,bn,bJ,e4,e5,e6,e7,e11,lx,-ag,-Prod.exists,iE,nb,BL,c2,c3,P0,c4]
      refine ae r5 ?_
      cases hv:jh p.read it with
      |none =>
       rw[hv]at eW
       simp[BU]
       exact hP _ (iV 10) _ _ x1 (by simp) (by rw[eW]) (hF.trans (.ro Qm))
      |some v =>
       rw[hv]at eW
       obtain ⟨Dw,a1,a2,a3,a4⟩:=yL.xC kk v (by omega)
       have f11:rn fP=some [[x1]]:=yL.vC
       simp[BU,f11,t2,t44,aa,a1,a2,aG,w1,-Prod.exists]
       refine ⟨(i+1,iT++[(kk,v)],.sl sC 2 0 (iT.length+1) none),by simp only;omega,by simp only;omega,by simp only;omega,t42,t43,t3,t4,t5,t6,t11,a3,hF.trans ((BP.ro Qm).trans a4),eW⟩
     ·have JF:al kk hi=false:=by simpa using c3
      have je:lu lo hi kk=false\/aI<=iT.length:=.inl (by simp[lu,c2,JF])
      simp[t44,t42,t43,t2,t3,t4,t5,t6,t11,bn,bJ,e4,e5,e6,e7,e11,lx,-ag,-Prod.exists,BL,c2,JF,P0,c4]
      refine ⟨(i+1,iT,x1),by simp only;omega,by simp only;omega,by simp only;exact w1,hS,hF,?_⟩
      simp only
      rw[eW,jc,if_pos je]
 ·have rS:i=n.keys.length:=by omega
  subst rS
  simp[t44,t43]
  refine hP _ (iV 0) _ _ x1 (by simp) ?_ hF
  rw[eW,zr (by simp;omega)]
  exact ⟨rfl,hS⟩
end Go.Ai
namespace Go.Ai
open Go.Bt
theorem dL (a b:Bs):(al a b||decide (a=b)) = !al b a:=by
 have h1:=ji a b
 by_cases h:a=b
 ·subst h;simp[bj]
 ·cases h2:al a b<;>cases h3:al b a<;>simp_all
def pC:cC:=match c39.body with | .seq _ (.seq _ (.seq _ (.seq _ (.seq _ (.seq _ t)))))=>t|_=>.skip
def sV:cC:=match pC with | .seq (.seq _ (.block _ (.loop (.seq _ (.seq _ (.seq (.block _ (.seq _ (.seq _ t))) _)))))) _=>t|_=>.skip
theorem afm {hp nx rt rp vR Fp p rootS view B q4 q5 q6 q7 fP q12 lo hi aI out x} (h:Dl hp nx rt rp vR Fp p rootS view B q4 q5 q6 q7 fP q12 lo hi aI out x) {n:Nd} {nA:AV} {q f d:Nat} {tm:Nat->AV} {P:AV->Heap->Nat->Prop}
  (ih:∀{hp nx out x} (a:Nat),Dl hp nx rt rp vR Fp p rootS view B q4 q5 q6 q7 fP q12 lo hi aI out x->∃v hp' nx' x',aZ E 39 [iV a,iV (d+1:Nat),.ptr fP 0 0,.ptr q7 0 0,.ptr q4 0 0,.ptr q5 0 0,.ptr q6 0 0,.ptr q12 0 0] hp nx v hp' nx' .e/\BP fP hp nx x hp' nx' x' /\
   match bG p.read lo hi aI f a out with|some uw=>v=.v (.int .i64 0)/\Dl hp' nx' rt rp vR Fp p rootS view B q4 q5 q6 q7 fP q12 lo hi aI uw x'|none=>v=.v (.int .i64 10))
  (t1:tm 1=iV d) (hd:d<12) (t2:tm 2=.ptr fP 0 0) (t3:tm 3=.ptr q7 0 0) (t4:tm 4=.ptr q4 0 0) (t5:tm 5=.ptr q5 0 0) (t6:tm 6=.ptr q6 0 0) (t7:tm 7=.ptr q12 0 0) (t11:tm 11=.ptr q 0 0) (hn:iq n nA) (hq:hp q=some [nA.cells]) (RP:q<nx) (V8:q≠fP) (Qz:q∉bc x)
  (hr:ax n=true) (dg:n.leaf=false) (gd:dK 492 n)
  (hP:∀v hp' nx' x',(match ix (fun c out=>bG p.read lo hi aI f c out) lo hi none n.keys n.kids out with|some uw=>v=.v (.int .i64 0)/\Dl hp' nx' rt rp vR Fp p rootS view B q4 q5 q6 q7 fP q12 lo hi aI uw x'|none=>v=.v (.int .i64 10))->BP fP hp nx x hp' nx' x'->P v hp' nx') :
  W (aZ E) pC (rT [.t 10] P) ⟨tm,hp,nx⟩:=by
 obtain ⟨g1,g2,g3,g4⟩:=(aY.of hr).inner dg
 have lK:=gd.1
 obtain ⟨TC,hT⟩:∃TC,TC=sV:=⟨_,rfl⟩
 have iW:=hT
 simp only[sV,pC,c39]at iW
 simp only[pC,c39]
 rw[<-iW]
 obtain ⟨k,i,dd,rfl,⟨k1,k2,k4,rfl,jf⟩,⟨i1,i2,i4,rfl,EF⟩,⟨d1,d2,d4,rfl,AE⟩⟩:=hn
 simp only[AV.cells]at hq
 have wd:IntKind.wrap .i64 ((d:Int)+1)=((d+1:Nat):Int):=by rw[aj]<;>omega
 simp[t11,hq]
 refine aL (I:=fun (g:Nat×List (Bs×Bs)×AV) s=>g.1<=n.kids.length/\s.tm 90=iV g.1/\s.tm 88=.rs d1 d2 (n.kids.map bC) d4/\s.tm 89=iV n.kids.length/\s.tm 1=iV d/\s.tm 2=.ptr fP 0 0/\s.tm 3=.ptr q7 0 0/\s.tm 4=.ptr q4 0 0/\s.tm 5=.ptr q5 0 0/\s.tm 6=.ptr q6 0 0/\s.tm 7=.ptr q12 0 0/\s.tm 11=.ptr q 0 0 /\
   Dl s.hp s.nx rt rp vR Fp p rootS view B q4 q5 q6 q7 fP q12 lo hi aI g.2.1 g.2.2/\BP fP hp nx x s.hp s.nx g.2.2/\ix (fun c out=>bG p.read lo hi aI f c out) lo hi none n.keys n.kids out=ix (fun c out=>bG p.read lo hi aI f c out) lo hi (match g.1 with|0=>none|j+1=>n.keys[j]?) (n.keys.drop g.1) (n.kids.drop g.1) g.2.1) (fun g=>n.kids.length-g.1) (0,out,x) ?_ ?_
 ·exact ⟨by simp,by simp,by simp,by simp,by simp[t1],by simp[t2],by simp[t3],by simp[t4],by simp[t5],by simp[t6],by simp[t7],by simp[t11],h,BP.ro .refl,by simp⟩
 rintro ⟨i,iT,x1⟩ tm hp1 nx1 ⟨iR,t44,t42,t43,t1,t2,t3,t4,t5,t6,t7,t11,hS,hF,eW⟩
 simp only at iR t44 t42 t43 t1 t2 t3 t4 t5 t6 t7 t11 hS hF eW
 have iE:hp1 q=_:=(hF.ah q RP V8 Qz).trans hq
 by_cases az:i<n.kids.length
 ·have bn:(i:Int)<(n.kids.length:Int):=by omega
  have tH:n.kids[i]?=some n.kids[i]:=zA az
  obtain ⟨cc,ec,ec2,ec3⟩:=fW (g4 _ (zP az))
  have bJ:=aS (n:=1) (k:=.i64) (cap:=d4) (j:=i) (cells:=[iV cc]) AE (by simp[tH,bC,ec])
  have hdk:n.kids.drop i=(cc:Int)::n.kids.drop (i+1):=by rw[zN az,ec]
  have hhd:(n.keys.drop i).head?=n.keys[i]?:=by simp
  have Tt:(n.keys.drop i).tail=n.keys.drop (i+1):=by simp
  have w1:IntKind.wrap .i64 ((i:Int)+1)=((i+1:Nat):Int):=by rw[aj]<;>omega
  rw[hdk]at eW
  have Nw:∀(o:List (Bs×Bs)),ix (fun c out=>bG p.read lo hi aI f c out) lo hi (n.keys.drop i).head? (n.keys.drop i).tail (n.kids.drop (i+1)) o=ix (fun c out=>bG p.read lo hi aI f c out) lo hi n.keys[i]? (n.keys.drop (i+1)) (n.kids.drop (i+1)) o:=fun o=>by rw[hhd,Tt]
  obtain ⟨e4,e5,e6,e7,e11,e12⟩:=And.intro hS.h4 (And.intro hS.h5 (And.intro hS.h6 (And.intro hS.h7 (And.intro hS.vC hS.v7))))
  obtain ⟨v5,rn,sC,x5,r5,gA,m5⟩:=ih cc hS
  have oZ:∀(pv:Option Bs) (o:List (Bs×Bs)),ix (fun c out=>bG p.read lo hi aI f c out) lo hi pv (n.keys.drop i) ((cc:Int)::n.kids.drop (i+1)) o=if eC lo hi pv n.keys[i]?=true then ix (fun c out=>bG p.read lo hi aI f c out) lo hi n.keys[i]? (n.keys.drop (i+1)) (n.kids.drop (i+1)) o
    else match bG p.read lo hi aI f cc o with|some o'=>ix (fun c out=>bG p.read lo hi aI f c out) lo hi n.keys[i]? (n.keys.drop (i+1)) (n.kids.drop (i+1)) o'|none=>none:=fun pv o=>by
   rw[ix,hhd,Tt]
   simp only[zl]
   split
   ·rfl
   ·cases bG p.read lo hi aI f cc o<;>rfl
  rw[oZ]at eW
  cases i with
  |zero =>
   have Yf:0<n.keys.length:=g1
   have EE:n.keys[0]?=some n.keys[0]:=zA Yf
   have nb:=aS (n:=1) (k:=.i64) (cap:=k4) (j:=0) (cells:=[.str n.keys[0]]) jf (by simp[EE,aN])
   change b9 1 _ (iV 0)=_ at nb bJ
   change tm 90=iV 0 at t44
   have EN:(0:Int)<(n.keys.length:Int):=by omega
   have bn:(0:Int)<(n.kids.length:Int):=by omega
   have w1:IntKind.wrap .i64 1=((0+1:Nat):Int):=by decide
   by_cases c1:al lo n.keys[0]=true
   ·have pc:¬eC lo hi none n.keys[0]?=true:=by simp[eC,EE,c1]
    rw[if_neg pc]at eW
    simp[t44,t42,t43,t1,t2,t3,t4,t5,t6,t7,t11,bn,az,dL,e4,e5,e6,e7,e11,e12,bJ,iE,-ag,-Prod.exists,-Int.natCast_add,nb,EN,Yf,c1]
    rw[hT]
    simp[sV,pC,c39,t44,t42,t43,t1,t2,t3,t4,t5,t6,t7,t11,bn,az,dL,e4,e5,e6,e7,e11,e12,bJ,iE,-ag,-Prod.exists,-Int.natCast_add,wd]
    refine ae (by simpa using r5) ?_
    cases hv:bG p.read lo hi aI f cc iT with
    |none =>
     rw[hv]at m5 eW
     simp only at m5
     subst m5
     simp
     exact hP _ _ _ x5 (by rw[eW]) (hF.trans gA)
    |some Ck =>
     rw[hv]at m5 eW
     obtain ⟨rfl,yL⟩:=m5
     simp[t44,t42,t43,t1,t2,t3,t4,t5,t6,t7,t11,bn,az,dL,e4,e5,e6,e7,e11,e12,bJ,iE,-ag,-Prod.exists,-Int.natCast_add]
     refine ⟨(0+1,Ck,x5),by simp only;omega,by simp only;omega,by simp only;exact w1,yL,hF.trans gA,?_⟩
     exact eW
   ·have BL:al lo n.keys[0]=false:=by simpa using c1
    have je:eC lo hi none n.keys[0]?=true:=by simp[eC,EE,BL]
    rw[if_pos je]at eW
    simp[t44,t42,t43,t1,t2,t3,t4,t5,t6,t7,t11,bn,az,dL,e4,e5,e6,e7,e11,e12,bJ,iE,-ag,-Prod.exists,-Int.natCast_add,nb,EN,Yf,BL]
    refine ⟨(0+1,iT,x1),by simp only;omega,by simp only;omega,by simp only;exact w1,hS,hF,?_⟩
    exact eW
  |succ j =>
   have hj:j<n.keys.length:=by omega
   have QD:n.keys[j]?=some n.keys[j]:=zA hj
   have K8:=aS (n:=1) (k:=.i64) (cap:=k4) (j:=j) (cells:=[.str n.keys[j]]) jf (by simp[QD,aN])
   have w2:IntKind.wrap .i64 (((j+1:Nat):Int)-1)=(j:Int):=by rw[aj]<;>omega
   have lB:(0:Int)<((j+1:Nat):Int):=by omega
   simp only at eW
   by_cases hb:j+1<n.keys.length
   ·have EN:((j+1:Nat):Int)<(n.keys.length:Int):=by omega
    have EE:n.keys[j+1]?=some n.keys[j+1]:=zA hb
    have nb:=aS (n:=1) (k:=.i64) (cap:=k4) (j:=j+1) (cells:=[.str n.keys[j+1]]) jf (by simp[EE,aN])
    by_cases c1:al lo n.keys[j+1]=true
    ·by_cases c2:hi=[]
     ·subst c2
      have pc:¬eC lo [] (n.keys[j]?) (n.keys[j+1]?)=true:=by simp[eC,QD,EE,c1]
      rw[if_neg pc]at eW
      simp[t44,t42,t43,t1,t2,t3,t4,t5,t6,t7,t11,bn,az,dL,e4,e5,e6,e7,e11,e12,bJ,iE,-ag,-Prod.exists,-Int.natCast_add,nb,EN,c1,lB]
      rw[hT]
      simp[sV,pC,c39,t44,t42,t43,t1,t2,t3,t4,t5,t6,t7,t11,bn,az,dL,e4,e5,e6,e7,e11,e12,bJ,iE,-ag,-Prod.exists,-Int.natCast_add,wd]
      refine ae (by simpa using r5) ?_
      cases hv:bG p.read lo [] aI f cc iT with
      |none =>
       rw[hv]at m5 eW
       simp only at m5
       subst m5
       simp
       exact hP _ _ _ x5 (by rw[eW]) (hF.trans gA)
      |some Ck =>
       rw[hv]at m5 eW
       obtain ⟨rfl,yL⟩:=m5
       simp[t44,t42,t43,t1,t2,t3,t4,t5,t6,t7,t11,bn,az,dL,e4,e5,e6,e7,e11,e12,bJ,iE,-ag,-Prod.exists,-Int.natCast_add]
       refine ⟨(j+1+1,Ck,x5),by simp only;omega,by simp only;omega,by simp only;exact w1,yL,hF.trans gA,?_⟩
       exact eW
     ·by_cases c3:al (n.keys[j]) hi=true
      ·have pc:¬eC lo hi (n.keys[j]?) (n.keys[j+1]?)=true:=by simp[eC,QD,c2,c3,EE,c1]
       rw[if_neg pc]at eW
       simp[t44,t42,t43,t1,t2,t3,t4,t5,t6,t7,t11,bn,az,dL,e4,e5,e6,e7,e11,e12,bJ,iE,-ag,-Prod.exists,-Int.natCast_add,nb,EN,c1,lB,c2,c3,K8,w2]
       rw[hT]
       simp[sV,pC,c39,t44,t42,t43,t1,t2,t3,t4,t5,t6,t7,t11,bn,az,dL,e4,e5,e6,e7,e11,e12,bJ,iE,-ag,-Prod.exists,-Int.natCast_add,wd]
       refine ae (by simpa using r5) ?_
       cases hv:bG p.read lo hi aI f cc iT with
       |none =>
        rw[hv]at m5 eW
        simp only at m5
        subst m5
        simp
        exact hP _ _ _ x5 (by rw[eW]) (hF.trans gA)
       |some Ck =>
        rw[hv]at m5 eW
        obtain ⟨rfl,yL⟩:=m5
        simp[t44,t42,t43,t1,t2,t3,t4,t5,t6,t7,t11,bn,az,dL,e4,e5,e6,e7,e11,e12,bJ,iE,-ag,-Prod.exists,-Int.natCast_add]
        refine ⟨(j+1+1,Ck,x5),by simp only;omega,by simp only;omega,by simp only;exact w1,yL,hF.trans gA,?_⟩
        exact eW
      ·have JF:al (n.keys[j]) hi=false:=by simpa using c3
       have je:eC lo hi (n.keys[j]?) (n.keys[j+1]?)=true:=by simp[eC,QD,c2,JF,EE,c1]
       rw[if_pos je]at eW
       simp[t44,t42,t43,t1,t2,t3,t4,t5,t6,t7,t11,bn,az,dL,e4,e5,e6,e7,e11,e12,bJ,iE,-ag,-Prod.exists,-Int.natCast_add,nb,EN,c1,lB,c2,JF,K8,w2]
       refine ⟨(j+1+1,iT,x1),by simp only;omega,by simp only;omega,by simp only;exact w1,hS,hF,?_⟩
       exact eW
    ·have BL:al lo n.keys[j+1]=false:=by simpa using c1
     have je:eC lo hi (n.keys[j]?) n.keys[j+1]?=true:=by simp[eC,EE,BL]
     rw[if_pos je]at eW
     simp[t44,t42,t43,t1,t2,t3,t4,t5,t6,t7,t11,bn,az,dL,e4,e5,e6,e7,e11,e12,bJ,iE,-ag,-Prod.exists,-Int.natCast_add,nb,EN,BL]
     refine ⟨(j+1+1,iT,x1),by simp only;omega,by simp only;omega,by simp only;exact w1,hS,hF,?_⟩
     exact eW
   ·have EN:¬((j+1:Nat):Int)<(n.keys.length:Int):=by omega
    have EE:n.keys[j+1]?=none:=wZ (by omega)
    by_cases c2:hi=[]
    ·subst c2
     have pc:¬eC lo [] (n.keys[j]?) (n.keys[j+1]?)=true:=by simp[eC,QD,EE]
     rw[if_neg pc]at eW
     simp[t44,t42,t43,t1,t2,t3,t4,t5,t6,t7,t11,bn,az,dL,e4,e5,e6,e7,e11,e12,bJ,iE,-ag,-Prod.exists,-Int.natCast_add,EN,lB]
     rw[hT]
     simp[sV,pC,c39,t44,t42,t43,t1,t2,t3,t4,t5,t6,t7,t11,bn,az,dL,e4,e5,e6,e7,e11,e12,bJ,iE,-ag,-Prod.exists,-Int.natCast_add,wd]
     refine ae (by simpa using r5) ?_
     cases hv:bG p.read lo [] aI f cc iT with
     |none =>
      rw[hv]at m5 eW
      simp only at m5
      subst m5
      simp
      exact hP _ _ _ x5 (by rw[eW]) (hF.trans gA)
     |some Ck =>
      rw[hv]at m5 eW
      obtain ⟨rfl,yL⟩:=m5
      simp[t44,t42,t43,t1,t2,t3,t4,t5,t6,t7,t11,bn,az,dL,e4,e5,e6,e7,e11,e12,bJ,iE,-ag,-Prod.exists,-Int.natCast_add]
      refine ⟨(j+1+1,Ck,x5),by simp only;omega,by simp only;omega,by simp only;exact w1,yL,hF.trans gA,?_⟩
      exact eW
    ·by_cases c3:al (n.keys[j]) hi=true
     ·have pc:¬eC lo hi (n.keys[j]?) (n.keys[j+1]?)=true:=by simp[eC,QD,c2,c3,EE]
      rw[if_neg pc]at eW
      simp[t44,t42,t43,t1,t2,t3,t4,t5,t6,t7,t11,bn,az,dL,e4,e5,e6,e7,e11,e12,bJ,iE,-ag,-Prod.exists,-Int.natCast_add,EN,lB,c2,c3,K8,w2]
      rw[hT]
      simp[sV,pC,c39,t44,t42,t43,t1,t2,t3,t4,t5,t6,t7,t11,bn,az,dL,e4,e5,e6,e7,e11,e12,bJ,iE,-ag,-Prod.exists,-Int.natCast_add,wd]
      refine ae (by simpa using r5) ?_
      cases hv:bG p.read lo hi aI f cc iT with
      |none =>
       rw[hv]at m5 eW
       simp only at m5
       subst m5
       simp
       exact hP _ _ _ x5 (by rw[eW]) (hF.trans gA)
      |some Ck =>
       rw[hv]at m5 eW
       obtain ⟨rfl,yL⟩:=m5
       simp[t44,t42,t43,t1,t2,t3,t4,t5,t6,t7,t11,bn,az,dL,e4,e5,e6,e7,e11,e12,bJ,iE,-ag,-Prod.exists,-Int.natCast_add]
       refine ⟨(j+1+1,Ck,x5),by simp only;omega,by simp only;omega,by simp only;exact w1,yL,hF.trans gA,?_⟩
       exact eW
     ·have JF:al (n.keys[j]) hi=false:=by simpa using c3
      have je:eC lo hi (n.keys[j]?) (n.keys[j+1]?)=true:=by simp[eC,QD,c2,JF,EE]
      rw[if_pos je]at eW
      simp[t44,t42,t43,t1,t2,t3,t4,t5,t6,t7,t11,bn,az,dL,e4,e5,e6,e7,e11,e12,bJ,iE,-ag,-Prod.exists,-Int.natCast_add,EN,lB,c2,JF,K8,w2]
      refine ⟨(j+1+1,iT,x1),by simp only;omega,by simp only;omega,by simp only;exact w1,hS,hF,?_⟩
      exact eW
 ·have rS:i=n.kids.length:=by omega
  subst rS
  simp[t44,t43]
  refine hP _ _ _ x1 ?_ hF
  rw[eW,zr (zD _)]
  simp only[ix]
  exact ⟨trivial,hS⟩
end Go.Ai
namespace Go.Ai
open Go.Bt
theorem dq.H8 {hp nx sz es x} (h:dq hp nx sz es x):∀r∈bc x,r<nx:=by
 rcases h with ⟨_,rfl⟩|⟨r,h1,rfl,_⟩
 ·simp
 ·simpa using h1
theorem f39 {rt rp vR:Nat} {Fp:List Nat} {p:PM} {rootS:Bs} {view:Nat->Bs} {B q4 q5 q6 q7 fP q12:Nat} {lo hi:Bs} {aI:Nat} (TI:aI<=20000):∀(f d:Nat) {hp nx out x} (a:Nat),d+f=12->Dl hp nx rt rp vR Fp p rootS view B q4 q5 q6 q7 fP q12 lo hi aI out x ->
  ∃v hp' nx' x',aZ E 39 [iV a,iV d,.ptr fP 0 0,.ptr q7 0 0,.ptr q4 0 0,.ptr q5 0 0,.ptr q6 0 0,.ptr q12 0 0] hp nx v hp' nx' .e/\BP fP hp nx x hp' nx' x' /\
   match bG p.read lo hi aI f a out with|some uw=>v=.v (.int .i64 0)/\Dl hp' nx' rt rp vR Fp p rootS view B q4 q5 q6 q7 fP q12 lo hi aI uw x'|none=>v=.v (.int .i64 10):=by
 intro f
 induction f with
 |zero =>
  intro d hp nx out x a hd hS
  obtain rfl:d=12:=by omega
  have main:=an (P:=fun v hp' nx'=>∃x',BP fP hp nx x hp' nx' x'/\match bG p.read lo hi aI 0 a out with|some uw=>v=.v (.int .i64 0)/\Dl hp' nx' rt rp vR Fp p rootS view B q4 q5 q6 q7 fP q12 lo hi aI uw x'|none=>v=.v (.int .i64 10)) e39 (args:=[iV a,iV 12,.ptr fP 0 0,.ptr q7 0 0,.ptr q4 0 0,.ptr q5 0 0,.ptr q6 0 0,.ptr q12 0 0]) rfl (hp:=hp) (nx:=nx) ?_
  ·obtain ⟨v,hp',nx',h1,x',h2⟩:=main
   exact ⟨v,hp',nx',x',h1,h2⟩
  obtain ⟨e4,e7,e11⟩:=And.intro hS.h4 (And.intro hS.h7 hS.vC)
  have lx:=hS.w.len
  simp only[zZ]at lx
  by_cases ha:a=0
  ·have hr:bG p.read lo hi aI 0 a out=some out:=by simp only[bG,ha,true_or,if_true]
   rw[hr]
   subst ha
   simp[c39]
   exact ⟨x,.ro .refl,hS⟩
  ·have Ha:¬(a:Int)=0:=by omega
   by_cases hm:aI<=out.length
   ·have LQ:(aI:Int)<=(out.length:Int):=by omega
    have hr:bG p.read lo hi aI 0 a out=some out:=by simp only[bG,hm,or_true,if_true]
    rw[hr]
    simp[c39,ha,Ha,e11,e7,lx,hm,LQ]
    exact ⟨x,.ro .refl,hS⟩
   ·have LQ:¬(aI:Int)<=(out.length:Int):=by omega
    have hr:bG p.read lo hi aI 0 a out=none:=by simp only[bG,ha,hm,or_self,if_false]
    rw[hr]
    simp[c39,ha,Ha,e11,e7,lx,hm,LQ]
    exact ⟨x,.ro .refl⟩
 |succ f ih =>
  intro d hp nx out x a hd hS
  have main:=an (P:=fun v hp' nx'=>∃x',BP fP hp nx x hp' nx' x'/\match bG p.read lo hi aI (f+1) a out with|some uw=>v=.v (.int .i64 0)/\Dl hp' nx' rt rp vR Fp p rootS view B q4 q5 q6 q7 fP q12 lo hi aI uw x'|none=>v=.v (.int .i64 10)) e39 (args:=[iV a,iV d,.ptr fP 0 0,.ptr q7 0 0,.ptr q4 0 0,.ptr q5 0 0,.ptr q6 0 0,.ptr q12 0 0]) rfl (hp:=hp) (nx:=nx) ?_
  ·obtain ⟨v,hp',nx',h1,x',h2⟩:=main
   exact ⟨v,hp',nx',x',h1,h2⟩
  obtain ⟨e4,e7,e11⟩:=And.intro hS.h4 (And.intro hS.h7 hS.vC)
  have lx:=hS.w.len
  simp only[zZ]at lx
  have Ts:=hS.w.H8
  have l11:fP<nx:=hS.l fP (by simp)
  obtain ⟨TL,hTL⟩:∃T,T=vH:=⟨_,rfl⟩
  have NP:=hTL
  simp only[vH,c39]at NP
  obtain ⟨TK,hTK⟩:∃T,T=pC:=⟨_,rfl⟩
  have NQ:=hTK
  simp only[pC,c39]at NQ
  simp only[c39]
  rw[<-NP,<-NQ]
  by_cases ha:a=0
  ·have hr:bG p.read lo hi aI (f+1) a out=some out:=by simp only[bG,ha,true_or,if_true]
   rw[hr]
   subst ha
   simp
   exact ⟨x,.ro .refl,hS⟩
  ·have Ha:¬(a:Int)=0:=by omega
   by_cases hm:aI<=out.length
   ·have LQ:(aI:Int)<=(out.length:Int):=by omega
    have hr:bG p.read lo hi aI (f+1) a out=some out:=by simp only[bG,hm,or_true,if_true]
    rw[hr]
    simp[ha,Ha,e11,e7,lx,hm,LQ]
    exact ⟨x,.ro .refl,hS⟩
   ·have LQ:¬(aI:Int)<=(out.length:Int):=by omega
    have QI:¬(d:Int)=12:=by omega
    have aeY:¬d=12:=by omega
    obtain ⟨v,aT,ar,r2,q2,xo⟩:=f36 hS.rd a
    have Az:=xo.le
    have iC:∀b,Ro hp nx (ab aT ar b) (ar+1):=fun b=>xo.trans cR
    simp[ha,Ha,e11,e7,lx,hm,LQ,QI,aeY,e4]
    refine ae r2 ?_
    unfold sa at q2
    have Nm:bG p.read lo hi aI (f+1) a out=match fN p.read a with
      |some n=>if n.leaf=true then jc p.read lo hi aI (n.keys.zip n.items) out else ix (fun c out=>bG p.read lo hi aI f c out) lo hi none n.keys n.kids out
      |none=>none:=by
     rw[bG,if_neg (by simp[ha,hm])]
     cases fN p.read a<;>rfl
    rw[Nm]
    cases hn:fN p.read a with
    |none =>
     rw[hn]at q2
     subst q2
     simp[ez,aa,aG]
     exact ⟨x,.ro (iC _)⟩
    |some nd =>
     rw[hn]at q2
     obtain ⟨y,hy,rfl⟩:=q2
     obtain ⟨n1,n2,n3,n4,n5⟩:=hS.rd.pg.tz hn
     have gd:dK 492 nd:=⟨n3,n4,n5⟩
     have Du:=hy
     obtain ⟨b0,k1,k2,k3,k4,i1,i2,i3,i4,d1,d2,d3,d4,rfl⟩:=hy.shape
     obtain ⟨_,_,_,tL⟩:=hy.cl
     have T3:=hS.ro (iC (some [[.v (.bool b0),.rs k1 k2 k3 k4,.rs i1 i2 i3 i4,.rs d1 d2 d3 d4]]))
     have ie:BP fP hp nx x (ab aT ar (some [[.v (.bool b0),.rs k1 k2 k3 k4,.rs i1 i2 i3 i4,.rs d1 d2 d3 d4]])) (ar+1) x:=.ro (iC _)
     simp[aa,aG]
     cases dg:nd.leaf with
     |true =>
      rw[dg]at tL
      subst tL
      simp
      rw[hTL]
      refine afl (q:=ar) T3 (by simp) (by simp) (by simp) (by simp) (by simp) (by simp) Du (by simp) (by omega) (by omega) (fun e=>by have:=Ts _ e;omega) n1 dg gd TI fun tm' v hp' nx' x' tv rq hF' => ?_
      simp[tv]
      exact ⟨x',ie.trans hF',rq⟩
     |false =>
      rw[dg]at tL
      subst tL
      simp
      rw[hTK]
      refine afm (q:=ar) (f:=f) (d:=d) T3 (fun a h=>ih (d+1) a (by omega) h) (by simp) (by omega) (by simp) (by simp) (by simp) (by simp) (by simp) (by simp) (by simp) Du (by simp) (by omega) (by omega) (fun e=>by have:=Ts _ e;omega) n1 dg gd fun v hp' nx' x' rq hF' => ?_
      exact ⟨x',ie.trans hF',rq⟩
end Go.Ai
namespace Go.Ai
open Go.Bt
theorem f11 {hp nx rt rp rd F p rootS view B} (h:FF hp nx rt rp rd F p rootS view B) {root:Nat} (hr:BO hp rt rp root) (lo hi:Bs) (aI:Nat) :
  ∃v hp' nx',aZ E 11 [.ptr rt 0 0,.str lo,.str hi,iV aI] hp nx v hp' nx' .e/\Ro hp nx hp' nx'/\match bG p.read lo hi (min aI 20000) 12 root [] with
   |some out=>∃x,v=.bE [x,.v (.int .i64 0)]/\dq hp' nx' 2 (out.map ba) x/\∀r∈bc x,nx<=r
   |none=>v=.bE [.rs true 0 [] (some 0),.v (.int .i64 10)]:=by
 have main:=an (P:=fun v hp' nx'=>Ro hp nx hp' nx'/\match bG p.read lo hi (min aI 20000) 12 root [] with
   |some out=>∃x,v=.bE [x,.v (.int .i64 0)]/\dq hp' nx' 2 (out.map ba) x/\∀r∈bc x,nx<=r
   |none=>v=.bE [.rs true 0 [] (some 0),.v (.int .i64 10)]) e11 (args:=[.ptr rt 0 0,.str lo,.str hi,iV aI]) rfl (hp:=hp) (nx:=nx) ?_
 ·exact main
 have Ez:min (aI:Int) 20000=((min aI 20000:Nat):Int):=by omega
 have iX:=h.pg.lt
 have Ng:=h.lt
 let q4:=nx;let q5:=nx+1;let q6:=nx+1+1;let q7:=nx+1+1+1;let fP:=nx+1+1+1+1;let q12:=nx+1+1+1+1+1
 obtain ⟨H1,fq⟩:∃H1,H1=ab (ab (ab (ab hp nx (some [[.ptr rt 0 0]])) (nx+1) (some [[.str lo]])) (nx+1+1) (some [[.str hi]])) (nx+1+1+1) (some [[iV aI]]):=⟨_,rfl⟩
 have cU:Ro hp nx H1 (nx+1+1+1+1):=⟨by omega,fun r hr=>by simp[fq,show ¬r=nx by omega,show ¬r=nx+1 by omega,show ¬r=nx+1+1 by omega,show ¬r=nx+1+1+1 by omega]⟩
 have a4:H1 nx=some [[.ptr rt 0 0]]:=by simp[fq,show ¬nx=nx+1+1 by omega,show ¬nx=nx+1+1+1 by omega]
 have a7:H1 (nx+1+1+1)=some [[iV aI]]:=by simp[fq]
 have a5:H1 (nx+1)=some [[.str lo]]:=by simp[fq,show ¬nx+1=nx+1+1+1 by omega]
 have a6:H1 (nx+1+1)=some [[.str hi]]:=by simp[fq]
 obtain ⟨cc,hc⟩:=hr.row
 obtain ⟨H2,oB⟩:∃H2,H2=ab (ab (ab H1 (nx+1+1+1) (some [[iV (min aI 20000:Nat)]])) (nx+1+1+1+1) (some [[nS]])) (nx+1+1+1+1+1) (some [[.fn (.func 39) [] [.ptr (nx+1+1+1+1) 0 0,.ptr (nx+1+1+1) 0 0,.ptr nx 0 0,.ptr (nx+1) 0 0,.ptr (nx+1+1) 0 0,.ptr (nx+1+1+1+1+1) 0 0]]]):=⟨_,rfl⟩
 have iD:Ro hp nx H2 (nx+1+1+1+1+1+1):=⟨by omega,fun r hr=>by simp[oB,show ¬r=nx+1+1+1 by omega,show ¬r=nx+1+1+1+1 by omega,show ¬r=nx+1+1+1+1+1 by omega];exact cU.ah r hr⟩
 have hS:Dl H2 (nx+1+1+1+1+1+1) rt rp rd F p rootS view B nx (nx+1) (nx+1+1) (nx+1+1+1) (nx+1+1+1+1) (nx+1+1+1+1+1) lo hi (min aI 20000) [] nS:=by
  refine ⟨h.ro iD,?_,?_,?_,?_,?_,?_,.inl ⟨rfl,rfl⟩,?_,?_,by simp,by simp⟩
  ·simp[oB,show ¬nx=nx+1+1+1 by omega,show ¬nx=nx+1+1+1+1 by omega,show ¬nx=nx+1+1+1+1+1 by omega,a4]
  ·simp[oB,show ¬nx+1=nx+1+1+1 by omega,show ¬nx+1=nx+1+1+1+1 by omega,show ¬nx+1=nx+1+1+1+1+1 by omega,a5]
  ·simp[oB,show ¬nx+1+1=nx+1+1+1+1 by omega,show ¬nx+1+1=nx+1+1+1+1+1 by omega,a6]
  ·simp[oB,show ¬nx+1+1+1=nx+1+1+1+1+1 by omega]
  ·simp[oB]
  ·simp[oB]
  ·intro r hr
   simp only[zH,wO,or_false]at hr
   omega
  ·simp only[zH,not_or]
   exact ⟨by omega,by omega,by omega,by omega,by omega,by omega,fun e=>by have:=iX _ e;omega⟩
 obtain ⟨v5,rn,sC,x5,r5,gA,m5⟩:=f39 (by omega) 12 0 root rfl hS
 have aaC:Ro hp nx rn sC:=⟨by have:=gA.le;omega,fun r hr=>by rw[gA.ah r (by omega) (by omega) (by simp)];exact iD.ah r hr⟩
 simp[c11,<-fq,a4]
 refine ae (f35 (h.ro cU)) ?_
 have c2:H2 rt=some [.ptr rp 0 0::iV root::cc]:=(iD.ah rt Ng).trans hc
 have c1:H1 rt=some [.ptr rp 0 0::iV root::cc]:=(cU.ah rt Ng).trans hc
 simp[a7,a4,Ez,aa,aG,show ¬nx=nx+1+1+1 by omega,show ¬nx=nx+1+1+1+1 by omega,show ¬nx=nx+1+1+1+1+1 by omega,c1,show ¬rt=nx+1+1+1 by omega,show ¬rt=nx+1+1+1+1 by omega,show ¬rt=nx+1+1+1+1+1 by omega,<-oB]
 simp[hS.v7,hS.h4,c2]
 refine ae (by simpa using r5) ?_
 cases hv:bG p.read lo hi (min aI 20000) 12 root [] with
 |none =>
  rw[hv]at m5
  simp only at m5
  subst m5
  simp
  exact aaC
 |some out =>
  rw[hv]at m5
  obtain ⟨rfl,yL⟩:=m5
  have c11:=yL.vC
  simp[c11]
  refine ⟨aaC,yL.w,fun r hr=>(gA.sub r hr).elim (by simp) (by omega)⟩
end Go.Ai
namespace Go.Ai
open Go.Bt
theorem f121 (lo hi key:Bs) (b:Bool) (hp nx):aZ E 121 [.agg [.str lo,.str hi,.v (.bool b)],.str key] hp nx (.v (.bool (!al key lo&&(!b||al key hi)))) hp nx .p:=by
 refine aF e121 rfl (by simp) ?_ hp nx
 cases h1:al key lo
 ·cases b
  ·simp[c121,h1]
  ·simp[c121,h1]
 ·simp[c121,h1]
def GG (n:Nat):List AV:=[iV n,.v (.bool true)]
theorem EY (n:Nat):∀l:List Nat,(n∉l->iH .i (iV n) (l.map GG)=some none)/\(n∈l->∃i,iH .i (iV n) (l.map GG)=some (some (i,.v (.bool true))))
 |[]=>⟨fun _=>rfl,fun h=>by simp at h⟩
 |m::r=>by
  obtain ⟨h1,h2⟩:=EY n r
  have he:iH .i (iV n) ((m::r).map GG)=match iI .i (iV n) (iV m) with
    |some true=>some (some (0,.v (.bool true)))
    |some false=>match iH .i (iV n) (r.map GG) with
     |some (some (i,x))=>some (some (i+1,x))
     |some none=>some none
     |none=>none
    |none=>none:=rfl
  rw[he]
  have hq:iI .i (iV n) (iV m)=some (decide (n=m)):=by
   simp only[iI,if_true]
   congr 1
   simp[Int.ofNat_inj]
  rw[hq]
  by_cases Wd:n=m
  ·subst Wd
   exact ⟨fun h=>absurd (by simp) h,fun _=>⟨0,by simp⟩⟩
  ·refine ⟨fun h => ?_,fun h => ?_⟩
   ·rw[h1 (fun q=>h (by simp[q]))];simp[Wd]
   ·obtain ⟨i,hi⟩:=h2 (by simpa [Wd] using h)
    exact ⟨i+1,by rw[hi];simp[Wd]⟩
end Go.Ai
namespace Go.Ai
open Go.Bt
structure Zg (hp:Heap) (nx ql rm rt rp rd root:Nat) (x y:AV) (Fp pt ol:List Nat) (s:Bt.LK) (use:Bool) (rootS:Bs) (view:Nat->Bs) (B:Nat):Prop where
 tr:sZ hp nx rt rp rd root x y Fp ⟨s.p,pt,ol⟩ rootS view B
 hq:hp ql=some [[.ptr rt 0 0,.v (.bool use),.mp rm,iV s.leaf]]
 hm:hp rm=some (s.met.reverse.map GG)
 lq:ql<nx
 lm:rm<nx
 ne:ql≠rm
 nq:ql∉rt::(bc x++(bc y++Fp))
 nm:rm∉rt::(bc x++(bc y++Fp))
def pJ (hp:Heap) (nx ql rt rp rd:Nat) (F:List Nat) (root:Nat) (pt ol:List Nat) (s:Bt.LK) (use:Bool) (rootS:Bs) (B:Nat):Prop:=∃rm x y Fp view,Zg hp nx ql rm rt rp rd root x y Fp pt ol s use rootS view B/\F=ql::rm::rt::(bc x++(bc y++Fp))
theorem Q0 (p:PM) (n:Nat):((p.use n).getD p).gen=p.gen:=by
 unfold PM.use
 split<;>rfl
theorem f119 {hp nx ql rt rp rd F root pt ol use rootS B} {s:Bt.LK} (h:pJ hp nx ql rt rp rd F root pt ol s use rootS B) (n:Nat) (hn:n<=1000000000000) :
  ∃hp' nx' e,aZ E 119 [.ptr ql 0 0,iV n] hp nx (.v (.int .i64 e)) hp' nx' .e/\Fr F hp nx F hp' nx'/\match gk use s n with
   |some s'=>e=0/\pJ hp' nx' ql rt rp rd F root pt ol s' use rootS B
   |none=>e=10/\∃s',pJ hp' nx' ql rt rp rd F root pt ol s' use rootS B:=by
 have main:=an (P:=fun v hp' nx'=>∃e:Int,v=.v (.int .i64 e)/\Fr F hp nx F hp' nx'/\match gk use s n with
   |some s'=>e=0/\pJ hp' nx' ql rt rp rd F root pt ol s' use rootS B
   |none=>e=10/\∃s',pJ hp' nx' ql rt rp rd F root pt ol s' use rootS B) e119 (args:=[.ptr ql 0 0,iV n]) rfl (hp:=hp) (nx:=nx) ?_
 ·obtain ⟨v,hp',nx',h1,e,rfl,h2⟩:=main
  exact ⟨hp',nx',e,h1,h2⟩
 obtain ⟨rm,x,y,Fp,view,hI,rfl⟩:=h
 obtain ⟨f1,f2⟩:=EY n s.met.reverse
 have hq:=hI.hq
 have hm:=hI.hm
 have bt:=hI.ne
 by_cases mb:n∈s.met
 ·obtain ⟨i,hi⟩:=f2 (by simpa using mb)
  have Wj:gk use s n=none:=by simp only[gk,if_pos mb]
  rw[Wj]
  simp[c119,hq,hm,sH,hi,-List.map_reverse]
  exact ⟨.refl,s,rm,x,y,Fp,view,hI,rfl⟩
 ·have hf:=f1 (by simpa using mb)
  obtain ⟨H2,oB⟩:∃H2,H2=ab hp rm (some (s.met.reverse.map GG++[[iV n,.v (.bool true)]])):=⟨_,rfl⟩
  have hk:∀r,r≠rm->H2 r=hp r:=fun r hr=>by simp[oB,hr]
  have kQ:Zg H2 nx ql rm rt rp rd root x y Fp pt ol ⟨s.p,n::s.met,s.leaf⟩ use rootS view B :=
   ⟨hI.tr.ah (zD _) fun r hr=>hk r fun e=>hI.nm (e▸hr),by rw[hk ql bt];exact hq,by simp[oB,GG],hI.lq,hI.lm,bt,hI.nq,hI.nm⟩
  have ig:Fr (ql::rm::rt::(bc x++(bc y++Fp))) hp nx (ql::rm::rt::(bc x++(bc y++Fp))) H2 nx:=⟨zD _,fun r u1 u2=>hk r fun e=>u2 (by simp[e]),fun r hr=>.inl hr⟩
  cases use with
  |false =>
   have Wj:gk false s n=some ⟨s.p,n::s.met,s.leaf⟩:=by simp only[gk,if_neg mb];rfl
   rw[Wj]
   simp[c119,hq,hm,sH,hf,bt,-List.map_reverse,<-oB,kQ.hq]
   exact ⟨ig,rm,x,y,Fp,view,kQ,rfl⟩
  |true =>
   obtain ⟨kF,r9,e,r3,he,hP3,ie⟩:=f139 kQ.tr.pg n hn (some 1)
   obtain ⟨me,hFT⟩:=kQ.tr.vf hP3 ie (zD _) (by rw[Q0];exact kQ.tr.ok)
   have iQ:=kQ.tr.iQ
   simp only[fe]at iQ
   simp[c119,hq,hm,sH,hf,bt,-List.map_reverse,<-oB,kQ.hq,iQ]
   refine ae r3 ?_
   have Bn:ql∉Fp:=fun q=>hI.nq (by simp[q])
   have hmF:rm∉Fp:=fun q=>hI.nm (by simp[q])
   have K6:=ie.le
   have ll:Zg kF r9 ql rm rt rp rd root x y Fp pt ol ⟨(s.p.use n).getD s.p,n::s.met,s.leaf⟩ true rootS view B :=
    ⟨me,(ie.ah ql hI.lq Bn).trans kQ.hq,(ie.ah rm hI.lm hmF).trans kQ.hm,by have:=hI.lq;omega,by have:=hI.lm;omega,bt,hI.nq,hI.nm⟩
   have hFE:Fr (ql::rm::rt::(bc x++(bc y++Fp))) hp nx (ql::rm::rt::(bc x++(bc y++Fp))) kF r9:=by
    refine ig.trans ⟨K6,fun r u1 u2=>ie.ah r u1 fun q=>u2 (by simp[q]),fun r hr=>.inl hr⟩
   cases hu:s.p.use n with
   |none =>
    have Wj:gk true s n=none:=by simp only[gk,if_neg mb,hu];rfl
    rw[Wj]
    rw[hu]at ll
    simp
    refine ap (f66 e _ _) ?_
    have e0:¬(e=0\/e=9):=by omega
    simp[e0]
    exact ⟨hFE,_,rm,x,y,Fp,view,ll,rfl⟩
   |some p' =>
    have Wj:gk true s n=some ⟨p',n::s.met,s.leaf⟩:=by simp only[gk,if_neg mb,hu];rfl
    rw[Wj]
    rw[hu]at ll
    simp
    refine ap (f66 0 _ _) ?_
    simp
    exact ⟨hFE,rm,x,y,Fp,view,ll,rfl⟩
end Go.Ai
namespace Go.Ai
open Go.Bt
theorem Zg.ah {hp nx ql rm rt rp rd root x y Fp pt ol s use rootS view B hp' nx'} (h:Zg hp nx ql rm rt rp rd root x y Fp pt ol s use rootS view B) (hn:nx<=nx') (hk:∀r∈ql::rm::rt::(bc x++(bc y++Fp)),hp' r=hp r):Zg hp' nx' ql rm rt rp rd root x y Fp pt ol s use rootS view B :=
 ⟨h.tr.ah hn fun r hr=>hk r (zu _ (zu _ hr)),by rw[hk ql (by simp)];exact h.hq,by rw[hk rm (by simp)];exact h.hm,zU h.lq hn,zU h.lm hn,h.ne,h.nq,h.nm⟩
theorem syL {ql rt rp rd root pt ol use rootS B} (hB:B<=1000000000):SyS (fun hp nx F (s:Bt.LK)=>pJ hp nx ql rt rp rd F root pt ol s use rootS B) rt (fun s=>s.p) where
 rd:=fun hp nx F s ⟨rm,x,y,Fp,view,h,_⟩=>⟨rp,rd,Fp,rootS,view,B,h.tr.LM hB⟩
 ah:=fun hp nx F s hp' nx' ⟨rm,x,y,Fp,view,h,e⟩ hn hk=>by
  subst e
  exact ⟨rm,x,y,Fp,view,h.ah hn hk,rfl⟩
 lt:=fun hp nx F s ⟨rm,x,y,Fp,view,h,e⟩ r hr=>by
  subst e
  rcases zH.1 hr with rfl|hr
  ·exact h.lq
  ·rcases zH.1 hr with rfl|hr
   ·exact h.lm
   ·exact h.tr.H8 r hr
theorem Vn {ql rt rp rd root pt ol use rootS B}:Dq (fun hp nx F (s:Bt.LK)=>pJ hp nx ql rt rp rd F root pt ol s use rootS B) (fun n s=>gk use s n) 119 [.ptr ql 0 0] [] (fun _ _=>True):=by
 intro f n s hp nx F _ hn h
 obtain ⟨hp',nx',e,r1,hF,m⟩:=f119 h n (by omega)
 refine ⟨hp',nx',F,e,r1,hF,?_⟩
 cases hm:gk use s n with
 |none=>rw[hm]at m;simp only[hm];exact m
 |some s'=>rw[hm]at m;simp only[hm];exact ⟨m.1,m.2,trivial⟩
theorem Fm (use:Bool) (size:Nat):∀(f n:Nat) (acc:Bs) (s:Bt.LK),pw use size f n acc s=(dF (fun s:Bt.LK=>s.p) (fun n s=>gk use s n) size f n acc s).map (·.2)
 |f,0,acc,s=>by
  have h1:dF (fun s:Bt.LK=>s.p) (fun n s=>gk use s n) size f 0 acc s=if acc.length=size then some (acc,s) else none:=by cases f<;>rfl
  have h2:pw use size f 0 acc s=if acc.length=size then some s else none:=by cases f<;>rfl
  rw[h1,h2];split<;>rfl
 |0,n+1,acc,s=>rfl
 |f+1,n+1,acc,s=>by
  simp only[dF,pw]
  cases gk use s (n+1) with
  |none=>rfl
  |some s' =>
   simp only
   cases s'.p.read (n+1) with
   |none=>rfl
   |some kb =>
    obtain ⟨k,b⟩:=kb
    simp only
    split
    ·rfl
    ·split
     ·rfl
     ·exact Fm use size f _ _ s'
end Go.Ai
namespace Go.Ai
open Go.Bt
theorem pJ.ah {hp nx ql rt rp rd F root pt ol use rootS B hp' nx'} {s:Bt.LK} (h:pJ hp nx ql rt rp rd F root pt ol s use rootS B) (hn:nx<=nx') (hk:∀r∈F,hp' r=hp r):pJ hp' nx' ql rt rp rd F root pt ol s use rootS B:=by
 obtain ⟨rm,x,y,Fp,view,h,rfl⟩:=h
 exact ⟨rm,x,y,Fp,view,h.ah hn hk,rfl⟩
theorem pJ.lt {hp nx ql rt rp rd F root pt ol use rootS B} {s:Bt.LK} (h:pJ hp nx ql rt rp rd F root pt ol s use rootS B) (hB:B<=1000000000):∀r∈F,r<nx:=(syL hB).lt _ _ _ _ h
theorem pJ.row {hp nx ql rt rp rd F root pt ol use rootS B} {s:Bt.LK} (h:pJ hp nx ql rt rp rd F root pt ol s use rootS B) (d:Nat):∃rm,hp ql=some [[.ptr rt 0 0,.v (.bool use),.mp rm,iV s.leaf]] /\
  pJ (ab hp ql (some [[.ptr rt 0 0,.v (.bool use),.mp rm,iV d]])) nx ql rt rp rd F root pt ol ⟨s.p,s.met,d⟩ use rootS B/\Fr F hp nx F (ab hp ql (some [[.ptr rt 0 0,.v (.bool use),.mp rm,iV d]])) nx:=by
 obtain ⟨rm,x,y,Fp,view,h,rfl⟩:=h
 refine ⟨rm,h.hq,⟨rm,x,y,Fp,view,⟨h.tr.ah (zD _) fun r hr=>by simp[show ¬r=ql from fun e=>h.nq (e▸hr)],by simp,by rw[show ∀b,ab hp ql b rm=hp rm from fun b=>by simp[show ¬rm=ql from fun e=>h.ne e.symm]];exact h.hm,h.lq,h.lm,h.ne,h.nq,h.nm⟩,rfl⟩,⟨zD _,fun r u1 u2 => ?_,fun r hr=>.inl hr⟩⟩
 simp only[zH,not_or]at u2
 simp[u2.1]
def HA:cC:=match c122.body with | .seq _ (.seq _ (.seq _ t))=>t|_=>.skip
theorem f122 {hp nx ql rt rp rd F root pt ol use rootS B} {s:Bt.LK} (h:pJ hp nx ql rt rp rd F root pt ol s use rootS B) (hB:B<=1000000000) {n:Nd} {nA:AV} (hn:iq n nA) (hr:ax n=true) (dg:n.leaf=true) (gd:dK 492 n) (d:Nat) :
  ∃hp' nx' F' e,aZ E 122 [.ptr ql 0 0,nA,iV d] hp nx (.v (.int .i64 e)) hp' nx' .e/\Fr F hp nx F' hp' nx'/\match (if s.leaf≠0/\s.leaf≠d then none else iz use n.items ⟨s.p,s.met,d⟩) with
   |some s'=>e=0/\pJ hp' nx' ql rt rp rd F' root pt ol s' use rootS B
   |none=>e=10:=by
 have main:=an (P:=fun v hp' nx'=>∃(F':List Nat) (e:Int),v=.v (.int .i64 e)/\Fr F hp nx F' hp' nx'/\match (if s.leaf≠0/\s.leaf≠d then none else iz use n.items ⟨s.p,s.met,d⟩) with
   |some s'=>e=0/\pJ hp' nx' ql rt rp rd F' root pt ol s' use rootS B
   |none=>e=10) e122 (args:=[.ptr ql 0 0,nA,iV d]) rfl (hp:=hp) (nx:=nx) ?_
 ·obtain ⟨v,hp',nx',h1,F',e,rfl,h2⟩:=main
  exact ⟨hp',nx',F',e,h1,h2⟩
 obtain ⟨k,i,dd,rfl,⟨k1,k2,k4,rfl,jf⟩,⟨i1,i2,i4,rfl,EF⟩,⟨d1,d2,d4,rfl,AE⟩⟩:=hn
 obtain ⟨g1,g2,g3⟩:=(aY.of hr).leaf dg
 have yD:=h.lt hB
 have ck:Ro hp nx (ab hp nx (some [[.v (.bool n.leaf),.rs k1 k2 (n.keys.map aN) k4,.rs i1 i2 (n.items.map bD.cells) i4,.rs d1 d2 (n.kids.map bC) d4]])) (nx+1):=cR
 obtain ⟨H1,fq⟩:∃H1,H1=ab hp nx (some [[AV.v (.bool n.leaf),.rs k1 k2 (n.keys.map aN) k4,.rs i1 i2 (n.items.map bD.cells) i4,.rs d1 d2 (n.kids.map bC) d4]]):=⟨_,rfl⟩
 have b0:H1 nx=some [[AV.v (.bool n.leaf),.rs k1 k2 (n.keys.map aN) k4,.rs i1 i2 (n.items.map bD.cells) i4,.rs d1 d2 (n.kids.map bC) d4]]:=by simp[fq]
 rw[<-fq]at ck
 have h1:=h.ah ck.le fun r hr=>ck.ah r (yD r hr)
 obtain ⟨rm,hq,h2,ig⟩:=h1.row d
 have ie:=(ck.fr F).trans ig
 have Bn:ql∈F:=by obtain ⟨_,_,_,_,_,_,rfl⟩:=h;simp
 have ne:¬nx=ql:=fun e=>by have:=yD ql Bn;omega
 by_cases c1:s.leaf≠0/\s.leaf≠d
 ·rw[if_pos c1]
  obtain ⟨c2,c3⟩:=c1
  have AJ:¬(s.leaf:Int)=0:=by omega
  have QT:¬(s.leaf:Int)=(d:Int):=by omega
  simp[c122,<-fq,hq,c2,c3,AJ,QT]
  exact ⟨F,ck.fr F⟩
 ·rw[if_neg c1]
  obtain ⟨TC,hT⟩:∃TC,TC=HA:=⟨_,rfl⟩
  have iW:=hT
  simp only[HA,c122]at iW
  simp only[c122]
  rw[<-iW]
  obtain ⟨H3,Le⟩:∃H3,H3=ab H1 ql (some [[.ptr rt 0 0,.v (.bool use),.mp rm,iV d]]):=⟨_,rfl⟩
  rw[<-Le]at h2 ie
  have b3:H3 nx=some [[AV.v (.bool n.leaf),.rs k1 k2 (n.keys.map aN) k4,.rs i1 i2 (n.items.map bD.cells) i4,.rs d1 d2 (n.kids.map bC) d4]]:=by simp[Le,ne,b0]
  have fin:∀tm':Nat->AV,tm' 0=.ptr ql 0 0->tm' 4=.ptr nx 0 0->W (aZ E) TC (rT [.t 6] fun v hp' nx'=>∃(F':List Nat) (e:Int),v=.v (.int .i64 e)/\Fr F hp nx F' hp' nx'/\match iz use n.items ⟨s.p,s.met,d⟩ with
    |some s'=>e=0/\pJ hp' nx' ql rt rp rd F' root pt ol s' use rootS B
    |none=>e=10) ⟨tm',H3,nx+1⟩:=by
   intro tm' u0 u4
   rw[hT]
   simp[HA,c122,u0,u4,b3]
   refine aL (I:=fun (g:Nat×Bt.LK×List Nat) st=>g.1<=n.items.length/\st.tm 31=iV g.1/\st.tm 29=.rs i1 i2 (n.items.map bD.cells) i4/\st.tm 30=iV n.items.length/\st.tm 0=.ptr ql 0 0/\pJ st.hp st.nx ql rt rp rd g.2.2 root pt ol g.2.1 use rootS B/\Fr F hp nx g.2.2 st.hp st.nx /\
    iz use n.items ⟨s.p,s.met,d⟩=iz use (n.items.drop g.1) g.2.1) (fun g=>n.items.length-g.1) (0,⟨s.p,s.met,d⟩,F) ?_ ?_
   ·exact ⟨by simp,by simp,by simp,by simp,by simp[u0],h2,ie,by simp⟩
   rintro ⟨i,s1,F1⟩ tm hp1 nx1 ⟨iR,t31,t29,t30,t0,hL,hF,lL⟩
   simp only at iR t31 t29 t30 t0 hL hF lL
   by_cases az:i<n.items.length
   ·have bn:(i:Int)<(n.items.length:Int):=by omega
    have yG:n.items[i]?=some n.items[i]:=zA az
    have bJ:=aS (n:=3) (k:=.i64) (cap:=i4) (j:=i) (cells:=(n.items[i]).cells) EF (by simp[yG])
    have CG:=g3 _ (zP az)
    have s9:n.items.drop i=n.items[i]::n.items.drop (i+1):=zN az
    have w1:IntKind.wrap .i64 ((i:Int)+1)=((i+1:Nat):Int):=by have:=gd.2.1;rw[aj]<;>omega
    rw[s9]at lL
    generalize n.items[i]=x at *
    have uH:=hL.lt hB
    have cU:Ro hp1 nx1 (ab hp1 nx1 (some [x.cells])) (nx1+1):=cR
    have LV:=hL.ah cU.le fun r hr=>cU.ah r (uH r hr)
    have ml:=hF.trans (cU.fr F1)
    obtain ⟨rm1,iE,_⟩:=hL.row 0
    have aeu:ql∈F1:=by obtain ⟨_,_,_,_,_,_,rfl⟩:=hL;simp
    have LN:¬ql=nx1:=by have:=uH ql aeu;omega
    rcases hU CG with ⟨a1,a2,a3⟩|⟨pg,size,a1,a2,a3,a4,a5,a6,a7⟩
    ·have Bk:x.cells=[.str x.v,iV 0,iV 0]:=by simp[bD.cells,a1,a2]
     rw[iz,if_pos a1]at lL
     rw[Bk]at bJ LV ml
     simp[t31,t29,t30,bn,bJ,aa,aG,w1,-ag,-Prod.exists]
     exact ⟨(i+1,s1,F1),by simp only;omega,by simp only;omega,rfl,t0,LV,ml,lL⟩
    ·have ou:¬x.p=0:=by omega
     have Bk:x.cells=[.str x.v,iV pg,iV size]:=by simp[bD.cells,a1,a2]
     have e1:x.s.toNat=size:=by omega
     have e2:x.p.toNat=pg:=by omega
     have hpI:¬pg=0:=by omega
     obtain ⟨v,rn,sC,F5,r5,fr,m⟩:=f70 (syL (ql:=ql) (rt:=rt) (rp:=rp) (rd:=rd) (root:=root) (pt:=pt) (ol:=ol) (use:=use) (rootS:=rootS) (B:=B) hB) Vn (x:=x) (size:=size) (pg:=pg) a2 a1 (by omega) (by omega) (by omega) trivial LV
     rw[iz,if_neg ou,e1,e2,Fm]at lL
     rw[Bk]at bJ r5 ml
     have By:=ml.trans (by rw[<-Bk];exact fr)
     simp[t31,t29,t30,t0,bn,bJ,aa,aG,w1,hpI,iE,LN,-ag,-Prod.exists]
     refine ae r5 ?_
     cases hc:dF (fun s:Bt.LK=>s.p) (fun n s=>gk use s n) size (size+1) pg [] s1 with
     |none =>
      rw[hc]at m lL
      obtain ⟨rfl,_⟩:=m
      simp
      rw[lL]
      exact ⟨⟨F5,By⟩,trivial⟩
     |some r =>
      rw[hc]at m lL
      obtain ⟨rfl,hL5⟩:=m
      simp[t31,w1,-Prod.exists]
      exact ⟨(i+1,r.2,F5),by simp only;omega,by simp only;omega,rfl,t29,t30,t0,hL5,By,lL⟩
   ·have rS:i=n.items.length:=by omega
    subst rS
    simp[t31,t30]
    rw[wt]at lL
    rw[lL]
    exact ⟨F1,hF,hL⟩
  by_cases c2:s.leaf=0
  ·simp[<-fq,hq,c2,aa,aG,<-Le]
   refine fin _ ?_ ?_<;>simp
  ·have c3:s.leaf=d:=by omega
   have AJ:¬(s.leaf:Int)=0:=by omega
   have QT:(s.leaf:Int)=(d:Int):=by omega
   have hd0:¬d=0:=by omega
   simp[<-fq,hq,hd0,c3,aa,aG,<-Le]
   refine fin _ ?_ ?_<;>simp
end Go.Ai
namespace Go.Ai
open Go.Bt
def AB (en:Bool) (hs:Bs):Option Bs:=if en=true then some hs else none
def vU (lo:Bs) (ks:List Bs):Nat->Bs
 |0=>lo
 |j+1=>ks.getD j []
theorem GM {w:Nat->Bs->Option Bs->Bt.LK->Option Bt.LK} {hi:Option Bs} {lo:Bs} {ks:List Bs} {cs:List Int} {i cc:Nat} (AF:cs.length=ks.length+1) (kG:i<cs.length) (hc:cs[i]=(cc:Int)) (s:Bt.LK) :
  kl w hi (vU lo ks i) (ks.drop i) (cs.drop i) s=match w cc (vU lo ks i) (if h:i<ks.length then some ks[i] else hi) s with
   |some s'=>kl w hi (vU lo ks (i+1)) (ks.drop (i+1)) (cs.drop (i+1)) s'
   |none=>none:=by
 rw[zN kG,hc]
 by_cases h:i<ks.length
 ·rw[zN h,dif_pos h]
  have e:vU lo ks (i+1)=ks[i]:=by simp only[vU,List.getD_eq_getElem?_getD,zA h,wJ]
  rw[e]
  simp only[kl,zl]
  generalize w cc (vU lo ks i) (some ks[i]) s=z
  cases z<;>rfl
 ·rw[dif_neg h,zr (by omega:ks.length<=i),zr (by omega:ks.length<=i+1),zr (by omega:cs.length<=i+1)]
  simp only[kl,zl]
  cases w cc (vU lo ks i) hi s<;>simp[kl]
def JD:cC:=match c80.body with | .seq _ (.seq _ (.seq _ (.seq _ (.seq _ (.seq _ (.seq _ (.seq _ t)))))))=>t|_=>.skip
theorem afi {hp nx ql rt rp rd F root pt ol use rootS B} {s:Bt.LK} (h:pJ hp nx ql rt rp rd F root pt ol s use rootS B) (hB:B<=1000000000) {n:Nd} {nA:AV} {q q7 f d:Nat} {lo hs:Bs} {en:Bool} {tm:Nat->AV} {P:AV->Heap->Nat->Prop}
  (ih:∀{hp nx F} {s:Bt.LK} (a:Nat) (lo hs:Bs) (en:Bool),a<=1000000000000->pJ hp nx ql rt rp rd F root pt ol s use rootS B->∃hp' nx' F' e,aZ E 80 [.ptr ql 0 0,iV a,iV (d+1:Nat),.agg [.str lo,.str hs,.v (.bool en)]] hp nx (iV e) hp' nx' .e/\Fr F hp nx F' hp' nx' /\
   match iw use f a (d+1) lo (AB en hs) s with|some s'=>e=0/\pJ hp' nx' ql rt rp rd F' root pt ol s' use rootS B|none=>e=10)
  (t0:tm 0=.ptr ql 0 0) (t2:tm 2=iV d) (hd:d<13) (t7:tm 7=.ptr q7 0 0) (t10:tm 10=.ptr q 0 0) (hn:iq n nA) (hq:hp q=some [nA.cells]) (Yd:hp q7=some [[.str lo,.str hs,.v (.bool en)]]) (RP:q<nx) (V5:q7<nx) (Bn:q∉F) (V6:q7∉F)
  (hr:ax n=true) (dg:n.leaf=false) (gd:dK 492 n)
  (hP:∀(e:Int) hp' nx' F',(match kl (fun c lo hi s=>iw use f c (d+1) lo hi s) (AB en hs) lo n.keys n.kids s with|some s'=>e=0/\pJ hp' nx' ql rt rp rd F' root pt ol s' use rootS B|none=>e=10)->Fr F hp nx F' hp' nx'->P (.v (.int .i64 e)) hp' nx') :
  W (aZ E) JD (rT [.t 8] P) ⟨tm,hp,nx⟩:=by
 obtain ⟨g1,g2,g3,g4⟩:=(aY.of hr).inner dg
 have lK:=gd.1
 simp only[JD,c80]
 obtain ⟨k,i,dd,rfl,⟨k1,k2,k4,rfl,jf⟩,⟨i1,i2,i4,rfl,EF⟩,⟨d1,d2,d4,rfl,AE⟩⟩:=hn
 simp only[AV.cells]at hq
 have wd:IntKind.wrap .i64 ((d:Int)+1)=((d+1:Nat):Int):=by rw[aj]<;>omega
 simp[t10,hq]
 refine aL (I:=fun (g:Nat×Bt.LK×List Nat) st=>g.1<=n.kids.length/\st.tm 72=iV g.1/\st.tm 70=.rs d1 d2 (n.kids.map bC) d4/\st.tm 71=iV n.kids.length/\st.tm 0=.ptr ql 0 0/\st.tm 2=iV d/\st.tm 7=.ptr q7 0 0/\st.tm 10=.ptr q 0 0 /\
   pJ st.hp st.nx ql rt rp rd g.2.2 root pt ol g.2.1 use rootS B/\Fr F hp nx g.2.2 st.hp st.nx/\kl (fun c lo hi s=>iw use f c (d+1) lo hi s) (AB en hs) lo n.keys n.kids s=kl (fun c lo hi s=>iw use f c (d+1) lo hi s) (AB en hs) (vU lo n.keys g.1) (n.keys.drop g.1) (n.kids.drop g.1) g.2.1) (fun g=>n.kids.length-g.1) (0,s,F) ?_ ?_
 ·exact ⟨by simp,by simp,by simp,by simp,by simp[t0],by simp[t2],by simp[t7],by simp[t10],h,.refl,by simp[vU]⟩
 rintro ⟨i,s1,F1⟩ tm hp1 nx1 ⟨iR,t72,t70,t71,t0,t2,t7,t10,hL,hF,eW⟩
 simp only at iR t72 t70 t71 t0 t2 t7 t10 hL hF eW
 have iE:hp1 q=_:=(hF.ah q RP Bn).trans hq
 have V7:hp1 q7=_:=(hF.ah q7 V5 V6).trans Yd
 have hle:=hF.le
 by_cases az:i<n.kids.length
 ·have bn:(i:Int)<(n.kids.length:Int):=by omega
  have tH:n.kids[i]?=some n.kids[i]:=zA az
  obtain ⟨cc,ec,ec2,ec3⟩:=fW (g4 _ (zP az))
  have bJ:=aS (n:=1) (k:=.i64) (cap:=d4) (j:=i) (cells:=[iV cc]) AE (by simp[tH,bC,ec])
  have w1:IntKind.wrap .i64 ((i:Int)+1)=((i+1:Nat):Int):=by rw[aj]<;>omega
  have oZ:=GM (w:=fun c lo hi s=>iw use f c (d+1) lo hi s) (hi:=AB en hs) (lo:=lo) g2 az ec s1
  rw[oZ]at eW
  have nq:¬q=nx1:=by omega
  have nq7:¬q7=nx1:=by omega
  have uH:=hL.lt hB
  have ck:∀b,Ro hp1 nx1 (ab hp1 nx1 b) (nx1+1):=fun b=>cR
  have LV:∀b,pJ (ab hp1 nx1 b) (nx1+1) ql rt rp rd F1 root pt ol s1 use rootS B:=fun b=>hL.ah (ck b).le fun r hr=>(ck b).ah r (uH r hr)
  have ig:∀b,Fr F hp nx F1 (ab hp1 nx1 b) (nx1+1):=fun b=>hF.trans ((ck b).fr F1)
  have gf:cc<=1000000000000:=by omega
  cases i with
  |zero =>
   have EE:n.keys[0]?=some n.keys[0]:=zA g1
   have nb:=aS (n:=1) (k:=.i64) (cap:=k4) (j:=0) (cells:=[.str n.keys[0]]) jf (by simp[EE,aN])
   change b9 1 _ (iV 0)=_ at nb bJ
   change tm 72=iV 0 at t72
   have EN:(0:Int)<(n.keys.length:Int):=by omega
   have bn:(0:Int)<(n.kids.length:Int):=by omega
   have w1:IntKind.wrap .i64 1=((0+1:Nat):Int):=by decide
   rw[dif_pos g1]at eW
   simp only[vU]at eW
   obtain ⟨rn,sC,F5,e,r5,gA,m5⟩:=ih cc lo n.keys[0] true gf (LV (some [[.str lo,.str n.keys[0],.v (.bool true)]]))
   simp only[AB,if_true]at m5
   simp[t72,t70,t71,t0,t2,t7,t10,bn,az,bJ,nb,EN,g1,iE,V7,nq,nq7,wd,aa,aG,-ag,-Prod.exists,-Int.natCast_add]
   refine ae (by simpa using r5) ?_
   cases hv:iw use f cc (d+1) lo (some n.keys[0]) s1 with
   |none =>
    rw[hv]at m5 eW
    simp only at m5
    subst m5
    simp
    exact hP _ _ _ F5 (by rw[eW]) ((ig _).trans gA)
   |some s5 =>
    rw[hv]at m5 eW
    obtain ⟨rfl,yL⟩:=m5
    simp[t72,t70,t71,t0,t2,t7,t10,w1,-ag,-Prod.exists,-Int.natCast_add]
    exact ⟨(0+1,s5,F5),by simp only;omega,by simp only;omega,rfl,yL,(ig _).trans gA,eW⟩
  |succ j =>
   have hj:j<n.keys.length:=by omega
   have QD:n.keys[j]?=some n.keys[j]:=zA hj
   have K8:=aS (n:=1) (k:=.i64) (cap:=k4) (j:=j) (cells:=[.str n.keys[j]]) jf (by simp[QD,aN])
   have w2:IntKind.wrap .i64 (((j+1:Nat):Int)-1)=(j:Int):=by rw[aj]<;>omega
   have lB:(0:Int)<((j+1:Nat):Int):=by omega
   have hla:vU lo n.keys (j+1)=n.keys[j]:=by simp only[vU,List.getD_eq_getElem?_getD,QD,wJ]
   rw[hla]at eW
   by_cases hb:j+1<n.keys.length
   ·have EN:((j+1:Nat):Int)<(n.keys.length:Int):=by omega
    have EE:n.keys[j+1]?=some n.keys[j+1]:=zA hb
    have nb:=aS (n:=1) (k:=.i64) (cap:=k4) (j:=j+1) (cells:=[.str n.keys[j+1]]) jf (by simp[EE,aN])
    rw[dif_pos hb]at eW
    obtain ⟨rn,sC,F5,e,r5,gA,m5⟩:=ih cc n.keys[j] n.keys[j+1] true gf (LV (some [[.str n.keys[j],.str n.keys[j+1],.v (.bool true)]]))
    simp only[AB,if_true]at m5
    simp[t72,t70,t71,t0,t2,t7,t10,bn,az,bJ,nb,K8,w2,EN,lB,iE,V7,nq,nq7,wd,aa,aG,-ag,-Prod.exists,-Int.natCast_add]
    refine ae (by simpa using r5) ?_
    cases hv:iw use f cc (d+1) n.keys[j] (some n.keys[j+1]) s1 with
    |none =>
     rw[hv]at m5 eW
     simp only at m5
     subst m5
     simp
     exact hP _ _ _ F5 (by rw[eW]) ((ig _).trans gA)
    |some s5 =>
     rw[hv]at m5 eW
     obtain ⟨rfl,yL⟩:=m5
     simp[t72,t70,t71,t0,t2,t7,t10,w1,-ag,-Prod.exists,-Int.natCast_add]
     exact ⟨(j+1+1,s5,F5),by simp only;omega,by simp only;omega,rfl,yL,(ig _).trans gA,eW⟩
   ·have EN:¬((j+1:Nat):Int)<(n.keys.length:Int):=by omega
    rw[dif_neg hb]at eW
    obtain ⟨rn,sC,F5,e,r5,gA,m5⟩:=ih cc n.keys[j] hs en gf (LV (some [[.str n.keys[j],.str hs,.v (.bool en)]]))
    simp[t72,t70,t71,t0,t2,t7,t10,bn,az,bJ,K8,w2,EN,lB,iE,V7,nq,nq7,wd,aa,aG,-ag,-Prod.exists,-Int.natCast_add]
    refine ae (by simpa using r5) ?_
    cases hv:iw use f cc (d+1) n.keys[j] (AB en hs) s1 with
    |none =>
     rw[hv]at m5 eW
     simp only at m5
     subst m5
     simp
     exact hP _ _ _ F5 (by rw[eW]) ((ig _).trans gA)
    |some s5 =>
     rw[hv]at m5 eW
     obtain ⟨rfl,yL⟩:=m5
     simp[t72,t70,t71,t0,t2,t7,t10,w1,-ag,-Prod.exists,-Int.natCast_add]
     exact ⟨(j+1+1,s5,F5),by simp only;omega,by simp only;omega,rfl,yL,(ig _).trans gA,eW⟩
 ·have rS:i=n.kids.length:=by omega
  subst rS
  simp[t72,t71]
  refine hP _ _ _ F1 ?_ hF
  rw[eW,zr (zD n.kids.length)]
  simp only[kl]
  exact ⟨trivial,hL⟩
end Go.Ai
namespace Go.Ai
open Go.Bt
theorem Ry (lo hs:Bs) (en:Bool) (k:Bs):(!al k lo&&(!en||al k hs))=xp lo (AB en hs) k:=by
 cases en<;>simp[xp,AB]
def yg (use:Bool) (f d:Nat) (lo:Bs) (hi:Option Bs) (n:Nd) (s:Bt.LK):Option Bt.LK :=
 if n.keys.all (xp lo hi)=false then none
 else if n.leaf=true then (if s.leaf≠0/\s.leaf≠d then none else iz use n.items ⟨s.p,s.met,d⟩)
 else kl (fun c lo hi s=>iw use f c (d+1) lo hi s) hi lo n.keys n.kids s
def JC:cC:=match c80.body with | .seq _ (.seq _ (.seq _ (.seq _ (.seq _ (.seq _ t)))))=>t|_=>.skip
theorem afh {hp nx ql rt rp rd F root pt ol use rootS B} {s:Bt.LK} (h:pJ hp nx ql rt rp rd F root pt ol s use rootS B) (hB:B<=1000000000) {n:Nd} {nA:AV} {q q7 f d:Nat} {lo hs:Bs} {en:Bool} {tm:Nat->AV} {P:AV->Heap->Nat->Prop}
  (ih:∀{hp nx F} {s:Bt.LK} (a:Nat) (lo hs:Bs) (en:Bool),a<=1000000000000->pJ hp nx ql rt rp rd F root pt ol s use rootS B->∃hp' nx' F' e,aZ E 80 [.ptr ql 0 0,iV a,iV (d+1:Nat),.agg [.str lo,.str hs,.v (.bool en)]] hp nx (iV e) hp' nx' .e/\Fr F hp nx F' hp' nx' /\
   match iw use f a (d+1) lo (AB en hs) s with|some s'=>e=0/\pJ hp' nx' ql rt rp rd F' root pt ol s' use rootS B|none=>e=10)
  (t0:tm 0=.ptr ql 0 0) (t2:tm 2=iV d) (hd:d<13) (t7:tm 7=.ptr q7 0 0) (t10:tm 10=.ptr q 0 0) (hn:iq n nA) (hq:hp q=some [nA.cells]) (Yd:hp q7=some [[.str lo,.str hs,.v (.bool en)]]) (RP:q<nx) (V5:q7<nx) (Bn:q∉F) (V6:q7∉F)
  (hr:ax n=true) (gd:dK 492 n)
  (hP:∀(e:Int) hp' nx' F',(match yg use f d lo (AB en hs) n s with|some s'=>e=0/\pJ hp' nx' ql rt rp rd F' root pt ol s' use rootS B|none=>e=10)->Fr F hp nx F' hp' nx'->P (.v (.int .i64 e)) hp' nx') :
  W (aZ E) JC (rT [.t 8] P) ⟨tm,hp,nx⟩:=by
 have lK:=gd.1
 have yB:=hn
 obtain ⟨TK,hTK⟩:∃T,T=JD:=⟨_,rfl⟩
 have NQ:=hTK
 simp only[JD,c80]at NQ
 simp only[JC,c80]
 rw[<-NQ]
 obtain ⟨k,i,dd,rfl,⟨k1,k2,k4,rfl,jf⟩,⟨i1,i2,i4,rfl,EF⟩,⟨d1,d2,d4,rfl,AE⟩⟩:=hn
 have hq0:=hq
 simp only[AV.cells]at hq
 simp[t10,hq]
 refine aL (I:=fun (g:Nat) st=>g<=n.keys.length/\st.tm 54=iV g/\st.tm 52=.rs k1 k2 (n.keys.map aN) k4/\st.tm 53=iV n.keys.length/\st.tm 0=.ptr ql 0 0/\st.tm 2=iV d/\st.tm 7=.ptr q7 0 0/\st.tm 10=.ptr q 0 0 /\
   st.hp=hp/\st.nx=nx/\(∀j (hj:j<g) (tJ:j<n.keys.length),xp lo (AB en hs) n.keys[j]=true)) (fun g=>n.keys.length-g) 0 ?_ ?_
 ·exact ⟨by simp,by simp,by simp,by simp,by simp[t0],by simp[t2],by simp[t7],by simp[t10],rfl,rfl,fun j hj=>by omega⟩
 rintro i tm hp1 nx1 ⟨iR,t54,t52,t53,t0,t2,t7,t10,e1,e2,iU⟩
 simp only at t54 t52 t53 t0 t2 t7 t10 e1 e2
 subst e1;subst e2
 by_cases az:i<n.keys.length
 ·have bn:(i:Int)<(n.keys.length:Int):=by omega
  have tH:n.keys[i]?=some n.keys[i]:=zA az
  have bJ:=aS (n:=1) (k:=.i64) (cap:=k4) (j:=i) (cells:=[.str n.keys[i]]) jf (by simp[tH,aN])
  have w1:IntKind.wrap .i64 ((i:Int)+1)=((i+1:Nat):Int):=by rw[aj]<;>omega
  have Uo:=fun hp nx=>f121 lo hs n.keys[i] en hp nx
  simp only[Ry]at Uo
  simp[t54,t52,t53,t0,t2,t7,t10,bn,bJ,Yd,-ag]
  refine ap (Uo _ _) ?_
  cases hb:xp lo (AB en hs) n.keys[i] with
  |true =>
   simp[t54,w1,-ag]
   refine ⟨i+1,by omega,by omega,by omega,t52,t53,t0,t2,t7,t10,fun j hj tJ => ?_⟩
   by_cases oA:j=i
   ·subst oA;exact hb
   ·exact iU j (by omega) tJ
  |false =>
   simp
   refine hP 10 _ _ F ?_ .refl
   have:n.keys.all (xp lo (AB en hs))=false:=by
    rw[Bool.eq_false_iff]
    intro e
    rw[zQ]at e
    rw[e _ (zP az)]at hb
    cases hb
   simp only[yg,this,if_true]
 ·have rS:i=n.keys.length:=by omega
  subst rS
  have T2:¬n.keys.all (xp lo (AB en hs))=false:=by
   rw[Bool.not_eq_false,zQ]
   intro x hx
   obtain ⟨j,hj,rfl⟩:=zY hx
   exact iU j hj hj
  simp[t54,t53,t10,hq]
  cases dg:n.leaf with
  |true =>
   obtain ⟨hp',nx',F',e,r,fr,m⟩:=f122 h hB yB hr dg gd d
   have EB:yg use f d lo (AB en hs) n s=if s.leaf≠0/\s.leaf≠d then none else iz use n.items ⟨s.p,s.met,d⟩:=by
    simp only[yg,if_neg T2,dg,if_true]
   rw[<-EB]at m
   rw[dg]at r
   simp[t0,t2,t10,hq,dg]
   refine ae r ?_
   simp
   exact hP e _ _ F' m fr
  |false =>
   simp
   rw[hTK]
   refine afi h hB ih (by simp[t0]) (by simp[t2]) hd (by simp[t7]) (by simp[t10]) yB hq0 Yd RP V5 Bn V6 hr dg gd fun e hp' nx' F' m fr=>hP e hp' nx' F' ?_ fr
   simp only[yg,if_neg T2,dg,zK,if_false]
   exact m
end Go.Ai
namespace Go.Ai
open Go.Bt
theorem MP (use:Bool) (f a d:Nat) (lo:Bs) (hi:Option Bs) (s:Bt.LK):iw use (f+1) a d lo hi s=match gk use s a with
  |some s=>(match fN s.p.read a with
   |some n=>if (1<d/\aw n<123)\/n.keys=[] then none else yg use f d lo hi n s
   |none=>none)
  |none=>none:=rfl
theorem f80 {ql rt rp rd root:Nat} {pt ol:List Nat} {use:Bool} {rootS:Bs} {B:Nat} (hB:B<=1000000000):∀(f d:Nat) {hp:Heap} {nx:Nat} {F:List Nat} {s:Bt.LK} (a:Nat) (lo hs:Bs) (en:Bool),d+f=13->1<=d->a<=1000000000000->pJ hp nx ql rt rp rd F root pt ol s use rootS B ->
  ∃hp' nx' F' e,aZ E 80 [.ptr ql 0 0,iV a,iV d,.agg [.str lo,.str hs,.v (.bool en)]] hp nx (iV e) hp' nx' .e/\Fr F hp nx F' hp' nx' /\
   match iw use f a d lo (AB en hs) s with|some s'=>e=0/\pJ hp' nx' ql rt rp rd F' root pt ol s' use rootS B|none=>e=10:=by
 intro f
 induction f with
 |zero =>
  intro d hp nx F s a lo hs en hd h1 ha h
  obtain rfl:d=13:=by omega
  have main:=an (P:=fun v hp' nx'=>∃(F':List Nat) (e:Int),v=iV e/\Fr F hp nx F' hp' nx'/\e=10) e80 (args:=[.ptr ql 0 0,iV a,iV 13,.agg [.str lo,.str hs,.v (.bool en)]]) rfl (hp:=hp) (nx:=nx) ?_
  ·obtain ⟨v,hp',nx',r,F',e,rfl,fr,m⟩:=main
   exact ⟨hp',nx',F',e,r,fr,m⟩
  simp[c80]
  exact ⟨F,(cR).fr F⟩
 |succ f ih =>
  intro d hp nx F s a lo hs en hd h1 ha h
  have main:=an (P:=fun v hp' nx'=>∃(F':List Nat) (e:Int),v=.v (.int .i64 e)/\Fr F hp nx F' hp' nx'/\match iw use (f+1) a d lo (AB en hs) s with|some s'=>e=0/\pJ hp' nx' ql rt rp rd F' root pt ol s' use rootS B|none=>e=10) e80 (args:=[.ptr ql 0 0,iV a,iV d,.agg [.str lo,.str hs,.v (.bool en)]]) rfl (hp:=hp) (nx:=nx) ?_
  ·obtain ⟨v,hp',nx',r,F',e,rfl,fr,m⟩:=main
   exact ⟨hp',nx',F',e,r,fr,m⟩
  obtain ⟨TL,hTL⟩:∃T,T=JC:=⟨_,rfl⟩
  have NP:=hTL
  simp only[JC,c80]at NP
  simp only[c80]
  rw[<-NP]
  have yD:=h.lt hB
  obtain ⟨H1,fq⟩:∃H1,H1=ab hp nx (some [[AV.str lo,.str hs,.v (.bool en)]]):=⟨_,rfl⟩
  have cU:Ro hp nx H1 (nx+1):=by rw[fq];exact cR
  have b7:H1 nx=some [[AV.str lo,.str hs,.v (.bool en)]]:=by simp[fq]
  have hL1:=h.ah cU.le fun r hr=>cU.ah r (yD r hr)
  have h7F:nx∉F:=fun e=>by have:=yD _ e;omega
  obtain ⟨aT,ar,e2,r2,ig,m2⟩:=f119 hL1 a ha
  have WS:=(cU.fr F).trans ig
  have Az:=ig.le
  have b7':aT nx=some [[AV.str lo,.str hs,.v (.bool en)]]:=(ig.ah nx (by omega) h7F).trans b7
  have QI:¬(12:Int)<(d:Int):=by omega
  have hdN:¬12<d:=by omega
  rw[MP]
  simp[<-fq,QI,hdN]
  refine ae r2 ?_
  cases hm:gk use s a with
  |none =>
   rw[hm]at m2
   obtain ⟨rfl,_⟩:=m2
   simp
   exact ⟨F,WS⟩
  |some s1 =>
   rw[hm]at m2
   obtain ⟨rfl,LV⟩:=m2
   obtain ⟨rm,hq,_⟩:=LV.row 0
   obtain ⟨Cb,mi,JV,kf,ef,B',lj⟩:=(syL (ql:=ql) (rt:=rt) (rp:=rp) (rd:=rd) (root:=root) (pt:=pt) (ol:=ol) (use:=use) (rootS:=rootS) (B:=B) hB).rd _ _ _ _ LV
   obtain ⟨v,kF,r9,r3,q3,DY⟩:=f36 lj a
   have K6:=DY.le
   simp[hq]
   refine ae r3 ?_
   have fI:=LV.lt hB
   unfold sa at q3
   cases hn:fN s1.p.read a with
   |none =>
    rw[hn]at q3
    subst q3
    simp[ez,aa,aG]
    exact ⟨F,WS.trans ((DY.trans cR).fr F)⟩
   |some nd =>
    rw[hn]at q3
    obtain ⟨y,hy,rfl⟩:=q3
    obtain ⟨n1,n2,n3,n4,n5⟩:=lj.pg.tz hn
    have gd:dK 492 nd:=⟨n3,n4,n5⟩
    have Du:=hy
    obtain ⟨b0,k1,k2,k3,k4,i1,i2,i3,i4,d1,d2,d3,d4,rfl⟩:=hy.shape
    have c120:=fun hp nx=>f120 nd _ Du (by omega) (by omega) (by omega) hp nx
    obtain ⟨H4,QM⟩:∃H4,H4=ab kF r9 (some [[AV.v (.bool b0),.rs k1 k2 k3 k4,.rs i1 i2 i3 i4,.rs d1 d2 d3 d4]]):=⟨_,rfl⟩
    have RN:Ro aT ar H4 (r9+1):=by rw[QM];exact DY.trans cR
    have Us:H4 r9=some [[AV.v (.bool b0),.rs k1 k2 k3 k4,.rs i1 i2 i3 i4,.rs d1 d2 d3 d4]]:=by simp[QM]
    have hL4:=LV.ah RN.le fun r hr=>RN.ah r (fI r hr)
    have ml:=WS.trans (RN.fr F)
    have b74:H4 nx=some [[AV.str lo,.str hs,.v (.bool en)]]:=(RN.ah nx (by omega)).trans b7'
    have lK:∃j,k3.length=j/\nd.keys.length=j:=by
     obtain ⟨_,_,_,e,hh,_⟩:=Du
     obtain ⟨_,_,_,rfl,_⟩:=hh
     cases e
     exact ⟨_,by simp,rfl⟩
    simp only
    have fin:∀tm':Nat->AV,tm' 0=.ptr ql 0 0->tm' 2=iV d->tm' 7=.ptr nx 0 0->tm' 10=.ptr r9 0 0->W (aZ E) TL (rT [.t 8] fun v hp' nx'=>∃(F':List Nat) (e:Int),v=.v (.int .i64 e)/\Fr F hp nx F' hp' nx'/\match yg use f d lo (AB en hs) nd s1 with|some s'=>e=0/\pJ hp' nx' ql rt rp rd F' root pt ol s' use rootS B|none=>e=10) ⟨tm',H4,r9+1⟩:=by
     intro tm' u0 u2 u7 u10
     rw[hTL]
     refine afh (f:=f) (q:=r9) (q7:=nx) hL4 hB (fun a lo hs en ha hL=>ih (d+1) a lo hs en (by omega) (by omega) ha hL) u0 u2 (by omega) u7 u10 Du Us b74 (by omega) (by omega) (fun e=>by have:=fI _ e;omega) h7F n1 gd fun e hp' nx' F' m fr => ?_
     exact ⟨F',e,rfl,ml.trans fr,m⟩
    obtain ⟨j,LR,Nz⟩:=lK
    have hkn:nd.keys=[]↔j=0:=by rw[<-Nz,zg]
    by_cases c1:1<d
    ·have BK:(1:Int)<(d:Int):=by omega
     by_cases c2:aw nd<123
     ·have AJ:(aw nd:Int)<123:=by omega
      rw[if_pos (.inl ⟨c1,c2⟩)]
      simp[aa,aG,c1,BK,<-QM,Us]
      refine ap (c120 _ _) ?_
      simp[c2,AJ]
      exact ⟨F,ml⟩
     ·have AJ:¬(aw nd:Int)<123:=by omega
      by_cases c3:j=0
      ·rw[if_pos (.inr (hkn.2 c3))]
       simp[aa,aG,c1,BK,<-QM,Us]
       refine ap (c120 _ _) ?_
       simp[c2,AJ,Us,LR,c3]
       exact ⟨F,ml⟩
      ·have QT:¬(j:Int)=0:=by omega
       rw[if_neg (by rw[hkn];omega)]
       simp[aa,aG,c1,BK,<-QM,Us]
       refine ap (c120 _ _) ?_
       simp[c2,AJ,Us,LR,c3,QT]
       exact fin _ (by simp) (by simp) (by simp) (by simp)
    ·have BK:¬(1:Int)<(d:Int):=by omega
     by_cases c3:j=0
     ·rw[if_pos (.inr (hkn.2 c3))]
      simp[aa,aG,c1,BK,<-QM,Us,LR,c3]
      exact ⟨F,ml⟩
     ·have QT:¬(j:Int)=0:=by omega
      rw[if_neg (by rw[hkn];omega)]
      simp[aa,aG,c1,BK,<-QM,Us,LR,c3,QT]
      exact fin _ (by simp) (by simp) (by simp) (by simp)
end Go.Ai
namespace Go.Ai
open Go.Bt
theorem f44 {hp nx rt rp rd F root t rootS B} (h:dD hp nx rt rp rd F root t rootS B) (hB:B<=1000000000) (use:Bool) (ck:root<=1000000000000) :
  ∃hp' nx' F' e,aZ E 44 [.ptr rt 0 0,.v (.bool use)] hp nx (iV e) hp' nx' .e/\Fr F hp nx F' hp' nx' /\
   match AM use t.p root with|some p'=>e=0/\dD hp' nx' rt rp rd F' root ⟨p',t.put,t.old⟩ rootS B|none=>e=10:=by
 have main:=an (P:=fun v hp' nx'=>∃(F':List Nat) (e:Int),v=.v (.int .i64 e)/\Fr F hp nx F' hp' nx'/\match AM use t.p root with|some p'=>e=0/\dD hp' nx' rt rp rd F' root ⟨p',t.put,t.old⟩ rootS B|none=>e=10) e44 (args:=[.ptr rt 0 0,.v (.bool use)]) rfl (hp:=hp) (nx:=nx) ?_
 ·obtain ⟨v,hp',nx',r,F',e,rfl,fr,m⟩:=main
  exact ⟨hp',nx',F',e,r,fr,m⟩
 have h0:=h
 obtain ⟨x,y,Fp,view,hI,rfl⟩:=h
 have iQ:=hI.iQ
 simp only[fe]at iQ
 have Wl:=hI.H8
 unfold AM
 by_cases Nm:root=0
 ·rw[if_pos Nm]
  subst Nm
  simp[c44,iQ]
  exact ⟨_,.refl,h0⟩
 ·have hrI:¬(root:Int)=0:=by omega
  rw[if_neg Nm]
  have bt:¬rt=nx:=by have:=hI.lt;omega
  have Nr:¬rt=nx+1:=by have:=hI.lt;omega
  obtain ⟨H2,oB⟩:∃H2,H2=ab (ab hp nx (some [])) (nx+1) (some [[AV.ptr rt 0 0,.v (.bool use),.mp nx,iV 0]]):=⟨_,rfl⟩
  have m9:∀r,r<nx->H2 r=hp r:=fun r hr=>by simp[oB,show ¬r=nx by omega,show ¬r=nx+1 by omega]
  have hL:pJ H2 (nx+2) (nx+1) rt rp rd ((nx+1)::nx::rt::(bc x++(bc y++Fp))) root t.put t.old ⟨t.p,[],0⟩ use rootS B :=
   ⟨nx,x,y,Fp,view,⟨hI.ah (by omega) fun r hr=>m9 r (Wl r hr),by simp[oB],by simp[oB],by omega,by omega,by omega,fun q=>by have:=Wl _ q;omega,fun q=>by have:=Wl _ q;omega⟩,rfl⟩
  obtain ⟨kF,r9,F3,e,r3,fr,m⟩:=f80 hB 12 1 root [] [] false (by omega) (by omega) ck hL
  simp only[AB,zK,if_false]at m
  have hc:(AV.mp nx).cells=[AV.mp nx]:=rfl
  simp[c44,iQ,Nm,hrI,bt,Nr,aa,hc,AV.one,<-oB,m9 rt hI.lt]
  refine ae (by simpa using r3) ?_
  simp
  have Ah:∀F',(∀r∈F',r∈F3)->Fr (rt::(bc x++(bc y++Fp))) hp nx F' kF r9:=fun F' hs=>by
   refine ⟨by have:=fr.le;omega,fun r u1 u2 => ?_,fun r hr => ?_⟩
   ·rw[fr.ah r (by omega) fun q => ?_,m9 r u1]
    rcases zH.1 q with q|q
    ·omega
    ·rcases zH.1 q with q|q
     ·omega
     ·exact u2 q
   ·rcases fr.sub r (hs r hr) with q|q
    ·rcases zH.1 q with q|q
     ·right;omega
     ·rcases zH.1 q with q|q
      ·right;omega
      ·exact .inl q
    ·right;omega
  cases hl:iw use 12 root 1 [] none ⟨t.p,[],0⟩ with
  |none =>
   rw[hl]at m
   simp only at m
   exact ⟨_,Ah F3 fun r hr=>hr,m⟩
  |some s' =>
   rw[hl]at m
   obtain ⟨rfl,rm,x',y',JV,ef,hI',rfl⟩:=m
   exact ⟨_,Ah _ fun r hr=>zu _ (zu _ hr),rfl,x',y',JV,ef,hI'.tr,rfl⟩
theorem f13 {hp nx rp rd F p rootS view B} (h:iS hp nx rp rd F p rootS view B) (ok:ea view p.gen rootS) (hB:B<=1000000000) (root:Nat) (ck:root<=1000000000000) :
  ∃v hp' nx' F',aZ E 13 [.ptr rp 0 0,iV root] hp nx v hp' nx' .e/\Fr F hp nx F' hp' nx' /\
   match AM true p root with|some p'=>v=.bE [.ptr nx 0 0,.v (.int .i64 0)]/\dD hp' nx' nx rp rd F' root ⟨p',[],[]⟩ rootS B|none=>v=.bE [.v (.pointer none),.v (.int .i64 10)]:=by
 obtain ⟨hp1,F1,r1,h1,DB⟩:=f15 h ok root
 obtain ⟨hp',nx',F',e,r,fr,m⟩:=f44 h1 hB true ck
 have main:=an (P:=fun v hp' nx'=>∃F',Fr F hp nx F' hp' nx'/\match AM true p root with|some p'=>v=.bE [.ptr nx 0 0,.v (.int .i64 0)]/\dD hp' nx' nx rp rd F' root ⟨p',[],[]⟩ rootS B|none=>v=.bE [.v (.pointer none),.v (.int .i64 10)]) e13 (args:=[.ptr rp 0 0,iV root]) rfl (hp:=hp) (nx:=nx) ?_
 ·obtain ⟨v,hp',nx',r,F',fr,m⟩:=main
  exact ⟨v,hp',nx',F',r,fr,m⟩
 simp[c13]
 refine ae r1 ?_
 simp
 refine ae (h1.f35 hB) ?_
 simp
 refine ae r ?_
 cases ha:AM true p root with
 |none =>
  rw[ha]at m
  simp only at m
  subst m
  simp
  exact ⟨_,DB.trans fr⟩
 |some p' =>
  rw[ha]at m
  obtain ⟨rfl,m⟩:=m
  simp
  exact ⟨_,DB.trans fr,m⟩
end Go.Ai
namespace Go.Ai
open Go.Bt
theorem mO {α:Type} (p:α->Bool) {l:List α} {j:Nat} (az:j<l.length):(l.take (j+1)).filter p=(l.take j).filter p++(if p l[j]=true then [l[j]] else []):=by
 rw[zz,zA az,wU]
 congr 1
 cases h:p l[j]<;>simp[h]
theorem cn (l:List (Bs×Bs)):bl (l.map ba)=true:=by
 induction l with
 |nil=>rfl
 |cons x r ih=>simp only[wI];simp[ba];exact ih
theorem f27 (l:List (Bs×Bs)) (x:AV) (hx:fa 2 (l.map ba) x) (hl:l.length<=1000000) (k:Bs) :
  ∃y,fa 2 ((bK k l).map ba) y/\∀hp nx,aZ E 27 [x,.str k] hp nx (.bE [y,.v (.int .i64 ((l.length-(bK k l).length:Nat):Int))]) hp nx .p:=by
 obtain ⟨nil,sz,cap,rfl,hz⟩:=id hx
 have main:=fH (P:=fun v=>∃y,fa 2 ((bK k l).map ba) y/\v=.bE [y,.v (.int .i64 ((l.length-(bK k l).length:Nat):Int))]) e27 (args:=[.rs nil sz (l.map ba) cap,.str k]) rfl (by simp[cn]) ?_
 ·obtain ⟨v,⟨y,h1,rfl⟩,h2⟩:=main
  exact ⟨y,h1,h2⟩
 simp[c27]
 refine aL (I:=fun (j:Nat) s=>j<=l.length/\s.tm 7=iV j/\s.tm 0=.rs nil sz (l.map ba) cap/\s.tm 1=.str k/\cP s.hp s.nx 2 ((bK k (l.take j)).map ba) (s.tm 6))
  (fun j=>l.length-j) 0 (by simp[bK];exact cP.nil) ?_
 rintro j tm hp nx ⟨hj,h7,h0,h1,hO⟩
 simp only at h7 h0 h1 hO
 by_cases az:j<l.length
 ·have bn:(j:Int)<(l.length:Int):=by omega
  have yG:l[j]?=some l[j]:=zA az
  have bJ:=aS (n:=2) (k:=.i64) (cap:=cap) (j:=j) (cells:=ba l[j]) hz (by rw[zO,yG];rfl)
  have hw:IntKind.wrap .i64 ((j:Int)+1)=((j+1:Nat):Int):=by rw[aj]<;>omega
  have bU:bK k (l.take (j+1))=bK k (l.take j)++(if l[j].1=k then [] else [l[j]]):=by
   have:=mO (fun p:Bs×Bs=>decide (p.1≠k)) az
   simp only[bK]
   rw[this]
   by_cases e:l[j].1=k<;>simp[e]
  have gd:(bK k (l.take j)).length<=1000000:=by
   have h1:(bK k (l.take j)).length<=(l.take j).length:=qH _ _
   rw[wD]at h1
   omega
  generalize bK k (l.take j)=out at *
  generalize l[j]=q at *
  obtain ⟨a,b⟩:=q
  simp only[ba]at bJ
  by_cases sM:a=k
  ·have Ep:bK k (l.take (j+1))=out:=by rw[bU];simp[sM]
   simp[h7,h0,h1,bn,bJ,sM,hw,-ag]
   refine ⟨j+1,by omega,by omega,by omega,?_⟩
   rw[Ep]
   exact hO
  ·have Ep:bK k (l.take (j+1))=out++[(a,b)]:=by rw[bU];simp[sM]
   simp[h7,h0,h1,bn,bJ,sM,hw,aa,-ag]
   refine kC hO (by simp) (by simp;omega) ?_
   intro aT hn hk
   simp[h7,h0,h1,hw]
   refine ⟨j+1,by omega,by omega,by omega,?_⟩
   rw[Ep]
   exact .inr ⟨nx,by omega,by simp,by rw[hn];simp[ba]⟩
 ·have:j=l.length:=by omega
  subst this
  simp only[zW]at hO
  simp[h7,h0]
  have gd:(bK k l).length<=l.length:=qH _ _
  have hlen:=hO.len
  simp only[zZ]at hlen
  have hw:IntKind.wrap .i64 ((l.length:Int)-((bK k l).length:Int))=((l.length-(bK k l).length:Nat):Int):=by rw[aj]<;>omega
  simp[hlen,hw]
  obtain ⟨Gz,z3,Hz,h3,h4⟩:=gh (k:=3) hO (cn _)
  exact ⟨_,rA (k:=4) (by simp[h3,aq]),_,⟨Gz,z3,Hz,rfl,h4⟩,rfl⟩
end Go.Ai
namespace Go.Ai
open Go.Bt
theorem KF (a b:Bs) (r:List (Bs×Bs)) (k:Bs):Bt.look ((a,b)::r) k=if a=k then some b else Bt.look r k:=by
 simp only[Bt.look,List.find?_cons]
 by_cases h:a=k<;>simp[h]
def Ef (x:Option Bs):AV:=.bE [.str (x.getD []),.v (.bool x.isSome)]
theorem f51 (l:List (Bs×Bs)) (x:AV) (hx:fa 2 (l.map ba) x) (hl:l.length<=1000000) (k:Bs) (hp nx) :
  aZ E 51 [x,.str k] hp nx (Ef (Bt.look l k)) hp nx .p:=by
 obtain ⟨nil,sz,cap,rfl,hz⟩:=id hx
 refine aF e51 rfl (by simp[cn]) ?_ hp nx
 simp[c51]
 refine aL (I:=fun (j:Nat) s=>j<=l.length/\s.tm 6=iV j/\s.tm 0=.rs nil sz (l.map ba) cap/\s.tm 1=.str k/\Bt.look l k=Bt.look (l.drop j) k)
  (fun j=>l.length-j) 0 (by simp) ?_
 rintro j tm hp nx ⟨hj,h7,h0,h1,hO⟩
 simp only at h7 h0 h1 hO
 by_cases az:j<l.length
 ·have bn:(j:Int)<(l.length:Int):=by omega
  have yG:l[j]?=some l[j]:=zA az
  have bJ:=aS (n:=2) (k:=.i64) (cap:=cap) (j:=j) (cells:=ba l[j]) hz (by rw[zO,yG];rfl)
  have hw:IntKind.wrap .i64 ((j:Int)+1)=((j+1:Nat):Int):=by rw[aj]<;>omega
  rw[zN az]at hO
  generalize l[j]=q at *
  obtain ⟨a,b⟩:=q
  rw[KF]at hO
  simp only[ba]at bJ
  by_cases sM:a=k
  ·rw[if_pos sM]at hO
   simp[h7,h0,h1,bn,bJ,sM,hw,-ag,hO,Ef]
   exact aq (by simp)
  ·rw[if_neg sM]at hO
   simp[h7,h0,h1,bn,bJ,sM,hw,-ag]
   exact ⟨j+1,by omega,by omega,by omega,hO⟩
 ·have:j=l.length:=by omega
  subst this
  have hN:Bt.look l k=none:=by rw[hO,wt];rfl
  simp[h7,h0,hN,Ef]
  exact aq (by simp)
theorem f33 (a b:List (Bs×Bs)) (x y:AV) (hx:fa 2 (a.map ba) x) (hy:fa 2 (b.map ba) y) (hl:a.length<=1000000) (Ag:b.length<=1000000) (hp nx) :
  aZ E 33 [x,y] hp nx (.v (.bool (decide (a=b)))) hp nx .p:=by
 obtain ⟨nil,sz,cap,rfl,hz⟩:=id hx
 obtain ⟨ad4,sz2,ab3,rfl,VH⟩:=id hy
 refine aF e33 rfl (by simp[cn]) ?_ hp nx
 by_cases hlen:a.length=b.length
 ·simp[c33,hlen]
  refine aL (I:=fun (j:Nat) s=>j<=a.length/\s.tm 5=iV j/\s.tm 0=.rs nil sz (a.map ba) cap/\s.tm 1=.rs ad4 sz2 (b.map ba) ab3/\(a=b↔a.drop j=b.drop j))
   (fun j=>a.length-j) 0 (by simp) ?_
  rintro j tm hp nx ⟨hj,h7,h0,h1,hO⟩
  simp only at h7 h0 h1 hO
  by_cases az:j<a.length
  ·have bn:(j:Int)<(a.length:Int):=by omega
   have fI:j<b.length:=by omega
   have yG:a[j]?=some a[j]:=zA az
   have aeQ:b[j]?=some b[j]:=zA fI
   have bJ:=aS (n:=2) (k:=.i64) (cap:=cap) (j:=j) (cells:=ba a[j]) hz (by rw[zO,yG];rfl)
   have nb:=aS (n:=2) (k:=.i64) (cap:=ab3) (j:=j) (cells:=ba b[j]) VH (by rw[zO,aeQ];rfl)
   have hw:IntKind.wrap .i64 ((j:Int)+1)=((j+1:Nat):Int):=by rw[aj]<;>omega
   rw[zN az,zN fI,List.cons.injEq]at hO
   generalize a[j]=q at *
   generalize b[j]=q2 at *
   obtain ⟨k1,v1⟩:=q
   obtain ⟨k2,v2⟩:=q2
   simp only[ba]at bJ nb
   rw[zPi]at hO
   by_cases hk:k1=k2
   ·by_cases hv:v1=v2
    ·simp[h7,h0,h1,bn,bJ,nb,hw,hk,hv,-ag]
     refine ⟨j+1,by omega,by omega,by omega,?_⟩
     rw[hO];simp[hk,hv]
    ·have:¬a=b:=by rw[hO];simp[hv]
     simp[h7,h0,h1,bn,bJ,nb,hw,hk,hv,-ag,this]
   ·have:¬a=b:=by rw[hO];simp[hk]
    simp[h7,h0,h1,bn,bJ,nb,hw,hk,-ag,this]
  ·have:j=a.length:=by omega
   subst this
   have:a=b:=by rw[hO];simp[hlen]
   simp[h7,h0,this]
 ·have hI:¬(a.length:Int)=(b.length:Int):=by omega
  have:¬a=b:=fun e=>hlen (by rw[e])
  simp[c33,hlen,hI,this]
end Go.Ai
namespace Go.Ai
open Go.Bt
theorem pi (a b:Bs):(al b a||decide (a=b)) = !al a b:=by
 have h1:=ji a b
 by_cases h:a=b
 ·subst h;simp[bj]
 ·cases h2:al a b<;>cases h3:al b a<;>simp_all
theorem nH (a b:Bs):(al b a||decide (b=a)) = !al a b:=by
 rw[<-pi]
 congr 1
 exact decide_eq_decide.2 ⟨Eq.symm,Eq.symm⟩
def jj (k v:Bs) (l:List (Bs×Bs)):List (Bs×Bs)×Nat:=if 60<k.length then (l,2) else if 60000<v.length then (l,4) else (gv k v l false,0)
theorem f84 (l:List (Bs×Bs)) (x:AV) (hx:fa 2 (l.map ba) x) (hl:l.length<=1000000) (k v:Bs) :
  ∃y,fa 2 ((jj k v l).1.map ba) y/\∀hp nx,aZ E 84 [x,.str k,.str v] hp nx (.bE [y,.v (.int .i64 ((jj k v l).2:Int))]) hp nx .p:=by
 have kE:=hx
 obtain ⟨nil,sz,cap,rfl,hz⟩:=id hx
 have main:=fH (P:=fun w=>∃y,fa 2 ((jj k v l).1.map ba) y/\w=.bE [y,.v (.int .i64 ((jj k v l).2:Int))]) e84 (args:=[.rs nil sz (l.map ba) cap,.str k,.str v]) rfl (by simp[cn]) ?_
 ·obtain ⟨v,⟨y,h1,rfl⟩,h2⟩:=main
  exact ⟨y,h1,h2⟩
 unfold jj
 by_cases c1:60<k.length
 ·have BK:(60:Int)<(k.length:Int):=by omega
  rw[if_pos c1]
  simp[c84,c1,BK]
  exact ⟨_,aq (by simp[cn]),_,kE,rfl⟩
 ·have BK:¬(60:Int)<(k.length:Int):=by omega
  rw[if_neg c1]
  by_cases c2:60000<v.length
  ·have AJ:(60000:Int)<(v.length:Int):=by omega
   rw[if_pos c2]
   simp[c84,c1,BK,c2,AJ]
   exact ⟨_,aq (by simp[cn]),_,kE,rfl⟩
  ·have AJ:¬(60000:Int)<(v.length:Int):=by omega
   rw[if_neg c2]
   simp[c84,c1,BK,c2,AJ]
   refine aL (I:=fun (g:Nat×Bool×List (Bs×Bs)) s=>g.1<=l.length/\s.tm 10=iV g.1/\s.tm 0=.rs nil sz (l.map ba) cap/\s.tm 1=.str k/\s.tm 2=.str v/\s.tm 9=.v (.bool g.2.1)/\cP s.hp s.nx 2 (g.2.2.map ba) (s.tm 8) /\
     gv k v l false=g.2.2++gv k v (l.drop g.1) g.2.1/\g.2.2.length<=2*g.1) (fun g=>l.length-g.1) (0,false,[]) (by simp;exact cP.nil) ?_
   rintro ⟨j,put,out⟩ tm hp nx ⟨hj,t10,t0,t1,t2,t9,hO,hR,TD⟩
   simp only at hj t10 t0 t1 t2 t9 hO hR TD
   by_cases az:j<l.length
   ·have bn:(j:Int)<(l.length:Int):=by omega
    have yG:l[j]?=some l[j]:=zA az
    have bJ:=aS (n:=2) (k:=.i64) (cap:=cap) (j:=j) (cells:=ba l[j]) hz (by rw[zO,yG];rfl)
    have hw:IntKind.wrap .i64 ((j:Int)+1)=((j+1:Nat):Int):=by rw[aj]<;>omega
    rw[zN az]at hR
    generalize l[j]=q at *
    obtain ⟨a,b⟩:=q
    simp only[ba]at bJ
    simp only[gv]at hR
    cases put with
    |true =>
     by_cases sM:a=k
     ·simp[sM]at hR
      simp[t10,t0,t1,t2,t9,bn,bJ,sM,hw,-ag,-Prod.exists,-Bool.exists_bool]
      exact ⟨(j+1,true,out),by simp only;omega,by simp only;omega,rfl,rfl,hO,hR,by simp only;omega⟩
     ·simp[sM]at hR
      simp[t10,t0,t1,t2,t9,bn,bJ,sM,hw,aa,-ag,-Prod.exists,-Bool.exists_bool]
      refine kC hO (by simp) (by simp;omega) ?_
      intro aT hn hk
      simp[t10,t0,t1,t2,t9,hw,-Prod.exists,-Bool.exists_bool]
      refine ⟨(j+1,true,out++[(a,b)]),by simp only;omega,by simp only;omega,rfl,rfl,.inr ⟨nx,by omega,by simp,by rw[hn];simp[ba]⟩,by rw[hR];simp,by simp;omega⟩
    |false =>
     cases NM:al a k with
     |true =>
      have sM:¬a=k:=mo NM
      simp[sM,NM]at hR
      simp[t10,t0,t1,t2,t9,bn,bJ,sM,NM,pi,nH,hw,aa,-ag,-Prod.exists,-Bool.exists_bool]
      refine kC hO (by simp) (by simp;omega) ?_
      intro aT hn hk
      simp[t10,t0,t1,t2,t9,hw,-Prod.exists,-Bool.exists_bool]
      refine ⟨(j+1,false,out++[(a,b)]),by simp only;omega,by simp only;omega,rfl,rfl,.inr ⟨nx,by omega,by simp,by rw[hn];simp[ba]⟩,by rw[hR];simp,by simp;omega⟩
     |false =>
      by_cases sM:a=k
      ·simp[sM,bj]at hR
       subst sM
       simp[t10,t0,t1,t2,t9,bn,bJ,bj,pi,nH,hw,aa,-ag,-Prod.exists,-Bool.exists_bool]
       refine kC hO (by simp) (by simp;omega) ?_
       intro aT hn hk
       simp[t10,t0,t1,t2,t9,bJ,hw,-ag,-Prod.exists,-Bool.exists_bool]
       refine ⟨(j+1,true,out++[(a,v)]),by simp only;omega,by simp only;omega,rfl,rfl,.inr ⟨nx,by omega,by simp,by rw[hn];simp[ba]⟩,by rw[hR];simp,by simp;omega⟩
      ·simp[sM,NM]at hR
       simp[t10,t0,t1,t2,t9,bn,bJ,sM,NM,pi,nH,hw,aa,-ag,-Prod.exists,-Bool.exists_bool]
       refine kC hO (by simp) (by simp;omega) ?_
       intro aT hn hk
       simp[t10,t0,t1,t2,t9,bJ,sM,hw,aa,-ag,-Prod.exists,-Bool.exists_bool]
       refine kC (nx:=nx+1) (es:=out.map ba++[[.str k,.str v]]) (.inr ⟨nx,by omega,by simp,hn⟩) (by simp) (by simp;omega) ?_
       intro kF Ye hk3
       simp[t10,t0,t1,t2,t9,hw,-Prod.exists,-Bool.exists_bool]
       refine ⟨(j+1,true,out++[(k,v),(a,b)]),by simp only;omega,by simp only;omega,rfl,rfl,.inr ⟨nx+1,by omega,by simp,by rw[Ye];simp[ba]⟩,by rw[hR];simp,by simp;omega⟩
   ·have:j=l.length:=by omega
    subst this
    rw[wt]at hR
    cases put with
    |true =>
     simp[gv]at hR
     subst hR
     simp[t10,t0,t1,t2,t9]
     obtain ⟨Gz,z3,Hz,h3,h4⟩:=gh (k:=3) hO (cn _)
     exact ⟨_,rA (k:=4) (by simp[h3,aq]),_,⟨Gz,z3,Hz,rfl,h4⟩,rfl⟩
    |false =>
     simp[gv]at hR
     simp[t10,t0,t1,t2,t9,aa]
     refine kC hO (by simp) (by simp;omega) ?_
     intro aT hn hk
     simp[t10,t0,t1,t2,t9]
     have hO2:cP aT (nx+1) 2 ((gv k v l false).map ba) (.sl nx 2 0 (out.length+1) none):=.inr ⟨nx,by omega,by rw[hR];simp,by rw[hn,hR];simp[ba]⟩
     obtain ⟨Gz,z3,Hz,h3,h4⟩:=gh (k:=3) hO2 (cn _)
     exact ⟨_,rA (k:=4) (by simp[h3,aq]),_,⟨Gz,z3,Hz,rfl,h4⟩,rfl⟩
end Go.Ai
namespace Go.Ai
open Go.Bt
def fu (lo hi:Bs) (aI:Int) (l:List (Bs×Bs)):List (Bs×Bs):=(l.filter fun p=>lu lo hi p.1).take (min aI 20000).toNat
theorem f52 (l:List (Bs×Bs)) (x:AV) (hx:fa 2 (l.map ba) x) (hl:l.length<=1000000) (lo hi:Bs) (aI:Int) :
  ∃y,fa 2 ((fu lo hi aI l).map ba) y/\∀hp nx,aZ E 52 [x,.str lo,.str hi,iV aI] hp nx y hp nx .p:=by
 obtain ⟨nil,sz,cap,rfl,hz⟩:=id hx
 refine fH e52 rfl (by simp[cn]) ?_
 simp[c52]
 refine aL (I:=fun (j:Nat) s=>j<=l.length/\s.tm 10=iV j/\s.tm 0=.rs nil sz (l.map ba) cap/\s.tm 1=.str lo/\s.tm 2=.str hi/\s.tm 3=iV aI/\cP s.hp s.nx 2 (((l.take j).filter fun p=>lu lo hi p.1).map ba) (s.tm 9) /\
   ((l.take j).filter fun p=>lu lo hi p.1).length<=(min aI 20000).toNat) (fun j=>l.length-j) 0 (by simp;exact cP.nil) ?_
 rintro j tm hp nx ⟨hj,im,h0,h1,h2,h3,hO,TD⟩
 simp only at im h0 h1 h2 h3 hO TD
 have hlen:=hO.len
 simp only[zZ]at hlen
 have fin:∀out,out=((l.take j).filter fun p=>lu lo hi p.1)->(j=l.length\/(min aI 20000).toNat<=out.length)->cP hp nx 2 (out.map ba) (tm 9)->∃v,j5 6 hp (tm 9)=some v/\fa 2 ((fu lo hi aI l).map ba) v:=by
  intro out ho hc hO
  have e:fu lo hi aI l=out:=by
   unfold fu
   rcases hc with rfl|hc
   ·rw[zW]at ho
    rw[<-ho]
    exact zI (by rw[ho];rw[zW]at TD;exact TD)
   ·have h1:=zy j l
    have h2:(l.filter fun p=>lu lo hi p.1)=out++((l.drop j).filter fun p=>lu lo hi p.1):=by rw[ho,<-wU,h1]
    rw[h2]
    have h3:out.length=(min aI 20000).toNat:=by rw[<-ho]at TD;omega
    rw[<-h3,qY]
  obtain ⟨Gz,z3,Hz,h3,h4⟩:=gh (k:=4) hO (cn _)
  exact ⟨_,h3,Gz,z3,Hz,by rw[e],by rw[e];exact h4⟩
 have bU:=fun az=>mO (fun p:Bs×Bs=>lu lo hi p.1) (l:=l) (j:=j) az
 generalize ho:((l.take j).filter fun p=>lu lo hi p.1)=out at *
 by_cases az:j<l.length
 ·have bn:(j:Int)<(l.length:Int):=by omega
  have yG:l[j]?=some l[j]:=zA az
  have bJ:=aS (n:=2) (k:=.i64) (cap:=cap) (j:=j) (cells:=ba l[j]) hz (by rw[zO,yG];rfl)
  have hw:IntKind.wrap .i64 ((j:Int)+1)=((j+1:Nat):Int):=by rw[aj]<;>omega
  have bU:=bU az
  generalize l[j]=q at *
  obtain ⟨a,b⟩:=q
  simp only[ba]at bJ
  simp only at bU
  by_cases c1:(out.length:Int)<aI
  ·by_cases c2:(out.length:Int)<20000
   ·have YR:out.length<20000:=by omega
    have uD:out.length+1<=(min aI 20000).toNat:=by omega
    cases c3:al a lo with
    |true =>
     have na:lu lo hi a=false:=by simp[lu,c3]
     rw[na]at bU
     simp at bU
     simp[im,h0,h1,h2,h3,hlen,bn,c1,c2,YR,bJ,c3,pi,nH,hw,-ag]
     refine ⟨j+1,by omega,by omega,by omega,?_,?_⟩
     ·rw[bU];exact hO
     ·rw[bU];exact TD
    |false =>
     by_cases c4:hi=[]
     ·subst c4
      have na:lu lo [] a=true:=by simp[lu,c3]
      rw[na]at bU
      simp at bU
      simp[im,h0,h1,h2,h3,hlen,bn,c1,c2,YR,bJ,c3,pi,nH,hw,aa,-ag]
      refine kC hO (by simp) (by simp;omega) ?_
      intro aT hn hk
      simp[im,h0,h1,h2,h3,hw]
      refine ⟨j+1,by omega,by omega,by omega,?_,?_⟩
      ·rw[bU];exact .inr ⟨nx,by omega,by simp,by rw[hn];simp[ba]⟩
      ·rw[bU];simp;omega
     ·cases c5:al a hi with
      |true =>
       have na:lu lo hi a=true:=by simp[lu,c3,c5]
       rw[na]at bU
       simp at bU
       simp[im,h0,h1,h2,h3,hlen,bn,c1,c2,YR,bJ,c3,c4,c5,pi,nH,hw,aa,-ag]
       refine kC hO (by simp) (by simp;omega) ?_
       intro aT hn hk
       simp[im,h0,h1,h2,h3,hw]
       refine ⟨j+1,by omega,by omega,by omega,?_,?_⟩
       ·rw[bU];exact .inr ⟨nx,by omega,by simp,by rw[hn];simp[ba]⟩
       ·rw[bU];simp;omega
      |false =>
       have na:lu lo hi a=false:=by simp[lu,c3,c4,c5]
       rw[na]at bU
       simp at bU
       simp[im,h0,h1,h2,h3,hlen,bn,c1,c2,YR,bJ,c3,c4,c5,pi,nH,hw,-ag]
       refine ⟨j+1,by omega,by omega,by omega,?_,?_⟩
       ·rw[bU];exact hO
       ·rw[bU];exact TD
   ·have YR:¬out.length<20000:=by omega
    simp[im,h0,h1,h2,h3,hlen,bn,c1,c2,YR]
    exact fin out rfl (.inr (by omega)) hO
  ·simp[im,h0,h1,h2,h3,hlen,bn,c1]
   exact fin out rfl (.inr (by omega)) hO
 ·have:j=l.length:=by omega
  simp[im,h0,h1,h2,h3,this]
  exact fin out rfl (.inl this) hO
end Go.Ai
namespace Go.Ai
open Go.Bt
structure Act where
 kind:Int
 k:Bs
 v:Bs
 n:Int
def gI (a:Act):List AV:=[iV a.kind,.str a.k,.str a.v,iV a.n]
def Act.value (a:Act):Bs:=a.v++(List.replicate (min a.n 300).toNat a.v).flatten
theorem vM (l:List Act):bl (l.map gI)=true:=by
 induction l with
 |nil=>rfl
 |cons x r ih=>simp only[wI];simp[gI];exact ih
theorem HU (j:Nat) (v:Bs):(List.replicate j v).flatten.length=j*v.length:=by
 simp
def td (a:Act):Prop:=a.v.length+(min a.n 300).toNat*a.v.length<=9223372036854775807
theorem f49 (a:Act) (hv:td a) (hp nx):aZ E 49 [.agg (gI a)] hp nx (.str a.value) hp nx .p:=by
 refine aF e49 rfl (by simp[gI]) ?_ hp nx
 simp[c49,gI]
 refine aL (I:=fun (j:Nat) s=>j<=(min a.n 300).toNat/\s.tm 4=iV j/\s.tm 3=.str (List.replicate j a.v).flatten/\s.tm 1=.ptr 0 0 0/\s.hp 0=some [gI a])
  (fun j=>(min a.n 300).toNat-j) 0 (by simp[gI]) ?_
 rintro j tm hp nx ⟨hj,t4,t3,t1,h0⟩
 simp only at t4 t3 t1 h0
 simp only[gI]at h0
 have Ez:min a.n 300=(if a.n<=300 then a.n else 300):=by omega
 by_cases az:j<(min a.n 300).toNat
 ·have bn:(j:Int)<min a.n 300:=by omega
  have Wm:(j:Int)<a.n/\(j:Int)<300:=by omega
  have hw:IntKind.wrap .i64 ((j:Int)+1)=((j+1:Nat):Int):=by rw[aj]<;>omega
  have hl:=HU j a.v
  have Ag:(List.replicate j a.v).flatten.length+a.v.length<=9223372036854775807:=by
   rw[hl]
   have:(j+1)*a.v.length<=(min a.n 300).toNat*a.v.length:=zX _ (by omega)
   rw[ze,Nat.one_mul]at this
   unfold td at hv
   omega
  have RO:(List.replicate (j+1) a.v).flatten=(List.replicate j a.v).flatten++a.v:=by
   rw[List.replicate_succ'];simp
  generalize (List.replicate j a.v).flatten=s at *
  simp[t4,t3,t1,h0,bn,Wm,Ag,hw]
  exact ⟨j+1,by omega,by omega,by omega,RO.symm,rfl⟩
 ·have Yg:j=(min a.n 300).toNat:=by omega
  have bn:¬(j:Int)<min a.n 300:=by omega
  have Wm:¬((j:Int)<a.n/\(j:Int)<300):=by omega
  have hl:=HU j a.v
  have Ag:a.v.length+(List.replicate j a.v).flatten.length<=9223372036854775807:=by
   rw[hl,Yg]
   exact hv
  have Nf:a.value=a.v++(List.replicate j a.v).flatten:=by rw[Act.value,Yg]
  generalize (List.replicate j a.v).flatten=s at *
  simp[t4,t3,t1,h0,bn,Wm,Ag,Nf]
theorem UH {a:Act} (h1:a.v.length<=9223372036854775807) (h2:a.v.length<100000\/a.n<=0):td a:=by
 unfold td
 rcases h2 with h2|h2
 ·have:(min a.n 300).toNat*a.v.length<=300*100000:=qu (by omega) (by omega)
  omega
 ·rw[show (min a.n 300).toNat=0 by omega]
  omega
theorem f22 (l:List Act) (x:AV) (hx:fa 4 (l.map gI) x) (hs:∀a∈l,a.v.length<=9223372036854775807) :
  ∃b:Bool,(b=true->l.length<=100/\∀a∈l,td a)/\∀hp nx,aZ E 22 [x] hp nx (.v (.bool b)) hp nx .p:=by
 obtain ⟨nil,sz,cap,rfl,hz⟩:=id hx
 have main:=fH (P:=fun w=>∃b:Bool,w=.v (.bool b)/\(b=true->l.length<=100/\∀a∈l,td a)) e22 (args:=[.rs nil sz (l.map gI) cap]) rfl (by simp[vM]) ?_
 ·obtain ⟨v,⟨b,rfl,h1⟩,h2⟩:=main
  exact ⟨b,h1,h2⟩
 by_cases c2:l.length<=100
 ·have AJ:(l.length:Int)<=100:=by omega
  simp[c22]
  refine aL (I:=fun (g:Nat×Nat) s=>g.1<=l.length/\l.length<=g.2/\g.2<=1000+g.1*40000000/\s.tm 4=iV g.1/\s.tm 3=iV g.2/\s.tm 0=.rs nil sz (l.map gI) cap /\
    ∀i (hi:i<g.1) (iR:i<l.length),200000<g.2\/l[i].v.length<100000\/l[i].n<=0) (fun g=>l.length-g.1) (0,l.length) (by simp;omega) ?_
  rintro ⟨j,n⟩ tm hp nx ⟨hj,Ey,hn,t4,t3,t0,hal⟩
  simp only at hj Ey hn t4 t3 t0 hal
  by_cases az:j<l.length
  ·have bn:(j:Int)<(l.length:Int):=by omega
   have yG:l[j]?=some l[j]:=zA az
   have bJ:=aS (n:=4) (k:=.i64) (cap:=cap) (j:=j) (cells:=gI l[j]) hz (by rw[zO,yG];rfl)
   have hw:IntKind.wrap .i64 ((j:Int)+1)=((j+1:Nat):Int):=by rw[aj]<;>omega
   have cS:∀n',n<=n'->(200000<n'\/l[j].v.length<100000\/l[j].n<=0)->∀i (hi:i<j+1) (iR:i<l.length),200000<n'\/l[i].v.length<100000\/l[i].n<=0:=fun n' h1 h2 i hi iR=>by
    by_cases yF:i=j
    ·subst yF;exact h2
    ·exact (hal i (by omega) iR).imp (by omega) id
   generalize l[j]=a at *
   simp only[gI]at bJ
   have c1:j<=100:=by omega
   have BK:(j:Int)<=100:=by omega
   obtain ⟨e,he,R5⟩:∃e:Nat,(e:Int)=1+max 0 (min a.n 300)/\e<=301:=⟨(1+max 0 (min a.n 300)).toNat,by omega,by omega⟩
   have w1:IntKind.wrap .i64 (1+max 0 (min a.n 300))=(e:Int):=by rw[aj]<;>omega
   have hm:min a.v.length 100000*e<=30100000:=qu (Nat.min_le_right _ _) R5
   have aba:200000<=min a.v.length 100000*e\/a.v.length<100000\/a.n<=0:=by
    by_cases d1:a.v.length<100000
    ·exact .inr (.inl d1)
    ·by_cases d2:a.n<=0
     ·exact .inr (.inr d2)
     ·left
      have:100000*2<=min a.v.length 100000*e:=qu (by omega) (by omega)
      omega
   have w2:IntKind.wrap .i64 (min (a.v.length:Int) 100000*(e:Int))=((min a.v.length 100000*e:Nat):Int):=by
    have hc:((min a.v.length 100000*e:Nat):Int)=min (a.v.length:Int) 100000*(e:Int):=by rw[Int.natCast_mul];congr 1;omega
    rw[<-hc,aj]<;>omega
   have w3:IntKind.wrap .i64 ((n:Int)+min (a.k.length:Int) 10000)=((n+min a.k.length 10000:Nat):Int):=by rw[aj]<;>omega
   generalize hq:min a.v.length 100000*e=q at *
   have w4:IntKind.wrap .i64 (((n+min a.k.length 10000:Nat):Int)+(q:Int))=((n+min a.k.length 10000+q:Nat):Int):=by rw[aj]<;>omega
   have mF:=cS (n+min a.k.length 10000+q) (by omega) (aba.imp (by omega) id)
   simp[t4,t3,t0,bn,bJ,c1,BK,w1,w2,w3,w4,hw,-ag,-Prod.exists,-Int.natCast_add]
   exact ⟨(j+1,n+min a.k.length 10000+q),by simp only;omega,by simp only;omega,by simp only;omega,by simp only;omega,rfl,rfl,mF⟩
  ·have:j=l.length:=by omega
   subst this
   by_cases c3:n<=200000
   ·have QT:(n:Int)<=200000:=by omega
    have iU:∀a∈l,td a:=fun a ha=>by
     obtain ⟨i,hi,rfl⟩:=zY ha
     exact UH (hs _ ha) ((hal i hi hi).resolve_left (by omega))
    simp[t4,t3,t0,c2,AJ,c3,QT]
    exact iU
   ·have QT:¬(n:Int)<=200000:=by omega
    simp[t4,t3,t0,c2,AJ,c3,QT]
 ·have AJ:¬(l.length:Int)<=100:=by omega
  simp[c22]
  refine aL (I:=fun (j:Nat) s=>j<=101/\s.tm 4=iV j/\(∃z:Int,s.tm 3=iV z)/\s.tm 0=.rs nil sz (l.map gI) cap) (fun j=>101-j) 0 (by simp) ?_
  rintro j tm hp nx ⟨hj,t4,⟨z,t3⟩,t0⟩
  simp only at hj t4 t3 t0
  have az:j<l.length\/j=101:=by omega
  by_cases c1:j<=100
  ·have az:j<l.length:=by omega
   have bn:(j:Int)<(l.length:Int):=by omega
   have BK:(j:Int)<=100:=by omega
   have yG:l[j]?=some l[j]:=zA az
   have bJ:=aS (n:=4) (k:=.i64) (cap:=cap) (j:=j) (cells:=gI l[j]) hz (by rw[zO,yG];rfl)
   have hw:IntKind.wrap .i64 ((j:Int)+1)=((j+1:Nat):Int):=by rw[aj]<;>omega
   generalize l[j]=a at *
   simp only[gI]at bJ
   simp[t4,t3,t0,bn,bJ,c1,BK,hw,-ag,-Int.natCast_add]
   exact ⟨j+1,by omega,by omega,rfl⟩
  ·have BK:¬(j:Int)<=100:=by omega
   by_cases az:j<l.length
   ·have bn:(j:Int)<(l.length:Int):=by omega
    simp[t4,t3,t0,bn,c1,BK,c2,AJ]
   ·have bn:¬(j:Int)<(l.length:Int):=by omega
    simp[t4,t3,t0,bn,c1,BK,c2,AJ]
end Go.Ai
namespace Go.Ai
open Go.Bt
theorem afk {hp:Heap} {nx q4 q5 q6 q7 fP q12:Nat} {aI:Int} (hm:aI<0) (h7:hp q7=some [[iV aI]]) (vC:hp fP=some [[nS]]) (root:Nat) :
  ∃hp' nx',aZ E 39 [iV root,iV 0,.ptr fP 0 0,.ptr q7 0 0,.ptr q4 0 0,.ptr q5 0 0,.ptr q6 0 0,.ptr q12 0 0] hp nx (iV 0) hp' nx' .e/\Ro hp nx hp' nx':=by
 have main:=an (P:=fun v hp' nx'=>v=iV 0/\Ro hp nx hp' nx') e39 (args:=[iV root,iV 0,.ptr fP 0 0,.ptr q7 0 0,.ptr q4 0 0,.ptr q5 0 0,.ptr q6 0 0,.ptr q12 0 0]) rfl (hp:=hp) (nx:=nx) ?_
 ·obtain ⟨v,hp',nx',h1,rfl,h2⟩:=main
  exact ⟨hp',nx',h1,h2⟩
 by_cases ha:root=0
 ·subst ha
  simp[c39]
  exact .refl
 ·have Ha:¬(root:Int)=0:=by omega
  have Dx:aI<=0:=by omega
  simp[c39,ha,Ha,vC,h7,Dx]
  exact .refl
theorem afo {hp nx rt rp rd F p rootS view B} (h:FF hp nx rt rp rd F p rootS view B) {root:Nat} (hr:BO hp rt rp root) (lo hi:Bs) {aI:Int} (hm:aI<0) :
  ∃hp' nx',aZ E 11 [.ptr rt 0 0,.str lo,.str hi,iV aI] hp nx (.bE [nS,iV 0]) hp' nx' .e/\Ro hp nx hp' nx':=by
 have main:=an (P:=fun v hp' nx'=>v=.bE [nS,iV 0]/\Ro hp nx hp' nx') e11 (args:=[.ptr rt 0 0,.str lo,.str hi,iV aI]) rfl (hp:=hp) (nx:=nx) ?_
 ·obtain ⟨v,hp',nx',h1,rfl,h2⟩:=main
  exact ⟨hp',nx',h1,h2⟩
 have Ez:min aI 20000=aI:=by omega
 have Ng:=h.lt
 obtain ⟨H1,fq⟩:∃H1,H1=ab (ab (ab (ab hp nx (some [[.ptr rt 0 0]])) (nx+1) (some [[.str lo]])) (nx+1+1) (some [[.str hi]])) (nx+1+1+1) (some [[iV aI]]):=⟨_,rfl⟩
 have cU:Ro hp nx H1 (nx+1+1+1+1):=⟨by omega,fun r hr=>by simp[fq,show ¬r=nx by omega,show ¬r=nx+1 by omega,show ¬r=nx+1+1 by omega,show ¬r=nx+1+1+1 by omega]⟩
 have a4:H1 nx=some [[.ptr rt 0 0]]:=by simp[fq,show ¬nx=nx+1+1 by omega,show ¬nx=nx+1+1+1 by omega]
 have a7:H1 (nx+1+1+1)=some [[iV aI]]:=by simp[fq]
 obtain ⟨cc,hc⟩:=hr.row
 obtain ⟨H2,oB⟩:∃H2,H2=ab (ab (ab H1 (nx+1+1+1) (some [[iV aI]])) (nx+1+1+1+1) (some [[nS]])) (nx+1+1+1+1+1) (some [[.fn (.func 39) [] [.ptr (nx+1+1+1+1) 0 0,.ptr (nx+1+1+1) 0 0,.ptr nx 0 0,.ptr (nx+1) 0 0,.ptr (nx+1+1) 0 0,.ptr (nx+1+1+1+1+1) 0 0]]]):=⟨_,rfl⟩
 have iD:Ro hp nx H2 (nx+1+1+1+1+1+1):=⟨by omega,fun r hr=>by simp[oB,show ¬r=nx+1+1+1 by omega,show ¬r=nx+1+1+1+1 by omega,show ¬r=nx+1+1+1+1+1 by omega];exact cU.ah r hr⟩
 have b4:H2 nx=some [[.ptr rt 0 0]]:=by simp[oB,show ¬nx=nx+1+1+1 by omega,show ¬nx=nx+1+1+1+1 by omega,show ¬nx=nx+1+1+1+1+1 by omega,a4]
 have b7:H2 (nx+1+1+1)=some [[iV aI]]:=by simp[oB,show ¬nx+1+1+1=nx+1+1+1+1+1 by omega]
 have b11:H2 (nx+1+1+1+1)=some [[nS]]:=by simp[oB]
 have b12:H2 (nx+1+1+1+1+1)=some [[.fn (.func 39) [] [.ptr (nx+1+1+1+1) 0 0,.ptr (nx+1+1+1) 0 0,.ptr nx 0 0,.ptr (nx+1) 0 0,.ptr (nx+1+1) 0 0,.ptr (nx+1+1+1+1+1) 0 0]]]:=by simp[oB]
 obtain ⟨rn,sC,r5,Qm⟩:=afk (q4:=nx) (q5:=nx+1) (q6:=nx+1+1) (q12:=nx+1+1+1+1+1) hm b7 b11 root (nx:=nx+1+1+1+1+1+1)
 have afx:rn (nx+1+1+1+1)=some [[nS]]:=(Qm.ah _ (by omega)).trans b11
 simp[c11,<-fq,a4]
 refine ae (f35 (h.ro cU)) ?_
 have c2:H2 rt=some [.ptr rp 0 0::iV root::cc]:=(iD.ah rt Ng).trans hc
 have c1:H1 rt=some [.ptr rp 0 0::iV root::cc]:=(cU.ah rt Ng).trans hc
 simp[a7,a4,Ez,aa,aG,show ¬nx=nx+1+1+1 by omega,show ¬nx=nx+1+1+1+1 by omega,show ¬nx=nx+1+1+1+1+1 by omega,c1,show ¬rt=nx+1+1+1 by omega,show ¬rt=nx+1+1+1+1 by omega,show ¬rt=nx+1+1+1+1+1 by omega,<-oB]
 simp[b12,b4,c2]
 refine ae (by simpa using r5) ?_
 simp[afx]
 exact iD.trans Qm
end Go.Ai
namespace Go.Ai
open Go.Bt
theorem xO (k v:Bs):∀(l:List (Bs×Bs)) (put:Bool),(gv k v l put).length<=l.length+(if put=true then 0 else 1)
 |[],put=>by cases put<;>simp[gv]
 |p::r,put=>by
  have h1:=xO k v r (put || !al p.1 k)
  simp only[gv,zG,zV]
  generalize al p.1 k=b at h1 ⊢
  by_cases he:p.1=k<;>cases put<;>cases b<;>simp[he]at h1 ⊢<;>omega
theorem Gp (k v:Bs) (l:List (Bs×Bs)):(jj k v l).1.length<=l.length+1:=by
 unfold jj
 split
 ·simp
 ·split
  ·simp
  ·simpa using xO k v l false
theorem Ki (k v:Bs) (l:List (Bs×Bs)):(jj k v l).2≠6:=by
 unfold jj
 split
 ·simp
 ·split<;>simp
theorem A1 (k:Bs) (l:List (Bs×Bs)):(bK k l).length<=l.length:=qH _ _
theorem Ch {p:PM} {root l ep di} (h:Inv p root l ep di) (key value:Bs) :
  ∃e p' root',uu key value p root=(e,p',root')/\Step p p' /\
   ((e=6/\root'=root/\p'.free=p.free/\Inv p' root l ep di/\p.free+1<=Cj value+2*eO p.read 12 1 root+3)\/(e=(jj key value l).2/\Inv p' root' (jj key value l).1 ep di)):=by
 unfold uu jj
 by_cases c1:60<key.length
 ·rw[if_pos c1,if_pos c1]
  exact ⟨2,p,root,rfl,.refl p,.inr ⟨rfl,h⟩⟩
 ·rw[if_neg c1,if_neg c1]
  by_cases c2:60000<value.length
  ·rw[if_pos c2,if_pos c2]
   exact ⟨4,p,root,rfl,.refl p,.inr ⟨rfl,h⟩⟩
  ·rw[if_neg c2,if_neg c2]
   obtain ⟨d,ps,hr,ho⟩:=h.Uk
   have hd:=kW hr ho h.len
   have aeW:=Lr (Mo p) (by omega) hr
   rw[aeW]
   rcases E6 (Rd (key:=key) (value:=value) (by omega) (by omega)) (by omega) (by have:=h.len;omega) hr ho (fun e=>e.elim) with ⟨p',r,d',dk,e1,e2,e3,e4⟩|⟨p',e1,e2,e3,e4,e5⟩
   ·refine ⟨0,p',r,e1,e4,.inr ⟨rfl,e4.inv h ⟨d',dk,?_,e3⟩⟩⟩
    rw[xM hr.up]
    exact e2
   ·refine ⟨6,p',root,e1,e2,.inl ⟨rfl,rfl,Sh e2.len e3,e2.inv h ⟨d,ps,by rw[e4];exact hr,ho.1,fun m => ?_⟩,e5⟩⟩
    rw[ho.2 m,has_eq e2.len,e3]
def pp (e n:Nat):List Bs->List (Bs×Bs)->Nat->List (Bs×Bs)×Nat
 |[],l,m=>(l,m)
 |k::r,l,m=>if e=6/\m=n/\0<l.length-(bK k l).length then (l,m) else pp e n r (bK k l) (m+(l.length-(bK k l).length))
theorem BC (e n:Nat):∀(ks:List Bs) (l:List (Bs×Bs)) (m:Nat),(pp e n ks l m).1.length<=l.length
 |[],l,m=>zD _
 |k::r,l,m=>by
  unfold pp
  split
  ·exact zD _
  ·exact wH (BC e n r _ _) (A1 k l)
theorem Oj {p:PM} {root l ep di} (h:Inv p root l ep di) {k:Bs} (hk:(Bt.look l k).isSome=true) :
  (∃p' root',jg (sS k) k root p=(0,p',root')/\Step p p'/\Inv p' root' (bK k l) ep di)\/(∃p',jg (sS k) k root p=(6,p',root)/\Step p p'/\Inv p' root l ep di):=by
 obtain ⟨d,ps,hr,ho⟩:=h.Uk
 have hd:=kW hr ho h.len
 rcases E6 (Sv (key:=k)) (by omega) (by have:=h.len;omega) hr ho (fun _=>Ec.1 hk) with ⟨p',r,d',dk,e1,e2,e3,e4⟩|⟨p',e1,e2,e3,e4,e5⟩
 ·refine .inl ⟨p',r,e1,e4,e4.inv h ⟨d',dk,?_,e3⟩⟩
  rw[sv hr.up]
  exact e2
 ·refine .inr ⟨p',e1,e2,e2.inv h ⟨d,ps,by rw[e4];exact hr,ho.1,fun m => ?_⟩⟩
  rw[ho.2 m,has_eq e2.len,e3]
theorem II {p:PM} {root l ep di} (h:Inv p root l ep di) (k:Bs):iG p.read k 12 root=some (Bt.look l k):=by
 obtain ⟨d,ps,hr,ho⟩:=h.Uk
 have hd:=kW hr ho h.len
 exact Sf (Mo p) (by omega) hr
theorem ur {p:PM} {root l ep di} (h:Inv p root l ep di) (lo hi:Bs) (aI:Nat):bG p.read lo hi aI 12 root []=some ((l.filter fun p=>lu lo hi p.1).take aI):=by
 obtain ⟨d,ps,hr,ho⟩:=h.Uk
 have hd:=kW hr ho h.len
 exact Kk (Mo p) (by omega) hr
theorem Q9 {p:PM} {root l ep di} (h:Inv p root l ep di):root<300:=by
 obtain ⟨d,ps,hr,ho⟩:=h.Uk
 cases d with
 |zero=>obtain ⟨rfl,_⟩:=hr;omega
 |succ d =>
  obtain ⟨n,dk,h1,h2,h3,h4,h5,h6,rfl⟩:=hr
  have:=(xv ((ho.2 root).1 (by simp)).1).2
  have:=h.len
  omega
theorem CY {ep di}:∀(keys:List Bs) (many:Nat) {p:PM} {root l},Inv p root l ep di ->
  ∃n e p' root' l',dh keys many p root=(n,e,p',root')/\(e=0\/e=6)/\many<=n/\Step p p'/\Inv p' root' l' ep di/\pp e n keys l many=(l',n)
 |[],many,p,root,l,h=>⟨many,0,p,root,l,rfl,.inl rfl,zD _,.refl p,h,rfl⟩
 |k::r,many,p,root,l,h=>by
  have hg:=II h k
  cases hk:Bt.look l k with
  |none =>
   rw[hk]at hg
   have hd:=D0 hk
   obtain ⟨n,e,p',root',l',h1,h2,h3,h4,h5,h6⟩:=CY r many h
   refine ⟨n,e,p',root',l',by rw[dh,hg];exact h1,h2,h3,h4,h5,?_⟩
   rw[pp,hd,if_neg (by omega)]
   simpa using h6
  |some v =>
   rw[hk]at hg
   obtain ⟨d,ps,hr,ho⟩:=h.Uk
   have hl:=xP hr.up (show (Bt.look l k).isSome=true by rw[hk];rfl)
   rcases Oj h (show (Bt.look l k).isSome=true by rw[hk];rfl) with ⟨p1,afJ,e1,e2,e3⟩|⟨p1,e1,e2,e3⟩
   ·obtain ⟨n,e,p',root',l',h1,h2,h3,h4,h5,h6⟩:=CY r (many+1) e3
    refine ⟨n,e,p',root',l',by rw[dh,hg];simp only[e1];exact h1,h2,by omega,e2.trans h4,h5,?_⟩
    rw[pp,if_neg (by omega),show many+(l.length-(bK k l).length)=many+1 by omega]
    exact h6
   ·refine ⟨many,6,p1,root,l,by rw[dh,hg];simp only[e1],.inr rfl,zD _,e2,e3,?_⟩
    rw[pp,if_pos ⟨rfl,rfl,by omega⟩]
theorem MD {p:PM} {view:Nat->Bs} {N gen:Nat} (hN:N=p.st.length):fV N gen view=p.rV gen (fun m=>(mu (view m)).map fun x=>(x.1,x.2.2)):=by
 subst hN
 have e:p.st.map (fun _=>((0,0):Nat×Nat))=List.replicate p.st.length (0,0):=List.eq_replicate_iff.2 ⟨zZ _,fun b hb=>by obtain ⟨a,_,rfl⟩:=wk.1 hb;rfl⟩
 simp only[fV,PM.rV,e]
end Go.Ai
namespace Go.Ai
open Go.Bt
theorem ea.first:ea (fS 5) 1 []:=by
 obtain ⟨a,b⟩:=xU (gen:=1) (s:=[]) (by omega) (by omega) (by simp)
 obtain ⟨c,d⟩:=Gw
 have v1:fS 5 1=eg 1 []:=rfl
 have v0:fS 5 0=aW 512:=rfl
 refine ⟨by omega,by omega,?_,?_,⟨?_,?_⟩⟩
 ·rw[show 1 % 2=1 from rfl,v1];exact a
 ·rw[show 1 % 2=1 from rfl,v1,b];omega
 ·rw[show (1+1) % 2=0 from rfl,v0,d];omega
 ·intro g s h;rw[show (1+1) % 2=0 from rfl,v0,c]at h;cases h
theorem ea.cg {view gen root s} (h:ea view gen root) (hs:s.length<=490) (hg:gen+1<=1000000000000):ea (fun m=>if m=(gen+1) % 2 then eg (gen+1) s else view m) (gen+1) s:=by
 obtain ⟨a,b⟩:=xU (gen:=gen+1) (s:=s) (by omega) (by omega) hs
 have e2:(gen+1+1) % 2=gen % 2:=by omega
 have ne:¬gen % 2=(gen+1) % 2:=by omega
 refine ⟨by omega,hg,?_,?_,⟨?_,?_⟩⟩
 ·simp only[if_true];exact a
 ·simp only[if_true];rw[b];omega
 ·rw[e2];simp only[if_neg ne];exact h.lt
 ·intro g s' K9
  rw[e2]at K9
  simp only[if_neg ne]at K9
  rw[h.at',zOi,zPi]at K9
  omega
theorem f47 (hp:Heap) (nx N:Nat) (h1:4<=N) (h2:N<=4096) :
  ∃hp' nx' rd rp F,aZ E 47 [iV N] hp nx (.bE [.ptr rd 0 0,.ptr rp 0 0]) hp' nx' .e/\iS hp' nx' rp rd F (fV N 1 (fS 5)) [] (fS 5) 5/\Fr [] hp nx F hp' nx':=by
 obtain ⟨hp1,nx1,rd,F1,r1,d1,DB⟩:=f82 hp nx N (by omega) h2
 obtain ⟨aT,ar,F2,r2,d2,CT⟩:=f83 d1 h1
 obtain ⟨kF,r9,rp,F3,r3,d3,LZ⟩:=f31 d2 h1 ea.first (by omega)
 have main:=an (P:=fun v hp' nx'=>v=.bE [.ptr rd 0 0,.ptr rp 0 0]/\iS hp' nx' rp rd F3 (fV N 1 (fS 5)) [] (fS 5) 5/\Fr [] hp nx F3 hp' nx') e47 (args:=[iV N]) rfl (hp:=hp) (nx:=nx) ?_
 ·obtain ⟨v,hp',nx',r,rfl,a,b⟩:=main
  exact ⟨hp',nx',rd,rp,F3,r,a,b⟩
 simp[c47]
 refine ae r1 ?_
 simp
 refine ap (f14 0 _ _) ?_
 simp
 refine ae r2 ?_
 simp
 refine ap (f14 0 _ _) ?_
 simp
 refine ae r3 ?_
 simp
 refine ap (f14 0 _ _) ?_
 simp
 exact ⟨d3,(DB.trans CT).trans LZ⟩
def ft (rd rp rt:Nat) (lA:AV) (root:Nat) (wA:AV) (bad:Bool):bN:=[[.ptr rd 0 0,.ptr rp 0 0,.ptr rt 0 0,lA,iV root,wA,.v (.bool bad)]]
structure vN (hp:Heap) (nx wr rd rp rt:Nat) (lA wA:AV) (F:List Nat) (p:PM) (root:Nat) (l:List (Bs×Bs)) (aM:Nat) (di:List (Bs×Bs)) (bad:Bool) (rootS:Bs) (B:Nat):Prop where
 tr:∃t,dD hp nx rt rp rd F root t rootS B/\t.p=p
 row:hp wr=some (ft rd rp rt lA aM wA bad)
 hl:fa 2 (l.map ba) lA
 hw:fa 2 (di.map ba) wA
 lt:wr<nx
 nF:wr∉F
def sX (hp:Heap) (nx wr rd rp:Nat) (G:List Nat) (p:PM) (root:Nat) (l:List (Bs×Bs)) (aM:Nat) (di:List (Bs×Bs)) (bad:Bool) (B:Nat):Prop :=
 ∃rt lA wA F rootS,vN hp nx wr rd rp rt lA wA F p root l aM di bad rootS B/\G=wr::F
theorem vN.ah {hp nx wr rd rp rt lA wA F p root l aM di bad rootS B hp' nx'} (h:vN hp nx wr rd rp rt lA wA F p root l aM di bad rootS B) (hn:nx<=nx') (hk:∀r∈wr::F,hp' r=hp r):vN hp' nx' wr rd rp rt lA wA F p root l aM di bad rootS B:=by
 obtain ⟨t,ht,he⟩:=h.tr
 exact ⟨⟨t,ht.ah hn fun r hr=>hk r (zu _ hr),he⟩,by rw[hk wr (by simp)];exact h.row,h.hl,h.hw,zU h.lt hn,h.nF⟩
theorem vN.H8 {hp nx wr rd rp rt lA wA F p root l aM di bad rootS B} (h:vN hp nx wr rd rp rt lA wA F p root l aM di bad rootS B):∀r∈wr::F,r<nx:=by
 obtain ⟨t,ht,he⟩:=h.tr
 intro r hr
 rcases zH.1 hr with rfl|hr
 ·exact h.lt
 ·exact ht.lt r hr
theorem vN.ro {hp nx wr rd rp rt lA wA F p root l aM di bad rootS B hp' nx'} (h:vN hp nx wr rd rp rt lA wA F p root l aM di bad rootS B) (k:Ro hp nx hp' nx'):vN hp' nx' wr rd rp rt lA wA F p root l aM di bad rootS B :=
 h.ah k.le fun r hr=>k.ah r (h.H8 r hr)
theorem sX.ah {hp nx wr rd rp G p root l aM di bad B hp' nx'} (h:sX hp nx wr rd rp G p root l aM di bad B) (hn:nx<=nx') (hk:∀r∈G,hp' r=hp r):sX hp' nx' wr rd rp G p root l aM di bad B:=by
 obtain ⟨rt,lA,wA,F,rootS,h,rfl⟩:=h
 exact ⟨rt,lA,wA,F,rootS,h.ah hn hk,rfl⟩
theorem sX.lt {hp nx wr rd rp G p root l aM di bad B} (h:sX hp nx wr rd rp G p root l aM di bad B):∀r∈G,r<nx:=by
 obtain ⟨rt,lA,wA,F,rootS,h,rfl⟩:=h
 exact h.H8
theorem sX.ro {hp nx wr rd rp G p root l aM di bad B hp' nx'} (h:sX hp nx wr rd rp G p root l aM di bad B) (k:Ro hp nx hp' nx'):sX hp' nx' wr rd rp G p root l aM di bad B:=h.ah k.le fun r hr=>k.ah r (h.lt r hr)
theorem vN.tree {hp nx wr rd rp rt lA wA F p root l aM di bad rootS B hp' nx' F' root' t' kf B'} (h:vN hp nx wr rd rp rt lA wA F p root l aM di bad rootS B) (ht:dD hp' nx' rt rp rd F' root' t' kf B') (hF:Fr F hp nx F' hp' nx') :
  vN hp' nx' wr rd rp rt lA wA F' t'.p root' l aM di bad kf B'/\Fr (wr::F) hp nx (wr::F') hp' nx':=by
 refine ⟨⟨⟨t',ht,rfl⟩,(hF.ah wr h.lt h.nF).trans h.row,h.hl,h.hw,zU h.lt hF.le,fun e => ?_⟩,⟨hF.le,fun r u1 u2=>hF.ah r u1 fun e=>u2 (zu _ e),fun r hr => ?_⟩⟩
 ·rcases hF.sub wr e with q|q
  ·exact h.nF q
  ·have:=h.lt;omega
 ·rcases zH.1 hr with rfl|hr
  ·exact .inl (by simp)
  ·exact (hF.sub r hr).imp (zu _) id
theorem vN.write {hp nx wr rd rp rt lA wA F p root l aM di bad rootS B} (h:vN hp nx wr rd rp rt lA wA F p root l aM di bad rootS B) {l' DE:List (Bs×Bs)} {Rs wA':AV} {rootC':Nat} {bad':Bool} (hl:fa 2 (l'.map ba) Rs) (hw:fa 2 (DE.map ba) wA') :
  vN (ab hp wr (some (ft rd rp rt Rs rootC' wA' bad'))) nx wr rd rp rt Rs wA' F p root l' rootC' DE bad' rootS B/\Fr (wr::F) hp nx (wr::F) (ab hp wr (some (ft rd rp rt Rs rootC' wA' bad'))) nx:=by
 obtain ⟨t,ht,he⟩:=h.tr
 refine ⟨⟨⟨t,ht.ah (zD _) fun r hr=>by simp[show ¬r=wr from fun e=>h.nF (e▸hr)],he⟩,by simp,hl,hw,h.lt,h.nF⟩,⟨zD _,fun r u1 u2 => ?_,fun r hr=>.inl hr⟩⟩
 simp only[zH,not_or]at u2
 simp[u2.1]
theorem vN.pg {hp nx wr rd rp rt lA wA F p root l aM di bad rootS B} (h:vN hp nx wr rd rp rt lA wA F p root l aM di bad rootS B):∃Fp view,iS hp nx rp rd Fp p rootS view B/\ea view p.gen rootS/\(∀r∈Fp,r∈F):=by
 obtain ⟨t,⟨x,y,Fp,view,hI,rfl⟩,rfl⟩:=h.tr
 exact ⟨Fp,view,hI.pg,hI.ok,fun r hr=>by simp[hr]⟩
theorem D8 (N:Nat) (hN:N<=300):Inv (fV N 1 (fS 5)) 0 [] 0 []:=by
 have QE:∀m,(fV N 1 (fS 5)).is m=0:=fun m=>by
  simp only[PM.is,fV,List.getD_eq_getElem?_getD,wP]
  split<;>rfl
 refine ⟨by simpa [fV] using hN,⟨0,[],⟨rfl,rfl,rfl⟩,.nil,fun m => ?_⟩,⟨0,[],⟨rfl,rfl,rfl⟩,.nil,fun m => ?_⟩,fun m=>by rw[QE];omega,fun _ m=>by rw[QE];omega,by simp[fV]⟩
 ·rw[QE];simp
 ·rw[QE];simp
theorem f21 (hp:Heap) (nx N:Nat) (h1:4<=N) (h2:N<=300) :
  ∃hp' nx' wr rd rp G,aZ E 21 [iV N] hp nx (.ptr wr 0 0) hp' nx' .e/\sX hp' nx' wr rd rp G (fV N 1 (fS 5)) 0 [] 0 [] false 5/\Fr [] hp nx G hp' nx':=by
 obtain ⟨hp1,nx1,rd,rp,F1,r1,d1,DB⟩:=f47 hp nx N h1 (by omega)
 obtain ⟨aT,F2,r2,d2,CT⟩:=f15 d1 ea.first 0
 have az:=d2.lt
 have nF:nx1+1∉F2:=fun e=>by have:=az _ e;omega
 have fr:=DB.trans CT
 have ck:Ro aT (nx1+1) (ab aT (nx1+1) (some (ft rd rp nx1 nS 0 nS false))) (nx1+1+1):=cR
 have main:=an (P:=fun v hp' nx'=>v=.ptr (nx1+1) 0 0/\hp'=ab aT (nx1+1) (some (ft rd rp nx1 nS 0 nS false))/\nx'=nx1+1+1) e21 (args:=[iV N]) rfl (hp:=hp) (nx:=nx) ?_
 ·obtain ⟨v,hp',nx',r,rfl,rfl,rfl⟩:=main
  have cG:fa 2 (([]:List (Bs×Bs)).map ba) nS:=⟨true,0,some 0,rfl,by simp⟩
  refine ⟨_,_,nx1+1,rd,rp,_,r,⟨nx1,_,_,F2,[],⟨⟨_,d2.ro ck,rfl⟩,by simp,cG,cG,by omega,nF⟩,rfl⟩,⟨by have:=fr.le;omega,fun r u1 u2 => ?_,fun r hr=>.inr ?_⟩⟩
  ·rw[ck.ah r (by have:=fr.le;omega)]
   exact fr.ah r u1 (by simp)
  ·have:=fr.le
   rcases zH.1 hr with rfl|hr
   ·omega
   ·rcases fr.sub r hr with q|q
    ·simp at q
    ·exact q
 simp[c21]
 refine ae r1 ?_
 simp
 refine ae r2 ?_
 simp[aa,ft]
end Go.Ai
namespace Go.Ai
open Go.Bt
theorem f48 {hp nx wr rd rp G p root l aM di B} (h:sX hp nx wr rd rp G p root l aM di false B) (hi:Inv p root l aM di) (hll:l.length<=1000000) (hB:B<=400000000) (k v:Bs) :
  ∃hp' nx' G' p' root' l',aZ E 48 [.ptr wr 0 0,.str k,.str v] hp nx (.bE []) hp' nx' .e/\sX hp' nx' wr rd rp G' p' root' l' aM di false (B+64000)/\Inv p' root' l' aM di/\Step p p'/\l'.length<=l.length+1/\Fr G hp nx G' hp' nx':=by
 have main:=an (P:=fun w hp' nx'=>w=.bE []/\∃G' p' root' l',sX hp' nx' wr rd rp G' p' root' l' aM di false (B+64000)/\Inv p' root' l' aM di/\Step p p'/\l'.length<=l.length+1/\Fr G hp nx G' hp' nx') e48 (args:=[.ptr wr 0 0,.str k,.str v]) rfl (hp:=hp) (nx:=nx) ?_
 ·obtain ⟨w,hp',nx',r,rfl,G',p',root',l',h1⟩:=main
  exact ⟨hp',nx',G',p',root',l',r,h1⟩
 obtain ⟨rt,lA,wA,F,rootS,hI,rfl⟩:=h
 have row:=hI.row
 simp only[ft]at row
 obtain ⟨Fp,view,Aw,vt,_⟩:=hI.pg
 obtain ⟨hp1,nx1,r1,ZE⟩:=f25 Aw
 have sN:=hI.ro ZE
 have DB:=ZE.fr (wr::F)
 obtain ⟨t,ht,htp⟩:=sN.tr
 have r2:=f18 ht
 have th:=sN.row
 simp only[ft]at th
 obtain ⟨aT,ar,F2,t2,r3,yo,CD,CT⟩:=f16 ht (key:=k) (value:=v) (by have:=hi.len;rw[htp];omega) hB
 rw[htp]at r3 yo CD
 obtain ⟨kQ,afg⟩:=sN.tree yo CT
 have N1:=DB.trans afg
 obtain ⟨e,p',root',he,bU,lO⟩:=Ch hi k v
 rw[he]at r3 kQ CD
 simp only at r3 kQ CD
 rw[CD]at kQ
 have kV:=kQ.row
 simp only[ft]at kV
 simp[c48,row]
 refine ae r1 ?_
 simp[th]
 refine ae r2 ?_
 simp[th,row]
 refine ae r3 ?_
 simp
 refine ap (f14 _ _ _) ?_
 rcases lO with ⟨rfl,rfl,aa6,hinv,_⟩|⟨rfl,hinv⟩
 ·obtain ⟨Fp2,afH,aev,_,_⟩:=kQ.pg
  obtain ⟨kF,r9,r4,DY⟩:=f25 aev
  have ll:=kQ.ro DY
  have nv:=ll.row
  simp only[ft]at nv
  obtain ⟨t3,ht3,_⟩:=ll.tr
  have r5:=f18 ht3
  obtain ⟨tM,rB⟩:=ll.write ll.hl ll.hw (rootC':=aM) (bad':=false)
  simp only[ft]at tM rB
  simp[kV]
  refine ae r4 ?_
  simp[nv,aa6]
  refine ae r5 ?_
  simp[nv,aa]
  refine ⟨_,p',root',l,⟨rt,lA,wA,F2,rootS,tM,rfl⟩,hinv,bU,by omega,N1.trans ((DY.fr _).trans rB)⟩
 ·have bt:=Ki k v l
  have Wf:¬((jj k v l).2:Int)=6:=by omega
  obtain ⟨y,hy,r6⟩:=f84 l lA hI.hl hll k v
  obtain ⟨tM,rB⟩:=kQ.write hy kQ.hw (rootC':=aM) (bad':=false)
  obtain ⟨ln,lz,lc,hlA,_⟩:=id hI.hl
  obtain ⟨yn,yz,yc,hyA,_⟩:=id hy
  simp only[ft]at tM rB
  simp[bt,Wf,kV]
  refine ap (r6 _ _) ?_
  simp[kV]
  refine ap (f14 _ _ _) ?_
  subst hyA
  simp[kV,aa,aG]
  exact ⟨_,p',root',_,⟨rt,_,wA,F2,rootS,tM,rfl⟩,hinv,bU,Gp k v l,N1.trans rB⟩
end Go.Ai
namespace Go.Ai
open Go.Bt
def PZ:cC:=match c50.body with | .seq _ (.seq _ (.seq _ t))=>t|_=>.skip
theorem f50 {hp nx wr rd rp G p root l aM di B} (h:sX hp nx wr rd rp G p root l aM di false B) (hi:Inv p root l aM di) (hll:l.length<=1000000) {keys:List Bs} {kA:AV} (hk:fa 1 (keys.map aN) kA) (lK:keys.length<=100) (hB:B<=300000000) :
  ∃hp' nx' G' p' root' l',aZ E 50 [.ptr wr 0 0,kA] hp nx (.bE []) hp' nx' .e/\sX hp' nx' wr rd rp G' p' root' l' aM di false (B+64000*keys.length)/\Inv p' root' l' aM di/\Step p p'/\l'.length<=l.length/\Fr G hp nx G' hp' nx':=by
 have main:=an (P:=fun w hp' nx'=>w=.bE []/\∃G' p' root' l',sX hp' nx' wr rd rp G' p' root' l' aM di false (B+64000*keys.length)/\Inv p' root' l' aM di/\Step p p'/\l'.length<=l.length/\Fr G hp nx G' hp' nx') e50 (args:=[.ptr wr 0 0,kA]) rfl (hp:=hp) (nx:=nx) ?_
 ·obtain ⟨w,hp',nx',r,rfl,G',p',root',l',h1⟩:=main
  exact ⟨hp',nx',G',p',root',l',r,h1⟩
 obtain ⟨rt,lA,wA,F,rootS,hI,rfl⟩:=h
 have row:=hI.row
 simp only[ft]at row
 obtain ⟨t,ht,htp⟩:=hI.tr
 obtain ⟨aT,ar,F2,t2,r3,yo,CD,CT⟩:=f12 ht hk (by have:=hi.len;rw[htp];omega) (by omega) (by omega)
 rw[htp]at r3 yo CD
 obtain ⟨kQ,N1⟩:=hI.tree yo CT
 obtain ⟨n,e,p',root',l',he,he6,_,bU,hinv,s9⟩:=CY keys 0 hi
 have aaZ:l'.length<=l.length:=by have:=BC e n keys l 0;rw[s9]at this;exact this
 rw[he]at r3 kQ CD
 simp only at r3 kQ CD
 rw[CD]at kQ
 obtain ⟨kn,ks,kc,rfl,vY⟩:=id hk
 obtain ⟨TC,hT⟩:∃TC,TC=PZ:=⟨_,rfl⟩
 have iW:=hT
 simp only[PZ,c50]at iW
 simp only[c50]
 rw[<-iW]
 simp[row]
 refine ae r3 ?_
 simp
 have fin:∀(tm':Nat->AV) (hp':Heap) (nx':Nat) (Rs:AV),tm' 0=.ptr wr 0 0->tm' 4=iV n->tm' 5=iV e->tm' 6=iV n->vN hp' nx' wr rd rp rt Rs wA F2 p' root' l' aM di false rootS (B+64000*keys.length)->Fr (wr::F2) aT ar (wr::F2) hp' nx' ->
   W (aZ E) TC (rT [] fun w hp' nx'=>w=.bE []/\∃G' p' root' l',sX hp' nx' wr rd rp G' p' root' l' aM di false (B+64000*keys.length)/\Inv p' root' l' aM di/\Step p p'/\l'.length<=l.length/\Fr (wr::F) hp nx G' hp' nx') ⟨tm',hp',nx'⟩:=by
  intro tm' hp' nx' Rs u0 u4 u5 u6 ll LZ
  have nv:=ll.row
  simp only[ft]at nv
  obtain ⟨tM,rB⟩:=ll.write ll.hl ll.hw (rootC':=aM) (bad':=false)
  simp only[ft]at tM rB
  rw[hT]
  simp[PZ,c50,u0,u4,u5,u6,nv]
  refine ap (f14 _ _ _) ?_
  rcases he6 with rfl|rfl
  ·simp[u0,u4,u5,u6,nv,aa]
   exact ⟨_,p',root',l',⟨rt,Rs,wA,F2,rootS,tM,rfl⟩,hinv,bU,aaZ,N1.trans (LZ.trans rB)⟩
  ·simp[u0,u4,u5,u6,nv,aa]
   refine ap (f14 _ _ _) ?_
   simp[u0,u4,u5,u6,nv,aa]
   exact ⟨_,p',root',l',⟨rt,Rs,wA,F2,rootS,tM,rfl⟩,hinv,bU,aaZ,N1.trans (LZ.trans rB)⟩
 refine aL (I:=fun (g:Nat×Nat×List (Bs×Bs)×AV) s=>g.1<=keys.length/\s.tm 22=iV g.1/\s.tm 20=.rs kn ks (keys.map aN) kc/\s.tm 21=iV keys.length/\s.tm 0=.ptr wr 0 0/\s.tm 4=iV n/\s.tm 5=iV e/\s.tm 6=iV g.2.1 /\
   vN s.hp s.nx wr rd rp rt g.2.2.2 wA F2 p' root' g.2.2.1 aM di false rootS (B+64000*keys.length)/\Fr (wr::F2) aT ar (wr::F2) s.hp s.nx/\pp e n (keys.drop g.1) g.2.2.1 g.2.1=(l',n)/\g.2.1+g.2.2.1.length<=1000000) (fun g=>keys.length-g.1) (0,0,l,lA) ?_ ?_
 ·exact ⟨by simp,by simp,by simp,by simp,by simp,by simp,by simp,by simp,kQ,.refl,by simpa using s9,by simp only;omega⟩
 rintro ⟨i,m,l1,lA1⟩ tm hp1 nx1 ⟨iR,t22,t20,t21,t0,t4,t5,t6,ll,LZ,hd,hml⟩
 simp only at iR t22 t20 t21 t0 t4 t5 t6 ll LZ hd hml
 by_cases az:i<keys.length
 ·have bn:(i:Int)<(keys.length:Int):=by omega
  have tH:keys[i]?=some keys[i]:=zA az
  have bJ:=aS (n:=1) (k:=.i64) (cap:=kc) (j:=i) (cells:=[.str keys[i]]) vY (by simp[tH,aN])
  have w1:IntKind.wrap .i64 ((i:Int)+1)=((i+1:Nat):Int):=by rw[aj]<;>omega
  rw[zN az]at hd
  generalize keys[i]=k at *
  have nv:=ll.row
  simp only[ft]at nv
  obtain ⟨y,hy,r6⟩:=f27 l1 lA1 ll.hl (by omega) k
  obtain ⟨ln,lz,lc,hlA,_⟩:=id ll.hl
  obtain ⟨yn,yz,yc,hyA,_⟩:=id hy
  have QH:=A1 k l1
  rw[pp]at hd
  have w2:IntKind.wrap .i64 ((m:Int)+((l1.length-(bK k l1).length:Nat):Int))=((m+(l1.length-(bK k l1).length):Nat):Int):=by rw[aj]<;>omega
  generalize hq:l1.length-(bK k l1).length=q at *
  have next:∀{X:Prop},(¬(e=6/\m=n/\0<q))->pp e n (keys.drop (i+1)) (bK k l1) (m+q)=(l',n):=fun {X} hc=>by rw[if_neg hc]at hd;exact hd
  obtain ⟨tM,rB⟩:=ll.write hy ll.hw (rootC':=aM) (bad':=false)
  simp only[ft]at tM rB
  subst hyA
  simp[t22,t20,t21,t0,t4,t5,t6,bn,bJ,nv,-ag,-Prod.exists]
  refine ap (r6 _ _) ?_
  simp[t22,t20,t21,t0,t4,t5,t6]
  refine ap (f14 _ _ _) ?_
  rcases he6 with rfl|rfl
  ·have AE:=next (X:=True) (by omega)
   simp[t22,t20,t21,t0,t4,t5,t6,nv,aa,aG,w1,w2,-Prod.exists,-Int.natCast_add]
   exact ⟨(i+1,m+q,bK k l1,_),by simp only;omega,by simp only;omega,rfl,rfl,tM,LZ.trans rB,AE,by simp only;omega⟩
  ·by_cases c1:m=n
   ·by_cases c2:0<q
    ·have AJ:(0:Int)<(q:Int):=by omega
     rw[if_pos ⟨rfl,c1,c2⟩,zPi]at hd
     obtain ⟨rfl,rfl⟩:=hd
     simp[t22,t20,t21,t0,t4,t5,t6,c1,c2,AJ]
     exact fin _ _ _ lA1 (by simp[t0]) (by simp[t4]) (by simp[t5]) (by simp[t6]) ll LZ
    ·have AJ:¬(0:Int)<(q:Int):=by omega
     have AE:=next (X:=True) (by omega)
     simp[t22,t20,t21,t0,t4,t5,t6,c1,c2,AJ,nv,aa,aG,w1,-Prod.exists,-Int.natCast_add]
     rw[c1]at w2 AE
     simp[w2,-Prod.exists,-Int.natCast_add]
     exact ⟨(i+1,n+q,bK k l1,_),by simp only;omega,by simp only;omega,rfl,rfl,tM,LZ.trans rB,AE,by simp only;omega⟩
   ·have BK:¬(m:Int)=(n:Int):=by omega
    have AE:=next (X:=True) (by omega)
    simp[t22,t20,t21,t0,t4,t5,t6,c1,BK,nv,aa,aG,w1,w2,-Prod.exists,-Int.natCast_add]
    exact ⟨(i+1,m+q,bK k l1,_),by simp only;omega,by simp only;omega,rfl,rfl,tM,LZ.trans rB,AE,by simp only;omega⟩
 ·have rS:i=keys.length:=by omega
  subst rS
  rw[wt,pp,zPi]at hd
  obtain ⟨rfl,rfl⟩:=hd
  simp[t22,t21]
  exact fin _ _ _ lA1 (by simp[t0]) (by simp[t4]) (by simp[t5]) (by simp[t6]) ll LZ
end Go.Ai
