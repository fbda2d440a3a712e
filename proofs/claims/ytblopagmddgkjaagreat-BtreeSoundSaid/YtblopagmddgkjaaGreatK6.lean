/- Part 6 of what the proof rests on. -/
import Derived.Test.YtblopagmddgkjaaGreatK5
set_option linter.unusedVariables false
set_option linter.unusedSimpArgs false
set_option maxHeartbeats 4000000
namespace Go.Ai
open Go.Bt
def dO (m:Nat) (n:Nd):Prop:=n.keys.length<=m/\n.items.length<=m/\n.kids.length<=m+1
def sg (m:Nat):dG->Prop
 |.one n=>dO m n
 |.two a _ b=>dO m a/\dO m b
theorem dO.more {m m' n} (h:dO m n) (k:m<=m'):dO m' n:=⟨by have:=h.1;omega,by have:=h.2.1;omega,by have:=h.2.2;omega⟩
theorem dO.part {m n} (h:dO m n) (a b:Nat):dO m (cM n a b):=by
 obtain ⟨h1,h2,h3⟩:=h
 refine ⟨?_,?_,?_⟩
 ·simp[cM];omega
 ·simp only[cM];split<;>simp<;>omega
 ·simp only[cM];split<;>simp<;>omega
theorem dO.cut {m n} (h:dO m n):sg m (kP n):=by
 unfold kP
 split
 ·exact h
 ·exact ⟨h.part _ _,h.part _ _⟩
theorem dO.join {m m' a b k} (h:dO m a) (h':dO m' b):dO (m+m'+1) (mH a k b):=by
 obtain ⟨h1,h2,h3⟩:=h
 obtain ⟨g1,g2,g3⟩:=h'
 unfold mH
 split
 ·refine ⟨?_,?_,?_⟩
  ·simp only[eu,zG];split<;>simp<;>omega
  ·simp only[eu,zG];omega
  ·simp only[eu,zG];omega
 ·exact ⟨by omega,by omega,by omega⟩
theorem th.nv {hp nx rt rp rd root x y Fp t rootS view B} (h:th hp nx rt rp rd root x y Fp t rootS view B) {a:Nat} {n:Nd} (e:(eD t a).1=.ok n):dO 492 n/\ax n=true:=by
 unfold eD at e
 split at e
 ·rename_i n' hn
  simp only[Except.ok.injEq]at e
  subst e
  obtain ⟨h1,h2,h3,h4,h5⟩:=h.pg.tH hn
  exact ⟨⟨h3,h4,h5⟩,h1⟩
 ·cases e
theorem uw {t:T} {a e:Nat} (h:(eD t a).1=.error e):e≠0:=by
 unfold eD at h
 split at h
 ·cases h
 ·simp only[Except.error.injEq]at h;omega
theorem dE.nv {hp nx rt rp rd F root t rootS B} (h:dE hp nx rt rp rd F root t rootS B) {a:Nat} {n:Nd} (e:(eD t a).1=.ok n):dO 492 n/\ax n=true:=by
 obtain ⟨x,y,Fp,view,h1,_⟩:=h
 exact h1.nv e
theorem Fr.sM {F hp nx F2 aT ar kr o6} (hF:Fr F hp nx F2 aT ar) (hn:ar<=o6) (hk:∀r,r<ar->(r<nx\/r∈F2)->kr r=aT r):Fr F hp nx F2 kr o6 :=
 ⟨wF hF.le hn,fun r u1 u2=>by rw[hk r (by have:=hF.le;omega) (.inl u1)];exact hF.ah r u1 u2,fun r hr=>(hF.sub r hr)⟩
def z2:AV:=.agg [nS,.str []]
def KC (o:Except Nat (dG×Nat)) (v:AV):Prop:=match o with
 |.ok r=>∃p,jQ r.1 p/\v=.bE [p,iV r.2,iV (r.2+2:Nat),.v (.int .i64 0)]
 |.error e=>v=.bE [z2,.v (.int .i64 0),.v (.int .i64 0),iV e]
theorem jQ.cl {p v} (h:jQ p v):v.closed=true/\∃z k,v=.agg [z,k]/\z.one=true/\k.one=true:=by
 cases p with
 |one n =>
  obtain ⟨x,z,h1,⟨b,s,c,rfl,_⟩,rfl⟩:=h
  obtain ⟨b0,k1,k2,k3,k4,i1,i2,i3,i4,d1,d2,d3,d4,rfl⟩:=h1.shape
  obtain ⟨l1,l2,l3,_⟩:=h1.cl
  exact ⟨by simp[l1,l2,l3],_,_,rfl,rfl,rfl⟩
 |two a k b =>
  obtain ⟨x,y,z,h1,h2,⟨b,s,c,rfl,_⟩,rfl⟩:=h
  obtain ⟨b0,k1,k2,k3,k4,i1,i2,i3,i4,d1,d2,d3,d4,rfl⟩:=h1.shape
  obtain ⟨l1,l2,l3,_⟩:=h1.cl
  obtain ⟨Ri,RP,Nq,Np,RO,EF,CL,Nv,EE,I8,OL,I7,LP,rfl⟩:=h2.shape
  obtain ⟨VX,VW,VV,_⟩:=h2.cl
  exact ⟨by simp[l1,l2,l3,VX,VW,VV],_,_,rfl,rfl,rfl⟩
end Go.Ai
namespace Go.Ai
open Go.Bt
theorem A6 {n:Nat} {x:AV} {es:List (List AV)} {b:Nat} {k:IntKind} (hx:eV n es x) (h:b<=es.length):∃y,eV n (es.take b) y/\b9 n x none (some (.v (.int k b))) none=some y:=by
 obtain ⟨nil,sz,cap,rfl,hz,hn⟩:=hx
 refine ⟨.rs nil sz ((es.take b).drop 0) (cap.map (· - 0)),⟨nil,sz,_,by rw[zb],hz,fun h=>by simp[hn h]⟩,?_⟩
 have hb:bV es.length es.length none (some (.v (.int k (b:Int)))) none=some (0,b,none):=by
  simp only[bV,idxOf,qM,Option.isSome_none]
  rw[if_pos (by omega)]
  simp
 simp only[b9,if_pos hz,hb,ef]
theorem uz {n:Nat} {x:AV} {es:List (List AV)} {a:Nat} {k:IntKind} (hx:eV n es x) (h:a<=es.length):∃y,eV n (es.drop a) y/\b9 n x (some (.v (.int k a))) none none=some y:=by
 obtain ⟨nil,sz,cap,rfl,hz,hn⟩:=hx
 refine ⟨.rs nil sz ((es.take es.length).drop a) (cap.map (· - a)),⟨nil,sz,_,by rw[zW],hz,fun h=>by simp[hn h]⟩,?_⟩
 have hb:bV es.length es.length (some (.v (.int k (a:Int)))) none none=some (a,es.length,none):=by
  simp[bV,idxOf,h]
 simp only[b9,if_pos hz,hb,ef]
theorem kZ {hp:Heap} {nx sz bytes:Nat} {s x:AV} {es:bN} (h:aR hp sz x=some es) (ho:es.all (fun l=>l.all AV.one)=true):bu sz bytes s x hp nx=cI sz bytes s es hp nx:=by
 simp only[bu,h,ho,if_true]
theorem eV.Xv {n:Nat} {x:AV} {es:bN} (h:eV n es x) (hp:Heap):aR hp n x=some es:=by
 obtain ⟨nil,sz,cap,rfl,hz,_⟩:=h
 simp only[aR,if_pos hz]
theorem dD.Xv {n:Nat} {x:AV} {es:bN} {hp nx} (h:dD hp nx n es x):aR hp n x=some es:=by
 rcases h with ⟨rfl,rfl⟩|⟨r,h1,rfl,h2⟩
 ·simp[aR]
 ·simp[aR,h2]
def Kc (hp:Heap) (nx n:Nat) (es:bN) (x:AV):Prop:=eV n es x\/∃r,r<nx/\x=.sl r n 0 es.length none/\hp r=some es
theorem cT.slO {hp nx n es x} (h:cT hp nx n es x):Kc hp nx n es x:=by
 rcases h with ⟨b,z,c,rfl,h1,h2,_⟩|h
 ·exact .inl ⟨b,z,_,rfl,h1,h2⟩
 ·exact .inr h
theorem Kc.ah {hp hp' nx nx' n es x} (h:Kc hp nx n es x) (hn:nx<=nx') (hk:∀r∈bf x,hp' r=hp r):Kc hp' nx' n es x:=by
 rcases h with h|⟨r,h1,rfl,h2⟩
 ·exact .inl h
 ·exact .inr ⟨r,by omega,rfl,by rw[hk r (by simp)];exact h2⟩
theorem Kc.one {hp nx n es x} (h:Kc hp nx n es x):x.cells=[x]/\x.one=true:=by
 rcases h with ⟨_,_,_,rfl,_⟩|⟨r,h1,rfl,h2⟩<;>exact ⟨rfl,rfl⟩
theorem Kc.lt {hp nx n es x} (h:Kc hp nx n es x):∀r∈bf x,r<nx:=by
 rcases h with ⟨_,_,_,rfl,_⟩|⟨r,h1,rfl,h2⟩
 ·simp
 ·simpa using h1
def DD (hp:Heap) (nx:Nat) (L:List Nat) (n:Nd) (x:AV):Prop:=∃k i d,x=.agg [.v (.bool n.leaf),k,i,d]/\Kc hp nx 1 (n.keys.map aN) k/\eV 3 (n.items.map bD.cells) i/\Kc hp nx 1 (n.kids.map bC) d/\L=bf k++bf d
theorem DD.ah {hp hp' nx nx' L n x} (h:DD hp nx L n x) (hn:nx<=nx') (hk:∀r∈L,hp' r=hp r):DD hp' nx' L n x:=by
 obtain ⟨k,i,d,rfl,h1,h2,h3,rfl⟩:=h
 exact ⟨k,i,d,rfl,h1.ah hn fun r hr=>hk r (by simp[hr]),h2,h3.ah hn fun r hr=>hk r (by simp[hr]),rfl⟩
theorem DD.lt {hp nx L n x} (h:DD hp nx L n x):∀r∈L,r<nx:=by
 obtain ⟨k,i,d,rfl,h1,h2,h3,rfl⟩:=h
 intro r hr
 rcases zJ.1 hr with hr|hr
 ·exact h1.lt r hr
 ·exact h3.lt r hr
theorem iD.ndO {hp nx n x} (h:iD n x):DD hp nx [] n x:=by
 obtain ⟨k,i,d,rfl,h1,h2,h3⟩:=h
 refine ⟨k,i,d,rfl,.inl h1,h2,.inl h3,?_⟩
 obtain ⟨_,_,_,rfl,_⟩:=h1
 obtain ⟨_,_,_,rfl,_⟩:=h3
 rfl
theorem Kc.kh {hp nx n es x} (h:Kc hp nx n es x) (hc:bl es=true) {k:Nat}:∃y,eV n es y/\kh (k+2) hp x=some y:=by
 rcases h with ⟨a,b,c,rfl,h1⟩|⟨r,h1,rfl,h2⟩
 ·exact ⟨_,⟨a,b,c,rfl,h1⟩,aq (by simpa using hc)⟩
 ·refine ⟨.rs false n es none,⟨false,n,_,rfl,.inr rfl,by simp⟩,?_⟩
  rw[C6 h2 (by simp) (by simpa using hc)]
  simp
theorem Kc.fO {hp nx n es x} (h:Kc hp nx n es x) (hc:bl es=true) {k:Nat} {L:List Nat} (hL:∀r∈bf x,r∈L):∃y,eV n es y/\Go.Ai.fO (k+2) (di hp L) x=some y:=by
 rcases h with ⟨a,b,c,rfl,h1⟩|⟨r,h1,rfl,h2⟩
 ·refine ⟨_,⟨a,b,c,rfl,h1⟩,?_⟩
  simp only[Go.Ai.fO]
  rw[if_pos (by simpa using hc)]
 ·have hr:di hp L r=some es:=by simp only[di];rw[if_pos (hL r (by simp))];exact h2
  refine ⟨.rs false n es none,⟨false,n,_,rfl,.inr rfl,by simp⟩,?_⟩
  have hm:dW (dW (Go.Ai.kh (k+1) (di hp L))) es=some es:=mF fun x hx=>mF fun y hy=>aq (pK (nP hc x hx) y hy)
  simp only[Go.Ai.fO,rS,zK,if_false,hr]
  simp[hm]
theorem DD.RI {hp nx L n x} (h:DD hp nx L n x):∃x0,iD n x0/\dW (kh 6 hp) [x]=some [x0]:=by
 obtain ⟨k,i,d,rfl,h1,⟨i1,i2,i4,rfl,h2⟩,h3,rfl⟩:=h
 obtain ⟨k',g1,e1⟩:=h1.kh eL (k:=3)
 obtain ⟨d',g3,e3⟩:=h3.kh fk (k:=3)
 have e0:kh 6 hp (.agg [.v (.bool n.leaf),k,.rs i1 i2 (n.items.map bD.cells) i4,d])=some (.agg [.v (.bool n.leaf),k',.rs i1 i2 (n.items.map bD.cells) i4,d']):=tY (by simp[br,e1,e3,aq])
 exact ⟨_,⟨k',_,d',rfl,g1,⟨i1,i2,i4,rfl,h2⟩,g3⟩,by simp[br,e0]⟩
theorem nN {k hp x} (h:x.closed=true):fO (k+1) hp x=some x:=by simp only[fO];rw[if_pos h]
theorem LC {k hp cs} (h:(AV.agg cs).closed=false):fO (k+1) hp (.agg cs)=(dW (fO k hp) cs).map .agg:=by rw[fO];simp only[h,zK,if_false]
theorem DD.I3 {hp nx L n x} (h:DD hp nx L n x):∃x0,iD n x0/\fO 6 (di hp L) x=some x0:=by
 obtain ⟨k,i,d,rfl,h1,⟨i1,i2,i4,rfl,h2⟩,h3,rfl⟩:=h
 obtain ⟨k',g1,e1⟩:=h1.fO eL (k:=3) (L:=bf k++bf d) (fun r hr=>by simp[hr])
 obtain ⟨d',g3,e3⟩:=h3.fO fk (k:=3) (L:=bf k++bf d) (fun r hr=>by simp[hr])
 refine ⟨.agg [.v (.bool n.leaf),k',.rs i1 i2 (n.items.map bD.cells) i4,d'],⟨k',_,d',rfl,g1,⟨_,_,_,rfl,h2⟩,g3⟩,?_⟩
 by_cases hc:(AV.agg [.v (.bool n.leaf),k,.rs i1 i2 (n.items.map bD.cells) i4,d]).closed=true
 ·have WR:k.closed=true:=by simp at hc;exact hc.1
  have hdc:d.closed=true:=by simp at hc;exact hc.2
  rw[nN WR]at e1
  rw[nN hdc]at e3
  cases e1;cases e3
  exact nN hc
 ·have Lv:(AV.agg [.v (.bool n.leaf),k,.rs i1 i2 (n.items.map bD.cells) i4,d]).closed=false:=by simpa using hc
  rw[show (6:Nat)=5+1 from rfl,LC Lv]
  simp only[br,e1,e3,show (5:Nat)=3+2 from rfl,nN (x:=.v _) FA,nN (x:=.rs i1 i2 (n.items.map bD.cells) i4) (by simp)]
  rfl
def iY (hp:Heap) (nx:Nat) (L:List Nat) (p:dG) (v:AV):Prop:=(L=[]/\jQ p v)\/∃n x c,p=.one n/\n.kids.length=1/\DD hp nx L n x/\v=.agg [.rs false 4 [x.cells] c,.str []]
theorem fL {hp L r} (h:r∉L):kl hp L r=hp r:=by simp only[kl];rw[if_neg h]
end Go.Ai
namespace Go.Ai
open Go.Bt
def xN:cC:=match c136.body with | .seq _ (.seq _ (.seq _ (.seq _ (.seq _ (.seq _ (.seq _ t))))))=>t|_=>.skip
theorem Uw {hp:Heap} {nx q6 q10 q17 lo:Nat} {n:Nd} {kA iA dA kv dv:AV} {K:List Bs} {D:List Int} {b:Nat} {tm:Nat->AV} {P:AV->Heap->Nat->Prop} {kb:Bool}
  (t3:tm 3=iV b) (t6:tm 6=.ptr q6 0 0) (t10:tm 10=.ptr q10 0 0) (t17:tm 17=.ptr q17 0 0)
  (hk:eV 1 (n.keys.map aN) kA) (h6:hp q6=some [[.v (.bool kb),kA,iA,dA]]) (iC:hp q10=some [[nS,.str []]]) (h17:hp q17=some [[.v (.bool false),kv,nS,dv]])
  (l6:q6<lo) (QO:q10<lo) (l17:lo<=q17) (m17:q17<nx) (ok:cT hp nx 1 (K.map aN) kv) (od:cT hp nx 1 (D.map bC) dv) (bk:∀q∈bf kv,lo<=q/\q≠q17/\q∉bf dv) (bd:∀q∈bf dv,lo<=q/\q≠q17)
  (hb:0<b) (hbk:b<=n.keys.length+1) (hK:K.length<=6000) (lP:n.keys.length<=5000) (hD:D.length<=12000)
  (hP:∀L w hp' nx',nx<=nx'->(∀r,r<lo->r≠q10->hp' r=hp r)->iY hp' nx' L (kC ⟨false,K++n.keys.drop (b-1),[],D⟩) w->(∀r∈L,lo<=r)->P (.bE [w,iV 0]) hp' nx') :
  W (aY E) xN (sc [.cell 10 (some 2),.t 11] P) ⟨tm,hp,nx⟩:=by
 obtain ⟨k2,nf,s4⟩:=uz (k:=.i64) hk (a:=b-1) (by simp;omega)
 have w1:IntKind.wrap .i64 ((b:Int)-1)=((b-1:Nat):Int):=by rw[aj]<;>omega
 rw[<-wS]at nf
 have e4:=fun (h:Heap) (m:Nat) (s:AV)=>kZ (hp:=h) (nx:=m) (bytes:=16) (s:=s) (nf.Xv h) (mC _)
 obtain ⟨Nl,Nk,Nj,rfl,w9⟩:=hk
 have agr:¬q6=q17:=by omega
 have Tw:¬q10=q17:=by omega
 obtain ⟨c3,QK⟩:=od.one
 simp[xN,c136,t3,t6,t10,t17,h6,iC,h17,w1,s4,e4]
 refine j8 (bytes:=16) ok (by simp;omega) fun FW H1 m1 o1 l1 g1 b1 => ?_
 have p17:H1 q17=some [[.v (.bool false),kv,nS,dv]]:=by rw[g1 q17 m17 (fun e=>(bk q17 e).2.1 rfl)];exact h17
 have KJ:H1 q10=some [[nS,.str []]]:=by rw[g1 q10 (by omega) (fun e=>by have:=(bk q10 e).1;omega)];exact iC
 obtain ⟨c4,Yh⟩:=o1.one
 have odl:=od.len
 have oE:lo<=nx:=by omega
 have bk':∀q∈bf FW,lo<=q/\q≠q17/\q∉bf dv:=fun q hq=>(b1 q hq).elim (bk q) fun h=>⟨by omega,by omega,fun e=>by have:=od.lt q e;omega⟩
 rw[<-wS,<-zg]at o1
 obtain ⟨H2,oH⟩:∃H2,H2=ab H1 q17 (some [[.v (.bool false),FW,nS,dv]]):=⟨_,rfl⟩
 have GK:H2 q10=some [[nS,.str []]]:=by simp[oH,Tw,KJ]
 have Vy:H2 q17=some [[.v (.bool false),FW,nS,dv]]:=by simp[oH]
 have Ty:∀r,r<lo->H2 r=hp r:=fun r hr=>by simp[oH,show ¬r=q17 by omega];exact g1 r (by omega) fun e=>by have:=(bk r e).1;omega
 have o1':cT H2 m1 1 ((K++n.keys.drop (b-1)).map aN) FW:=o1.ah (zD _) fun q hq=>by simp[oH,(bk' q hq).2.1]
 have od':cT H2 m1 1 (D.map bC) dv:=od.ah l1 fun q hq=>by simp[oH,(bd q hq).2];exact g1 q (od.lt q hq) fun e=>(bk q e).2.2 hq
 simp[t3,t6,t10,t17,p17,c3,QK,c4,Yh,aa,aG,odl,Tw,<-oH,Vy]
 have w8:DD H2 m1 (bf FW++bf dv) ⟨false,K++n.keys.drop (b-1),[],D⟩ (.agg [.v (.bool false),FW,nS,dv]):=⟨FW,_,dv,rfl,o1'.slO,.v9,od'.slO,rfl⟩
 have Sv:∀r∈bf FW++bf dv,lo<=r:=fun r hr=>(zJ.1 hr).elim (fun h=>(bk' r h).1) fun h=>(bd r h).1
 by_cases Q6:D.length=1
 ·have Q5:(D.length:Int)=1:=by omega
  simp[Q6,t10,t17,Vy,GK,c3,QK,c4,Yh,aa,aG]
  refine hP (bf FW++bf dv) _ _ _ (by omega) (fun r h1 h2=>by simp[h2];exact Ty r h1) (.inr ⟨_,_,some 1,by simp[kC,Q6],Q6,w8.ah (zD _) fun r hr => ?_,rfl⟩) Sv
  have:=Sv r hr
  simp[show ¬r=q10 by omega]
 ·have Q5:¬(D.length:Int)=1:=by omega
  obtain ⟨x0,h0,e0⟩:=w8.I3
  obtain ⟨v,hv,r⟩:=f133 _ x0 h0 (by simp;omega) (by simp) (by simp;omega)
  obtain ⟨vc,vz,vk,rfl,vo⟩:=hv.cl
  have r':=ul (args:=[.agg [.v (.bool false),FW,nS,dv]]) (args0:=[x0]) (hp:=H2) (nx:=m1) (bf FW++bf dv) (by simp[br,e0]) (r _ _)
  simp[Q5,Q6,t10,t17,Vy,GK,c3,QK,c4,Yh,aa,aG]
  refine ae r' ?_
  have ad7:kl H2 (bf FW++bf dv) q10=some [[nS,.str []]]:=by rw[fL fun e=>by have:=Sv _ e;omega];exact GK
  simp[t10,ad7,aa,vo]
  refine hP [] _ _ _ (by omega) (fun r h1 h2=>by simp[h2];rw[fL fun e=>by have:=Sv _ e;omega];exact Ty r h1) (.inl ⟨rfl,?_⟩) (by simp)
  simp only[kC,if_neg Q6]
  exact hv
def Dr:cC:=match c136.body with | .seq _ (.seq _ (.seq _ t))=>t|_=>.skip
theorem abN {hp:Heap} {nx q6 q9 q10:Nat} {n:Nd} {kA iA dA y z:AV} {key:Bs} {cs:List Int} {a b:Nat} {tm:Nat->AV} {P:AV->Heap->Nat->Prop} {kb:Bool}
  (t2:tm 2=iV a) (t3:tm 3=iV b) (t6:tm 6=.ptr q6 0 0) (t9:tm 9=.ptr q9 0 0) (t10:tm 10=.ptr q10 0 0) (t12:tm 12=y)
  (hk:eV 1 (n.keys.map aN) kA) (hi:eV 3 (n.items.map bD.cells) iA) (hd:eV 1 (n.kids.map bC) dA) (hy:dD hp nx 1 (cs.map bC) y)
  (h6:hp q6=some [[.v (.bool kb),kA,iA,dA]]) (h9:hp q9=some [[z,.str key]]) (iC:hp q10=some [[nS,.str []]]) (l6:q6<nx) (l9:q9<nx) (QO:q10<nx)
  (n69:q6≠q9) (ags:q6≠q10) (agq:q9≠q10) (y6:q6∉bf y) (y9:q9∉bf y) (y10:q10∉bf y)
  (hr:n.kids.length=n.keys.length+1) (IY:a<b) (hb:b<=n.kids.length) (fq:dO 5000 n) (AT:cs.length=1\/cs.length=2) (hzo:z.one=true/\z.cells=[z])
  (hP:∀L w hp' nx',nx<=nx'->(∀r,r<nx->r≠q10->r∉bf y->hp' r=hp r)->iY hp' nx' L (kC (mz n a b (if cs.length=2 then [key] else []) cs)) w->(∀r∈L,nx<=r)->P (.bE [w,iV 0]) hp' nx') :
  W (aY E) Dr (sc [.cell 10 (some 2),.t 11] P) ⟨tm,hp,nx⟩:=by
 have lP:=fq.1
 have Q4:=fq.2.2
 obtain ⟨d1,Q6,s1⟩:=A6 (k:=.i64) hd (b:=a) (by simp;omega)
 obtain ⟨d2,BH,s2⟩:=uz (k:=.i64) hd (a:=b) (by simp;omega)
 obtain ⟨k1,tT,s3⟩:=A6 (k:=.i64) hk (b:=a) (by simp;omega)
 obtain ⟨k2,nf,s4⟩:=uz (k:=.i64) hk (a:=b-1) (by simp;omega)
 have w1:IntKind.wrap .i64 ((b:Int)-1)=((b-1:Nat):Int):=by rw[aj]<;>omega
 rw[<-wR]at Q6 tT
 rw[<-wS]at BH nf
 have e1:=fun (h:Heap) (m:Nat) (s:AV)=>kZ (hp:=h) (nx:=m) (bytes:=8) (s:=s) (Q6.Xv h) (o5 _)
 have e2:=fun (h:Heap) (m:Nat) (s:AV)=>kZ (hp:=h) (nx:=m) (bytes:=8) (s:=s) (BH.Xv h) (o5 _)
 have e3:=fun (h:Heap) (m:Nat) (s:AV)=>kZ (hp:=h) (nx:=m) (bytes:=16) (s:=s) (tT.Xv h) (mC _)
 have e4:=fun (h:Heap) (m:Nat) (s:AV)=>kZ (hp:=h) (nx:=m) (bytes:=16) (s:=s) (nf.Xv h) (mC _)
 obtain ⟨Nl,Nk,Nj,rfl,w9⟩:=hk
 obtain ⟨TF,TE,TD,rfl,EV⟩:=hi
 obtain ⟨UC,UB,UA,rfl,Ga⟩:=hd
 have n6:¬q6=nx:=by omega
 have n9:¬q9=nx:=by omega
 have n10:¬q10=nx:=by omega
 simp[Dr,c136,t6,t9,t10,t12,t2,t3,h6,h9,iC,n6,n9,n10,s1,e1,aa,aG]
 obtain ⟨H0,hH0⟩:∃H0,H0=ab hp nx (some [[AV.v (Value.bool false),nS,nS,nS]]):=⟨_,rfl⟩
 have z0:∀r,r<nx->H0 r=hp r:=fun r hr=>by simp[hH0,show ¬r=nx by omega]
 have zn:H0 nx=some [[AV.v (Value.bool false),nS,nS,nS]]:=by simp[hH0]
 rw[<-hH0]
 refine j8 (bytes:=8) (cT.nil) (by simp;omega) fun v1 H1 m1 o1 l1 g1 b1 => ?_
 have y1:aR H1 1 y=some (cs.map bC):=(hy.ah (hp':=H1) (nx':=m1) (by omega) fun r hr=>by rw[g1 r (by have:=hy.lt r hr;omega) (by simp),z0 r (hy.lt r hr)]).Xv
 have f1:∀r,r<=nx->H1 r=H0 r:=fun r hr=>g1 r (by omega) (by simp)
 have p6:H1 q6=some [[.v (.bool kb),.rs Nl Nk (n.keys.map aN) Nj,.rs TF TE (n.items.map bD.cells) TD,.rs UC UB (n.kids.map bC) UA]]:=by rw[f1 q6 (by omega),z0 q6 l6,h6]
 simp[t6,t9,t10,t12,t2,t3,p6,kZ y1 (o5 _)]
 refine j8 (bytes:=8) o1 (by simp;omega) fun v2 H2 m2 o2 l2 g2 b2 => ?_
 have bv1:∀q∈bf v1,nx+1<=q:=fun q hq=>(b1 q hq).elim (by simp) id
 have f2:∀r,r<=nx->H2 r=H0 r:=fun r hr=>by rw[g2 r (by omega) (fun e=>by have:=bv1 r e;omega)];exact f1 r hr
 have p6:H2 q6=some [[.v (.bool kb),.rs Nl Nk (n.keys.map aN) Nj,.rs TF TE (n.items.map bD.cells) TD,.rs UC UB (n.kids.map bC) UA]]:=by rw[f2 q6 (by omega),z0 q6 l6,h6]
 simp[t6,t9,t10,t12,t2,t3,p6,s2,e2]
 refine j8 (bytes:=8) o2 (by simp;omega) fun v3 H3 m3 o3 l3 g3 b3 => ?_
 have bv2:∀q∈bf v2,nx+1<=q:=fun q hq=>(b2 q hq).elim (bv1 q) (by omega)
 have bv3:∀q∈bf v3,nx+1<=q:=fun q hq=>(b3 q hq).elim (bv2 q) (by omega)
 have f3:∀r,r<=nx->H3 r=H0 r:=fun r hr=>by rw[g3 r (by omega) (fun e=>by have:=bv2 r e;omega)];exact f2 r hr
 have p6:H3 q6=some [[.v (.bool kb),.rs Nl Nk (n.keys.map aN) Nj,.rs TF TE (n.items.map bD.cells) TD,.rs UC UB (n.kids.map bC) UA]]:=by rw[f3 q6 (by omega),z0 q6 l6,h6]
 have pn:H3 nx=some [[AV.v (Value.bool false),nS,nS,nS]]:=by rw[f3 nx (by omega),zn]
 obtain ⟨c3,QK⟩:=o3.one
 simp[t6,t9,t10,t12,t2,t3,p6,pn,c3,QK,aa,n6,n9,n10,s3,e3,aG]
 refine ⟨⟨(f1 q6 (by omega)).symm,by rw[f1 q6 (by omega),f2 q6 (by omega)]⟩,?_⟩
 obtain ⟨K0,hK0⟩:∃K0,K0=ab H3 nx (some [[AV.v (Value.bool false),nS,nS,v3]]):=⟨_,rfl⟩
 rw[<-hK0]
 have zk:∀r,r<nx->K0 r=hp r:=fun r hr=>by simp[hK0,show ¬r=nx by omega];rw[f3 r (by omega),z0 r hr]
 have kn0:K0 nx=some [[AV.v (Value.bool false),nS,nS,v3]]:=by simp[hK0]
 have ov:∀q∈bf v3,K0 q=H3 q:=fun q hq=>by have:=bv3 q hq;simp[hK0,show ¬q=nx by omega]
 have o3':=o3.ah (hp':=K0) (zD _) ov
 refine j8 (bytes:=16) (cT.nil) (by simp;omega) fun QI K1 m4 q1 l4 h1 I8 => ?_
 have UL:∀q∈bf QI,m3<=q:=fun q hq=>(I8 q hq).elim (by simp) id
 have RA:∀q∈bf v3,K1 q=K0 q:=fun q hq=>h1 q (o3.lt q hq) (by simp)
 have j1:∀r,r<=nx->K1 r=K0 r:=fun r hr=>h1 r (by omega) (by simp)
 obtain ⟨c4,Yh⟩:=q1.one
 have p6:K1 q6=some [[.v (.bool kb),.rs Nl Nk (n.keys.map aN) Nj,.rs TF TE (n.items.map bD.cells) TD,.rs UC UB (n.kids.map bC) UA]]:=by rw[j1 q6 (by omega),zk q6 l6,h6]
 have p9:K1 q9=some [[z,.str key]]:=by rw[j1 q9 (by omega),zk q9 l9,h9]
 have pn:K1 nx=some [[AV.v (Value.bool false),nS,nS,v3]]:=by rw[j1 nx (by omega),kn0]
 have lcs:=hy.len
 have NT:∀r,r<nx->K1 r=hp r:=fun r hr=>by rw[j1 r (by omega),zk r hr]
 have Rx:cT K1 m4 1 ((n.keys.take a).map aN) QI:=by simpa only[zh,<-wR] using q1
 have aae:cT K1 m4 1 ((n.kids.take a++cs++n.kids.drop b).map bC) v3:=by simpa only[zh,<-wR,<-wS,<-zg] using o3'.ah (by omega) RA
 have bd3:∀q∈bf v3,nx<=q/\q≠nx:=fun q hq=>by have:=bv3 q hq;omega
 have agt:=o3.lt
 obtain ⟨T,hT⟩:∃T,T=xN:=⟨_,rfl⟩
 have jd:=hT
 simp only[xN,c136]at jd
 rw[<-jd]
 by_cases h2:cs.length=2
 ·have Hx:(cs.length:Int)=2:=by omega
  rw[if_pos h2]at hP
  simp[t6,t9,t10,t12,t2,t3,p6,p9,pn,c3,QK,c4,Yh,aa,n6,n9,n10,aG,lcs,Hx,h2]
  obtain ⟨K2,Uo⟩:∃K2,K2=ab K1 nx (some [[AV.v (Value.bool false),QI,nS,v3]]):=⟨_,rfl⟩
  rw[<-Uo]
  have CR:∀r,r<nx->K2 r=hp r:=fun r hr=>by simp[Uo,show ¬r=nx by omega];exact NT r hr
  have Vs:K2 nx=some [[AV.v (Value.bool false),QI,nS,v3]]:=by simp[Uo]
  have q2':cT K2 m4 1 ((n.keys.take a).map aN) QI:=Rx.ah (zD _) fun q hq=>by have:=UL q hq;simp[Uo,show ¬q=nx by omega]
  have o4:cT K2 m4 1 ((n.kids.take a++cs++n.kids.drop b).map bC) v3:=aae.ah (zD _) fun q hq=>by have:=bv3 q hq;simp[Uo,show ¬q=nx by omega]
  refine j8 (bytes:=16) q2' (by simp;omega) fun w3 K3 m5 r1 l5 u1 d5 => ?_
  have nw1:∀q,q<=nx->q∉bf QI:=fun q hq e=>by have:=UL q e;omega
  have pn3:K3 nx=some [[AV.v (Value.bool false),QI,nS,v3]]:=by rw[u1 nx (by omega) (nw1 nx (zD _))];exact Vs
  have bw3:∀q∈bf w3,m3<=q:=fun q hq=>(d5 q hq).elim (UL q) (by omega)
  obtain ⟨c5,o5o⟩:=r1.one
  simp[t6,t9,t10,t12,t2,t3,pn3,c3,QK,c5,o5o,aa,n6,n9,n10,aG]
  rw[hT]
  have yT:∀r,r<nx->ab K3 nx (some [[AV.v (Value.bool false),w3,nS,v3]]) r=hp r:=fun r hr=>by simp[show ¬r=nx by omega];rw[u1 r (by omega) (nw1 r (by omega))];exact CR r hr
  have nv3:∀q∈bf v3,q∉bf QI:=fun q hq e=>by have:=UL q e;have:=o3.lt q hq;omega
  refine Uw (lo:=nx) (q6:=q6) (q10:=q10) (q17:=nx) (n:=n) (b:=b) (K:=n.keys.take a++[key]) (D:=n.kids.take a++cs++n.kids.drop b) (kv:=w3) (dv:=v3) (by simp[t3]) (by simp[t6]) (by simp[t10]) (by simp) ⟨Nl,Nk,Nj,rfl,w9⟩ (by rw[yT q6 l6];exact h6) (by rw[yT q10 QO];exact iC) (by simp) l6 QO (zD _) (by omega)
   ((by simpa [aN] using r1:cT K3 m5 1 ((n.keys.take a++[key]).map aN) w3).ah (zD _) fun q hq=>by have:=bw3 q hq;simp[show ¬q=nx by omega]) (o4.ah (by omega) fun q hq=>by have:=bv3 q hq;simp[show ¬q=nx by omega];exact u1 q (by have:=o3.lt q hq;omega) (nv3 q hq))
   (fun q hq=>⟨by have:=bw3 q hq;omega,by have:=bw3 q hq;omega,fun e=>by have:=bw3 q hq;have:=o3.lt q e;omega⟩) bd3 (by omega) (by omega) (by simp;omega) (by omega) (by simp;omega) fun L w hp' nx' g1 g2 g3 g4 => ?_
  refine hP L w hp' nx' (by omega) (fun r u1 u2 _=>by rw[g2 r u1 u2];exact yT r u1) ?_ g4
  simpa [mz] using g3
 ·have Hx:¬(cs.length:Int)=2:=by omega
  rw[if_neg h2]at hP
  simp[t6,t9,t10,t12,t2,t3,p6,p9,pn,c3,QK,c4,Yh,aa,n6,n9,n10,aG,lcs,Hx,h2]
  rw[hT]
  have yT:∀r,r<nx->ab K1 nx (some [[AV.v (Value.bool false),QI,nS,v3]]) r=hp r:=fun r hr=>by simp[show ¬r=nx by omega];exact NT r hr
  refine Uw (lo:=nx) (q6:=q6) (q10:=q10) (q17:=nx) (n:=n) (b:=b) (K:=n.keys.take a) (D:=n.kids.take a++cs++n.kids.drop b) (kv:=QI) (dv:=v3) (by simp[t3]) (by simp[t6]) (by simp[t10]) (by simp) ⟨Nl,Nk,Nj,rfl,w9⟩ (by rw[yT q6 l6];exact h6) (by rw[yT q10 QO];exact iC) (by simp) l6 QO (zD _) (by omega)
   (Rx.ah (zD _) fun q hq=>by have:=UL q hq;simp[show ¬q=nx by omega]) (aae.ah (zD _) fun q hq=>by have:=bv3 q hq;simp[show ¬q=nx by omega])
   (fun q hq=>⟨by have:=UL q hq;omega,by have:=UL q hq;omega,fun e=>by have:=UL q hq;have:=o3.lt q e;omega⟩) bd3 (by omega) (by omega) (by simp;omega) (by omega) (by simp;omega) fun L w hp' nx' g1 g2 g3 g4 => ?_
  refine hP L w hp' nx' (by omega) (fun r u1 u2 _=>by rw[g2 r u1 u2];exact yT r u1) ?_ g4
  simpa [mz] using g3
end Go.Ai
namespace Go.Ai
open Go.Bt
def fF (t:T):List Nd->R (List Nat)
 |[]=>(.ok [],t)
 |n::r=>rb (aV t n) fun c t=>rb (fF t r) fun cs t=>(.ok (c::cs),t)
def eX:dG->List Nd
 |.one n=>[n]
 |.two a _ b=>[a,b]
def La:dG->Bs
 |.one _=>[]
 |.two _ k _=>k
theorem tA (t:T) (n:Nd) (a b:Nat) (p:dG):bL t n a b p=rb (fF t (eX p)) fun cs t=>(.ok (kC (mz n a b (if (eX p).length=2 then [La p] else []) (cs.map fun (c:Nat)=>(c:Int)))),t):=by
 cases p with
 |one x =>
  simp only[bL,eX,fF,La]
  cases h:aV t x with
  |mk r t2=>cases r<;>simp[rb]
 |two x k y =>
  simp only[bL,eX,fF,La]
  cases h:aV t x with
  |mk r t2 =>
   cases r with
   |error e=>simp[rb]
   |ok c =>
    simp only[rb]
    cases h:aV t2 y with
    |mk r t3=>cases r<;>simp[rb]
theorem eG {t:T} {n:Nd} {e:Nat} {t2:T} (h:aV t n=(.error e,t2)):e≠0:=by
 unfold aV at h
 split at h
 ·unfold nI at h
  split at h
  ·simp only[zPi,reduceCtorEq,false_and]at h
  ·simp only[zPi,Except.error.injEq]at h;omega
 ·simp only[zPi,Except.error.injEq]at h;omega
theorem K5 {t t2:T} {ns:List Nd} {cs:List Nat} (h:fF t ns=(.ok cs,t2)):cs.length=ns.length:=by
 induction ns generalizing t t2 cs with
 |nil=>simp only[fF,zPi,Except.ok.injEq]at h;rw[<-h.1];rfl
 |cons n r ih =>
  simp only[fF]at h
  cases h1:aV t n with
  |mk o t3 =>
   rw[h1]at h
   cases o with
   |error e=>simp[rb]at h
   |ok c =>
    simp only[rb]at h
    cases h2:fF t3 r with
    |mk o t4 =>
     rw[h2]at h
     cases o with
     |error e=>simp at h
     |ok cs' =>
      simp only[zPi,Except.ok.injEq]at h
      have:=ih h2
      rw[<-h.1];simp[this]
def j7 (hp:Heap) (nx lo:Nat) (F:List Nat) (o:Except Nat dG) (v:AV):Prop:=match o with
 |.ok p=>∃L w,v=.bE [w,.v (.int .i64 0)]/\iY hp nx L p w/\∀r∈L,lo<=r/\r∉F
 |.error e=>v=.bE [z2,iV e]
theorem jQ.rows {p PA} (h:jQ p PA):∃rows z,PA=.agg [z,.str (La p)]/\eV 4 rows z/\rows.length=(eX p).length/\∀i (hi:i<(eX p).length),∃x,iD (eX p)[i] x/\rows[i]?=some x.cells:=by
 cases p with
 |one n =>
  obtain ⟨x,z,h1,h2,rfl⟩:=h
  refine ⟨_,z,rfl,h2,rfl,fun i hi => ?_⟩
  simp only[eX,zV,zS]at hi
  obtain rfl:i=0:=by omega
  exact ⟨x,h1,rfl⟩
 |two a k b =>
  obtain ⟨x,y,z,h1,h2,h3,rfl⟩:=h
  refine ⟨_,z,rfl,h3,rfl,fun i hi => ?_⟩
  simp only[eX,zV,zS]at hi
  rcases (by omega:i=0\/i=1) with rfl|rfl
  ·exact ⟨x,h1,rfl⟩
  ·exact ⟨y,h2,rfl⟩
theorem aaB (n:Nat):bC (n:Int)=kf n:=rfl
theorem f136 {hp nx rt rp rd F root t rootS B} (h:dE hp nx rt rp rd F root t rootS B) {n:Nd} {nA PA:AV} {p:dG} (hn:iD n nA) (xG:jQ p PA) (oh:sg 5000 p) {a b:Nat} (hr:n.kids.length=n.keys.length+1) (IY:a<b) (hb:b<=n.kids.length) (fq:dO 5000 n) (hB:B<=800000000) :
  ∃v hp' nx' F',aY E 136 [.ptr rt 0 0,nA,iV a,iV b,PA] hp nx v hp' nx' .e/\j7 hp' nx' nx F' (bL t n a b p).1 v/\rX hp' nx' rt rp rd F' root (bL t n a b p) rootS (B+10)/\Fr F hp nx F' hp' nx':=by
 have main:=an (P:=fun v hp' nx'=>∃F',j7 hp' nx' nx F' (bL t n a b p).1 v/\rX hp' nx' rt rp rd F' root (bL t n a b p) rootS (B+10)/\Fr F hp nx F' hp' nx') e136 (args:=[.ptr rt 0 0,nA,iV a,iV b,PA]) rfl (hp:=hp) (nx:=nx) ?_
 ·obtain ⟨v,hp',nx',h1,F',h2⟩:=main
  exact ⟨v,hp',nx',F',h1,h2⟩
 have je:=h.lt
 rw[tA]
 obtain ⟨rows,z,rfl,hz,DK,eI⟩:=xG.rows
 have W0:∀i (hi:i<(eX p).length),X4 (eX p)[i]:=by
  intro i hi
  cases p with
  |one x =>
   simp only[eX,zV,zS]at hi ⊢;obtain rfl:i=0:=by omega
   have:=oh;exact ⟨by have:=this.1;simp;omega,by have:=this.2.1;simp;omega,by have:=this.2.2;simp;omega⟩
  |two x k y =>
   simp only[eX,zV,zS]at hi ⊢
   have h1:=oh.1;have h2:=oh.2
   rcases (by omega:i=0\/i=1) with rfl|rfl
   ·exact ⟨by have:=h1.1;simp;omega,by have:=h1.2.1;simp;omega,by have:=h1.2.2;simp;omega⟩
   ·exact ⟨by have:=h2.1;simp;omega,by have:=h2.2.1;simp;omega,by have:=h2.2.2;simp;omega⟩
 have Se:(eX p).length=1\/(eX p).length=2:=by cases p<;>simp[eX]
 generalize eX p=ns at *
 generalize La p=key at *
 obtain ⟨zn,zs,zc,rfl,CM⟩:=hz
 have yQ:=hn
 obtain ⟨kA,iA,dA,rfl,hkS,YF,hdS⟩:=hn
 have cX:∀X Y Z,Ro hp nx (ab (ab (ab hp nx X) (nx+1) Y) (nx+1+1) Z) (nx+1+1+1):=fun X Y Z=>⟨by omega,fun r hr=>by simp[show ¬r=nx by omega,show ¬r=nx+1 by omega,show ¬r=nx+1+1 by omega]⟩
 obtain ⟨TC,hT⟩:∃TC,TC=Dr:=⟨_,rfl⟩
 have jd:=hT
 simp only[Dr,c136]at jd
 simp only[c136]
 rw[<-jd]
 obtain ⟨Nl,Nk,Nj,rfl,w9⟩:=id hkS
 obtain ⟨TF,TE,TD,rfl,EV⟩:=id YF
 obtain ⟨UC,UB,UA,rfl,Ga⟩:=id hdS
 simp[DK]
 obtain ⟨H1,fw⟩:∃H1,H1=ab (ab (ab hp nx (some [[.v (.bool n.leaf),.rs Nl Nk (n.keys.map aN) Nj,.rs TF TE (n.items.map bD.cells) TD,.rs UC UB (n.kids.map bC) UA]])) (nx+1) (some [[.rs zn zs rows zc,.str key]])) (nx+1+1) (some [[nS,.str []]]):=⟨_,rfl⟩
 rw[<-fw]
 have bZ:=cX (some [[.v (.bool n.leaf),.rs Nl Nk (n.keys.map aN) Nj,.rs TF TE (n.items.map bD.cells) TD,.rs UC UB (n.kids.map bC) UA]]) (some [[.rs zn zs rows zc,.str key]]) (some [[nS,.str []]])
 rw[<-fw]at bZ
 have b0:H1 nx=some [[.v (.bool n.leaf),.rs Nl Nk (n.keys.map aN) Nj,.rs TF TE (n.items.map bD.cells) TD,.rs UC UB (n.kids.map bC) UA]]:=by simp[fw,show ¬nx=nx+1+1 by omega]
 have b1:H1 (nx+1)=some [[.rs zn zs rows zc,.str key]]:=by simp[fw]
 have b2:H1 (nx+1+1)=some [[nS,.str []]]:=by simp[fw]
 have nF:∀q,nx<=q->q∉F:=fun q hq e=>by have:=je q e;omega
 refine aM (I:=fun (g:Nat×T×List Nat×List Nat) s=>∃y,g.1<=ns.length/\s.tm 21=iV g.1/\s.tm 19=.rs zn zs rows zc/\s.tm 20=iV ns.length/\s.tm 0=.ptr rt 0 0/\s.tm 2=iV a/\s.tm 3=iV b /\
   s.tm 6=.ptr nx 0 0/\s.tm 9=.ptr (nx+1) 0 0/\s.tm 10=.ptr (nx+1+1) 0 0/\s.tm 12=y/\s.hp nx=H1 nx/\s.hp (nx+1)=H1 (nx+1)/\s.hp (nx+1+1)=H1 (nx+1+1)/\nx+1+1+1<=s.nx/\dD s.hp s.nx 1 (g.2.2.2.map kf) y /\
   (∀q∈bf y,nx+1+1+1<=q/\q∉g.2.2.1)/\(∀q,nx<=q->q<nx+1+1+1->q∉g.2.2.1)/\dE s.hp s.nx rt rp rd g.2.2.1 root g.2.1 rootS (B+g.1)/\Fr F hp nx g.2.2.1 s.hp s.nx /\
   fF t ns=rb (fF g.2.1 (ns.drop g.1)) (fun r t=>(.ok (g.2.2.2++r),t))/\g.2.2.2.length=g.1) (fun g=>ns.length-g.1) (0,t,F,[]) ?_ ?_
 ·refine ⟨nS,by simp,by simp,by simp,by simp,by simp,by simp,by simp,by simp,by simp,by simp,by simp,rfl,rfl,rfl,zD _,.inl ⟨rfl,rfl⟩,by simp,fun q h1 _=>nF q h1,(h.ro bZ).more (by omega),bZ.fr F,?_,rfl⟩
  simp only[zb,zh]
  cases hl:fF t ns with
  |mk r t2=>cases r<;>rfl
 rintro ⟨i,t1,F1,cs⟩ tm hp1 nx1 ⟨y,hi,t21,t19,t20,t0,t2,t3,t6,t9,t10,t12,kN,Lk,V9,YC,hW,By,BC,oF,nn,ES,gj⟩
 simp only at hi t21 t19 t20 t0 t2 t3 t6 t9 t10 t12 kN Lk V9 YC hW By BC oF nn ES gj
 rw[ES]
 rw[b0]at kN;rw[b1]at Lk;rw[b2]at V9
 by_cases az:i<ns.length
 ·have bn:(i:Int)<(ns.length:Int):=by omega
  obtain ⟨x,hxA,TJ⟩:=eI i az
  have bG:=aS (n:=4) (k:=.i64) (cap:=zc) CM TJ
  obtain ⟨xb,vg,vf,xk3,xk4,xi1,xi2,xi3,xi4,vi,vh,xd3,xd4,rfl⟩:=hxA.shape
  have iK:Ro hp1 nx1 (ab hp1 nx1 (some [[.v (.bool xb),.rs vg vf xk3 xk4,.rs xi1 xi2 xi3 xi4,.rs vi vh xd3 xd4]])) (nx1+1):=cN
  have Xe:=oF.ro iK
  obtain ⟨aT,ar,F2,r2,mi,ir⟩:=f131 Xe hxA (W0 i az) (by omega)
  have Lr:=ir.le
  have tl:ns.drop i=ns[i]::ns.drop (i+1):=zO az
  have pi:fF t1 (ns.drop i)=rb (aV t1 ns[i]) fun c t=>rb (fF t (ns.drop (i+1))) fun cs t=>(.ok (c::cs),t):=by rw[tl];rfl
  simp[t21,t19,t20,t0,bn,bG,-ag,aa,aG]
  refine ae r2 ?_
  have oi:∀q,q<nx1->q∉F1->aT q=hp1 q:=fun q u1 u2=>by rw[ir.ah q (by omega) u2];simp[show ¬q=nx1 by omega]
  have Hv:∀q,q<nx1->q∉F1->q∉F2:=fun q u1 u2 e=>(ir.sub q e).elim u2 (by omega)
  cases hl:aV t1 ns[i] with
  |mk o t4 =>
   rw[hl]at mi
   cases o with
   |error e =>
    have he:¬e=0:=eG hl
    have KJ:aT (nx+1+1)=some [[nS,.str []]]:=by rw[oi _ (by omega) (BC _ (by omega) (by omega))];exact V9
    simp[gV,he,t10,KJ,aa]
    rw[pi,hl]
    simp only[rb]
    exact ⟨F2,rfl,⟨he,t4.old,(mi.more (by omega)).cQ (Hv _ (by omega) (BC _ (by omega) (by omega)))⟩,(nn.trans ((iK.fr F1).trans ir)).sM (zD _) fun r u1 u2=>by
     simp[show ¬r=nx+1+1 from fun e=>u2.elim (by omega) fun q=>Hv _ (by omega) (BC _ (by omega) (by omega)) (e▸q)]⟩
   |ok c =>
    have IK:=hW.lt
    have Xc:dD aT ar 1 (cs.map kf) y:=hW.ah (by omega) fun q hq=>oi q (IK q hq) (By q hq).2
    obtain ⟨fW,a1,a2,a3⟩:=Xc.xO (bytes:=8) (new:=[kf c]) (by simp) (by simp;omega)
    simp only[kf,zZ,zV,zS,Nat.zero_add]at a1
    have w1:IntKind.wrap .i64 ((i:Int)+1)=((i+1:Nat):Int):=by rw[aj]<;>omega
    have hyn:∀q,q<nx+1+1+1->q∉bf y:=fun q h1 h2=>by have:=(By q h2).1;omega
    have WS:∀q,nx<=q->q<nx+1+1+1->fW q=hp1 q:=fun q h1 h2=>by rw[a3 q (by omega) (hyn q h2)];exact oi q (by omega) (BC q h1 h2)
    have Nx:∀q∈bf y,q∉F2:=fun q hq=>Hv q (IK q hq) (By q hq).2
    have mO:=mi.lt
    simp[gV,t12,t21,a1,w1,-Prod.exists]
    refine ⟨(i+1,t4,F2,cs++[c]),by simp only;omega,by simp only;omega,rfl,t19,t20,t0,t2,t3,t6,t9,t10,?_⟩
    have AA:dE fW (ar+1) rt rp rd F2 root t4 rootS (B+(i+1)):=(mi.more (by omega)).ah (by omega) fun q hq=>a3 q (by have:=mO q hq;omega) fun e=>Nx q e hq
    have mr:Fr F hp nx F2 fW (ar+1):=(nn.trans ((iK.fr F1).trans ir)).sM (by omega) fun r u1 u2=>a3 r (by omega) fun e=>u2.elim (fun q=>by have:=(By r e).1;omega) fun q=>Nx r e q
    refine ⟨by rw[WS nx (by omega) (by omega),kN,b0],by rw[WS _ (by omega) (by omega),Lk,b1],by rw[WS _ (by omega) (by omega),V9,b2],by omega,.inr ⟨ar,by omega,by simp,by simp[a2,kf]⟩,⟨by omega,fun e=>by have:=mO _ e;omega⟩,
     fun q h1 h2=>Hv q (by omega) (BC q h1 h2),AA,mr,?_,by simp[gj]⟩
    rw[pi,hl]
    simp only[rb]
    cases fF t4 (ns.drop (i+1)) with
    |mk o t5=>cases o<;>simp
 ·have pw:i=ns.length:=by omega
  subst pw
  have bn:¬(ns.length:Int)<(ns.length:Int):=by omega
  simp[t21,t20]
  rw[hT]
  refine abN (n:=n) (key:=key) (cs:=cs.map fun (c:Nat)=>(c:Int)) (a:=a) (b:=b) t2 t3 t6 t9 t10 t12 hkS YF hdS (by rw[qx];exact hW) kN Lk V9 (by omega) (by omega) (by omega) (by omega) (by omega) (by omega) (fun e=>by have:=(By _ e).1;omega) (fun e=>by have:=(By _ e).1;omega) (fun e=>by have:=(By _ e).1;omega) hr IY hb fq (by simp;omega) ⟨rfl,rfl⟩ fun L w hp' nx' g1 g2 g3 g4 => ?_
  simp only[wu,fF,rb,zT]
  rw[zZ,gj]at g3
  refine ⟨F1,⟨L,w,rfl,g3,fun r hr=>⟨by have:=g4 r hr;omega,fun e=>by have:=oF.lt r e;have:=g4 r hr;omega⟩⟩,?_,?_⟩
  ·exact (oF.more (by omega)).ah g1 fun r hr=>g2 r (oF.lt r hr) (fun e=>BC _ (by omega) (by omega) (e▸hr)) fun e=>(By r e).2 hr
  ·exact nn.sM g1 fun r u1 u2=>g2 r u1 (fun e=>u2.elim (by omega) fun q=>BC _ (by omega) (by omega) (e▸q)) fun e=>u2.elim (fun q=>by have:=(By r e).1;omega) fun q=>(By r e).2 q
end Go.Ai
namespace Go.Ai
open Go.Bt
theorem Fr.Ir {F L hp nx F2 aT ar kr o6} (hF:Fr F hp nx F2 aT ar) (hn:ar<=o6) (hk:∀r,r<ar->(r<nx/\r∉L\/r∈F2)->kr r=aT r):Fr (L++F) hp nx F2 kr o6 :=
 ⟨wF hF.le hn,fun r u1 u2=>by
  simp only[zJ,not_or]at u2
  rw[hk r (by have:=hF.le;omega) (.inl ⟨u1,u2.1⟩)];exact hF.ah r u1 u2.2,fun r hr=>(hF.sub r hr).imp (fun q=>zJ.2 (.inr q)) id⟩
theorem abP {hp nx rt rp rd F root t rootS B} (h:dE hp nx rt rp rd F root t rootS B) {n x:Nd} {nA xA:AV} (hn:iD n nA) {L:List Nat} (hx:DD hp nx L x xA) (Ly:∀r∈L,r∉F) (hr:ax n=true) (dj:n.leaf=false) (hj:1<n.kids.length) (fq:dO 5000 n) (nL:dO 5000 x) (hB:B<=800000000) :
  ∃v hp' nx' F',aY E 135 [.ptr rt 0 0,nA,iV 0,xA] hp nx v hp' nx' .e/\KC (fi t n 0 x).1 v/\rX hp' nx' rt rp rd F' root (fi t n 0 x) rootS (B+1)/\Fr (L++F) hp nx F' hp' nx':=by
 have main:=an (P:=fun v hp' nx'=>KC (fi t n 0 x).1 v/\∃F',rX hp' nx' rt rp rd F' root (fi t n 0 x) rootS (B+1)/\Fr (L++F) hp nx F' hp' nx') e135 (args:=[.ptr rt 0 0,nA,iV 0,xA]) rfl (hp:=hp) (nx:=nx) ?_
 ·obtain ⟨v,hp',nx',h1,h2,F',h3⟩:=main
  exact ⟨v,hp',nx',F',h1,h2,h3⟩
 have hf:=(aZ.of hr).inner dj
 have WR:0<n.keys.length:=by have:=hf.2.1;omega
 have vI:1<n.kids.length:=by omega
 have Hp:=hf.2.2.2 _ (zP vI)
 obtain ⟨c,hc⟩:∃c:Nat,n.kids[1]=(c:Int):=⟨(n.kids[1]).toNat,by simp only[ke,zN,decide_eq_true_eq]at Hp;omega⟩
 have hle:fi t n 0 x=rb (eD t c) fun o t=>(.ok (kP (mH x (n.keys[0]) o),0),t):=by
  simp[fi,zA vI,zA WR,hc]
 have kN:=hx
 have uQ:=hx.lt
 obtain ⟨k,i,d,rfl,⟨k1,k2,k4,rfl,jn⟩,⟨i1,i2,i4,rfl,kO⟩,⟨d1,d2,d4,rfl,AS⟩⟩:=hn
 obtain ⟨xk,_,xd,rfl,Tc,⟨EF,CL,EE,rfl,xiS⟩,QH,hLe⟩:=hx
 obtain ⟨vg,vf⟩:=Tc.one
 obtain ⟨vi,vh⟩:=QH.one
 have a1:cd 1 (.rs d1 d2 (n.kids.map bC) d4) (iV 1)=some (.rp [iV c]):=aS (k:=.i64) (j:=1) (n:=1) AS (by simp[zA vI,hc,bC])
 have a2:cd 1 (.rs k1 k2 (n.keys.map aN) k4) (iV 0)=some (.rp [.str n.keys[0]]):=aS (k:=.i64) (j:=0) (n:=1) jn (by simp[zA WR,aN])
 have hH:=(⟨_,rfl⟩:∃H1,H1=ab (ab (ab hp nx (some [[.v (.bool n.leaf),.rs k1 k2 (n.keys.map aN) k4,.rs i1 i2 (n.items.map bD.cells) i4,.rs d1 d2 (n.kids.map bC) d4]])) (nx+1) (some [[.v (.bool x.leaf),xk,.rs EF CL (x.items.map bD.cells) EE,xd]])) (nx+1+1) (some [[nS,.str []]]))
 obtain ⟨H1,fw⟩:=hH
 have tW:H1 nx=some [[.v (.bool n.leaf),.rs k1 k2 (n.keys.map aN) k4,.rs i1 i2 (n.items.map bD.cells) i4,.rs d1 d2 (n.kids.map bC) d4]]:=by simp[fw,show ¬nx=nx+1+1 by omega]
 have tn:H1 (nx+1)=some [[.v (.bool x.leaf),xk,.rs EF CL (x.items.map bD.cells) EE,xd]]:=by simp[fw]
 have vJ:H1 (nx+1+1)=some [[nS,.str []]]:=by simp[fw]
 have cX:Ro hp nx H1 (nx+1+1+1):=⟨by omega,fun r hr=>by simp[fw,show ¬r=nx by omega,show ¬r=nx+1 by omega,show ¬r=nx+1+1 by omega]⟩
 have h1:=h.ro cX
 have je:=h.lt
 obtain ⟨v2,aT,ar,F2,r2,q2,jd,iu⟩:=f132 h1 c (by omega)
 have AO:=iu.le
 have nF:∀q,nx<=q->q<nx+1+1+1->q∉F/\q∉F2/\aT q=H1 q:=fun q u1 u2=>by
  have hq:q∉F:=fun e=>by have:=je q e;omega
  exact ⟨hq,fun e=>(iu.sub q e).elim hq (by omega),iu.ah q (by omega) hq⟩
 have m0:=nF nx (by omega) (by omega)
 have m1:=nF (nx+1) (by omega) (by omega)
 have m2:=nF (nx+1+1) (by omega) (by omega)
 have p0:=m0.2.2.trans tW
 have p1:=m1.2.2.trans tn
 have p2:=m2.2.2.trans vJ
 have mO:=jd.lt
 have EJ:∀H:Heap,(∀r∈L,H r=hp r)->di H L=di hp L:=fun H hH=>by
  funext r
  simp only[di]
  split
  ·rename_i hr;exact hH r hr
  ·rfl
 have dn2:∀H:Heap,kl H L (nx+1+1)=H (nx+1+1):=fun H=>fL fun e=>by have:=uQ _ e;omega
 have Od:∀r∈F2,r∉L:=fun r hr e=>(iu.sub r hr).elim (Ly r e) fun q=>by have:=uQ r e;omega
 simp[c135,a1,a2,hc,-ag,-Int.natCast_add,<-fw,tW,tn,vJ,vg,vf,vi,vh]
 refine ae r2 ?_
 rw[hle]
 cases ht:eD t c with
 |mk ro t2 =>
  rw[ht]at q2 jd
  cases ro with
  |error e =>
   have he:¬e=0:=uw (by rw[ht])
   simp only[KB]at q2
   subst q2
   simp[eC,he,aa,aG,vg,vf,vi,vh,p0,p1,p2,show ¬nx=ar by omega,show ¬ar=nx by omega,show ¬nx=ar+1 by omega,show ¬ar+1=nx by omega,show ¬nx=ar+1+1 by omega,show ¬ar+1+1=nx by omega,show ¬nx+1=ar by omega,show ¬ar=nx+1 by omega,show ¬nx+1=ar+1 by omega,show ¬ar+1=nx+1 by omega,show ¬nx+1=ar+1+1 by omega,show ¬ar+1+1=nx+1 by omega,show ¬nx+1+1=ar by omega,show ¬ar=nx+1+1 by omega,show ¬nx+1+1=ar+1 by omega,show ¬ar+1=nx+1+1 by omega,show ¬nx+1+1=ar+1+1 by omega,show ¬ar+1+1=nx+1+1 by omega,show ¬ar=ar+1+1 by omega,show ¬ar+1+1=ar by omega]
   refine ⟨rfl,F2,⟨he,t2.old,(jd.ah (nx':=ar+1) (by omega) fun r hr => ?_)⟩,((cX.fr F).trans iu).Ir (by omega) fun r u1 u2 => ?_⟩
   ·have:=mO r hr
    simp[show ¬r=ar by omega,show ¬r=nx+1+1 from fun e=>m2.2.1 (e▸hr)]
   ·simp[show ¬r=ar by omega,show ¬r=nx+1+1 from fun e=>u2.elim (by omega) (fun q=>m2.2.1 (e▸q))]
  |ok o =>
   obtain ⟨y,DJ,rfl⟩:=q2
   have oE:=(h1.nv (a:=c) (n:=o) (by rw[ht])).1
   have hy:=DJ
   obtain ⟨L0,Le,Ld,Lc,Lb,Li,Lh,Lg,Lf,LR,LQ,Fv,LO,rfl⟩:=hy.shape
   obtain ⟨Ni,Nh,Ng,_⟩:=hy.cl
   obtain ⟨x0,Xb,e0⟩:=kN.I3
   obtain ⟨z,hz,rz⟩:=Uv x o _ _ Xb DJ (n.keys[0]) (by have:=nL.1;have:=oE.1;omega) (by have:=nL.2.1;have:=oE.2.1;omega) (by have:=nL.2.2;have:=oE.2.2;omega) (by have:=nL.1;have:=oE.1;omega) (by have:=nL.2.1;have:=oE.2.1;omega) (by have:=nL.2.2;have:=oE.2.2;omega)
   have WN:=nL.join oE (k:=n.keys[0])
   obtain ⟨pA,xG,Cp⟩:=f133 _ z hz (by have:=WN.1;omega) (by have:=WN.2.1;omega) (by have:=WN.2.2;omega)
   obtain ⟨pcl,pz,pk,rfl,po⟩:=xG.cl
   simp[aa,aG,vg,vf,vi,vh,p0,p1,p2,a2,show ¬nx=ar by omega,show ¬ar=nx by omega,show ¬nx=ar+1 by omega,show ¬ar+1=nx by omega,show ¬nx=ar+1+1 by omega,show ¬ar+1+1=nx by omega,show ¬nx+1=ar by omega,show ¬ar=nx+1 by omega,show ¬nx+1=ar+1 by omega,show ¬ar+1=nx+1 by omega,show ¬nx+1=ar+1+1 by omega,show ¬ar+1+1=nx+1 by omega,show ¬nx+1+1=ar by omega,show ¬ar=nx+1+1 by omega,show ¬nx+1+1=ar+1 by omega,show ¬ar+1=nx+1+1 by omega,show ¬nx+1+1=ar+1+1 by omega,show ¬ar+1+1=nx+1+1 by omega,show ¬ar=ar+1+1 by omega,show ¬ar+1+1=ar by omega,-ag,-Int.natCast_add]
   refine ae (ul (args:=[.agg [.v (.bool x.leaf),xk,.rs EF CL (x.items.map bD.cells) EE,xd],.str (n.keys[0]),.agg [.v (.bool L0),.rs Le Ld Lc Lb,.rs Li Lh Lg Lf,.rs LR LQ Fv LO]]) (args0:=[x0,.str (n.keys[0]),.agg [.v (.bool L0),.rs Le Ld Lc Lb,.rs Li Lh Lg Lf,.rs LR LQ Fv LO]]) L (by
    rw[EJ _ fun r hr=>by
     have u1:=uQ r hr
     simp[show ¬r=ar by omega,show ¬r=ar+1 by omega,show ¬r=ar+1+1 by omega]
     rw[iu.ah r (by omega) (Ly r hr)]
     exact cX.ah r u1]
    simp[br,e0,nN,Ni,Nh,Ng]) (rz _ _)) ?_
   simp[aa,aG,vg,vf,vi,vh,p0,p1,p2,a2,show ¬nx=ar by omega,show ¬ar=nx by omega,show ¬nx=ar+1 by omega,show ¬ar+1=nx by omega,show ¬nx=ar+1+1 by omega,show ¬ar+1+1=nx by omega,show ¬nx+1=ar by omega,show ¬ar=nx+1 by omega,show ¬nx+1=ar+1 by omega,show ¬ar+1=nx+1 by omega,show ¬nx+1=ar+1+1 by omega,show ¬ar+1+1=nx+1 by omega,show ¬nx+1+1=ar by omega,show ¬ar=nx+1+1 by omega,show ¬nx+1+1=ar+1 by omega,show ¬ar+1=nx+1+1 by omega,show ¬nx+1+1=ar+1+1 by omega,show ¬ar+1+1=nx+1+1 by omega,show ¬ar=ar+1+1 by omega,show ¬ar+1+1=ar by omega,-ag,-Int.natCast_add]
   refine ap (Cp _ _) ?_
   simp[aa,aG,vg,vf,vi,vh,p0,p1,p2,dn2,a2,show ¬nx=ar by omega,show ¬ar=nx by omega,show ¬nx=ar+1 by omega,show ¬ar+1=nx by omega,show ¬nx=ar+1+1 by omega,show ¬ar+1+1=nx by omega,show ¬nx+1=ar by omega,show ¬ar=nx+1 by omega,show ¬nx+1=ar+1 by omega,show ¬ar+1=nx+1 by omega,show ¬nx+1=ar+1+1 by omega,show ¬ar+1+1=nx+1 by omega,show ¬nx+1+1=ar by omega,show ¬ar=nx+1+1 by omega,show ¬nx+1+1=ar+1 by omega,show ¬ar+1=nx+1+1 by omega,show ¬nx+1+1=ar+1+1 by omega,show ¬ar+1+1=nx+1+1 by omega,show ¬ar=ar+1+1 by omega,show ¬ar+1+1=ar by omega,-ag,-Int.natCast_add]
   refine ⟨?_,⟨_,xG,rfl⟩,F2,(jd.ah (by omega) fun r hr => ?_),((cX.fr F).trans iu).Ir (by omega) fun r u1 u2 => ?_⟩
   ·exact po
   ·have:=mO r hr
    simp[show ¬r=nx+1+1 from fun e=>m2.2.1 (e▸hr)]
    rw[fL (Od r hr)]
    simp[show ¬r=ar by omega,show ¬r=ar+1 by omega,show ¬r=ar+1+1 by omega]
   ·have hrL:r∉L:=u2.elim (fun q=>q.2) (Od r)
    simp[show ¬r=nx+1+1 from fun e=>u2.elim (by omega) (fun q=>m2.2.1 (e▸q))]
    rw[fL hrL]
    simp[show ¬r=ar by omega,show ¬r=ar+1 by omega,show ¬r=ar+1+1 by omega]
theorem abO {hp nx rt rp rd F root t rootS B} (h:dE hp nx rt rp rd F root t rootS B) {n x:Nd} {nA xA:AV} (hn:iD n nA) {L:List Nat} (hx:DD hp nx L x xA) (Ly:∀r∈L,r∉F) (hr:ax n=true) (dj:n.leaf=false) {j:Nat} (hj:j+1<n.kids.length) (fq:dO 5000 n) (nL:dO 5000 x) (hB:B<=800000000) :
  ∃v hp' nx' F',aY E 135 [.ptr rt 0 0,nA,iV (j+1:Nat),xA] hp nx v hp' nx' .e/\KC (fi t n (j+1) x).1 v/\rX hp' nx' rt rp rd F' root (fi t n (j+1) x) rootS (B+1)/\Fr (L++F) hp nx F' hp' nx':=by
 have main:=an (P:=fun v hp' nx'=>KC (fi t n (j+1) x).1 v/\∃F',rX hp' nx' rt rp rd F' root (fi t n (j+1) x) rootS (B+1)/\Fr (L++F) hp nx F' hp' nx') e135 (args:=[.ptr rt 0 0,nA,iV (j+1:Nat),xA]) rfl (hp:=hp) (nx:=nx) ?_
 ·obtain ⟨v,hp',nx',h1,h2,F',h3⟩:=main
  exact ⟨v,hp',nx',F',h1,h2,h3⟩
 have hf:=(aZ.of hr).inner dj
 have WR:j<n.keys.length:=by have:=hf.2.1;omega
 have vI:j<n.kids.length:=by omega
 have Hp:=hf.2.2.2 _ (zP vI)
 obtain ⟨c,hc⟩:∃c:Nat,n.kids[j]=(c:Int):=⟨(n.kids[j]).toNat,by simp only[ke,zN,decide_eq_true_eq]at Hp;omega⟩
 have hle:fi t n (j+1) x=rb (eD t c) fun o t=>(.ok (kP (mH o (n.keys[j]) x),j),t):=by
  simp[fi,zA vI,zA WR,hc]
 have kN:=hx
 have uQ:=hx.lt
 obtain ⟨k,i,d,rfl,⟨k1,k2,k4,rfl,jn⟩,⟨i1,i2,i4,rfl,kO⟩,⟨d1,d2,d4,rfl,AS⟩⟩:=hn
 obtain ⟨xk,_,xd,rfl,Tc,⟨EF,CL,EE,rfl,xiS⟩,QH,hLe⟩:=hx
 obtain ⟨vg,vf⟩:=Tc.one
 obtain ⟨vi,vh⟩:=QH.one
 have a1:cd 1 (.rs d1 d2 (n.kids.map bC) d4) (iV j)=some (.rp [iV c]):=aS (k:=.i64) (j:=j) (n:=1) AS (by simp[zA vI,hc,bC])
 have a2:cd 1 (.rs k1 k2 (n.keys.map aN) k4) (iV j)=some (.rp [.str n.keys[j]]):=aS (k:=.i64) (j:=j) (n:=1) jn (by simp[zA WR,aN])
 have hjb:j<=5000:=by have:=fq.2.2;omega
 have w1:IntKind.wrap .i64 (((j+1:Nat):Int)-1)=(j:Int):=by rw[aj]<;>omega
 have w2:IntKind.wrap .i64 ((j:Int)+2)=((j+2:Nat):Int):=by rw[aj]<;>omega
 have n0:¬((j+1:Nat):Int)=0:=by omega
 have n1:¬(j:Int)=((j+1:Nat):Int):=by omega
 have hH:=(⟨_,rfl⟩:∃H1,H1=ab (ab (ab hp nx (some [[.v (.bool n.leaf),.rs k1 k2 (n.keys.map aN) k4,.rs i1 i2 (n.items.map bD.cells) i4,.rs d1 d2 (n.kids.map bC) d4]])) (nx+1) (some [[.v (.bool x.leaf),xk,.rs EF CL (x.items.map bD.cells) EE,xd]])) (nx+1+1) (some [[nS,.str []]]))
 obtain ⟨H1,fw⟩:=hH
 have tW:H1 nx=some [[.v (.bool n.leaf),.rs k1 k2 (n.keys.map aN) k4,.rs i1 i2 (n.items.map bD.cells) i4,.rs d1 d2 (n.kids.map bC) d4]]:=by simp[fw,show ¬nx=nx+1+1 by omega]
 have tn:H1 (nx+1)=some [[.v (.bool x.leaf),xk,.rs EF CL (x.items.map bD.cells) EE,xd]]:=by simp[fw]
 have vJ:H1 (nx+1+1)=some [[nS,.str []]]:=by simp[fw]
 have cX:Ro hp nx H1 (nx+1+1+1):=⟨by omega,fun r hr=>by simp[fw,show ¬r=nx by omega,show ¬r=nx+1 by omega,show ¬r=nx+1+1 by omega]⟩
 have h1:=h.ro cX
 have je:=h.lt
 obtain ⟨v2,aT,ar,F2,r2,q2,jd,iu⟩:=f132 h1 c (by omega)
 have AO:=iu.le
 have nF:∀q,nx<=q->q<nx+1+1+1->q∉F/\q∉F2/\aT q=H1 q:=fun q u1 u2=>by
  have hq:q∉F:=fun e=>by have:=je q e;omega
  exact ⟨hq,fun e=>(iu.sub q e).elim hq (by omega),iu.ah q (by omega) hq⟩
 have m0:=nF nx (by omega) (by omega)
 have m1:=nF (nx+1) (by omega) (by omega)
 have m2:=nF (nx+1+1) (by omega) (by omega)
 have p0:=m0.2.2.trans tW
 have p1:=m1.2.2.trans tn
 have p2:=m2.2.2.trans vJ
 have mO:=jd.lt
 have EJ:∀H:Heap,(∀r∈L,H r=hp r)->di H L=di hp L:=fun H hH=>by
  funext r
  simp only[di]
  split
  ·rename_i hr;exact hH r hr
  ·rfl
 have dn2:∀H:Heap,kl H L (nx+1+1)=H (nx+1+1):=fun H=>fL fun e=>by have:=uQ _ e;omega
 have Od:∀r∈F2,r∉L:=fun r hr e=>(iu.sub r hr).elim (Ly r e) fun q=>by have:=uQ r e;omega
 simp[c135,w1,w2,n0,n1,a1,a2,hc,-ag,-Int.natCast_add,<-fw,tW,tn,vJ,vg,vf,vi,vh]
 refine ae r2 ?_
 rw[hle]
 cases ht:eD t c with
 |mk ro t2 =>
  rw[ht]at q2 jd
  cases ro with
  |error e =>
   have he:¬e=0:=uw (by rw[ht])
   simp only[KB]at q2
   subst q2
   simp[eC,he,aa,aG,vg,vf,vi,vh,p0,p1,p2,show ¬nx=ar by omega,show ¬ar=nx by omega,show ¬nx=ar+1 by omega,show ¬ar+1=nx by omega,show ¬nx=ar+1+1 by omega,show ¬ar+1+1=nx by omega,show ¬nx+1=ar by omega,show ¬ar=nx+1 by omega,show ¬nx+1=ar+1 by omega,show ¬ar+1=nx+1 by omega,show ¬nx+1=ar+1+1 by omega,show ¬ar+1+1=nx+1 by omega,show ¬nx+1+1=ar by omega,show ¬ar=nx+1+1 by omega,show ¬nx+1+1=ar+1 by omega,show ¬ar+1=nx+1+1 by omega,show ¬nx+1+1=ar+1+1 by omega,show ¬ar+1+1=nx+1+1 by omega,show ¬ar=ar+1+1 by omega,show ¬ar+1+1=ar by omega]
   refine ⟨rfl,F2,⟨he,t2.old,(jd.ah (nx':=ar+1) (by omega) fun r hr => ?_)⟩,((cX.fr F).trans iu).Ir (by omega) fun r u1 u2 => ?_⟩
   ·have:=mO r hr
    simp[show ¬r=ar by omega,show ¬r=nx+1+1 from fun e=>m2.2.1 (e▸hr)]
   ·simp[show ¬r=ar by omega,show ¬r=nx+1+1 from fun e=>u2.elim (by omega) (fun q=>m2.2.1 (e▸q))]
  |ok o =>
   obtain ⟨y,DJ,rfl⟩:=q2
   have oE:=(h1.nv (a:=c) (n:=o) (by rw[ht])).1
   have hy:=DJ
   obtain ⟨L0,Le,Ld,Lc,Lb,Li,Lh,Lg,Lf,LR,LQ,Fv,LO,rfl⟩:=hy.shape
   obtain ⟨Ni,Nh,Ng,_⟩:=hy.cl
   obtain ⟨x0,Xb,e0⟩:=kN.I3
   obtain ⟨z,hz,rz⟩:=Uv o x _ _ DJ Xb (n.keys[j]) (by have:=nL.1;have:=oE.1;omega) (by have:=nL.2.1;have:=oE.2.1;omega) (by have:=nL.2.2;have:=oE.2.2;omega) (by have:=nL.1;have:=oE.1;omega) (by have:=nL.2.1;have:=oE.2.1;omega) (by have:=nL.2.2;have:=oE.2.2;omega)
   have WN:=oE.join nL (k:=n.keys[j])
   obtain ⟨pA,xG,Cp⟩:=f133 _ z hz (by have:=WN.1;omega) (by have:=WN.2.1;omega) (by have:=WN.2.2;omega)
   obtain ⟨pcl,pz,pk,rfl,po⟩:=xG.cl
   simp[aa,aG,vg,vf,vi,vh,p0,p1,p2,a2,show ¬nx=ar by omega,show ¬ar=nx by omega,show ¬nx=ar+1 by omega,show ¬ar+1=nx by omega,show ¬nx=ar+1+1 by omega,show ¬ar+1+1=nx by omega,show ¬nx+1=ar by omega,show ¬ar=nx+1 by omega,show ¬nx+1=ar+1 by omega,show ¬ar+1=nx+1 by omega,show ¬nx+1=ar+1+1 by omega,show ¬ar+1+1=nx+1 by omega,show ¬nx+1+1=ar by omega,show ¬ar=nx+1+1 by omega,show ¬nx+1+1=ar+1 by omega,show ¬ar+1=nx+1+1 by omega,show ¬nx+1+1=ar+1+1 by omega,show ¬ar+1+1=nx+1+1 by omega,show ¬ar=ar+1+1 by omega,show ¬ar+1+1=ar by omega,w1,w2,n0,n1,-ag,-Int.natCast_add]
   refine ae (ul (args:=[.agg [.v (.bool L0),.rs Le Ld Lc Lb,.rs Li Lh Lg Lf,.rs LR LQ Fv LO],.str (n.keys[j]),.agg [.v (.bool x.leaf),xk,.rs EF CL (x.items.map bD.cells) EE,xd]]) (args0:=[.agg [.v (.bool L0),.rs Le Ld Lc Lb,.rs Li Lh Lg Lf,.rs LR LQ Fv LO],.str (n.keys[j]),x0]) L (by
    rw[EJ _ fun r hr=>by
     have u1:=uQ r hr
     simp[show ¬r=ar by omega,show ¬r=ar+1 by omega,show ¬r=ar+1+1 by omega]
     rw[iu.ah r (by omega) (Ly r hr)]
     exact cX.ah r u1]
    simp[br,e0,nN,Ni,Nh,Ng]) (rz _ _)) ?_
   simp[aa,aG,vg,vf,vi,vh,p0,p1,p2,a2,show ¬nx=ar by omega,show ¬ar=nx by omega,show ¬nx=ar+1 by omega,show ¬ar+1=nx by omega,show ¬nx=ar+1+1 by omega,show ¬ar+1+1=nx by omega,show ¬nx+1=ar by omega,show ¬ar=nx+1 by omega,show ¬nx+1=ar+1 by omega,show ¬ar+1=nx+1 by omega,show ¬nx+1=ar+1+1 by omega,show ¬ar+1+1=nx+1 by omega,show ¬nx+1+1=ar by omega,show ¬ar=nx+1+1 by omega,show ¬nx+1+1=ar+1 by omega,show ¬ar+1=nx+1+1 by omega,show ¬nx+1+1=ar+1+1 by omega,show ¬ar+1+1=nx+1+1 by omega,show ¬ar=ar+1+1 by omega,show ¬ar+1+1=ar by omega,w1,w2,n0,n1,-ag,-Int.natCast_add]
   refine ap (Cp _ _) ?_
   simp[aa,aG,vg,vf,vi,vh,p0,p1,p2,dn2,a2,show ¬nx=ar by omega,show ¬ar=nx by omega,show ¬nx=ar+1 by omega,show ¬ar+1=nx by omega,show ¬nx=ar+1+1 by omega,show ¬ar+1+1=nx by omega,show ¬nx+1=ar by omega,show ¬ar=nx+1 by omega,show ¬nx+1=ar+1 by omega,show ¬ar+1=nx+1 by omega,show ¬nx+1=ar+1+1 by omega,show ¬ar+1+1=nx+1 by omega,show ¬nx+1+1=ar by omega,show ¬ar=nx+1+1 by omega,show ¬nx+1+1=ar+1 by omega,show ¬ar+1=nx+1+1 by omega,show ¬nx+1+1=ar+1+1 by omega,show ¬ar+1+1=nx+1+1 by omega,show ¬ar=ar+1+1 by omega,show ¬ar+1+1=ar by omega,w1,w2,n0,n1,-ag,-Int.natCast_add]
   refine ⟨?_,⟨_,xG,rfl⟩,F2,(jd.ah (by omega) fun r hr => ?_),((cX.fr F).trans iu).Ir (by omega) fun r u1 u2 => ?_⟩
   ·exact po
   ·have:=mO r hr
    simp[show ¬r=nx+1+1 from fun e=>m2.2.1 (e▸hr)]
    rw[fL (Od r hr)]
    simp[show ¬r=ar by omega,show ¬r=ar+1 by omega,show ¬r=ar+1+1 by omega]
   ·have hrL:r∉L:=u2.elim (fun q=>q.2) (Od r)
    simp[show ¬r=nx+1+1 from fun e=>u2.elim (by omega) (fun q=>m2.2.1 (e▸q))]
    rw[fL hrL]
    simp[show ¬r=ar by omega,show ¬r=ar+1 by omega,show ¬r=ar+1+1 by omega]
end Go.Ai
namespace Go.Ai
open Go.Bt
def ff:dG->Prop
 |.one n=>∀c∈n.kids,0<=c
 |.two _ _ _=>True
theorem LA (t:T) (a:Nd) (k:Bs) (b:Nd):dK t (.two a k b)=rb (fF t [a,b]) fun cs t=>aV t ⟨false,[k],[],cs.map fun (c:Nat)=>(c:Int)⟩:=by
 simp only[dK,fF]
 cases h:aV t a with
 |mk r t2 =>
  cases r with
  |error e=>simp[rb]
  |ok c =>
   simp only[rb]
   cases h:aV t2 b with
   |mk r t3=>cases r<;>simp[rb]
theorem Ol {k hp r i o}:fO (k+1) hp (.ptr r i o)=some (.ptr r i o):=by
 rw[fO]
 split<;>rfl
theorem H6 {E:Env} {f:Nat} {hp:Heap} {nx:Nat} {L:List Nat} {n:Nd} {r:Nat} {x v:AV} {hp':Heap} {nx':Nat} {k:Kd} (hx:DD hp nx L n x) {x0:AV} (e0:fO 6 (di hp L) x=some x0) (h:aY E f [.ptr r 0 0,x0] (kl hp L) nx v hp' nx' k):aY E f [.ptr r 0 0,x] hp nx v hp' nx' .e :=
 ul L (by simp[br,e0,Ol]) h
theorem SE {hp nx rt rp rd F root t rootS B} (h:dE hp nx rt rp rd F root t rootS B) {PA:AV} {xa xb:Nd} {key:Bs} (xG:jQ (.two xa key xb) PA) (oh:sg 5000 (.two xa key xb)) (hB:B<=800000000) :
  ∃hp' nx' F',aY E 110 [.ptr rt 0 0,PA] hp nx (gV (dK t (.two xa key xb)).1) hp' nx' .e/\rX hp' nx' rt rp rd F' root (dK t (.two xa key xb)) rootS (B+10)/\Fr F hp nx F' hp' nx':=by
 have main:=an (P:=fun v hp' nx'=>v=gV (dK t (.two xa key xb)).1/\∃F',rX hp' nx' rt rp rd F' root (dK t (.two xa key xb)) rootS (B+10)/\Fr F hp nx F' hp' nx') e110 (args:=[.ptr rt 0 0,PA]) rfl (hp:=hp) (nx:=nx) ?_
 ·obtain ⟨v,hp',nx',h1,rfl,F',h2⟩:=main
  exact ⟨hp',nx',F',h1,h2⟩
 have je:=h.lt
 rw[LA]
 obtain ⟨rows,z,rfl,hz,DK,eI⟩:=xG.rows
 obtain ⟨ns,IQ⟩:∃ns,ns=[xa,xb]:=⟨_,rfl⟩
 have NS:La (.two xa key xb)=key:=rfl
 rw[NS]at xG ⊢
 have W0:∀i (hi:i<ns.length),X4 ns[i]:=by
  intro i hi
  subst IQ
  simp only[zV,zS]at hi
  have h1:=oh.1;have h2:=oh.2
  rcases (by omega:i=0\/i=1) with rfl|rfl
  ·exact ⟨by have:=h1.1;simp;omega,by have:=h1.2.1;simp;omega,by have:=h1.2.2;simp;omega⟩
  ·exact ⟨by have:=h2.1;simp;omega,by have:=h2.2.1;simp;omega,by have:=h2.2.2;simp;omega⟩
 have Se:ns.length=2:=by rw[IQ];rfl
 have aeA:rows.length=ns.length:=by rw[DK,IQ];rfl
 have aaM:∀i (hi:i<ns.length),∃x,iD ns[i] x/\rows[i]?=some x.cells:=by subst IQ;exact eI
 clear eI DK
 have eI:=aaM
 have DK:=aeA
 rw[<-IQ]
 obtain ⟨zn,zs,zc,rfl,CM⟩:=hz
 have bZ:Ro hp nx (ab hp nx (some [[.rs zn zs rows zc,.str key]])) (nx+1):=cN
 simp[c110,DK,Se]
 obtain ⟨H1,fw⟩:∃H1,H1=ab hp nx (some [[.rs zn zs rows zc,.str key]]):=⟨_,rfl⟩
 rw[<-fw]at bZ ⊢
 have b0:H1 nx=some [[.rs zn zs rows zc,.str key]]:=by simp[fw]
 have nF:∀q,nx<=q->q∉F:=fun q hq e=>by have:=je q e;omega
 refine aM (I:=fun (g:Nat×T×List Nat×List Nat) s=>∃y,g.1<=ns.length/\s.tm 46=iV g.1/\s.tm 44=.rs zn zs rows zc/\s.tm 45=iV ns.length/\s.tm 0=.ptr rt 0 0 /\
   s.tm 3=.ptr nx 0 0/\s.tm 7=y/\s.hp nx=H1 nx/\nx+1<=s.nx/\dD s.hp s.nx 1 (g.2.2.2.map kf) y /\
   (∀q∈bf y,nx+1<=q/\q∉g.2.2.1)/\nx∉g.2.2.1/\dE s.hp s.nx rt rp rd g.2.2.1 root g.2.1 rootS (B+g.1)/\Fr F hp nx g.2.2.1 s.hp s.nx /\
   fF t ns=rb (fF g.2.1 (ns.drop g.1)) (fun r t=>(.ok (g.2.2.2++r),t))/\g.2.2.2.length=g.1) (fun g=>ns.length-g.1) (0,t,F,[]) ?_ ?_
 ·refine ⟨nS,by simp,by simp,by simp,by simp[Se],by simp,by simp,by simp,rfl,zD _,.inl ⟨rfl,rfl⟩,by simp,nF _ (zD _),(h.ro bZ).more (by omega),bZ.fr F,?_,rfl⟩
  simp only[zb,zh]
  cases hl:fF t ns with
  |mk r t2=>cases r<;>rfl
 rintro ⟨i,t1,F1,cs⟩ tm hp1 nx1 ⟨y,hi,t21,t19,t20,t0,t3,t12,kN,YC,hW,By,BC,oF,nn,ES,gj⟩
 simp only at hi t21 t19 t20 t0 t3 t12 kN YC hW By BC oF nn ES gj
 rw[ES]
 rw[b0]at kN
 by_cases az:i<ns.length
 ·have bn:(i:Int)<(ns.length:Int):=by omega
  obtain ⟨x,hxA,TJ⟩:=eI i az
  have bG:=aS (n:=4) (k:=.i64) (cap:=zc) CM TJ
  obtain ⟨xb,vg,vf,xk3,xk4,xi1,xi2,xi3,xi4,vi,vh,xd3,xd4,rfl⟩:=hxA.shape
  have iK:Ro hp1 nx1 (ab hp1 nx1 (some [[.v (.bool xb),.rs vg vf xk3 xk4,.rs xi1 xi2 xi3 xi4,.rs vi vh xd3 xd4]])) (nx1+1):=cN
  have Xe:=oF.ro iK
  obtain ⟨aT,ar,F2,r2,mi,ir⟩:=f131 Xe hxA (W0 i az) (by omega)
  have Lr:=ir.le
  have tl:ns.drop i=ns[i]::ns.drop (i+1):=zO az
  have pi:fF t1 (ns.drop i)=rb (aV t1 ns[i]) fun c t=>rb (fF t (ns.drop (i+1))) fun cs t=>(.ok (c::cs),t):=by rw[tl];rfl
  simp[t21,t19,t20,t0,bn,bG,-ag,aa,aG]
  refine ae r2 ?_
  have oi:∀q,q<nx1->q∉F1->aT q=hp1 q:=fun q u1 u2=>by rw[ir.ah q (by omega) u2];simp[show ¬q=nx1 by omega]
  have Hv:∀q,q<nx1->q∉F1->q∉F2:=fun q u1 u2 e=>(ir.sub q e).elim u2 (by omega)
  cases hl:aV t1 ns[i] with
  |mk o t4 =>
   rw[hl]at mi
   cases o with
   |error e =>
    have he:¬e=0:=eG hl
    simp[gV,he]
    rw[pi,hl]
    simp only[rb]
    exact ⟨trivial,F2,⟨he,t4.old,mi.more (by omega)⟩,nn.trans ((iK.fr F1).trans ir)⟩
   |ok c =>
    have IK:=hW.lt
    have Xc:dD aT ar 1 (cs.map kf) y:=hW.ah (by omega) fun q hq=>oi q (IK q hq) (By q hq).2
    obtain ⟨fW,a1,a2,a3⟩:=Xc.xO (bytes:=8) (new:=[kf c]) (by simp) (by simp;omega)
    simp only[kf,zZ,zV,zS,Nat.zero_add]at a1
    have w1:IntKind.wrap .i64 ((i:Int)+1)=((i+1:Nat):Int):=by rw[aj]<;>omega
    have hyn:nx∉bf y:=fun h2=>by have:=(By _ h2).1;omega
    have WS:fW nx=hp1 nx:=by rw[a3 _ (by omega) hyn];exact oi _ (by omega) BC
    have Nx:∀q∈bf y,q∉F2:=fun q hq=>Hv q (IK q hq) (By q hq).2
    have mO:=mi.lt
    simp[gV,t12,t21,a1,w1,-Prod.exists]
    have AA:dE fW (ar+1) rt rp rd F2 root t4 rootS (B+(i+1)):=(mi.more (by omega)).ah (by omega) fun q hq=>a3 q (by have:=mO q hq;omega) fun e=>Nx q e hq
    have mr:Fr F hp nx F2 fW (ar+1):=(nn.trans ((iK.fr F1).trans ir)).sM (by omega) fun r u1 u2=>a3 r (by omega) fun e=>u2.elim (fun q=>by have:=(By r e).1;omega) fun q=>Nx r e q
    refine ⟨(i+1,t4,F2,cs++[c]),by simp only;omega,by simp only;omega,rfl,t19,t20,t0,t3,by rw[WS,kN,b0],by omega,.inr ⟨ar,by omega,by simp,by simp[a2,kf]⟩,⟨by omega,fun e=>by have:=mO _ e;omega⟩,
     Hv _ (by omega) BC,AA,mr,?_,by simp[gj]⟩
    rw[pi,hl]
    simp only[rb]
    cases fF t4 (ns.drop (i+1)) with
    |mk o t5=>cases o<;>simp
 ·have pw:i=ns.length:=by omega
  subst pw
  have bn:¬(ns.length:Int)<(ns.length:Int):=by omega
  have TH:=hW.one
  have w8:DD hp1 nx1 (bf y) ⟨false,[key],[],cs.map fun (c:Nat)=>(c:Int)⟩ (.agg [.v (.bool false),.rs false 1 [[.str key]] (some 1),nS,y]) :=
   ⟨_,_,y,rfl,.inl ⟨false,1,_,rfl,.inr rfl,by simp⟩,.v9,(by
    rcases hW with ⟨e1,rfl⟩|⟨r,e1,rfl,e2⟩
    ·exact .inl (by rw[qx];exact (show eV 1 (cs.map kf) _ by rw[e1];exact .v9))
    ·exact .inr ⟨r,e1,by simp,by rw[qx];exact e2⟩),by simp[bf]⟩
  obtain ⟨x0,Xb,e0⟩:=w8.I3
  have afj:dE (kl hp1 (bf y)) nx1 rt rp rd F1 root t1 rootS (B+ns.length):=oF.ah (zD _) fun r hr=>fL fun e=>(By r e).2 hr
  obtain ⟨aT,ar,F2,r2,mi,ir⟩:=f131 afj Xb ⟨by simp,by simp,by simp;omega⟩ (by omega)
  simp[t21,t20,t0,t3,kN,t12,TH.1,TH.2,aa]
  refine ae (H6 w8 e0 r2) ?_
  simp only[wu,fF,rb,zT]
  have hFd:Fr F hp nx F1 (kl hp1 (bf y)) nx1:=nn.sM (zD _) fun r u1 u2=>fL fun e=>u2.elim (fun q=>by have:=(By r e).1;omega) fun q=>(By r e).2 q
  cases hl:aV t1 ⟨false,[key],[],cs.map fun (c:Nat)=>(c:Int)⟩ with
  |mk o t4 =>
   rw[hl]at mi
   cases o with
   |error e =>
    simp[gV]
    exact ⟨F2,⟨eG hl,t4.old,mi.more (by omega)⟩,hFd.trans ir⟩
   |ok c =>
    simp[gV]
    exact ⟨F2,mi.more (by omega),hFd.trans ir⟩
theorem SF {hp nx rt rp rd F root t rootS B} (h:dE hp nx rt rp rd F root t rootS B) {PA:AV} {n:Nd} {L:List Nat} (xG:iY hp nx L (.one n) PA) (Ly:∀r∈L,r∉F) (oh:dO 5000 n) (yT:∀c∈n.kids,0<=c) (hB:B<=800000000) :
  ∃hp' nx' F',aY E 110 [.ptr rt 0 0,PA] hp nx (gV (dK t (.one n)).1) hp' nx' .e/\rX hp' nx' rt rp rd F' root (dK t (.one n)) rootS (B+10)/\Fr F hp nx F' hp' nx':=by
 have main:=an (P:=fun v hp' nx'=>v=gV (dK t (.one n)).1/\∃F',rX hp' nx' rt rp rd F' root (dK t (.one n)) rootS (B+10)/\Fr F hp nx F' hp' nx') e110 (args:=[.ptr rt 0 0,PA]) rfl (hp:=hp) (nx:=nx) ?_
 ·obtain ⟨v,hp',nx',h1,rfl,F',h2⟩:=main
  exact ⟨hp',nx',F',h1,h2⟩
 have je:=h.lt
 obtain ⟨x,z,V8,hz,rfl,tj⟩:∃x z,DD hp nx L n x/\(∃nil sz cap,z=.rs nil sz [x.cells] cap/\(nil=true\/sz=4)/\(nil=true->[x.cells]=[]))/\PA=.agg [z,.str []]/\(n.kids.length=1\/iD n x):=by
  rcases xG with ⟨rfl,x,z,h1,h2,rfl⟩|⟨n',x,c,e,h1,h2,rfl⟩
  ·exact ⟨x,z,h1.ndO,h2,rfl,.inr h1⟩
  ·cases e
   exact ⟨x,_,h2,⟨false,4,c,rfl,.inr rfl,by simp⟩,rfl,.inl h1⟩
 obtain ⟨zn,zs,zc,rfl,CM⟩:=hz
 have bG:=aS (n:=4) (k:=.i64) (cap:=zc) (j:=0) CM (by rfl)
 have kN:=V8
 have uQ:=V8.lt
 obtain ⟨xk,_,xd,rfl,Tc,⟨i1,i2,i4,rfl,xiS⟩,QH,hLe⟩:=V8
 obtain ⟨vg,vf⟩:=Tc.one
 obtain ⟨vi,vh⟩:=QH.one
 have GS:¬nx=nx+1:=by omega
 have bZ:∀X Y,Ro hp nx (ab (ab hp nx X) (nx+1) Y) (nx+1+1):=fun X Y=>⟨by omega,fun r hr=>by simp[show ¬r=nx by omega,show ¬r=nx+1 by omega]⟩
 have h1:=(h.ro (bZ (some [[.rs zn zs [[.v (.bool n.leaf),xk,.rs i1 i2 (n.items.map bD.cells) i4,xd]] zc,.str []]]) (some [[.v (.bool n.leaf),xk,.rs i1 i2 (n.items.map bD.cells) i4,xd]]))).more (B':=B+9) (by omega)
 have fin:∀X Y,dE (ab (ab hp nx X) (nx+1) Y) (nx+1+1) rt rp rd F root t rootS (B+10)/\Fr F hp nx F (ab (ab hp nx X) (nx+1) Y) (nx+1+1):=fun X Y=>⟨(h.ro (bZ X Y)).more (by omega),(bZ X Y).fr F⟩
 have lk:tM xk=some (iV n.keys.length):=by
  rcases Tc with ⟨_,_,_,rfl,_⟩|⟨r,_,rfl,_⟩<;>simp
 have ld:tM xd=some (iV n.kids.length):=by
  rcases QH with ⟨_,_,_,rfl,_⟩|⟨r,_,rfl,_⟩<;>simp
 simp only[AV.cells]at bG
 change cd 4 _ (iV 0)=some (.rp [.v (.bool n.leaf),xk,.rs i1 i2 (n.items.map bD.cells) i4,xd]) at bG
 by_cases hA:n.leaf=true/\n.keys=[]
 ·have hg:dK t (.one n)=(.ok 0,t):=by simp only[dK,if_pos hA]
  rw[hg]
  obtain ⟨hA1,hA2⟩:=hA
  have Sj:n.keys.length=0:=by rw[hA2];rfl
  rw[hA1]at bG
  rw[hA2]at lk
  simp[c110,hA1,bG,-ag,vg,vf,vi,vh,aa,aG,GS,lk,ld]
  exact ⟨rfl,F,(fin _ _).1,(fin _ _).2⟩
 ·by_cases dj:n.leaf=true
  ·have Sj:¬n.keys=[]:=fun e=>hA ⟨dj,e⟩
   by_cases tT:n.kids.length=1
   ·obtain ⟨c,hc⟩:∃c:Nat,n.kids=[(c:Int)]:=by
     match lP:n.kids,tT with
     |[c],_=>exact ⟨c.toNat,by have:=yT c (by rw[lP];simp);simp;omega⟩
    have hg:dK t (.one n)=(.ok c,t):=by simp only[dK,if_neg hA,if_pos tT];simp[hc]
    rw[hg]
    have aeZ:(n.kids.length:Int)=1:=by omega
    rw[dj]at bG
    rcases QH with ⟨y1,y2,y4,rfl,hyz⟩|⟨r,hr,rfl,Ha⟩
    ·have nh:=aS (n:=1) (k:=.i64) (cap:=y4) (j:=0) (cells:=[iV c]) hyz (by simp[hc,bC])
     change cd 1 _ (iV 0)=_ at nh
     simp[c110,dj,bG,-ag,vg,vf,vi,vh,aa,aG,GS,lk,ld,tT,nh,Sj]
     exact ⟨rfl,F,(fin _ _).1,(fin _ _).2⟩
    ·have uL:(n.kids.map bC).length=1:=by simp[tT]
     rw[uL]at bG
     have Wo:hp r=some [[iV c]]:=by rw[Ha,hc];rfl
     simp[c110,dj,bG,-ag,vg,vf,vi,vh,aa,aG,GS,lk,ld,tT,Wo,show ¬r=nx by omega,show ¬r=nx+1 by omega,Sj]
     exact ⟨rfl,F,(fin _ _).1,(fin _ _).2⟩
   ·have hNA:iD n (.agg [.v (.bool n.leaf),xk,.rs i1 i2 (n.items.map bD.cells) i4,xd]):=tj.resolve_left tT
    have IS:¬(n.kids.length:Int)=1:=by omega
    have hg:dK t (.one n)=aV t n:=by simp only[dK,if_neg hA,if_neg tT]
    rw[hg]
    obtain ⟨aT,ar,F2,r2,mi,ir⟩:=f131 h1 hNA ⟨by have:=oh.1;omega,by have:=oh.2.1;omega,by have:=oh.2.2;omega⟩ (by omega)
    have mr:=((bZ (some [[.rs zn zs [[.v (.bool n.leaf),xk,.rs i1 i2 (n.items.map bD.cells) i4,xd]] zc,.str []]]) (some [[.v (.bool n.leaf),xk,.rs i1 i2 (n.items.map bD.cells) i4,xd]])).fr F).trans ir
    rw[dj]at r2 bG
    simp[c110,dj,bG,-ag,vg,vf,vi,vh,aa,aG,GS,lk,ld,tT,IS,Sj]
    refine ae r2 ?_
    cases hl:aV t n with
    |mk o t4 =>
     rw[hl]at mi
     cases o with
     |error e=>simp[gV];exact ⟨F2,⟨eG hl,t4.old,mi.more (by omega)⟩,mr⟩
     |ok c=>simp[gV];exact ⟨F2,mi.more (by omega),mr⟩
  ·have dj:n.leaf=false:=by simpa using dj
   by_cases tT:n.kids.length=1
   ·obtain ⟨c,hc⟩:∃c:Nat,n.kids=[(c:Int)]:=by
     match lP:n.kids,tT with
     |[c],_=>exact ⟨c.toNat,by have:=yT c (by rw[lP];simp);simp;omega⟩
    have hg:dK t (.one n)=(.ok c,t):=by simp only[dK,if_neg hA,if_pos tT];simp[hc]
    rw[hg]
    have aeZ:(n.kids.length:Int)=1:=by omega
    rw[dj]at bG
    rcases QH with ⟨y1,y2,y4,rfl,hyz⟩|⟨r,hr,rfl,Ha⟩
    ·have nh:=aS (n:=1) (k:=.i64) (cap:=y4) (j:=0) (cells:=[iV c]) hyz (by simp[hc,bC])
     change cd 1 _ (iV 0)=_ at nh
     simp[c110,dj,bG,-ag,vg,vf,vi,vh,aa,aG,GS,lk,ld,tT,nh]
     exact ⟨rfl,F,(fin _ _).1,(fin _ _).2⟩
    ·have uL:(n.kids.map bC).length=1:=by simp[tT]
     rw[uL]at bG
     have Wo:hp r=some [[iV c]]:=by rw[Ha,hc];rfl
     simp[c110,dj,bG,-ag,vg,vf,vi,vh,aa,aG,GS,lk,ld,tT,Wo,show ¬r=nx by omega,show ¬r=nx+1 by omega]
     exact ⟨rfl,F,(fin _ _).1,(fin _ _).2⟩
   ·have hNA:iD n (.agg [.v (.bool n.leaf),xk,.rs i1 i2 (n.items.map bD.cells) i4,xd]):=tj.resolve_left tT
    have IS:¬(n.kids.length:Int)=1:=by omega
    have hg:dK t (.one n)=aV t n:=by simp only[dK,if_neg hA,if_neg tT]
    rw[hg]
    obtain ⟨aT,ar,F2,r2,mi,ir⟩:=f131 h1 hNA ⟨by have:=oh.1;omega,by have:=oh.2.1;omega,by have:=oh.2.2;omega⟩ (by omega)
    have mr:=((bZ (some [[.rs zn zs [[.v (.bool n.leaf),xk,.rs i1 i2 (n.items.map bD.cells) i4,xd]] zc,.str []]]) (some [[.v (.bool n.leaf),xk,.rs i1 i2 (n.items.map bD.cells) i4,xd]])).fr F).trans ir
    rw[dj]at r2 bG
    simp[c110,dj,bG,-ag,vg,vf,vi,vh,aa,aG,GS,lk,ld,tT,IS]
    refine ae r2 ?_
    cases hl:aV t n with
    |mk o t4 =>
     rw[hl]at mi
     cases o with
     |error e=>simp[gV];exact ⟨F2,⟨eG hl,t4.old,mi.more (by omega)⟩,mr⟩
     |ok c=>simp[gV];exact ⟨F2,mi.more (by omega),mr⟩
end Go.Ai
namespace Go.Ai
open Go.Bt
theorem iY.ah {hp nx L p v hp' nx'} (h:iY hp nx L p v) (hn:nx<=nx') (hk:∀r∈L,hp' r=hp r):iY hp' nx' L p v:=by
 rcases h with h|⟨n,x,c,e,h1,h2,h3⟩
 ·exact .inl h
 ·exact .inr ⟨n,x,c,e,h1,h2.ah hn hk,h3⟩
theorem iY.lt {hp nx L p v} (h:iY hp nx L p v):∀r∈L,r<nx:=by
 rcases h with ⟨rfl,_⟩|⟨n,x,c,e,h1,h2,h3⟩
 ·simp
 ·exact h2.lt
theorem iY.cl {hp nx L p v} (h:iY hp nx L p v):∃z k,v=.agg [z,k]/\z.one=true/\k.one=true:=by
 rcases h with ⟨_,h⟩|⟨n,x,c,e,h1,h2,rfl⟩
 ·exact h.cl.2
 ·exact ⟨_,_,rfl,rfl,rfl⟩
theorem j7.ah {hp nx lo F o v hp' nx'} (h:j7 hp nx lo F o v) (hn:nx<=nx') (hk:∀r,lo<=r->r∉F->r<nx->hp' r=hp r):j7 hp' nx' lo F o v:=by
 cases o with
 |error e=>exact h
 |ok p =>
  obtain ⟨L,w,h1,h2,h3⟩:=h
  exact ⟨L,w,h1,h2.ah hn fun r hr=>hk r (h3 r hr).1 (h3 r hr).2 (h2.lt r hr),h3⟩
theorem j7.lower {hp nx lo lo' F o v} (h:j7 hp nx lo F o v) (hl:lo'<=lo):j7 hp nx lo' F o v:=by
 cases o with
 |error e=>exact h
 |ok p =>
  obtain ⟨L,w,h1,h2,h3⟩:=h
  exact ⟨L,w,h1,h2,fun r hr=>⟨by have:=(h3 r hr).1;omega,(h3 r hr).2⟩⟩
theorem Cr {t:T} {n:Nd} {a b:Nat} {p:dG} {e:Nat} (h:(bL t n a b p).1=.error e):e≠0:=by
 cases p with
 |one x =>
  simp only[bL]at h
  cases hl:aV t x with
  |mk o t2=>rw[hl]at h;cases o with
   |ok c=>simp[rb]at h
   |error e'=>simp[rb]at h;subst h;exact eG hl
 |two x k y =>
  simp only[bL]at h
  cases hl:aV t x with
  |mk o t2=>rw[hl]at h;cases o with
   |error e'=>simp[rb]at h;subst h;exact eG hl
   |ok c =>
    simp only[rb]at h
    cases Az:aV t2 y with
    |mk o t3=>rw[Az]at h;cases o with
     |ok c=>simp at h
     |error e'=>simp at h;subst h;exact eG Az
def Ds:cC:=match c111.body with | .seq _ (.seq _ (.seq _ (.seq _ (.seq _ (.seq _ (.seq _ (.seq _ (.seq _ (.seq _ t)))))))))=>t|_=>.skip
def Dt:cC:=match c111.body with | .seq _ (.seq _ (.seq _ (.seq _ (.seq _ (.seq _ (.seq _ (.seq _ t)))))))=>t|_=>.skip
theorem Ux {hp:Heap} {nx rt rp rd:Nat} {F:List Nat} {root:Nat} {t:T} {rootS:Bs} {B q10 q12 q16 a b:Nat} {tm:Nat->AV} {P:AV->Heap->Nat->Prop} (h:dE hp nx rt rp rd F root t rootS B) {n:Nd} {nA PA:AV} {p:dG}
  (t0:tm 0=.ptr rt 0 0) (t10:tm 10=.ptr q10 0 0) (t12:tm 12=.ptr q12 0 0) (t16:tm 16=.ptr q16 0 0) (t17:tm 17=iV a) (t18:tm 18=iV b)
  (hn:iD n nA) (xG:jQ p PA) (xf:hp q12=some [nA.cells]) (Ra:hp q16=some [PA.cells]) (iC:hp q10=some [[nS,.str []]]) (QO:q10<nx) (f10:q10∉F)
  (oh:sg 5000 p) (hr:n.kids.length=n.keys.length+1) (IY:a<b) (hb:b<=n.kids.length) (fq:dO 5000 n) (hB:B<=800000000)
  (hP:∀v hp' nx' F',j7 hp' nx' nx F' (bL t n a b p).1 v->rX hp' nx' rt rp rd F' root (bL t n a b p) rootS (B+10)->nx<=nx'->(∀r,r<nx->r≠q10->r∉F->hp' r=hp r)->(∀r∈F',r∈F\/nx<=r)->P v hp' nx') :
  W (aY E) Ds (sc [.cell 10 (some 2),.t 11] P) ⟨tm,hp,nx⟩:=by
 obtain ⟨v,hp1,nx1,F1,r1,q1,oF,nn⟩:=f136 h hn xG oh hr IY hb fq hB
 obtain ⟨b0,k1,k2,k3,k4,i1,i2,i3,i4,d1,d2,d3,d4,rfl⟩:=hn.shape
 obtain ⟨pcl,pz,pk,rfl,po⟩:=xG.cl
 have hle:=nn.le
 have afB:q10∉F1:=fun e=>(nn.sub _ e).elim f10 (by omega)
 have KJ:hp1 q10=some [[nS,.str []]]:=by rw[nn.ah _ QO f10];exact iC
 simp only[AV.cells]at xf Ra
 simp[Ds,c111,t0,t10,t12,t16,t17,t18,xf,Ra,po]
 refine ae r1 ?_
 have fin:∀Y,j7 (ab hp1 q10 Y) nx1 nx F1 (bL t n a b p).1 v/\rX (ab hp1 q10 Y) nx1 rt rp rd F1 root (bL t n a b p) rootS (B+10)/\nx<=nx1/\(∀r,r<nx->r≠q10->r∉F->(ab hp1 q10 Y) r=hp r)/\(∀r∈F1,r∈F\/nx<=r):=fun Y =>
  ⟨q1.ah (zD _) fun r u1 u2 _=>by simp[show ¬r=q10 by omega],oF.ah (zD _) fun r hr=>by simp[show ¬r=q10 from fun e=>afB (e▸hr)],hle,fun r u1 u2 u3=>by simp[u2];exact nn.ah r u1 u3,nn.sub⟩
 cases ho:(bL t n a b p).1 with
 |error e =>
  have he:¬e=0:=Cr ho
  have Rx:=q1
  rw[ho]at Rx
  simp only[j7,z2]at Rx
  subst Rx
  simp[t10,KJ,aa]
  obtain ⟨g1,g2,g3,g4,g5⟩:=fin (some [[nS,.str []]])
  exact hP _ _ _ F1 (by rw[ho]at g1 ⊢;exact g1) g2 g3 g4 g5
 |ok p' =>
  have Rx:=q1
  rw[ho]at Rx
  obtain ⟨L,w,rfl,hw,hL⟩:=Rx
  obtain ⟨z,k,rfl,z1,z2'⟩:=hw.cl
  simp[t10,KJ,aa,z1,z2']
  obtain ⟨g1,g2,g3,g4,g5⟩:=fin (some [[z,k]])
  exact hP _ _ _ F1 (by rw[ho]at g1 ⊢;exact g1) g2 g3 g4 g5
end Go.Ai
namespace Go.Ai
open Go.Bt
theorem f135 {hp nx rt rp rd F root t rootS B} (h:dE hp nx rt rp rd F root t rootS B) {n x:Nd} {nA xA:AV} (hn:iD n nA) {L:List Nat} (hx:DD hp nx L x xA) (Ly:∀r∈L,r∉F) (hr:ax n=true) (dj:n.leaf=false) {i:Nat} (hi:i<n.kids.length) (fq:dO 5000 n) (nL:dO 5000 x) (hB:B<=800000000) :
  ∃v hp' nx' F',aY E 135 [.ptr rt 0 0,nA,iV i,xA] hp nx v hp' nx' .e/\KC (fi t n i x).1 v/\rX hp' nx' rt rp rd F' root (fi t n i x) rootS (B+1)/\Fr (L++F) hp nx F' hp' nx':=by
 have hf:=(aZ.of hr).inner dj
 cases i with
 |zero=>exact abP h hn hx Ly hr dj (by have:=hf.1;have:=hf.2.1;omega) fq nL hB
 |succ j=>exact abO h hn hx Ly hr dj hi fq nL hB
theorem Ez {hp nx rt rp rd F root t rootS B} (h:dE hp nx rt rp rd F root t rootS B) {n x:Nd} (hr:ax n=true) (dj:n.leaf=false) {i:Nat} (hi:i<n.kids.length) (nL:dO 600 x) {r:dG×Nat} {t2:T} (e:fi t n i x=(.ok r,t2)):sg 1200 r.1/\r.2+2<=n.kids.length:=by
 have hf:=(aZ.of hr).inner dj
 unfold fi at e
 split at e
 ·rename_i h0
  split at e
  ·rename_i c hc
   cases ht:eD t c.toNat with
   |mk o t3 =>
    rw[ht]at e
    cases o with
    |error e'=>simp[rb]at e
    |ok o =>
     simp only[rb,zPi,Except.ok.injEq]at e
     obtain ⟨rfl,_⟩:=e
     have:=(h.nv (a:=c.toNat) (n:=o) (by rw[ht])).1
     refine ⟨((nL.join this).more (by omega)).cut,?_⟩
     simp only
     have:=hf.1;have:=hf.2.1;omega
  ·cases e
 ·rename_i h0
  split at e
  ·rename_i c hc
   cases ht:eD t c.toNat with
   |mk o t3 =>
    rw[ht]at e
    cases o with
    |error e'=>simp[rb]at e
    |ok o =>
     simp only[rb,zPi,Except.ok.injEq]at e
     obtain ⟨rfl,_⟩:=e
     have:=(h.nv (a:=c.toNat) (n:=o) (by rw[ht])).1
     refine ⟨((this.join nL).more (by omega)).cut,?_⟩
     simp only
     omega
  ·cases e
theorem sg.more {m m' p} (h:sg m p) (k:m<=m'):sg m' p:=by
 cases p with
 |one n=>exact dO.more h k
 |two a k' b=>exact ⟨dO.more h.1 k,dO.more h.2 k⟩
theorem abT {hp:Heap} {nx rt rp rd:Nat} {F L:List Nat} {root:Nat} {t:T} {rootS:Bs} {B q10 q12 q16 i:Nat} {tm:Nat->AV} {P:AV->Heap->Nat->Prop} (h:dE hp nx rt rp rd F root t rootS B) {n:Nd} {nA PA:AV} {p:dG}
  (t0:tm 0=.ptr rt 0 0) (t10:tm 10=.ptr q10 0 0) (t12:tm 12=.ptr q12 0 0) (t16:tm 16=.ptr q16 0 0) (t14:tm 14=iV i)
  (hn:iD n nA) (xG:iY hp nx L p PA) (xf:hp q12=some [nA.cells]) (Ra:hp q16=some [PA.cells]) (iC:hp q10=some [[nS,.str []]]) (QO:q10<nx) (l12:q12<nx) (l16:q16<nx) (f10:q10∉L++F) (f12:q12∉L++F) (f16:q16∉L++F)
  (n1:q10≠q12) (n2:q10≠q16) (n3:q12≠q16) (Ly:∀r∈L,r∉F) (oh:sg 600 p) (hr:ax n=true) (dj:n.leaf=false) (hi:i<n.kids.length) (fq:dO 492 n) (hB:B<=700000000)
  (hP:∀v hp' nx' F',j7 hp' nx' nx F' (lX t n i p).1 v->rX hp' nx' rt rp rd F' root (lX t n i p) rootS (B+20)->nx<=nx'->(∀r,r<nx->r≠q10->r≠q16->r∉L++F->hp' r=hp r)->(∀r∈F',r∈L++F\/nx<=r)->P v hp' nx') :
  W (aY E) Dt (sc [.cell 10 (some 2),.t 11] P) ⟨tm,hp,nx⟩:=by
 have hf:=(aZ.of hr).inner dj
 have iM:i<494:=by have:=fq.2.2;omega
 have w1:IntKind.wrap .i64 ((i:Int)+1)=((i+1:Nat):Int):=by rw[aj]<;>omega
 obtain ⟨TC,hT⟩:∃TC,TC=Ds:=⟨_,rfl⟩
 have jd:=hT
 simp only[Ds,c111]at jd
 simp only[Dt,c111]
 rw[<-jd]
 have yQ:=hn
 obtain ⟨b0,k1,k2,k3,k4,i1,i2,i3,i4,d1,d2,d3,d4,rfl⟩:=hn.shape
 simp only[AV.cells]at xf
 have plain:∀tm',tm' 0=.ptr rt 0 0->tm' 10=.ptr q10 0 0->tm' 12=.ptr q12 0 0->tm' 16=.ptr q16 0 0->tm' 17=iV i->tm' 18=iV (i+1:Nat)->jQ p PA->lX t n i p=bL t n i (i+1) p ->
   W (aY E) TC (sc [.cell 10 (some 2),.t 11] P) ⟨tm',hp,nx⟩:=by
  intro tm' e0 e10 e12 e16 e17 e18 hA hb
  rw[hT]
  rw[hb]at hP
  refine Ux h e0 e10 e12 e16 e17 e18 yQ hA xf Ra iC QO (fun e=>f10 (by simp[e])) (oh.more (by omega)) hf.2.1 (by omega) (by omega) (fq.more (by omega)) (by omega) fun v hp' nx' F' g1 g2 g3 g4 g5 => ?_
  exact hP v hp' nx' F' g1 (g2.more (by omega)) g3 (fun r u1 u2 u3 u4=>g4 r u1 u2 (fun e=>u4 (by simp[e]))) fun r hr=>(g5 r hr).imp (fun q=>by simp[q]) id
 cases p with
 |two a k b =>
  rcases xG with ⟨_,hA⟩|⟨n',x,c,e,_⟩
  ·have hA0:=hA
   obtain ⟨x,y,z,hx,hy,⟨zn,zs,zc,rfl,CM⟩,rfl⟩:=hA
   simp only[AV.cells]at Ra
   simp[t14,w1,t16,Ra,-Int.natCast_add]
   exact plain _ (by simp[t0]) (by simp[t10]) (by simp[t12]) (by simp[t16]) (by simp) (by simp) hA0 rfl
  ·cases e
 |one x =>
  obtain ⟨xA,z,V8,⟨zn,zs,zc,rfl,CM⟩,rfl,tj⟩:∃xA z,DD hp nx L x xA/\(∃nil sz cap,z=.rs nil sz [xA.cells] cap/\(nil=true\/sz=4)/\(nil=true->[xA.cells]=[]))/\PA=.agg [z,.str []]/\(x.kids.length=1\/jQ (.one x) PA):=by
   rcases xG with ⟨rfl,hA⟩|⟨n',x',c,e,h1,h2,rfl⟩
   ·have hA0:=hA
    obtain ⟨x',z,h1,h2,rfl⟩:=hA
    exact ⟨x',z,h1.ndO,h2,rfl,.inr hA0⟩
   ·cases e
    exact ⟨x',_,h2,⟨false,4,c,rfl,.inr rfl,by simp⟩,rfl,.inl h1⟩
  have bG:=aS (n:=4) (k:=.i64) (cap:=zc) (j:=0) CM (by rfl)
  have kN:=V8
  obtain ⟨x0,Xb,z0⟩:=V8.RI
  have TS:=f134 x x0 Xb (by have:=oh.1;omega) (by have:=oh.2.1;omega) (by have:=oh.2.2;omega)
  obtain ⟨xk,_,xd,rfl,Tc,⟨j1,j2,j4,rfl,xiS⟩,QH,hLe⟩:=V8
  obtain ⟨vg,vf⟩:=Tc.one
  obtain ⟨vi,vh⟩:=QH.one
  simp only[AV.cells]at bG Ra
  change cd 4 _ (iV 0)=some (.rp [.v (.bool x.leaf),xk,.rs j1 j2 (x.items.map bD.cells) j4,xd]) at bG
  have ad4:=na (hp:=hp) (nx:=nx) z0 rfl (TS cG 0)
  simp[t14,w1,t16,Ra,bG,-ag,vg,vf,vi,vh,-Int.natCast_add]
  refine ae ad4 ?_
  by_cases hs:l8 x=true
  ·have hb:lX t n i (.one x)=rb (fi t n i x) fun r t=>bL t n r.2 (r.2+2) r.1:=by simp only[lX,if_pos hs]
   rw[hb]at hP
   obtain ⟨v,aT,ar,F2,r2,q2,mi,ir⟩:=f135 h yQ kN Ly hr dj hi (fq.more (by omega)) (dO.more oh (by omega)) (by omega)
   have hle:=ir.le
   simp[hs,t0,t12,t16,t14,xf,Ra,bG,-ag,vg,vf,vi,vh,-Int.natCast_add]
   refine ae r2 ?_
   have g16:q16∉F2:=fun e=>(ir.sub _ e).elim f16 (by omega)
   have Xm:q10∉F2:=fun e=>(ir.sub _ e).elim f10 (by omega)
   have p16:=ir.ah q16 l16 f16
   have KJ:=(ir.ah q10 QO f10).trans iC
   have p12:=(ir.ah q12 l12 f12).trans xf
   rw[Ra]at p16
   cases hl:fi t n i x with
   |mk o t2 =>
    rw[hl]at q2 mi hP
    cases o with
    |error e =>
     obtain ⟨he,o',AA⟩:=mi
     simp only[KC,z2]at q2
     subst q2
     simp[t0,t10,t12,t16,p16,KJ,p12,aa,he,n1,n2,n3,Ne.symm n2]
     refine hP _ _ _ F2 rfl ⟨he,o',((AA.more (by omega)).cQ g16).cQ Xm⟩ (by omega) (fun r u1 u2 u3 u4 => ?_) ir.sub
     ·simp[u2,u3];exact ir.ah r u1 u4
    |ok rr =>
     obtain ⟨pA,aaX,rfl⟩:=q2
     obtain ⟨lp1,lp2⟩:=Ez h hr dj hi oh hl
     obtain ⟨pcl,pz,pk,rfl,po⟩:=aaX.cl
     simp[t0,t10,t12,t16,p16,KJ,p12,aa,po,n1,n2,n3,Ne.symm n2,-Int.natCast_add]
     rw[hT]
     refine Ux (q10:=q10) (q12:=q12) (q16:=q16) (a:=rr.2) (b:=rr.2+2) (dE.cQ mi g16) (by simp[t0]) (by simp[t10]) (by simp[t12]) (by simp[t16]) (by simp) (by simp) yQ aaX (by simp[n3,p12]) (by simp) (by simp[n2,KJ]) (by omega) Xm (lp1.more (by omega)) hf.2.1 (by omega) lp2 (fq.more (by omega)) (by omega) fun v hp' nx' F' g1 g2 g3 g4 g5 => ?_
     refine hP v hp' nx' F' (g1.lower hle) (g2.more (by omega)) (by omega) (fun r u1 u2 u3 u4 => ?_) fun r hr=>(g5 r hr).elim (ir.sub r) fun q=>.inr (by omega)
     ·rw[g4 r (by omega) u2 fun e=>(ir.sub r e).elim u4 (by omega)]
      simp[u3]
      exact ir.ah r u1 u4
  ·have hA:jQ (.one x) (.agg [.rs zn zs [[.v (.bool x.leaf),xk,.rs j1 j2 (x.items.map bD.cells) j4,xd]] zc,.str []]):=by
    refine tj.resolve_left fun e=>hs (by simp[l8,e])
   simp[hs]
   exact plain _ (by simp[t0]) (by simp[t10]) (by simp[t12]) (by simp[t16]) (by simp) (by simp) hA (by simp only[lX,if_neg hs])
end Go.Ai
namespace Go.Ai
open Go.Bt
def kT (bx:List (Nat×bN)) (hp:Heap) (nx:Nat) (F:List Nat):Prop:=∀q∈bx,hp q.1=some q.2/\q.1<nx/\q.1∉F
theorem kT.fr {bx hp nx F F' hp' nx'} (h:kT bx hp nx F) (k:Fr F hp nx F' hp' nx'):kT bx hp' nx' F':=fun q hq=>by
 obtain ⟨h1,h2,h3⟩:=h q hq
 have:=k.le
 exact ⟨by rw[k.ah _ h2 h3];exact h1,by omega,fun e=>(k.sub _ e).elim h3 (by omega)⟩
def Vm (o:Except Nat Nd) (v:AV):Prop:=match o with
 |.ok n=>∃y,iD n y/\v=.bE [y,.v (.int .i64 0)]
 |.error e=>∃n y,iD n y/\v=.bE [y,iV e]
structure pY (bx:List (Nat×bN)) (rt rp rd root:Nat) (rootS:Bs) (k:Nat) (first cap:List AV) (act:T->Nd->R Nd) (H7:Nd->Prop):Prop where
 run:∀hp nx F t B n x,dE hp nx rt rp rd F root t rootS B->kT bx hp nx F->iD n x->dO 492 n->n.leaf=true->ax n=true->H7 n->t.p.st.length<=4096->B<=700000000 ->
  ∃v hp' nx' F',aY E k (first++[x]++cap) hp nx v hp' nx' .e/\Vm (act t n).1 v/\rX hp' nx' rt rp rd F' root (act t n) rootS (B+61900)/\Fr F hp nx F' hp' nx'
 len:∀t n n' t',act t n=(.ok n',t')->dO 492 n->n.leaf=true->dO 493 n'/\n'.kids=[]
def B5 (rd:fx) (key:Bs) (H7:Nd->Prop):Nat->Nat->Prop
 |0,_=>True
 |f+1,a=>∀n,fS rd a=some n->(n.leaf=true->H7 n)/\(n.leaf=false->∀c,n.kids[eH n.keys key]?=some c->B5 rd key H7 f c.toNat)
theorem Gl {t:T} {a:Nat} {n:Nd} {t2:T} (h:eD t a=(.ok n,t2)):fS t.p.read a=some n/\t2.p=t.p:=by
 unfold eD at h
 split at h
 ·rename_i m hm
  simp only[zPi,Except.ok.injEq]at h
  obtain ⟨rfl,rfl⟩:=h
  exact ⟨hm,rfl⟩
 ·cases h
theorem Fx {n:Nd} (h:∀c∈n.kids,0<=c):ff (kP n):=by
 unfold kP
 split
 ·exact h
 ·trivial
theorem MN {n:Nd} {a b:Nat} {ks:List Bs} {cs:List Int} (fq:dO 492 n) (hk:ks.length<=1) (hc:cs.length<=2) (IY:a<b) (hb:b<=n.kids.length) (hr:n.kids.length=n.keys.length+1):dO 493 (mz n a b ks cs):=by
 obtain ⟨h1,h2,h3⟩:=fq
 refine ⟨?_,?_,?_⟩
 ·simp only[mz,zG,wD,wN];omega
 ·simp[mz]
 ·simp only[mz,zG,wD,wN];omega
theorem KK {n:Nd} {a b:Nat} {ks:List Bs} {cs:List Int} (hn:∀c∈n.kids,0<=c) (hc:∀c∈cs,0<=c):∀c∈(mz n a b ks cs).kids,0<=c:=by
 intro c h
 simp only[mz,zJ]at h
 rcases h with (h|h)|h
 ·exact hn c (zw h)
 ·exact hc c h
 ·exact hn c (zx h)
theorem KN {n:Nd} (h:dO 493 n) (hk:∀c∈n.kids,0<=c):sg 600 (kC n)/\ff (kC n):=by
 unfold kC
 split
 ·exact ⟨dO.more h (by omega),hk⟩
 ·exact ⟨h.cut.more (by omega),Fx hk⟩
theorem oS {t t':T} {n:Nd} {a b:Nat} {p q:dG} (fq:dO 492 n) (IY:a<b) (hb:b<=n.kids.length) (hr:n.kids.length=n.keys.length+1) (hn:∀c∈n.kids,0<=c) (h:bL t n a b p=(.ok q,t')):sg 600 q/\ff q:=by
 rw[tA]at h
 have aT:(eX p).length<=2:=by cases p<;>simp[eX]
 cases hl:fF t (eX p) with
 |mk o t2 =>
  rw[hl]at h
  cases o with
  |error e=>simp[rb]at h
  |ok cs =>
   simp only[rb,zPi,Except.ok.injEq]at h
   obtain ⟨rfl,_⟩:=h
   have:=K5 hl
   refine KN (MN fq ?_ (by simp;omega) IY hb hr) (KK hn ?_)
   ·split<;>simp
   ·intro c hc
    simp only[wk]at hc
    obtain ⟨m,_,rfl⟩:=hc
    omega
theorem GA {n:Nd} (hr:ax n=true) (dj:n.leaf=false):∀c∈n.kids,0<=c:=fun c hc=>by
 have:=((aZ.of hr).inner dj).2.2.2 c hc
 obtain ⟨m,e,_⟩:=gf this
 omega
theorem Qu {hp nx rt rp rd F root t rootS B} (h:dE hp nx rt rp rd F root t rootS B) {n:Nd} (hr:ax n=true) (dj:n.leaf=false) {i:Nat} (hi:i<n.kids.length) (fq:dO 492 n) {p q:dG} (oh:sg 600 p) {t':T} (e:lX t n i p=(.ok q,t')):sg 600 q/\ff q:=by
 have hf:=(aZ.of hr).inner dj
 have hk:=GA hr dj
 cases p with
 |two a k b =>
  have e':bL t n i (i+1) (.two a k b)=(.ok q,t'):=e
  exact oS fq (by omega) (by omega) hf.2.1 hk e'
 |one x =>
  simp only[lX]at e
  split at e
  ·cases hl:fi t n i x with
   |mk o t2 =>
    rw[hl]at e
    cases o with
    |error e'=>simp[rb]at e
    |ok r =>
     simp only[rb]at e
     obtain ⟨_,l2⟩:=Ez h hr dj hi oh hl
     exact oS fq (by omega) l2 hf.2.1 hk e
  ·exact oS fq (by omega) (by omega) hf.2.1 hk e
theorem f111 {bx:List (Nat×bN)} {rt rp rd root:Nat} {rootS:Bs} {k:Nat} {first cap:List AV} {act:T->Nd->R Nd} {H7:Nd->Prop} (A:pY bx rt rp rd root rootS k first cap act H7) {key:Bs}:∀(f d:Nat) {hp:Heap} {nx:Nat} {F:List Nat} {t:T} {B:Nat} (a:Nat),d+f=13->dE hp nx rt rp rd F root t rootS B->kT bx hp nx F->t.p.st.length<=4096->B5 t.p.read key H7 f a->B+62000+40*f<=700000000 ->
  ∃v hp' nx' F',aY E 111 [.ptr rt 0 0,iV a,iV d,.str key,.fn (.func k) first cap] hp nx v hp' nx' .e/\j7 hp' nx' nx F' (cY act key f a t).1 v/\rX hp' nx' rt rp rd F' root (cY act key f a t) rootS (B+62000+40*f)/\Fr F hp nx F' hp' nx' /\
   ∀p t',cY act key f a t=(.ok p,t')->sg 600 p/\ff p:=by
 intro f
 induction f with
 |zero =>
  intro d hp nx F t B a hd h CY hN YK hB
  obtain rfl:d=13:=by omega
  have hc:cY act key 0 a t=(.error 10,t):=rfl
  rw[hc]
  have main:=an (P:=fun v hp' nx'=>∃F',j7 hp' nx' nx F' (Except.error 10) v/\rX (α:=dG) hp' nx' rt rp rd F' root (.error 10,t) rootS (B+62000+40*0)/\Fr F hp nx F' hp' nx') e111 (args:=[.ptr rt 0 0,iV a,iV 13,.str key,.fn (.func k) first cap]) rfl (hp:=hp) (nx:=nx) ?_
  ·obtain ⟨v,hp',nx',h1,F',h2,h3,h4⟩:=main
   exact ⟨v,hp',nx',F',h1,h2,h3,h4,fun p t' e=>by cases e⟩
  simp[c111,aa,aG]
  exact ⟨F,rfl,⟨by simp,t.old,(h.ro cN).more (by omega)⟩,cN.fr F⟩
 |succ f ih =>
  intro d hp nx F t B a hd h CY hN YK hB
  have main:=an (P:=fun v hp' nx'=>∃F',j7 hp' nx' nx F' (cY act key (f+1) a t).1 v/\rX hp' nx' rt rp rd F' root (cY act key (f+1) a t) rootS (B+62000+40*(f+1))/\Fr F hp nx F' hp' nx'/\∀p t',cY act key (f+1) a t=(.ok p,t')->sg 600 p/\ff p) e111 (args:=[.ptr rt 0 0,iV a,iV d,.str key,.fn (.func k) first cap]) rfl (hp:=hp) (nx:=nx) ?_
  ·obtain ⟨v,hp',nx',h1,F',h2⟩:=main
   exact ⟨v,hp',nx',F',h1,h2⟩
  have Q5:¬(12:Int)<(d:Int):=by omega
  obtain ⟨TC,hT⟩:∃TC,TC=Dt:=⟨_,rfl⟩
  have jd:=hT
  simp only[Dt,c111]at jd
  simp only[c111]
  rw[<-jd]
  have cX:Ro hp nx (ab hp nx (some [[nS,.str []]])) (nx+1):=cN
  have h1:=h.ro cX
  have W5:=CY.fr (cX.fr F)
  have abt:(ab hp nx (some [[nS,.str []]])) nx=some [[nS,.str []]]:=by simp
  obtain ⟨H1,fw⟩:∃H1,H1=ab hp nx (some [[nS,AV.str []]]):=⟨_,rfl⟩
  rw[<-fw]at cX h1 W5 abt
  have je:=h.lt
  have nF:nx∉F:=fun e=>by have:=je nx e;omega
  obtain ⟨v2,aT,ar,F2,r2,q2,mi,ir⟩:=f132 h1 a (by omega)
  have hle:=ir.le
  have IZ:=(cX.fr F).trans ir
  have KU:nx∉F2:=fun e=>(ir.sub nx e).elim nF (by omega)
  have KJ:=(ir.ah nx (by omega) nF).trans abt
  have mO:=mi.lt
  have KV:ar∉F2:=fun e=>by have:=mO ar e;omega
  have L8:¬nx=ar:=by omega
  have Yj:¬ar=nx:=by omega
  simp[Q5,<-fw]
  refine ae r2 ?_
  cases ht:eD t a with
  |mk o t2 =>
   rw[ht]at q2 mi
   cases o with
   |error e =>
    have hc:cY act key (f+1) a t=(.error e,t2):=by simp only[cY,ht,rb]
    rw[hc]
    have he:¬e=0:=uw (by rw[ht])
    simp only[KB]at q2
    subst q2
    simp[eC,he,aa,aG,KJ,L8,Yj]
    refine ⟨F2,rfl,⟨he,t2.old,((mi.more (by omega)).ro cN).cQ KU⟩,IZ.sM (by omega) fun r u1 u2 => ?_⟩
    simp[show ¬r=ar by omega,show ¬r=nx from fun e=>u2.elim (by omega) fun q=>KU (e▸q)]
   |ok n =>
    obtain ⟨y,DJ,rfl⟩:=q2
    obtain ⟨fq,hr⟩:=h1.nv (a:=a) (n:=n) (by rw[ht])
    obtain ⟨WC,R4⟩:=Gl ht
    obtain ⟨Mf,hP2⟩:=YK n WC
    have hy:=DJ
    obtain ⟨b0,k1,k2,k3,k4,i1,i2,i3,i4,d1,d2,d3,d4,rfl⟩:=DJ.shape
    obtain ⟨_,_,_,tW⟩:=DJ.cl
    have iJ:Ro aT ar (ab aT ar (some [[.v (.bool b0),.rs k1 k2 k3 k4,.rs i1 i2 i3 i4,.rs d1 d2 d3 d4]])) (ar+1):=cN
    have AA:=mi.ro iJ
    have mr:=IZ.trans (iJ.fr F2)
    have W4:=CY.fr mr
    have GK:(ab aT ar (some [[.v (.bool b0),.rs k1 k2 k3 k4,.rs i1 i2 i3 i4,.rs d1 d2 d3 d4]])) nx=some [[nS,.str []]]:=by simp[L8,KJ]
    have GJ:(ab aT ar (some [[.v (.bool b0),.rs k1 k2 k3 k4,.rs i1 i2 i3 i4,.rs d1 d2 d3 d4]])) ar=some [[.v (.bool b0),.rs k1 k2 k3 k4,.rs i1 i2 i3 i4,.rs d1 d2 d3 d4]]:=by simp
    obtain ⟨H4,Q9⟩:∃H4,H4=ab aT ar (some [[AV.v (.bool b0),.rs k1 k2 k3 k4,.rs i1 i2 i3 i4,.rs d1 d2 d3 d4]]):=⟨_,rfl⟩
    rw[<-Q9]at AA mr W4 GK GJ
    simp[aa,aG,<-Q9,GJ]
    cases dj:n.leaf with
    |true =>
     rw[dj]at tW
     subst tW
     simp[GJ]
     obtain ⟨v5,oB,rF,F5,r5,q5,uO,gH⟩:=A.run H4 (ar+1) F2 t2 (B+1) n _ AA W4 hy fq dj hr (Mf dj) (by rw[R4];exact hN) (by omega)
     refine ae (by simpa using r5) ?_
     have Si:=gH.le
     have Vi:=(gH.ah nx (by omega) KU).trans GK
     have Vh:=(gH.ah ar (by omega) KV).trans GJ
     have Xm:nx∉F5:=fun e=>(gH.sub _ e).elim KU (by omega)
     have g12:ar∉F5:=fun e=>(gH.sub _ e).elim KV (by omega)
     have BL:=mr.trans gH
     have hc:cY act key (f+1) a t=rb (act t2 n) fun n t=>(.ok (kP n),t):=by simp only[cY,ht,rb,dj,if_true]
     rw[hc]
     cases ha:act t2 n with
     |mk o t5 =>
      rw[ha]at q5 uO
      cases o with
      |error e =>
       obtain ⟨he,o',Gc⟩:=uO
       obtain ⟨_,y',AK,rfl⟩:=q5
       obtain ⟨Ri,RP,Nq,Np,RO,EF,CL,Nv,EE,I8,OL,I7,LP,rfl⟩:=AK.shape
       simp[he,aa,aG,Vi,Vh,L8,Yj]
       refine ⟨F5,rfl,⟨he,o',((Gc.more (by omega)).cQ g12).cQ Xm⟩,BL.sM (zD _) fun r u1 u2 => ?_,fun p t' e=>by cases e⟩
       simp[show ¬r=ar from fun e=>u2.elim (by omega) fun q=>g12 (e▸q),show ¬r=nx from fun e=>u2.elim (by omega) fun q=>Xm (e▸q)]
      |ok n' =>
       obtain ⟨y',AK,rfl⟩:=q5
       obtain ⟨l1,l2⟩:=A.len _ _ _ _ ha fq dj
       obtain ⟨pA,xG,Cp⟩:=f133 n' _ AK (by have:=l1.1;omega) (by have:=l1.2.1;omega) (by have:=l1.2.2;omega)
       obtain ⟨pcl,pz,pk,rfl,po⟩:=xG.cl
       obtain ⟨Ri,RP,Nq,Np,RO,EF,CL,Nv,EE,I8,OL,I7,LP,rfl⟩:=AK.shape
       simp[aa,aG,Vi,Vh,L8,Yj]
       refine ap (Cp _ _) ?_
       simp[aa,aG,Vi,Vh,L8,Yj,po]
       refine ⟨F5,⟨[],_,rfl,.inl ⟨rfl,xG⟩,by simp⟩,((dE.more uO (by omega)).cQ g12).cQ Xm,BL.sM (zD _) fun r u1 u2 => ?_,fun p t' e => ?_⟩
       ·simp[show ¬r=ar from fun e=>u2.elim (by omega) fun q=>g12 (e▸q),show ¬r=nx from fun e=>u2.elim (by omega) fun q=>Xm (e▸q)]
       ·simp only[rb,zPi,Except.ok.injEq]at e
        obtain ⟨rfl,_⟩:=e
        exact ⟨(l1.cut).more (by omega),Fx (by rw[l2];simp)⟩
    |false =>
     rw[dj]at tW
     subst tW
     have WZ:=f37 n _ hy key (by have:=fq.1;omega) (by have:=fq.2.1;omega) (by have:=fq.2.2;omega)
     have eJ:=dR hr
     obtain ⟨g1,g2,g3,g4⟩:=(aZ.of hr).inner dj
     have Hk:(below n.keys key+if key∈n.keys/\n.leaf=false then 1 else 0)=eH n.keys key:=by simp only[eH,dj,and_true]
     have fN:=(nJ eJ key).1
     have xc:eH n.keys key<n.kids.length:=by omega
     have tQ:n.kids[eH n.keys key]?=some (n.kids[eH n.keys key]'xc):=zA xc
     have lR:kF n key=(((eH n.keys key:Nat):Int),decide (key∈n.keys)):=by simp only[kF,hr,if_true,Hk]
     obtain ⟨cc,e1,e2,e3⟩:=gf (g4 _ (zP xc))
     have hdS:eV 1 (n.kids.map bC) (.rs d1 d2 d3 d4):=by
      obtain ⟨_,_,_,e,_,_,AS⟩:=id hy
      simp only[AV.agg.injEq,List.cons.injEq,and_true]at e
      rw[e.2.2.2];exact AS
     have bG:=uA hdS (i:=eH n.keys key) (c:=[iV cc]) (k:=.i64) (by rw[zM,tQ,e1];rfl)
     have hc:cY act key (f+1) a t=rb (cY act key f cc t2) fun p t=>lX t n (eH n.keys key) p:=by simp only[cY,ht,rb,dj,tQ,e1,zl,zK,if_false]
     rw[hc]
     have w1:IntKind.wrap .i64 ((d:Int)+1)=((d+1:Nat):Int):=by rw[aj]<;>omega
     obtain ⟨v5,oB,rF,F5,r5,q5,uO,gH,vG⟩:=ih (d+1) (hp:=H4) (nx:=ar+1) (F:=F2) (t:=t2) (B:=B+1) cc (by omega) AA W4 (by rw[R4];exact hN) (by rw[R4];have:=hP2 dj _ tQ;rw[e1]at this;exact this) (by omega)
     have Si:=gH.le
     have Vi:=(gH.ah nx (by omega) KU).trans GK
     have Vh:=(gH.ah ar (by omega) KV).trans GJ
     have Xl:nx∉F5:=fun e=>(gH.sub _ e).elim KU (by omega)
     have afq:ar∉F5:=fun e=>(gH.sub _ e).elim KV (by omega)
     have BL:=mr.trans gH
     simp[GJ]
     refine ap (WZ _ _) ?_
     simp[lS,lR,bG,w1,GJ,-ag,-Int.natCast_add]
     refine ae r5 ?_
     cases ha:cY act key f cc t2 with
     |mk o t5 =>
      rw[ha]at q5 uO vG
      have VF:¬nx=rF:=by omega
      have VE:¬ar=rF:=by omega
      cases o with
      |error e =>
       obtain ⟨he,o',Gc⟩:=uO
       simp only[j7,z2]at q5
       subst q5
       simp[he,aa,aG,Vi,Vh,L8,Yj,VF,VE]
       refine ⟨F5,rfl,⟨he,o',((Gc.more (by omega)).ro cN).cQ Xl⟩,BL.sM (by omega) fun r u1 u2 => ?_,fun p t' e=>by cases e⟩
       simp[show ¬r=rF by omega,show ¬r=nx from fun e=>u2.elim (by omega) fun q=>Xl (e▸q)]
      |ok p =>
       obtain ⟨L,w,rfl,hw,hL⟩:=q5
       obtain ⟨lp,kp⟩:=vG p t5 rfl
       obtain ⟨z,kk,rfl,zo⟩:=hw.cl
       have aey:Ro oB rF (ab oB rF (some [[z,kk]])) (rF+1):=cN
       have Gc:=dE.ro uO aey
       simp[aa,aG,zo,Vi,Vh,L8,Yj,VF,VE]
       rw[hT]
       have aeU:=dE.lt uO
       refine abT (q10:=nx) (q12:=ar) (q16:=rF) (i:=eH n.keys key) (L:=L) (p:=p) Gc (by simp) (by simp) (by simp) (by simp) (by simp) hy (hw.ah (by omega) fun r hr=>by have:=hw.lt r hr;simp[show ¬r=rF by omega]) (by simp[VE,Vh]) (by simp) (by simp[VF,Vi]) (by omega) (by omega) (by omega)
        (fun e=>(zJ.1 e).elim (fun q=>by have:=(hL _ q).1;omega) Xl) (fun e=>(zJ.1 e).elim (fun q=>by have:=(hL _ q).1;omega) afq) (fun e=>(zJ.1 e).elim (fun q=>by have:=hw.lt _ q;omega) fun q=>by have:=aeU _ q;omega) (by omega) (by omega) (by omega) (fun r hr=>(hL r hr).2) lp hr dj xc fq (by omega) fun v hp' nx' F' u1 u2 u3 u4 u5 => ?_
       refine ⟨F',u1.lower (by omega),u2.more (by omega),⟨by omega,fun r v1 v2 => ?_,fun r hr => ?_⟩,fun q t' e=>Qu Gc hr dj xc fq lp e⟩
       ·rw[u4 r (by omega) (by omega) (by omega) fun e=>(zJ.1 e).elim (fun q=>by have:=(hL _ q).1;omega) fun q=>(BL.sub r q).elim v2 (by omega)]
        simp[show ¬r=rF by omega]
        exact BL.ah r v1 v2
       ·rcases u5 r hr with q|q
        ·rcases zJ.1 q with q|q
         ·exact .inr (by have:=(hL r q).1;omega)
         ·exact BL.sub r q
        ·exact .inr (by omega)
end Go.Ai
namespace Go.Ai
open Go.Bt
theorem f110 {hp nx rt rp rd F root t rootS B} (h:dE hp nx rt rp rd F root t rootS B) {PA:AV} {p:dG} {L:List Nat} (xG:iY hp nx L p PA) (Ly:∀r∈L,r∉F) (oh:sg 5000 p) (yT:ff p) (hB:B<=800000000) :
  ∃hp' nx' F',aY E 110 [.ptr rt 0 0,PA] hp nx (gV (dK t p).1) hp' nx' .e/\rX hp' nx' rt rp rd F' root (dK t p) rootS (B+10)/\Fr F hp nx F' hp' nx':=by
 cases p with
 |one n=>exact SF h xG Ly oh yT hB
 |two a k b =>
  rcases xG with ⟨_,hA⟩|⟨_,_,_,e,_⟩
  ·exact SE h hA oh hB
  ·cases e
theorem dE.xB {hp nx rt rp rd F root t rootS B} (h:dE hp nx rt rp rd F root t rootS B) (r:Nat):∃x y,hp rt=some [[.ptr rp 0 0,iV root,x,y]] /\
  dE (ab hp rt (some [[.ptr rp 0 0,iV r,x,y]])) nx rt rp rd F r t rootS B/\Fr F hp nx F (ab hp rt (some [[.ptr rp 0 0,iV r,x,y]])) nx:=by
 obtain ⟨x,y,Fp,view,hI,rfl⟩:=h
 obtain ⟨e1,e2,e3,e4,e5⟩:=hI.nds
 have hx:=hI.hx;have hy:=hI.hy
 obtain ⟨hT,hF⟩:=hI.step (hp':=ab hp rt (some (fh rp r x y))) (nx':=nx) (root':=r) (x':=x) (y':=y) (put':=t.put) (old':=t.old) (B':=B) (zD _) (fun q u1 u2 u3 u4=>by simp[u2]) (by simp)
  (hx.ah (zD _) fun q hq=>by simp[show ¬q=rt from fun e=>e1 (e▸hq)]) (hy.ah (zD _) fun q hq=>by simp[show ¬q=rt from fun e=>e2 (e▸hq)])
  (fun q hq=>.inl hq) (fun q hq=>.inl hq) (fun q hq=>(e4 q hq).1) (zD _) hI.lp hI.lo
 exact ⟨x,y,hI.ix,⟨x,y,Fp,view,hT,rfl⟩,hF⟩
def OC {α:Type}:Except Nat α->Nat
 |.ok _=>0
 |.error e=>e
def acV (hp:Heap) (nx rt rp rd:Nat) (F:List Nat) (root:Nat) (r:R Nat) (rootS:Bs) (B:Nat):Prop:=match r.1 with
 |.ok r'=>dE hp nx rt rp rd F r' r.2 rootS B
 |.error e=>e≠0/\∃o,dE hp nx rt rp rd F root ⟨r.2.p,r.2.put,o⟩ rootS B
theorem f72 {bx:List (Nat×bN)} {rt rp rd root:Nat} {rootS:Bs} {k:Nat} {first cap:List AV} {act:T->Nd->R Nd} {H7:Nd->Prop} (A:pY bx rt rp rd root rootS k first cap act H7) {key:Bs} {hp:Heap} {nx:Nat} {F:List Nat} {t:T} {B:Nat} (h:dE hp nx rt rp rd F root t rootS B) (CY:kT bx hp nx F) (hN:t.p.st.length<=4096) (hP0:root=0->H7 ⟨true,[],[],[]⟩) (YK:root≠0->B5 t.p.read key H7 12 root) (hB:B<=600000000) :
  ∃hp' nx' F',aY E 72 [.ptr rt 0 0,.str key,.fn (.func k) first cap] hp nx (.v (.int .i64 (OC (r9 act key root t).1:Nat))) hp' nx' .e/\acV hp' nx' rt rp rd F' root (r9 act key root t) rootS (B+63000)/\Fr F hp nx F' hp' nx':=by
 have main:=an (P:=fun v hp' nx'=>v=.v (.int .i64 (OC (r9 act key root t).1:Nat))/\∃F',acV hp' nx' rt rp rd F' root (r9 act key root t) rootS (B+63000)/\Fr F hp nx F' hp' nx') e72 (args:=[.ptr rt 0 0,.str key,.fn (.func k) first cap]) rfl (hp:=hp) (nx:=nx) ?_
 ·obtain ⟨v,hp',nx',h1,rfl,F',h2⟩:=main
  exact ⟨hp',nx',F',h1,h2⟩
 have je:=h.lt
 obtain ⟨x0,y0,R5,_⟩:=h.xB 0
 by_cases h0:root=0
 ·have Xj:(root:Int)=0:=by omega
  have hx:iD ⟨true,[],[],[]⟩ (.agg [.v (.bool true),nS,nS,nS]):=⟨_,_,_,rfl,.v9,.v9,.v9⟩
  obtain ⟨v5,oB,rF,F5,r5,q5,uO,gH⟩:=A.run hp nx F t B _ _ h CY hx ⟨by simp,by simp,by simp⟩ rfl (by decide) (hP0 h0) hN (by omega)
  have Si:=gH.le
  have ht:r9 act key root t=rb (act t ⟨true,[],[],[]⟩) fun n t=>dK t (.one n):=by simp only[r9,if_pos h0]
  rw[ht]
  simp[c72,R5,Xj,aa]
  refine ae (by simpa using r5) ?_
  cases ha:act t ⟨true,[],[],[]⟩ with
  |mk o t5 =>
   rw[ha]at q5 uO
   cases o with
   |error e =>
    obtain ⟨he,o',Gc⟩:=uO
    obtain ⟨_,y',AK,rfl⟩:=q5
    obtain ⟨Ri,RP,Nq,Np,RO,EF,CL,Nv,EE,I8,OL,I7,LP,rfl⟩:=AK.shape
    simp[he,aa,aG]
    exact ⟨rfl,F5,⟨he,o',(Gc.more (by omega)).ro cN⟩,gH.trans (cN.fr F5)⟩
   |ok n' =>
    obtain ⟨y',AK,rfl⟩:=q5
    obtain ⟨l1,l2⟩:=A.len _ _ _ _ ha ⟨by simp,by simp,by simp⟩ rfl
    have DJ:=AK
    obtain ⟨Ri,RP,Nq,Np,RO,EF,CL,Nv,EE,I8,OL,I7,LP,rfl⟩:=AK.shape
    have Gc:=dE.ro uO (cN (b:=some [[.v (.bool Ri),.rs RP Nq Np RO,.rs EF CL Nv EE,.rs I8 OL I7 LP]]))
    have BL:=gH.trans ((cN (hp:=oB) (nx:=rF) (b:=some [[.v (.bool Ri),.rs RP Nq Np RO,.rs EF CL Nv EE,.rs I8 OL I7 LP]])).fr F5)
    have hpO:∀hp nx,iY hp nx [] (.one n') (.agg [.rs false 4 [[.v (.bool Ri),.rs RP Nq Np RO,.rs EF CL Nv EE,.rs I8 OL I7 LP]] (some 1),.str []]):=fun _ _=>.inl ⟨rfl,_,_,DJ,⟨false,4,_,rfl,.inr rfl,by simp⟩,rfl⟩
    obtain ⟨DL,Tu,F7,r7,Xd,hF7⟩:=f110 Gc (hpO _ _) (by simp) (dO.more l1 (by omega)) (by simp only[ff,l2];simp) (by omega)
    simp[aa,aG]
    refine ae r7 ?_
    have hF8:=BL.trans hF7
    simp only[rb]
    cases hg:dK t5 (.one n') with
    |mk o t8 =>
     rw[hg]at Xd
     cases o with
     |error e =>
      obtain ⟨he,o',hT8⟩:=Xd
      simp[gV,he]
      exact ⟨rfl,F7,⟨he,o',hT8.more (by omega)⟩,hF8⟩
     |ok r =>
      obtain ⟨x,y,ix,hT9,hF9⟩:=dE.xB Xd r
      simp[gV,ix,aa]
      exact ⟨rfl,F7,dE.more hT9 (by omega),hF8.trans hF9⟩
 ·have Xj:¬(root:Int)=0:=by omega
  have ht:r9 act key root t=rb (cY act key 12 root t) fun p t=>dK t p:=by simp only[r9,if_neg h0]
  rw[ht]
  obtain ⟨v5,oB,rF,F5,r5,q5,uO,gH,vG⟩:=f111 A (key:=key) 12 1 root (by omega) h CY hN (YK h0) (by omega)
  have Si:=gH.le
  simp[c72,R5,Xj,h0,aa]
  refine ae (by simpa using r5) ?_
  cases ha:cY act key 12 root t with
  |mk o t5 =>
   rw[ha]at q5 uO vG
   cases o with
   |error e =>
    obtain ⟨he,o',Gc⟩:=uO
    simp only[j7,z2]at q5
    subst q5
    simp[he,aa,aG]
    exact ⟨rfl,F5,⟨he,o',(Gc.more (by omega)).ro cN⟩,gH.trans (cN.fr F5)⟩
   |ok p =>
    obtain ⟨L,w,rfl,hw,hL⟩:=q5
    obtain ⟨lp,kp⟩:=vG p t5 rfl
    obtain ⟨z,kk,rfl,zo⟩:=hw.cl
    have Gc:=dE.ro uO (cN (b:=some [[z,kk]]))
    have BL:=gH.trans ((cN (hp:=oB) (nx:=rF) (b:=some [[z,kk]])).fr F5)
    obtain ⟨DL,Tu,F7,r7,Xd,hF7⟩:=f110 Gc (hw.ah (hp':=ab oB rF (some [[z,kk]])) (nx':=rF+1) (by omega) fun r hr=>by have:=hw.lt r hr;simp[show ¬r=rF by omega]) (fun r hr=>(hL r hr).2) (lp.more (by omega)) kp (by omega)
    simp[aa,aG,zo]
    refine ae r7 ?_
    have hF8:=BL.trans hF7
    simp only[rb]
    cases hg:dK t5 p with
    |mk o t8 =>
     rw[hg]at Xd
     cases o with
     |error e =>
      obtain ⟨he,o',hT8⟩:=Xd
      simp[gV,he]
      exact ⟨rfl,F7,⟨he,o',hT8.more (by omega)⟩,hF8⟩
     |ok r =>
      obtain ⟨x,y,ix,hT9,hF9⟩:=dE.xB Xd r
      simp[gV,ix,aa]
      exact ⟨rfl,F7,dE.more hT9 (by omega),hF8.trans hF9⟩
end Go.Ai
namespace Go.Ai
open Go.Bt
theorem OF (p:PM) (n:Nat):((p.drop n).getD p).gen=p.gen:=by
 cases h:p.drop n with
 |none=>rfl
 |some p'=>exact (PM.rQ h).2.2.2.1
theorem th.drop {hp nx rt rp rd root x y Fp t rootS view B} (h:th hp nx rt rp rd root x y Fp t rootS view B) (n:Nat) :
  ∃hp',aY E 73 [.ptr rp 0 0,.v (.int .i64 n)] hp nx (.v (.int .i64 (match t.p.drop n with|some _=>0|none=>3))) hp' nx .e/\th hp' nx rt rp rd root x y Fp ⟨(t.p.drop n).getD t.p,t.put,t.old⟩ rootS view B/\Fr (rt::(bf x++(bf y++Fp))) hp nx (rt::(bf x++(bf y++Fp))) hp' nx:=by
 obtain ⟨hp',r1,hP,hF⟩:=f73 h.pg n
 obtain ⟨h1,h2⟩:=h.vr hP hF (zD _) (by rw[OF];exact h.ok)
 exact ⟨hp',r1,h1,h2⟩
theorem th.more {hp nx rt rp rd root x y Fp t rootS view B B'} (h:th hp nx rt rp rd root x y Fp t rootS view B) (hb:B<=B'):th hp nx rt rp rd root x y Fp t rootS view B' :=
 ⟨h.nd,h.lt,h.ix,h.hx,h.hy,h.pg.more hb,by have:=h.lp;omega,by have:=h.lo;omega,h.ok⟩
theorem dE.clear {hp nx rt rp rd F root t rootS B} (h:dE hp nx rt rp rd F root t rootS B):∃x y F',hp rt=some [[.ptr rp 0 0,iV root,x,y]] /\
  dE (ab hp rt (some [[.ptr rp 0 0,iV root,nS,nS]])) nx rt rp rd F' root ⟨t.p,[],[]⟩ rootS B/\Fr F hp nx F' (ab hp rt (some [[.ptr rp 0 0,iV root,nS,nS]])) nx:=by
 obtain ⟨x,y,Fp,view,hI,rfl⟩:=h
 obtain ⟨hT,hF⟩:=hI.step (hp':=ab hp rt (some (fh rp root nS nS))) (nx':=nx) (root':=root) (x':=nS) (y':=nS) (put':=[]) (old':=[]) (B':=B) (zD _) (fun q u1 u2 u3 u4=>by simp[u2]) (by simp)
  (.inl ⟨rfl,rfl⟩) (.inl ⟨rfl,rfl⟩) (by simp) (by simp) (by simp) (zD _) (by simp) (by simp)
 exact ⟨x,y,_,hI.ix,⟨_,_,Fp,view,hT,rfl⟩,hF⟩
theorem FP {hp nx x} {es:List Nat} (h:dD hp nx 1 (es.map kf) x) {i:Nat} (hi:i<es.length):∃r,x=.sl r 1 0 es.length none/\r<nx/\hp r=some (es.map kf):=by
 rcases h with ⟨e,rfl⟩|⟨r,h1,rfl,h2⟩
 ·have:es.length=0:=by simpa using congrArg List.length e
  omega
 ·exact ⟨r,by simp,h1,h2⟩
theorem f40 {bx:List (Nat×bN)} {rt rp rd root:Nat} {rootS:Bs} {k:Nat} {first cap:List AV} {act:T->Nd->R Nd} {H7:Nd->Prop} (A:pY bx rt rp rd root rootS k first cap act H7) {key:Bs} {hp:Heap} {nx:Nat} {F:List Nat} {t:T} {B:Nat} (h:dE hp nx rt rp rd F root t rootS B) (CY:kT bx hp nx F) (hN:t.p.st.length<=4096) (hP0:root=0->H7 ⟨true,[],[],[]⟩) (YK:root≠0->B5 t.p.read key H7 12 root) (hB:B<=500000000) :
  ∃hp' nx' F' t',aY E 40 [.ptr rt 0 0,.str key,.fn (.func k) first cap] hp nx (.v (.int .i64 ((jo act key root t.p).1:Nat))) hp' nx' .e/\dE hp' nx' rt rp rd F' (jo act key root t.p).2.2 t' rootS (B+64000)/\t'.p=(jo act key root t.p).2.1/\Fr F hp nx F' hp' nx':=by
 have main:=an (P:=fun v hp' nx'=>v=.v (.int .i64 ((jo act key root t.p).1:Nat))/\∃F' t',dE hp' nx' rt rp rd F' (jo act key root t.p).2.2 t' rootS (B+64000)/\t'.p=(jo act key root t.p).2.1/\Fr F hp nx F' hp' nx') e40 (args:=[.ptr rt 0 0,.str key,.fn (.func k) first cap]) rfl (hp:=hp) (nx:=nx) ?_
 ·obtain ⟨v,hp',nx',h1,rfl,F',t',h2⟩:=main
  exact ⟨hp',nx',F',t',h1,h2⟩
 obtain ⟨x0,y0,F1,R5,oF,nn⟩:=h.clear
 have W5:=CY.fr nn
 obtain ⟨aT,ar,F2,r2,jd,iu⟩:=f72 A (key:=key) oF W5 hN hP0 YK (by omega)
 have ir:=nn.trans iu
 simp[c40,R5,aa,aG]
 refine ae r2 ?_
 unfold jo
 cases ht:r9 act key root ⟨t.p,[],[]⟩ with
 |mk o t2 =>
  rw[ht]at jd
  cases o with
  |error e =>
   obtain ⟨he,o',x,y,Fp,view,hI,rfl⟩:=jd
   have ix:=hI.ix
   simp only[fh]at ix
   have CN:=hI.hx.len
   simp[OC,he,ix,CN]
   refine aM (I:=fun (g:Nat×PM) s=>g.1<=t2.put.length/\s.tm 30=iV g.1/\s.tm 28=x/\s.tm 29=iV t2.put.length/\s.tm 0=.ptr rt 0 0/\s.tm 7=iV e/\s.nx=ar/\th s.hp ar rt rp rd root x y Fp ⟨g.2,t2.put,o'⟩ rootS view (B+63000) /\
    Fr F hp nx (rt::(bf x++(bf y++Fp))) s.hp ar/\lU t2.p t2.put=lU g.2 (t2.put.drop g.1)) (fun g=>t2.put.length-g.1) (0,t2.p) ?_ ?_
   ·exact ⟨by simp,by simp,by simp,by simp,by simp,by simp[OC],rfl,hI,ir,by simp⟩
   rintro ⟨i,p⟩ tm hp1 nx1 ⟨hi,t30,t28,t29,t0,t7,yP,uu,Mh,hd⟩
   simp only at hi t30 t28 t29 t0 t7 yP uu Mh hd
   subst yP
   by_cases az:i<t2.put.length
   ·have bn:(i:Int)<(t2.put.length:Int):=by omega
    obtain ⟨r,uJ,DK,Ha⟩:=FP uu.hx az
    have NA:=uu.ix
    simp only[fh]at NA
    obtain ⟨fW,r4,nj,mr⟩:=uu.drop (t2.put[i])
    have oh:=uu.lp
    simp only at oh r4 nj Ha uJ
    have w1:IntKind.wrap .i64 ((i:Int)+1)=((i+1:Nat):Int):=by rw[aj]<;>omega
    have xe:t2.put[i]?=some t2.put[i]:=zA az
    simp[t30,t29,t28,bn,uJ,Ha,t0,NA,xe,kf]
    refine ae r4 ?_
    simp[t30,w1,-Prod.exists]
    refine ⟨(i+1,(p.drop t2.put[i]).getD p),by simp only;omega,by simp only;omega,rfl,by simp[t28,uJ],t29,t0,t7,by rw[<-uJ];exact nj,by have:=Mh.trans mr;rw[uJ]at this;simpa using this,?_⟩
    simp only
    rw[hd,zO az]
    rfl
   ·have pw:i=t2.put.length:=by omega
    subst pw
    simp[t30,t29,t7]
    rw[wu]at hd
    exact ⟨_,⟨p,t2.put,o'⟩,⟨x,y,Fp,view,uu.more (by omega),rfl⟩,hd.symm,Mh⟩
  |ok r =>
   obtain ⟨x,y,Fp,view,hI,rfl⟩:=jd
   have ix:=hI.ix
   simp only[fh]at ix
   have IK:=hI.hy.len
   simp[OC,ix,IK]
   refine aM (I:=fun (g:Nat×PM) s=>g.1<=t2.old.length/\s.tm 47=iV g.1/\s.tm 45=y/\s.tm 46=iV t2.old.length/\s.tm 0=.ptr rt 0 0/\s.nx=ar/\th s.hp ar rt rp rd r x y Fp ⟨g.2,t2.put,t2.old⟩ rootS view (B+63000) /\
    Fr F hp nx (rt::(bf x++(bf y++Fp))) s.hp ar/\gS t2.p t2.old=gS g.2 (t2.old.drop g.1)) (fun g=>t2.old.length-g.1) (0,t2.p) ?_ ?_
   ·exact ⟨by simp,by simp,by simp,by simp,by simp,rfl,hI,ir,by simp⟩
   rintro ⟨i,p⟩ tm hp1 nx1 ⟨hi,t30,t28,t29,t0,yP,uu,Mh,hd⟩
   simp only at hi t30 t28 t29 t0 yP uu Mh hd
   subst yP
   by_cases az:i<t2.old.length
   ·have bn:(i:Int)<(t2.old.length:Int):=by omega
    obtain ⟨q,uJ,DK,Ha⟩:=FP uu.hy az
    have NA:=uu.ix
    simp only[fh]at NA
    obtain ⟨fW,r4,nj,mr⟩:=uu.drop (t2.old[i])
    have oh:=uu.lo
    simp only at oh r4 nj Ha uJ
    have w1:IntKind.wrap .i64 ((i:Int)+1)=((i+1:Nat):Int):=by rw[aj]<;>omega
    have xe:t2.old[i]?=some t2.old[i]:=zA az
    have hdc:=zO az
    simp[t30,t29,t28,bn,uJ,Ha,t0,NA,xe,kf]
    refine ae r4 ?_
    cases tl:p.drop t2.old[i] with
    |none =>
     rw[tl]at nj
     have jc:gS t2.p t2.old=(p,10):=by rw[hd,hdc];simp only[gS,tl]
     simp[tl]
     refine ap (f66 3 _ _) ?_
     simp
     rw[jc]
     exact ⟨rfl,_,⟨p,t2.put,t2.old⟩,⟨x,y,Fp,view,nj.more (by omega),rfl⟩,rfl,Mh.trans mr⟩
    |some p' =>
     rw[tl]at nj
     simp[tl,t30,w1,-Prod.exists]
     refine ⟨(i+1,p'),by simp only;omega,by simp only;omega,rfl,by simp[t28,uJ],t29,t0,by rw[<-uJ];exact nj,by have:=Mh.trans mr;rw[uJ]at this;simpa using this,?_⟩
     simp only
     rw[hd,hdc]
     simp only[gS,tl]
   ·have pw:i=t2.old.length:=by omega
    subst pw
    simp[t30,t29]
    rw[wu]at hd
    rw[hd]
    exact ⟨rfl,_,⟨p,t2.put,t2.old⟩,⟨x,y,Fp,view,uu.more (by omega),rfl⟩,rfl,Mh⟩
end Go.Ai
namespace Go.Ai
open Go.Bt
theorem Bd {n:Nd} (h2:ax n=true) (h1:n.leaf=true) {key:Bs} (hk:key∈n.keys):ax (ko n (below n.keys key))=true/\(ko n (below n.keys key)).keys.length+1=n.keys.length/\(ko n (below n.keys key)).items.length=(ko n (below n.keys key)).keys.length/\below n.keys key<n.keys.length:=by
 have eJ:=dR h2
 obtain ⟨b1,b2,b3⟩:=(aZ.of h2).leaf h1
 obtain ⟨az,he⟩:=zB.1 ((kW eJ key).1 hk)
 have oA:(fP n.keys (below n.keys key)).Sublist n.keys:=by
  have:n.keys=n.keys.take (below n.keys key)++n.keys.drop (below n.keys key):=(zy _ _).symm
  conv=>rhs;rw[this]
  exact List.Sublist.append (List.Sublist.refl _) (List.drop_sublist_drop_left _ (by omega))
 have Hd:kS (fP n.keys (below n.keys key)):=kJ.2 ((kJ.1 eJ).sublist oA)
 refine ⟨?_,by simp[ko,fP];omega,by simp[ko,fP];omega,az⟩
 show ax ⟨true,fP n.keys (below n.keys key),fP n.items (below n.keys key),[]⟩=true
 simp only[ax,zN]
 constructor
 ·refine iF.2 ⟨Hd,fun j hj => ?_⟩
  obtain ⟨q,hq,e⟩:=zY (oA.subset (zP hj))
  show (fP n.keys (below n.keys key))[j].length<=60
  rw[<-e];exact (aZ.of h2).yB q hq
 ·simp only[iU,if_true,zN,decide_eq_true_eq]
  refine ⟨⟨by simp[fP];omega,rfl⟩,?_⟩
  rw[zQ]
  intro y hy
  simp only[fP,zJ]at hy
  rcases hy with hy|hy
  ·exact b3 y (zw hy)
  ·exact b3 y (zx hy)
theorem Na {v:Bs}:∀(k n:Nat) (t t':T) (e:Except Nat Nat),sR v k n t=(e,t')->t'.p.st.length=t.p.st.length/\∀m,e=.error m->m≠0
 |0,n,t,t',e,h=>by simp only[sR,zPi]at h;obtain ⟨rfl,rfl⟩:=h;exact ⟨rfl,fun m h=>by cases h⟩
 |k+1,n,t,t',e,h=>by
  simp only[sR]at h
  cases hl:nI t 3 (aO n 4++(v.drop (488*k)).take 488) with
  |mk o t2 =>
   rw[hl]at h
   unfold nI at hl
   split at hl
   ·rename_i c p lG
    simp only[zPi]at hl
    obtain ⟨rfl,rfl⟩:=hl
    simp only[rb]at h
    obtain ⟨h1,h2⟩:=Na k c _ _ _ h
    exact ⟨by rw[h1];exact (PM.oU lG).2.2.2.2.2.2.1,h2⟩
   ·simp only[zPi]at hl
    obtain ⟨rfl,rfl⟩:=hl
    simp only[rb,zPi]at h
    obtain ⟨rfl,rfl⟩:=h
    exact ⟨rfl,fun m hm=>by simp only[Except.error.injEq]at hm;omega⟩
theorem AJ {t t':T} {v:Bs} {e:Nat} (h:dp t v=(.error e,t')):e≠0:=by
 unfold dp at h
 split at h
 ·cases h
 ·cases hl:sR v ((v.length-1) / 488+1) 0 t with
  |mk o t2 =>
   rw[hl]at h
   cases o with
   |ok c=>simp[rb]at h
   |error e' =>
    simp only[rb,zPi,Except.error.injEq]at h
    obtain ⟨rfl,_⟩:=h
    exact (Na _ _ _ _ _ hl).2 _ rfl
theorem Vp {rt rp rd root:Nat} {rootS key value:Bs} {q1 q2 q3:Nat} (hv:value.length<=60000):pY [(q1,[[.ptr rt 0 0]]),(q2,[[.str value]]),(q3,[[.str key]])] rt rp rd root rootS 45 [] [.ptr q1 0 0,.ptr q2 0 0,.ptr q3 0 0] (Em key value) (fun _=>True) where
 len:=fun t n n' t' h hl dj=>by
  unfold Em at h
  cases h1:dp t value with
  |mk o t2 =>
   rw[h1]at h
   cases o with
   |error e=>simp[rb]at h
   |ok it =>
    simp only[rb]at h
    split at h
    ·split at h
     ·rename_i y hy
      cases h2:ig t2 y with
      |mk o t3 =>
       rw[h2]at h
       cases o with
       |error e=>simp at h
       |ok u =>
        simp only[zPi,Except.ok.injEq]at h
        obtain ⟨rfl,_⟩:=h
        refine ⟨⟨?_,?_,?_⟩,rfl⟩
        ·have:=hl.1;simp[pf,ko,gg,fP];omega
        ·have:=hl.2.1;simp[pf,ko,gg,fP];omega
        ·simp[pf,ko]
     ·cases h
    ·simp only[zPi,Except.ok.injEq]at h
     obtain ⟨rfl,_⟩:=h
     refine ⟨⟨?_,?_,?_⟩,rfl⟩
     ·have:=hl.1;simp[pf,gg];omega
     ·have:=hl.2.1;simp[pf,gg];omega
     ·simp[pf]
 run:=fun hp nx F t B n x h CY hx fq dj hr _ hN hB=>by
  obtain ⟨b1,b1l,b1F⟩:=CY (q1,[[.ptr rt 0 0]]) (by simp)
  obtain ⟨b2,b2l,b2F⟩:=CY (q2,[[.str value]]) (by simp)
  obtain ⟨b3,b3l,b3F⟩:=CY (q3,[[.str key]]) (by simp)
  simp only at b1 b1l b1F b2 b2l b2F b3 b3l b3F
  have main:=an (P:=fun v hp' nx'=>Vm (Em key value t n).1 v/\∃F',rX hp' nx' rt rp rd F' root (Em key value t n) rootS (B+61900)/\Fr F hp nx F' hp' nx') e45 (args:=[x,.ptr q1 0 0,.ptr q2 0 0,.ptr q3 0 0]) rfl (hp:=hp) (nx:=nx) ?_
  ·obtain ⟨v,hp',nx',h1,h2,F',h3⟩:=main
   exact ⟨v,hp',nx',F',h1,h2,h3⟩
  have kN:=hx
  obtain ⟨b0,k1,k2,k3,k4,i1,i2,i3,i4,d1,d2,d3,d4,rfl⟩:=hx.shape
  obtain ⟨H1,fw⟩:∃H1,H1=ab (ab hp nx (some [[.v (.bool b0),.rs k1 k2 k3 k4,.rs i1 i2 i3 i4,.rs d1 d2 d3 d4]])) (nx+1) (some [[.v (.bool false),nS,nS,nS]]):=⟨_,rfl⟩
  have cX:Ro hp nx H1 (nx+1+1):=⟨by omega,fun r hr=>by simp[fw,show ¬r=nx by omega,show ¬r=nx+1 by omega]⟩
  have h1:=h.ro cX
  have je:=h.lt
  have nF:∀q,nx<=q->q∉F:=fun q hq e=>by have:=je q e;omega
  have p0:H1 nx=some [[.v (.bool b0),.rs k1 k2 k3 k4,.rs i1 i2 i3 i4,.rs d1 d2 d3 d4]]:=by simp[fw]
  have p1:H1 (nx+1)=some [[.v (.bool false),nS,nS,nS]]:=by simp[fw]
  have a1:=(cX.ah q1 b1l).trans b1
  have a2:=(cX.ah q2 b2l).trans b2
  have a3:=(cX.ah q3 b3l).trans b3
  obtain ⟨aT,ar,F2,r2,jd,iu⟩:=f46 h1 hv hN (by omega)
  have ir:=(cX.fr F).trans iu
  have hle:=iu.le
  have KU:∀q,q<nx+1+1->q∉F->q∉F2:=fun q u1 u2 e=>(iu.sub q e).elim u2 (by omega)
  have s0:=(iu.ah nx (by omega) (nF _ (by omega))).trans p0
  have s1:=(iu.ah (nx+1) (by omega) (nF _ (by omega))).trans p1
  have c1:=(iu.ah q1 (by omega) b1F).trans a1
  have c2:=(iu.ah q2 (by omega) b2F).trans a2
  have c3:=(iu.ah q3 (by omega) b3F).trans a3
  have e0:¬nx=ar:=by omega
  have e1:¬nx+1=ar:=by omega
  have e2:¬q1=ar:=by omega
  have e3:¬q2=ar:=by omega
  have e4:¬q3=ar:=by omega
  have e0':¬ar=nx:=by omega
  have Y3:¬ar=nx+1:=by omega
  simp[c45,<-fw,a1,a2]
  refine ae r2 ?_
  have lG:Em key value t n=rb (dp t value) fun x t =>
    if key∈n.keys then (match n.items[below n.keys key]? with
     |some y=>rb (ig t y) fun _ t=>(.ok (pf (ko n (below n.keys key)) (below n.keys key) key x),t)
     |none=>(.error 10,t))
    else (.ok (pf n (below n.keys key) key x),t):=rfl
  rw[lG]
  cases hl:dp t value with
  |mk o t2 =>
   rw[hl]at jd
   cases o with
   |error e =>
    have he:¬e=0:=AJ hl
    simp[GC,he,aa,aG,s0,s1,e0,e1,e0',Y3]
    refine ⟨⟨n,_,kN,rfl⟩,F2,⟨he,t2.old,(((dE.more jd (by omega)).ro cN).cQ (KU _ (by omega) (nF _ (by omega))))⟩,ir.sM (by omega) fun r u1 u2 => ?_⟩
    simp[show ¬r=ar by omega,show ¬r=nx+1 from fun e=>u2.elim (by omega) fun q=>KU _ (by omega) (nF _ (by omega)) (e▸q)]
   |ok it =>
    simp[GC,bD.cells,aa,aG,s0,s1,c3,e0,e1,e0',Y3,e4]
    have iJ:Ro aT ar (ab aT ar (some [it.cells])) (ar+1):=cN
    have mi:=dE.ro jd iJ
    have mr:=ir.trans (iJ.fr F2)
    simp only[bD.cells]at iJ mi mr
    obtain ⟨H3,Lz⟩:∃H3,H3=ab aT ar (some [[.str it.v,iV it.p,iV it.s]]):=⟨_,rfl⟩
    rw[<-Lz]at iJ mi mr
    have s0':H3 nx=_:=(iJ.ah nx (by omega)).trans s0
    have s1':H3 (nx+1)=_:=(iJ.ah (nx+1) (by omega)).trans s1
    have BZ:H3 q1=_:=(iJ.ah q1 (by omega)).trans c1
    have J0:H3 q3=_:=(iJ.ah q3 (by omega)).trans c3
    have s7:H3 ar=some [[.str it.v,iV it.p,iV it.s]]:=by simp[Lz]
    have WZ:=f37 n _ kN key (by have:=fq.1;omega) (by have:=fq.2.1;omega) (by have:=fq.2.2;omega)
    have Hk:(below n.keys key+if key∈n.keys/\n.leaf=false then 1 else 0)=below n.keys key:=by simp[dj]
    have lR:kF n key=(((below n.keys key:Nat):Int),decide (key∈n.keys)):=by simp only[kF,hr,if_true,Hk]
    obtain ⟨g1,g2,g3⟩:=(aZ.of hr).leaf dj
    have Q8:below n.keys key<=n.keys.length:=(fu (dR hr) key).1
    have lP:n.kids.length<=60000:=by rw[g2];simp
    have Yt:eV 3 [it.cells] (.rs false 3 [[.str it.v,iV it.p,iV it.s]] (some 1)):=⟨false,3,_,rfl,.inr rfl,by simp⟩
    rw[<-Lz]
    refine ap (WZ _ _) ?_
    by_cases hm:key∈n.keys
    ·obtain ⟨I8,OL,I7,LP⟩:=Bd hr dj hm
     have lQ:n.items[below n.keys key]?=some (n.items[below n.keys key]'(by omega)):=zA (by omega)
     have CS:=g3 _ (zP (show below n.keys key<n.items.length by omega))
     have YF:eV 3 (n.items.map bD.cells) (.rs i1 i2 i3 i4):=by
      obtain ⟨_,_,_,e,_,kO,_⟩:=id kN
      simp only[AV.agg.injEq,List.cons.injEq,and_true]at e
      rw[e.2.2.1];exact kO
     have bG:=uA YF (i:=below n.keys key) (c:=(n.items[below n.keys key]'(by omega)).cells) (k:=.i64) (by rw[zM,lQ];rfl)
     simp only[lQ,if_pos hm,rb]
     generalize n.items[below n.keys key]'(by omega)=y at *
     obtain ⟨fW,sN,F4,r4,AA,gH⟩:=f43 mi CS (by omega)
     simp only[bD.cells]at bG r4
     have abg:=gH.le
     have MW:∀q,q<ar+1->q∉F2->q∉F4:=fun q u1 u2 e=>(gH.sub q e).elim u2 (by omega)
     have KV:ar∉F2:=fun e=>by have:=jd.lt _ e;omega
     have nn0:=KU nx (by omega) (nF _ (by omega))
     have Tv:=KU (nx+1) (by omega) (nF _ (by omega))
     have z0:fW nx=_:=(gH.ah nx (by omega) nn0).trans s0'
     have z1:fW (nx+1)=_:=(gH.ah (nx+1) (by omega) Tv).trans s1'
     have z3:fW q3=_:=(gH.ah q3 (by omega) (KU _ (by omega) b3F)).trans J0
     have z7:fW ar=_:=(gH.ah ar (by omega) KV).trans s7
     have BL:=mr.trans gH
     simp[lS,lR,hm,s0',s1',BZ,J0,bG,-ag,-Int.natCast_add]
     refine ae r4 ?_
     cases T7:ig t2 y with
     |mk o t4 =>
      rw[T7]at AA
      cases o with
      |error e =>
       obtain ⟨he,o',uO⟩:=AA
       simp[Eg,he,aa,aG,z0,z1]
       refine ⟨⟨n,_,kN,rfl⟩,F4,⟨he,o',(uO.more (by omega)).cQ (MW _ (by omega) Tv)⟩,BL.sM (zD _) fun r u1 u2 => ?_⟩
       simp[show ¬r=nx+1 from fun e=>u2.elim (by omega) fun q=>MW _ (by omega) Tv (e▸q)]
      |ok u =>
       obtain ⟨y1,Yu,ry1⟩:=abL n _ kN hr dj (by have:=fq.1;omega) g1 lP (below n.keys key) LP [] nS .v9
       obtain ⟨y2,RU,ry2⟩:=abK (ko n (below n.keys key)) y1 Yu I8 rfl (by have:=fq.1;omega) I7 (by simp[ko]) (below n.keys key) (by omega) key it _ Yt
       have V7:=Yu
       have V6:=RU
       obtain ⟨m0,m1,m2,m3,m4,o1,o2,o3,o4,l1,l2,l3,l4,rfl⟩:=Yu.shape
       obtain ⟨m0',m1',m2',m3',m4',o1',o2',o3',o4',VX,VW,VV,l4',rfl⟩:=RU.shape
       simp[Eg,aa,aG,z0,z1]
       refine ap (ry1 _ _) ?_
       simp[aa,aG,z0,z1,z3,z7,e0,e1,e0',Y3,show ¬q3=nx by omega]
       refine ap (ry2 _ _) ?_
       simp[aa,aG,z0,z1]
       refine ⟨⟨_,V6,rfl⟩,F4,(((dE.more AA (by omega)).cQ (MW _ (by omega) nn0)).cQ (MW _ (by omega) Tv)),BL.sM (zD _) fun r u1 u2 => ?_⟩
       simp[show ¬r=nx+1 from fun e=>u2.elim (by omega) fun q=>MW _ (by omega) Tv (e▸q),show ¬r=nx from fun e=>u2.elim (by omega) fun q=>MW _ (by omega) nn0 (e▸q)]
    ·simp only[if_neg hm,rb]
     obtain ⟨y2,RU,ry2⟩:=abK n _ kN hr dj (by have:=fq.1;omega) g1 lP (below n.keys key) Q8 key it _ Yt
     have V6:=RU
     obtain ⟨m0',m1',m2',m3',m4',o1',o2',o3',o4',VX,VW,VV,l4',rfl⟩:=RU.shape
     simp[lS,lR,hm,s0',s1',BZ,J0,s7,-Int.natCast_add]
     refine ap (ry2 _ _) ?_
     simp[aa,aG,s0',s1']
     have Tv:=KU (nx+1) (by omega) (nF _ (by omega))
     refine ⟨⟨_,V6,rfl⟩,F2,((dE.more mi (by omega)).cQ Tv),mr.sM (zD _) fun r u1 u2 => ?_⟩
     simp[show ¬r=nx+1 from fun e=>u2.elim (by omega) fun q=>Tv (e▸q)]
end Go.Ai
namespace Go.Ai
open Go.Bt
theorem Au (rd:fx) (key:Bs):∀(f a:Nat),B5 rd key (fun _=>True) f a
 |0,_=>trivial
 |f+1,a=>fun n _=>⟨fun _=>trivial,fun _ c _=>Au rd key f c.toNat⟩
theorem dE.f35 {hp nx rt rp rd F root t rootS B} (h:dE hp nx rt rp rd F root t rootS B) (hB:B<=1000000000):aY E 35 [.ptr rt 0 0] hp nx (iV 0) hp nx .e:=by
 obtain ⟨x,y,Fp,view,hI,_⟩:=h
 exact Go.Ai.f35 (hI.KE hB)
theorem f16 {hp nx rt rp rd F root t rootS B} (h:dE hp nx rt rp rd F root t rootS B) {key value:Bs} (hN:t.p.st.length<=4096) (hB:B<=400000000) :
  ∃hp' nx' F' t',aY E 16 [.ptr rt 0 0,.str key,.str value] hp nx (.v (.int .i64 ((uE key value t.p root).1:Nat))) hp' nx' .e/\dE hp' nx' rt rp rd F' (uE key value t.p root).2.2 t' rootS (B+64000)/\t'.p=(uE key value t.p root).2.1/\Fr F hp nx F' hp' nx':=by
 have main:=an (P:=fun v hp' nx'=>v=.v (.int .i64 ((uE key value t.p root).1:Nat))/\∃F' t',dE hp' nx' rt rp rd F' (uE key value t.p root).2.2 t' rootS (B+64000)/\t'.p=(uE key value t.p root).2.1/\Fr F hp nx F' hp' nx') e16 (args:=[.ptr rt 0 0,.str key,.str value]) rfl (hp:=hp) (nx:=nx) ?_
 ·obtain ⟨v,hp',nx',h1,rfl,F',t',h2⟩:=main
  exact ⟨hp',nx',F',t',h1,h2⟩
 have je:=h.lt
 obtain ⟨H1,fw⟩:∃H1,H1=ab (ab (ab hp nx (some [[.ptr rt 0 0]])) (nx+1) (some [[.str key]])) (nx+1+1) (some [[.str value]]):=⟨_,rfl⟩
 have bZ:Ro hp nx H1 (nx+1+1+1):=⟨by omega,fun r hr=>by simp[fw,show ¬r=nx by omega,show ¬r=nx+1 by omega,show ¬r=nx+1+1 by omega]⟩
 have h1:=h.ro bZ
 have nn:=bZ.fr F
 have nF:∀q,nx<=q->q∉F:=fun q hq e=>by have:=je q e;omega
 have b0:H1 nx=some [[.ptr rt 0 0]]:=by simp[fw,show ¬nx=nx+1+1 by omega]
 have b1:H1 (nx+1)=some [[.str key]]:=by simp[fw]
 have b2:H1 (nx+1+1)=some [[.str value]]:=by simp[fw]
 have r35:=h1.f35 (by omega)
 unfold uE
 simp[c16,<-fw,b0]
 refine ae r35 ?_
 by_cases hk:60<key.length
 ·have IS:(60:Int)<(key.length:Int):=by omega
  simp[b1,hk,IS]
  exact ⟨F,t,h1.more (by omega),rfl,nn⟩
 ·have IS:¬(60:Int)<(key.length:Int):=by omega
  by_cases hv:60000<value.length
  ·have hvI:(60000:Int)<(value.length:Int):=by omega
   simp[b1,b2,hk,IS,hv,hvI]
   exact ⟨F,t,h1.more (by omega),rfl,nn⟩
  ·have hvI:¬(60000:Int)<(value.length:Int):=by omega
   have CY:kT [(nx,[[.ptr rt 0 0]]),(nx+1+1,[[.str value]]),(nx+1,[[.str key]])] H1 (nx+1+1+1) F:=by
    intro q hq
    simp only[zH,wO,or_false]at hq
    rcases hq with rfl|rfl|rfl
    ·exact ⟨b0,by simp only;omega,nF _ (by simp only;omega)⟩
    ·exact ⟨b2,by simp only;omega,nF _ (by simp only;omega)⟩
    ·exact ⟨b1,by simp only;omega,nF _ (by simp only;omega)⟩
   obtain ⟨aT,ar,F2,t2,r2,jd,yF,iu⟩:=f40 (Vp (rt:=rt) (rp:=rp) (rd:=rd) (root:=root) (rootS:=rootS) (key:=key) (value:=value) (q1:=nx) (q2:=nx+1+1) (q3:=nx+1) (by omega)) (key:=key) h1 CY hN (fun _=>trivial) (fun _=>Au _ _ _ _) (by omega)
   simp[b0,b1,b2,hk,IS,hv,hvI]
   refine ae r2 ?_
   simp
   exact ⟨F2,t2,jd,yF,nn.trans iu⟩
theorem Xy {rt rp rd root:Nat} {rootS key:Bs} {q1 q3:Nat}:pY [(q1,[[.ptr rt 0 0]]),(q3,[[.str key]])] rt rp rd root rootS 41 [] [.ptr q3 0 0,.ptr q1 0 0] (ta key) (fun n=>key∈n.keys) where
 len:=fun t n n' t' h hl dj=>by
  unfold ta at h
  split at h
  ·rename_i y hy
   cases h2:ig t y with
   |mk o t3 =>
    rw[h2]at h
    cases o with
    |error e=>simp[rb]at h
    |ok u =>
     simp only[rb,zPi,Except.ok.injEq]at h
     obtain ⟨rfl,_⟩:=h
     refine ⟨⟨?_,?_,?_⟩,rfl⟩
     ·have:=hl.1;simp[ko,fP];omega
     ·have:=hl.2.1;simp[ko,fP];omega
     ·simp[ko]
  ·cases h
 run:=fun hp nx F t B n x h CY hx fq dj hr hm hN hB=>by
  obtain ⟨b1,b1l,b1F⟩:=CY (q1,[[.ptr rt 0 0]]) (by simp)
  obtain ⟨b3,b3l,b3F⟩:=CY (q3,[[.str key]]) (by simp)
  simp only at b1 b1l b1F b3 b3l b3F
  have main:=an (P:=fun v hp' nx'=>Vm (ta key t n).1 v/\∃F',rX hp' nx' rt rp rd F' root (ta key t n) rootS (B+61900)/\Fr F hp nx F' hp' nx') e41 (args:=[x,.ptr q3 0 0,.ptr q1 0 0]) rfl (hp:=hp) (nx:=nx) ?_
  ·obtain ⟨v,hp',nx',h1,h2,F',h3⟩:=main
   exact ⟨v,hp',nx',F',h1,h2,h3⟩
  have kN:=hx
  obtain ⟨b0,k1,k2,k3,k4,i1,i2,i3,i4,d1,d2,d3,d4,rfl⟩:=hx.shape
  obtain ⟨H1,fw⟩:∃H1,H1=ab (ab hp nx (some [[.v (.bool b0),.rs k1 k2 k3 k4,.rs i1 i2 i3 i4,.rs d1 d2 d3 d4]])) (nx+1) (some [[.v (.bool false),nS,nS,nS]]):=⟨_,rfl⟩
  have cX:Ro hp nx H1 (nx+1+1):=⟨by omega,fun r hr=>by simp[fw,show ¬r=nx by omega,show ¬r=nx+1 by omega]⟩
  have h1:=h.ro cX
  have je:=h.lt
  have nF:∀q,nx<=q->q∉F:=fun q hq e=>by have:=je q e;omega
  have p0:H1 nx=some [[.v (.bool b0),.rs k1 k2 k3 k4,.rs i1 i2 i3 i4,.rs d1 d2 d3 d4]]:=by simp[fw]
  have p1:H1 (nx+1)=some [[.v (.bool false),nS,nS,nS]]:=by simp[fw]
  have a1:=(cX.ah q1 b1l).trans b1
  have a3:=(cX.ah q3 b3l).trans b3
  have WZ:=f37 n _ kN key (by have:=fq.1;omega) (by have:=fq.2.1;omega) (by have:=fq.2.2;omega)
  have Hk:(below n.keys key+if key∈n.keys/\n.leaf=false then 1 else 0)=below n.keys key:=by simp[dj]
  have lR:kF n key=(((below n.keys key:Nat):Int),decide (key∈n.keys)):=by simp only[kF,hr,if_true,Hk]
  obtain ⟨g1,g2,g3⟩:=(aZ.of hr).leaf dj
  have lP:n.kids.length<=60000:=by rw[g2];simp
  obtain ⟨I8,OL,I7,LP⟩:=Bd hr dj hm
  have lQ:n.items[below n.keys key]?=some (n.items[below n.keys key]'(by omega)):=zA (by omega)
  have CS:=g3 _ (zP (show below n.keys key<n.items.length by omega))
  have YF:eV 3 (n.items.map bD.cells) (.rs i1 i2 i3 i4):=by
   obtain ⟨_,_,_,e,_,kO,_⟩:=id kN
   simp only[AV.agg.injEq,List.cons.injEq,and_true]at e
   rw[e.2.2.1];exact kO
  have bG:=uA YF (i:=below n.keys key) (c:=(n.items[below n.keys key]'(by omega)).cells) (k:=.i64) (by rw[zM,lQ];rfl)
  have afa:ta key t n=rb (ig t (n.items[below n.keys key]'(by omega))) fun _ t=>(.ok (ko n (below n.keys key)),t):=by simp only[ta,lQ]
  rw[afa]
  generalize n.items[below n.keys key]'(by omega)=y at *
  obtain ⟨fW,sN,F4,r4,AA,gH⟩:=f43 h1 CS (by omega)
  simp only[bD.cells]at bG r4
  obtain ⟨y1,Yu,ry1⟩:=abL n _ kN hr dj (by have:=fq.1;omega) g1 lP (below n.keys key) LP [] nS .v9
  have V7:=Yu
  obtain ⟨m0,m1,m2,m3,m4,o1,o2,o3,o4,l1,l2,l3,l4,rfl⟩:=Yu.shape
  have BL:=(cX.fr F).trans gH
  have MW:nx+1∉F4:=fun e=>(gH.sub _ e).elim (nF _ (by omega)) (by omega)
  have z1:=(gH.ah (nx+1) (by omega) (nF _ (by omega))).trans p1
  simp[c41,<-fw,p0,a1,a3]
  refine ap (WZ _ _) ?_
  simp[lS,lR,p0,a1,bG,-ag,-Int.natCast_add]
  refine ap (ry1 _ _) ?_
  simp[lS,lR,p0,a1,bG,-ag,-Int.natCast_add]
  refine ae r4 ?_
  cases T7:ig t y with
  |mk o t4 =>
   rw[T7]at AA
   cases o with
   |error e =>
    obtain ⟨he,o',uO⟩:=AA
    simp[Eg,aa,aG,z1]
    refine ⟨⟨_,_,V7,rfl⟩,F4,⟨he,o',(uO.more (by omega)).cQ MW⟩,BL.sM (zD _) fun r u1 u2 => ?_⟩
    simp[show ¬r=nx+1 from fun e=>u2.elim (by omega) fun q=>MW (e▸q)]
   |ok u =>
    simp[Eg,aa,aG,z1]
    refine ⟨⟨_,V7,rfl⟩,F4,((dE.more AA (by omega)).cQ MW),BL.sM (zD _) fun r u1 u2 => ?_⟩
    simp[show ¬r=nx+1 from fun e=>u2.elim (by omega) fun q=>MW (e▸q)]
end Go.Ai
namespace Go.Ai
open Go.Bt
theorem B4 {rd:fx} {key:Bs} {v:Bs}:∀(f a:Nat),iP rd key f a=some (some v)->a≠0/\B5 rd key (fun n=>key∈n.keys) f a
 |f,0,h=>by cases f<;>simp[iP]at h
 |0,a+1,h=>by simp[iP]at h
 |f+1,a+1,h=>by
  refine ⟨by omega,fun n hn => ?_⟩
  simp only[iP,hn]at h
  refine ⟨fun hl => ?_,fun hl c hc => ?_⟩
  ·rw[if_pos hl]at h
   split at h
   ·assumption
   ·simp at h
  ·rw[if_neg (by simp[hl]),hc]at h
   exact (B4 f _ h).2
theorem dE.get {hp nx rt rp rd F root t rootS B} (h:dE hp nx rt rp rd F root t rootS B) (hB:B<=1000000000) (key:Bs):∃hp' nx',aY E 10 [.ptr rt 0 0,.str key] hp nx (C5 (iP t.p.read key 12 root)) hp' nx' .e/\Ro hp nx hp' nx':=by
 obtain ⟨x,y,Fp,view,hI,_⟩:=h
 have ix:=hI.ix
 exact f10 (hI.KE hB) ⟨⟨_,ix⟩⟩ key
theorem sK {α β:Type} {x:R α} {f:α->T->R β} {L:Nat} (h:x.2.p.st.length=L) (hf:∀a t,t.p.st.length=L->(f a t).2.p.st.length=L):(rb x f).2.p.st.length=L:=by
 obtain ⟨o,t⟩:=x
 cases o with
 |ok a=>exact hf a t h
 |error e=>exact h
theorem Nb (t:T) (k:Nat) (s:Bs):(nI t k s).2.p.st.length=t.p.st.length:=by
 unfold nI
 split
 ·rename_i n p lG;exact (PM.oU lG).2.2.2.2.2.2.1
 ·rfl
theorem gY (t:T) (n:Nd):(aV t n).2.p.st.length=t.p.st.length:=by
 unfold aV
 split
 ·exact Nb _ _ _
 ·rfl
theorem VS (v:Bs):∀(k n:Nat) (t:T),(sR v k n t).2.p.st.length=t.p.st.length
 |0,n,t=>rfl
 |k+1,n,t=>sK (Nb _ _ _) fun a t' h=>by rw[VS v k a t'];exact h
theorem RG (t:T) (x:bD):(ig t x).2.p.st.length=t.p.st.length:=by
 unfold ig
 split
 ·rfl
 ·split<;>rfl
theorem Cb (t:T) (a:Nat):(eD t a).2.p.st.length=t.p.st.length:=by
 unfold eD
 split<;>rfl
theorem sH (t:T) (n:Nd) (a b:Nat) (p:dG):(bL t n a b p).2.p.st.length=t.p.st.length:=by
 cases p with
 |one x=>exact sK (gY _ _) fun c t' h=>h
 |two x k y=>exact sK (gY _ _) fun c t' h=>sK ((gY _ _).trans h) fun d A5 h=>h
theorem RJ (t:T) (n:Nd) (i:Nat) (x:Nd):(fi t n i x).2.p.st.length=t.p.st.length:=by
 unfold fi
 split
 ·split
  ·exact sK (Cb _ _) fun c t' h=>h
  ·rfl
 ·split
  ·exact sK (Cb _ _) fun c t' h=>h
  ·rfl
theorem S1 (t:T) (n:Nd) (i:Nat) (p:dG):(lX t n i p).2.p.st.length=t.p.st.length:=by
 cases p with
 |one x =>
  simp only[lX]
  split
  ·exact sK (RJ _ _ _ _) fun c t' h=>(sH _ _ _ _ _).trans h
  ·exact sH _ _ _ _ _
 |two a k b=>exact sH _ _ _ _ _
theorem BX {act:T->Nd->R Nd} (hA:∀t n,(act t n).2.p.st.length=t.p.st.length) (key:Bs):∀(f a:Nat) (t:T),(cY act key f a t).2.p.st.length=t.p.st.length
 |0,a,t=>rfl
 |f+1,a,t=>by
  refine sK (Cb _ _) fun n t' h => ?_
  split
  ·exact sK ((hA _ _).trans h) fun n A5 h=>h
  ·split
   ·exact sK ((BX hA key f _ _).trans h) fun p A5 h=>(S1 _ _ _ _).trans h
   ·exact h
theorem I1 (t:T) (p:dG):(dK t p).2.p.st.length=t.p.st.length:=by
 cases p with
 |one n =>
  simp only[dK]
  split
  ·rfl
  ·split
   ·rfl
   ·exact gY _ _
 |two a k b=>exact sK (gY _ _) fun c t' h=>sK ((gY _ _).trans h) fun d A5 h=>(gY _ _).trans h
theorem U8 {act:T->Nd->R Nd} (hA:∀t n,(act t n).2.p.st.length=t.p.st.length) (key:Bs) (root:Nat) (t:T):(r9 act key root t).2.p.st.length=t.p.st.length:=by
 unfold r9
 split
 ·exact sK (hA _ _) fun n t' h=>(I1 _ _).trans h
 ·exact sK (BX hA key _ _ _) fun n t' h=>(I1 _ _).trans h
theorem BP:∀(l:List Nat) (p:PM),(lU p l).st.length=p.st.length
 |[],p=>rfl
 |n::r,p=>by
  simp only[lU]
  rw[BP r]
  cases h:p.drop n with
  |none=>rfl
  |some p'=>exact (PM.rQ h).2.2.2.2.2.1
theorem BQ:∀(l:List Nat) (p:PM),(gS p l).1.st.length=p.st.length
 |[],p=>rfl
 |n::r,p=>by
  simp only[gS]
  cases h:p.drop n with
  |none=>rfl
  |some p'=>exact (BQ r p').trans (PM.rQ h).2.2.2.2.2.1
theorem LN {act:T->Nd->R Nd} (hA:∀t n,(act t n).2.p.st.length=t.p.st.length) (key:Bytes) (root:Nat) (p:PM):(jo act key root p).2.1.st.length=p.st.length:=by
 have h:=U8 hA key root ⟨p,[],[]⟩
 unfold jo
 cases ht:r9 act key root ⟨p,[],[]⟩ with
 |mk o t2 =>
  rw[ht]at h
  cases o with
  |ok r=>exact (BQ _ _).trans h
  |error e=>exact (BP _ _).trans h
theorem Xx (key:Bs) (t:T) (n:Nd):(ta key t n).2.p.st.length=t.p.st.length:=by
 unfold ta
 split
 ·exact sK (RG _ _) fun u t' h=>h
 ·rfl
theorem f12 {hp nx rt rp rd F root t rootS B} (h:dE hp nx rt rp rd F root t rootS B) {keys:List Bs} {kA:AV} (hk:eV 1 (keys.map aN) kA) (hN:t.p.st.length<=4096) (lP:keys.length<=1000000) (hB:B+64000*keys.length<=400000000) :
  ∃hp' nx' F' t',aY E 12 [.ptr rt 0 0,kA] hp nx (.bE [.v (.int .i64 ((dk keys 0 t.p root).1:Nat)),.v (.int .i64 ((dk keys 0 t.p root).2.1:Nat))]) hp' nx' .e/\dE hp' nx' rt rp rd F' (dk keys 0 t.p root).2.2.2 t' rootS (B+64000*keys.length)/\t'.p=(dk keys 0 t.p root).2.2.1/\Fr F hp nx F' hp' nx':=by
 have main:=an (P:=fun v hp' nx'=>v=(.bE [.v (.int .i64 ((dk keys 0 t.p root).1:Nat)),.v (.int .i64 ((dk keys 0 t.p root).2.1:Nat))])/\∃F' t',dE hp' nx' rt rp rd F' (dk keys 0 t.p root).2.2.2 t' rootS (B+64000*keys.length)/\t'.p=(dk keys 0 t.p root).2.2.1/\Fr F hp nx F' hp' nx') e12 (args:=[.ptr rt 0 0,kA]) rfl (hp:=hp) (nx:=nx) ?_
 ·obtain ⟨v,hp',nx',h1,rfl,F',t',h2⟩:=main
  exact ⟨hp',nx',F',t',h1,h2⟩
 obtain ⟨kn,ks,kc,rfl,w9⟩:=id hk
 have je:=h.lt
 have QL:nx∉F:=fun e=>by have:=je nx e;omega
 obtain ⟨H1,fw⟩:∃H1,H1=ab hp nx (some [[.ptr rt 0 0]]):=⟨_,rfl⟩
 have bZ:Ro hp nx H1 (nx+1):=by rw[fw];exact cN
 have h1:=h.ro bZ
 have nn:=bZ.fr F
 have b0:H1 nx=some [[.ptr rt 0 0]]:=by simp[fw]
 simp[c12,<-fw,b0]
 refine ae (h1.f35 (by omega)) ?_
 simp
 refine aM (I:=fun (g:Nat×Nat×T×Nat×List Nat) s=>g.1<=keys.length/\g.2.1<=g.1/\s.tm 20=iV g.1/\s.tm 18=.rs kn ks (keys.map aN) kc/\s.tm 19=iV keys.length/\s.tm 7=iV g.2.1/\s.tm 2=.ptr nx 0 0/\s.hp nx=some [[.ptr rt 0 0]]/\nx∉g.2.2.2.2/\nx<s.nx /\
   dE s.hp s.nx rt rp rd g.2.2.2.2 g.2.2.2.1 g.2.2.1 rootS (B+64000*g.1)/\Fr F hp nx g.2.2.2.2 s.hp s.nx/\g.2.2.1.p.st.length<=4096/\dk keys 0 t.p root=dk (keys.drop g.1) g.2.1 g.2.2.1.p g.2.2.2.1) (fun g=>keys.length-g.1) (0,0,t,root,F) ?_ ?_
 ·exact ⟨by simp,by simp,by simp,by simp,by simp,by simp,by simp,b0,QL,by simp only;omega,by simpa using h1,nn,hN,by simp⟩
 rintro ⟨i,m,t1,Vj,F1⟩ tm hp1 nx1 ⟨hi,hm,t20,t18,t19,t7,t2,c0,QW,WB,oF,Mh,AB,hd⟩
 simp only at hi hm t20 t18 t19 t7 t2 c0 QW WB oF Mh AB hd
 rw[hd]
 by_cases az:i<keys.length
 ·have bn:(i:Int)<(keys.length:Int):=by omega
  have xe:keys[i]?=some keys[i]:=zA az
  have bG:=aS (n:=1) (k:=.i64) (cap:=kc) (j:=i) (cells:=[.str keys[i]]) w9 (by simp[xe,aN])
  have tl:keys.drop i=keys[i]::keys.drop (i+1):=zO az
  have Q4:∀m p r,dk (keys.drop i) m p r=match iP p.read keys[i] 12 r with
    |none=>(m,10,p,r)
    |some none=>dk (keys.drop (i+1)) m p r
    |some (some _)=>match jo (ta keys[i]) keys[i] r p with
     |(0,p,r)=>dk (keys.drop (i+1)) (m+1) p r
     |(e,p,r)=>(m,e,p,r):=fun m p r=>by rw[tl];rfl
  have hmul:64000*(i+1)=64000*i+64000:=by omega
  have af7:64000*(i+1)<=64000*keys.length:=by omega
  rw[Q4]
  have cX:Ro hp1 nx1 (ab hp1 nx1 (some [[.str keys[i]]])) (nx1+1):=cN
  have jd:=oF.ro cX
  obtain ⟨aT,ar,r2,iK⟩:=jd.get (by omega) keys[i]
  have AO:=iK.le
  have mi:=jd.ro iK
  have aaR:=cX.trans iK
  have ir:=Mh.trans (aaR.fr F1)
  have c0':aT nx=some [[.ptr rt 0 0]]:=(aaR.ah nx WB).trans c0
  have c9':aT nx1=some [[.str keys[i]]]:=by rw[iK.ah nx1 (by omega)];simp
  have ne:¬nx=nx1:=by omega
  have ne':¬nx1=nx:=by omega
  have w1:IntKind.wrap .i64 ((i:Int)+1)=((i+1:Nat):Int):=by rw[aj]<;>omega
  have w2:IntKind.wrap .i64 ((m:Int)+1)=((m+1:Nat):Int):=by rw[aj]<;>omega
  have w3:IntKind.wrap .i64 (((m+1:Nat):Int)-1)=(m:Int):=by rw[aj]<;>omega
  simp[t20,t18,t19,t2,bn,bG,-ag,aa,aG,c0,ne,ne']
  refine ae r2 ?_
  cases hg:iP t1.p.read keys[i] 12 Vj with
  |none =>
   simp[C5,t7]
   exact ⟨F1,t1,mi.more (by omega),rfl,ir⟩
  |some o =>
   cases o with
   |none =>
    simp[C5,t7,t20,w1,-Prod.exists]
    refine ⟨(i+1,m,t1,Vj,F1),by simp only;omega,by simp only;omega,by simp only;omega,by simp only;omega,t18,t19,rfl,t2,c0',QW,by omega,mi.more (by simp only;omega),ir,AB,rfl⟩
   |some v =>
    simp[C5,t7,c0',c9',t2]
    have CY:kT [(nx,[[.ptr rt 0 0]]),(nx1,[[.str keys[i]]])] aT ar F1:=by
     intro q hq
     simp only[zH,wO,or_false]at hq
     rcases hq with rfl|rfl
     ·exact ⟨c0',by simp only;omega,QW⟩
     ·exact ⟨c9',by simp only;omega,fun e=>by have:=oF.lt _ e;simp only at this;omega⟩
    obtain ⟨pl1,pl2⟩:=B4 _ _ hg
    obtain ⟨fW,sN,F4,t4,r4,AA,TQ,mr⟩:=f40 (Xy (rt:=rt) (rp:=rp) (rd:=rd) (root:=Vj) (rootS:=rootS) (key:=keys[i]) (q1:=nx) (q3:=nx1)) (key:=keys[i]) mi CY AB (fun e=>absurd e pl1) (fun _=>pl2) (by omega)
    have hdn:=LN (Xx keys[i]) keys[i] Vj t1.p
    have abg:=mr.le
    have aeQ:nx∉F4:=fun e=>(mr.sub _ e).elim QW (by omega)
    have afI:fW nx=some [[.ptr rt 0 0]]:=(mr.ah nx (by omega) QW).trans c0'
    have gH:=ir.trans mr
    refine ae r4 ?_
    rcases E2:jo (ta keys[i]) keys[i] Vj t1.p with ⟨e,p',r'⟩
    rw[E2]at AA TQ hdn
    simp only at AA TQ hdn
    cases e with
    |zero =>
     simp[t7,t20,w1,w2,-Prod.exists]
     refine ⟨(i+1,m+1,t4,r',F4),by simp only;omega,by simp only;omega,by simp only;omega,by simp only;omega,t18,t19,by simp only;omega,t2,afI,aeQ,by omega,AA.more (by simp only;omega),gH,by simp only[TQ];omega,by simp only[TQ]⟩
    |succ e =>
     have Q3:¬((e:Int)+1=0):=by omega
     simp[t7,w2,w3,Q3]
     exact ⟨by rw[aj]<;>omega,F4,t4,AA.more (by omega),TQ,gH⟩
 ·have pw:i=keys.length:=by omega
  subst pw
  simp[t20,t19,t7]
  have hd0:dk [] m t1.p Vj=(m,0,t1.p,Vj):=rfl
  rw[hd0]
  exact ⟨⟨rfl,rfl⟩,F1,t1,oF.more (by omega),rfl,Mh⟩
end Go.Ai
namespace Go.Ai
open Go.Bt
theorem f19 {hp nx rt rp rd F p rootS view B} (h:Gg hp nx rt rp rd F p rootS view B) {root:Nat} (hr:FU hp rt rp root) :
  ∃hp' nx',aY E 19 [.ptr rt 0 0] hp nx (.v (.int .i64 (dQ p.read 12 1 root:Nat))) hp' nx' .e/\Ro hp nx hp' nx':=by
 have main:=an (P:=fun v hp' nx'=>v=(.v (.int .i64 (dQ p.read 12 1 root:Nat)))/\Ro hp nx hp' nx') e19 (args:=[.ptr rt 0 0]) rfl (hp:=hp) (nx:=nx) ?_
 ·obtain ⟨v,hp',nx',h1,rfl,h2⟩:=main
  exact ⟨hp',nx',h1,h2⟩
 have r0:=f35 h
 obtain ⟨c,hc⟩:=hr.row
 simp[c19]
 refine ae r0 ?_
 simp[hc]
 refine aM (I:=fun (g:Nat×Nat) t=>∃d:Nat,d+g.1=13/\t.tm 3=iV g.2/\t.tm 4=iV d/\t.tm 0=.ptr rt 0 0/\Ro hp nx t.hp t.nx/\dQ p.read 12 1 root=dQ p.read g.1 d g.2) (fun g=>g.1) (12,root) ?_ ?_
 ·exact ⟨1,by simp,by simp,by simp,by simp,.refl,rfl⟩
 rintro ⟨f,a⟩ tm hp1 nx1 ⟨d,hd,t3,t4,t0,bZ,hg⟩
 simp only at hd t3 t4 t0 bZ hg
 rw[hg]
 by_cases ha:a=0
 ·subst ha
  have:dQ p.read f d 0=0:=by cases f<;>simp[dQ]
  rw[this]
  simp[t3]
  exact bZ
 ·have Hq:¬(a:Int)=0:=by omega
  cases f with
  |zero =>
   obtain rfl:d=13:=by omega
   have:dQ p.read 0 13 a=0:=rfl
   rw[this]
   simp[t3,t4,Hq,ha]
   exact bZ
  |succ f =>
   have Q5:(d:Int)<=12:=by omega
   have w1:IntKind.wrap .i64 ((d:Int)+1)=((d+1:Nat):Int):=by rw[aj]<;>omega
   have h1:=h.ro bZ
   obtain ⟨v,aT,ar,r2,q2,vm⟩:=f36 h1 a
   have iK:=bZ.trans vm
   have AO:=iK.le
   have iJ:∀b,Ro hp nx (ab aT ar b) (ar+1):=fun b=>⟨by omega,fun r hr=>by simp[show ¬r=ar by omega];exact iK.ah r hr⟩
   simp[t3,t4,Hq,ha,Q5,t0]
   refine ae r2 ?_
   unfold sm at q2
   cases hn:fS p.read a with
   |none =>
    rw[hn]at q2
    subst q2
    have:dQ p.read (f+1) d a=0:=by simp only[dQ,if_neg ha,hn]
    rw[this]
    simp[eC,aa,aG]
    exact iJ _
   |some nd =>
    rw[hn]at q2
    obtain ⟨y,hy,rfl⟩:=q2
    obtain ⟨n1,n2,n3,n4,n5⟩:=h.pg.tH hn
    obtain ⟨ky,iy,dy,rfl,hky,hiy,hdy⟩:=id hy
    obtain ⟨k1,k2,k3,rfl⟩:=hky.shape
    obtain ⟨i1,i2,i3,rfl⟩:=hiy.shape
    obtain ⟨d1,d2,d3,rfl⟩:=hdy.shape
    simp[aa,aG]
    cases hl:nd.leaf with
    |true =>
     have:dQ p.read (f+1) d a=d:=by simp only[dQ,if_neg ha,hn,hl,if_true]
     rw[this]
     simp[hl,t4]
     exact iJ _
    |false =>
     obtain ⟨g1,g2,g3,g4⟩:=(aZ.of n1).inner hl
     have tQ:nd.kids[0]?=some (nd.kids[0]'(by omega)):=zA (by omega)
     obtain ⟨cc,e1,e2,e3⟩:=gf (g4 _ (zP (show 0<nd.kids.length by omega)))
     have bG:=uA hdy (i:=0) (c:=[iV cc]) (k:=.i64) (by rw[zM,tQ,e1];rfl)
     change cd 1 _ (iV 0)=_ at bG
     have:dQ p.read (f+1) d a=dQ p.read f (d+1) cc:=by simp only[dQ,if_neg ha,hn,hl,tQ,e1,zK,if_false,zl]
     rw[this]
     simp[hl,bG,t4,w1,-ag,-Int.natCast_add,-Prod.exists]
     exact ⟨(f,cc),by simp only;omega,d+1,by simp only;omega,rfl,rfl,t0,iJ _,rfl⟩
end Go.Ai
namespace Go.Ai
open Go.Bt
theorem f15 {hp nx rp rd F p rootS view B} (h:ja hp nx rp rd F p rootS view B) (ok:eh view p.gen rootS) (root:Nat) :
  ∃hp' F',aY E 15 [.ptr rp 0 0,iV root] hp nx (.ptr nx 0 0) hp' (nx+1) .e/\dE hp' (nx+1) nx rp rd F' root ⟨p,[],[]⟩ rootS B/\Fr F hp nx F' hp' (nx+1):=by
 have az:=h.lt
 have nF:nx∉F:=fun e=>by have:=az nx e;omega
 have bZ:Ro hp nx (ab hp nx (some (fh rp root nS nS))) (nx+1):=cN
 have main:=an (P:=fun v hp' nx'=>v=.ptr nx 0 0/\nx'=nx+1/\hp'=ab hp nx (some (fh rp root nS nS))) e15 (args:=[.ptr rp 0 0,iV root]) rfl (hp:=hp) (nx:=nx) ?_
 ·obtain ⟨v,hp',nx',r1,rfl,rfl,rfl⟩:=main
  refine ⟨_,nx::F,r1,⟨_,_,F,view,⟨?_,by omega,by simp,.inl ⟨rfl,rfl⟩,.inl ⟨rfl,rfl⟩,h.ah (by omega) fun r hr=>bZ.ah r (az r hr),by simp,by simp,ok⟩,by simp⟩,⟨by omega,fun r u1 u2=>bZ.ah r u1,fun r hr => ?_⟩⟩
  ·simpa [nF] using h.nodup
  ·rcases zH.1 hr with rfl|hr
   ·exact .inr (zD _)
   ·exact .inl hr
 simp[c15,aa,fh]
theorem f18 {hp nx rt rp rd F root t rootS B} (h:dE hp nx rt rp rd F root t rootS B):aY E 18 [.ptr rt 0 0] hp nx (iV root) hp nx .e:=by
 obtain ⟨x,y,ix,_⟩:=h.xB 0
 refine dF e18 rfl ?_
 simp[c18,ix]
 exact fun r=>.inl rfl
theorem f14 (e:Int) (hp nx):aY E 14 [iV e] hp nx (iV e) hp nx .p:=by
 refine aD e14 rfl (by simp) ?_ hp nx
 simp[c14]
end Go.Ai
namespace Go.Ai
open Go.Bt
theorem wr0:IntKind.wrap .i64 0=0:=by decide
end Go.Ai
namespace Go.Ai
open Go.Bt
def bb (x:Bs×Bs):List AV:=[.str x.1,.str x.2]
structure DB (hp:Heap) (nx rt rp v7:Nat) (Fp:List Nat) (p:PM) (rootS:Bs) (view:Nat->Bs) (B q4 q5 q6 q7 fU q12:Nat) (lo hi:Bs) (aI:Nat) (out:List (Bs×Bs)) (x:AV):Prop where
 rd:Gg hp nx rt rp v7 Fp p rootS view B
 h4:hp q4=some [[.ptr rt 0 0]]
 h5:hp q5=some [[.str lo]]
 h6:hp q6=some [[.str hi]]
 h7:hp q7=some [[iV aI]]
 xf:hp q12=some [[.fn (.func 39) [] [.ptr fU 0 0,.ptr q7 0 0,.ptr q4 0 0,.ptr q5 0 0,.ptr q6 0 0,.ptr q12 0 0]]]
 vM:hp fU=some [[x]]
 w:dD hp nx 2 (out.map bb) x
 l:∀r∈[q4,q5,q6,q7,fU,q12],r<nx
 RE:fU∉q4::q5::q6::q7::q12::rt::Fp
 n0:∀r∈bf x,r∉fU::q4::q5::q6::q7::q12::rt::Fp
 ol:out.length<=20000
structure B2 (fU:Nat) (hp:Heap) (nx:Nat) (x:AV) (hp':Heap) (nx':Nat) (x':AV):Prop where
 le:nx<=nx'
 ah:∀r,r<nx->r≠fU->r∉bf x->hp' r=hp r
 sub:∀r∈bf x',r∈bf x\/nx<=r
theorem B2.trans {fU hp nx x hp1 nx1 x1 aT ar x2} (h:B2 fU hp nx x hp1 nx1 x1) (k:B2 fU hp1 nx1 x1 aT ar x2):B2 fU hp nx x aT ar x2 :=
 ⟨wF h.le k.le,fun r u1 u2 u3=>by rw[k.ah r (by have:=h.le;omega) u2 fun e=>(h.sub r e).elim u3 (by omega)];exact h.ah r u1 u2 u3,
  fun r hr=>(k.sub r hr).elim (h.sub r) fun q=>.inr (by have:=h.le;omega)⟩
theorem B2.ro {fU hp nx x hp' nx'} (k:Ro hp nx hp' nx'):B2 fU hp nx x hp' nx' x:=⟨k.le,fun r u _ _=>k.ah r u,fun r hr=>.inl hr⟩
theorem DB.ro {hp nx rt rp v7 Fp p rootS view B q4 q5 q6 q7 fU q12 lo hi aI out x hp' nx'} (h:DB hp nx rt rp v7 Fp p rootS view B q4 q5 q6 q7 fU q12 lo hi aI out x) (k:Ro hp nx hp' nx'):DB hp' nx' rt rp v7 Fp p rootS view B q4 q5 q6 q7 fU q12 lo hi aI out x:=by
 have hl:=h.l
 simp only[zH,wO,or_false,forall_eq_or_imp,forall_eq]at hl
 obtain ⟨a,b,c,d,e,f⟩:=hl
 have wl:∀r∈bf x,r<nx:=by
  rcases h.w with ⟨_,rfl⟩|⟨r,h1,rfl,_⟩
  ·simp
  ·simpa using h1
 exact ⟨h.rd.ro k,(k.ah _ a).trans h.h4,(k.ah _ b).trans h.h5,(k.ah _ c).trans h.h6,(k.ah _ d).trans h.h7,(k.ah _ f).trans h.xf,(k.ah _ e).trans h.vM,h.w.ah k.le fun r hr=>k.ah r (wl r hr),fun r hr=>zU (h.l r hr) k.le,h.RE,h.n0,h.ol⟩
theorem DB.xO {hp nx rt rp v7 Fp p rootS view B q4 q5 q6 q7 fU q12 lo hi aI out x} (h:DB hp nx rt rp v7 Fp p rootS view B q4 q5 q6 q7 fU q12 lo hi aI out x) (k v:Bs) (hm:out.length<20000) :
  ∃fW,cI 2 32 x [[.str k,.str v]] hp nx=some (.sl nx 2 0 (out.length+1) none,fW,nx+1)/\fW fU=some [[x]] /\
   DB (ab fW fU (some [[.sl nx 2 0 (out.length+1) none]])) (nx+1) rt rp v7 Fp p rootS view B q4 q5 q6 q7 fU q12 lo hi aI (out++[(k,v)]) (.sl nx 2 0 (out.length+1) none) /\
   B2 fU hp nx x (ab fW fU (some [[.sl nx 2 0 (out.length+1) none]])) (nx+1) (.sl nx 2 0 (out.length+1) none):=by
 have hl:=h.l
 simp only[zH,wO,or_false,forall_eq_or_imp,forall_eq]at hl
 obtain ⟨a,b,c,d,e,f⟩:=hl
 have RE:=h.RE
 have n0:=h.n0
 obtain ⟨fW,a1,a2,a3⟩:=h.w.xO (bytes:=32) (new:=[[.str k,.str v]]) (by simp) (by simp;have:=h.ol;omega)
 simp only[zZ,zV,zS,Nat.zero_add]at a1
 have ad5:fU∉bf x:=fun q=>n0 fU q (by simp)
 have ah:∀r,r<nx->r≠fU->r∉bf x->(ab fW fU (some [[.sl nx 2 0 (out.length+1) none]])) r=hp r:=fun r u1 u2 u3=>by simp[u2];exact a3 r (by omega) u3
 have K:∀r∈q4::q5::q6::q7::q12::rt::Fp,r≠fU/\r∉bf x:=fun r hr=>⟨fun q=>RE (q▸hr),fun q=>n0 r q (zu _ hr)⟩
 have k1:=fun r (hr:r∈q4::q5::q6::q7::q12::rt::Fp) (hl:r<nx)=>ah r hl (K r hr).1 (K r hr).2
 obtain ⟨cc,hc⟩:=h.rd.row
 refine ⟨fW,a1,by rw[a3 fU (by omega) ad5];exact h.vM,⟨⟨⟨cc,by rw[k1 rt (by simp) h.rd.lt];exact hc⟩,by have:=h.rd.lt;omega,h.rd.pg.ah (by omega) fun r hr=>k1 r (by simp[hr]) (h.rd.pg.lt r hr),h.rd.hB⟩,
  (k1 _ (by simp) a).trans h.h4,(k1 _ (by simp) b).trans h.h5,(k1 _ (by simp) c).trans h.h6,(k1 _ (by simp) d).trans h.h7,(k1 _ (by simp) f).trans h.xf,by simp,.inr ⟨nx,by omega,by simp,by simp[show ¬nx=fU by omega,a2,bb]⟩,
  fun r hr=>by have:=h.l r hr;omega,RE,fun r hr q => ?_,by simp;omega⟩,⟨by omega,ah,fun r hr=>.inr (by simp at hr;omega)⟩⟩
 simp only[xW,zH,wO,or_false]at hr
 subst hr
 simp only[zH]at q
 have h1:=h.rd.lt
 rcases q with q|q|q|q|q|q|q|q
 ·omega
 ·omega
 ·omega
 ·omega
 ·omega
 ·omega
 ·omega
 ·have:=h.rd.pg.lt _ q;omega
end Go.Ai
namespace Go.Ai
open Go.Bt
def vR:cC:=match c39.body with | .seq _ (.seq _ (.seq _ (.seq _ (.seq _ (.seq (.seq _ (.cond _ t _)) _)))))=>t|_=>.skip
def JZ:cC:=match vR with | .seq (.seq _ (.block _ (.loop (.seq _ (.seq _ (.seq (.block _ (.seq _ (.seq _ t))) _)))))) _=>t|_=>.skip
theorem afy {hp nx rt rp v7 Fp p rootS view B q4 q5 q6 q7 fU q12 lo hi aI out x} (h:DB hp nx rt rp v7 Fp p rootS view B q4 q5 q6 q7 fU q12 lo hi aI out x) {n:Nd} {nA:AV} {q:Nat} {tm:Nat->AV} {Q:eS->St->Prop}
  (t2:tm 2=.ptr fU 0 0) (t3:tm 3=.ptr q7 0 0) (t4:tm 4=.ptr q4 0 0) (t5:tm 5=.ptr q5 0 0) (t6:tm 6=.ptr q6 0 0) (t11:tm 11=.ptr q 0 0) (hn:iD n nA) (hq:hp q=some [nA.cells]) (R9:q<nx) (Wx:q≠fU) (QU:q∉bf x)
  (hr:ax n=true) (dj:n.leaf=true) (fq:dO 492 n) (T5:aI<=20000)
  (hP:∀tm' v hp' nx' x',tm' 10=v->(match jk p.read lo hi aI (n.keys.zip n.items) out with|some uG=>v=.v (.int .i64 0)/\DB hp' nx' rt rp v7 Fp p rootS view B q4 q5 q6 q7 fU q12 lo hi aI uG x'|none=>v=.v (.int .i64 10))->B2 fU hp nx x hp' nx' x'->Q .ret ⟨tm',hp',nx'⟩) :
  W (aY E) vR Q ⟨tm,hp,nx⟩:=by
 obtain ⟨g1,g2,g3⟩:=(aZ.of hr).leaf dj
 have lP:=fq.1
 obtain ⟨TC,hT⟩:∃TC,TC=JZ:=⟨_,rfl⟩
 have jd:=hT
 simp only[JZ,vR,c39]at jd
 simp only[vR,c39]
 rw[<-jd]
 obtain ⟨k,i,d,rfl,⟨k1,k2,k4,rfl,jn⟩,⟨i1,i2,i4,rfl,EV⟩,⟨d1,d2,d4,rfl,AS⟩⟩:=hn
 simp only[AV.cells]at hq
 simp[t11,hq]
 refine aM (I:=fun (g:Nat×List (Bs×Bs)×AV) s=>g.1<=n.keys.length/\s.tm 44=iV g.1/\s.tm 42=.rs k1 k2 (n.keys.map aN) k4/\s.tm 43=iV n.keys.length/\s.tm 2=.ptr fU 0 0/\s.tm 3=.ptr q7 0 0/\s.tm 4=.ptr q4 0 0/\s.tm 5=.ptr q5 0 0/\s.tm 6=.ptr q6 0 0/\s.tm 11=.ptr q 0 0 /\
   DB s.hp s.nx rt rp v7 Fp p rootS view B q4 q5 q6 q7 fU q12 lo hi aI g.2.1 g.2.2/\B2 fU hp nx x s.hp s.nx g.2.2/\jk p.read lo hi aI (n.keys.zip n.items) out=jk p.read lo hi aI ((n.keys.zip n.items).drop g.1) g.2.1) (fun g=>n.keys.length-g.1) (0,out,x) ?_ ?_
 ·exact ⟨by simp,by simp,by simp,by simp,by simp[t2],by simp[t3],by simp[t4],by simp[t5],by simp[t6],by simp[t11],h,B2.ro .refl,by simp⟩
 rintro ⟨i,jb,x1⟩ tm hp1 nx1 ⟨iM,t44,t42,t43,t2,t3,t4,t5,t6,t11,hS,hF,fa⟩
 simp only at iM t44 t42 t43 t2 t3 t4 t5 t6 t11 hS hF fa
 have iL:hp1 q=_:=(hF.ah q R9 Wx QU).trans hq
 by_cases az:i<n.keys.length
 ·have bn:(i:Int)<(n.keys.length:Int):=by omega
  have tQ:n.keys[i]?=some n.keys[i]:=zA az
  have bG:=aS (n:=1) (k:=.i64) (cap:=k4) (j:=i) (cells:=[.str n.keys[i]]) jn (by simp[tQ,aN])
  have NV:i<n.items.length:=by omega
  have lQ:n.items[i]?=some n.items[i]:=zA NV
  have nh:=aS (n:=3) (k:=.i64) (cap:=i4) (j:=i) (cells:=(n.items[i]).cells) EV (by simp[lQ])
  have CS:=g3 _ (zP NV)
  have hzl:i<(n.keys.zip n.items).length:=by simp;omega
  have Ga:(n.keys.zip n.items).drop i=(n.keys[i],n.items[i])::(n.keys.zip n.items).drop (i+1):=by rw[zO hzl];simp
  have w1:IntKind.wrap .i64 ((i:Int)+1)=((i+1:Nat):Int):=by rw[aj]<;>omega
  rw[Ga]at fa
  generalize n.keys[i]=kk at *
  generalize n.items[i]=it at *
  obtain ⟨e4,e5,e6,e7,e11⟩:=And.intro hS.h4 (And.intro hS.h5 (And.intro hS.h6 (And.intro hS.h7 hS.vM)))
  have lx:=hS.w.len
  simp only[zZ]at lx
  by_cases c4:aI<=jb.length
  ·have jm:mc lo hi kk=false\/aI<=jb.length:=.inr c4
   have Ql:(aI:Int)<=(jb.length:Int):=by omega
   by_cases c1:al kk lo=true
   ·simp[t44,t42,t43,t2,t3,t4,t5,t6,t11,bn,bG,e4,e5,e6,e7,e11,lx,-ag,-Prod.exists,c1,Ql,c4]
    refine ⟨(i+1,jb,x1),by simp only;omega,by simp only;omega,by simp only;exact w1,hS,hF,?_⟩
    simp only
    rw[fa,jk,if_pos jm]
   ·have BZ:al kk lo=false:=by simpa using c1
    by_cases c2:hi=[]
    ·subst c2
     simp[t44,t42,t43,t2,t3,t4,t5,t6,t11,bn,bG,e4,e5,e6,e7,e11,lx,-ag,-Prod.exists,BZ,Ql,c4]
     refine ⟨(i+1,jb,x1),by simp only;omega,by simp only;omega,by simp only;exact w1,hS,hF,?_⟩
     simp only
     rw[fa,jk,if_pos jm]
    ·by_cases c3:al kk hi=true
     ·simp[t44,t42,t43,t2,t3,t4,t5,t6,t11,bn,bG,e4,e5,e6,e7,e11,lx,-ag,-Prod.exists,BZ,c2,c3,Ql,c4]
      refine ⟨(i+1,jb,x1),by simp only;omega,by simp only;omega,by simp only;exact w1,hS,hF,?_⟩
      simp only
      rw[fa,jk,if_pos jm]
     ·have J0:al kk hi=false:=by simpa using c3
      simp[t44,t42,t43,t2,t3,t4,t5,t6,t11,bn,bG,e4,e5,e6,e7,e11,lx,-ag,-Prod.exists,BZ,c2,J0,Ql,c4]
      refine ⟨(i+1,jb,x1),by simp only;omega,by simp only;omega,by simp only;exact w1,hS,hF,?_⟩
      simp only
      rw[fa,jk,if_pos jm]
  ·have Ql:¬(aI:Int)<=(jb.length:Int):=by omega
   by_cases c1:al kk lo=true
   ·have jm:mc lo hi kk=false\/aI<=jb.length:=.inl (by simp[mc,c1])
    simp[t44,t42,t43,t2,t3,t4,t5,t6,t11,bn,bG,e4,e5,e6,e7,e11,lx,-ag,-Prod.exists,c1,Ql,c4]
    refine ⟨(i+1,jb,x1),by simp only;omega,by simp only;omega,by simp only;exact w1,hS,hF,?_⟩
    simp only
    rw[fa,jk,if_pos jm]
   ·have BZ:al kk lo=false:=by simpa using c1
    obtain ⟨oB,rF,r5,KA⟩:=f38 hS.rd CS
    have y8:=hS.ro KA
    simp only[bD.cells]at nh r5
    by_cases c2:hi=[]
    ·subst c2
     have pC:¬(mc lo [] kk=false\/aI<=jb.length):=by simp[mc,BZ];omega
     rw[jk,if_neg pC]at fa
     simp[t44,t42,t43,t2,t3,t4,t5,t6,t11,bn,bG,e4,e5,e6,e7,e11,lx,-ag,-Prod.exists,BZ,Ql,c4]
     rw[hT]
     simp[JZ,vR,c39,t44,t42,t43,t2,t3,t4,t5,t6,t11,bn,bG,e4,e5,e6,e7,e11,lx,-ag,-Prod.exists,iL,nh,BZ,Ql,c4]
     refine ae r5 ?_
     cases hv:jq p.read it with
     |none =>
      rw[hv]at fa
      simp[B6]
      exact hP _ (iV 10) _ _ x1 (by simp) (by rw[fa]) (hF.trans (.ro KA))
     |some v =>
      rw[hv]at fa
      obtain ⟨DL,a1,a2,a3,a4⟩:=y8.xO kk v (by omega)
      have f11:oB fU=some [[x1]]:=y8.vM
      simp[B6,f11,t2,t44,aa,a1,a2,aG,w1,-Prod.exists]
      refine ⟨(i+1,jb++[(kk,v)],.sl rF 2 0 (jb.length+1) none),by simp only;omega,by simp only;omega,by simp only;omega,t42,t43,t3,t4,t5,t6,t11,a3,hF.trans ((B2.ro KA).trans a4),fa⟩
    ·by_cases c3:al kk hi=true
     ·have pC:¬(mc lo hi kk=false\/aI<=jb.length):=by simp[mc,BZ,c2,c3];omega
      rw[jk,if_neg pC]at fa
      simp[t44,t42,t43,t2,t3,t4,t5,t6,t11,bn,bG,e4,e5,e6,e7,e11,lx,-ag,-Prod.exists,BZ,c2,c3,Ql,c4]
      rw[hT]
      simp[JZ,vR,c39,t44,t42,t43,t2,t3,t4,t5,t6,t11,bn,bG,e4,e5,e6,e7,e11,lx,-ag,-Prod.exists,iL,nh,BZ,c2,c3,Ql,c4]
      refine ae r5 ?_
      cases hv:jq p.read it with
      |none =>
       rw[hv]at fa
       simp[B6]
       exact hP _ (iV 10) _ _ x1 (by simp) (by rw[fa]) (hF.trans (.ro KA))
      |some v =>
       rw[hv]at fa
       obtain ⟨DL,a1,a2,a3,a4⟩:=y8.xO kk v (by omega)
       have f11:oB fU=some [[x1]]:=y8.vM
       simp[B6,f11,t2,t44,aa,a1,a2,aG,w1,-Prod.exists]
       refine ⟨(i+1,jb++[(kk,v)],.sl rF 2 0 (jb.length+1) none),by simp only;omega,by simp only;omega,by simp only;omega,t42,t43,t3,t4,t5,t6,t11,a3,hF.trans ((B2.ro KA).trans a4),fa⟩
     ·have J0:al kk hi=false:=by simpa using c3
      have jm:mc lo hi kk=false\/aI<=jb.length:=.inl (by simp[mc,c2,J0])
      simp[t44,t42,t43,t2,t3,t4,t5,t6,t11,bn,bG,e4,e5,e6,e7,e11,lx,-ag,-Prod.exists,BZ,c2,J0,Ql,c4]
      refine ⟨(i+1,jb,x1),by simp only;omega,by simp only;omega,by simp only;exact w1,hS,hF,?_⟩
      simp only
      rw[fa,jk,if_pos jm]
 ·have pw:i=n.keys.length:=by omega
  subst pw
  simp[t44,t43]
  refine hP _ (iV 0) _ _ x1 (by simp) ?_ hF
  rw[fa,zr (by simp;omega)]
  exact ⟨rfl,hS⟩
end Go.Ai
namespace Go.Ai
open Go.Bt
theorem dP (a b:Bs):(al a b||decide (a=b)) = !al b a:=by
 have h1:=jr a b
 by_cases h:a=b
 ·subst h;simp[bc]
 ·cases h2:al a b<;>cases h3:al b a<;>simp_all
def pN:cC:=match c39.body with | .seq _ (.seq _ (.seq _ (.seq _ (.seq _ (.seq _ t)))))=>t|_=>.skip
def te:cC:=match pN with | .seq (.seq _ (.block _ (.loop (.seq _ (.seq _ (.seq (.block _ (.seq _ (.seq _ t))) _)))))) _=>t|_=>.skip
theorem afz {hp nx rt rp v7 Fp p rootS view B q4 q5 q6 q7 fU q12 lo hi aI out x} (h:DB hp nx rt rp v7 Fp p rootS view B q4 q5 q6 q7 fU q12 lo hi aI out x) {n:Nd} {nA:AV} {q f d:Nat} {tm:Nat->AV} {P:AV->Heap->Nat->Prop}
  (ih:∀{hp nx out x} (a:Nat),DB hp nx rt rp v7 Fp p rootS view B q4 q5 q6 q7 fU q12 lo hi aI out x->∃v hp' nx' x',aY E 39 [iV a,iV (d+1:Nat),.ptr fU 0 0,.ptr q7 0 0,.ptr q4 0 0,.ptr q5 0 0,.ptr q6 0 0,.ptr q12 0 0] hp nx v hp' nx' .e/\B2 fU hp nx x hp' nx' x' /\
   match bM p.read lo hi aI f a out with|some uG=>v=.v (.int .i64 0)/\DB hp' nx' rt rp v7 Fp p rootS view B q4 q5 q6 q7 fU q12 lo hi aI uG x'|none=>v=.v (.int .i64 10))
  (t1:tm 1=iV d) (hd:d<12) (t2:tm 2=.ptr fU 0 0) (t3:tm 3=.ptr q7 0 0) (t4:tm 4=.ptr q4 0 0) (t5:tm 5=.ptr q5 0 0) (t6:tm 6=.ptr q6 0 0) (t7:tm 7=.ptr q12 0 0) (t11:tm 11=.ptr q 0 0) (hn:iD n nA) (hq:hp q=some [nA.cells]) (R9:q<nx) (Wx:q≠fU) (QU:q∉bf x)
  (hr:ax n=true) (dj:n.leaf=false) (fq:dO 492 n)
  (hP:∀v hp' nx' x',(match iH (fun c out=>bM p.read lo hi aI f c out) lo hi none n.keys n.kids out with|some uG=>v=.v (.int .i64 0)/\DB hp' nx' rt rp v7 Fp p rootS view B q4 q5 q6 q7 fU q12 lo hi aI uG x'|none=>v=.v (.int .i64 10))->B2 fU hp nx x hp' nx' x'->P v hp' nx') :
  W (aY E) pN (sc [.t 10] P) ⟨tm,hp,nx⟩:=by
 obtain ⟨g1,g2,g3,g4⟩:=(aZ.of hr).inner dj
 have lP:=fq.1
 obtain ⟨TC,hT⟩:∃TC,TC=te:=⟨_,rfl⟩
 have jd:=hT
 simp only[te,pN,c39]at jd
 simp only[pN,c39]
 rw[<-jd]
 obtain ⟨k,i,dd,rfl,⟨k1,k2,k4,rfl,jn⟩,⟨i1,i2,i4,rfl,EV⟩,⟨d1,d2,d4,rfl,AS⟩⟩:=hn
 simp only[AV.cells]at hq
 have wd:IntKind.wrap .i64 ((d:Int)+1)=((d+1:Nat):Int):=by rw[aj]<;>omega
 simp[t11,hq]
 refine aM (I:=fun (g:Nat×List (Bs×Bs)×AV) s=>g.1<=n.kids.length/\s.tm 90=iV g.1/\s.tm 88=.rs d1 d2 (n.kids.map bC) d4/\s.tm 89=iV n.kids.length/\s.tm 1=iV d/\s.tm 2=.ptr fU 0 0/\s.tm 3=.ptr q7 0 0/\s.tm 4=.ptr q4 0 0/\s.tm 5=.ptr q5 0 0/\s.tm 6=.ptr q6 0 0/\s.tm 7=.ptr q12 0 0/\s.tm 11=.ptr q 0 0 /\
   DB s.hp s.nx rt rp v7 Fp p rootS view B q4 q5 q6 q7 fU q12 lo hi aI g.2.1 g.2.2/\B2 fU hp nx x s.hp s.nx g.2.2/\iH (fun c out=>bM p.read lo hi aI f c out) lo hi none n.keys n.kids out=iH (fun c out=>bM p.read lo hi aI f c out) lo hi (match g.1 with|0=>none|j+1=>n.keys[j]?) (n.keys.drop g.1) (n.kids.drop g.1) g.2.1) (fun g=>n.kids.length-g.1) (0,out,x) ?_ ?_
 ·exact ⟨by simp,by simp,by simp,by simp,by simp[t1],by simp[t2],by simp[t3],by simp[t4],by simp[t5],by simp[t6],by simp[t7],by simp[t11],h,B2.ro .refl,by simp⟩
 rintro ⟨i,jb,x1⟩ tm hp1 nx1 ⟨iM,t44,t42,t43,t1,t2,t3,t4,t5,t6,t7,t11,hS,hF,fa⟩
 simp only at iM t44 t42 t43 t1 t2 t3 t4 t5 t6 t7 t11 hS hF fa
 have iL:hp1 q=_:=(hF.ah q R9 Wx QU).trans hq
 by_cases az:i<n.kids.length
 ·have bn:(i:Int)<(n.kids.length:Int):=by omega
  have tQ:n.kids[i]?=some n.kids[i]:=zA az
  obtain ⟨cc,ec,ec2,ec3⟩:=gf (g4 _ (zP az))
  have bG:=aS (n:=1) (k:=.i64) (cap:=d4) (j:=i) (cells:=[iV cc]) AS (by simp[tQ,bC,ec])
  have hdk:n.kids.drop i=(cc:Int)::n.kids.drop (i+1):=by rw[zO az,ec]
  have hhd:(n.keys.drop i).head?=n.keys[i]?:=by simp
  have TP:(n.keys.drop i).tail=n.keys.drop (i+1):=by simp
  have w1:IntKind.wrap .i64 ((i:Int)+1)=((i+1:Nat):Int):=by rw[aj]<;>omega
  rw[hdk]at fa
  have NR:∀(o:List (Bs×Bs)),iH (fun c out=>bM p.read lo hi aI f c out) lo hi (n.keys.drop i).head? (n.keys.drop i).tail (n.kids.drop (i+1)) o=iH (fun c out=>bM p.read lo hi aI f c out) lo hi n.keys[i]? (n.keys.drop (i+1)) (n.kids.drop (i+1)) o:=fun o=>by rw[hhd,TP]
  obtain ⟨e4,e5,e6,e7,e11,e12⟩:=And.intro hS.h4 (And.intro hS.h5 (And.intro hS.h6 (And.intro hS.h7 (And.intro hS.vM hS.xf))))
  obtain ⟨v5,oB,rF,x5,r5,gH,m5⟩:=ih cc hS
  have pi:∀(pv:Option Bs) (o:List (Bs×Bs)),iH (fun c out=>bM p.read lo hi aI f c out) lo hi pv (n.keys.drop i) ((cc:Int)::n.kids.drop (i+1)) o=if eF lo hi pv n.keys[i]?=true then iH (fun c out=>bM p.read lo hi aI f c out) lo hi n.keys[i]? (n.keys.drop (i+1)) (n.kids.drop (i+1)) o
    else match bM p.read lo hi aI f cc o with|some o'=>iH (fun c out=>bM p.read lo hi aI f c out) lo hi n.keys[i]? (n.keys.drop (i+1)) (n.kids.drop (i+1)) o'|none=>none:=fun pv o=>by
   rw[iH,hhd,TP]
   simp only[zl]
   split
   ·rfl
   ·cases bM p.read lo hi aI f cc o<;>rfl
  rw[pi]at fa
  cases i with
  |zero =>
   have YD:0<n.keys.length:=g1
   have EU:n.keys[0]?=some n.keys[0]:=zA YD
   have nh:=aS (n:=1) (k:=.i64) (cap:=k4) (j:=0) (cells:=[.str n.keys[0]]) jn (by simp[EU,aN])
   change cd 1 _ (iV 0)=_ at nh bG
   change tm 90=iV 0 at t44
   have E4:(0:Int)<(n.keys.length:Int):=by omega
   have bn:(0:Int)<(n.kids.length:Int):=by omega
   have w1:IntKind.wrap .i64 1=((0+1:Nat):Int):=by decide
   by_cases c1:al lo n.keys[0]=true
   ·have pC:¬eF lo hi none n.keys[0]?=true:=by simp[eF,EU,c1]
    rw[if_neg pC]at fa
    simp[t44,t42,t43,t1,t2,t3,t4,t5,t6,t7,t11,bn,az,dP,e4,e5,e6,e7,e11,e12,bG,iL,-ag,-Prod.exists,-Int.natCast_add,nh,E4,YD,c1]
    rw[hT]
    simp[te,pN,c39,t44,t42,t43,t1,t2,t3,t4,t5,t6,t7,t11,bn,az,dP,e4,e5,e6,e7,e11,e12,bG,iL,-ag,-Prod.exists,-Int.natCast_add,wd]
    refine ae (by simpa using r5) ?_
    cases hv:bM p.read lo hi aI f cc jb with
    |none =>
     rw[hv]at m5 fa
     simp only at m5
     subst m5
     simp
     exact hP _ _ _ x5 (by rw[fa]) (hF.trans gH)
    |some Cw =>
     rw[hv]at m5 fa
     obtain ⟨rfl,y8⟩:=m5
     simp[t44,t42,t43,t1,t2,t3,t4,t5,t6,t7,t11,bn,az,dP,e4,e5,e6,e7,e11,e12,bG,iL,-ag,-Prod.exists,-Int.natCast_add]
     refine ⟨(0+1,Cw,x5),by simp only;omega,by simp only;omega,by simp only;exact w1,y8,hF.trans gH,?_⟩
     exact fa
   ·have BZ:al lo n.keys[0]=false:=by simpa using c1
    have jm:eF lo hi none n.keys[0]?=true:=by simp[eF,EU,BZ]
    rw[if_pos jm]at fa
    simp[t44,t42,t43,t1,t2,t3,t4,t5,t6,t7,t11,bn,az,dP,e4,e5,e6,e7,e11,e12,bG,iL,-ag,-Prod.exists,-Int.natCast_add,nh,E4,YD,BZ]
    refine ⟨(0+1,jb,x1),by simp only;omega,by simp only;omega,by simp only;exact w1,hS,hF,?_⟩
    exact fa
  |succ j =>
   have hj:j<n.keys.length:=by omega
   have QY:n.keys[j]?=some n.keys[j]:=zA hj
   have Lt:=aS (n:=1) (k:=.i64) (cap:=k4) (j:=j) (cells:=[.str n.keys[j]]) jn (by simp[QY,aN])
   have w2:IntKind.wrap .i64 (((j+1:Nat):Int)-1)=(j:Int):=by rw[aj]<;>omega
   have lH:(0:Int)<((j+1:Nat):Int):=by omega
   simp only at fa
   by_cases hb:j+1<n.keys.length
   ·have E4:((j+1:Nat):Int)<(n.keys.length:Int):=by omega
    have EU:n.keys[j+1]?=some n.keys[j+1]:=zA hb
    have nh:=aS (n:=1) (k:=.i64) (cap:=k4) (j:=j+1) (cells:=[.str n.keys[j+1]]) jn (by simp[EU,aN])
    by_cases c1:al lo n.keys[j+1]=true
    ·by_cases c2:hi=[]
     ·subst c2
      have pC:¬eF lo [] (n.keys[j]?) (n.keys[j+1]?)=true:=by simp[eF,QY,EU,c1]
      rw[if_neg pC]at fa
      simp[t44,t42,t43,t1,t2,t3,t4,t5,t6,t7,t11,bn,az,dP,e4,e5,e6,e7,e11,e12,bG,iL,-ag,-Prod.exists,-Int.natCast_add,nh,E4,c1,lH]
      rw[hT]
      simp[te,pN,c39,t44,t42,t43,t1,t2,t3,t4,t5,t6,t7,t11,bn,az,dP,e4,e5,e6,e7,e11,e12,bG,iL,-ag,-Prod.exists,-Int.natCast_add,wd]
      refine ae (by simpa using r5) ?_
      cases hv:bM p.read lo [] aI f cc jb with
      |none =>
       rw[hv]at m5 fa
       simp only at m5
       subst m5
       simp
       exact hP _ _ _ x5 (by rw[fa]) (hF.trans gH)
      |some Cw =>
       rw[hv]at m5 fa
       obtain ⟨rfl,y8⟩:=m5
       simp[t44,t42,t43,t1,t2,t3,t4,t5,t6,t7,t11,bn,az,dP,e4,e5,e6,e7,e11,e12,bG,iL,-ag,-Prod.exists,-Int.natCast_add]
       refine ⟨(j+1+1,Cw,x5),by simp only;omega,by simp only;omega,by simp only;exact w1,y8,hF.trans gH,?_⟩
       exact fa
     ·by_cases c3:al (n.keys[j]) hi=true
      ·have pC:¬eF lo hi (n.keys[j]?) (n.keys[j+1]?)=true:=by simp[eF,QY,c2,c3,EU,c1]
       rw[if_neg pC]at fa
       simp[t44,t42,t43,t1,t2,t3,t4,t5,t6,t7,t11,bn,az,dP,e4,e5,e6,e7,e11,e12,bG,iL,-ag,-Prod.exists,-Int.natCast_add,nh,E4,c1,lH,c2,c3,Lt,w2]
       rw[hT]
       simp[te,pN,c39,t44,t42,t43,t1,t2,t3,t4,t5,t6,t7,t11,bn,az,dP,e4,e5,e6,e7,e11,e12,bG,iL,-ag,-Prod.exists,-Int.natCast_add,wd]
       refine ae (by simpa using r5) ?_
       cases hv:bM p.read lo hi aI f cc jb with
       |none =>
        rw[hv]at m5 fa
        simp only at m5
        subst m5
        simp
        exact hP _ _ _ x5 (by rw[fa]) (hF.trans gH)
       |some Cw =>
        rw[hv]at m5 fa
        obtain ⟨rfl,y8⟩:=m5
        simp[t44,t42,t43,t1,t2,t3,t4,t5,t6,t7,t11,bn,az,dP,e4,e5,e6,e7,e11,e12,bG,iL,-ag,-Prod.exists,-Int.natCast_add]
        refine ⟨(j+1+1,Cw,x5),by simp only;omega,by simp only;omega,by simp only;exact w1,y8,hF.trans gH,?_⟩
        exact fa
      ·have J0:al (n.keys[j]) hi=false:=by simpa using c3
       have jm:eF lo hi (n.keys[j]?) (n.keys[j+1]?)=true:=by simp[eF,QY,c2,J0,EU,c1]
       rw[if_pos jm]at fa
       simp[t44,t42,t43,t1,t2,t3,t4,t5,t6,t7,t11,bn,az,dP,e4,e5,e6,e7,e11,e12,bG,iL,-ag,-Prod.exists,-Int.natCast_add,nh,E4,c1,lH,c2,J0,Lt,w2]
       refine ⟨(j+1+1,jb,x1),by simp only;omega,by simp only;omega,by simp only;exact w1,hS,hF,?_⟩
       exact fa
    ·have BZ:al lo n.keys[j+1]=false:=by simpa using c1
     have jm:eF lo hi (n.keys[j]?) n.keys[j+1]?=true:=by simp[eF,EU,BZ]
     rw[if_pos jm]at fa
     simp[t44,t42,t43,t1,t2,t3,t4,t5,t6,t7,t11,bn,az,dP,e4,e5,e6,e7,e11,e12,bG,iL,-ag,-Prod.exists,-Int.natCast_add,nh,E4,BZ]
     refine ⟨(j+1+1,jb,x1),by simp only;omega,by simp only;omega,by simp only;exact w1,hS,hF,?_⟩
     exact fa
   ·have E4:¬((j+1:Nat):Int)<(n.keys.length:Int):=by omega
    have EU:n.keys[j+1]?=none:=wZ (by omega)
    by_cases c2:hi=[]
    ·subst c2
     have pC:¬eF lo [] (n.keys[j]?) (n.keys[j+1]?)=true:=by simp[eF,QY,EU]
     rw[if_neg pC]at fa
     simp[t44,t42,t43,t1,t2,t3,t4,t5,t6,t7,t11,bn,az,dP,e4,e5,e6,e7,e11,e12,bG,iL,-ag,-Prod.exists,-Int.natCast_add,E4,lH]
     rw[hT]
     simp[te,pN,c39,t44,t42,t43,t1,t2,t3,t4,t5,t6,t7,t11,bn,az,dP,e4,e5,e6,e7,e11,e12,bG,iL,-ag,-Prod.exists,-Int.natCast_add,wd]
     refine ae (by simpa using r5) ?_
     cases hv:bM p.read lo [] aI f cc jb with
     |none =>
      rw[hv]at m5 fa
      simp only at m5
      subst m5
      simp
      exact hP _ _ _ x5 (by rw[fa]) (hF.trans gH)
     |some Cw =>
      rw[hv]at m5 fa
      obtain ⟨rfl,y8⟩:=m5
      simp[t44,t42,t43,t1,t2,t3,t4,t5,t6,t7,t11,bn,az,dP,e4,e5,e6,e7,e11,e12,bG,iL,-ag,-Prod.exists,-Int.natCast_add]
      refine ⟨(j+1+1,Cw,x5),by simp only;omega,by simp only;omega,by simp only;exact w1,y8,hF.trans gH,?_⟩
      exact fa
    ·by_cases c3:al (n.keys[j]) hi=true
     ·have pC:¬eF lo hi (n.keys[j]?) (n.keys[j+1]?)=true:=by simp[eF,QY,c2,c3,EU]
      rw[if_neg pC]at fa
      simp[t44,t42,t43,t1,t2,t3,t4,t5,t6,t7,t11,bn,az,dP,e4,e5,e6,e7,e11,e12,bG,iL,-ag,-Prod.exists,-Int.natCast_add,E4,lH,c2,c3,Lt,w2]
      rw[hT]
      simp[te,pN,c39,t44,t42,t43,t1,t2,t3,t4,t5,t6,t7,t11,bn,az,dP,e4,e5,e6,e7,e11,e12,bG,iL,-ag,-Prod.exists,-Int.natCast_add,wd]
      refine ae (by simpa using r5) ?_
      cases hv:bM p.read lo hi aI f cc jb with
      |none =>
       rw[hv]at m5 fa
       simp only at m5
       subst m5
       simp
       exact hP _ _ _ x5 (by rw[fa]) (hF.trans gH)
      |some Cw =>
       rw[hv]at m5 fa
       obtain ⟨rfl,y8⟩:=m5
       simp[t44,t42,t43,t1,t2,t3,t4,t5,t6,t7,t11,bn,az,dP,e4,e5,e6,e7,e11,e12,bG,iL,-ag,-Prod.exists,-Int.natCast_add]
       refine ⟨(j+1+1,Cw,x5),by simp only;omega,by simp only;omega,by simp only;exact w1,y8,hF.trans gH,?_⟩
       exact fa
     ·have J0:al (n.keys[j]) hi=false:=by simpa using c3
      have jm:eF lo hi (n.keys[j]?) (n.keys[j+1]?)=true:=by simp[eF,QY,c2,J0,EU]
      rw[if_pos jm]at fa
      simp[t44,t42,t43,t1,t2,t3,t4,t5,t6,t7,t11,bn,az,dP,e4,e5,e6,e7,e11,e12,bG,iL,-ag,-Prod.exists,-Int.natCast_add,E4,lH,c2,J0,Lt,w2]
      refine ⟨(j+1+1,jb,x1),by simp only;omega,by simp only;omega,by simp only;exact w1,hS,hF,?_⟩
      exact fa
 ·have pw:i=n.kids.length:=by omega
  subst pw
  simp[t44,t43]
  refine hP _ _ _ x1 ?_ hF
  rw[fa,zr (zD _)]
  simp only[iH]
  exact ⟨trivial,hS⟩
end Go.Ai
namespace Go.Ai
open Go.Bt
theorem dD.Ix {hp nx sz es x} (h:dD hp nx sz es x):∀r∈bf x,r<nx:=by
 rcases h with ⟨_,rfl⟩|⟨r,h1,rfl,_⟩
 ·simp
 ·simpa using h1
theorem f39 {rt rp v7:Nat} {Fp:List Nat} {p:PM} {rootS:Bs} {view:Nat->Bs} {B q4 q5 q6 q7 fU q12:Nat} {lo hi:Bs} {aI:Nat} (T5:aI<=20000):∀(f d:Nat) {hp nx out x} (a:Nat),d+f=12->DB hp nx rt rp v7 Fp p rootS view B q4 q5 q6 q7 fU q12 lo hi aI out x ->
  ∃v hp' nx' x',aY E 39 [iV a,iV d,.ptr fU 0 0,.ptr q7 0 0,.ptr q4 0 0,.ptr q5 0 0,.ptr q6 0 0,.ptr q12 0 0] hp nx v hp' nx' .e/\B2 fU hp nx x hp' nx' x' /\
   match bM p.read lo hi aI f a out with|some uG=>v=.v (.int .i64 0)/\DB hp' nx' rt rp v7 Fp p rootS view B q4 q5 q6 q7 fU q12 lo hi aI uG x'|none=>v=.v (.int .i64 10):=by
 intro f
 induction f with
 |zero =>
  intro d hp nx out x a hd hS
  obtain rfl:d=12:=by omega
  have main:=an (P:=fun v hp' nx'=>∃x',B2 fU hp nx x hp' nx' x'/\match bM p.read lo hi aI 0 a out with|some uG=>v=.v (.int .i64 0)/\DB hp' nx' rt rp v7 Fp p rootS view B q4 q5 q6 q7 fU q12 lo hi aI uG x'|none=>v=.v (.int .i64 10)) e39 (args:=[iV a,iV 12,.ptr fU 0 0,.ptr q7 0 0,.ptr q4 0 0,.ptr q5 0 0,.ptr q6 0 0,.ptr q12 0 0]) rfl (hp:=hp) (nx:=nx) ?_
  ·obtain ⟨v,hp',nx',h1,x',h2⟩:=main
   exact ⟨v,hp',nx',x',h1,h2⟩
  obtain ⟨e4,e7,e11⟩:=And.intro hS.h4 (And.intro hS.h7 hS.vM)
  have lx:=hS.w.len
  simp only[zZ]at lx
  by_cases ha:a=0
  ·have hr:bM p.read lo hi aI 0 a out=some out:=by simp only[bM,ha,true_or,if_true]
   rw[hr]
   subst ha
   simp[c39]
   exact ⟨x,.ro .refl,hS⟩
  ·have Hq:¬(a:Int)=0:=by omega
   by_cases hm:aI<=out.length
   ·have Mc:(aI:Int)<=(out.length:Int):=by omega
    have hr:bM p.read lo hi aI 0 a out=some out:=by simp only[bM,hm,or_true,if_true]
    rw[hr]
    simp[c39,ha,Hq,e11,e7,lx,hm,Mc]
    exact ⟨x,.ro .refl,hS⟩
   ·have Mc:¬(aI:Int)<=(out.length:Int):=by omega
    have hr:bM p.read lo hi aI 0 a out=none:=by simp only[bM,ha,hm,or_self,if_false]
    rw[hr]
    simp[c39,ha,Hq,e11,e7,lx,hm,Mc]
    exact ⟨x,.ro .refl⟩
 |succ f ih =>
  intro d hp nx out x a hd hS
  have main:=an (P:=fun v hp' nx'=>∃x',B2 fU hp nx x hp' nx' x'/\match bM p.read lo hi aI (f+1) a out with|some uG=>v=.v (.int .i64 0)/\DB hp' nx' rt rp v7 Fp p rootS view B q4 q5 q6 q7 fU q12 lo hi aI uG x'|none=>v=.v (.int .i64 10)) e39 (args:=[iV a,iV d,.ptr fU 0 0,.ptr q7 0 0,.ptr q4 0 0,.ptr q5 0 0,.ptr q6 0 0,.ptr q12 0 0]) rfl (hp:=hp) (nx:=nx) ?_
  ·obtain ⟨v,hp',nx',h1,x',h2⟩:=main
   exact ⟨v,hp',nx',x',h1,h2⟩
  obtain ⟨e4,e7,e11⟩:=And.intro hS.h4 (And.intro hS.h7 hS.vM)
  have lx:=hS.w.len
  simp only[zZ]at lx
  have TN:=hS.w.Ix
  have l11:fU<nx:=hS.l fU (by simp)
  obtain ⟨TL,hTL⟩:∃T,T=vR:=⟨_,rfl⟩
  have N9:=hTL
  simp only[vR,c39]at N9
  obtain ⟨TK,hTK⟩:∃T,T=pN:=⟨_,rfl⟩
  have Oa:=hTK
  simp only[pN,c39]at Oa
  simp only[c39]
  rw[<-N9,<-Oa]
  by_cases ha:a=0
  ·have hr:bM p.read lo hi aI (f+1) a out=some out:=by simp only[bM,ha,true_or,if_true]
   rw[hr]
   subst ha
   simp
   exact ⟨x,.ro .refl,hS⟩
  ·have Hq:¬(a:Int)=0:=by omega
   by_cases hm:aI<=out.length
   ·have Mc:(aI:Int)<=(out.length:Int):=by omega
    have hr:bM p.read lo hi aI (f+1) a out=some out:=by simp only[bM,hm,or_true,if_true]
    rw[hr]
    simp[ha,Hq,e11,e7,lx,hm,Mc]
    exact ⟨x,.ro .refl,hS⟩
   ·have Mc:¬(aI:Int)<=(out.length:Int):=by omega
    have Q5:¬(d:Int)=12:=by omega
    have afb:¬d=12:=by omega
    obtain ⟨v,aT,ar,r2,q2,vm⟩:=f36 hS.rd a
    have AO:=vm.le
    have iJ:∀b,Ro hp nx (ab aT ar b) (ar+1):=fun b=>vm.trans cN
    simp[ha,Hq,e11,e7,lx,hm,Mc,Q5,afb,e4]
    refine ae r2 ?_
    unfold sm at q2
    have NG:bM p.read lo hi aI (f+1) a out=match fS p.read a with
      |some n=>if n.leaf=true then jk p.read lo hi aI (n.keys.zip n.items) out else iH (fun c out=>bM p.read lo hi aI f c out) lo hi none n.keys n.kids out
      |none=>none:=by
     rw[bM,if_neg (by simp[ha,hm])]
     cases fS p.read a<;>rfl
    rw[NG]
    cases hn:fS p.read a with
    |none =>
     rw[hn]at q2
     subst q2
     simp[eC,aa,aG]
     exact ⟨x,.ro (iJ _)⟩
    |some nd =>
     rw[hn]at q2
     obtain ⟨y,hy,rfl⟩:=q2
     obtain ⟨n1,n2,n3,n4,n5⟩:=hS.rd.pg.tH hn
     have fq:dO 492 nd:=⟨n3,n4,n5⟩
     have DJ:=hy
     obtain ⟨b0,k1,k2,k3,k4,i1,i2,i3,i4,d1,d2,d3,d4,rfl⟩:=hy.shape
     obtain ⟨_,_,_,tW⟩:=hy.cl
     have Un:=hS.ro (iJ (some [[.v (.bool b0),.rs k1 k2 k3 k4,.rs i1 i2 i3 i4,.rs d1 d2 d3 d4]]))
     have ir:B2 fU hp nx x (ab aT ar (some [[.v (.bool b0),.rs k1 k2 k3 k4,.rs i1 i2 i3 i4,.rs d1 d2 d3 d4]])) (ar+1) x:=.ro (iJ _)
     simp[aa,aG]
     cases dj:nd.leaf with
     |true =>
      rw[dj]at tW
      subst tW
      simp
      rw[hTL]
      refine afy (q:=ar) Un (by simp) (by simp) (by simp) (by simp) (by simp) (by simp) DJ (by simp) (by omega) (by omega) (fun e=>by have:=TN _ e;omega) n1 dj fq T5 fun tm' v hp' nx' x' tv rJ hF' => ?_
      simp[tv]
      exact ⟨x',ir.trans hF',rJ⟩
     |false =>
      rw[dj]at tW
      subst tW
      simp
      rw[hTK]
      refine afz (q:=ar) (f:=f) (d:=d) Un (fun a h=>ih (d+1) a (by omega) h) (by simp) (by omega) (by simp) (by simp) (by simp) (by simp) (by simp) (by simp) (by simp) DJ (by simp) (by omega) (by omega) (fun e=>by have:=TN _ e;omega) n1 dj fq fun v hp' nx' x' rJ hF' => ?_
      exact ⟨x',ir.trans hF',rJ⟩
end Go.Ai
namespace Go.Ai
open Go.Bt
theorem f11 {hp nx rt rp rd F p rootS view B} (h:Gg hp nx rt rp rd F p rootS view B) {root:Nat} (hr:FU hp rt rp root) (lo hi:Bs) (aI:Nat) :
  ∃v hp' nx',aY E 11 [.ptr rt 0 0,.str lo,.str hi,iV aI] hp nx v hp' nx' .e/\Ro hp nx hp' nx'/\match bM p.read lo hi (min aI 20000) 12 root [] with
   |some out=>∃x,v=.bE [x,.v (.int .i64 0)]/\dD hp' nx' 2 (out.map bb) x/\∀r∈bf x,nx<=r
   |none=>v=.bE [.rs true 0 [] (some 0),.v (.int .i64 10)]:=by
 have main:=an (P:=fun v hp' nx'=>Ro hp nx hp' nx'/\match bM p.read lo hi (min aI 20000) 12 root [] with
   |some out=>∃x,v=.bE [x,.v (.int .i64 0)]/\dD hp' nx' 2 (out.map bb) x/\∀r∈bf x,nx<=r
   |none=>v=.bE [.rs true 0 [] (some 0),.v (.int .i64 10)]) e11 (args:=[.ptr rt 0 0,.str lo,.str hi,iV aI]) rfl (hp:=hp) (nx:=nx) ?_
 ·exact main
 have EP:min (aI:Int) 20000=((min aI 20000:Nat):Int):=by omega
 have je:=h.pg.lt
 have Nz:=h.lt
 let q4:=nx;let q5:=nx+1;let q6:=nx+1+1;let q7:=nx+1+1+1;let fU:=nx+1+1+1+1;let q12:=nx+1+1+1+1+1
 obtain ⟨H1,fw⟩:∃H1,H1=ab (ab (ab (ab hp nx (some [[.ptr rt 0 0]])) (nx+1) (some [[.str lo]])) (nx+1+1) (some [[.str hi]])) (nx+1+1+1) (some [[iV aI]]):=⟨_,rfl⟩
 have cX:Ro hp nx H1 (nx+1+1+1+1):=⟨by omega,fun r hr=>by simp[fw,show ¬r=nx by omega,show ¬r=nx+1 by omega,show ¬r=nx+1+1 by omega,show ¬r=nx+1+1+1 by omega]⟩
 have a4:H1 nx=some [[.ptr rt 0 0]]:=by simp[fw,show ¬nx=nx+1+1 by omega,show ¬nx=nx+1+1+1 by omega]
 have a7:H1 (nx+1+1+1)=some [[iV aI]]:=by simp[fw]
 have a5:H1 (nx+1)=some [[.str lo]]:=by simp[fw,show ¬nx+1=nx+1+1+1 by omega]
 have a6:H1 (nx+1+1)=some [[.str hi]]:=by simp[fw]
 obtain ⟨cc,hc⟩:=hr.row
 obtain ⟨H2,oH⟩:∃H2,H2=ab (ab (ab H1 (nx+1+1+1) (some [[iV (min aI 20000:Nat)]])) (nx+1+1+1+1) (some [[nS]])) (nx+1+1+1+1+1) (some [[.fn (.func 39) [] [.ptr (nx+1+1+1+1) 0 0,.ptr (nx+1+1+1) 0 0,.ptr nx 0 0,.ptr (nx+1) 0 0,.ptr (nx+1+1) 0 0,.ptr (nx+1+1+1+1+1) 0 0]]]):=⟨_,rfl⟩
 have iK:Ro hp nx H2 (nx+1+1+1+1+1+1):=⟨by omega,fun r hr=>by simp[oH,show ¬r=nx+1+1+1 by omega,show ¬r=nx+1+1+1+1 by omega,show ¬r=nx+1+1+1+1+1 by omega];exact cX.ah r hr⟩
 have hS:DB H2 (nx+1+1+1+1+1+1) rt rp rd F p rootS view B nx (nx+1) (nx+1+1) (nx+1+1+1) (nx+1+1+1+1) (nx+1+1+1+1+1) lo hi (min aI 20000) [] nS:=by
  refine ⟨h.ro iK,?_,?_,?_,?_,?_,?_,.inl ⟨rfl,rfl⟩,?_,?_,by simp,by simp⟩
  ·simp[oH,show ¬nx=nx+1+1+1 by omega,show ¬nx=nx+1+1+1+1 by omega,show ¬nx=nx+1+1+1+1+1 by omega,a4]
  ·simp[oH,show ¬nx+1=nx+1+1+1 by omega,show ¬nx+1=nx+1+1+1+1 by omega,show ¬nx+1=nx+1+1+1+1+1 by omega,a5]
  ·simp[oH,show ¬nx+1+1=nx+1+1+1+1 by omega,show ¬nx+1+1=nx+1+1+1+1+1 by omega,a6]
  ·simp[oH,show ¬nx+1+1+1=nx+1+1+1+1+1 by omega]
  ·simp[oH]
  ·simp[oH]
  ·intro r hr
   simp only[zH,wO,or_false]at hr
   omega
  ·simp only[zH,not_or]
   exact ⟨by omega,by omega,by omega,by omega,by omega,by omega,fun e=>by have:=je _ e;omega⟩
 obtain ⟨v5,oB,rF,x5,r5,gH,m5⟩:=f39 (by omega) 12 0 root rfl hS
 have aaP:Ro hp nx oB rF:=⟨by have:=gH.le;omega,fun r hr=>by rw[gH.ah r (by omega) (by omega) (by simp)];exact iK.ah r hr⟩
 simp[c11,<-fw,a4]
 refine ae (f35 (h.ro cX)) ?_
 have c2:H2 rt=some [.ptr rp 0 0::iV root::cc]:=(iK.ah rt Nz).trans hc
 have c1:H1 rt=some [.ptr rp 0 0::iV root::cc]:=(cX.ah rt Nz).trans hc
 simp[a7,a4,EP,aa,aG,show ¬nx=nx+1+1+1 by omega,show ¬nx=nx+1+1+1+1 by omega,show ¬nx=nx+1+1+1+1+1 by omega,c1,show ¬rt=nx+1+1+1 by omega,show ¬rt=nx+1+1+1+1 by omega,show ¬rt=nx+1+1+1+1+1 by omega,<-oH]
 simp[hS.xf,hS.h4,c2]
 refine ae (by simpa using r5) ?_
 cases hv:bM p.read lo hi (min aI 20000) 12 root [] with
 |none =>
  rw[hv]at m5
  simp only at m5
  subst m5
  simp
  exact aaP
 |some out =>
  rw[hv]at m5
  obtain ⟨rfl,y8⟩:=m5
  have c11:=y8.vM
  simp[c11]
  refine ⟨aaP,y8.w,fun r hr=>(gH.sub r hr).elim (by simp) (by omega)⟩
end Go.Ai
namespace Go.Ai
open Go.Bt
theorem f121 (lo hi key:Bs) (b:Bool) (hp nx):aY E 121 [.agg [.str lo,.str hi,.v (.bool b)],.str key] hp nx (.v (.bool (!al key lo&&(!b||al key hi)))) hp nx .p:=by
 refine aD e121 rfl (by simp) ?_ hp nx
 cases h1:al key lo
 ·cases b
  ·simp[c121,h1]
  ·simp[c121,h1]
 ·simp[c121,h1]
def GW (n:Nat):List AV:=[iV n,.v (.bool true)]
theorem Fi (n:Nat):∀l:List Nat,(n∉l->iQ .i (iV n) (l.map GW)=some none)/\(n∈l->∃i,iQ .i (iV n) (l.map GW)=some (some (i,.v (.bool true))))
 |[]=>⟨fun _=>rfl,fun h=>by simp at h⟩
 |m::r=>by
  obtain ⟨h1,h2⟩:=Fi n r
  have he:iQ .i (iV n) ((m::r).map GW)=match iR .i (iV n) (iV m) with
    |some true=>some (some (0,.v (.bool true)))
    |some false=>match iQ .i (iV n) (r.map GW) with
     |some (some (i,x))=>some (some (i+1,x))
     |some none=>some none
     |none=>none
    |none=>none:=rfl
  rw[he]
  have hq:iR .i (iV n) (iV m)=some (decide (n=m)):=by
   simp only[iR,if_true]
   congr 1
   simp[Int.ofNat_inj]
  rw[hq]
  by_cases WC:n=m
  ·subst WC
   exact ⟨fun h=>absurd (by simp) h,fun _=>⟨0,by simp⟩⟩
  ·refine ⟨fun h => ?_,fun h => ?_⟩
   ·rw[h1 (fun q=>h (by simp[q]))];simp[WC]
   ·obtain ⟨i,hi⟩:=h2 (by simpa [WC] using h)
    exact ⟨i+1,by rw[hi];simp[WC]⟩
end Go.Ai
namespace Go.Ai
open Go.Bt
structure ZC (hp:Heap) (nx ql rm rt rp rd root:Nat) (x y:AV) (Fp pt ol:List Nat) (s:Bt.LK) (use:Bool) (rootS:Bs) (view:Nat->Bs) (B:Nat):Prop where
 tr:th hp nx rt rp rd root x y Fp ⟨s.p,pt,ol⟩ rootS view B
 hq:hp ql=some [[.ptr rt 0 0,.v (.bool use),.mp rm,iV s.leaf]]
 hm:hp rm=some (s.met.reverse.map GW)
 lq:ql<nx
 lm:rm<nx
 ne:ql≠rm
 nq:ql∉rt::(bf x++(bf y++Fp))
 nm:rm∉rt::(bf x++(bf y++Fp))
def pV (hp:Heap) (nx ql rt rp rd:Nat) (F:List Nat) (root:Nat) (pt ol:List Nat) (s:Bt.LK) (use:Bool) (rootS:Bs) (B:Nat):Prop:=∃rm x y Fp view,ZC hp nx ql rm rt rp rd root x y Fp pt ol s use rootS view B/\F=ql::rm::rt::(bf x++(bf y++Fp))
theorem Rp (p:PM) (n:Nat):((p.use n).getD p).gen=p.gen:=by
 unfold PM.use
 split<;>rfl
theorem f119 {hp nx ql rt rp rd F root pt ol use rootS B} {s:Bt.LK} (h:pV hp nx ql rt rp rd F root pt ol s use rootS B) (n:Nat) (hn:n<=1000000000000) :
  ∃hp' nx' e,aY E 119 [.ptr ql 0 0,iV n] hp nx (.v (.int .i64 e)) hp' nx' .e/\Fr F hp nx F hp' nx'/\match gw use s n with
   |some s'=>e=0/\pV hp' nx' ql rt rp rd F root pt ol s' use rootS B
   |none=>e=10/\∃s',pV hp' nx' ql rt rp rd F root pt ol s' use rootS B:=by
 have main:=an (P:=fun v hp' nx'=>∃e:Int,v=.v (.int .i64 e)/\Fr F hp nx F hp' nx'/\match gw use s n with
   |some s'=>e=0/\pV hp' nx' ql rt rp rd F root pt ol s' use rootS B
   |none=>e=10/\∃s',pV hp' nx' ql rt rp rd F root pt ol s' use rootS B) e119 (args:=[.ptr ql 0 0,iV n]) rfl (hp:=hp) (nx:=nx) ?_
 ·obtain ⟨v,hp',nx',h1,e,rfl,h2⟩:=main
  exact ⟨hp',nx',e,h1,h2⟩
 obtain ⟨rm,x,y,Fp,view,hI,rfl⟩:=h
 obtain ⟨f1,f2⟩:=Fi n s.met.reverse
 have hq:=hI.hq
 have hm:=hI.hm
 have bt:=hI.ne
 by_cases mg:n∈s.met
 ·obtain ⟨i,hi⟩:=f2 (by simpa using mg)
  have WJ:gw use s n=none:=by simp only[gw,if_pos mg]
  rw[WJ]
  simp[c119,hq,hm,sT,hi,-List.map_reverse]
  exact ⟨.refl,s,rm,x,y,Fp,view,hI,rfl⟩
 ·have hf:=f1 (by simpa using mg)
  obtain ⟨H2,oH⟩:∃H2,H2=ab hp rm (some (s.met.reverse.map GW++[[iV n,.v (.bool true)]])):=⟨_,rfl⟩
  have hk:∀r,r≠rm->H2 r=hp r:=fun r hr=>by simp[oH,hr]
  have iO:ZC H2 nx ql rm rt rp rd root x y Fp pt ol ⟨s.p,n::s.met,s.leaf⟩ use rootS view B :=
   ⟨hI.tr.ah (zD _) fun r hr=>hk r fun e=>hI.nm (e▸hr),by rw[hk ql bt];exact hq,by simp[oH,GW],hI.lq,hI.lm,bt,hI.nq,hI.nm⟩
  have iu:Fr (ql::rm::rt::(bf x++(bf y++Fp))) hp nx (ql::rm::rt::(bf x++(bf y++Fp))) H2 nx:=⟨zD _,fun r u1 u2=>hk r fun e=>u2 (by simp[e]),fun r hr=>.inl hr⟩
  cases use with
  |false =>
   have WJ:gw false s n=some ⟨s.p,n::s.met,s.leaf⟩:=by simp only[gw,if_neg mg];rfl
   rw[WJ]
   simp[c119,hq,hm,sT,hf,bt,-List.map_reverse,<-oH,iO.hq]
   exact ⟨iu,rm,x,y,Fp,view,iO,rfl⟩
  |true =>
   obtain ⟨kr,o6,e,r3,he,hP3,ir⟩:=f139 iO.tr.pg n hn (some 1)
   obtain ⟨mi,hFT⟩:=iO.tr.vr hP3 ir (zD _) (by rw[Rp];exact iO.tr.ok)
   have ix:=iO.tr.ix
   simp only[fh]at ix
   simp[c119,hq,hm,sT,hf,bt,-List.map_reverse,<-oH,iO.hq,ix]
   refine ae r3 ?_
   have BC:ql∉Fp:=fun q=>hI.nq (by simp[q])
   have hmF:rm∉Fp:=fun q=>hI.nm (by simp[q])
   have Lr:=ir.le
   have ju:ZC kr o6 ql rm rt rp rd root x y Fp pt ol ⟨(s.p.use n).getD s.p,n::s.met,s.leaf⟩ true rootS view B :=
    ⟨mi,(ir.ah ql hI.lq BC).trans iO.hq,(ir.ah rm hI.lm hmF).trans iO.hm,by have:=hI.lq;omega,by have:=hI.lm;omega,bt,hI.nq,hI.nm⟩
   have hFE:Fr (ql::rm::rt::(bf x++(bf y++Fp))) hp nx (ql::rm::rt::(bf x++(bf y++Fp))) kr o6:=by
    refine iu.trans ⟨Lr,fun r u1 u2=>ir.ah r u1 fun q=>u2 (by simp[q]),fun r hr=>.inl hr⟩
   cases hu:s.p.use n with
   |none =>
    have WJ:gw true s n=none:=by simp only[gw,if_neg mg,hu];rfl
    rw[WJ]
    rw[hu]at ju
    simp
    refine ap (f66 e _ _) ?_
    have e0:¬(e=0\/e=9):=by omega
    simp[e0]
    exact ⟨hFE,_,rm,x,y,Fp,view,ju,rfl⟩
   |some p' =>
    have WJ:gw true s n=some ⟨p',n::s.met,s.leaf⟩:=by simp only[gw,if_neg mg,hu];rfl
    rw[WJ]
    rw[hu]at ju
    simp
    refine ap (f66 0 _ _) ?_
    simp
    exact ⟨hFE,rm,x,y,Fp,view,ju,rfl⟩
end Go.Ai
namespace Go.Ai
open Go.Bt
theorem ZC.ah {hp nx ql rm rt rp rd root x y Fp pt ol s use rootS view B hp' nx'} (h:ZC hp nx ql rm rt rp rd root x y Fp pt ol s use rootS view B) (hn:nx<=nx') (hk:∀r∈ql::rm::rt::(bf x++(bf y++Fp)),hp' r=hp r):ZC hp' nx' ql rm rt rp rd root x y Fp pt ol s use rootS view B :=
 ⟨h.tr.ah hn fun r hr=>hk r (zu _ (zu _ hr)),by rw[hk ql (by simp)];exact h.hq,by rw[hk rm (by simp)];exact h.hm,zU h.lq hn,zU h.lm hn,h.ne,h.nq,h.nm⟩
theorem syL {ql rt rp rd root pt ol use rootS B} (hB:B<=1000000000):SyS (fun hp nx F (s:Bt.LK)=>pV hp nx ql rt rp rd F root pt ol s use rootS B) rt (fun s=>s.p) where
 rd:=fun hp nx F s ⟨rm,x,y,Fp,view,h,_⟩=>⟨rp,rd,Fp,rootS,view,B,h.tr.KE hB⟩
 ah:=fun hp nx F s hp' nx' ⟨rm,x,y,Fp,view,h,e⟩ hn hk=>by
  subst e
  exact ⟨rm,x,y,Fp,view,h.ah hn hk,rfl⟩
 lt:=fun hp nx F s ⟨rm,x,y,Fp,view,h,e⟩ r hr=>by
  subst e
  rcases zH.1 hr with rfl|hr
  ·exact h.lq
  ·rcases zH.1 hr with rfl|hr
   ·exact h.lm
   ·exact h.tr.Ix r hr
theorem VK {ql rt rp rd root pt ol use rootS B}:DF (fun hp nx F (s:Bt.LK)=>pV hp nx ql rt rp rd F root pt ol s use rootS B) (fun n s=>gw use s n) 119 [.ptr ql 0 0] [] (fun _ _=>True):=by
 intro f n s hp nx F _ hn h
 obtain ⟨hp',nx',e,r1,hF,m⟩:=f119 h n (by omega)
 refine ⟨hp',nx',F,e,r1,hF,?_⟩
 cases hm:gw use s n with
 |none=>rw[hm]at m;simp only[hm];exact m
 |some s'=>rw[hm]at m;simp only[hm];exact ⟨m.1,m.2,trivial⟩
theorem FF (use:Bool) (size:Nat):∀(f n:Nat) (acc:Bs) (s:Bt.LK),pL use size f n acc s=(dJ (fun s:Bt.LK=>s.p) (fun n s=>gw use s n) size f n acc s).map (·.2)
 |f,0,acc,s=>by
  have h1:dJ (fun s:Bt.LK=>s.p) (fun n s=>gw use s n) size f 0 acc s=if acc.length=size then some (acc,s) else none:=by cases f<;>rfl
  have h2:pL use size f 0 acc s=if acc.length=size then some s else none:=by cases f<;>rfl
  rw[h1,h2];split<;>rfl
 |0,n+1,acc,s=>rfl
 |f+1,n+1,acc,s=>by
  simp only[dJ,pL]
  cases gw use s (n+1) with
  |none=>rfl
  |some s' =>
   simp only
   cases s'.p.read (n+1) with
   |none=>rfl
   |some kb =>
    obtain ⟨k,b⟩:=kb
    simp only
    split
    ·rfl
    ·split
     ·rfl
     ·exact FF use size f _ _ s'
end Go.Ai
namespace Go.Ai
open Go.Bt
theorem pV.ah {hp nx ql rt rp rd F root pt ol use rootS B hp' nx'} {s:Bt.LK} (h:pV hp nx ql rt rp rd F root pt ol s use rootS B) (hn:nx<=nx') (hk:∀r∈F,hp' r=hp r):pV hp' nx' ql rt rp rd F root pt ol s use rootS B:=by
 obtain ⟨rm,x,y,Fp,view,h,rfl⟩:=h
 exact ⟨rm,x,y,Fp,view,h.ah hn hk,rfl⟩
theorem pV.lt {hp nx ql rt rp rd F root pt ol use rootS B} {s:Bt.LK} (h:pV hp nx ql rt rp rd F root pt ol s use rootS B) (hB:B<=1000000000):∀r∈F,r<nx:=(syL hB).lt _ _ _ _ h
theorem pV.row {hp nx ql rt rp rd F root pt ol use rootS B} {s:Bt.LK} (h:pV hp nx ql rt rp rd F root pt ol s use rootS B) (d:Nat):∃rm,hp ql=some [[.ptr rt 0 0,.v (.bool use),.mp rm,iV s.leaf]] /\
  pV (ab hp ql (some [[.ptr rt 0 0,.v (.bool use),.mp rm,iV d]])) nx ql rt rp rd F root pt ol ⟨s.p,s.met,d⟩ use rootS B/\Fr F hp nx F (ab hp ql (some [[.ptr rt 0 0,.v (.bool use),.mp rm,iV d]])) nx:=by
 obtain ⟨rm,x,y,Fp,view,h,rfl⟩:=h
 refine ⟨rm,h.hq,⟨rm,x,y,Fp,view,⟨h.tr.ah (zD _) fun r hr=>by simp[show ¬r=ql from fun e=>h.nq (e▸hr)],by simp,by rw[show ∀b,ab hp ql b rm=hp rm from fun b=>by simp[show ¬rm=ql from fun e=>h.ne e.symm]];exact h.hm,h.lq,h.lm,h.ne,h.nq,h.nm⟩,rfl⟩,⟨zD _,fun r u1 u2 => ?_,fun r hr=>.inl hr⟩⟩
 simp only[zH,not_or]at u2
 simp[u2.1]
def HQ:cC:=match c122.body with | .seq _ (.seq _ (.seq _ t))=>t|_=>.skip
theorem f122 {hp nx ql rt rp rd F root pt ol use rootS B} {s:Bt.LK} (h:pV hp nx ql rt rp rd F root pt ol s use rootS B) (hB:B<=1000000000) {n:Nd} {nA:AV} (hn:iD n nA) (hr:ax n=true) (dj:n.leaf=true) (fq:dO 492 n) (d:Nat) :
  ∃hp' nx' F' e,aY E 122 [.ptr ql 0 0,nA,iV d] hp nx (.v (.int .i64 e)) hp' nx' .e/\Fr F hp nx F' hp' nx'/\match (if s.leaf≠0/\s.leaf≠d then none else iI use n.items ⟨s.p,s.met,d⟩) with
   |some s'=>e=0/\pV hp' nx' ql rt rp rd F' root pt ol s' use rootS B
   |none=>e=10:=by
 have main:=an (P:=fun v hp' nx'=>∃(F':List Nat) (e:Int),v=.v (.int .i64 e)/\Fr F hp nx F' hp' nx'/\match (if s.leaf≠0/\s.leaf≠d then none else iI use n.items ⟨s.p,s.met,d⟩) with
   |some s'=>e=0/\pV hp' nx' ql rt rp rd F' root pt ol s' use rootS B
   |none=>e=10) e122 (args:=[.ptr ql 0 0,nA,iV d]) rfl (hp:=hp) (nx:=nx) ?_
 ·obtain ⟨v,hp',nx',h1,F',e,rfl,h2⟩:=main
  exact ⟨hp',nx',F',e,h1,h2⟩
 obtain ⟨k,i,dd,rfl,⟨k1,k2,k4,rfl,jn⟩,⟨i1,i2,i4,rfl,EV⟩,⟨d1,d2,d4,rfl,AS⟩⟩:=hn
 obtain ⟨g1,g2,g3⟩:=(aZ.of hr).leaf dj
 have yS:=h.lt hB
 have bZ:Ro hp nx (ab hp nx (some [[.v (.bool n.leaf),.rs k1 k2 (n.keys.map aN) k4,.rs i1 i2 (n.items.map bD.cells) i4,.rs d1 d2 (n.kids.map bC) d4]])) (nx+1):=cN
 obtain ⟨H1,fw⟩:∃H1,H1=ab hp nx (some [[AV.v (.bool n.leaf),.rs k1 k2 (n.keys.map aN) k4,.rs i1 i2 (n.items.map bD.cells) i4,.rs d1 d2 (n.kids.map bC) d4]]):=⟨_,rfl⟩
 have b0:H1 nx=some [[AV.v (.bool n.leaf),.rs k1 k2 (n.keys.map aN) k4,.rs i1 i2 (n.items.map bD.cells) i4,.rs d1 d2 (n.kids.map bC) d4]]:=by simp[fw]
 rw[<-fw]at bZ
 have h1:=h.ah bZ.le fun r hr=>bZ.ah r (yS r hr)
 obtain ⟨rm,hq,h2,iu⟩:=h1.row d
 have ir:=(bZ.fr F).trans iu
 have BC:ql∈F:=by obtain ⟨_,_,_,_,_,_,rfl⟩:=h;simp
 have ne:¬nx=ql:=fun e=>by have:=yS ql BC;omega
 by_cases c1:s.leaf≠0/\s.leaf≠d
 ·rw[if_pos c1]
  obtain ⟨c2,c3⟩:=c1
  have xq:¬(s.leaf:Int)=0:=by omega
  have Rh:¬(s.leaf:Int)=(d:Int):=by omega
  simp[c122,<-fw,hq,c2,c3,xq,Rh]
  exact ⟨F,bZ.fr F⟩
 ·rw[if_neg c1]
  obtain ⟨TC,hT⟩:∃TC,TC=HQ:=⟨_,rfl⟩
  have jd:=hT
  simp only[HQ,c122]at jd
  simp only[c122]
  rw[<-jd]
  obtain ⟨H3,Lz⟩:∃H3,H3=ab H1 ql (some [[.ptr rt 0 0,.v (.bool use),.mp rm,iV d]]):=⟨_,rfl⟩
  rw[<-Lz]at h2 ir
  have b3:H3 nx=some [[AV.v (.bool n.leaf),.rs k1 k2 (n.keys.map aN) k4,.rs i1 i2 (n.items.map bD.cells) i4,.rs d1 d2 (n.kids.map bC) d4]]:=by simp[Lz,ne,b0]
  have fin:∀tm':Nat->AV,tm' 0=.ptr ql 0 0->tm' 4=.ptr nx 0 0->W (aY E) TC (sc [.t 6] fun v hp' nx'=>∃(F':List Nat) (e:Int),v=.v (.int .i64 e)/\Fr F hp nx F' hp' nx'/\match iI use n.items ⟨s.p,s.met,d⟩ with
    |some s'=>e=0/\pV hp' nx' ql rt rp rd F' root pt ol s' use rootS B
    |none=>e=10) ⟨tm',H3,nx+1⟩:=by
   intro tm' u0 u4
   rw[hT]
   simp[HQ,c122,u0,u4,b3]
   refine aM (I:=fun (g:Nat×Bt.LK×List Nat) st=>g.1<=n.items.length/\st.tm 31=iV g.1/\st.tm 29=.rs i1 i2 (n.items.map bD.cells) i4/\st.tm 30=iV n.items.length/\st.tm 0=.ptr ql 0 0/\pV st.hp st.nx ql rt rp rd g.2.2 root pt ol g.2.1 use rootS B/\Fr F hp nx g.2.2 st.hp st.nx /\
    iI use n.items ⟨s.p,s.met,d⟩=iI use (n.items.drop g.1) g.2.1) (fun g=>n.items.length-g.1) (0,⟨s.p,s.met,d⟩,F) ?_ ?_
   ·exact ⟨by simp,by simp,by simp,by simp,by simp[u0],h2,ir,by simp⟩
   rintro ⟨i,s1,F1⟩ tm hp1 nx1 ⟨iM,t31,t29,t30,t0,hL,hF,lQ⟩
   simp only at iM t31 t29 t30 t0 hL hF lQ
   by_cases az:i<n.items.length
   ·have bn:(i:Int)<(n.items.length:Int):=by omega
    have xe:n.items[i]?=some n.items[i]:=zA az
    have bG:=aS (n:=3) (k:=.i64) (cap:=i4) (j:=i) (cells:=(n.items[i]).cells) EV (by simp[xe])
    have CS:=g3 _ (zP az)
    have tl:n.items.drop i=n.items[i]::n.items.drop (i+1):=zO az
    have w1:IntKind.wrap .i64 ((i:Int)+1)=((i+1:Nat):Int):=by have:=fq.2.1;rw[aj]<;>omega
    rw[tl]at lQ
    generalize n.items[i]=x at *
    have uQ:=hL.lt hB
    have cX:Ro hp1 nx1 (ab hp1 nx1 (some [x.cells])) (nx1+1):=cN
    have Mg:=hL.ah cX.le fun r hr=>cX.ah r (uQ r hr)
    have mr:=hF.trans (cX.fr F1)
    obtain ⟨rm1,iL,_⟩:=hL.row 0
    have aeH:ql∈F1:=by obtain ⟨_,_,_,_,_,_,rfl⟩:=hL;simp
    have L8:¬ql=nx1:=by have:=uQ ql aeH;omega
    rcases il CS with ⟨a1,a2,a3⟩|⟨pg,size,a1,a2,a3,a4,a5,a6,a7⟩
    ·have Bz:x.cells=[.str x.v,iV 0,iV 0]:=by simp[bD.cells,a1,a2]
     rw[iI,if_pos a1]at lQ
     rw[Bz]at bG Mg mr
     simp[t31,t29,t30,bn,bG,aa,aG,w1,-ag,-Prod.exists]
     exact ⟨(i+1,s1,F1),by simp only;omega,by simp only;omega,rfl,t0,Mg,mr,lQ⟩
    ·have oC:¬x.p=0:=by omega
     have Bz:x.cells=[.str x.v,iV pg,iV size]:=by simp[bD.cells,a1,a2]
     have e1:x.s.toNat=size:=by omega
     have e2:x.p.toNat=pg:=by omega
     have hpI:¬pg=0:=by omega
     obtain ⟨v,oB,rF,F5,r5,fr,m⟩:=f70 (syL (ql:=ql) (rt:=rt) (rp:=rp) (rd:=rd) (root:=root) (pt:=pt) (ol:=ol) (use:=use) (rootS:=rootS) (B:=B) hB) VK (x:=x) (size:=size) (pg:=pg) a2 a1 (by omega) (by omega) (by omega) trivial Mg
     rw[iI,if_neg oC,e1,e2,FF]at lQ
     rw[Bz]at bG r5 mr
     have BL:=mr.trans (by rw[<-Bz];exact fr)
     simp[t31,t29,t30,t0,bn,bG,aa,aG,w1,hpI,iL,L8,-ag,-Prod.exists]
     refine ae r5 ?_
     cases hc:dJ (fun s:Bt.LK=>s.p) (fun n s=>gw use s n) size (size+1) pg [] s1 with
     |none =>
      rw[hc]at m lQ
      obtain ⟨rfl,_⟩:=m
      simp
      rw[lQ]
      exact ⟨⟨F5,BL⟩,trivial⟩
     |some r =>
      rw[hc]at m lQ
      obtain ⟨rfl,hL5⟩:=m
      simp[t31,w1,-Prod.exists]
      exact ⟨(i+1,r.2,F5),by simp only;omega,by simp only;omega,rfl,t29,t30,t0,hL5,BL,lQ⟩
   ·have pw:i=n.items.length:=by omega
    subst pw
    simp[t31,t30]
    rw[wu]at lQ
    rw[lQ]
    exact ⟨F1,hF,hL⟩
  by_cases c2:s.leaf=0
  ·simp[<-fw,hq,c2,aa,aG,<-Lz]
   refine fin _ ?_ ?_<;>simp
  ·have c3:s.leaf=d:=by omega
   have xq:¬(s.leaf:Int)=0:=by omega
   have Rh:(s.leaf:Int)=(d:Int):=by omega
   have hd0:¬d=0:=by omega
   simp[<-fw,hq,hd0,c3,aa,aG,<-Lz]
   refine fin _ ?_ ?_<;>simp
end Go.Ai
namespace Go.Ai
open Go.Bt
def AQ (en:Bool) (hs:Bs):Option Bs:=if en=true then some hs else none
def w6 (lo:Bs) (ks:List Bs):Nat->Bs
 |0=>lo
 |j+1=>ks.getD j []
theorem G4 {w:Nat->Bs->Option Bs->Bt.LK->Option Bt.LK} {hi:Option Bs} {lo:Bs} {ks:List Bs} {cs:List Int} {i cc:Nat} (AT:cs.length=ks.length+1) (kO:i<cs.length) (hc:cs[i]=(cc:Int)) (s:Bt.LK) :
  kE w hi (w6 lo ks i) (ks.drop i) (cs.drop i) s=match w cc (w6 lo ks i) (if h:i<ks.length then some ks[i] else hi) s with
   |some s'=>kE w hi (w6 lo ks (i+1)) (ks.drop (i+1)) (cs.drop (i+1)) s'
   |none=>none:=by
 rw[zO kO,hc]
 by_cases h:i<ks.length
 ·rw[zO h,dif_pos h]
  have e:w6 lo ks (i+1)=ks[i]:=by simp only[w6,List.getD_eq_getElem?_getD,zA h,wJ]
  rw[e]
  simp only[kE,zl]
  generalize w cc (w6 lo ks i) (some ks[i]) s=z
  cases z<;>rfl
 ·rw[dif_neg h,zr (by omega:ks.length<=i),zr (by omega:ks.length<=i+1),zr (by omega:cs.length<=i+1)]
  simp only[kE,zl]
  cases w cc (w6 lo ks i) hi s<;>simp[kE]
def JY:cC:=match c80.body with | .seq _ (.seq _ (.seq _ (.seq _ (.seq _ (.seq _ (.seq _ (.seq _ t)))))))=>t|_=>.skip
theorem afv {hp nx ql rt rp rd F root pt ol use rootS B} {s:Bt.LK} (h:pV hp nx ql rt rp rd F root pt ol s use rootS B) (hB:B<=1000000000) {n:Nd} {nA:AV} {q q7 f d:Nat} {lo hs:Bs} {en:Bool} {tm:Nat->AV} {P:AV->Heap->Nat->Prop}
  (ih:∀{hp nx F} {s:Bt.LK} (a:Nat) (lo hs:Bs) (en:Bool),a<=1000000000000->pV hp nx ql rt rp rd F root pt ol s use rootS B->∃hp' nx' F' e,aY E 80 [.ptr ql 0 0,iV a,iV (d+1:Nat),.agg [.str lo,.str hs,.v (.bool en)]] hp nx (iV e) hp' nx' .e/\Fr F hp nx F' hp' nx' /\
   match iG use f a (d+1) lo (AQ en hs) s with|some s'=>e=0/\pV hp' nx' ql rt rp rd F' root pt ol s' use rootS B|none=>e=10)
  (t0:tm 0=.ptr ql 0 0) (t2:tm 2=iV d) (hd:d<13) (t7:tm 7=.ptr q7 0 0) (t10:tm 10=.ptr q 0 0) (hn:iD n nA) (hq:hp q=some [nA.cells]) (YB:hp q7=some [[.str lo,.str hs,.v (.bool en)]]) (R9:q<nx) (Wu:q7<nx) (BC:q∉F) (Wv:q7∉F)
  (hr:ax n=true) (dj:n.leaf=false) (fq:dO 492 n)
  (hP:∀(e:Int) hp' nx' F',(match kE (fun c lo hi s=>iG use f c (d+1) lo hi s) (AQ en hs) lo n.keys n.kids s with|some s'=>e=0/\pV hp' nx' ql rt rp rd F' root pt ol s' use rootS B|none=>e=10)->Fr F hp nx F' hp' nx'->P (.v (.int .i64 e)) hp' nx') :
  W (aY E) JY (sc [.t 8] P) ⟨tm,hp,nx⟩:=by
 obtain ⟨g1,g2,g3,g4⟩:=(aZ.of hr).inner dj
 have lP:=fq.1
 simp only[JY,c80]
 obtain ⟨k,i,dd,rfl,⟨k1,k2,k4,rfl,jn⟩,⟨i1,i2,i4,rfl,EV⟩,⟨d1,d2,d4,rfl,AS⟩⟩:=hn
 simp only[AV.cells]at hq
 have wd:IntKind.wrap .i64 ((d:Int)+1)=((d+1:Nat):Int):=by rw[aj]<;>omega
 simp[t10,hq]
 refine aM (I:=fun (g:Nat×Bt.LK×List Nat) st=>g.1<=n.kids.length/\st.tm 72=iV g.1/\st.tm 70=.rs d1 d2 (n.kids.map bC) d4/\st.tm 71=iV n.kids.length/\st.tm 0=.ptr ql 0 0/\st.tm 2=iV d/\st.tm 7=.ptr q7 0 0/\st.tm 10=.ptr q 0 0 /\
   pV st.hp st.nx ql rt rp rd g.2.2 root pt ol g.2.1 use rootS B/\Fr F hp nx g.2.2 st.hp st.nx/\kE (fun c lo hi s=>iG use f c (d+1) lo hi s) (AQ en hs) lo n.keys n.kids s=kE (fun c lo hi s=>iG use f c (d+1) lo hi s) (AQ en hs) (w6 lo n.keys g.1) (n.keys.drop g.1) (n.kids.drop g.1) g.2.1) (fun g=>n.kids.length-g.1) (0,s,F) ?_ ?_
 ·exact ⟨by simp,by simp,by simp,by simp,by simp[t0],by simp[t2],by simp[t7],by simp[t10],h,.refl,by simp[w6]⟩
 rintro ⟨i,s1,F1⟩ tm hp1 nx1 ⟨iM,t72,t70,t71,t0,t2,t7,t10,hL,hF,fa⟩
 simp only at iM t72 t70 t71 t0 t2 t7 t10 hL hF fa
 have iL:hp1 q=_:=(hF.ah q R9 BC).trans hq
 have Ww:hp1 q7=_:=(hF.ah q7 Wu Wv).trans YB
 have hle:=hF.le
 by_cases az:i<n.kids.length
 ·have bn:(i:Int)<(n.kids.length:Int):=by omega
  have tQ:n.kids[i]?=some n.kids[i]:=zA az
  obtain ⟨cc,ec,ec2,ec3⟩:=gf (g4 _ (zP az))
  have bG:=aS (n:=1) (k:=.i64) (cap:=d4) (j:=i) (cells:=[iV cc]) AS (by simp[tQ,bC,ec])
  have w1:IntKind.wrap .i64 ((i:Int)+1)=((i+1:Nat):Int):=by rw[aj]<;>omega
  have pi:=G4 (w:=fun c lo hi s=>iG use f c (d+1) lo hi s) (hi:=AQ en hs) (lo:=lo) g2 az ec s1
  rw[pi]at fa
  have nq:¬q=nx1:=by omega
  have nq7:¬q7=nx1:=by omega
  have uQ:=hL.lt hB
  have bZ:∀b,Ro hp1 nx1 (ab hp1 nx1 b) (nx1+1):=fun b=>cN
  have Mg:∀b,pV (ab hp1 nx1 b) (nx1+1) ql rt rp rd F1 root pt ol s1 use rootS B:=fun b=>hL.ah (bZ b).le fun r hr=>(bZ b).ah r (uQ r hr)
  have iu:∀b,Fr F hp nx F1 (ab hp1 nx1 b) (nx1+1):=fun b=>hF.trans ((bZ b).fr F1)
  have gj:cc<=1000000000000:=by omega
  cases i with
  |zero =>
   have EU:n.keys[0]?=some n.keys[0]:=zA g1
   have nh:=aS (n:=1) (k:=.i64) (cap:=k4) (j:=0) (cells:=[.str n.keys[0]]) jn (by simp[EU,aN])
   change cd 1 _ (iV 0)=_ at nh bG
   change tm 72=iV 0 at t72
   have E4:(0:Int)<(n.keys.length:Int):=by omega
   have bn:(0:Int)<(n.kids.length:Int):=by omega
   have w1:IntKind.wrap .i64 1=((0+1:Nat):Int):=by decide
   rw[dif_pos g1]at fa
   simp only[w6]at fa
   obtain ⟨oB,rF,F5,e,r5,gH,m5⟩:=ih cc lo n.keys[0] true gj (Mg (some [[.str lo,.str n.keys[0],.v (.bool true)]]))
   simp only[AQ,if_true]at m5
   simp[t72,t70,t71,t0,t2,t7,t10,bn,az,bG,nh,E4,g1,iL,Ww,nq,nq7,wd,aa,aG,-ag,-Prod.exists,-Int.natCast_add]
   refine ae (by simpa using r5) ?_
   cases hv:iG use f cc (d+1) lo (some n.keys[0]) s1 with
   |none =>
    rw[hv]at m5 fa
    simp only at m5
    subst m5
    simp
    exact hP _ _ _ F5 (by rw[fa]) ((iu _).trans gH)
   |some s5 =>
    rw[hv]at m5 fa
    obtain ⟨rfl,y8⟩:=m5
    simp[t72,t70,t71,t0,t2,t7,t10,w1,-ag,-Prod.exists,-Int.natCast_add]
    exact ⟨(0+1,s5,F5),by simp only;omega,by simp only;omega,rfl,y8,(iu _).trans gH,fa⟩
  |succ j =>
   have hj:j<n.keys.length:=by omega
   have QY:n.keys[j]?=some n.keys[j]:=zA hj
   have Lt:=aS (n:=1) (k:=.i64) (cap:=k4) (j:=j) (cells:=[.str n.keys[j]]) jn (by simp[QY,aN])
   have w2:IntKind.wrap .i64 (((j+1:Nat):Int)-1)=(j:Int):=by rw[aj]<;>omega
   have lH:(0:Int)<((j+1:Nat):Int):=by omega
   have hla:w6 lo n.keys (j+1)=n.keys[j]:=by simp only[w6,List.getD_eq_getElem?_getD,QY,wJ]
   rw[hla]at fa
   by_cases hb:j+1<n.keys.length
   ·have E4:((j+1:Nat):Int)<(n.keys.length:Int):=by omega
    have EU:n.keys[j+1]?=some n.keys[j+1]:=zA hb
    have nh:=aS (n:=1) (k:=.i64) (cap:=k4) (j:=j+1) (cells:=[.str n.keys[j+1]]) jn (by simp[EU,aN])
    rw[dif_pos hb]at fa
    obtain ⟨oB,rF,F5,e,r5,gH,m5⟩:=ih cc n.keys[j] n.keys[j+1] true gj (Mg (some [[.str n.keys[j],.str n.keys[j+1],.v (.bool true)]]))
    simp only[AQ,if_true]at m5
    simp[t72,t70,t71,t0,t2,t7,t10,bn,az,bG,nh,Lt,w2,E4,lH,iL,Ww,nq,nq7,wd,aa,aG,-ag,-Prod.exists,-Int.natCast_add]
    refine ae (by simpa using r5) ?_
    cases hv:iG use f cc (d+1) n.keys[j] (some n.keys[j+1]) s1 with
    |none =>
     rw[hv]at m5 fa
     simp only at m5
     subst m5
     simp
     exact hP _ _ _ F5 (by rw[fa]) ((iu _).trans gH)
    |some s5 =>
     rw[hv]at m5 fa
     obtain ⟨rfl,y8⟩:=m5
     simp[t72,t70,t71,t0,t2,t7,t10,w1,-ag,-Prod.exists,-Int.natCast_add]
     exact ⟨(j+1+1,s5,F5),by simp only;omega,by simp only;omega,rfl,y8,(iu _).trans gH,fa⟩
   ·have E4:¬((j+1:Nat):Int)<(n.keys.length:Int):=by omega
    rw[dif_neg hb]at fa
    obtain ⟨oB,rF,F5,e,r5,gH,m5⟩:=ih cc n.keys[j] hs en gj (Mg (some [[.str n.keys[j],.str hs,.v (.bool en)]]))
    simp[t72,t70,t71,t0,t2,t7,t10,bn,az,bG,Lt,w2,E4,lH,iL,Ww,nq,nq7,wd,aa,aG,-ag,-Prod.exists,-Int.natCast_add]
    refine ae (by simpa using r5) ?_
    cases hv:iG use f cc (d+1) n.keys[j] (AQ en hs) s1 with
    |none =>
     rw[hv]at m5 fa
     simp only at m5
     subst m5
     simp
     exact hP _ _ _ F5 (by rw[fa]) ((iu _).trans gH)
    |some s5 =>
     rw[hv]at m5 fa
     obtain ⟨rfl,y8⟩:=m5
     simp[t72,t70,t71,t0,t2,t7,t10,w1,-ag,-Prod.exists,-Int.natCast_add]
     exact ⟨(j+1+1,s5,F5),by simp only;omega,by simp only;omega,rfl,y8,(iu _).trans gH,fa⟩
 ·have pw:i=n.kids.length:=by omega
  subst pw
  simp[t72,t71]
  refine hP _ _ _ F1 ?_ hF
  rw[fa,zr (zD n.kids.length)]
  simp only[kE]
  exact ⟨trivial,hL⟩
end Go.Ai
namespace Go.Ai
open Go.Bt
theorem RR (lo hs:Bs) (en:Bool) (k:Bs):(!al k lo&&(!en||al k hs))=xD lo (AQ en hs) k:=by
 cases en<;>simp[xD,AQ]
def yy (use:Bool) (f d:Nat) (lo:Bs) (hi:Option Bs) (n:Nd) (s:Bt.LK):Option Bt.LK :=
 if n.keys.all (xD lo hi)=false then none
 else if n.leaf=true then (if s.leaf≠0/\s.leaf≠d then none else iI use n.items ⟨s.p,s.met,d⟩)
 else kE (fun c lo hi s=>iG use f c (d+1) lo hi s) hi lo n.keys n.kids s
def JX:cC:=match c80.body with | .seq _ (.seq _ (.seq _ (.seq _ (.seq _ (.seq _ t)))))=>t|_=>.skip
theorem afu {hp nx ql rt rp rd F root pt ol use rootS B} {s:Bt.LK} (h:pV hp nx ql rt rp rd F root pt ol s use rootS B) (hB:B<=1000000000) {n:Nd} {nA:AV} {q q7 f d:Nat} {lo hs:Bs} {en:Bool} {tm:Nat->AV} {P:AV->Heap->Nat->Prop}
  (ih:∀{hp nx F} {s:Bt.LK} (a:Nat) (lo hs:Bs) (en:Bool),a<=1000000000000->pV hp nx ql rt rp rd F root pt ol s use rootS B->∃hp' nx' F' e,aY E 80 [.ptr ql 0 0,iV a,iV (d+1:Nat),.agg [.str lo,.str hs,.v (.bool en)]] hp nx (iV e) hp' nx' .e/\Fr F hp nx F' hp' nx' /\
   match iG use f a (d+1) lo (AQ en hs) s with|some s'=>e=0/\pV hp' nx' ql rt rp rd F' root pt ol s' use rootS B|none=>e=10)
  (t0:tm 0=.ptr ql 0 0) (t2:tm 2=iV d) (hd:d<13) (t7:tm 7=.ptr q7 0 0) (t10:tm 10=.ptr q 0 0) (hn:iD n nA) (hq:hp q=some [nA.cells]) (YB:hp q7=some [[.str lo,.str hs,.v (.bool en)]]) (R9:q<nx) (Wu:q7<nx) (BC:q∉F) (Wv:q7∉F)
  (hr:ax n=true) (fq:dO 492 n)
  (hP:∀(e:Int) hp' nx' F',(match yy use f d lo (AQ en hs) n s with|some s'=>e=0/\pV hp' nx' ql rt rp rd F' root pt ol s' use rootS B|none=>e=10)->Fr F hp nx F' hp' nx'->P (.v (.int .i64 e)) hp' nx') :
  W (aY E) JX (sc [.t 8] P) ⟨tm,hp,nx⟩:=by
 have lP:=fq.1
 have yQ:=hn
 obtain ⟨TK,hTK⟩:∃T,T=JY:=⟨_,rfl⟩
 have Oa:=hTK
 simp only[JY,c80]at Oa
 simp only[JX,c80]
 rw[<-Oa]
 obtain ⟨k,i,dd,rfl,⟨k1,k2,k4,rfl,jn⟩,⟨i1,i2,i4,rfl,EV⟩,⟨d1,d2,d4,rfl,AS⟩⟩:=hn
 have hq0:=hq
 simp only[AV.cells]at hq
 simp[t10,hq]
 refine aM (I:=fun (g:Nat) st=>g<=n.keys.length/\st.tm 54=iV g/\st.tm 52=.rs k1 k2 (n.keys.map aN) k4/\st.tm 53=iV n.keys.length/\st.tm 0=.ptr ql 0 0/\st.tm 2=iV d/\st.tm 7=.ptr q7 0 0/\st.tm 10=.ptr q 0 0 /\
   st.hp=hp/\st.nx=nx/\(∀j (hj:j<g) (tU:j<n.keys.length),xD lo (AQ en hs) n.keys[j]=true)) (fun g=>n.keys.length-g) 0 ?_ ?_
 ·exact ⟨by simp,by simp,by simp,by simp,by simp[t0],by simp[t2],by simp[t7],by simp[t10],rfl,rfl,fun j hj=>by omega⟩
 rintro i tm hp1 nx1 ⟨iM,t54,t52,t53,t0,t2,t7,t10,e1,e2,jc⟩
 simp only at t54 t52 t53 t0 t2 t7 t10 e1 e2
 subst e1;subst e2
 by_cases az:i<n.keys.length
 ·have bn:(i:Int)<(n.keys.length:Int):=by omega
  have tQ:n.keys[i]?=some n.keys[i]:=zA az
  have bG:=aS (n:=1) (k:=.i64) (cap:=k4) (j:=i) (cells:=[.str n.keys[i]]) jn (by simp[tQ,aN])
  have w1:IntKind.wrap .i64 ((i:Int)+1)=((i+1:Nat):Int):=by rw[aj]<;>omega
  have UK:=fun hp nx=>f121 lo hs n.keys[i] en hp nx
  simp only[RR]at UK
  simp[t54,t52,t53,t0,t2,t7,t10,bn,bG,YB,-ag]
  refine ap (UK _ _) ?_
  cases hb:xD lo (AQ en hs) n.keys[i] with
  |true =>
   simp[t54,w1,-ag]
   refine ⟨i+1,by omega,by omega,by omega,t52,t53,t0,t2,t7,t10,fun j hj tU => ?_⟩
   by_cases oG:j=i
   ·subst oG;exact hb
   ·exact jc j (by omega) tU
  |false =>
   simp
   refine hP 10 _ _ F ?_ .refl
   have:n.keys.all (xD lo (AQ en hs))=false:=by
    rw[Bool.eq_false_iff]
    intro e
    rw[zQ]at e
    rw[e _ (zP az)]at hb
    cases hb
   simp only[yy,this,if_true]
 ·have pw:i=n.keys.length:=by omega
  subst pw
  have Um:¬n.keys.all (xD lo (AQ en hs))=false:=by
   rw[Bool.not_eq_false,zQ]
   intro x hx
   obtain ⟨j,hj,rfl⟩:=zY hx
   exact jc j hj hj
  simp[t54,t53,t10,hq]
  cases dj:n.leaf with
  |true =>
   obtain ⟨hp',nx',F',e,r,fr,m⟩:=f122 h hB yQ hr dj fq d
   have ER:yy use f d lo (AQ en hs) n s=if s.leaf≠0/\s.leaf≠d then none else iI use n.items ⟨s.p,s.met,d⟩:=by
    simp only[yy,if_neg Um,dj,if_true]
   rw[<-ER]at m
   rw[dj]at r
   simp[t0,t2,t10,hq,dj]
   refine ae r ?_
   simp
   exact hP e _ _ F' m fr
  |false =>
   simp
   rw[hTK]
   refine afv h hB ih (by simp[t0]) (by simp[t2]) hd (by simp[t7]) (by simp[t10]) yQ hq0 YB R9 Wu BC Wv hr dj fq fun e hp' nx' F' m fr=>hP e hp' nx' F' ?_ fr
   simp only[yy,if_neg Um,dj,zK,if_false]
   exact m
end Go.Ai
namespace Go.Ai
open Go.Bt
theorem M8 (use:Bool) (f a d:Nat) (lo:Bs) (hi:Option Bs) (s:Bt.LK):iG use (f+1) a d lo hi s=match gw use s a with
  |some s=>(match fS s.p.read a with
   |some n=>if (1<d/\aw n<123)\/n.keys=[] then none else yy use f d lo hi n s
   |none=>none)
  |none=>none:=rfl
theorem f80 {ql rt rp rd root:Nat} {pt ol:List Nat} {use:Bool} {rootS:Bs} {B:Nat} (hB:B<=1000000000):∀(f d:Nat) {hp:Heap} {nx:Nat} {F:List Nat} {s:Bt.LK} (a:Nat) (lo hs:Bs) (en:Bool),d+f=13->1<=d->a<=1000000000000->pV hp nx ql rt rp rd F root pt ol s use rootS B ->
  ∃hp' nx' F' e,aY E 80 [.ptr ql 0 0,iV a,iV d,.agg [.str lo,.str hs,.v (.bool en)]] hp nx (iV e) hp' nx' .e/\Fr F hp nx F' hp' nx' /\
   match iG use f a d lo (AQ en hs) s with|some s'=>e=0/\pV hp' nx' ql rt rp rd F' root pt ol s' use rootS B|none=>e=10:=by
 intro f
 induction f with
 |zero =>
  intro d hp nx F s a lo hs en hd h1 ha h
  obtain rfl:d=13:=by omega
  have main:=an (P:=fun v hp' nx'=>∃(F':List Nat) (e:Int),v=iV e/\Fr F hp nx F' hp' nx'/\e=10) e80 (args:=[.ptr ql 0 0,iV a,iV 13,.agg [.str lo,.str hs,.v (.bool en)]]) rfl (hp:=hp) (nx:=nx) ?_
  ·obtain ⟨v,hp',nx',r,F',e,rfl,fr,m⟩:=main
   exact ⟨hp',nx',F',e,r,fr,m⟩
  simp[c80]
  exact ⟨F,(cN).fr F⟩
 |succ f ih =>
  intro d hp nx F s a lo hs en hd h1 ha h
  have main:=an (P:=fun v hp' nx'=>∃(F':List Nat) (e:Int),v=.v (.int .i64 e)/\Fr F hp nx F' hp' nx'/\match iG use (f+1) a d lo (AQ en hs) s with|some s'=>e=0/\pV hp' nx' ql rt rp rd F' root pt ol s' use rootS B|none=>e=10) e80 (args:=[.ptr ql 0 0,iV a,iV d,.agg [.str lo,.str hs,.v (.bool en)]]) rfl (hp:=hp) (nx:=nx) ?_
  ·obtain ⟨v,hp',nx',r,F',e,rfl,fr,m⟩:=main
   exact ⟨hp',nx',F',e,r,fr,m⟩
  obtain ⟨TL,hTL⟩:∃T,T=JX:=⟨_,rfl⟩
  have N9:=hTL
  simp only[JX,c80]at N9
  simp only[c80]
  rw[<-N9]
  have yS:=h.lt hB
  obtain ⟨H1,fw⟩:∃H1,H1=ab hp nx (some [[AV.str lo,.str hs,.v (.bool en)]]):=⟨_,rfl⟩
  have cX:Ro hp nx H1 (nx+1):=by rw[fw];exact cN
  have b7:H1 nx=some [[AV.str lo,.str hs,.v (.bool en)]]:=by simp[fw]
  have hL1:=h.ah cX.le fun r hr=>cX.ah r (yS r hr)
  have h7F:nx∉F:=fun e=>by have:=yS _ e;omega
  obtain ⟨aT,ar,e2,r2,iu,m2⟩:=f119 hL1 a ha
  have Xh:=(cX.fr F).trans iu
  have AO:=iu.le
  have b7':aT nx=some [[AV.str lo,.str hs,.v (.bool en)]]:=(iu.ah nx (by omega) h7F).trans b7
  have Q5:¬(12:Int)<(d:Int):=by omega
  have hdN:¬12<d:=by omega
  rw[M8]
  simp[<-fw,Q5,hdN]
  refine ae r2 ?_
  cases hm:gw use s a with
  |none =>
   rw[hm]at m2
   obtain ⟨rfl,_⟩:=m2
   simp
   exact ⟨F,Xh⟩
  |some s1 =>
   rw[hm]at m2
   obtain ⟨rfl,Mg⟩:=m2
   obtain ⟨rm,hq,_⟩:=Mg.row 0
   obtain ⟨Cp,mo,Kg,kw,ej,B',lC⟩:=(syL (ql:=ql) (rt:=rt) (rp:=rp) (rd:=rd) (root:=root) (pt:=pt) (ol:=ol) (use:=use) (rootS:=rootS) (B:=B) hB).rd _ _ _ _ Mg
   obtain ⟨v,kr,o6,r3,q3,Cq⟩:=f36 lC a
   have Lr:=Cq.le
   simp[hq]
   refine ae r3 ?_
   have fN:=Mg.lt hB
   unfold sm at q3
   cases hn:fS s1.p.read a with
   |none =>
    rw[hn]at q3
    subst q3
    simp[eC,aa,aG]
    exact ⟨F,Xh.trans ((Cq.trans cN).fr F)⟩
   |some nd =>
    rw[hn]at q3
    obtain ⟨y,hy,rfl⟩:=q3
    obtain ⟨n1,n2,n3,n4,n5⟩:=lC.pg.tH hn
    have fq:dO 492 nd:=⟨n3,n4,n5⟩
    have DJ:=hy
    obtain ⟨b0,k1,k2,k3,k4,i1,i2,i3,i4,d1,d2,d3,d4,rfl⟩:=hy.shape
    have c120:=fun hp nx=>f120 nd _ DJ (by omega) (by omega) (by omega) hp nx
    obtain ⟨H4,Q9⟩:∃H4,H4=ab kr o6 (some [[AV.v (.bool b0),.rs k1 k2 k3 k4,.rs i1 i2 i3 i4,.rs d1 d2 d3 d4]]):=⟨_,rfl⟩
    have R7:Ro aT ar H4 (o6+1):=by rw[Q9];exact Cq.trans cN
    have UN:H4 o6=some [[AV.v (.bool b0),.rs k1 k2 k3 k4,.rs i1 i2 i3 i4,.rs d1 d2 d3 d4]]:=by simp[Q9]
    have hL4:=Mg.ah R7.le fun r hr=>R7.ah r (fN r hr)
    have mr:=Xh.trans (R7.fr F)
    have b74:H4 nx=some [[AV.str lo,.str hs,.v (.bool en)]]:=(R7.ah nx (by omega)).trans b7'
    have lP:∃j,k3.length=j/\nd.keys.length=j:=by
     obtain ⟨_,_,_,e,hh,_⟩:=DJ
     obtain ⟨_,_,_,rfl,_⟩:=hh
     cases e
     exact ⟨_,by simp,rfl⟩
    simp only
    have fin:∀tm':Nat->AV,tm' 0=.ptr ql 0 0->tm' 2=iV d->tm' 7=.ptr nx 0 0->tm' 10=.ptr o6 0 0->W (aY E) TL (sc [.t 8] fun v hp' nx'=>∃(F':List Nat) (e:Int),v=.v (.int .i64 e)/\Fr F hp nx F' hp' nx'/\match yy use f d lo (AQ en hs) nd s1 with|some s'=>e=0/\pV hp' nx' ql rt rp rd F' root pt ol s' use rootS B|none=>e=10) ⟨tm',H4,o6+1⟩:=by
     intro tm' u0 u2 u7 u10
     rw[hTL]
     refine afu (f:=f) (q:=o6) (q7:=nx) hL4 hB (fun a lo hs en ha hL=>ih (d+1) a lo hs en (by omega) (by omega) ha hL) u0 u2 (by omega) u7 u10 DJ UN b74 (by omega) (by omega) (fun e=>by have:=fN _ e;omega) h7F n1 fq fun e hp' nx' F' m fr => ?_
     exact ⟨F',e,rfl,mr.trans fr,m⟩
    obtain ⟨j,Md,NU⟩:=lP
    have hkn:nd.keys=[]↔j=0:=by rw[<-NU,zf]
    by_cases c1:1<d
    ·have xM:(1:Int)<(d:Int):=by omega
     by_cases c2:aw nd<123
     ·have xq:(aw nd:Int)<123:=by omega
      rw[if_pos (.inl ⟨c1,c2⟩)]
      simp[aa,aG,c1,xM,<-Q9,UN]
      refine ap (c120 _ _) ?_
      simp[c2,xq]
      exact ⟨F,mr⟩
     ·have xq:¬(aw nd:Int)<123:=by omega
      by_cases c3:j=0
      ·rw[if_pos (.inr (hkn.2 c3))]
       simp[aa,aG,c1,xM,<-Q9,UN]
       refine ap (c120 _ _) ?_
       simp[c2,xq,UN,Md,c3]
       exact ⟨F,mr⟩
      ·have Rh:¬(j:Int)=0:=by omega
       rw[if_neg (by rw[hkn];omega)]
       simp[aa,aG,c1,xM,<-Q9,UN]
       refine ap (c120 _ _) ?_
       simp[c2,xq,UN,Md,c3,Rh]
       exact fin _ (by simp) (by simp) (by simp) (by simp)
    ·have xM:¬(1:Int)<(d:Int):=by omega
     by_cases c3:j=0
     ·rw[if_pos (.inr (hkn.2 c3))]
      simp[aa,aG,c1,xM,<-Q9,UN,Md,c3]
      exact ⟨F,mr⟩
     ·have Rh:¬(j:Int)=0:=by omega
      rw[if_neg (by rw[hkn];omega)]
      simp[aa,aG,c1,xM,<-Q9,UN,Md,c3,Rh]
      exact fin _ (by simp) (by simp) (by simp) (by simp)
end Go.Ai
namespace Go.Ai
open Go.Bt
theorem f44 {hp nx rt rp rd F root t rootS B} (h:dE hp nx rt rp rd F root t rootS B) (hB:B<=1000000000) (use:Bool) (bZ:root<=1000000000000) :
  ∃hp' nx' F' e,aY E 44 [.ptr rt 0 0,.v (.bool use)] hp nx (iV e) hp' nx' .e/\Fr F hp nx F' hp' nx' /\
   match sf use t.p root with|some p'=>e=0/\dE hp' nx' rt rp rd F' root ⟨p',t.put,t.old⟩ rootS B|none=>e=10:=by
 have main:=an (P:=fun v hp' nx'=>∃(F':List Nat) (e:Int),v=.v (.int .i64 e)/\Fr F hp nx F' hp' nx'/\match sf use t.p root with|some p'=>e=0/\dE hp' nx' rt rp rd F' root ⟨p',t.put,t.old⟩ rootS B|none=>e=10) e44 (args:=[.ptr rt 0 0,.v (.bool use)]) rfl (hp:=hp) (nx:=nx) ?_
 ·obtain ⟨v,hp',nx',r,F',e,rfl,fr,m⟩:=main
  exact ⟨hp',nx',F',e,r,fr,m⟩
 have h0:=h
 obtain ⟨x,y,Fp,view,hI,rfl⟩:=h
 have ix:=hI.ix
 simp only[fh]at ix
 have WL:=hI.Ix
 unfold sf
 by_cases NG:root=0
 ·rw[if_pos NG]
  subst NG
  simp[c44,ix]
  exact ⟨_,.refl,h0⟩
 ·have hrI:¬(root:Int)=0:=by omega
  rw[if_neg NG]
  have bt:¬rt=nx:=by have:=hI.lt;omega
  have NM:¬rt=nx+1:=by have:=hI.lt;omega
  obtain ⟨H2,oH⟩:∃H2,H2=ab (ab hp nx (some [])) (nx+1) (some [[AV.ptr rt 0 0,.v (.bool use),.mp nx,iV 0]]):=⟨_,rfl⟩
  have nf:∀r,r<nx->H2 r=hp r:=fun r hr=>by simp[oH,show ¬r=nx by omega,show ¬r=nx+1 by omega]
  have hL:pV H2 (nx+2) (nx+1) rt rp rd ((nx+1)::nx::rt::(bf x++(bf y++Fp))) root t.put t.old ⟨t.p,[],0⟩ use rootS B :=
   ⟨nx,x,y,Fp,view,⟨hI.ah (by omega) fun r hr=>nf r (WL r hr),by simp[oH],by simp[oH],by omega,by omega,by omega,fun q=>by have:=WL _ q;omega,fun q=>by have:=WL _ q;omega⟩,rfl⟩
  obtain ⟨kr,o6,F3,e,r3,fr,m⟩:=f80 hB 12 1 root [] [] false (by omega) (by omega) bZ hL
  simp only[AQ,zK,if_false]at m
  have hc:(AV.mp nx).cells=[AV.mp nx]:=rfl
  simp[c44,ix,NG,hrI,bt,NM,aa,hc,AV.one,<-oH,nf rt hI.lt]
  refine ae (by simpa using r3) ?_
  simp
  have yV:∀F',(∀r∈F',r∈F3)->Fr (rt::(bf x++(bf y++Fp))) hp nx F' kr o6:=fun F' hs=>by
   refine ⟨by have:=fr.le;omega,fun r u1 u2 => ?_,fun r hr => ?_⟩
   ·rw[fr.ah r (by omega) fun q => ?_,nf r u1]
    rcases zH.1 q with q|q
    ·omega
    ·rcases zH.1 q with q|q
     ·omega
     ·exact u2 q
   ·rcases fr.sub r (hs r hr) with q|q
    ·rcases zH.1 q with q|q
     ·right;omega
     ·rcases zH.1 q with q|q
      ·right;omega
      ·exact .inl q
    ·right;omega
  cases hl:iG use 12 root 1 [] none ⟨t.p,[],0⟩ with
  |none =>
   rw[hl]at m
   simp only at m
   exact ⟨_,yV F3 fun r hr=>hr,m⟩
  |some s' =>
   rw[hl]at m
   obtain ⟨rfl,rm,x',y',Kg,ej,hI',rfl⟩:=m
   exact ⟨_,yV _ fun r hr=>zu _ (zu _ hr),rfl,x',y',Kg,ej,hI'.tr,rfl⟩
theorem f17 {hp nx rt rp rd F root t rootS B} (h:dE hp nx rt rp rd F root t rootS B) (hB:B<=1000000000) (bZ:root<=1000000000000) (hc:sf false t.p root=some t.p) :
  ∃hp' nx' F',aY E 17 [.ptr rt 0 0] hp nx (iV 0) hp' nx' .e/\Fr F hp nx F' hp' nx'/\dE hp' nx' rt rp rd F' root t rootS B:=by
 have main:=an (P:=fun v hp' nx'=>v=iV 0/\∃F',Fr F hp nx F' hp' nx'/\dE hp' nx' rt rp rd F' root t rootS B) e17 (args:=[.ptr rt 0 0]) rfl (hp:=hp) (nx:=nx) ?_
 ·obtain ⟨v,hp',nx',r,rfl,F',fr,m⟩:=main
  exact ⟨hp',nx',F',r,fr,m⟩
 obtain ⟨hp',nx',F',e,r,fr,m⟩:=f44 h hB false bZ
 rw[hc]at m
 obtain ⟨rfl,m⟩:=m
 simp[c17]
 refine ae (h.f35 hB) ?_
 simp
 refine ae r ?_
 simp
 exact ⟨F',fr,m⟩
theorem f13 {hp nx rp rd F p rootS view B} (h:ja hp nx rp rd F p rootS view B) (ok:eh view p.gen rootS) (hB:B<=1000000000) (root:Nat) (bZ:root<=1000000000000) :
  ∃v hp' nx' F',aY E 13 [.ptr rp 0 0,iV root] hp nx v hp' nx' .e/\Fr F hp nx F' hp' nx' /\
   match sf true p root with|some p'=>v=.bE [.ptr nx 0 0,.v (.int .i64 0)]/\dE hp' nx' nx rp rd F' root ⟨p',[],[]⟩ rootS B|none=>v=.bE [.v (.pointer none),.v (.int .i64 10)]:=by
 obtain ⟨hp1,F1,r1,h1,DQ⟩:=f15 h ok root
 obtain ⟨hp',nx',F',e,r,fr,m⟩:=f44 h1 hB true bZ
 have main:=an (P:=fun v hp' nx'=>∃F',Fr F hp nx F' hp' nx'/\match sf true p root with|some p'=>v=.bE [.ptr nx 0 0,.v (.int .i64 0)]/\dE hp' nx' nx rp rd F' root ⟨p',[],[]⟩ rootS B|none=>v=.bE [.v (.pointer none),.v (.int .i64 10)]) e13 (args:=[.ptr rp 0 0,iV root]) rfl (hp:=hp) (nx:=nx) ?_
 ·obtain ⟨v,hp',nx',r,F',fr,m⟩:=main
  exact ⟨v,hp',nx',F',r,fr,m⟩
 simp[c13]
 refine ae r1 ?_
 simp
 refine ae (h1.f35 hB) ?_
 simp
 refine ae r ?_
 cases ha:sf true p root with
 |none =>
  rw[ha]at m
  simp only at m
  subst m
  simp
  exact ⟨_,DQ.trans fr⟩
 |some p' =>
  rw[ha]at m
  obtain ⟨rfl,m⟩:=m
  simp
  exact ⟨_,DQ.trans fr,m⟩
end Go.Ai
namespace Go.Ai
open Go.Bt
theorem mS {α:Type} (p:α->Bool) {l:List α} {j:Nat} (az:j<l.length):(l.take (j+1)).filter p=(l.take j).filter p++(if p l[j]=true then [l[j]] else []):=by
 rw[zz,zA az,wU]
 congr 1
 cases h:p l[j]<;>simp[h]
theorem cq (l:List (Bs×Bs)):bl (l.map bb)=true:=by
 induction l with
 |nil=>rfl
 |cons x r ih=>simp only[wI];simp[bb];exact ih
theorem f27 (l:List (Bs×Bs)) (x:AV) (hx:eV 2 (l.map bb) x) (hl:l.length<=1000000) (k:Bs) :
  ∃y,eV 2 ((bJ k l).map bb) y/\∀hp nx,aY E 27 [x,.str k] hp nx (.bE [y,.v (.int .i64 ((l.length-(bJ k l).length:Nat):Int))]) hp nx .p:=by
 obtain ⟨nil,sz,cap,rfl,hz⟩:=id hx
 have main:=fM (P:=fun v=>∃y,eV 2 ((bJ k l).map bb) y/\v=.bE [y,.v (.int .i64 ((l.length-(bJ k l).length:Nat):Int))]) e27 (args:=[.rs nil sz (l.map bb) cap,.str k]) rfl (by simp[cq]) ?_
 ·obtain ⟨v,⟨y,h1,rfl⟩,h2⟩:=main
  exact ⟨y,h1,h2⟩
 simp[c27]
 refine aM (I:=fun (j:Nat) s=>j<=l.length/\s.tm 7=iV j/\s.tm 0=.rs nil sz (l.map bb) cap/\s.tm 1=.str k/\cT s.hp s.nx 2 ((bJ k (l.take j)).map bb) (s.tm 6))
  (fun j=>l.length-j) 0 (by simp[bJ];exact cT.nil) ?_
 rintro j tm hp nx ⟨hj,h7,h0,h1,hO⟩
 simp only at h7 h0 h1 hO
 by_cases az:j<l.length
 ·have bn:(j:Int)<(l.length:Int):=by omega
  have xe:l[j]?=some l[j]:=zA az
  have bG:=aS (n:=2) (k:=.i64) (cap:=cap) (j:=j) (cells:=bb l[j]) hz (by rw[zM,xe];rfl)
  have hw:IntKind.wrap .i64 ((j:Int)+1)=((j+1:Nat):Int):=by rw[aj]<;>omega
  have bU:bJ k (l.take (j+1))=bJ k (l.take j)++(if l[j].1=k then [] else [l[j]]):=by
   have:=mS (fun p:Bs×Bs=>decide (p.1≠k)) az
   simp only[bJ]
   rw[this]
   by_cases e:l[j].1=k<;>simp[e]
  have fq:(bJ k (l.take j)).length<=1000000:=by
   have h1:(bJ k (l.take j)).length<=(l.take j).length:=wm _ _
   rw[wD]at h1
   omega
  generalize bJ k (l.take j)=out at *
  generalize l[j]=q at *
  obtain ⟨a,b⟩:=q
  simp only[bb]at bG
  by_cases sY:a=k
  ·have EG:bJ k (l.take (j+1))=out:=by rw[bU];simp[sY]
   simp[h7,h0,h1,bn,bG,sY,hw,-ag]
   refine ⟨j+1,by omega,by omega,by omega,?_⟩
   rw[EG]
   exact hO
  ·have EG:bJ k (l.take (j+1))=out++[(a,b)]:=by rw[bU];simp[sY]
   simp[h7,h0,h1,bn,bG,sY,hw,aa,-ag]
   refine kL hO (by simp) (by simp;omega) ?_
   intro aT hn hk
   simp[h7,h0,h1,hw]
   refine ⟨j+1,by omega,by omega,by omega,?_⟩
   rw[EG]
   exact .inr ⟨nx,by omega,by simp,by rw[hn];simp[bb]⟩
 ·have:j=l.length:=by omega
  subst this
  simp only[zW]at hO
  simp[h7,h0]
  have fq:(bJ k l).length<=l.length:=wm _ _
  have hlen:=hO.len
  simp only[zZ]at hlen
  have hw:IntKind.wrap .i64 ((l.length:Int)-((bJ k l).length:Int))=((l.length-(bJ k l).length:Nat):Int):=by rw[aj]<;>omega
  simp[hlen,hw]
  obtain ⟨GP,z3,HP,h3,h4⟩:=gn (k:=3) hO (cq _)
  exact ⟨_,rM (k:=4) (by simp[h3,aq]),_,⟨GP,z3,HP,rfl,h4⟩,rfl⟩
end Go.Ai
namespace Go.Ai
open Go.Bt
theorem K4 (a b:Bs) (r:List (Bs×Bs)) (k:Bs):Bt.look ((a,b)::r) k=if a=k then some b else Bt.look r k:=by
 simp only[Bt.look,List.find?_cons]
 by_cases h:a=k<;>simp[h]
def Ew (x:Option Bs):AV:=.bE [.str (x.getD []),.v (.bool x.isSome)]
theorem f51 (l:List (Bs×Bs)) (x:AV) (hx:eV 2 (l.map bb) x) (hl:l.length<=1000000) (k:Bs) (hp nx) :
  aY E 51 [x,.str k] hp nx (Ew (Bt.look l k)) hp nx .p:=by
 obtain ⟨nil,sz,cap,rfl,hz⟩:=id hx
 refine aD e51 rfl (by simp[cq]) ?_ hp nx
 simp[c51]
 refine aM (I:=fun (j:Nat) s=>j<=l.length/\s.tm 6=iV j/\s.tm 0=.rs nil sz (l.map bb) cap/\s.tm 1=.str k/\Bt.look l k=Bt.look (l.drop j) k)
  (fun j=>l.length-j) 0 (by simp) ?_
 rintro j tm hp nx ⟨hj,h7,h0,h1,hO⟩
 simp only at h7 h0 h1 hO
 by_cases az:j<l.length
 ·have bn:(j:Int)<(l.length:Int):=by omega
  have xe:l[j]?=some l[j]:=zA az
  have bG:=aS (n:=2) (k:=.i64) (cap:=cap) (j:=j) (cells:=bb l[j]) hz (by rw[zM,xe];rfl)
  have hw:IntKind.wrap .i64 ((j:Int)+1)=((j+1:Nat):Int):=by rw[aj]<;>omega
  rw[zO az]at hO
  generalize l[j]=q at *
  obtain ⟨a,b⟩:=q
  rw[K4]at hO
  simp only[bb]at bG
  by_cases sY:a=k
  ·rw[if_pos sY]at hO
   simp[h7,h0,h1,bn,bG,sY,hw,-ag,hO,Ew]
   exact aq (by simp)
  ·rw[if_neg sY]at hO
   simp[h7,h0,h1,bn,bG,sY,hw,-ag]
   exact ⟨j+1,by omega,by omega,by omega,hO⟩
 ·have:j=l.length:=by omega
  subst this
  have hN:Bt.look l k=none:=by rw[hO,wu];rfl
  simp[h7,h0,hN,Ew]
  exact aq (by simp)
theorem f33 (a b:List (Bs×Bs)) (x y:AV) (hx:eV 2 (a.map bb) x) (hy:eV 2 (b.map bb) y) (hl:a.length<=1000000) (Az:b.length<=1000000) (hp nx) :
  aY E 33 [x,y] hp nx (.v (.bool (decide (a=b)))) hp nx .p:=by
 obtain ⟨nil,sz,cap,rfl,hz⟩:=id hx
 obtain ⟨aef,sz2,acg,rfl,V5⟩:=id hy
 refine aD e33 rfl (by simp[cq]) ?_ hp nx
 by_cases hlen:a.length=b.length
 ·simp[c33,hlen]
  refine aM (I:=fun (j:Nat) s=>j<=a.length/\s.tm 5=iV j/\s.tm 0=.rs nil sz (a.map bb) cap/\s.tm 1=.rs aef sz2 (b.map bb) acg/\(a=b↔a.drop j=b.drop j))
   (fun j=>a.length-j) 0 (by simp) ?_
  rintro j tm hp nx ⟨hj,h7,h0,h1,hO⟩
  simp only at h7 h0 h1 hO
  by_cases az:j<a.length
  ·have bn:(j:Int)<(a.length:Int):=by omega
   have fN:j<b.length:=by omega
   have xe:a[j]?=some a[j]:=zA az
   have ae3:b[j]?=some b[j]:=zA fN
   have bG:=aS (n:=2) (k:=.i64) (cap:=cap) (j:=j) (cells:=bb a[j]) hz (by rw[zM,xe];rfl)
   have nh:=aS (n:=2) (k:=.i64) (cap:=acg) (j:=j) (cells:=bb b[j]) V5 (by rw[zM,ae3];rfl)
   have hw:IntKind.wrap .i64 ((j:Int)+1)=((j+1:Nat):Int):=by rw[aj]<;>omega
   rw[zO az,zO fN,List.cons.injEq]at hO
   generalize a[j]=q at *
   generalize b[j]=q2 at *
   obtain ⟨k1,v1⟩:=q
   obtain ⟨k2,v2⟩:=q2
   simp only[bb]at bG nh
   rw[zPi]at hO
   by_cases hk:k1=k2
   ·by_cases hv:v1=v2
    ·simp[h7,h0,h1,bn,bG,nh,hw,hk,hv,-ag]
     refine ⟨j+1,by omega,by omega,by omega,?_⟩
     rw[hO];simp[hk,hv]
    ·have:¬a=b:=by rw[hO];simp[hv]
     simp[h7,h0,h1,bn,bG,nh,hw,hk,hv,-ag,this]
   ·have:¬a=b:=by rw[hO];simp[hk]
    simp[h7,h0,h1,bn,bG,nh,hw,hk,-ag,this]
  ·have:j=a.length:=by omega
   subst this
   have:a=b:=by rw[hO];simp[hlen]
   simp[h7,h0,this]
 ·have hI:¬(a.length:Int)=(b.length:Int):=by omega
  have:¬a=b:=fun e=>hlen (by rw[e])
  simp[c33,hlen,hI,this]
end Go.Ai
namespace Go.Ai
open Go.Bt
theorem pH (a b:Bs):(al b a||decide (a=b)) = !al a b:=by
 have h1:=jr a b
 by_cases h:a=b
 ·subst h;simp[bc]
 ·cases h2:al a b<;>cases h3:al b a<;>simp_all
theorem nM (a b:Bs):(al b a||decide (b=a)) = !al a b:=by
 rw[<-pH]
 congr 1
 exact decide_eq_decide.2 ⟨Eq.symm,Eq.symm⟩
def gW (k v:Bs) (l:List (Bs×Bs)):List (Bs×Bs)×Nat:=if 60<k.length then (l,2) else if 60000<v.length then (l,4) else (gC k v l false,0)
theorem f84 (l:List (Bs×Bs)) (x:AV) (hx:eV 2 (l.map bb) x) (hl:l.length<=1000000) (k v:Bs) :
  ∃y,eV 2 ((gW k v l).1.map bb) y/\∀hp nx,aY E 84 [x,.str k,.str v] hp nx (.bE [y,.v (.int .i64 ((gW k v l).2:Int))]) hp nx .p:=by
 have kN:=hx
 obtain ⟨nil,sz,cap,rfl,hz⟩:=id hx
 have main:=fM (P:=fun w=>∃y,eV 2 ((gW k v l).1.map bb) y/\w=.bE [y,.v (.int .i64 ((gW k v l).2:Int))]) e84 (args:=[.rs nil sz (l.map bb) cap,.str k,.str v]) rfl (by simp[cq]) ?_
 ·obtain ⟨v,⟨y,h1,rfl⟩,h2⟩:=main
  exact ⟨y,h1,h2⟩
 unfold gW
 by_cases c1:60<k.length
 ·have xM:(60:Int)<(k.length:Int):=by omega
  rw[if_pos c1]
  simp[c84,c1,xM]
  exact ⟨_,aq (by simp[cq]),_,kN,rfl⟩
 ·have xM:¬(60:Int)<(k.length:Int):=by omega
  rw[if_neg c1]
  by_cases c2:60000<v.length
  ·have xq:(60000:Int)<(v.length:Int):=by omega
   rw[if_pos c2]
   simp[c84,c1,xM,c2,xq]
   exact ⟨_,aq (by simp[cq]),_,kN,rfl⟩
  ·have xq:¬(60000:Int)<(v.length:Int):=by omega
   rw[if_neg c2]
   simp[c84,c1,xM,c2,xq]
   refine aM (I:=fun (g:Nat×Bool×List (Bs×Bs)) s=>g.1<=l.length/\s.tm 10=iV g.1/\s.tm 0=.rs nil sz (l.map bb) cap/\s.tm 1=.str k/\s.tm 2=.str v/\s.tm 9=.v (.bool g.2.1)/\cT s.hp s.nx 2 (g.2.2.map bb) (s.tm 8) /\
     gC k v l false=g.2.2++gC k v (l.drop g.1) g.2.1/\g.2.2.length<=2*g.1) (fun g=>l.length-g.1) (0,false,[]) (by simp;exact cT.nil) ?_
   rintro ⟨j,put,out⟩ tm hp nx ⟨hj,t10,t0,t1,t2,t9,hO,hR,T0⟩
   simp only at hj t10 t0 t1 t2 t9 hO hR T0
   by_cases az:j<l.length
   ·have bn:(j:Int)<(l.length:Int):=by omega
    have xe:l[j]?=some l[j]:=zA az
    have bG:=aS (n:=2) (k:=.i64) (cap:=cap) (j:=j) (cells:=bb l[j]) hz (by rw[zM,xe];rfl)
    have hw:IntKind.wrap .i64 ((j:Int)+1)=((j+1:Nat):Int):=by rw[aj]<;>omega
    rw[zO az]at hR
    generalize l[j]=q at *
    obtain ⟨a,b⟩:=q
    simp only[bb]at bG
    simp only[gC]at hR
    cases put with
    |true =>
     by_cases sY:a=k
     ·simp[sY]at hR
      simp[t10,t0,t1,t2,t9,bn,bG,sY,hw,-ag,-Prod.exists,-Bool.exists_bool]
      exact ⟨(j+1,true,out),by simp only;omega,by simp only;omega,rfl,rfl,hO,hR,by simp only;omega⟩
     ·simp[sY]at hR
      simp[t10,t0,t1,t2,t9,bn,bG,sY,hw,aa,-ag,-Prod.exists,-Bool.exists_bool]
      refine kL hO (by simp) (by simp;omega) ?_
      intro aT hn hk
      simp[t10,t0,t1,t2,t9,hw,-Prod.exists,-Bool.exists_bool]
      refine ⟨(j+1,true,out++[(a,b)]),by simp only;omega,by simp only;omega,rfl,rfl,.inr ⟨nx,by omega,by simp,by rw[hn];simp[bb]⟩,by rw[hR];simp,by simp;omega⟩
    |false =>
     cases N6:al a k with
     |true =>
      have sY:¬a=k:=mu N6
      simp[sY,N6]at hR
      simp[t10,t0,t1,t2,t9,bn,bG,sY,N6,pH,nM,hw,aa,-ag,-Prod.exists,-Bool.exists_bool]
      refine kL hO (by simp) (by simp;omega) ?_
      intro aT hn hk
      simp[t10,t0,t1,t2,t9,hw,-Prod.exists,-Bool.exists_bool]
      refine ⟨(j+1,false,out++[(a,b)]),by simp only;omega,by simp only;omega,rfl,rfl,.inr ⟨nx,by omega,by simp,by rw[hn];simp[bb]⟩,by rw[hR];simp,by simp;omega⟩
     |false =>
      by_cases sY:a=k
      ·simp[sY,bc]at hR
       subst sY
       simp[t10,t0,t1,t2,t9,bn,bG,bc,pH,nM,hw,aa,-ag,-Prod.exists,-Bool.exists_bool]
       refine kL hO (by simp) (by simp;omega) ?_
       intro aT hn hk
       simp[t10,t0,t1,t2,t9,bG,hw,-ag,-Prod.exists,-Bool.exists_bool]
       refine ⟨(j+1,true,out++[(a,v)]),by simp only;omega,by simp only;omega,rfl,rfl,.inr ⟨nx,by omega,by simp,by rw[hn];simp[bb]⟩,by rw[hR];simp,by simp;omega⟩
      ·simp[sY,N6]at hR
       simp[t10,t0,t1,t2,t9,bn,bG,sY,N6,pH,nM,hw,aa,-ag,-Prod.exists,-Bool.exists_bool]
       refine kL hO (by simp) (by simp;omega) ?_
       intro aT hn hk
       simp[t10,t0,t1,t2,t9,bG,sY,hw,aa,-ag,-Prod.exists,-Bool.exists_bool]
       refine kL (nx:=nx+1) (es:=out.map bb++[[.str k,.str v]]) (.inr ⟨nx,by omega,by simp,hn⟩) (by simp) (by simp;omega) ?_
       intro kr YC hk3
       simp[t10,t0,t1,t2,t9,hw,-Prod.exists,-Bool.exists_bool]
       refine ⟨(j+1,true,out++[(k,v),(a,b)]),by simp only;omega,by simp only;omega,rfl,rfl,.inr ⟨nx+1,by omega,by simp,by rw[YC];simp[bb]⟩,by rw[hR];simp,by simp;omega⟩
   ·have:j=l.length:=by omega
    subst this
    rw[wu]at hR
    cases put with
    |true =>
     simp[gC]at hR
     subst hR
     simp[t10,t0,t1,t2,t9]
     obtain ⟨GP,z3,HP,h3,h4⟩:=gn (k:=3) hO (cq _)
     exact ⟨_,rM (k:=4) (by simp[h3,aq]),_,⟨GP,z3,HP,rfl,h4⟩,rfl⟩
    |false =>
     simp[gC]at hR
     simp[t10,t0,t1,t2,t9,aa]
     refine kL hO (by simp) (by simp;omega) ?_
     intro aT hn hk
     simp[t10,t0,t1,t2,t9]
     have hO2:cT aT (nx+1) 2 ((gC k v l false).map bb) (.sl nx 2 0 (out.length+1) none):=.inr ⟨nx,by omega,by rw[hR];simp,by rw[hn,hR];simp[bb]⟩
     obtain ⟨GP,z3,HP,h3,h4⟩:=gn (k:=3) hO2 (cq _)
     exact ⟨_,rM (k:=4) (by simp[h3,aq]),_,⟨GP,z3,HP,rfl,h4⟩,rfl⟩
end Go.Ai
namespace Go.Ai
open Go.Bt
def fB (lo hi:Bs) (aI:Int) (l:List (Bs×Bs)):List (Bs×Bs):=(l.filter fun p=>mc lo hi p.1).take (min aI 20000).toNat
theorem f52 (l:List (Bs×Bs)) (x:AV) (hx:eV 2 (l.map bb) x) (hl:l.length<=1000000) (lo hi:Bs) (aI:Int) :
  ∃y,eV 2 ((fB lo hi aI l).map bb) y/\∀hp nx,aY E 52 [x,.str lo,.str hi,iV aI] hp nx y hp nx .p:=by
 obtain ⟨nil,sz,cap,rfl,hz⟩:=id hx
 refine fM e52 rfl (by simp[cq]) ?_
 simp[c52]
 refine aM (I:=fun (j:Nat) s=>j<=l.length/\s.tm 10=iV j/\s.tm 0=.rs nil sz (l.map bb) cap/\s.tm 1=.str lo/\s.tm 2=.str hi/\s.tm 3=iV aI/\cT s.hp s.nx 2 (((l.take j).filter fun p=>mc lo hi p.1).map bb) (s.tm 9) /\
   ((l.take j).filter fun p=>mc lo hi p.1).length<=(min aI 20000).toNat) (fun j=>l.length-j) 0 (by simp;exact cT.nil) ?_
 rintro j tm hp nx ⟨hj,iC,h0,h1,h2,h3,hO,T0⟩
 simp only at iC h0 h1 h2 h3 hO T0
 have hlen:=hO.len
 simp only[zZ]at hlen
 have fin:∀out,out=((l.take j).filter fun p=>mc lo hi p.1)->(j=l.length\/(min aI 20000).toNat<=out.length)->cT hp nx 2 (out.map bb) (tm 9)->∃v,kh 6 hp (tm 9)=some v/\eV 2 ((fB lo hi aI l).map bb) v:=by
  intro out ho hc hO
  have e:fB lo hi aI l=out:=by
   unfold fB
   rcases hc with rfl|hc
   ·rw[zW]at ho
    rw[<-ho]
    exact zI (by rw[ho];rw[zW]at T0;exact T0)
   ·have h1:=zy j l
    have h2:(l.filter fun p=>mc lo hi p.1)=out++((l.drop j).filter fun p=>mc lo hi p.1):=by rw[ho,<-wU,h1]
    rw[h2]
    have h3:out.length=(min aI 20000).toNat:=by rw[<-ho]at T0;omega
    rw[<-h3,qY]
  obtain ⟨GP,z3,HP,h3,h4⟩:=gn (k:=4) hO (cq _)
  exact ⟨_,h3,GP,z3,HP,by rw[e],by rw[e];exact h4⟩
 have bU:=fun az=>mS (fun p:Bs×Bs=>mc lo hi p.1) (l:=l) (j:=j) az
 generalize ho:((l.take j).filter fun p=>mc lo hi p.1)=out at *
 by_cases az:j<l.length
 ·have bn:(j:Int)<(l.length:Int):=by omega
  have xe:l[j]?=some l[j]:=zA az
  have bG:=aS (n:=2) (k:=.i64) (cap:=cap) (j:=j) (cells:=bb l[j]) hz (by rw[zM,xe];rfl)
  have hw:IntKind.wrap .i64 ((j:Int)+1)=((j+1:Nat):Int):=by rw[aj]<;>omega
  have bU:=bU az
  generalize l[j]=q at *
  obtain ⟨a,b⟩:=q
  simp only[bb]at bG
  simp only at bU
  by_cases c1:(out.length:Int)<aI
  ·by_cases c2:(out.length:Int)<20000
   ·have Zd:out.length<20000:=by omega
    have uL:out.length+1<=(min aI 20000).toNat:=by omega
    cases c3:al a lo with
    |true =>
     have ng:mc lo hi a=false:=by simp[mc,c3]
     rw[ng]at bU
     simp at bU
     simp[iC,h0,h1,h2,h3,hlen,bn,c1,c2,Zd,bG,c3,pH,nM,hw,-ag]
     refine ⟨j+1,by omega,by omega,by omega,?_,?_⟩
     ·rw[bU];exact hO
     ·rw[bU];exact T0
    |false =>
     by_cases c4:hi=[]
     ·subst c4
      have ng:mc lo [] a=true:=by simp[mc,c3]
      rw[ng]at bU
      simp at bU
      simp[iC,h0,h1,h2,h3,hlen,bn,c1,c2,Zd,bG,c3,pH,nM,hw,aa,-ag]
      refine kL hO (by simp) (by simp;omega) ?_
      intro aT hn hk
      simp[iC,h0,h1,h2,h3,hw]
      refine ⟨j+1,by omega,by omega,by omega,?_,?_⟩
      ·rw[bU];exact .inr ⟨nx,by omega,by simp,by rw[hn];simp[bb]⟩
      ·rw[bU];simp;omega
     ·cases c5:al a hi with
      |true =>
       have ng:mc lo hi a=true:=by simp[mc,c3,c5]
       rw[ng]at bU
       simp at bU
       simp[iC,h0,h1,h2,h3,hlen,bn,c1,c2,Zd,bG,c3,c4,c5,pH,nM,hw,aa,-ag]
       refine kL hO (by simp) (by simp;omega) ?_
       intro aT hn hk
       simp[iC,h0,h1,h2,h3,hw]
       refine ⟨j+1,by omega,by omega,by omega,?_,?_⟩
       ·rw[bU];exact .inr ⟨nx,by omega,by simp,by rw[hn];simp[bb]⟩
       ·rw[bU];simp;omega
      |false =>
       have ng:mc lo hi a=false:=by simp[mc,c3,c4,c5]
       rw[ng]at bU
       simp at bU
       simp[iC,h0,h1,h2,h3,hlen,bn,c1,c2,Zd,bG,c3,c4,c5,pH,nM,hw,-ag]
       refine ⟨j+1,by omega,by omega,by omega,?_,?_⟩
       ·rw[bU];exact hO
       ·rw[bU];exact T0
   ·have Zd:¬out.length<20000:=by omega
    simp[iC,h0,h1,h2,h3,hlen,bn,c1,c2,Zd]
    exact fin out rfl (.inr (by omega)) hO
  ·simp[iC,h0,h1,h2,h3,hlen,bn,c1]
   exact fin out rfl (.inr (by omega)) hO
 ·have:j=l.length:=by omega
  simp[iC,h0,h1,h2,h3,this]
  exact fin out rfl (.inl this) hO
end Go.Ai
namespace Go.Ai
open Go.Bt
structure Act where
 kind:Int
 k:Bs
 v:Bs
 n:Int
def fI (a:Act):List AV:=[iV a.kind,.str a.k,.str a.v,iV a.n]
def Act.value (a:Act):Bs:=a.v++(List.replicate (min a.n 300).toNat a.v).flatten
theorem pS (l:List Act):bl (l.map fI)=true:=by
 induction l with
 |nil=>rfl
 |cons x r ih=>simp only[wI];simp[fI];exact ih
theorem Ik (j:Nat) (v:Bs):(List.replicate j v).flatten.length=j*v.length:=by
 simp
def tw (a:Act):Prop:=a.v.length+(min a.n 300).toNat*a.v.length<=9223372036854775807
theorem f49 (a:Act) (hv:tw a) (hp nx):aY E 49 [.agg (fI a)] hp nx (.str a.value) hp nx .p:=by
 refine aD e49 rfl (by simp[fI]) ?_ hp nx
 simp[c49,fI]
 refine aM (I:=fun (j:Nat) s=>j<=(min a.n 300).toNat/\s.tm 4=iV j/\s.tm 3=.str (List.replicate j a.v).flatten/\s.tm 1=.ptr 0 0 0/\s.hp 0=some [fI a])
  (fun j=>(min a.n 300).toNat-j) 0 (by simp[fI]) ?_
 rintro j tm hp nx ⟨hj,t4,t3,t1,h0⟩
 simp only at t4 t3 t1 h0
 simp only[fI]at h0
 have EP:min a.n 300=(if a.n<=300 then a.n else 300):=by omega
 by_cases az:j<(min a.n 300).toNat
 ·have bn:(j:Int)<min a.n 300:=by omega
  have WM:(j:Int)<a.n/\(j:Int)<300:=by omega
  have hw:IntKind.wrap .i64 ((j:Int)+1)=((j+1:Nat):Int):=by rw[aj]<;>omega
  have hl:=Ik j a.v
  have Az:(List.replicate j a.v).flatten.length+a.v.length<=9223372036854775807:=by
   rw[hl]
   have:(j+1)*a.v.length<=(min a.n 300).toNat*a.v.length:=zX _ (by omega)
   rw[ze,Nat.one_mul]at this
   unfold tw at hv
   omega
  have R8:(List.replicate (j+1) a.v).flatten=(List.replicate j a.v).flatten++a.v:=by
   rw[List.replicate_succ'];simp
  generalize (List.replicate j a.v).flatten=s at *
  simp[t4,t3,t1,h0,bn,WM,Az,hw]
  exact ⟨j+1,by omega,by omega,by omega,R8.symm,rfl⟩
 ·have YE:j=(min a.n 300).toNat:=by omega
  have bn:¬(j:Int)<min a.n 300:=by omega
  have WM:¬((j:Int)<a.n/\(j:Int)<300):=by omega
  have hl:=Ik j a.v
  have Az:a.v.length+(List.replicate j a.v).flatten.length<=9223372036854775807:=by
   rw[hl,YE]
   exact hv
  have G6:a.value=a.v++(List.replicate j a.v).flatten:=by rw[Act.value,YE]
  generalize (List.replicate j a.v).flatten=s at *
  simp[t4,t3,t1,h0,bn,WM,Az,G6]
theorem U3 {a:Act} (h1:a.v.length<=9223372036854775807) (h2:a.v.length<100000\/a.n<=0):tw a:=by
 unfold tw
 rcases h2 with h2|h2
 ·have:(min a.n 300).toNat*a.v.length<=300*100000:=qu (by omega) (by omega)
  omega
 ·rw[show (min a.n 300).toNat=0 by omega]
  omega
theorem f22 (l:List Act) (x:AV) (hx:eV 4 (l.map fI) x) (hs:∀a∈l,a.v.length<=9223372036854775807) :
  ∃b:Bool,(b=true->l.length<=100/\∀a∈l,tw a)/\∀hp nx,aY E 22 [x] hp nx (.v (.bool b)) hp nx .p:=by
 obtain ⟨nil,sz,cap,rfl,hz⟩:=id hx
 have main:=fM (P:=fun w=>∃b:Bool,w=.v (.bool b)/\(b=true->l.length<=100/\∀a∈l,tw a)) e22 (args:=[.rs nil sz (l.map fI) cap]) rfl (by simp[pS]) ?_
 ·obtain ⟨v,⟨b,rfl,h1⟩,h2⟩:=main
  exact ⟨b,h1,h2⟩
 by_cases c2:l.length<=100
 ·have xq:(l.length:Int)<=100:=by omega
  simp[c22]
  refine aM (I:=fun (g:Nat×Nat) s=>g.1<=l.length/\l.length<=g.2/\g.2<=1000+g.1*40000000/\s.tm 4=iV g.1/\s.tm 3=iV g.2/\s.tm 0=.rs nil sz (l.map fI) cap /\
    ∀i (hi:i<g.1) (iM:i<l.length),200000<g.2\/l[i].v.length<100000\/l[i].n<=0) (fun g=>l.length-g.1) (0,l.length) (by simp;omega) ?_
  rintro ⟨j,n⟩ tm hp nx ⟨hj,EO,hn,t4,t3,t0,hal⟩
  simp only at hj EO hn t4 t3 t0 hal
  by_cases az:j<l.length
  ·have bn:(j:Int)<(l.length:Int):=by omega
   have xe:l[j]?=some l[j]:=zA az
   have bG:=aS (n:=4) (k:=.i64) (cap:=cap) (j:=j) (cells:=fI l[j]) hz (by rw[zM,xe];rfl)
   have hw:IntKind.wrap .i64 ((j:Int)+1)=((j+1:Nat):Int):=by rw[aj]<;>omega
   have cV:∀n',n<=n'->(200000<n'\/l[j].v.length<100000\/l[j].n<=0)->∀i (hi:i<j+1) (iM:i<l.length),200000<n'\/l[i].v.length<100000\/l[i].n<=0:=fun n' h1 h2 i hi iM=>by
    by_cases yU:i=j
    ·subst yU;exact h2
    ·exact (hal i (by omega) iM).imp (by omega) id
   generalize l[j]=a at *
   simp only[fI]at bG
   have c1:j<=100:=by omega
   have xM:(j:Int)<=100:=by omega
   obtain ⟨e,he,Sn⟩:∃e:Nat,(e:Int)=1+max 0 (min a.n 300)/\e<=301:=⟨(1+max 0 (min a.n 300)).toNat,by omega,by omega⟩
   have w1:IntKind.wrap .i64 (1+max 0 (min a.n 300))=(e:Int):=by rw[aj]<;>omega
   have hm:min a.v.length 100000*e<=30100000:=qu (Nat.min_le_right _ _) Sn
   have abo:200000<=min a.v.length 100000*e\/a.v.length<100000\/a.n<=0:=by
    by_cases d1:a.v.length<100000
    ·exact .inr (.inl d1)
    ·by_cases d2:a.n<=0
     ·exact .inr (.inr d2)
     ·left
      have:100000*2<=min a.v.length 100000*e:=qu (by omega) (by omega)
      omega
   have w2:IntKind.wrap .i64 (min (a.v.length:Int) 100000*(e:Int))=((min a.v.length 100000*e:Nat):Int):=by
    have hc:((min a.v.length 100000*e:Nat):Int)=min (a.v.length:Int) 100000*(e:Int):=by rw[Int.natCast_mul];congr 1;omega
    rw[<-hc,aj]<;>omega
   have w3:IntKind.wrap .i64 ((n:Int)+min (a.k.length:Int) 10000)=((n+min a.k.length 10000:Nat):Int):=by rw[aj]<;>omega
   generalize hq:min a.v.length 100000*e=q at *
   have w4:IntKind.wrap .i64 (((n+min a.k.length 10000:Nat):Int)+(q:Int))=((n+min a.k.length 10000+q:Nat):Int):=by rw[aj]<;>omega
   have mK:=cV (n+min a.k.length 10000+q) (by omega) (abo.imp (by omega) id)
   simp[t4,t3,t0,bn,bG,c1,xM,w1,w2,w3,w4,hw,-ag,-Prod.exists,-Int.natCast_add]
   exact ⟨(j+1,n+min a.k.length 10000+q),by simp only;omega,by simp only;omega,by simp only;omega,by simp only;omega,rfl,rfl,mK⟩
  ·have:j=l.length:=by omega
   subst this
   by_cases c3:n<=200000
   ·have Rh:(n:Int)<=200000:=by omega
    have jc:∀a∈l,tw a:=fun a ha=>by
     obtain ⟨i,hi,rfl⟩:=zY ha
     exact U3 (hs _ ha) ((hal i hi hi).resolve_left (by omega))
    simp[t4,t3,t0,c2,xq,c3,Rh]
    exact jc
   ·have Rh:¬(n:Int)<=200000:=by omega
    simp[t4,t3,t0,c2,xq,c3,Rh]
 ·have xq:¬(l.length:Int)<=100:=by omega
  simp[c22]
  refine aM (I:=fun (j:Nat) s=>j<=101/\s.tm 4=iV j/\(∃z:Int,s.tm 3=iV z)/\s.tm 0=.rs nil sz (l.map fI) cap) (fun j=>101-j) 0 (by simp) ?_
  rintro j tm hp nx ⟨hj,t4,⟨z,t3⟩,t0⟩
  simp only at hj t4 t3 t0
  have az:j<l.length\/j=101:=by omega
  by_cases c1:j<=100
  ·have az:j<l.length:=by omega
   have bn:(j:Int)<(l.length:Int):=by omega
   have xM:(j:Int)<=100:=by omega
   have xe:l[j]?=some l[j]:=zA az
   have bG:=aS (n:=4) (k:=.i64) (cap:=cap) (j:=j) (cells:=fI l[j]) hz (by rw[zM,xe];rfl)
   have hw:IntKind.wrap .i64 ((j:Int)+1)=((j+1:Nat):Int):=by rw[aj]<;>omega
   generalize l[j]=a at *
   simp only[fI]at bG
   simp[t4,t3,t0,bn,bG,c1,xM,hw,-ag,-Int.natCast_add]
   exact ⟨j+1,by omega,by omega,rfl⟩
  ·have xM:¬(j:Int)<=100:=by omega
   by_cases az:j<l.length
   ·have bn:(j:Int)<(l.length:Int):=by omega
    simp[t4,t3,t0,bn,c1,xM,c2,xq]
   ·have bn:¬(j:Int)<(l.length:Int):=by omega
    simp[t4,t3,t0,bn,c1,xM,c2,xq]
end Go.Ai
namespace Go.Ai
open Go.Bt
theorem afx {hp:Heap} {nx q4 q5 q6 q7 fU q12:Nat} {aI:Int} (hm:aI<0) (h7:hp q7=some [[iV aI]]) (vM:hp fU=some [[nS]]) (root:Nat) :
  ∃hp' nx',aY E 39 [iV root,iV 0,.ptr fU 0 0,.ptr q7 0 0,.ptr q4 0 0,.ptr q5 0 0,.ptr q6 0 0,.ptr q12 0 0] hp nx (iV 0) hp' nx' .e/\Ro hp nx hp' nx':=by
 have main:=an (P:=fun v hp' nx'=>v=iV 0/\Ro hp nx hp' nx') e39 (args:=[iV root,iV 0,.ptr fU 0 0,.ptr q7 0 0,.ptr q4 0 0,.ptr q5 0 0,.ptr q6 0 0,.ptr q12 0 0]) rfl (hp:=hp) (nx:=nx) ?_
 ·obtain ⟨v,hp',nx',h1,rfl,h2⟩:=main
  exact ⟨hp',nx',h1,h2⟩
 by_cases ha:root=0
 ·subst ha
  simp[c39]
  exact .refl
 ·have Hq:¬(root:Int)=0:=by omega
  have DM:aI<=0:=by omega
  simp[c39,ha,Hq,vM,h7,DM]
  exact .refl
theorem afA {hp nx rt rp rd F p rootS view B} (h:Gg hp nx rt rp rd F p rootS view B) {root:Nat} (hr:FU hp rt rp root) (lo hi:Bs) {aI:Int} (hm:aI<0) :
  ∃hp' nx',aY E 11 [.ptr rt 0 0,.str lo,.str hi,iV aI] hp nx (.bE [nS,iV 0]) hp' nx' .e/\Ro hp nx hp' nx':=by
 have main:=an (P:=fun v hp' nx'=>v=.bE [nS,iV 0]/\Ro hp nx hp' nx') e11 (args:=[.ptr rt 0 0,.str lo,.str hi,iV aI]) rfl (hp:=hp) (nx:=nx) ?_
 ·obtain ⟨v,hp',nx',h1,rfl,h2⟩:=main
  exact ⟨hp',nx',h1,h2⟩
 have EP:min aI 20000=aI:=by omega
 have Nz:=h.lt
 obtain ⟨H1,fw⟩:∃H1,H1=ab (ab (ab (ab hp nx (some [[.ptr rt 0 0]])) (nx+1) (some [[.str lo]])) (nx+1+1) (some [[.str hi]])) (nx+1+1+1) (some [[iV aI]]):=⟨_,rfl⟩
 have cX:Ro hp nx H1 (nx+1+1+1+1):=⟨by omega,fun r hr=>by simp[fw,show ¬r=nx by omega,show ¬r=nx+1 by omega,show ¬r=nx+1+1 by omega,show ¬r=nx+1+1+1 by omega]⟩
 have a4:H1 nx=some [[.ptr rt 0 0]]:=by simp[fw,show ¬nx=nx+1+1 by omega,show ¬nx=nx+1+1+1 by omega]
 have a7:H1 (nx+1+1+1)=some [[iV aI]]:=by simp[fw]
 obtain ⟨cc,hc⟩:=hr.row
 obtain ⟨H2,oH⟩:∃H2,H2=ab (ab (ab H1 (nx+1+1+1) (some [[iV aI]])) (nx+1+1+1+1) (some [[nS]])) (nx+1+1+1+1+1) (some [[.fn (.func 39) [] [.ptr (nx+1+1+1+1) 0 0,.ptr (nx+1+1+1) 0 0,.ptr nx 0 0,.ptr (nx+1) 0 0,.ptr (nx+1+1) 0 0,.ptr (nx+1+1+1+1+1) 0 0]]]):=⟨_,rfl⟩
 have iK:Ro hp nx H2 (nx+1+1+1+1+1+1):=⟨by omega,fun r hr=>by simp[oH,show ¬r=nx+1+1+1 by omega,show ¬r=nx+1+1+1+1 by omega,show ¬r=nx+1+1+1+1+1 by omega];exact cX.ah r hr⟩
 have b4:H2 nx=some [[.ptr rt 0 0]]:=by simp[oH,show ¬nx=nx+1+1+1 by omega,show ¬nx=nx+1+1+1+1 by omega,show ¬nx=nx+1+1+1+1+1 by omega,a4]
 have b7:H2 (nx+1+1+1)=some [[iV aI]]:=by simp[oH,show ¬nx+1+1+1=nx+1+1+1+1+1 by omega]
 have b11:H2 (nx+1+1+1+1)=some [[nS]]:=by simp[oH]
 have b12:H2 (nx+1+1+1+1+1)=some [[.fn (.func 39) [] [.ptr (nx+1+1+1+1) 0 0,.ptr (nx+1+1+1) 0 0,.ptr nx 0 0,.ptr (nx+1) 0 0,.ptr (nx+1+1) 0 0,.ptr (nx+1+1+1+1+1) 0 0]]]:=by simp[oH]
 obtain ⟨oB,rF,r5,KA⟩:=afx (q4:=nx) (q5:=nx+1) (q6:=nx+1+1) (q12:=nx+1+1+1+1+1) hm b7 b11 root (nx:=nx+1+1+1+1+1+1)
 have afJ:oB (nx+1+1+1+1)=some [[nS]]:=(KA.ah _ (by omega)).trans b11
 simp[c11,<-fw,a4]
 refine ae (f35 (h.ro cX)) ?_
 have c2:H2 rt=some [.ptr rp 0 0::iV root::cc]:=(iK.ah rt Nz).trans hc
 have c1:H1 rt=some [.ptr rp 0 0::iV root::cc]:=(cX.ah rt Nz).trans hc
 simp[a7,a4,EP,aa,aG,show ¬nx=nx+1+1+1 by omega,show ¬nx=nx+1+1+1+1 by omega,show ¬nx=nx+1+1+1+1+1 by omega,c1,show ¬rt=nx+1+1+1 by omega,show ¬rt=nx+1+1+1+1 by omega,show ¬rt=nx+1+1+1+1+1 by omega,<-oH]
 simp[b12,b4,c2]
 refine ae (by simpa using r5) ?_
 simp[afJ]
 exact iK.trans KA
end Go.Ai
namespace Go.Ai
open Go.Bt
theorem x8 (k v:Bs):∀(l:List (Bs×Bs)) (put:Bool),(gC k v l put).length<=l.length+(if put=true then 0 else 1)
 |[],put=>by cases put<;>simp[gC]
 |p::r,put=>by
  have h1:=x8 k v r (put || !al p.1 k)
  simp only[gC,zG,zV]
  generalize al p.1 k=b at h1 ⊢
  by_cases he:p.1=k<;>cases put<;>cases b<;>simp[he]at h1 ⊢<;>omega
theorem GF (k v:Bs) (l:List (Bs×Bs)):(gW k v l).1.length<=l.length+1:=by
 unfold gW
 split
 ·simp
 ·split
  ·simp
  ·simpa using x8 k v l false
theorem KD (k v:Bs) (l:List (Bs×Bs)):(gW k v l).2≠6:=by
 unfold gW
 split
 ·simp
 ·split<;>simp
theorem Be (k:Bs) (l:List (Bs×Bs)):(bJ k l).length<=l.length:=wm _ _
theorem xC {p:PM} {root l du cJ} (h:Inv p root l du cJ) (key value:Bs) :
  ∃e p' root',uE key value p root=(e,p',root')/\Step p p' /\
   ((e=6/\root'=root/\p'.free=p.free/\Inv p' root l du cJ/\p.free+1<=lh value+2*dQ p.read 12 1 root+3)\/(e=(gW key value l).2/\Inv p' root' (gW key value l).1 du cJ)):=by
 unfold uE gW
 by_cases c1:60<key.length
 ·rw[if_pos c1,if_pos c1]
  exact ⟨2,p,root,rfl,.refl p,.inr ⟨rfl,h⟩⟩
 ·rw[if_neg c1,if_neg c1]
  by_cases c2:60000<value.length
  ·rw[if_pos c2,if_pos c2]
   exact ⟨4,p,root,rfl,.refl p,.inr ⟨rfl,h⟩⟩
  ·rw[if_neg c2,if_neg c2]
   obtain ⟨d,ps,hr,ho⟩:=h.OM
   have hd:=gU hr ho h.len
   have ae9:=BU (Im p) (by omega) hr
   rw[ae9]
   rcases Ft (Ry (key:=key) (value:=value) (by omega) (by omega)) (by omega) (by have:=h.len;omega) hr ho (fun e=>e.elim) with ⟨p',r,d',dl,e1,e2,e3,e4⟩|⟨p',e1,e2,e3,e4,e5⟩
   ·refine ⟨0,p',r,e1,e4,.inr ⟨rfl,e4.inv h ⟨d',dl,?_,e3⟩⟩⟩
    rw[sI hr.up]
    exact e2
   ·refine ⟨6,p',root,e1,e2,.inl ⟨rfl,rfl,SC e2.len e3,e2.inv h ⟨d,ps,by rw[e4];exact hr,ho.1,fun m => ?_⟩,e5⟩⟩
    rw[ho.2 m,has_eq e2.len,e3]
def pJ (e n:Nat):List Bs->List (Bs×Bs)->Nat->List (Bs×Bs)×Nat
 |[],l,m=>(l,m)
 |k::r,l,m=>if e=6/\m=n/\0<l.length-(bJ k l).length then (l,m) else pJ e n r (bJ k l) (m+(l.length-(bJ k l).length))
theorem BO (e n:Nat):∀(ks:List Bs) (l:List (Bs×Bs)) (m:Nat),(pJ e n ks l m).1.length<=l.length
 |[],l,m=>zD _
 |k::r,l,m=>by
  unfold pJ
  split
  ·exact zD _
  ·exact wF (BO e n r _ _) (Be k l)
theorem OH {p:PM} {root l du cJ} (h:Inv p root l du cJ) {k:Bs} (hk:(Bt.look l k).isSome=true) :
  (∃p' root',jo (ta k) k root p=(0,p',root')/\Step p p'/\Inv p' root' (bJ k l) du cJ)\/(∃p',jo (ta k) k root p=(6,p',root)/\Step p p'/\Inv p' root l du cJ):=by
 obtain ⟨d,ps,hr,ho⟩:=h.OM
 have hd:=gU hr ho h.len
 rcases Ft (SO (key:=k)) (by omega) (by have:=h.len;omega) hr ho (fun _=>Eu.1 hk) with ⟨p',r,d',dl,e1,e2,e3,e4⟩|⟨p',e1,e2,e3,e4,e5⟩
 ·refine .inl ⟨p',r,e1,e4,e4.inv h ⟨d',dl,?_,e3⟩⟩
  rw[sJ hr.up]
  exact e2
 ·refine .inr ⟨p',e1,e2,e2.inv h ⟨d,ps,by rw[e4];exact hr,ho.1,fun m => ?_⟩⟩
  rw[ho.2 m,has_eq e2.len,e3]
theorem C3 {p:PM} {root l du cJ} (h:Inv p root l du cJ) (k:Bs):iP p.read k 12 root=some (Bt.look l k):=by
 obtain ⟨d,ps,hr,ho⟩:=h.OM
 have hd:=gU hr ho h.len
 exact SA (Im p) (by omega) hr
theorem Bg {p:PM} {root l du cJ} (h:Inv p root l du cJ) (lo hi:Bs) (aI:Nat):bM p.read lo hi aI 12 root []=some ((l.filter fun p=>mc lo hi p.1).take aI):=by
 obtain ⟨d,ps,hr,ho⟩:=h.OM
 have hd:=gU hr ho h.len
 exact KF (Im p) (by omega) hr
theorem BS {p:PM} {root l du cJ} (h:Inv p root l du cJ):dQ p.read 12 1 root<=8/\(dQ p.read 12 1 root=0↔l=[])/\(root=0↔l=[]):=by
 obtain ⟨d,ps,hr,ho⟩:=h.OM
 have hd:=gU hr ho h.len
 rw[BU (Im p) (by omega) hr]
 exact ⟨hd,hr.DS.2,hr.DS.1⟩
theorem LV {p:PM} {root l du cJ} (h:Inv p root l du cJ):sf false p root=some p:=by
 obtain ⟨d,ps,hr,ho⟩:=h.OM
 have hd:=gU hr ho h.len
 exact HX (by omega) hr ho.1
theorem Ij {p:PM} {root l du cJ} (h:Inv p root l du cJ):root<300:=by
 obtain ⟨d,ps,hr,ho⟩:=h.OM
 cases d with
 |zero=>obtain ⟨rfl,_⟩:=hr;omega
 |succ d =>
  obtain ⟨n,dl,h1,h2,h3,h4,h5,h6,rfl⟩:=hr
  have:=(xH ((ho.2 root).1 (by simp)).1).2
  have:=h.len
  omega
theorem Dc {du cJ}:∀(keys:List Bs) (many:Nat) {p:PM} {root l},Inv p root l du cJ ->
  ∃n e p' root' l',dk keys many p root=(n,e,p',root')/\(e=0\/e=6)/\many<=n/\Step p p'/\Inv p' root' l' du cJ/\pJ e n keys l many=(l',n)
 |[],many,p,root,l,h=>⟨many,0,p,root,l,rfl,.inl rfl,zD _,.refl p,h,rfl⟩
 |k::r,many,p,root,l,h=>by
  have hg:=C3 h k
  cases hk:Bt.look l k with
  |none =>
   rw[hk]at hg
   have hd:=Eh hk
   obtain ⟨n,e,p',root',l',h1,h2,h3,h4,h5,h6⟩:=Dc r many h
   refine ⟨n,e,p',root',l',by rw[dk,hg];exact h1,h2,h3,h4,h5,?_⟩
   rw[pJ,hd,if_neg (by omega)]
   simpa using h6
  |some v =>
   rw[hk]at hg
   obtain ⟨d,ps,hr,ho⟩:=h.OM
   have hl:=x9 hr.up (show (Bt.look l k).isSome=true by rw[hk];rfl)
   rcases OH h (show (Bt.look l k).isSome=true by rw[hk];rfl) with ⟨p1,afW,e1,e2,e3⟩|⟨p1,e1,e2,e3⟩
   ·obtain ⟨n,e,p',root',l',h1,h2,h3,h4,h5,h6⟩:=Dc r (many+1) e3
    refine ⟨n,e,p',root',l',by rw[dk,hg];simp only[e1];exact h1,h2,by omega,e2.trans h4,h5,?_⟩
    rw[pJ,if_neg (by omega),show many+(l.length-(bJ k l).length)=many+1 by omega]
    exact h6
   ·refine ⟨many,6,p1,root,l,by rw[dk,hg];simp only[e1],.inr rfl,zD _,e2,e3,?_⟩
    rw[pJ,if_pos ⟨rfl,rfl,by omega⟩]
theorem MV {p:PM} {view:Nat->Bs} {N gen:Nat} (hN:N=p.st.length):gd N gen view=p.se gen (fun m=>(mA (view m)).map fun x=>(x.1,x.2.2)):=by
 subst hN
 have e:p.st.map (fun _=>((0,0):Nat×Nat))=List.replicate p.st.length (0,0):=List.eq_replicate_iff.2 ⟨zZ _,fun b hb=>by obtain ⟨a,_,rfl⟩:=wk.1 hb;rfl⟩
 simp only[gd,PM.se,e]
end Go.Ai
namespace Go.Ai
open Go.Bt
theorem eh.first:eh (fY 5) 1 []:=by
 obtain ⟨a,b⟩:=yh (gen:=1) (s:=[]) (by omega) (by omega) (by simp)
 obtain ⟨c,d⟩:=GM
 have v1:fY 5 1=eo 1 []:=rfl
 have v0:fY 5 0=aW 512:=rfl
 refine ⟨by omega,by omega,?_,?_,⟨?_,?_⟩⟩
 ·rw[show 1 % 2=1 from rfl,v1];exact a
 ·rw[show 1 % 2=1 from rfl,v1,b];omega
 ·rw[show (1+1) % 2=0 from rfl,v0,d];omega
 ·intro g s h;rw[show (1+1) % 2=0 from rfl,v0,c]at h;cases h
theorem eh.ch {view gen root s} (h:eh view gen root) (hs:s.length<=490) (hg:gen+1<=1000000000000):eh (fun m=>if m=(gen+1) % 2 then eo (gen+1) s else view m) (gen+1) s:=by
 obtain ⟨a,b⟩:=yh (gen:=gen+1) (s:=s) (by omega) (by omega) hs
 have e2:(gen+1+1) % 2=gen % 2:=by omega
 have ne:¬gen % 2=(gen+1) % 2:=by omega
 refine ⟨by omega,hg,?_,?_,⟨?_,?_⟩⟩
 ·simp only[if_true];exact a
 ·simp only[if_true];rw[b];omega
 ·rw[e2];simp only[if_neg ne];exact h.lt
 ·intro g s' Lu
  rw[e2]at Lu
  simp only[if_neg ne]at Lu
  rw[h.at',zOi,zPi]at Lu
  omega
theorem f47 (hp:Heap) (nx N:Nat) (h1:4<=N) (h2:N<=4096) :
  ∃hp' nx' rd rp F,aY E 47 [iV N] hp nx (.bE [.ptr rd 0 0,.ptr rp 0 0]) hp' nx' .e/\ja hp' nx' rp rd F (gd N 1 (fY 5)) [] (fY 5) 5/\Fr [] hp nx F hp' nx':=by
 obtain ⟨hp1,nx1,rd,F1,r1,d1,DQ⟩:=f82 hp nx N (by omega) h2
 obtain ⟨aT,ar,F2,r2,d2,C7⟩:=f83 d1 h1
 obtain ⟨kr,o6,rp,F3,r3,d3,I5⟩:=f31 d2 h1 eh.first (by omega)
 have main:=an (P:=fun v hp' nx'=>v=.bE [.ptr rd 0 0,.ptr rp 0 0]/\ja hp' nx' rp rd F3 (gd N 1 (fY 5)) [] (fY 5) 5/\Fr [] hp nx F3 hp' nx') e47 (args:=[iV N]) rfl (hp:=hp) (nx:=nx) ?_
 ·obtain ⟨v,hp',nx',r,rfl,a,b⟩:=main
  exact ⟨hp',nx',rd,rp,F3,r,a,b⟩
 simp[c47]
 refine ae r1 ?_
 simp
 refine ap (f14 0 _ _) ?_
 simp
 refine ae r2 ?_
 simp
 refine ap (f14 0 _ _) ?_
 simp
 refine ae r3 ?_
 simp
 refine ap (f14 0 _ _) ?_
 simp
 exact ⟨d3,(DQ.trans C7).trans I5⟩
def ez (rd rp rt:Nat) (lA:AV) (root:Nat) (wA:AV) (bad:Bool):bN:=[[.ptr rd 0 0,.ptr rp 0 0,.ptr rt 0 0,lA,iV root,wA,.v (.bool bad)]]
structure oJ (hp:Heap) (nx wr rd rp rt:Nat) (lA wA:AV) (F:List Nat) (p:PM) (root:Nat) (l:List (Bs×Bs)) (aK:Nat) (cJ:List (Bs×Bs)) (bad:Bool) (rootS:Bs) (B:Nat):Prop where
 tr:∃t,dE hp nx rt rp rd F root t rootS B/\t.p=p
 row:hp wr=some (ez rd rp rt lA aK wA bad)
 hl:eV 2 (l.map bb) lA
 hw:eV 2 (cJ.map bb) wA
 lt:wr<nx
 nF:wr∉F
def uj (hp:Heap) (nx wr rd rp:Nat) (G:List Nat) (p:PM) (root:Nat) (l:List (Bs×Bs)) (aK:Nat) (cJ:List (Bs×Bs)) (bad:Bool) (B:Nat):Prop :=
 ∃rt lA wA F rootS,oJ hp nx wr rd rp rt lA wA F p root l aK cJ bad rootS B/\G=wr::F
theorem oJ.ah {hp nx wr rd rp rt lA wA F p root l aK cJ bad rootS B hp' nx'} (h:oJ hp nx wr rd rp rt lA wA F p root l aK cJ bad rootS B) (hn:nx<=nx') (hk:∀r∈wr::F,hp' r=hp r):oJ hp' nx' wr rd rp rt lA wA F p root l aK cJ bad rootS B:=by
 obtain ⟨t,ht,he⟩:=h.tr
 exact ⟨⟨t,ht.ah hn fun r hr=>hk r (zu _ hr),he⟩,by rw[hk wr (by simp)];exact h.row,h.hl,h.hw,zU h.lt hn,h.nF⟩
theorem oJ.Ix {hp nx wr rd rp rt lA wA F p root l aK cJ bad rootS B} (h:oJ hp nx wr rd rp rt lA wA F p root l aK cJ bad rootS B):∀r∈wr::F,r<nx:=by
 obtain ⟨t,ht,he⟩:=h.tr
 intro r hr
 rcases zH.1 hr with rfl|hr
 ·exact h.lt
 ·exact ht.lt r hr
theorem oJ.ro {hp nx wr rd rp rt lA wA F p root l aK cJ bad rootS B hp' nx'} (h:oJ hp nx wr rd rp rt lA wA F p root l aK cJ bad rootS B) (k:Ro hp nx hp' nx'):oJ hp' nx' wr rd rp rt lA wA F p root l aK cJ bad rootS B :=
 h.ah k.le fun r hr=>k.ah r (h.Ix r hr)
theorem uj.ah {hp nx wr rd rp G p root l aK cJ bad B hp' nx'} (h:uj hp nx wr rd rp G p root l aK cJ bad B) (hn:nx<=nx') (hk:∀r∈G,hp' r=hp r):uj hp' nx' wr rd rp G p root l aK cJ bad B:=by
 obtain ⟨rt,lA,wA,F,rootS,h,rfl⟩:=h
 exact ⟨rt,lA,wA,F,rootS,h.ah hn hk,rfl⟩
theorem uj.lt {hp nx wr rd rp G p root l aK cJ bad B} (h:uj hp nx wr rd rp G p root l aK cJ bad B):∀r∈G,r<nx:=by
 obtain ⟨rt,lA,wA,F,rootS,h,rfl⟩:=h
 exact h.Ix
theorem uj.ro {hp nx wr rd rp G p root l aK cJ bad B hp' nx'} (h:uj hp nx wr rd rp G p root l aK cJ bad B) (k:Ro hp nx hp' nx'):uj hp' nx' wr rd rp G p root l aK cJ bad B:=h.ah k.le fun r hr=>k.ah r (h.lt r hr)
theorem oJ.tree {hp nx wr rd rp rt lA wA F p root l aK cJ bad rootS B hp' nx' F' root' t' kw B'} (h:oJ hp nx wr rd rp rt lA wA F p root l aK cJ bad rootS B) (ht:dE hp' nx' rt rp rd F' root' t' kw B') (hF:Fr F hp nx F' hp' nx') :
  oJ hp' nx' wr rd rp rt lA wA F' t'.p root' l aK cJ bad kw B'/\Fr (wr::F) hp nx (wr::F') hp' nx':=by
 refine ⟨⟨⟨t',ht,rfl⟩,(hF.ah wr h.lt h.nF).trans h.row,h.hl,h.hw,zU h.lt hF.le,fun e => ?_⟩,⟨hF.le,fun r u1 u2=>hF.ah r u1 fun e=>u2 (zu _ e),fun r hr => ?_⟩⟩
 ·rcases hF.sub wr e with q|q
  ·exact h.nF q
  ·have:=h.lt;omega
 ·rcases zH.1 hr with rfl|hr
  ·exact .inl (by simp)
  ·exact (hF.sub r hr).imp (zu _) id
theorem oJ.write {hp nx wr rd rp rt lA wA F p root l aK cJ bad rootS B} (h:oJ hp nx wr rd rp rt lA wA F p root l aK cJ bad rootS B) {l' DV:List (Bs×Bs)} {RL wA':AV} {rootC':Nat} {bad':Bool} (hl:eV 2 (l'.map bb) RL) (hw:eV 2 (DV.map bb) wA') :
  oJ (ab hp wr (some (ez rd rp rt RL rootC' wA' bad'))) nx wr rd rp rt RL wA' F p root l' rootC' DV bad' rootS B/\Fr (wr::F) hp nx (wr::F) (ab hp wr (some (ez rd rp rt RL rootC' wA' bad'))) nx:=by
 obtain ⟨t,ht,he⟩:=h.tr
 refine ⟨⟨⟨t,ht.ah (zD _) fun r hr=>by simp[show ¬r=wr from fun e=>h.nF (e▸hr)],he⟩,by simp,hl,hw,h.lt,h.nF⟩,⟨zD _,fun r u1 u2 => ?_,fun r hr=>.inl hr⟩⟩
 simp only[zH,not_or]at u2
 simp[u2.1]
theorem oJ.pg {hp nx wr rd rp rt lA wA F p root l aK cJ bad rootS B} (h:oJ hp nx wr rd rp rt lA wA F p root l aK cJ bad rootS B):∃Fp view,ja hp nx rp rd Fp p rootS view B/\eh view p.gen rootS/\(∀r∈Fp,r∈F):=by
 obtain ⟨t,⟨x,y,Fp,view,hI,rfl⟩,rfl⟩:=h.tr
 exact ⟨Fp,view,hI.pg,hI.ok,fun r hr=>by simp[hr]⟩
theorem Ep (N:Nat) (hN:N<=300):Inv (gd N 1 (fY 5)) 0 [] 0 []:=by
 have QZ:∀m,(gd N 1 (fY 5)).is m=0:=fun m=>by
  simp only[PM.is,gd,List.getD_eq_getElem?_getD,wP]
  split<;>rfl
 refine ⟨by simpa [gd] using hN,⟨0,[],⟨rfl,rfl,rfl⟩,.nil,fun m => ?_⟩,⟨0,[],⟨rfl,rfl,rfl⟩,.nil,fun m => ?_⟩,fun m=>by rw[QZ];omega,fun _ m=>by rw[QZ];omega,by simp[gd]⟩
 ·rw[QZ];simp
 ·rw[QZ];simp
theorem f21 (hp:Heap) (nx N:Nat) (h1:4<=N) (h2:N<=300) :
  ∃hp' nx' wr rd rp G,aY E 21 [iV N] hp nx (.ptr wr 0 0) hp' nx' .e/\uj hp' nx' wr rd rp G (gd N 1 (fY 5)) 0 [] 0 [] false 5/\Fr [] hp nx G hp' nx':=by
 obtain ⟨hp1,nx1,rd,rp,F1,r1,d1,DQ⟩:=f47 hp nx N h1 (by omega)
 obtain ⟨aT,F2,r2,d2,C7⟩:=f15 d1 eh.first 0
 have az:=d2.lt
 have nF:nx1+1∉F2:=fun e=>by have:=az _ e;omega
 have fr:=DQ.trans C7
 have bZ:Ro aT (nx1+1) (ab aT (nx1+1) (some (ez rd rp nx1 nS 0 nS false))) (nx1+1+1):=cN
 have main:=an (P:=fun v hp' nx'=>v=.ptr (nx1+1) 0 0/\hp'=ab aT (nx1+1) (some (ez rd rp nx1 nS 0 nS false))/\nx'=nx1+1+1) e21 (args:=[iV N]) rfl (hp:=hp) (nx:=nx) ?_
 ·obtain ⟨v,hp',nx',r,rfl,rfl,rfl⟩:=main
  have cG:eV 2 (([]:List (Bs×Bs)).map bb) nS:=⟨true,0,some 0,rfl,by simp⟩
  refine ⟨_,_,nx1+1,rd,rp,_,r,⟨nx1,_,_,F2,[],⟨⟨_,d2.ro bZ,rfl⟩,by simp,cG,cG,by omega,nF⟩,rfl⟩,⟨by have:=fr.le;omega,fun r u1 u2 => ?_,fun r hr=>.inr ?_⟩⟩
  ·rw[bZ.ah r (by have:=fr.le;omega)]
   exact fr.ah r u1 (by simp)
  ·have:=fr.le
   rcases zH.1 hr with rfl|hr
   ·omega
   ·rcases fr.sub r hr with q|q
    ·simp at q
    ·exact q
 simp[c21]
 refine ae r1 ?_
 simp
 refine ae r2 ?_
 simp[aa,ez]
end Go.Ai
namespace Go.Ai
open Go.Bt
theorem f48 {hp nx wr rd rp G p root l aK cJ B} (h:uj hp nx wr rd rp G p root l aK cJ false B) (hi:Inv p root l aK cJ) (hll:l.length<=1000000) (hB:B<=400000000) (k v:Bs) :
  ∃hp' nx' G' p' root' l',aY E 48 [.ptr wr 0 0,.str k,.str v] hp nx (.bE []) hp' nx' .e/\uj hp' nx' wr rd rp G' p' root' l' aK cJ false (B+64000)/\Inv p' root' l' aK cJ/\Step p p'/\l'.length<=l.length+1/\Fr G hp nx G' hp' nx':=by
 have main:=an (P:=fun w hp' nx'=>w=.bE []/\∃G' p' root' l',uj hp' nx' wr rd rp G' p' root' l' aK cJ false (B+64000)/\Inv p' root' l' aK cJ/\Step p p'/\l'.length<=l.length+1/\Fr G hp nx G' hp' nx') e48 (args:=[.ptr wr 0 0,.str k,.str v]) rfl (hp:=hp) (nx:=nx) ?_
 ·obtain ⟨w,hp',nx',r,rfl,G',p',root',l',h1⟩:=main
  exact ⟨hp',nx',G',p',root',l',r,h1⟩
 obtain ⟨rt,lA,wA,F,rootS,hI,rfl⟩:=h
 have row:=hI.row
 simp only[ez]at row
 obtain ⟨Fp,view,yO,vG,_⟩:=hI.pg
 obtain ⟨hp1,nx1,r1,ro1⟩:=f25 yO
 have uu:=hI.ro ro1
 have DQ:=ro1.fr (wr::F)
 obtain ⟨t,ht,TO⟩:=uu.tr
 have r2:=f18 ht
 have x6:=uu.row
 simp only[ez]at x6
 obtain ⟨aT,ar,F2,t2,r3,yF,CP,C7⟩:=f16 ht (key:=k) (value:=v) (by have:=hi.len;rw[TO];omega) hB
 rw[TO]at r3 yF CP
 obtain ⟨iO,aft⟩:=uu.tree yF C7
 have On:=DQ.trans aft
 obtain ⟨e,p',root',he,bU,kg⟩:=xC hi k v
 rw[he]at r3 iO CP
 simp only at r3 iO CP
 rw[CP]at iO
 have fy:=iO.row
 simp only[ez]at fy
 simp[c48,row]
 refine ae r1 ?_
 simp[x6]
 refine ae r2 ?_
 simp[x6,row]
 refine ae r3 ?_
 simp
 refine ap (f14 _ _ _) ?_
 rcases kg with ⟨rfl,rfl,abk,hinv,_⟩|⟨rfl,hinv⟩
 ·obtain ⟨Fp2,afU,aeI,_,_⟩:=iO.pg
  obtain ⟨kr,o6,r4,Cq⟩:=f25 aeI
  have ju:=iO.ro Cq
  have iw:=ju.row
  simp only[ez]at iw
  obtain ⟨t3,ht3,_⟩:=ju.tr
  have r5:=f18 ht3
  obtain ⟨nj,oI⟩:=ju.write ju.hl ju.hw (rootC':=aK) (bad':=false)
  simp only[ez]at nj oI
  simp[fy]
  refine ae r4 ?_
  simp[iw,abk]
  refine ae r5 ?_
  simp[iw,aa]
  refine ⟨_,p',root',l,⟨rt,lA,wA,F2,rootS,nj,rfl⟩,hinv,bU,by omega,On.trans ((Cq.fr _).trans oI)⟩
 ·have bt:=KD k v l
  have WE:¬((gW k v l).2:Int)=6:=by omega
  obtain ⟨y,hy,r6⟩:=f84 l lA hI.hl hll k v
  obtain ⟨nj,oI⟩:=iO.write hy iO.hw (rootC':=aK) (bad':=false)
  obtain ⟨ln,lz,lc,hlA,_⟩:=id hI.hl
  obtain ⟨yn,yz,yc,hyA,_⟩:=id hy
  simp only[ez]at nj oI
  simp[bt,WE,fy]
  refine ap (r6 _ _) ?_
  simp[fy]
  refine ap (f14 _ _ _) ?_
  subst hyA
  simp[fy,aa,aG]
  exact ⟨_,p',root',_,⟨rt,_,wA,F2,rootS,nj,rfl⟩,hinv,bU,GF k v l,On.trans oI⟩
end Go.Ai
namespace Go.Ai
open Go.Bt
def Qk:cC:=match c50.body with | .seq _ (.seq _ (.seq _ t))=>t|_=>.skip
theorem f50 {hp nx wr rd rp G p root l aK cJ B} (h:uj hp nx wr rd rp G p root l aK cJ false B) (hi:Inv p root l aK cJ) (hll:l.length<=1000000) {keys:List Bs} {kA:AV} (hk:eV 1 (keys.map aN) kA) (lP:keys.length<=100) (hB:B<=300000000) :
  ∃hp' nx' G' p' root' l',aY E 50 [.ptr wr 0 0,kA] hp nx (.bE []) hp' nx' .e/\uj hp' nx' wr rd rp G' p' root' l' aK cJ false (B+64000*keys.length)/\Inv p' root' l' aK cJ/\Step p p'/\l'.length<=l.length/\Fr G hp nx G' hp' nx':=by
 have main:=an (P:=fun w hp' nx'=>w=.bE []/\∃G' p' root' l',uj hp' nx' wr rd rp G' p' root' l' aK cJ false (B+64000*keys.length)/\Inv p' root' l' aK cJ/\Step p p'/\l'.length<=l.length/\Fr G hp nx G' hp' nx') e50 (args:=[.ptr wr 0 0,kA]) rfl (hp:=hp) (nx:=nx) ?_
 ·obtain ⟨w,hp',nx',r,rfl,G',p',root',l',h1⟩:=main
  exact ⟨hp',nx',G',p',root',l',r,h1⟩
 obtain ⟨rt,lA,wA,F,rootS,hI,rfl⟩:=h
 have row:=hI.row
 simp only[ez]at row
 obtain ⟨t,ht,TO⟩:=hI.tr
 obtain ⟨aT,ar,F2,t2,r3,yF,CP,C7⟩:=f12 ht hk (by have:=hi.len;rw[TO];omega) (by omega) (by omega)
 rw[TO]at r3 yF CP
 obtain ⟨iO,On⟩:=hI.tree yF C7
 obtain ⟨n,e,p',root',l',he,he6,_,bU,hinv,tl⟩:=Dc keys 0 hi
 have abc:l'.length<=l.length:=by have:=BO e n keys l 0;rw[tl]at this;exact this
 rw[he]at r3 iO CP
 simp only at r3 iO CP
 rw[CP]at iO
 obtain ⟨kn,ks,kc,rfl,w9⟩:=id hk
 obtain ⟨TC,hT⟩:∃TC,TC=Qk:=⟨_,rfl⟩
 have jd:=hT
 simp only[Qk,c50]at jd
 simp only[c50]
 rw[<-jd]
 simp[row]
 refine ae r3 ?_
 simp
 have fin:∀(tm':Nat->AV) (hp':Heap) (nx':Nat) (RL:AV),tm' 0=.ptr wr 0 0->tm' 4=iV n->tm' 5=iV e->tm' 6=iV n->oJ hp' nx' wr rd rp rt RL wA F2 p' root' l' aK cJ false rootS (B+64000*keys.length)->Fr (wr::F2) aT ar (wr::F2) hp' nx' ->
   W (aY E) TC (sc [] fun w hp' nx'=>w=.bE []/\∃G' p' root' l',uj hp' nx' wr rd rp G' p' root' l' aK cJ false (B+64000*keys.length)/\Inv p' root' l' aK cJ/\Step p p'/\l'.length<=l.length/\Fr (wr::F) hp nx G' hp' nx') ⟨tm',hp',nx'⟩:=by
  intro tm' hp' nx' RL u0 u4 u5 u6 ju I5
  have iw:=ju.row
  simp only[ez]at iw
  obtain ⟨nj,oI⟩:=ju.write ju.hl ju.hw (rootC':=aK) (bad':=false)
  simp only[ez]at nj oI
  rw[hT]
  simp[Qk,c50,u0,u4,u5,u6,iw]
  refine ap (f14 _ _ _) ?_
  rcases he6 with rfl|rfl
  ·simp[u0,u4,u5,u6,iw,aa]
   exact ⟨_,p',root',l',⟨rt,RL,wA,F2,rootS,nj,rfl⟩,hinv,bU,abc,On.trans (I5.trans oI)⟩
  ·simp[u0,u4,u5,u6,iw,aa]
   refine ap (f14 _ _ _) ?_
   simp[u0,u4,u5,u6,iw,aa]
   exact ⟨_,p',root',l',⟨rt,RL,wA,F2,rootS,nj,rfl⟩,hinv,bU,abc,On.trans (I5.trans oI)⟩
 refine aM (I:=fun (g:Nat×Nat×List (Bs×Bs)×AV) s=>g.1<=keys.length/\s.tm 22=iV g.1/\s.tm 20=.rs kn ks (keys.map aN) kc/\s.tm 21=iV keys.length/\s.tm 0=.ptr wr 0 0/\s.tm 4=iV n/\s.tm 5=iV e/\s.tm 6=iV g.2.1 /\
   oJ s.hp s.nx wr rd rp rt g.2.2.2 wA F2 p' root' g.2.2.1 aK cJ false rootS (B+64000*keys.length)/\Fr (wr::F2) aT ar (wr::F2) s.hp s.nx/\pJ e n (keys.drop g.1) g.2.2.1 g.2.1=(l',n)/\g.2.1+g.2.2.1.length<=1000000) (fun g=>keys.length-g.1) (0,0,l,lA) ?_ ?_
 ·exact ⟨by simp,by simp,by simp,by simp,by simp,by simp,by simp,by simp,iO,.refl,by simpa using tl,by simp only;omega⟩
 rintro ⟨i,m,l1,lA1⟩ tm hp1 nx1 ⟨iM,t22,t20,t21,t0,t4,t5,t6,ju,I5,hd,hml⟩
 simp only at iM t22 t20 t21 t0 t4 t5 t6 ju I5 hd hml
 by_cases az:i<keys.length
 ·have bn:(i:Int)<(keys.length:Int):=by omega
  have tQ:keys[i]?=some keys[i]:=zA az
  have bG:=aS (n:=1) (k:=.i64) (cap:=kc) (j:=i) (cells:=[.str keys[i]]) w9 (by simp[tQ,aN])
  have w1:IntKind.wrap .i64 ((i:Int)+1)=((i+1:Nat):Int):=by rw[aj]<;>omega
  rw[zO az]at hd
  generalize keys[i]=k at *
  have iw:=ju.row
  simp only[ez]at iw
  obtain ⟨y,hy,r6⟩:=f27 l1 lA1 ju.hl (by omega) k
  obtain ⟨ln,lz,lc,hlA,_⟩:=id ju.hl
  obtain ⟨yn,yz,yc,hyA,_⟩:=id hy
  have Q4:=Be k l1
  rw[pJ]at hd
  have w2:IntKind.wrap .i64 ((m:Int)+((l1.length-(bJ k l1).length:Nat):Int))=((m+(l1.length-(bJ k l1).length):Nat):Int):=by rw[aj]<;>omega
  generalize hq:l1.length-(bJ k l1).length=q at *
  have next:∀{X:Prop},(¬(e=6/\m=n/\0<q))->pJ e n (keys.drop (i+1)) (bJ k l1) (m+q)=(l',n):=fun {X} hc=>by rw[if_neg hc]at hd;exact hd
  obtain ⟨nj,oI⟩:=ju.write hy ju.hw (rootC':=aK) (bad':=false)
  simp only[ez]at nj oI
  subst hyA
  simp[t22,t20,t21,t0,t4,t5,t6,bn,bG,iw,-ag,-Prod.exists]
  refine ap (r6 _ _) ?_
  simp[t22,t20,t21,t0,t4,t5,t6]
  refine ap (f14 _ _ _) ?_
  rcases he6 with rfl|rfl
  ·have AS:=next (X:=True) (by omega)
   simp[t22,t20,t21,t0,t4,t5,t6,iw,aa,aG,w1,w2,-Prod.exists,-Int.natCast_add]
   exact ⟨(i+1,m+q,bJ k l1,_),by simp only;omega,by simp only;omega,rfl,rfl,nj,I5.trans oI,AS,by simp only;omega⟩
  ·by_cases c1:m=n
   ·by_cases c2:0<q
    ·have xq:(0:Int)<(q:Int):=by omega
     rw[if_pos ⟨rfl,c1,c2⟩,zPi]at hd
     obtain ⟨rfl,rfl⟩:=hd
     simp[t22,t20,t21,t0,t4,t5,t6,c1,c2,xq]
     exact fin _ _ _ lA1 (by simp[t0]) (by simp[t4]) (by simp[t5]) (by simp[t6]) ju I5
    ·have xq:¬(0:Int)<(q:Int):=by omega
     have AS:=next (X:=True) (by omega)
     simp[t22,t20,t21,t0,t4,t5,t6,c1,c2,xq,iw,aa,aG,w1,-Prod.exists,-Int.natCast_add]
     rw[c1]at w2 AS
     simp[w2,-Prod.exists,-Int.natCast_add]
     exact ⟨(i+1,n+q,bJ k l1,_),by simp only;omega,by simp only;omega,rfl,rfl,nj,I5.trans oI,AS,by simp only;omega⟩
   ·have xM:¬(m:Int)=(n:Int):=by omega
    have AS:=next (X:=True) (by omega)
    simp[t22,t20,t21,t0,t4,t5,t6,c1,xM,iw,aa,aG,w1,w2,-Prod.exists,-Int.natCast_add]
    exact ⟨(i+1,m+q,bJ k l1,_),by simp only;omega,by simp only;omega,rfl,rfl,nj,I5.trans oI,AS,by simp only;omega⟩
 ·have pw:i=keys.length:=by omega
  subst pw
  rw[wu,pJ,zPi]at hd
  obtain ⟨rfl,rfl⟩:=hd
  simp[t22,t21]
  exact fin _ _ _ lA1 (by simp[t0]) (by simp[t4]) (by simp[t5]) (by simp[t6]) ju I5
end Go.Ai
