/- Part 7 of what the proof of BtreePlays rests on. -/
import Derived.Test.YtblopagmddgkjaaGreatK6
set_option linter.unusedVariables false
set_option linter.unusedSimpArgs false
set_option maxHeartbeats 4000000
namespace Go.Ai
open Go.Bt
theorem vN.vf {hp nx wr rd rp rt lA wA F p root l aM di bad rootS B Fp view} {t:T} {x y:AV} (h:vN hp nx wr rd rp rt lA wA F p root l aM di bad rootS B) (hI:sZ hp nx rt rp rd root x y Fp t rootS view B) (Sd:F=rt::(bc x++(bc y++Fp))) {hp' nx' JV p' kf ef}
  (hP:iS hp' nx' rp rd JV p' kf ef B) (hF:Fr Fp hp nx JV hp' nx') (vt:ea ef p'.gen kf) :
  sZ hp' nx' rt rp rd root x y JV ⟨p',t.put,t.old⟩ kf ef B/\vN hp' nx' wr rd rp rt lA wA (rt::(bc x++(bc y++JV))) p' root l aM di bad kf B/\Fr (wr::F) hp nx (wr::(rt::(bc x++(bc y++JV)))) hp' nx':=by
 obtain ⟨a,b⟩:=hI.vf hP hF (zD _) vt
 rw[<-Sd]at b
 obtain ⟨c,d⟩:=h.tree ⟨x,y,JV,ef,a,rfl⟩ b
 exact ⟨a,c,d⟩
theorem Fr.wide {F G hp nx F' hp' nx'} (h:Fr F hp nx F' hp' nx') (hs:∀r∈F,r∈G):Fr G hp nx F' hp' nx' :=
 ⟨h.le,fun r u1 u2=>h.ah r u1 fun e=>u2 (hs r e),fun r hr=>(h.sub r hr).imp (hs r) id⟩
theorem Fr.cons {a F hp nx F' hp' nx'} (h:Fr F hp nx F' hp' nx'):Fr (a::F) hp nx (a::F') hp' nx' :=
 ⟨h.le,fun r u1 u2=>h.ah r u1 fun e=>u2 (zu _ e),fun r hr=>by
  rcases zH.1 hr with rfl|hr
  ·exact .inl (by simp)
  ·exact (h.sub r hr).imp (zu _) id⟩
def P1:cC:=match c26.body with | .seq _ (.seq _ (.seq _ t))=>t|_=>.skip
theorem f26 {hp nx wr rd rp G p root l aM di B} (rV:Bool) (h:sX hp nx wr rd rp G p root l aM di false B) (hi:Inv p root l aM di) (hg:p.gen+1<=1000000000000) (V9:∀g∈p.pins,g<=1000000000000) (hB:B<=400000000) (ha:rV=true->p.pins=[]) :
  ∃hp' nx' G' Cb p',aZ E 26 [.ptr wr 0 0,.v (.bool rV)] hp nx (.bE []) hp' nx' .e/\sX hp' nx' wr rd Cb G' p' root l root l false B/\Inv p' root l root l/\(rV=false->Cb=rp/\p'=p.cg)/\p'.gen=p.gen+1/\p'.pins=p.pins/\p'.st.length=p.st.length/\p'.free=p.cg.free/\Fr G hp nx G' hp' nx':=by
 have main:=an (P:=fun w hp' nx'=>w=.bE []/\∃G' Cb p',sX hp' nx' wr rd Cb G' p' root l root l false B/\Inv p' root l root l/\(rV=false->Cb=rp/\p'=p.cg)/\p'.gen=p.gen+1/\p'.pins=p.pins/\p'.st.length=p.st.length/\p'.free=p.cg.free/\Fr G hp nx G' hp' nx') e26 (args:=[.ptr wr 0 0,.v (.bool rV)]) rfl (hp:=hp) (nx:=nx) ?_
 ·obtain ⟨w,hp',nx',r,rfl,G',Cb,p',h1⟩:=main
  exact ⟨hp',nx',G',Cb,p',r,h1⟩
 obtain ⟨rt,lA,wA,F,rootS,hI,rfl⟩:=h
 have row:=hI.row
 simp only[ft]at row
 obtain ⟨t,⟨x,y,Fp,view,hT,Sd⟩,rfl⟩:=hI.tr
 obtain ⟨hp1,nx1,SP,r1,LU,DB⟩:=f28 hT.pg (s:=[114]) (by simp) hg V9 (by omega)
 have KZ:ea (fun m=>if m=(t.p.gen+1) % 2 then eg (t.p.gen+1) [114] else view m) t.p.cg.gen [114]:=hT.ok.cg (by simp) hg
 obtain ⟨oz,sN,frA⟩:=hI.vf hT Sd (LU.more (wT _)) DB KZ
 have TR:=Hu hi (by omega)
 have th:=sN.row
 simp only[ft]at th
 obtain ⟨kQ,frB⟩:=sN.write sN.hl sN.hl (rootC':=root) (bad':=false)
 obtain ⟨H2,oB⟩:∃H2,H2=ab hp1 wr (some (ft rd rp rt lA root lA false)):=⟨_,rfl⟩
 rw[<-oB]at kQ frB
 have abr:=frA.trans frB
 have agj:=kQ.nF
 obtain ⟨TC,hTC⟩:∃TC,TC=P1:=⟨_,rfl⟩
 have abi:=hTC
 simp only[P1,c26]at abi
 simp only[c26]
 rw[<-abi]
 have af8:wr≠rt:=fun e=>hI.nF (by rw[Sd];simp[e])
 obtain ⟨ln,lz,lc,hlA,_⟩:=id hI.hl
 subst hlA
 have r2:∀(H:Heap),(∀r∈rt::(bc x++(bc y++SP)),H r=hp1 r)->aZ E 18 [.ptr rt 0 0] H nx1 (iV root) H nx1 .e:=fun H hH=>f18 ⟨x,y,SP,_,oz.ah (zD _) hH,rfl⟩
 have af9:∀b:Bool,ab hp1 wr (some [[AV.ptr rd 0 0,.ptr rp 0 0,.ptr rt 0 0,.rs ln lz (l.map ba) lc,iV aM,wA,.v (.bool b)]]) wr=some [[AV.ptr rd 0 0,.ptr rp 0 0,.ptr rt 0 0,.rs ln lz (l.map ba) lc,iV aM,wA,.v (.bool b)]]:=fun b=>by simp
 simp[row]
 refine ae r1 ?_
 simp
 refine ap (f14 _ _ _) ?_
 simp[th,aa]
 refine ae (r2 _ fun r hr=>by simp[show ¬r=wr from fun e=>sN.nF (e▸hr)]) ?_
 have EI:ab hp1 wr (some [[AV.ptr rd 0 0,.ptr rp 0 0,.ptr rt 0 0,.rs ln lz (l.map ba) lc,iV root,.rs ln lz (l.map ba) lc,.v (.bool false)]])=H2:=oB.symm
 simp[aa,aG,EI]
 have hwF:∀r∈SP,r∈rt::(bc x++(bc y++SP)):=fun r hr=>by simp[hr]
 cases rV with
 |false =>
  simp
  exact ⟨_,rp,t.p.cg,⟨rt,_,_,_,[114],kQ,rfl⟩,TR,⟨rfl,rfl⟩,rfl,rfl,gS _,rfl,abr⟩
 |true =>
  have ou:=ha rfl
  have hP2:=(LU.more (wT B)).ah (hp':=H2) (zD _) fun r hr=>by rw[oB];simp[show ¬r=wr from fun e=>sN.nF (e▸hwF r hr)]
  obtain ⟨kF,r9,r3,DY⟩:=f25 hP2
  have hP3:=hP2.ro DY
  have ll:=kQ.ro DY
  have kV:=kQ.row
  have nv:=ll.row
  simp only[ft]at kV nv
  obtain ⟨cQ,rm,Fd,hPI,afa⟩:=hP3
  have hFd:∀r∈Fd,r∈SP:=fun r hr=>by rw[afa];simp[hr]
  obtain ⟨gb,tx,XO,F4,r4,hP4,rB⟩:=f31 hPI.hd hPI.N4 KZ (by omega)
  have ae2:=Da hi ou (by omega)
  have Ex:=MD (p:=t.p.cg) (view:=fun m=>if m=(t.p.gen+1) % 2 then eg (t.p.gen+1) [114] else view m) (gen:=t.p.cg.gen) (N:=t.p.cg.st.length) rfl
  obtain ⟨q,hq,hqi,hqf,hqg,hqp,RP,uf⟩:=Qf TR (show t.p.cg.pins=[] from ou) ae2 (gen:=t.p.cg.gen) (rd:=fun m=>(mu ((fun m=>if m=(t.p.gen+1) % 2 then eg (t.p.gen+1) [114] else view m) m)).map fun x=>(x.1,x.2.2))
   fun m hm=>(hPI.rdv m (xv hm).1 (xv hm).2).symm
  have aew:ea (fun m=>if m=(t.p.gen+1) % 2 then eg (t.p.gen+1) [114] else view m) (fV t.p.cg.st.length t.p.cg.gen fun m=>if m=(t.p.gen+1) % 2 then eg (t.p.gen+1) [114] else view m).gen [114]:=KZ
  obtain ⟨v5,rn,sC,F5,r5,fr5,m5⟩:=f13 hP4 aew (by omega) root (by have:=Q9 hi;omega)
  rw[Ex,hq]at m5
  obtain ⟨rfl,uG⟩:=m5
  have CC:wr∉Fd:=fun e=>ll.nF (hwF _ (hFd _ e))
  have VN:wr∉F4:=fun e=>(rB.sub _ e).elim CC (by have:=ll.lt;omega)
  have aa3:=rB.le
  have R0:=fr5.le
  have Ts:=ll.lt
  have ZD:gb wr=_:=(rB.ah wr Ts CC).trans nv
  have adQ:rn wr=_:=(fr5.ah wr (by omega) VN).trans ZD
  have hw5:wr∉F5:=fun e=>(fr5.sub _ e).elim VN (by omega)
  have aff:Fr (wr::(rt::(bc x++(bc y++SP)))) kF r9 (wr::F5) rn sC:=((rB.trans fr5).wide fun r hr=>hwF r (hFd r hr)).cons
  obtain ⟨x5,y5,Fp5,Zm,R9,gA⟩:=id uG
  obtain ⟨hp6,nx6,r6,S8⟩:=f25 R9.pg
  have FQ:=uG.ro S8
  have adP:hp6 wr=_:=(S8.ah wr (by omega)).trans adQ
  have afe:=aff.trans (S8.fr _)
  have fin:vN (ab hp6 wr (some (ft rd XO tx (.rs ln lz (l.map ba) lc) root (.rs ln lz (l.map ba) lc) false))) nx6 wr rd XO tx (.rs ln lz (l.map ba) lc) (.rs ln lz (l.map ba) lc) F5 q root l root l false [114] B /\
    Fr (wr::F5) hp6 nx6 (wr::F5) (ab hp6 wr (some (ft rd XO tx (.rs ln lz (l.map ba) lc) root (.rs ln lz (l.map ba) lc) false))) nx6:=by
   refine ⟨⟨⟨_,FQ.ah (zD _) fun r hr=>by simp[show ¬r=wr from fun e=>hw5 (e▸hr)],rfl⟩,by simp,hI.hl,hI.hl,by have:=S8.le;omega,hw5⟩,⟨zD _,fun r u1 u2 => ?_,fun r hr=>.inl hr⟩⟩
   simp only[zH,not_or]at u2
   simp[u2.1]
  obtain ⟨hI7,Hm⟩:=fin
  simp only[ft]at hI7 Hm
  rw[hTC]
  simp[P1,c26,kV]
  refine ae r3 ?_
  simp[nv]
  refine ae r4 ?_
  simp
  refine ap (f14 _ _ _) ?_
  simp[ZD]
  refine ae r5 ?_
  simp
  refine ap (f14 _ _ _) ?_
  simp
  refine ae r6 ?_
  simp[hqf,adP,aa,aG]
  exact ⟨_,XO,q,⟨tx,_,_,F5,[114],hI7,rfl⟩,hqi,hqg,by rw[hqp,ou],RP.trans (gS _),hqf,abr.trans ((DY.fr _).trans (afe.trans Hm))⟩
end Go.Ai
namespace Go.Ai
open Go.Bt
theorem J5 (k:Bs):al k []=false:=by cases k<;>rfl
theorem Rx (k:Bs):lu [] [] k=true:=by simp[lu,J5]
theorem filter_all (l:List (Bs×Bs)):(l.filter fun p=>lu [] [] p.1)=l:=wX.2 fun p _=>Rx p.1
theorem dq.own {hp nx sz es x} (h:dq hp nx sz es x):cP hp nx sz es x:=by
 rcases h with ⟨rfl,rfl⟩|⟨r,h1,rfl,h2⟩
 ·exact cP.nil
 ·exact .inr ⟨r,h1,rfl,h2⟩
theorem uo {hp nx x y} {a b:List (Bs×Bs)} (hx:dq hp nx 2 (a.map ba) x) (hy:fa 2 (b.map ba) y) (ha:a.length<=1000000) (hb:b.length<=1000000):aZ E 33 [x,y] hp nx (.v (.bool (decide (a=b)))) hp nx .e:=by
 obtain ⟨nil,z,cap,h1,h2,h3⟩:=gh (k:=4) hx.own (cn _)
 obtain ⟨yn,yz,yc,rfl,hyz⟩:=id hy
 refine m6 (args0:=[.rs nil z (a.map ba) cap,.rs yn yz (b.map ba) yc]) ?_ rfl (f33 a b _ _ ⟨nil,z,cap,rfl,h2,h3⟩ hy ha hb _ _)
 have e2:j5 6 hp (.rs yn yz (b.map ba) yc)=some (.rs yn yz (b.map ba) yc):=aq (by simp[cn])
 rw[br,h1,br,e2]
 rfl
theorem vN.LM {hp nx wr rd rp rt lA wA F p root l aM di bad rootS B} (h:vN hp nx wr rd rp rt lA wA F p root l aM di bad rootS B) (hB:B<=1000000000):∃Fp view,FF hp nx rt rp rd Fp p rootS view B/\BO hp rt rp root:=by
 obtain ⟨t,⟨x,y,Fp,view,hI,rfl⟩,rfl⟩:=h.tr
 exact ⟨Fp,view,hI.LM hB,⟨⟨_,hI.iQ⟩⟩⟩
theorem Kj {hp nx rt rp rd F p rootS view B} (h:FF hp nx rt rp rd F p rootS view B) {root:Nat} (hr:BO hp rt rp root) {l:List (Bs×Bs)} (hl:l.length<=20000) (hv:bG p.read [] [] 20000 12 root []=some ((l.filter fun p=>lu [] [] p.1).take 20000)) :
  ∃x hp' nx',aZ E 11 [.ptr rt 0 0,.str [],.str [],iV 20000] hp nx (.bE [x,iV 0]) hp' nx' .e/\Ro hp nx hp' nx'/\dq hp' nx' 2 (l.map ba) x:=by
 obtain ⟨v,hp',nx',r,ro,m⟩:=f11 h hr [] [] 20000
 rw[show min 20000 20000=20000 from rfl,hv,filter_all,zI hl]at m
 obtain ⟨x,rfl,hx,_⟩:=m
 exact ⟨x,hp',nx',r,ro,hx⟩
theorem afn {hp nx wr rd rp G p root l aM di bad B} (h:sX hp nx wr rd rp G p root l aM di bad B) (hv:bG p.read [] [] 20000 12 root []=some ((l.filter fun p=>lu [] [] p.1).take 20000)) (hl:l.length<=20000) (hB:B<=1000000000) :
  ∃hp' nx',aZ E 24 [.ptr wr 0 0] hp nx (.v (.bool true)) hp' nx' .e/\Ro hp nx hp' nx':=by
 have main:=an (P:=fun w hp' nx'=>w=.v (.bool true)/\Ro hp nx hp' nx') e24 (args:=[.ptr wr 0 0]) rfl (hp:=hp) (nx:=nx) ?_
 ·obtain ⟨w,hp',nx',r,rfl,h1⟩:=main
  exact ⟨hp',nx',r,h1⟩
 obtain ⟨rt,lA,wA,F,rootS,hI,rfl⟩:=h
 have row:=hI.row
 simp only[ft]at row
 obtain ⟨Fp,view,lj,iQ⟩:=hI.LM hB
 obtain ⟨x,hp1,nx1,r1,ZE,hx⟩:=Kj lj iQ hl hv
 have sN:=hI.ro ZE
 have th:=sN.row
 simp only[ft]at th
 have r2:=uo hx sN.hl (by omega) (by omega)
 simp[c24,row]
 refine ae (by simpa using r1) ?_
 simp
 refine ap (f14 _ _ _) ?_
 simp[th]
 refine ae r2 ?_
 simp
 exact ZE
theorem f24 {hp nx wr rd rp G p root l aM di bad B cr cw} (h:sX hp nx wr rd rp G p root l aM di bad B) (hi:Inv p root l cr cw) (hl:l.length<=20000) (hB:B<=1000000000) :
  ∃hp' nx',aZ E 24 [.ptr wr 0 0] hp nx (.v (.bool true)) hp' nx' .e/\Ro hp nx hp' nx':=afn h (ur hi [] [] 20000) hl hB
end Go.Ai
namespace Go.Ai
open Go.Bt
theorem sX.more {hp nx wr rd rp G p root l aM di bad B B'} (h:sX hp nx wr rd rp G p root l aM di bad B) (hb:B<=B'):sX hp nx wr rd rp G p root l aM di bad B':=by
 obtain ⟨rt,lA,wA,F,rootS,hI,rfl⟩:=h
 obtain ⟨t,ht,he⟩:=hI.tr
 exact ⟨rt,lA,wA,F,rootS,⟨⟨t,ht.more hb,he⟩,hI.row,hI.hl,hI.hw,hI.lt,hI.nF⟩,rfl⟩
def Dt (hp:Heap) (nx:Nat) (G:List Nat) (wr rd rp:Nat) (p:PM) (M B:Nat) (seven:Prop) (hp':Heap) (nx':Nat):Prop:=∃G' Cb p' root' l' rootC' DE,sX hp' nx' wr rd Cb G' p' root' l' rootC' DE false (B+128000)/\Inv p' root' l' rootC' DE/\Fr G hp nx G' hp' nx' /\
 (¬seven->Cb=rp/\∀g r0 l0,g∈p.pins->Kept p g r0 l0->Kept p' g r0 l0)/\p.gen<=p'.gen/\p'.gen<=p.gen+1/\p'.pins=p.pins/\p'.st.length=p.st.length/\l'.length<=M+1/\DE.length<=M+1
theorem xG {hp nx G wr rd rp p M B hp' nx' G' p' root' l' aM di} {s:Prop} (h1:sX hp' nx' wr rd rp G' p' root' l' aM di false (B+128000)) (h2:Inv p' root' l' aM di) (h3:Fr G hp nx G' hp' nx') (h4:Step p p') (h5:l'.length<=M+1) (h6:di.length<=M+1):Dt hp nx G wr rd rp p M B s hp' nx' :=
 ⟨G',rp,p',root',l',aM,di,h1,h2,h3,fun _=>⟨rfl,fun g r0 l0 _ k=>h4.keeps k⟩,by rw[h4.gen];omega,by rw[h4.gen];omega,h4.pins,h4.len,h5,h6⟩
theorem Cf (lo hi:Bs) (n:Nat) (l:List (Bs×Bs)):fu lo hi (n:Int) l=(l.filter fun p=>lu lo hi p.1).take (min n 20000):=by
 unfold fu
 congr 1
 omega
theorem Ce (lo hi:Bs) {n:Int} (h:n<0) (l:List (Bs×Bs)):fu lo hi n l=[]:=by
 unfold fu
 rw[show (min n 20000).toNat=0 by omega,List.take_zero]
theorem f23 {hp nx wr rd rp G p root l aM di B M} (a:Act) (hv:td a) (h:sX hp nx wr rd rp G p root l aM di false B) (hi:Inv p root l aM di) (hM:M<=10000) (hll:l.length<=M) (TJ:di.length<=M) (hg:p.gen+1<=1000000000000) (V9:∀g∈p.pins,g<=1000000000000) (hB:B<=200000000) (ha:a.kind=7->p.pins=[]) :
  ∃hp' nx',aZ E 23 [.ptr wr 0 0,.agg (gI a)] hp nx (.bE []) hp' nx' .e/\Dt hp nx G wr rd rp p M B (a.kind=7) hp' nx':=by
 obtain ⟨S,hS⟩:∃S,S=(a.kind=7):=⟨_,rfl⟩
 rw[<-hS]
 have main:=an (P:=fun w hp' nx'=>w=.bE []/\Dt hp nx G wr rd rp p M B S hp' nx') e23 (args:=[.ptr wr 0 0,.agg (gI a)]) rfl (hp:=hp) (nx:=nx) ?_
 ·obtain ⟨w,hp',nx',r,rfl,h1⟩:=main
  exact ⟨hp',nx',r,h1⟩
 have az:=h.lt
 obtain ⟨kind,k,v,n⟩:=a
 obtain ⟨H1,fq⟩:∃H1,H1=ab hp nx (some [gI ⟨kind,k,v,n⟩]):=⟨_,rfl⟩
 have ck:Ro hp nx H1 (nx+1):=by rw[fq];exact cR
 have b3:H1 nx=some [gI ⟨kind,k,v,n⟩]:=by simp[fq]
 simp only[gI]at b3 fq ⊢
 have h0:=h.ro ck
 have WX:=ck.fr G
 have nG:nx∉G:=fun e=>by have:=az _ e;omega
 have wG:¬wr=nx:=by
  obtain ⟨rt,lA,wA,F,rootS,hI,rfl⟩:=h
  have:=hI.lt;omega
 by_cases VC:kind=0\/kind=1\/kind=2
 ·obtain ⟨aT,ar,G2,p2,Mn,l2,r2,w2,i2,s2,n2,f2⟩:=f48 h0 hi (by omega) (by omega) k (Act.value ⟨kind,k,v,n⟩)
  have r1:=fun hp nx=>f49 ⟨kind,k,v,n⟩ hv hp nx
  simp only[gI]at r1
  have fin:Dt hp nx G wr rd rp p M B S aT ar:=xG (w2.more (by omega)) i2 (WX.trans f2) s2 (by omega) (by omega)
  rcases VC with rfl|rfl|rfl
  all_goals
   simp[c23,<-fq,b3]
   refine ap (r1 _ _) ?_
   simp
   refine ae r2 ?_
   simp
   exact fin
 ·simp only[not_or]at VC
  obtain ⟨n0,n1,n2⟩:=VC
  by_cases k3:kind=3
  ·subst k3
   obtain ⟨aT,ar,G2,p2,Mn,l2,r2,w2,i2,s2,n2,f2⟩:=f50 h0 hi (by omega) (keys:=[k,v]) (kA:=.rs false 1 [[.str k],[.str v]] (some 2)) ⟨false,1,some 2,rfl,by simp⟩ (by simp) (by omega)
   have fin:Dt hp nx G wr rd rp p M B S aT ar:=xG (w2.more (by simp)) i2 (WX.trans f2) s2 (by omega) (by omega)
   simp[c23,<-fq,b3]
   refine ae (by simpa [aa] using r2) ?_
   simp
   exact fin
  ·by_cases k4:kind=4
   ·subst k4
    obtain ⟨rt,lA,wA,F,rootS,hI,rfl⟩:=h0
    have row:=hI.row
    simp only[ft]at row
    obtain ⟨Fp,view,lj,iQ⟩:=hI.LM (by omega)
    obtain ⟨aT,ar,r2,xo⟩:=f10 lj iQ k
    rw[II hi k]at r2
    have kQ:=hI.ro xo
    have kV:=kQ.row
    simp only[ft]at kV
    have b3':=(xo.ah nx (by omega)).trans b3
    have r3:=fun hp nx=>f51 l lA hI.hl (by omega) k hp nx
    obtain ⟨tM,rB⟩:=kQ.write kQ.hl kQ.hw (rootC':=aM) (bad':=false)
    simp only[ft]at tM rB
    have fin:Dt hp nx (wr::F) wr rd rp p M B S _ ar:=xG (sX.more ⟨rt,lA,wA,F,rootS,tM,rfl⟩ (by omega)) hi (WX.trans ((xo.fr _).trans rB)) (.refl p) (by omega) (by omega)
    simp[c23,<-fq,b3,row]
    refine ae r2 ?_
    cases hk:Bt.look l k with
    |none =>
     rw[hk]at r3
     simp only[Ef,qM,Option.isSome_none]at r3
     simp[ET,kV,b3',row,b3]
     refine ap (r3 _ _) ?_
     simp[kV]
     refine ap (f14 _ _ _) ?_
     simp[kV,aa]
     exact fin
    |some w =>
     rw[hk]at r3
     simp only[Ef,wJ,jH]at r3
     simp[ET,kV,b3',row,b3]
     refine ap (r3 _ _) ?_
     simp[kV]
     refine ap (f14 _ _ _) ?_
     simp[kV,aa]
     exact fin
   ·by_cases k5:kind=5
    ·subst k5
     obtain ⟨rt,lA,wA,F,rootS,hI,rfl⟩:=h0
     have row:=hI.row
     simp only[ft]at row
     obtain ⟨Fp,view,lj,iQ⟩:=hI.LM (by omega)
     have aen:∃x aT ar,aZ E 11 [.ptr rt 0 0,.str k,.str v,iV n] H1 (nx+1) (.bE [x,iV 0]) aT ar .e/\Ro H1 (nx+1) aT ar/\dq aT ar 2 ((fu k v n l).map ba) x:=by
      by_cases hn:n<0
      ·obtain ⟨aT,ar,r2,xo⟩:=afo lj iQ k v hn
       rw[Ce k v hn]
       exact ⟨_,aT,ar,r2,xo,.inl ⟨rfl,rfl⟩⟩
      ·obtain ⟨m,rfl⟩:∃m:Nat,n=(m:Int):=⟨n.toNat,by omega⟩
       obtain ⟨w,aT,ar,r2,xo,m2⟩:=f11 lj iQ k v m
       rw[ur hi]at m2
       obtain ⟨x,rfl,hx,_⟩:=m2
       rw[Cf]
       exact ⟨x,aT,ar,r2,xo,hx⟩
     obtain ⟨x,aT,ar,r2,xo,hx⟩:=aen
     have kQ:=hI.ro xo
     have kV:=kQ.row
     simp only[ft]at kV
     have b3':=(xo.ah nx (by omega)).trans b3
     obtain ⟨y,hy,r3⟩:=f52 l lA hI.hl (by omega) k v n
     have Dv:(fu k v n l).length<=10000:=by
      have h1:(fu k v n l).length<=(l.filter fun p=>lu k v p.1).length:=by unfold fu;rw[wD];omega
      have h2:(l.filter fun p=>lu k v p.1).length<=l.length:=qH _ _
      omega
     have r4:=uo hx hy (by omega) (by omega)
     obtain ⟨tM,rB⟩:=kQ.write kQ.hl kQ.hw (rootC':=aM) (bad':=false)
     simp only[ft]at tM rB
     have fin:Dt hp nx (wr::F) wr rd rp p M B S _ ar:=xG (sX.more ⟨rt,lA,wA,F,rootS,tM,rfl⟩ (by omega)) hi (WX.trans ((xo.fr _).trans rB)) (.refl p) (by omega) (by omega)
     simp[c23,<-fq,b3,row]
     refine ae r2 ?_
     simp[kV,b3',row,b3]
     refine ap (r3 _ _) ?_
     simp
     refine ae r4 ?_
     simp[kV]
     refine ap (f14 _ _ _) ?_
     simp[kV,aa]
     exact fin
    ·by_cases k67:kind=6\/kind=7
     ·obtain ⟨aT,ar,G2,XO,p2,r2,w2,i2,e2,g2,U5,sl2,_,f2⟩:=f26 (decide (kind=7)) h0 hi hg V9 (by omega) (fun e=>ha (by simpa using e))
      have fin:Dt hp nx G wr rd rp p M B S aT ar:=by
       refine ⟨G2,XO,p2,root,l,root,l,w2.more (by omega),i2,WX.trans f2,fun hk => ?_,by omega,by omega,U5,sl2,by omega,by omega⟩
       obtain ⟨rfl,rfl⟩:=e2 (by rw[hS]at hk;simpa using hk)
       exact ⟨rfl,fun g r0 l0 hg kk=>C9 kk hg (hi.pin g hg) hi.top⟩
      rcases k67 with rfl|rfl
      all_goals
       simp[c23,<-fq,b3]
       refine ae (by simpa using r2) ?_
       simp
       exact fin
     ·simp only[not_or]at k67
      obtain ⟨n6,n7⟩:=k67
      by_cases k8:kind=8
      ·subst k8
       obtain ⟨rt,lA,wA,F,rootS,hI,rfl⟩:=h0
       have row:=hI.row
       simp only[ft]at row
       obtain ⟨t,⟨x,y,Fp,view,hT,Sd⟩,rfl⟩:=hI.tr
       obtain ⟨hp1,nx1,r1,LU,DB⟩:=f53 hT.pg
       have KZ:ea view t.p.gJ.gen rootS:=hT.ok
       obtain ⟨oz,sN,frA⟩:=hI.vf hT Sd LU DB KZ
       have th:=sN.row
       simp only[ft]at th
       obtain ⟨aT,F2,r2,iW,CT⟩:=f15 LU KZ aM
       have aeg:=sN.nF
       have hwp:wr∉Fp:=fun e=>aeg (by simp[e])
       have Ts:=sN.lt
       have kV:aT wr=_:=(CT.ah wr Ts hwp).trans th
       have mj:wr∉F2:=fun e=>(CT.sub _ e).elim hwp (by omega)
       have frB:Fr (wr::(rt::(bc x++(bc y++Fp)))) hp1 nx1 (wr::F2) aT (nx1+1):=(CT.wide fun r hr=>by simp[hr]).cons
       have IC:=LH hi
       have fin:vN (ab aT wr (some (ft rd rp nx1 wA aM wA false))) (nx1+1) wr rd rp nx1 wA wA F2 t.p.gJ aM di aM di false rootS B/\Fr (wr::F2) aT (nx1+1) (wr::F2) (ab aT wr (some (ft rd rp nx1 wA aM wA false))) (nx1+1):=by
        refine ⟨⟨⟨_,iW.ah (zD _) fun r hr=>by simp[show ¬r=wr from fun e=>mj (e▸hr)],rfl⟩,by simp,hI.hw,hI.hw,by omega,mj⟩,⟨zD _,fun r u1 u2 => ?_,fun r hr=>.inl hr⟩⟩
        simp only[zH,not_or]at u2
        simp[u2.1]
       obtain ⟨hI7,Hm⟩:=fin
       have hAR:Dt hp nx (wr::F) wr rd rp t.p M B S (ab aT wr (some (ft rd rp nx1 wA aM wA false))) (nx1+1) :=
        ⟨_,rp,t.p.gJ,aM,di,aM,di,sX.more ⟨nx1,_,_,F2,rootS,hI7,rfl⟩ (by omega),IC,WX.trans (frA.trans (frB.trans Hm)),fun _=>⟨rfl,fun g r0 l0 _ kk=>Fz kk⟩,zD _,Nat.le_succ _,rfl,kS _,by omega,by omega⟩
       simp only[ft]at hAR
       obtain ⟨wn,wz,wc,hwA,_⟩:=id hI.hw
       subst hwA
       simp[c23,<-fq,b3,row]
       refine ae r1 ?_
       simp[th]
       refine ae r2 ?_
       simp[kV,th,aa,aG]
       exact hAR
      ·simp[c23,<-fq,b3,n0,n1,n2,k3,k4,k5,n6,n7,k8]
       exact xG (h0.more (by omega)) hi WX (.refl p) (by omega) (by omega)
end Go.Ai
namespace Go.Ai
open Go.Bt
def ap0:PM:=fV 20 1 (fS 5)
def Uu:Nat×PM×Nat:=uu [98] [49] ap0 0
def L1:Nat×PM×Nat:=uu [97] [50] Uu.2.1 Uu.2.2
theorem Qe:Uu.1=0:=by decide +kernel
theorem Qd:L1.1=0:=by decide +kernel
theorem LF:eO L1.2.1.read 12 1 L1.2.2=1:=by decide +kernel
theorem Qc:(dh [[97],[120]] 0 L1.2.1 L1.2.2).1=1/\(dh [[97],[120]] 0 L1.2.1 L1.2.2).2.1=0:=by decide +kernel
theorem SM:Inv Uu.2.1 Uu.2.2 [([98],[49])] 0 []/\Inv L1.2.1 L1.2.2 [([97],[50]),([98],[49])] 0 []:=by
 obtain ⟨e,p',root',he,bU,hc⟩:=Ch (D8 20 (by omega)) [98] [49]
 have h1:Uu=(e,p',root'):=he
 have e1:=Qe
 rw[h1]at e1 ⊢
 simp only at e1
 have i1:Inv p' root' [([98],[49])] 0 []:=by
  rcases hc with ⟨h,_⟩|⟨_,h⟩
  ·omega
  ·exact h
 refine ⟨i1,?_⟩
 obtain ⟨e',p2,Mn,R5,RK,EM⟩:=Ch i1 [97] [50]
 have h2:L1=(e',p2,Mn):=by rw[L1,h1];exact R5
 have e2:=Qd
 rw[h2]at e2 ⊢
 simp only at e2
 rcases EM with ⟨h,_⟩|⟨_,h⟩
 ·omega
 ·exact h
theorem f20 (hp nx):aZ E 20 [] hp nx (.v (.bool true)) hp nx .p:=by
 refine aF e20 rfl (by simp) ?_ hp nx
 obtain ⟨hp1,nx1,rd,rp,F1,r1,d1,DB⟩:=f47 cG 0 20 (by omega) (by omega)
 obtain ⟨aT,F2,r2,h2,CT⟩:=f15 d1 ea.first 0
 have hpe:fV 20 1 (fS 5)=ap0:=rfl
 rw[hpe]at h2
 obtain ⟨i1,i2⟩:=SM
 obtain ⟨kF,r9,F3,t3,r3,h3,e3,LZ⟩:=f16 h2 (key:=[98]) (value:=[49]) (by decide) (by omega)
 have a1:uu [98] [49] ap0 0=Uu:=rfl
 simp only[a1]at r3 h3 e3
 obtain ⟨gb,tx,F4,t4,r4,h4,e4,rB⟩:=f16 h3 (key:=[97]) (value:=[50]) (by rw[e3];have:=i1.len;omega) (by omega)
 have a2:uu [97] [50] t3.p Uu.2.2=L1:=by rw[e3];rfl
 rw[a2]at r4 h4 e4
 rw[Qe]at r3
 rw[Qd]at r4
 obtain ⟨x,y,Fp,view,hTI,ml⟩:=id h4
 have hv:=ur i2 [] [] 9
 rw[filter_all]at hv
 obtain ⟨w,rn,sC,r5,Qm,m5⟩:=f11 (hTI.LM (by omega)) ⟨⟨_,hTI.iQ⟩⟩ [] [] 9
 rw[e4,show min 9 20000=9 from rfl,hv]at m5
 obtain ⟨z,rfl,hz,hzn⟩:=m5
 have h5:=h4.ro Qm
 obtain ⟨x5,y5,Fp5,Zm,R9,gA⟩:=id h5
 obtain ⟨hp6,nx6,r6,S8⟩:=f19 (R9.LM (by omega)) ⟨⟨_,R9.iQ⟩⟩
 rw[e4,LF]at r6
 have h6:=h5.ro S8
 obtain ⟨Dw,Td,F7,t7,r7,h7,e7,Hm⟩:=f12 h6 (keys:=[[97],[120]]) (kA:=.rs false 1 [[.str [97]],[.str [120]]] (some 2)) ⟨false,1,some 2,rfl,by simp[aN]⟩ (by rw[e4];have:=i2.len;omega) (by simp) (by simp)
 rw[e4,Qc.1,Qc.2]at r7
 have aeI:=h4.lt
 have hz6:=hz.ah S8.le fun r hr=>S8.ah r (hz.lt r hr)
 have hz7:=hz6.ah Hm.le fun r hr=>Hm.ah r (by have:=hz6.lt r hr;exact this) fun e=>by have:=aeI _ e;have:=hzn r hr;omega
 have r8:=uo hz7 (b:=[([97],[50]),([98],[49])]) (y:=.rs false 2 [[.str [97],.str [50]],[.str [98],.str [49]]] (some 2)) ⟨false,2,some 2,rfl,by simp[ba]⟩ (by simp) (by simp)
 simp[c20]
 refine ae (by simpa using r1) ?_
 simp
 refine ae (by simpa using r2) ?_
 simp
 refine ae (by simpa using r3) ?_
 simp
 refine ap (f14 _ _ _) ?_
 simp
 refine ae (by simpa using r4) ?_
 simp
 refine ap (f14 _ _ _) ?_
 simp[wr0]
 refine ae (by simpa using r5) ?_
 simp
 refine ae (by simpa using r6) ?_
 simp[aa]
 refine ae (by simpa using r7) ?_
 simp
 refine ap (f14 _ _ _) ?_
 simp
 refine ap (f14 _ _ _) ?_
 simp[wr0,aa]
 refine ae (by simpa using r8) ?_
 simp
end Go.Ai
namespace Go.Ai
open Go.Bt
def QV (hp:Heap) (nx wr i N:Nat):Prop:=∃rd rp G p root l aM di,sX hp nx wr rd rp G p root l aM di false (5+i*128000)/\Inv p root l aM di/\p.pins=[]/\p.gen<=1+i/\l.length<=i/\di.length<=i/\p.st.length=N
theorem QV.ro {hp nx wr i N hp' nx'} (h:QV hp nx wr i N) (k:Ro hp nx hp' nx'):QV hp' nx' wr i N:=by
 obtain ⟨rd,rp,G,p,root,l,aM,di,h1,h2⟩:=h
 exact ⟨rd,rp,G,p,root,l,aM,di,h1.ro k,h2⟩
theorem QV.row {hp nx wr i N} (h:QV hp nx wr i N):∃rd rp rt lA aM wA,hp wr=some [[.ptr rd 0 0,.ptr rp 0 0,.ptr rt 0 0,lA,iV aM,wA,.v (.bool false)]]/\wr<nx:=by
 obtain ⟨rd,rp,G,p,root,l,aM,di,⟨rt,lA,wA,F,rootS,hI,rfl⟩,h2⟩:=h
 exact ⟨rd,rp,rt,lA,aM,wA,hI.row,hI.lt⟩
theorem QV.act {hp nx wr i N} (h:QV hp nx wr i N) (a:Act) (hv:td a) (hi:i<=1000) :
  ∃hp' nx',aZ E 23 [.ptr wr 0 0,.agg (gI a)] hp nx (.bE []) hp' nx' .e/\QV hp' nx' wr (i+1) N:=by
 obtain ⟨rd,rp,G,p,root,l,aM,di,h1,h2,h3,h4,h5,h6,h7⟩:=h
 obtain ⟨hp',nx',r,G',Cb,p',root',l',rootC',DE,a1,a2,a3,a4,a5,a6,a7,a8,a9,a10⟩:=f23 (M:=i) a hv h1 h2 (by omega) h5 h6 (by omega) (by rw[h3];simp) (by omega) (fun _=>h3)
 exact ⟨hp',nx',r,rd,Cb,G',p',root',l',rootC',DE,by rw[show 5+(i+1)*128000=5+i*128000+128000 by omega];exact a1,a2,by rw[a7,h3],by omega,by omega,by omega,by rw[a8,h7]⟩
theorem Mh (hp:Heap) (nx N:Nat) (h1:4<=N) (h2:N<=300):∃hp' nx' wr,aZ E 21 [iV N] hp nx (.ptr wr 0 0) hp' nx' .e/\QV hp' nx' wr 0 N:=by
 obtain ⟨hp',nx',wr,rd,rp,G,r,h,fr⟩:=f21 hp nx N h1 h2
 exact ⟨hp',nx',wr,r,rd,rp,G,_,0,[],0,[],h,D8 N h2,rfl,by simp[fV],by simp,by simp,by simp[fV]⟩
theorem Mk (s:Int) (h1 : -9223372036854775808<=s) (h2:s<=9223372036854775807):∃N:Nat,4<=N/\N<=300/\IntKind.wrap .i64 (4+(IntKind.wrap .i64 (s.tmod 297+297)).tmod 297)=(N:Int)/\4+(IntKind.wrap .i64 (s.tmod 297+297)).tmod 297=(N:Int):=by
 have a1:s.tmod 297<297:=Int.tmod_lt_of_pos s (by omega)
 have a2 : -297<s.tmod 297:=by
  have:=Int.lt_tmod_of_pos s (b:=297) (by omega)
  omega
 have w1:IntKind.wrap .i64 (s.tmod 297+297)=s.tmod 297+297:=by rw[aj]<;>omega
 rw[w1]
 have b1:(s.tmod 297+297).tmod 297<297:=Int.tmod_lt_of_pos _ (by omega)
 have b2:0<=(s.tmod 297+297).tmod 297:=Int.tmod_nonneg _ (by omega)
 generalize (s.tmod 297+297).tmod 297=z at *
 exact ⟨(4+z).toNat,by omega,by omega,by rw[aj]<;>omega,by omega⟩
end Go.Ai
namespace Go.Ai
open Go.Bt
theorem f4 (s:Int) (hs : -9223372036854775808<=s/\s<=9223372036854775807) (l:List Act) (x:AV) (hx:fa 4 (l.map gI) x) (hz:∀a∈l,a.v.length<=9223372036854775807) (hp nx) :
  aZ E 4 [iV s,x] hp nx (.v (.bool true)) hp nx .p:=by
 obtain ⟨nil,sz,cap,rfl,Eo⟩:=id hx
 refine aF e4 rfl (by simp[vM]) ?_ hp nx
 obtain ⟨N,n1,n2,n3,n4⟩:=Mk s hs.1 hs.2
 obtain ⟨hp1,nx1,wr,r1,h1⟩:=Mh cG 0 N n1 n2
 obtain ⟨b,hb,r2⟩:=f22 l _ hx hz
 simp[c4]
 rw[n3]
 refine ae r1 ?_
 simp
 refine ap (f20 _ _) ?_
 simp
 refine ap (r2 _ _) ?_
 cases b with
 |false=>simp
 |true =>
  obtain ⟨afV,Nf⟩:=hb rfl
  simp
  refine aL (I:=fun (i:Nat) st=>i<=l.length/\st.tm 25=iV i/\st.tm 23=.rs nil sz (l.map gI) cap/\st.tm 24=iV l.length/\st.tm 5=.ptr wr 0 0/\QV st.hp st.nx wr i N) (fun i=>l.length-i) 0 (by simp;exact h1) ?_
  rintro i tm hp nx ⟨iR,t25,t23,t24,t5,hW⟩
  simp only at t25 t23 t24 t5 hW
  by_cases az:i<l.length
  ·have bn:(i:Int)<(l.length:Int):=by omega
   have yG:l[i]?=some l[i]:=zA az
   have bJ:=aS (n:=4) (k:=.i64) (cap:=cap) (j:=i) (cells:=gI l[i]) Eo (by rw[zO,yG];rfl)
   have w1:IntKind.wrap .i64 ((i:Int)+1)=((i+1:Nat):Int):=by rw[aj]<;>omega
   have RA:=Nf _ (zP az)
   generalize l[i]=a at *
   have ck:∀b,Ro hp nx (ab hp nx b) (nx+1):=fun b=>cR
   obtain ⟨aT,ar,r3,Ym⟩:=(hW.ro (ck (some [gI a]))).act a RA (by omega)
   obtain ⟨rd,rp,rt,lA,aM,wA,eb,_⟩:=Ym.row
   simp only[gI]at bJ r3
   simp[t25,t23,t24,t5,bn,bJ,aa,aG,-ag]
   refine ae r3 ?_
   simp[t25,t23,t24,t5,eb,w1]
   exact ⟨i+1,by omega,by omega,by omega,Ym⟩
  ·have rS:i=l.length:=by omega
   subst rS
   obtain ⟨rd,rp,G,p,root,lc,aM,di,a1,a2,a3,a4,a5,a6,a7⟩:=hW
   obtain ⟨aT,ar,r3,_⟩:=f24 a1 a2 (by omega) (by omega)
   simp[t25,t24,t5]
   refine ae r3 ?_
   simp
end Go.Ai
namespace Go.Ai
open Go.Bt
end Go.Ai
namespace Go.Ai
open Go.Bt
end Go.Ai
namespace Go.Ai
open Go.Bt
end Go.Ai
namespace Go.Ai
open Go.Bt
end Go.Ai
namespace Go.Ai
open Go.Bt
end Go.Ai
namespace Go.Ai
open Go.Bt
end Go.Ai
namespace Go.Ai
open Go.Bt
end Go.Ai
namespace Go.Ai
open Go.Bt
end Go.Ai
namespace Go.Ai
open Go.Bt
end Go.Ai
namespace Go.Ai
open Go.Bt
end Go.Ai
namespace Go.Ai
open Go.Bt
end Go.Ai
namespace Go.Ai
open Go.Bt
end Go.Ai
namespace Go.Ai
open Go.ChangeShapes Go.WideShapes Go.ChangeAt Go.RowKit
def jS (w:World):Cx:=⟨⟨fun _=>False,[]⟩,fun _=>none,cG,w⟩
theorem AP {w:World} {B:Nat}:¬(jS w).own B:=by rintro ⟨r,p,h,_⟩;exact h rfl
theorem L9 {w:World} {B:Nat} (h:B<w.heap.size):(jS w).ro B:=⟨h,AP,fun h=>h⟩
theorem J1 {w:World} (hg:uW (jS w)):bf (jS w) 0 :=
 ⟨fun r h=>absurd rfl h,fun r p h=>(by cases h),fun r es p h=>(by cases h),fun r r' p p' h=>absurd rfl h,fun B h=>h.elim,⟨fun r t k h=>(by cases h),fun r t h=>(by cases h)⟩,hg⟩
structure Shape (P:Program) (t:TypeId) {α:Type} (f:α->List AV) (Pr:α->Prop):Prop where
 size:∀x,(f x).length=P.cellsOf t
 read:∀{H:Type} (enc:TypeId×Value->H) (w:World) (sp:Nat->Bool) (iY:Nat) (cs:List Value) (y:DataW H×List MemPlace),DataW.trod enc P w 0 sp true iY t cs=some y->∃x,Pr x/\cu (jS w) (f x) cs
theorem cu.one {c:Cx} {x:AV} {v:Value} (h:aC c x v):cu c [x] [v]:=by
 refine ⟨rfl,fun k av u h1 h2 => ?_⟩
 cases k with
 |zero=>simp at h1 h2;subst h1;subst h2;exact h
 |succ k=>simp at h1
theorem uk {P:Program} {t:TypeId} {k:IntKind} (ht:P.underlying t=some (.int k)) (hc:P.cellsOf t=1):Shape P t (fun n:Int=>[.v (.int k n)]) (fun n=>(Lit.int k n).wf=true):=by
 refine ⟨fun _=>by simp[hc],fun enc w sp iY cs y h => ?_⟩
 cases iY with
 |zero=>simp[DataW.trod]at h
 |succ n =>
  unfold DataW.trod at h
  rw[ht]at h
  split at h<;>simp_all
  obtain ⟨⟨rfl,h1⟩,_⟩:=h
  exact ⟨_,h1,cu.one (.v _)⟩
theorem tf {P:Program} {t:TypeId} (ht:P.underlying t=some .string) (hc:P.cellsOf t=1):Shape P t (fun l:List UInt8=>[.str l]) (fun l=>l.length<=maxLen):=by
 refine ⟨fun _=>by simp[hc],fun enc w sp iY cs y h => ?_⟩
 obtain ⟨s,hs,rfl⟩:∃s:ByteArray,s.size<=maxLen/\cs=[Value.string s]:=by
  cases iY with
  |zero=>simp[DataW.trod]at h
  |succ n =>
   unfold DataW.trod at h
   rw[ht]at h
   split at h<;>(first|(exfalso;simp_all;done)|(split at h<;>first|exact ⟨_,by assumption,rfl⟩|cases h))
 exact ⟨s.data.toList,by simpa using hs,cu.one (by have:=aC.str (c:=jS w) s.data.toList;simpa using this)⟩
structure JR (α:Type) where
 nil:Bool
 xs:List α
 cap:Nat
structure JR.Ok {α:Type} (Pr:α->Prop) (s:JR α):Prop where
 nil:s.nil=true->s.xs=[]
 len:s.xs.length<=s.cap
 cap:s.cap<=maxLen
 all:∀x∈s.xs,Pr x
theorem Fi {α:Type} {n:Nat} {p:Nat->α->Prop} (h:∀i,i<n->∃x,p i x):∃l:List α,l.length=n/\∀(i:Nat) (x:α),l[i]?=some x->p i x:=by
 induction n with
 |zero=>exact ⟨[],rfl,fun i x h=>by simp at h⟩
 |succ n ih =>
  obtain ⟨l,h1,h2⟩:=ih fun i hi=>h i (by omega)
  obtain ⟨x,hx⟩:=h n (by omega)
  refine ⟨l++[x],by simp[h1],fun i y hy => ?_⟩
  rcases zj i n with hi|hi
  ·rw[zR (by omega)]at hy;exact h2 i y hy
  ·rw[za (by omega)]at hy
   have:i=n:=by
    rcases zj n i with h|h
    ·rw[h1,wZ (by simp;omega)]at hy;cases hy
    ·omega
   subst this
   simp[h1]at hy;subst hy;exact hx
theorem tZ {a:Addr} (h:a.spot=none) (n:Nat):a.add n=⟨a.block,a.off+n,none⟩:=by
 obtain ⟨b,o,s⟩:=a
 simp only at h;subst h
 simp only[Addr.add]
 split
 ·rename_i h;subst h;rfl
 ·rfl
theorem DS {P:Program} {t e:TypeId} {α:Type} {f:α->List AV} {Pr:α->Prop} (ht:P.underlying t=some (.slice e)) (hc:P.cellsOf t=1) (he:0<P.cellsOf e) (S:Shape P e f Pr) :
  Shape P t (fun s:JR α=>[.rs s.nil (P.cellsOf e) (s.xs.map f) (some s.cap)]) (JR.Ok Pr):=by
 refine ⟨fun _=>by simp[hc],fun enc w sp iY cs y h => ?_⟩
 rcases DataW.trod_slice ht h with ⟨rfl,rfl⟩|⟨a,len,cap,abS,rest,n,rfl,rfl,rfl,_,hl,hm,hlen,sK,_,_⟩
 ·exact ⟨⟨true,[],0⟩,⟨fun _=>rfl,by simp,by simp,by simp⟩,cu.one (.nil (by simp))⟩
 ·have key:∀i,i<len->∃x,Pr x/\∃cs',cu (jS w) (f x) cs'/\∀j,j<P.cellsOf e->w.cell? ((a.add (i*P.cellsOf e)).add j)=cs'[j]?:=by
   intro i hi
   have CH:i<abS.length:=by omega
   have:=sK i hi
   rw[zA CH]at this
   obtain ⟨cs',h1,h2⟩:=zm.1 this
   obtain ⟨x,hx,hr⟩:=S.read enc w sp n cs' _ h2
   obtain ⟨_,_,h3⟩:=World.cells?_some h1
   exact ⟨x,hx,cs',hr,h3⟩
  obtain ⟨xs,CB,Tp⟩:=Fi key
  refine ⟨⟨false,xs,cap⟩,⟨by simp,by simp;omega,hm,fun x hx => ?_⟩,cu.one ?_⟩
  ·obtain ⟨i,hi,rfl⟩:=zY hx
   exact (Tp i _ (zA hi)).1
  ·have eo:∀(i:Nat) (l:List AV),(xs.map f)[i]?=some l->l.length=P.cellsOf e:=by
    intro i l hl
    simp only[zO,zC]at hl
    obtain ⟨x,_,rfl⟩:=hl
    exact S.size x
   have fg:∀(i j:Nat) (l:List AV) (av:AV),(xs.map f)[i]?=some l->l[j]?=some av->∃u,w.cell? ((a.add (i*P.cellsOf e)).add j)=some u/\aC (jS w) av u:=by
    intro i j l av h1 h2
    simp only[zO,zC]at h1
    obtain ⟨x,hx,rfl⟩:=h1
    obtain ⟨_,cs',hr,FP⟩:=Tp i x hx
    obtain ⟨u,hu,hv⟩:=hr.get h2
    have hj:j<P.cellsOf e:=by
     have:=(zB.1 h2).1
     rw[S.size]at this;exact this
    exact ⟨u,by rw[FP j hj];exact hu,hv⟩
   have Iq:xs.map f≠[]->a.block<w.heap.size/\a.spot=none:=by
    intro bt
    obtain ⟨l,hl⟩:∃l,(xs.map f)[0]?=some l:=⟨(xs.map f)[0]'(zt.2 bt),zA _⟩
    have hll:=eo 0 l hl
    obtain ⟨av,Yk⟩:∃av,l[0]?=some av:=⟨l[0]'(by omega),zA _⟩
    obtain ⟨u,hu,_⟩:=fg 0 0 l av hl Yk
    have e0:(a.add (0*P.cellsOf e)).add 0=a:=by simp[Addr.add]
    rw[e0]at hu
    simp only[World.cell?]at hu
    split at hu
    ·rename_i c _ _ hb
     refine ⟨(zE.1 hb).1,?_⟩
     cases hs:a.spot with
     |none=>rfl
     |some s=>simp[hs]at hu
    ·cases hu
   refine .rs (fun i j=>(w.cell? ⟨a.block,a.off+i*P.cellsOf e+j,none⟩).getD undef) (by simp[CB]) hl (by simp) eo (fun h=>⟨L9 (Iq h).1,(Iq h).2⟩) ?_ ?_
   ·intro i j l av h1 h2
    obtain ⟨u,hu,_⟩:=fg i j l av h1 h2
    have hs:=(Iq (ch h1)).2
    have:(a.add (i*P.cellsOf e)).add j=⟨a.block,a.off+i*P.cellsOf e+j,none⟩:=by rw[tZ hs,tZ rfl]
    rw[this]at hu
    show w.cell? _=_
    rw[hu];rfl
   ·intro i j l av h1 h2
    obtain ⟨u,hu,hv⟩:=fg i j l av h1 h2
    have hs:=(Iq (ch h1)).2
    have:(a.add (i*P.cellsOf e)).add j=⟨a.block,a.off+i*P.cellsOf e+j,none⟩:=by rw[tZ hs,tZ rfl]
    rw[this]at hu
    rw[hu];exact hv
theorem Shape.map {P:Program} {t:TypeId} {α β:Type} {f:α->List AV} {Pr:α->Prop} (S:Shape P t f Pr) {g:β->List AV} {Pg:β->Prop} (hs:∀y,(g y).length=P.cellsOf t)
  (h:∀x,Pr x->∃y,Pg y/\g y=f x):Shape P t g Pg :=
 ⟨hs,fun enc w sp iY cs y hr=>by
  obtain ⟨x,hx,hl⟩:=S.read enc w sp iY cs y hr
  obtain ⟨z,hz,e⟩:=h x hx
  exact ⟨z,hz,by rw[e];exact hl⟩⟩
structure Dk (P:Program) (fs:List Field) (off n:Nat) {α:Type} (f:α->List AV) (Pr:α->Prop):Prop where
 size:∀x,(f x).length=n
 read:∀{H:Type} (enc:TypeId×Value->H) (w:World) (sp:Nat->Bool) (iY:Nat) (cs:List Value) (xs:List (DataW H×List MemPlace)),off+n<=cs.length ->
  (∀(i:Nat) (fd:Field),fs[i]?=some fd->(DataW.trod enc P w 0 sp true iY fd.type ((cs.drop fd.offset).take (P.cellsOf fd.type))).isSome)->∃x,Pr x/\cu (jS w) (f x) ((cs.drop off).take n)
theorem Gf {P:Program} {off:Nat}:Dk P [] off 0 (fun _:Unit=>[]) (fun _=>True) :=
 ⟨fun _=>rfl,fun enc w sp iY cs xs hl h=>⟨(),trivial,⟨by simp,fun k av u h=>by simp at h⟩⟩⟩
theorem lH {P:Program} {fd:Field} {fs:List Field} {off m n:Nat} {α β:Type} {g:α->List AV} {Pg:α->Prop} {f:β->List AV} {Pr:β->Prop} (ho:fd.offset=off) (hm:P.cellsOf fd.type=m)
  (S:Shape P fd.type g Pg) (T:Dk P fs (off+m) n f Pr):Dk P (fd::fs) off (m+n) (fun x:α×β=>g x.1++f x.2) (fun x=>Pg x.1/\Pr x.2):=by
 refine ⟨fun x=>by rw[zG,S.size,T.size,hm],fun enc w sp iY cs xs hl h => ?_⟩
 obtain ⟨y,hy⟩:=wM.1 (h 0 fd rfl)
 obtain ⟨x,hx,hr⟩:=S.read enc w sp iY _ y hy
 obtain ⟨z,hz,yy⟩:=T.read enc w sp iY cs [] (by omega) (fun i fd' hi=>h (i+1) fd' hi)
 refine ⟨(x,z),⟨hx,hz⟩,?_⟩
 rw[ho,hm]at hr
 have:(cs.drop off).take (m+n)=(cs.drop off).take m++(cs.drop (off+m)).take n:=by
  rw[List.take_add,qv]
 rw[this]
 exact hr.append yy
theorem B8 {P:Program} {t:TypeId} {fs:Array Field} {n:Nat} {α:Type} {f:α->List AV} {Pr:α->Prop} (ht:P.underlying t=some (.struct fs)) (hc:P.cellsOf t=n) (S:Dk P fs.toList 0 n f Pr):Shape P t f Pr:=by
 refine ⟨fun x=>by rw[S.size,hc],fun enc w sp iY cs y h => ?_⟩
 obtain ⟨xs,m,_,rfl,hl,hlen,hf⟩:=DataW.trod_struct ht h
 obtain ⟨x,hx,hr⟩:=S.read enc w sp m cs [] (by omega) (fun i fd hi=>by
  have:=hf i fd (by simpa using hi)
  rw[this]
  have CH:i<xs.length:=by
   rw[hlen]
   have:=(zB.1 hi).1
   simpa using this
  simp[CH])
 refine ⟨x,hx,?_⟩
 rw[<-hc,<-hl]at hr
 simpa using hr
structure FG (P:Program) (t:TypeId) {α:Type} (g:α->AV) (Pr:α->Prop):Prop where
 read:∀{H:Type} (enc:TypeId×Value->H) (w:World) (sp:Nat->Bool) (base:Nat) (v:Value) (d:DataW H) (p:List MemPlace),Value.okWide P w .any base t v->DataW.Trod enc P w 0 sp true t v d p->∃x,Pr x/\aC (jS w) (g x) v
theorem JK {P:Program} {t:TypeId} {α:Type} {g:α->AV} {Pr:α->Prop} (S:Shape P t (fun x=>[g x]) Pr) (vq:∀W base v,Value.okWide P W .any base t v->v.cells = #[v]):FG P t g Pr:=by
 refine ⟨fun enc w sp base v d p hv h => ?_⟩
 obtain ⟨iY,h⟩:=h
 obtain ⟨x,hx,hr⟩:=S.read enc w sp iY _ _ h
 rw[vq w base v hv]at hr
 exact ⟨x,hx,hr.2 0 _ _ rfl rfl⟩
theorem SK {P:Program} {t:TypeId} {k:IntKind} (ht:P.underlying t=some (.int k)) (hc:P.cellsOf t=1):FG P t (fun n:Int=>.v (.int k n)) (fun n=>(Lit.int k n).wf=true) :=
 JK (uk ht hc) fun W base v h=>by obtain ⟨n,rfl⟩:=okWide_int ht h;rfl
structure Ds (P:Program) (ts:List TypeId) {α:Type} (g:α->List AV) (Pr:α->Prop):Prop where
 read:∀{H:Type} (enc:TypeId×Value->H) (w:World) (sp:Nat->Bool) (base:Nat) (vs:List Value) (ds:List (DataW H)) (p:List MemPlace),(∀(j:Nat) t v,ts[j]?=some t->vs[j]?=some v->Value.okWide P w .any base t v) ->
  DataW.TrodAll enc P w 0 sp true ts vs ds p->∃x,Pr x/\cu (jS w) (g x) vs
theorem Qa {P:Program}:Ds P [] (fun _:Unit=>[]) (fun _=>True) :=
 ⟨fun enc w sp base vs ds p hv h=>by
  obtain ⟨rfl,rfl,rfl⟩:=trodAll_nil h
  exact ⟨(),trivial,rfl,fun k av u h=>by simp at h⟩⟩
theorem BM {P:Program} {t:TypeId} {ts:List TypeId} {α β:Type} {g:α->AV} {Pg:α->Prop} {f:β->List AV} {Pf:β->Prop} (A:FG P t g Pg) (B:Ds P ts f Pf) :
  Ds P (t::ts) (fun x:α×β=>g x.1::f x.2) (fun x=>Pg x.1/\Pf x.2) :=
 ⟨fun enc w sp base vs ds p hv h=>by
  obtain ⟨v,vs1,d,ds1,a,b,rfl,rfl,rfl,h1,h2⟩:=trodAll_cons h
  obtain ⟨x,hx,hr⟩:=A.read enc w sp base v d a (hv 0 t v rfl rfl) h1
  obtain ⟨y,hy,yy⟩:=B.read enc w sp base vs1 ds1 b (fun j t v h1 h2=>hv (j+1) t v h1 h2) h2
  exact ⟨(x,y),⟨hx,hy⟩,(cu.one hr).append yy⟩⟩
structure Kept (W W':World):Prop where
 size:W.heap.size<=W'.heap.size
 heap:∀B,B<W.heap.size->W'.heap[B]?=W.heap[B]?
 os:W'.os=W.os
 output:W'.output=W.output
theorem MT {P:Program} {E:Env} (hE:Ae P E) (hm:P.follows .mixedOrders=true) {f:Nat} {args:List AV} (hb:gg P f=true) (h:aZ E f args cG 0 (.v (.bool true)) cG 0 .p) {W:World} (hg:uW (jS W)) {cargs:Array Value} (ha:cu (jS W) args cargs.toList) :
  Calls P f cargs W fun e W'=>e=.returned (.bool true)/\Kept W W':=by
 have hX:=BQ hE (fun R hR=>BF hm hR) h (jS W) cargs rfl (J1 hg) ha
 have hC:Calls P f cargs (jS W).w (j9 (jS W) .p (.v (.bool true)) cG 0 0):=by
  rcases hX with ⟨_,h⟩|⟨u,w',hr,_⟩
  ·exact h
  ·rw[tU hb]at hr;cases hr
 refine Calls.mono hC ?_
 rintro e W' ⟨u,ι',rfl,_,hx,_,hv⟩
 have:=hv.bZ
 subst this
 exact ⟨rfl,hx.size,fun B hB=>(hx.ah B hB AP).2,hx.os,hx.output⟩
theorem Kept.keptBut {W W':World} (h:Kept W W') (may:MemPlace->Prop):W.keptBut W' may:=by
 refine ⟨h.os,h.output,fun i hi => ?_⟩
 rw[h.heap i hi]
 have:∃o,W.heap[i]?=some o:=⟨W.heap[i],zL hi⟩
 obtain ⟨o,ho⟩:=this
 rw[ho]
 cases o with
 |cells c t fr=>exact ⟨rfl,rfl,rfl,fun _ _=>rfl⟩
 |map es clock=>exact .inr ⟨rfl,rfl⟩
 |_=>rfl
theorem Kept.sameAt {W W':World} (h:Kept W W') {p:MemPlace} (hp:p.block<W.heap.size):W.sameAt W' p:=by
 cases p with
 |cell b off=>exact cell?_of_heap (h.heap b hp)
 |map b=>exact h.heap b hp
theorem rY {H:Type} {enc:TypeId×Value->H} {P:Program} {W W':World} {sp:Nat->Bool} (h:Kept W W'):∀{ts:List TypeId} {vs:List Value} {ds:List (DataW H)} {p:List MemPlace},(∀q∈p,q.block<W.heap.size)->DataW.TrodAll enc P W 0 sp true ts vs ds p->DataW.TrodAll enc P W' 0 sp true ts vs ds p
 |[],_,_,_,_,ht=>by
  obtain ⟨rfl,rfl,rfl⟩:=trodAll_nil ht
  rfl
 |_::_,_,_,_,hp,ht=>by
  obtain ⟨v,vs1,d,ds1,a,b,rfl,rfl,rfl,h1,h2⟩:=trodAll_cons ht
  obtain ⟨iY,h1⟩:=h1
  exact ⟨a,b,⟨iY,DataW.trod_carry iY _ _ _ h1 fun q hq=>h.sameAt (hp q (by simp[show q∈a from hq]))⟩,rY h (fun q hq=>hp q (by simp[hq])) h2,rfl⟩
theorem MU {H:Type} {enc:TypeId×Value->H} {P:Program} {f:Func} {s:ChangeSpec} {W W':World} {args:Array Value} {ds gs:List (DataW H)} {before:List MemPlace} {tb:TypeId} (K:Kids P (· < P.types.size)) (hz:∀t e,t<P.types.size->P.underlying t=some (.slice e)->0<P.cellsOf e)
  (hp:∀t∈f.params.toList,t<P.types.size) (VO:s.vars=[]) (iQ:f.resultTypes = #[tb]) (htb:P.underlying tb=some .bool)
  (hfn:∀ds:List (DataW H),ds.length=f.params.toList.length->s.fn H ds={ results:=[.lit (.bool true)],args:=ds })
  (hW:DataW.Whole enc P f.params.toList s.vars false W args.toList ds gs before) (hk:Kept W W'):s.post enc P f false true false false W args (.bool true) W':=by
 have az:=hW.lt
 have hold:∀p∈before,(fun b=>decide (b<W.heap.size)) p.block=true:=fun p hp=>by simpa using az p hp
 have hW0:=hW
 obtain ⟨p,q,hA,hV,rfl,LO,hn⟩:=hW
 rw[VO]at hV
 obtain ⟨rfl,rfl⟩:=trodVars_none hV
 have hlen:ds.length=f.params.toList.length:=by
  have:∀{ts:List TypeId} {vs:List Value} {ds:List (DataW H)} {p:List MemPlace},DataW.TrodAll enc P W 0 (fun _=>true) true ts vs ds p->ds.length=ts.length:=by
   intro ts
   induction ts with
   |nil=>intro vs ds p h;obtain ⟨rfl,rfl,rfl⟩:=trodAll_nil h;rfl
   |cons t ts ih=>intro vs ds p h;obtain ⟨_,_,_,_,_,_,rfl,rfl,rfl,_,h2⟩:=trodAll_cons h;simp[ih h2]
  exact this hA
 have hf:=hfn ds hlen
 simp only[zT]at *
 have bz:∀sp:Nat->Bool,(∀q∈p,sp q.block=true)->DataW.TrodAll enc P W' 0 sp true f.params.toList args.toList (s.fn H ds).args p:=by
  intro sp hsp
  rw[hf]
  exact DataW.TrodAll.respare K hz hp (rY hk az hA) hsp
 have Et:∀(b:Nat) (sp:Nat->Bool) (hd:Bool),DataW.TrodAll enc P W' b sp hd f.resultTypes.toList ((Value.bool true).resultList f.resultTypes.size) (s.fn H ds).results []:=by
  intro b sp hd
  rw[hf,iQ]
  exact trodAll_cons_mk (shut_bool htb _) trodAll_mk0
 refine ⟨ds,[],p,[],p,[],hW0,by simpa using Et _ _ _,by simpa using bz _ hold,?_,?_,fun h=>by cases h⟩
 ·rw[VO]
  have:(s.fn H (ds++[])).vars=[]:=by simp[hf]
  rw[this];rfl
 ·exact hk.keptBut _
theorem Rr {P:Program} {E:Env} (hE:Ae P E) (hm:P.follows .mixedOrders=true) {f:Nat} {args:List AV} (hb:gg P f=true) (h:aZ E f args cG 0 (.v (.bool true)) cG 0 .p) {W:World} {cargs:Array Value} (ha:cu (jS W) args cargs.toList) :
  Calls P f cargs W fun e W'=>e=.returned (.bool true)/\Kept W W' :=
 MT hE hm hb h (fun g vs hg=>absurd hg (CQ g vs)) ha
end Go.Ai
namespace Go.Ai
open Go.Proofs Go.ChangeShapes Go.WideShapes Go.ChangeAt Go.RowKit
theorem yR:Tryz.prog.cellsOf 3=1:=by kernel_rfl
theorem Db:Tryz.prog.cellsOf 9=1:=by kernel_rfl
theorem JA:Tryz.prog.cellsOf 40=1:=by kernel_rfl
theorem xz:Tryz.prog.cellsOf 45=4:=by kernel_rfl
def Fx (a:Act):Prop:=a.k.length<=maxLen/\a.v.length<=maxLen
def Il (n:Int):Prop:=(Lit.int .i64 n).wf=true
theorem Zz:Shape Tryz.prog 45 gI Fx :=
 (B8 Tryz.underlying45 xz
  (lH (m:=1) (n:=3) rfl yR (uk Tryz.underlying3 yR)
  (lH (m:=1) (n:=2) rfl Db (tf Tryz.underlying9 Db)
  (lH (m:=1) (n:=1) rfl Db (tf Tryz.underlying9 Db)
  (lH (m:=1) (n:=0) rfl yR (uk Tryz.underlying3 yR) Gf))))).map (fun _=>xz.symm) fun x h=>⟨⟨x.1,x.2.1,x.2.2.1,x.2.2.2.1⟩,⟨h.2.1,h.2.2.1⟩,rfl⟩
theorem UQ:Shape Tryz.prog 40 (fun s:JR Act=>[.rs s.nil 4 (s.xs.map gI) (some s.cap)]) (JR.Ok Fx) :=
 (DS Tryz.underlying40 JA (by rw[xz];decide) Zz).map (fun _=>JA.symm) fun x h=>⟨x,h,by rw[xz]⟩
set_option maxRecDepth 100000 in
theorem SL:FG Tryz.prog 40 (fun s:JR Act=>.rs s.nil 4 (s.xs.map gI) (some s.cap)) (JR.Ok Fx) :=
 JK UQ fun W base v h=>by obtain ⟨a,b,c,rfl⟩:=okWide_slice Tryz.underlying40 h;rfl
theorem Xr:FG Tryz.prog 3 (fun n:Int=>.v (.int .i64 n)) Il:=SK Tryz.underlying3 yR
theorem fa.of {α:Type} {n:Nat} {f:α->List AV} {Pr:α->Prop} {s:JR α} (h:JR.Ok Pr s):fa n (s.xs.map f) (.rs s.nil n (s.xs.map f) (some s.cap)) :=
 ⟨_,_,_,rfl,.inr rfl,fun hn=>by rw[h.nil hn];rfl⟩
theorem Xq:Ds Tryz.prog [3,40] (fun x:Int×JR Act×Unit=>[.v (.int .i64 x.1),.rs x.2.1.nil 4 (x.2.1.xs.map gI) (some x.2.1.cap)]) (fun x=>Il x.1/\JR.Ok Fx x.2.1/\True):=BM Xr (BM SL Qa)
set_option maxRecDepth 100000 in
theorem aan:Kids Tryz.prog (· < Tryz.prog.types.size):=kids_rows (by kernel_rfl) (by kernel_rfl)
set_option maxRecDepth 100000 in
theorem abq:∀t e,t<Tryz.prog.types.size->Tryz.prog.underlying t=some (.slice e)->0<Tryz.prog.cellsOf e:=slices_full_of Tryz.prog (by kernel_rfl)
theorem VE {n:Int} (h:Il n) : -9223372036854775808<=n/\n<=9223372036854775807:=by
 simp only[Il,Lit.wf,zM,decide_eq_true_eq]at h
 exact h
theorem SN {s:JR Act} (h:JR.Ok Fx s):∀a∈s.xs,a.v.length<=9223372036854775807:=fun a ha=>by
 have h1:=(h.all a ha).2
 have e:maxLen=9223372036854775807:=by decide +kernel
 rw[e]at h1
 exact h1
end Go.Ai
