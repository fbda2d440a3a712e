/- Part 7 of what the proof rests on. -/
import Derived.Test.YtblopagmddgkjaaGreatK6
set_option linter.unusedVariables false
set_option linter.unusedSimpArgs false
set_option maxHeartbeats 4000000
namespace Go.Ai
open Go.Bt
theorem oJ.vr {hp nx wr rd rp rt lA wA F p root l aK cJ bad rootS B Fp view} {t:T} {x y:AV} (h:oJ hp nx wr rd rp rt lA wA F p root l aK cJ bad rootS B) (hI:th hp nx rt rp rd root x y Fp t rootS view B) (Sx:F=rt::(bf x++(bf y++Fp))) {hp' nx' Kg p' kw ej}
  (hP:ja hp' nx' rp rd Kg p' kw ej B) (hF:Fr Fp hp nx Kg hp' nx') (vG:eh ej p'.gen kw) :
  th hp' nx' rt rp rd root x y Kg ⟨p',t.put,t.old⟩ kw ej B/\oJ hp' nx' wr rd rp rt lA wA (rt::(bf x++(bf y++Kg))) p' root l aK cJ bad kw B/\Fr (wr::F) hp nx (wr::(rt::(bf x++(bf y++Kg)))) hp' nx':=by
 obtain ⟨a,b⟩:=hI.vr hP hF (zD _) vG
 rw[<-Sx]at b
 obtain ⟨c,d⟩:=h.tree ⟨x,y,Kg,ej,a,rfl⟩ b
 exact ⟨a,c,d⟩
theorem Fr.wide {F G hp nx F' hp' nx'} (h:Fr F hp nx F' hp' nx') (hs:∀r∈F,r∈G):Fr G hp nx F' hp' nx' :=
 ⟨h.le,fun r u1 u2=>h.ah r u1 fun e=>u2 (hs r e),fun r hr=>(h.sub r hr).imp (hs r) id⟩
theorem Fr.cons {a F hp nx F' hp' nx'} (h:Fr F hp nx F' hp' nx'):Fr (a::F) hp nx (a::F') hp' nx' :=
 ⟨h.le,fun r u1 u2=>h.ah r u1 fun e=>u2 (zu _ e),fun r hr=>by
  rcases zH.1 hr with rfl|hr
  ·exact .inl (by simp)
  ·exact (h.sub r hr).imp (zu _) id⟩
def Qm:cC:=match c26.body with | .seq _ (.seq _ (.seq _ t))=>t|_=>.skip
theorem f26 {hp nx wr rd rp G p root l aK cJ B} (se:Bool) (h:uj hp nx wr rd rp G p root l aK cJ false B) (hi:Inv p root l aK cJ) (hg:p.gen+1<=1000000000000) (Wy:∀g∈p.pins,g<=1000000000000) (hB:B<=400000000) (ha:se=true->p.pins=[]) :
  ∃hp' nx' G' Cp p',aY E 26 [.ptr wr 0 0,.v (.bool se)] hp nx (.bE []) hp' nx' .e/\uj hp' nx' wr rd Cp G' p' root l root l false B/\Inv p' root l root l/\(se=false->Cp=rp/\p'=p.ch)/\p'.gen=p.gen+1/\p'.pins=p.pins/\p'.st.length=p.st.length/\p'.free=p.ch.free/\Fr G hp nx G' hp' nx':=by
 have main:=an (P:=fun w hp' nx'=>w=.bE []/\∃G' Cp p',uj hp' nx' wr rd Cp G' p' root l root l false B/\Inv p' root l root l/\(se=false->Cp=rp/\p'=p.ch)/\p'.gen=p.gen+1/\p'.pins=p.pins/\p'.st.length=p.st.length/\p'.free=p.ch.free/\Fr G hp nx G' hp' nx') e26 (args:=[.ptr wr 0 0,.v (.bool se)]) rfl (hp:=hp) (nx:=nx) ?_
 ·obtain ⟨w,hp',nx',r,rfl,G',Cp,p',h1⟩:=main
  exact ⟨hp',nx',G',Cp,p',r,h1⟩
 obtain ⟨rt,lA,wA,F,rootS,hI,rfl⟩:=h
 have row:=hI.row
 simp only[ez]at row
 obtain ⟨t,⟨x,y,Fp,view,hT,Sx⟩,rfl⟩:=hI.tr
 obtain ⟨hp1,nx1,S8,r1,Mf,DQ⟩:=f28 hT.pg (s:=[114]) (by simp) hg Wy (by omega)
 have Lo:eh (fun m=>if m=(t.p.gen+1) % 2 then eo (t.p.gen+1) [114] else view m) t.p.ch.gen [114]:=hT.ok.ch (by simp) hg
 obtain ⟨oF,uu,frA⟩:=hI.vr hT Sx (Mf.more (wT _)) DQ Lo
 have Uc:=HK hi (by omega)
 have x6:=uu.row
 simp only[ez]at x6
 obtain ⟨iO,frB⟩:=uu.write uu.hl uu.hl (rootC':=root) (bad':=false)
 obtain ⟨H2,oH⟩:∃H2,H2=ab hp1 wr (some (ez rd rp rt lA root lA false)):=⟨_,rfl⟩
 rw[<-oH]at iO frB
 have abE:=frA.trans frB
 have agv:=iO.nF
 obtain ⟨TC,hTC⟩:∃TC,TC=Qm:=⟨_,rfl⟩
 have Ob:=hTC
 simp only[Qm,c26]at Ob
 simp only[c26]
 rw[<-Ob]
 have agl:wr≠rt:=fun e=>hI.nF (by rw[Sx];simp[e])
 obtain ⟨ln,lz,lc,hlA,_⟩:=id hI.hl
 subst hlA
 have r2:∀(H:Heap),(∀r∈rt::(bf x++(bf y++S8)),H r=hp1 r)->aY E 18 [.ptr rt 0 0] H nx1 (iV root) H nx1 .e:=fun H hH=>f18 ⟨x,y,S8,_,oF.ah (zD _) hH,rfl⟩
 have agm:∀b:Bool,ab hp1 wr (some [[AV.ptr rd 0 0,.ptr rp 0 0,.ptr rt 0 0,.rs ln lz (l.map bb) lc,iV aK,wA,.v (.bool b)]]) wr=some [[AV.ptr rd 0 0,.ptr rp 0 0,.ptr rt 0 0,.rs ln lz (l.map bb) lc,iV aK,wA,.v (.bool b)]]:=fun b=>by simp
 simp[row]
 refine ae r1 ?_
 simp
 refine ap (f14 _ _ _) ?_
 simp[x6,aa]
 refine ae (r2 _ fun r hr=>by simp[show ¬r=wr from fun e=>uu.nF (e▸hr)]) ?_
 have EY:ab hp1 wr (some [[AV.ptr rd 0 0,.ptr rp 0 0,.ptr rt 0 0,.rs ln lz (l.map bb) lc,iV root,.rs ln lz (l.map bb) lc,.v (.bool false)]])=H2:=oH.symm
 simp[aa,aG,EY]
 have hwF:∀r∈S8,r∈rt::(bf x++(bf y++S8)):=fun r hr=>by simp[hr]
 cases se with
 |false =>
  simp
  exact ⟨_,rp,t.p.ch,⟨rt,_,_,_,[114],iO,rfl⟩,Uc,⟨rfl,rfl⟩,rfl,rfl,gZ _,rfl,abE⟩
 |true =>
  have oC:=ha rfl
  have hP2:=(Mf.more (wT B)).ah (hp':=H2) (zD _) fun r hr=>by rw[oH];simp[show ¬r=wr from fun e=>uu.nF (e▸hwF r hr)]
  obtain ⟨kr,o6,r3,Cq⟩:=f25 hP2
  have hP3:=hP2.ro Cq
  have ju:=iO.ro Cq
  have fy:=iO.row
  have iw:=ju.row
  simp only[ez]at fy iw
  obtain ⟨cU,rm,Fd,hPI,afn⟩:=hP3
  have hFd:∀r∈Fd,r∈S8:=fun r hr=>by rw[afn];simp[hr]
  obtain ⟨fW,sN,Vk,F4,r4,hP4,oI⟩:=f31 hPI.hd hPI.N4 Lo (by omega)
  have aff:=Dp hi oC (by omega)
  have EN:=MV (p:=t.p.ch) (view:=fun m=>if m=(t.p.gen+1) % 2 then eo (t.p.gen+1) [114] else view m) (gen:=t.p.ch.gen) (N:=t.p.ch.st.length) rfl
  obtain ⟨q,hq,hqi,hqf,hqg,hqp,R9,ur⟩:=QC Uc (show t.p.ch.pins=[] from oC) aff (gen:=t.p.ch.gen) (rd:=fun m=>(mA ((fun m=>if m=(t.p.gen+1) % 2 then eo (t.p.gen+1) [114] else view m) m)).map fun x=>(x.1,x.2.2))
   fun m hm=>(hPI.rdv m (xH hm).1 (xH hm).2).symm
  have aeJ:eh (fun m=>if m=(t.p.gen+1) % 2 then eo (t.p.gen+1) [114] else view m) (gd t.p.ch.st.length t.p.ch.gen fun m=>if m=(t.p.gen+1) % 2 then eo (t.p.gen+1) [114] else view m).gen [114]:=Lo
  obtain ⟨v5,oB,rF,F5,r5,fr5,m5⟩:=f13 hP4 aeJ (by omega) root (by have:=Ij hi;omega)
  rw[EN,hq]at m5
  obtain ⟨rfl,uO⟩:=m5
  have CO:wr∉Fd:=fun e=>ju.nF (hwF _ (hFd _ e))
  have Wb:wr∉F4:=fun e=>(oI.sub _ e).elim CO (by have:=ju.lt;omega)
  have abg:=oI.le
  have Si:=fr5.le
  have TN:=ju.lt
  have vZ:fW wr=_:=(oI.ah wr TN CO).trans iw
  have MF:oB wr=_:=(fr5.ah wr (by omega) Wb).trans vZ
  have hw5:wr∉F5:=fun e=>(fr5.sub _ e).elim Wb (by omega)
  have afs:Fr (wr::(rt::(bf x++(bf y++S8)))) kr o6 (wr::F5) oB rF:=((oI.trans fr5).wide fun r hr=>hwF r (hFd r hr)).cons
  obtain ⟨x5,y5,Fp5,ZI,Ss,gH⟩:=id uO
  obtain ⟨hp6,nx6,r6,Tp⟩:=f25 Ss.pg
  have Gc:=uO.ro Tp
  have ad1:hp6 wr=_:=(Tp.ah wr (by omega)).trans MF
  have afr:=afs.trans (Tp.fr _)
  have fin:oJ (ab hp6 wr (some (ez rd Vk sN (.rs ln lz (l.map bb) lc) root (.rs ln lz (l.map bb) lc) false))) nx6 wr rd Vk sN (.rs ln lz (l.map bb) lc) (.rs ln lz (l.map bb) lc) F5 q root l root l false [114] B /\
    Fr (wr::F5) hp6 nx6 (wr::F5) (ab hp6 wr (some (ez rd Vk sN (.rs ln lz (l.map bb) lc) root (.rs ln lz (l.map bb) lc) false))) nx6:=by
   refine ⟨⟨⟨_,Gc.ah (zD _) fun r hr=>by simp[show ¬r=wr from fun e=>hw5 (e▸hr)],rfl⟩,by simp,hI.hl,hI.hl,by have:=Tp.le;omega,hw5⟩,⟨zD _,fun r u1 u2 => ?_,fun r hr=>.inl hr⟩⟩
   simp only[zH,not_or]at u2
   simp[u2.1]
  obtain ⟨hI7,HC⟩:=fin
  simp only[ez]at hI7 HC
  rw[hTC]
  simp[Qm,c26,fy]
  refine ae r3 ?_
  simp[iw]
  refine ae r4 ?_
  simp
  refine ap (f14 _ _ _) ?_
  simp[vZ]
  refine ae r5 ?_
  simp
  refine ap (f14 _ _ _) ?_
  simp
  refine ae r6 ?_
  simp[hqf,ad1,aa,aG]
  exact ⟨_,Vk,q,⟨sN,_,_,F5,[114],hI7,rfl⟩,hqi,hqg,by rw[hqp,oC],R9.trans (gZ _),hqf,abE.trans ((Cq.fr _).trans (afr.trans HC))⟩
end Go.Ai
namespace Go.Ai
open Go.Bt
theorem Kq (k:Bs):al k []=false:=by cases k<;>rfl
theorem RQ (k:Bs):mc [] [] k=true:=by simp[mc,Kq]
theorem filter_all (l:List (Bs×Bs)):(l.filter fun p=>mc [] [] p.1)=l:=wX.2 fun p _=>RQ p.1
theorem dD.own {hp nx sz es x} (h:dD hp nx sz es x):cT hp nx sz es x:=by
 rcases h with ⟨rfl,rfl⟩|⟨r,h1,rfl,h2⟩
 ·exact cT.nil
 ·exact .inr ⟨r,h1,rfl,h2⟩
theorem Ba {hp nx x y} {a b:List (Bs×Bs)} (hx:dD hp nx 2 (a.map bb) x) (hy:eV 2 (b.map bb) y) (ha:a.length<=1000000) (hb:b.length<=1000000):aY E 33 [x,y] hp nx (.v (.bool (decide (a=b)))) hp nx .e:=by
 obtain ⟨nil,z,cap,h1,h2,h3⟩:=gn (k:=4) hx.own (cq _)
 obtain ⟨yn,yz,yc,rfl,hyz⟩:=id hy
 refine na (args0:=[.rs nil z (a.map bb) cap,.rs yn yz (b.map bb) yc]) ?_ rfl (f33 a b _ _ ⟨nil,z,cap,rfl,h2,h3⟩ hy ha hb _ _)
 have e2:kh 6 hp (.rs yn yz (b.map bb) yc)=some (.rs yn yz (b.map bb) yc):=aq (by simp[cq])
 rw[br,h1,br,e2]
 rfl
theorem oJ.KE {hp nx wr rd rp rt lA wA F p root l aK cJ bad rootS B} (h:oJ hp nx wr rd rp rt lA wA F p root l aK cJ bad rootS B) (hB:B<=1000000000):∃Fp view,Gg hp nx rt rp rd Fp p rootS view B/\FU hp rt rp root:=by
 obtain ⟨t,⟨x,y,Fp,view,hI,rfl⟩,rfl⟩:=h.tr
 exact ⟨Fp,view,hI.KE hB,⟨⟨_,hI.ix⟩⟩⟩
end Go.Ai
namespace Go.Ai
open Go.Bt
theorem uj.more {hp nx wr rd rp G p root l aK cJ bad B B'} (h:uj hp nx wr rd rp G p root l aK cJ bad B) (hb:B<=B'):uj hp nx wr rd rp G p root l aK cJ bad B':=by
 obtain ⟨rt,lA,wA,F,rootS,hI,rfl⟩:=h
 obtain ⟨t,ht,he⟩:=hI.tr
 exact ⟨rt,lA,wA,F,rootS,⟨⟨t,ht.more hb,he⟩,hI.row,hI.hl,hI.hw,hI.lt,hI.nF⟩,rfl⟩
def DH (hp:Heap) (nx:Nat) (G:List Nat) (wr rd rp:Nat) (p:PM) (M B:Nat) (seven:Prop) (hp':Heap) (nx':Nat):Prop:=∃G' Cp p' root' l' rootC' DV,uj hp' nx' wr rd Cp G' p' root' l' rootC' DV false (B+128000)/\Inv p' root' l' rootC' DV/\Fr G hp nx G' hp' nx' /\
 (¬seven->Cp=rp/\∀g r0 l0,g∈p.pins->Kept p g r0 l0->Kept p' g r0 l0)/\p.gen<=p'.gen/\p'.gen<=p.gen+1/\p'.pins=p.pins/\p'.st.length=p.st.length/\l'.length<=M+1/\DV.length<=M+1
theorem xU {hp nx G wr rd rp p M B hp' nx' G' p' root' l' aK cJ} {s:Prop} (h1:uj hp' nx' wr rd rp G' p' root' l' aK cJ false (B+128000)) (h2:Inv p' root' l' aK cJ) (h3:Fr G hp nx G' hp' nx') (h4:Step p p') (h5:l'.length<=M+1) (h6:cJ.length<=M+1):DH hp nx G wr rd rp p M B s hp' nx' :=
 ⟨G',rp,p',root',l',aK,cJ,h1,h2,h3,fun _=>⟨rfl,fun g r0 l0 _ k=>h4.keeps k⟩,by rw[h4.gen];omega,by rw[h4.gen];omega,h4.pins,h4.len,h5,h6⟩
theorem Ct (lo hi:Bs) (n:Nat) (l:List (Bs×Bs)):fB lo hi (n:Int) l=(l.filter fun p=>mc lo hi p.1).take (min n 20000):=by
 unfold fB
 congr 1
 omega
theorem Cs (lo hi:Bs) {n:Int} (h:n<0) (l:List (Bs×Bs)):fB lo hi n l=[]:=by
 unfold fB
 rw[show (min n 20000).toNat=0 by omega,List.take_zero]
theorem f23 {hp nx wr rd rp G p root l aK cJ B M} (a:Act) (hv:tw a) (h:uj hp nx wr rd rp G p root l aK cJ false B) (hi:Inv p root l aK cJ) (hM:M<=10000) (hll:l.length<=M) (T6:cJ.length<=M) (hg:p.gen+1<=1000000000000) (Wy:∀g∈p.pins,g<=1000000000000) (hB:B<=200000000) (ha:a.kind=7->p.pins=[]) :
  ∃hp' nx',aY E 23 [.ptr wr 0 0,.agg (fI a)] hp nx (.bE []) hp' nx' .e/\DH hp nx G wr rd rp p M B (a.kind=7) hp' nx':=by
 obtain ⟨S,hS⟩:∃S,S=(a.kind=7):=⟨_,rfl⟩
 rw[<-hS]
 have main:=an (P:=fun w hp' nx'=>w=.bE []/\DH hp nx G wr rd rp p M B S hp' nx') e23 (args:=[.ptr wr 0 0,.agg (fI a)]) rfl (hp:=hp) (nx:=nx) ?_
 ·obtain ⟨w,hp',nx',r,rfl,h1⟩:=main
  exact ⟨hp',nx',r,h1⟩
 have az:=h.lt
 obtain ⟨kind,k,v,n⟩:=a
 obtain ⟨H1,fw⟩:∃H1,H1=ab hp nx (some [fI ⟨kind,k,v,n⟩]):=⟨_,rfl⟩
 have bZ:Ro hp nx H1 (nx+1):=by rw[fw];exact cN
 have b3:H1 nx=some [fI ⟨kind,k,v,n⟩]:=by simp[fw]
 simp only[fI]at b3 fw ⊢
 have h0:=h.ro bZ
 have Xn:=bZ.fr G
 have nG:nx∉G:=fun e=>by have:=az _ e;omega
 have wG:¬wr=nx:=by
  obtain ⟨rt,lA,wA,F,rootS,hI,rfl⟩:=h
  have:=hI.lt;omega
 by_cases VZ:kind=0\/kind=1\/kind=2
 ·obtain ⟨aT,ar,G2,p2,MG,l2,r2,w2,i2,s2,n2,f2⟩:=f48 h0 hi (by omega) (by omega) k (Act.value ⟨kind,k,v,n⟩)
  have r1:=fun hp nx=>f49 ⟨kind,k,v,n⟩ hv hp nx
  simp only[fI]at r1
  have fin:DH hp nx G wr rd rp p M B S aT ar:=xU (w2.more (by omega)) i2 (Xn.trans f2) s2 (by omega) (by omega)
  rcases VZ with rfl|rfl|rfl
  all_goals
   simp[c23,<-fw,b3]
   refine ap (r1 _ _) ?_
   simp
   refine ae r2 ?_
   simp
   exact fin
 ·simp only[not_or]at VZ
  obtain ⟨n0,n1,n2⟩:=VZ
  by_cases k3:kind=3
  ·subst k3
   obtain ⟨aT,ar,G2,p2,MG,l2,r2,w2,i2,s2,n2,f2⟩:=f50 h0 hi (by omega) (keys:=[k,v]) (kA:=.rs false 1 [[.str k],[.str v]] (some 2)) ⟨false,1,some 2,rfl,by simp⟩ (by simp) (by omega)
   have fin:DH hp nx G wr rd rp p M B S aT ar:=xU (w2.more (by simp)) i2 (Xn.trans f2) s2 (by omega) (by omega)
   simp[c23,<-fw,b3]
   refine ae (by simpa [aa] using r2) ?_
   simp
   exact fin
  ·by_cases k4:kind=4
   ·subst k4
    obtain ⟨rt,lA,wA,F,rootS,hI,rfl⟩:=h0
    have row:=hI.row
    simp only[ez]at row
    obtain ⟨Fp,view,lC,ix⟩:=hI.KE (by omega)
    obtain ⟨aT,ar,r2,vm⟩:=f10 lC ix k
    rw[C3 hi k]at r2
    have iO:=hI.ro vm
    have fy:=iO.row
    simp only[ez]at fy
    have b3':=(vm.ah nx (by omega)).trans b3
    have r3:=fun hp nx=>f51 l lA hI.hl (by omega) k hp nx
    obtain ⟨nj,oI⟩:=iO.write iO.hl iO.hw (rootC':=aK) (bad':=false)
    simp only[ez]at nj oI
    have fin:DH hp nx (wr::F) wr rd rp p M B S _ ar:=xU (uj.more ⟨rt,lA,wA,F,rootS,nj,rfl⟩ (by omega)) hi (Xn.trans ((vm.fr _).trans oI)) (.refl p) (by omega) (by omega)
    simp[c23,<-fw,b3,row]
    refine ae r2 ?_
    cases hk:Bt.look l k with
    |none =>
     rw[hk]at r3
     simp only[Ew,qM,Option.isSome_none]at r3
     simp[C5,fy,b3',row,b3]
     refine ap (r3 _ _) ?_
     simp[fy]
     refine ap (f14 _ _ _) ?_
     simp[fy,aa]
     exact fin
    |some w =>
     rw[hk]at r3
     simp only[Ew,wJ,jH]at r3
     simp[C5,fy,b3',row,b3]
     refine ap (r3 _ _) ?_
     simp[fy]
     refine ap (f14 _ _ _) ?_
     simp[fy,aa]
     exact fin
   ·by_cases k5:kind=5
    ·subst k5
     obtain ⟨rt,lA,wA,F,rootS,hI,rfl⟩:=h0
     have row:=hI.row
     simp only[ez]at row
     obtain ⟨Fp,view,lC,ix⟩:=hI.KE (by omega)
     have aez:∃x aT ar,aY E 11 [.ptr rt 0 0,.str k,.str v,iV n] H1 (nx+1) (.bE [x,iV 0]) aT ar .e/\Ro H1 (nx+1) aT ar/\dD aT ar 2 ((fB k v n l).map bb) x:=by
      by_cases hn:n<0
      ·obtain ⟨aT,ar,r2,vm⟩:=afA lC ix k v hn
       rw[Cs k v hn]
       exact ⟨_,aT,ar,r2,vm,.inl ⟨rfl,rfl⟩⟩
      ·obtain ⟨m,rfl⟩:∃m:Nat,n=(m:Int):=⟨n.toNat,by omega⟩
       obtain ⟨w,aT,ar,r2,vm,m2⟩:=f11 lC ix k v m
       rw[Bg hi]at m2
       obtain ⟨x,rfl,hx,_⟩:=m2
       rw[Ct]
       exact ⟨x,aT,ar,r2,vm,hx⟩
     obtain ⟨x,aT,ar,r2,vm,hx⟩:=aez
     have iO:=hI.ro vm
     have fy:=iO.row
     simp only[ez]at fy
     have b3':=(vm.ah nx (by omega)).trans b3
     obtain ⟨y,hy,r3⟩:=f52 l lA hI.hl (by omega) k v n
     have DK:(fB k v n l).length<=10000:=by
      have h1:(fB k v n l).length<=(l.filter fun p=>mc k v p.1).length:=by unfold fB;rw[wD];omega
      have h2:(l.filter fun p=>mc k v p.1).length<=l.length:=wm _ _
      omega
     have r4:=Ba hx hy (by omega) (by omega)
     obtain ⟨nj,oI⟩:=iO.write iO.hl iO.hw (rootC':=aK) (bad':=false)
     simp only[ez]at nj oI
     have fin:DH hp nx (wr::F) wr rd rp p M B S _ ar:=xU (uj.more ⟨rt,lA,wA,F,rootS,nj,rfl⟩ (by omega)) hi (Xn.trans ((vm.fr _).trans oI)) (.refl p) (by omega) (by omega)
     simp[c23,<-fw,b3,row]
     refine ae r2 ?_
     simp[fy,b3',row,b3]
     refine ap (r3 _ _) ?_
     simp
     refine ae r4 ?_
     simp[fy]
     refine ap (f14 _ _ _) ?_
     simp[fy,aa]
     exact fin
    ·by_cases k67:kind=6\/kind=7
     ·obtain ⟨aT,ar,G2,Vk,p2,r2,w2,i2,e2,g2,Vs,sl2,_,f2⟩:=f26 (decide (kind=7)) h0 hi hg Wy (by omega) (fun e=>ha (by simpa using e))
      have fin:DH hp nx G wr rd rp p M B S aT ar:=by
       refine ⟨G2,Vk,p2,root,l,root,l,w2.more (by omega),i2,Xn.trans f2,fun hk => ?_,by omega,by omega,Vs,sl2,by omega,by omega⟩
       obtain ⟨rfl,rfl⟩:=e2 (by rw[hS]at hk;simpa using hk)
       exact ⟨rfl,fun g r0 l0 hg kk=>Dn kk hg (hi.pin g hg) hi.top⟩
      rcases k67 with rfl|rfl
      all_goals
       simp[c23,<-fw,b3]
       refine ae (by simpa using r2) ?_
       simp
       exact fin
     ·simp only[not_or]at k67
      obtain ⟨n6,n7⟩:=k67
      by_cases k8:kind=8
      ·subst k8
       obtain ⟨rt,lA,wA,F,rootS,hI,rfl⟩:=h0
       have row:=hI.row
       simp only[ez]at row
       obtain ⟨t,⟨x,y,Fp,view,hT,Sx⟩,rfl⟩:=hI.tr
       obtain ⟨hp1,nx1,r1,Mf,DQ⟩:=f53 hT.pg
       have Lo:eh view t.p.gP.gen rootS:=hT.ok
       obtain ⟨oF,uu,frA⟩:=hI.vr hT Sx Mf DQ Lo
       have x6:=uu.row
       simp only[ez]at x6
       obtain ⟨aT,F2,r2,jd,C7⟩:=f15 Mf Lo aK
       have aer:=uu.nF
       have hwp:wr∉Fp:=fun e=>aer (by simp[e])
       have TN:=uu.lt
       have fy:aT wr=_:=(C7.ah wr TN hwp).trans x6
       have mq:wr∉F2:=fun e=>(C7.sub _ e).elim hwp (by omega)
       have frB:Fr (wr::(rt::(bf x++(bf y++Fp)))) hp1 nx1 (wr::F2) aT (nx1+1):=(C7.wide fun r hr=>by simp[hr]).cons
       have IY:=L4 hi
       have fin:oJ (ab aT wr (some (ez rd rp nx1 wA aK wA false))) (nx1+1) wr rd rp nx1 wA wA F2 t.p.gP aK cJ aK cJ false rootS B/\Fr (wr::F2) aT (nx1+1) (wr::F2) (ab aT wr (some (ez rd rp nx1 wA aK wA false))) (nx1+1):=by
        refine ⟨⟨⟨_,jd.ah (zD _) fun r hr=>by simp[show ¬r=wr from fun e=>mq (e▸hr)],rfl⟩,by simp,hI.hw,hI.hw,by omega,mq⟩,⟨zD _,fun r u1 u2 => ?_,fun r hr=>.inl hr⟩⟩
        simp only[zH,not_or]at u2
        simp[u2.1]
       obtain ⟨hI7,HC⟩:=fin
       have hAR:DH hp nx (wr::F) wr rd rp t.p M B S (ab aT wr (some (ez rd rp nx1 wA aK wA false))) (nx1+1) :=
        ⟨_,rp,t.p.gP,aK,cJ,aK,cJ,uj.more ⟨nx1,_,_,F2,rootS,hI7,rfl⟩ (by omega),IY,Xn.trans (frA.trans (frB.trans HC)),fun _=>⟨rfl,fun g r0 l0 _ kk=>FO kk⟩,zD _,Nat.le_succ _,rfl,k7 _,by omega,by omega⟩
       simp only[ez]at hAR
       obtain ⟨wn,wz,wc,hwA,_⟩:=id hI.hw
       subst hwA
       simp[c23,<-fw,b3,row]
       refine ae r1 ?_
       simp[x6]
       refine ae r2 ?_
       simp[fy,x6,aa,aG]
       exact hAR
      ·simp[c23,<-fw,b3,n0,n1,n2,k3,k4,k5,n6,n7,k8]
       exact xU (h0.more (by omega)) hi Xn (.refl p) (by omega) (by omega)
end Go.Ai
namespace Go.Ai
open Go.Bt
def ap0:PM:=gd 20 1 (fY 5)
def UP:Nat×PM×Nat:=uE [98] [49] ap0 0
def Ml:Nat×PM×Nat:=uE [97] [50] UP.2.1 UP.2.2
theorem QB:UP.1=0:=by decide +kernel
theorem QA:Ml.1=0:=by decide +kernel
theorem L2:dQ Ml.2.1.read 12 1 Ml.2.2=1:=by decide +kernel
theorem Qz:(dk [[97],[120]] 0 Ml.2.1 Ml.2.2).1=1/\(dk [[97],[120]] 0 Ml.2.1 Ml.2.2).2.1=0:=by decide +kernel
theorem S5:Inv UP.2.1 UP.2.2 [([98],[49])] 0 []/\Inv Ml.2.1 Ml.2.2 [([97],[50]),([98],[49])] 0 []:=by
 obtain ⟨e,p',root',he,bU,hc⟩:=xC (Ep 20 (by omega)) [98] [49]
 have h1:UP=(e,p',root'):=he
 have e1:=QB
 rw[h1]at e1 ⊢
 simp only at e1
 have i1:Inv p' root' [([98],[49])] 0 []:=by
  rcases hc with ⟨h,_⟩|⟨_,h⟩
  ·omega
  ·exact h
 refine ⟨i1,?_⟩
 obtain ⟨e',p2,MG,Sn,R4,E3⟩:=xC i1 [97] [50]
 have h2:Ml=(e',p2,MG):=by rw[Ml,h1];exact Sn
 have e2:=QA
 rw[h2]at e2 ⊢
 simp only at e2
 rcases E3 with ⟨h,_⟩|⟨_,h⟩
 ·omega
 ·exact h
theorem f20 (hp nx):aY E 20 [] hp nx (.v (.bool true)) hp nx .p:=by
 refine aD e20 rfl (by simp) ?_ hp nx
 obtain ⟨hp1,nx1,rd,rp,F1,r1,d1,DQ⟩:=f47 cG 0 20 (by omega) (by omega)
 obtain ⟨aT,F2,r2,h2,C7⟩:=f15 d1 eh.first 0
 have hpe:gd 20 1 (fY 5)=ap0:=rfl
 rw[hpe]at h2
 obtain ⟨i1,i2⟩:=S5
 obtain ⟨kr,o6,F3,t3,r3,h3,e3,I5⟩:=f16 h2 (key:=[98]) (value:=[49]) (by decide) (by omega)
 have a1:uE [98] [49] ap0 0=UP:=rfl
 simp only[a1]at r3 h3 e3
 obtain ⟨fW,sN,F4,t4,r4,h4,e4,oI⟩:=f16 h3 (key:=[97]) (value:=[50]) (by rw[e3];have:=i1.len;omega) (by omega)
 have a2:uE [97] [50] t3.p UP.2.2=Ml:=by rw[e3];rfl
 rw[a2]at r4 h4 e4
 rw[QB]at r3
 rw[QA]at r4
 obtain ⟨x,y,Fp,view,hTI,mr⟩:=id h4
 have hv:=Bg i2 [] [] 9
 rw[filter_all]at hv
 obtain ⟨w,oB,rF,r5,KA,m5⟩:=f11 (hTI.KE (by omega)) ⟨⟨_,hTI.ix⟩⟩ [] [] 9
 rw[e4,show min 9 20000=9 from rfl,hv]at m5
 obtain ⟨z,rfl,hz,hzn⟩:=m5
 have h5:=h4.ro KA
 obtain ⟨x5,y5,Fp5,ZI,Ss,gH⟩:=id h5
 obtain ⟨hp6,nx6,r6,Tp⟩:=f19 (Ss.KE (by omega)) ⟨⟨_,Ss.ix⟩⟩
 rw[e4,L2]at r6
 have h6:=h5.ro Tp
 obtain ⟨DL,Tu,F7,t7,r7,h7,e7,HC⟩:=f12 h6 (keys:=[[97],[120]]) (kA:=.rs false 1 [[.str [97]],[.str [120]]] (some 2)) ⟨false,1,some 2,rfl,by simp[aN]⟩ (by rw[e4];have:=i2.len;omega) (by simp) (by simp)
 rw[e4,Qz.1,Qz.2]at r7
 have aeV:=h4.lt
 have hz6:=hz.ah Tp.le fun r hr=>Tp.ah r (hz.lt r hr)
 have hz7:=hz6.ah HC.le fun r hr=>HC.ah r (by have:=hz6.lt r hr;exact this) fun e=>by have:=aeV _ e;have:=hzn r hr;omega
 have r8:=Ba hz7 (b:=[([97],[50]),([98],[49])]) (y:=.rs false 2 [[.str [97],.str [50]],[.str [98],.str [49]]] (some 2)) ⟨false,2,some 2,rfl,by simp[bb]⟩ (by simp) (by simp)
 simp[c20]
 refine ae (by simpa using r1) ?_
 simp
 refine ae (by simpa using r2) ?_
 simp
 refine ae (by simpa using r3) ?_
 simp
 refine ap (f14 _ _ _) ?_
 simp
 refine ae (by simpa using r4) ?_
 simp
 refine ap (f14 _ _ _) ?_
 simp[wr0]
 refine ae (by simpa using r5) ?_
 simp
 refine ae (by simpa using r6) ?_
 simp[aa]
 refine ae (by simpa using r7) ?_
 simp
 refine ap (f14 _ _ _) ?_
 simp
 refine ap (f14 _ _ _) ?_
 simp[wr0,aa]
 refine ae (by simpa using r8) ?_
 simp
end Go.Ai
namespace Go.Ai
open Go.Bt
def Rj (hp:Heap) (nx wr i N:Nat):Prop:=∃rd rp G p root l aK cJ,uj hp nx wr rd rp G p root l aK cJ false (5+i*128000)/\Inv p root l aK cJ/\p.pins=[]/\p.gen<=1+i/\l.length<=i/\cJ.length<=i/\p.st.length=N
theorem Rj.ro {hp nx wr i N hp' nx'} (h:Rj hp nx wr i N) (k:Ro hp nx hp' nx'):Rj hp' nx' wr i N:=by
 obtain ⟨rd,rp,G,p,root,l,aK,cJ,h1,h2⟩:=h
 exact ⟨rd,rp,G,p,root,l,aK,cJ,h1.ro k,h2⟩
theorem Rj.act {hp nx wr i N} (h:Rj hp nx wr i N) (a:Act) (hv:tw a) (hi:i<=1000) :
  ∃hp' nx',aY E 23 [.ptr wr 0 0,.agg (fI a)] hp nx (.bE []) hp' nx' .e/\Rj hp' nx' wr (i+1) N:=by
 obtain ⟨rd,rp,G,p,root,l,aK,cJ,h1,h2,h3,h4,h5,h6,h7⟩:=h
 obtain ⟨hp',nx',r,G',Cp,p',root',l',rootC',DV,a1,a2,a3,a4,a5,a6,a7,a8,a9,a10⟩:=f23 (M:=i) a hv h1 h2 (by omega) h5 h6 (by omega) (by rw[h3];simp) (by omega) (fun _=>h3)
 exact ⟨hp',nx',r,rd,Cp,G',p',root',l',rootC',DV,by rw[show 5+(i+1)*128000=5+i*128000+128000 by omega];exact a1,a2,by rw[a7,h3],by omega,by omega,by omega,by rw[a8,h7]⟩
theorem D3 (hp:Heap) (nx N:Nat) (h1:4<=N) (h2:N<=300):∃hp' nx' wr,aY E 21 [iV N] hp nx (.ptr wr 0 0) hp' nx' .e/\Rj hp' nx' wr 0 N:=by
 obtain ⟨hp',nx',wr,rd,rp,G,r,h,fr⟩:=f21 hp nx N h1 h2
 exact ⟨hp',nx',wr,r,rd,rp,G,_,0,[],0,[],h,Ep N h2,rfl,by simp[gd],by simp,by simp,by simp[gd]⟩
theorem Ec (s:Int) (h1 : -9223372036854775808<=s) (h2:s<=9223372036854775807):∃N:Nat,4<=N/\N<=300/\IntKind.wrap .i64 (4+(IntKind.wrap .i64 (s.tmod 297+297)).tmod 297)=(N:Int)/\4+(IntKind.wrap .i64 (s.tmod 297+297)).tmod 297=(N:Int):=by
 have a1:s.tmod 297<297:=Int.tmod_lt_of_pos s (by omega)
 have a2 : -297<s.tmod 297:=by
  have:=Int.lt_tmod_of_pos s (b:=297) (by omega)
  omega
 have w1:IntKind.wrap .i64 (s.tmod 297+297)=s.tmod 297+297:=by rw[aj]<;>omega
 rw[w1]
 have b1:(s.tmod 297+297).tmod 297<297:=Int.tmod_lt_of_pos _ (by omega)
 have b2:0<=(s.tmod 297+297).tmod 297:=Int.tmod_nonneg _ (by omega)
 generalize (s.tmod 297+297).tmod 297=z at *
 exact ⟨(4+z).toNat,by omega,by omega,by rw[aj]<;>omega,by omega⟩
end Go.Ai
namespace Go.Ai
open Go.Bt
end Go.Ai
namespace Go.Ai
open Go.Bt
theorem oJ.XG {hp nx wr rd rp rt lA wA F p root l aK cJ bad rootS B} (h:oJ hp nx wr rd rp rt lA wA F p root l aK cJ bad rootS B) (hc:sf false p root=some p) (hr:root<=1000000000000) (hB:B<=1000000000) :
  ∃hp' nx' F',aY E 17 [.ptr rt 0 0] hp nx (iV 0) hp' nx' .e/\oJ hp' nx' wr rd rp rt lA wA F' p root l aK cJ bad rootS B/\Fr (wr::F) hp nx (wr::F') hp' nx':=by
 obtain ⟨t,ht,rfl⟩:=h.tr
 obtain ⟨hp',nx',F',r,fr,Mb⟩:=f17 ht hB hr hc
 obtain ⟨a,b⟩:=h.tree Mb fr
 exact ⟨hp',nx',F',r,a,b⟩
theorem oJ.check {hp nx wr rd rp rt lA wA F p root l aK cJ bad rootS B cr cw} (h:oJ hp nx wr rd rp rt lA wA F p root l aK cJ bad rootS B) (hi:Inv p root l cr cw) (hB:B<=1000000000) :
  ∃hp' nx' F',aY E 17 [.ptr rt 0 0] hp nx (iV 0) hp' nx' .e/\oJ hp' nx' wr rd rp rt lA wA F' p root l aK cJ bad rootS B/\Fr (wr::F) hp nx (wr::F') hp' nx' :=
 h.XG (LV hi) (by have:=Ij hi;omega) hB
theorem oJ.depth {hp nx wr rd rp rt lA wA F p root l aK cJ bad rootS B cr cw} (h:oJ hp nx wr rd rp rt lA wA F p root l aK cJ bad rootS B) (hi:Inv p root l cr cw) (hB:B<=1000000000) :
  ∃hp' nx' d,aY E 19 [.ptr rt 0 0] hp nx (iV (d:Nat)) hp' nx' .e/\Ro hp nx hp' nx'/\d<=8/\(d=0↔l=[])/\d=dQ p.read 12 1 root:=by
 obtain ⟨Fp,view,lC,ix⟩:=h.KE hB
 obtain ⟨hp',nx',r,ro⟩:=f19 lC ix
 obtain ⟨a,b,c⟩:=BS hi
 exact ⟨hp',nx',_,r,ro,a,b,rfl⟩
theorem oJ.root {hp nx wr rd rp rt lA wA F p root l aK cJ bad rootS B} (h:oJ hp nx wr rd rp rt lA wA F p root l aK cJ bad rootS B):aY E 18 [.ptr rt 0 0] hp nx (iV root) hp nx .e:=by
 obtain ⟨t,ht,rfl⟩:=h.tr
 exact f18 ht
theorem f6 (s:Int) (hs : -9223372036854775808<=s/\s<=9223372036854775807) (l:List Act) (x:AV) (hx:eV 4 (l.map fI) x) (hz:∀a∈l,a.v.length<=9223372036854775807) (hp nx) :
  aY E 6 [iV s,x] hp nx (.v (.bool true)) hp nx .p:=by
 obtain ⟨nil,sz,cap,rfl,CM⟩:=id hx
 refine aD e6 rfl (by simp[pS]) ?_ hp nx
 obtain ⟨N,n1,n2,n3,n4⟩:=Ec s hs.1 hs.2
 obtain ⟨hp1,nx1,wr,r1,h1⟩:=D3 cG 0 N n1 n2
 obtain ⟨b,hb,r2⟩:=f22 l _ hx hz
 simp[c6]
 rw[n3]
 refine ae r1 ?_
 simp
 refine ap (f20 _ _) ?_
 simp
 refine ap (r2 _ _) ?_
 cases b with
 |false=>simp
 |true =>
  obtain ⟨abh,G6⟩:=hb rfl
  simp
  refine aM (I:=fun (i:Nat) st=>i<=l.length/\st.tm 25=iV i/\st.tm 23=.rs nil sz (l.map fI) cap/\st.tm 24=iV l.length/\st.tm 5=.ptr wr 0 0/\Rj st.hp st.nx wr i N) (fun i=>l.length-i) 0 (by simp;exact h1) ?_
  rintro i tm hp nx ⟨iM,t25,t23,t24,t5,hW⟩
  simp only at t25 t23 t24 t5 hW
  by_cases az:i<l.length
  ·have bn:(i:Int)<(l.length:Int):=by omega
   have xe:l[i]?=some l[i]:=zA az
   have bG:=aS (n:=4) (k:=.i64) (cap:=cap) (j:=i) (cells:=fI l[i]) CM (by rw[zM,xe];rfl)
   have w1:IntKind.wrap .i64 ((i:Int)+1)=((i+1:Nat):Int):=by rw[aj]<;>omega
   have Nw:=G6 _ (zP az)
   generalize l[i]=a at *
   have bZ:∀b,Ro hp nx (ab hp nx b) (nx+1):=fun b=>cN
   obtain ⟨aT,ar,r3,Xc⟩:=(hW.ro (bZ (some [fI a]))).act a Nw (by omega)
   obtain ⟨rd,rp,G,p,root,lc,aK,cJ,⟨rt,lA,wA,F,rootS,iO,rfl⟩,a2,a3,a4,a5,a6,a7⟩:=Xc
   have fy:=iO.row
   simp only[ez]at fy
   obtain ⟨kr,o6,F3,r4,ju,I5⟩:=iO.check a2 (by omega)
   have iw:=ju.row
   simp only[ez]at iw
   obtain ⟨fW,sN,d4,r5,ro4,d41,d42,_⟩:=ju.depth a2 (by omega)
   have nj:=ju.ro ro4
   have vZ:=nj.row
   simp only[ez]at vZ
   have r6:=nj.root
   obtain ⟨oB,rF,d5,r7,KA,d51,d52,_⟩:=nj.depth a2 (by omega)
   have hI5:=nj.ro KA
   have MF:=hI5.row
   simp only[ez]at MF
   have d4I:¬(12:Int)<(d4:Int):=by omega
   have d4N:¬12<d4:=by omega
   have ix:=(BS a2).2.2
   obtain ⟨ln,lz,lcp,rfl,_⟩:=id iO.hl
   have hWn:Rj oB rF wr (i+1) N:=⟨rd,rp,_,p,root,lc,aK,cJ,⟨rt,_,wA,F3,rootS,hI5,rfl⟩,a2,a3,a4,a5,a6,a7⟩
   simp only[fI]at bG r3
   simp[t25,t23,t24,t5,bn,bG,aa,aG,-ag]
   refine ae r3 ?_
   simp[t25,t23,t24,t5,fy]
   refine ae r4 ?_
   simp
   refine ap (f14 _ _ _) ?_
   simp[t25,t23,t24,t5,iw,fy]
   refine ae r5 ?_
   simp[d4I,d4N,t25,t23,t24,t5,vZ,iw,fy]
   by_cases fq:lc=[]
   ·have e1:=ix.2 fq
    have e2:=d52.2 fq
    have e3:=d42.2 fq
    subst fq e1 e2 e3
    refine ae r6 ?_
    simp[t25,t23,t24,t5,vZ,iw,fy]
    refine ae r7 ?_
    simp[t25,t23,t24,t5,MF,vZ,iw,fy,w1]
    exact ⟨i+1,by omega,by omega,by omega,hWn⟩
   ·have e1:¬root=0:=fun e=>fq (ix.1 e)
    have e2:¬d5=0:=fun e=>fq (d52.1 e)
    have e3:¬(root:Int)=0:=by omega
    have e4:¬(d5:Int)=0:=by omega
    have e5:¬lc.length=0:=fun e=>fq (zf.1 e)
    have e6:¬(lc.length:Int)=0:=by omega
    refine ae r6 ?_
    simp[t25,t23,t24,t5,vZ,iw,fy,e1,e3,e5,e6,fq]
    refine ae r7 ?_
    simp[t25,t23,t24,t5,MF,vZ,iw,fy,w1,e1,e2,e3,e4,e5,e6,fq]
    exact ⟨i+1,by omega,by omega,by omega,hWn⟩
  ·have pw:i=l.length:=by omega
   subst pw
   obtain ⟨rd,rp,G,p,root,lc,aK,cJ,a1,a2,a3,a4,a5,a6,a7⟩:=hW
   obtain ⟨aT,ar,G2,Vk,p2,r3,h2,i2,_⟩:=f26 true a1 a2 (by omega) (by rw[a3];simp) (by omega) (fun _=>a3)
   obtain ⟨rt,lA,wA,F,rootS,iO,rfl⟩:=h2
   have fy:=iO.row
   simp only[ez]at fy
   obtain ⟨kr,o6,F3,r4,ju,I5⟩:=iO.check i2 (by omega)
   simp[t25,t24,t5]
   refine ae r3 ?_
   simp[t5,fy]
   refine ae r4 ?_
   simp
   refine ap (f14 _ _ _) ?_
   simp
end Go.Ai
namespace Go.Ai
open Go.Bt
theorem V1 {p:PM} {root l du cJ} (h:Inv p root l du cJ):Up l:=by
 obtain ⟨d,ps,hr,ho⟩:=h.OM
 exact hr.up
def XJ:cC:=match c5.body with | .seq _ (.seq _ (.seq _ (.seq _ (.seq _ (.seq _ (.seq _ t))))))=>t|_=>.skip
theorem f5 (s:Int) (hs : -9223372036854775808<=s/\s<=9223372036854775807) (l:List Act) (x:AV) (hx:eV 4 (l.map fI) x) (hz:∀a∈l,a.v.length<=9223372036854775807) (key value:Bs) (hp nx) :
  aY E 5 [iV s,x,.str key,.str value] hp nx (.v (.bool true)) hp nx .p:=by
 obtain ⟨nil,sz,cap,rfl,CM⟩:=id hx
 refine aD e5 rfl (by simp[pS]) ?_ hp nx
 obtain ⟨N,n1,n2,n3,n4⟩:=Ec s hs.1 hs.2
 obtain ⟨hp1,nx1,wr,r1,h1⟩:=D3 cG 0 N n1 n2
 obtain ⟨b,hb,r2⟩:=f22 l _ hx hz
 obtain ⟨TC,hTC⟩:∃TC,TC=XJ:=⟨_,rfl⟩
 have Ob:=hTC
 simp only[XJ,c5]at Ob
 simp only[c5]
 rw[<-Ob]
 simp
 rw[n3]
 refine ae r1 ?_
 simp
 refine ap (f20 _ _) ?_
 simp
 refine ap (r2 _ _) ?_
 cases b with
 |false=>simp
 |true =>
  obtain ⟨abh,G6⟩:=hb rfl
  by_cases ck:60<key.length
  ·have ckI:(60:Int)<(key.length:Int):=by omega
   simp[ck,ckI]
  have ckI:¬(60:Int)<(key.length:Int):=by omega
  by_cases cv:20000<value.length
  ·have cvI:(20000:Int)<(value.length:Int):=by omega
   simp[ck,ckI,cv,cvI]
  have cvI:¬(20000:Int)<(value.length:Int):=by omega
  simp[ck,ckI,cv,cvI]
  refine aM (I:=fun (i:Nat) st=>i<=l.length/\st.tm 44=iV i/\st.tm 42=.rs nil sz (l.map fI) cap/\st.tm 43=iV l.length/\st.tm 9=.ptr wr 0 0/\st.tm 2=.str key/\st.tm 3=.str value/\Rj st.hp st.nx wr i N) (fun i=>l.length-i) 0 (by simp;exact h1) ?_
  rintro i tm hp nx ⟨iM,t25,t23,t24,t5,t2,t3,hW⟩
  simp only at t25 t23 t24 t5 t2 t3 hW
  by_cases az:i<l.length
  ·have bn:(i:Int)<(l.length:Int):=by omega
   have xe:l[i]?=some l[i]:=zA az
   have bG:=aS (n:=4) (k:=.i64) (cap:=cap) (j:=i) (cells:=fI l[i]) CM (by rw[zM,xe];rfl)
   have w1:IntKind.wrap .i64 ((i:Int)+1)=((i+1:Nat):Int):=by rw[aj]<;>omega
   have Nw:=G6 _ (zP az)
   generalize l[i]=a at *
   have bZ:∀b,Ro hp nx (ab hp nx b) (nx+1):=fun b=>cN
   obtain ⟨aT,ar,r3,Xc⟩:=(hW.ro (bZ (some [fI a]))).act a Nw (by omega)
   simp only[fI]at bG r3
   simp[t25,t23,t24,t5,t2,t3,bn,bG,aa,aG,-ag]
   refine ae r3 ?_
   simp[t25,t23,t24,t5,t2,t3,w1]
   exact ⟨i+1,by omega,by omega,by omega,Xc⟩
  ·have pw:i=l.length:=by omega
   subst pw
   obtain ⟨rd,rp,G,p,root,lc,aK,cJ,⟨rt,lA,wA,F,rootS,hI,rfl⟩,a2,a3,a4,a5,a6,a7⟩:=hW
   have row:=hI.row
   simp only[ez]at row
   obtain ⟨aT,ar,d,r3,vm,d1,d2,d3⟩:=hI.depth a2 (by omega)
   have iO:=hI.ro vm
   have fy:=iO.row
   simp only[ez]at fy
   obtain ⟨Fp,view,yO,_,_⟩:=iO.pg
   obtain ⟨kr,o6,r4,Cq⟩:=f25 yO
   have ju:=iO.ro Cq
   have iw:=ju.row
   simp only[ez]at iw
   obtain ⟨t,ht,TO⟩:=ju.tr
   obtain ⟨fW,sN,F4,t4,r5,TQ,R0,oI⟩:=f16 ht (key:=key) (value:=value) (by have:=a2.len;rw[TO];omega) (by omega)
   rw[TO]at r5 TQ R0
   obtain ⟨nj,agA⟩:=ju.tree TQ oI
   obtain ⟨e,p',root',he,bU,kg⟩:=xC a2 key value
   rw[he]at r5 nj R0
   simp only at r5 nj R0
   rw[R0]at nj
   have vZ:=nj.row
   simp only[ez]at vZ
   rw[<-d3]at kg
   have w1:IntKind.wrap .i64 (2*(d:Int))=((2*d:Nat):Int):=by rw[aj]<;>omega
   have w2:IntKind.wrap .i64 (((2*d:Nat):Int)+3)=((2*d+3:Nat):Int):=by rw[aj]<;>omega
   have yV:p.free<=300:=by
    have h1:=wm (fun n=>decide (2<=n)&&decide (p.is n=0)) (List.range p.st.length)
    rw[List.length_range]at h1
    have:=a2.len
    exact wF h1 this
   have fin:∀(need:Nat) (tm':Nat->AV),2*d+3+lh value=need->need<=p.free->∃l',Inv p' root' l' aK cJ/\e=0/\Bt.look l' key=some value:=by
    intro need tm' h1 h2
    rcases kg with ⟨_,_,_,_,h5⟩|⟨h3,h4⟩
    ·omega
    ·refine ⟨_,h4,?_,?_⟩
     ·rw[h3];simp only[gW,if_neg ck,if_neg (show ¬60000<value.length by omega)]
     ·simp only[gW,if_neg ck,if_neg (show ¬60000<value.length by omega)]
      rw[sI (V1 a2)]
      exact M7
   have tail:∀(need:Nat) (tm':Nat->AV),2*d+3+lh value=need->tm' 9=.ptr wr 0 0->tm' 2=.str key->tm' 3=.str value->tm' 12=iV need->W (aY E) TC (yf [.t 8] (.v (.bool true))) ⟨tm',aT,ar⟩:=by
    intro need tm' hn u9 u2 u3 U6
    rw[hTC]
    simp[XJ,c5,u9,u2,u3,U6,fy]
    refine ae r4 ?_
    by_cases c2:p.free<need
    ·have xq:(p.free:Int)<(need:Int):=by omega
     simp[u9,u2,u3,U6,c2,xq]
    ·have xq:¬(p.free:Int)<(need:Int):=by omega
     obtain ⟨l',q1,rfl,q3⟩:=fin need tm' hn (by omega)
     obtain ⟨Fq,vq,aeC,aew⟩:=nj.KE (by omega)
     obtain ⟨oB,rF,r6,KA⟩:=f10 aeC aew key
     rw[C3 q1 key,q3]at r6
     simp[u9,u2,u3,U6,c2,xq,iw]
     refine ae r5 ?_
     simp[u9,u2,u3,U6,vZ]
     refine ae r6 ?_
     simp[C5,u9,u2,u3,U6]
     refine ap (f14 _ _ _) ?_
     simp[u9,u2,u3,U6]
     refine ap (f14 _ _ _) ?_
     simp[u9,u2,u3,U6,wr0]
   simp[t25,t24,t5,t2,t3,row]
   refine ae r3 ?_
   by_cases c1:60<value.length
   ·have xM:(60:Int)<(value.length:Int):=by omega
    have hpv:lh value=(value.length+487) / 488:=by simp only[lh,if_neg (show ¬value.length<=60 by omega)];omega
    have v1:IntKind.wrap .i64 ((value.length:Int)+492)=((value.length+492:Nat):Int):=by rw[aj]<;>omega
    have v2:IntKind.wrap .i64 (((value.length+492:Nat):Int)-5)=((value.length+487:Nat):Int):=by rw[aj]<;>omega
    have v3:((value.length+487:Nat):Int).tdiv 488=(((value.length+487) / 488:Nat):Int):=rfl
    have v3':IntKind.wrap .i64 (((value.length+487) / 488:Nat):Int)=(((value.length+487) / 488:Nat):Int):=by rw[aj]<;>omega
    have v4:IntKind.wrap .i64 (((2*d+3:Nat):Int)+(((value.length+487) / 488:Nat):Int))=((2*d+3+lh value:Nat):Int):=by rw[hpv,aj]<;>omega
    simp[t25,t24,t5,t2,t3,c1,xM,w1,w2,v1,v2,v3,v3',v4,-Int.natCast_add,-Int.natCast_mul,-Int.natCast_ediv]
    exact tail _ _ rfl (by simp[t5]) (by simp[t2]) (by simp[t3]) (by simp[-Int.natCast_add,-Int.natCast_mul])
   ·have xM:¬(60:Int)<(value.length:Int):=by omega
    have hpv:lh value=0:=by simp only[lh,if_pos (show value.length<=60 by omega)]
    simp[t25,t24,t5,t2,t3,c1,xM,w1,w2,-Int.natCast_add,-Int.natCast_mul]
    exact tail (2*d+3) _ (by omega) (by simp[t5]) (by simp[t2]) (by simp[t3]) (by simp[-Int.natCast_add,-Int.natCast_mul])
end Go.Ai
namespace Go.Ai
open Go.Bt
end Go.Ai
namespace Go.Ai
open Go.Bt
end Go.Ai
namespace Go.Ai
open Go.Bt
end Go.Ai
namespace Go.Ai
open Go.Bt
end Go.Ai
namespace Go.Ai
open Go.Bt
end Go.Ai
namespace Go.Ai
open Go.Bt
end Go.Ai
namespace Go.Ai
open Go.Bt
end Go.Ai
namespace Go.Ai
open Go.Bt
end Go.Ai
namespace Go.Ai
open Go.Bt
end Go.Ai
namespace Go.Ai
open Go.Bt
end Go.Ai
namespace Go.Ai
open Go.ChangeShapes Go.WideShapes Go.ChangeAt Go.RowKit
def jZ (w:World):Cx:=⟨⟨fun _=>False,[]⟩,fun _=>none,cG,w⟩
theorem A2 {w:World} {B:Nat}:¬(jZ w).own B:=by rintro ⟨r,p,h,_⟩;exact h rfl
theorem Mt {w:World} {B:Nat} (h:B<w.heap.size):(jZ w).ro B:=⟨h,A2,fun h=>h⟩
theorem Km {w:World} (hg:ve (jZ w)):bg (jZ w) 0 :=
 ⟨fun r h=>absurd rfl h,fun r p h=>(by cases h),fun r es p h=>(by cases h),fun r r' p p' h=>absurd rfl h,fun B h=>h.elim,⟨fun r t k h=>(by cases h),fun r t h=>(by cases h)⟩,hg⟩
structure Shape (P:Program) (t:TypeId) {α:Type} (f:α->List AV) (Pr:α->Prop):Prop where
 size:∀x,(f x).length=P.cellsOf t
 read:∀{H:Type} (enc:TypeId×Value->H) (w:World) (sp:Nat->Bool) (jf:Nat) (cs:List Value) (y:DataW H×List MemPlace),DataW.trod enc P w 0 sp true jf t cs=some y->∃x,Pr x/\cE (jZ w) (f x) cs
theorem cE.one {c:Cx} {x:AV} {v:Value} (h:aC c x v):cE c [x] [v]:=by
 refine ⟨rfl,fun k av u h1 h2 => ?_⟩
 cases k with
 |zero=>simp at h1 h2;subst h1;subst h2;exact h
 |succ k=>simp at h1
theorem uB {P:Program} {t:TypeId} {k:IntKind} (ht:P.underlying t=some (.int k)) (hc:P.cellsOf t=1):Shape P t (fun n:Int=>[.v (.int k n)]) (fun n=>(Lit.int k n).wf=true):=by
 refine ⟨fun _=>by simp[hc],fun enc w sp jf cs y h => ?_⟩
 cases jf with
 |zero=>simp[DataW.trod]at h
 |succ n =>
  unfold DataW.trod at h
  rw[ht]at h
  split at h<;>simp_all
  obtain ⟨⟨rfl,h1⟩,_⟩:=h
  exact ⟨_,h1,cE.one (.v _)⟩
theorem nD {P:Program} {t:TypeId} (ht:P.underlying t=some .string) (hc:P.cellsOf t=1):Shape P t (fun l:List UInt8=>[.str l]) (fun l=>l.length<=maxLen):=by
 refine ⟨fun _=>by simp[hc],fun enc w sp jf cs y h => ?_⟩
 obtain ⟨s,hs,rfl⟩:∃s:ByteArray,s.size<=maxLen/\cs=[Value.string s]:=by
  cases jf with
  |zero=>simp[DataW.trod]at h
  |succ n =>
   unfold DataW.trod at h
   rw[ht]at h
   split at h<;>(first|(exfalso;simp_all;done)|(split at h<;>first|exact ⟨_,by assumption,rfl⟩|cases h))
 exact ⟨s.data.toList,by simpa using hs,cE.one (by have:=aC.str (c:=jZ w) s.data.toList;simpa using this)⟩
structure Gf (α:Type) where
 nil:Bool
 xs:List α
 cap:Nat
structure Gf.Ok {α:Type} (Pr:α->Prop) (s:Gf α):Prop where
 nil:s.nil=true->s.xs=[]
 len:s.xs.length<=s.cap
 cap:s.cap<=maxLen
 all:∀x∈s.xs,Pr x
theorem FB {α:Type} {n:Nat} {p:Nat->α->Prop} (h:∀i,i<n->∃x,p i x):∃l:List α,l.length=n/\∀(i:Nat) (x:α),l[i]?=some x->p i x:=by
 induction n with
 |zero=>exact ⟨[],rfl,fun i x h=>by simp at h⟩
 |succ n ih =>
  obtain ⟨l,h1,h2⟩:=ih fun i hi=>h i (by omega)
  obtain ⟨x,hx⟩:=h n (by omega)
  refine ⟨l++[x],by simp[h1],fun i y hy => ?_⟩
  rcases zj i n with hi|hi
  ·rw[zR (by omega)]at hy;exact h2 i y hy
  ·rw[za (by omega)]at hy
   have:i=n:=by
    rcases zj n i with h|h
    ·rw[h1,wZ (by simp;omega)]at hy;cases hy
    ·omega
   subst this
   simp[h1]at hy;subst hy;exact hx
theorem ui {a:Addr} (h:a.spot=none) (n:Nat):a.add n=⟨a.block,a.off+n,none⟩:=by
 obtain ⟨b,o,s⟩:=a
 simp only at h;subst h
 simp only[Addr.add]
 split
 ·rename_i h;subst h;rfl
 ·rfl
theorem D9 {P:Program} {t e:TypeId} {α:Type} {f:α->List AV} {Pr:α->Prop} (ht:P.underlying t=some (.slice e)) (hc:P.cellsOf t=1) (he:0<P.cellsOf e) (S:Shape P e f Pr) :
  Shape P t (fun s:Gf α=>[.rs s.nil (P.cellsOf e) (s.xs.map f) (some s.cap)]) (Gf.Ok Pr):=by
 refine ⟨fun _=>by simp[hc],fun enc w sp jf cs y h => ?_⟩
 rcases DataW.trod_slice ht h with ⟨rfl,rfl⟩|⟨a,len,cap,ab4,rest,n,rfl,rfl,rfl,_,hl,hm,hlen,sW,_,_⟩
 ·exact ⟨⟨true,[],0⟩,⟨fun _=>rfl,by simp,by simp,by simp⟩,cE.one (.nil (by simp))⟩
 ·have key:∀i,i<len->∃x,Pr x/\∃cs',cE (jZ w) (f x) cs'/\∀j,j<P.cellsOf e->w.cell? ((a.add (i*P.cellsOf e)).add j)=cs'[j]?:=by
   intro i hi
   have CT:i<ab4.length:=by omega
   have:=sW i hi
   rw[zA CT]at this
   obtain ⟨cs',h1,h2⟩:=zm.1 this
   obtain ⟨x,hx,hr⟩:=S.read enc w sp n cs' _ h2
   obtain ⟨_,_,h3⟩:=World.cells?_some h1
   exact ⟨x,hx,cs',hr,h3⟩
  obtain ⟨xs,CN,TI⟩:=FB key
  refine ⟨⟨false,xs,cap⟩,⟨by simp,by simp;omega,hm,fun x hx => ?_⟩,cE.one ?_⟩
  ·obtain ⟨i,hi,rfl⟩:=zY hx
   exact (TI i _ (zA hi)).1
  ·have ew:∀(i:Nat) (l:List AV),(xs.map f)[i]?=some l->l.length=P.cellsOf e:=by
    intro i l hl
    simp only[zM,zC]at hl
    obtain ⟨x,_,rfl⟩:=hl
    exact S.size x
   have fj:∀(i j:Nat) (l:List AV) (av:AV),(xs.map f)[i]?=some l->l[j]?=some av->∃u,w.cell? ((a.add (i*P.cellsOf e)).add j)=some u/\aC (jZ w) av u:=by
    intro i j l av h1 h2
    simp only[zM,zC]at h1
    obtain ⟨x,hx,rfl⟩:=h1
    obtain ⟨_,cs',hr,Gb⟩:=TI i x hx
    obtain ⟨u,hu,hv⟩:=hr.get h2
    have hj:j<P.cellsOf e:=by
     have:=(zB.1 h2).1
     rw[S.size]at this;exact this
    exact ⟨u,by rw[Gb j hj];exact hu,hv⟩
   have IL:xs.map f≠[]->a.block<w.heap.size/\a.spot=none:=by
    intro bt
    obtain ⟨l,hl⟩:∃l,(xs.map f)[0]?=some l:=⟨(xs.map f)[0]'(zt.2 bt),zA _⟩
    have hll:=ew 0 l hl
    obtain ⟨av,YI⟩:∃av,l[0]?=some av:=⟨l[0]'(by omega),zA _⟩
    obtain ⟨u,hu,_⟩:=fj 0 0 l av hl YI
    have e0:(a.add (0*P.cellsOf e)).add 0=a:=by simp[Addr.add]
    rw[e0]at hu
    simp only[World.cell?]at hu
    split at hu
    ·rename_i c _ _ hb
     refine ⟨(zE.1 hb).1,?_⟩
     cases hs:a.spot with
     |none=>rfl
     |some s=>simp[hs]at hu
    ·cases hu
   refine .rs (fun i j=>(w.cell? ⟨a.block,a.off+i*P.cellsOf e+j,none⟩).getD undef) (by simp[CN]) hl (by simp) ew (fun h=>⟨Mt (IL h).1,(IL h).2⟩) ?_ ?_
   ·intro i j l av h1 h2
    obtain ⟨u,hu,_⟩:=fj i j l av h1 h2
    have hs:=(IL (cj h1)).2
    have:(a.add (i*P.cellsOf e)).add j=⟨a.block,a.off+i*P.cellsOf e+j,none⟩:=by rw[ui hs,ui rfl]
    rw[this]at hu
    show w.cell? _=_
    rw[hu];rfl
   ·intro i j l av h1 h2
    obtain ⟨u,hu,hv⟩:=fj i j l av h1 h2
    have hs:=(IL (cj h1)).2
    have:(a.add (i*P.cellsOf e)).add j=⟨a.block,a.off+i*P.cellsOf e+j,none⟩:=by rw[ui hs,ui rfl]
    rw[this]at hu
    rw[hu];exact hv
theorem Shape.map {P:Program} {t:TypeId} {α β:Type} {f:α->List AV} {Pr:α->Prop} (S:Shape P t f Pr) {g:β->List AV} {Pg:β->Prop} (hs:∀y,(g y).length=P.cellsOf t)
  (h:∀x,Pr x->∃y,Pg y/\g y=f x):Shape P t g Pg :=
 ⟨hs,fun enc w sp jf cs y hr=>by
  obtain ⟨x,hx,hl⟩:=S.read enc w sp jf cs y hr
  obtain ⟨z,hz,e⟩:=h x hx
  exact ⟨z,hz,by rw[e];exact hl⟩⟩
structure DA (P:Program) (fs:List Field) (off n:Nat) {α:Type} (f:α->List AV) (Pr:α->Prop):Prop where
 size:∀x,(f x).length=n
 read:∀{H:Type} (enc:TypeId×Value->H) (w:World) (sp:Nat->Bool) (jf:Nat) (cs:List Value) (xs:List (DataW H×List MemPlace)),off+n<=cs.length ->
  (∀(i:Nat) (fd:Field),fs[i]?=some fd->(DataW.trod enc P w 0 sp true jf fd.type ((cs.drop fd.offset).take (P.cellsOf fd.type))).isSome)->∃x,Pr x/\cE (jZ w) (f x) ((cs.drop off).take n)
theorem Gv {P:Program} {off:Nat}:DA P [] off 0 (fun _:Unit=>[]) (fun _=>True) :=
 ⟨fun _=>rfl,fun enc w sp jf cs xs hl h=>⟨(),trivial,⟨by simp,fun k av u h=>by simp at h⟩⟩⟩
theorem lL {P:Program} {fd:Field} {fs:List Field} {off m n:Nat} {α β:Type} {g:α->List AV} {Pg:α->Prop} {f:β->List AV} {Pr:β->Prop} (ho:fd.offset=off) (hm:P.cellsOf fd.type=m)
  (S:Shape P fd.type g Pg) (T:DA P fs (off+m) n f Pr):DA P (fd::fs) off (m+n) (fun x:α×β=>g x.1++f x.2) (fun x=>Pg x.1/\Pr x.2):=by
 refine ⟨fun x=>by rw[zG,S.size,T.size,hm],fun enc w sp jf cs xs hl h => ?_⟩
 obtain ⟨y,hy⟩:=wM.1 (h 0 fd rfl)
 obtain ⟨x,hx,hr⟩:=S.read enc w sp jf _ y hy
 obtain ⟨z,hz,yN⟩:=T.read enc w sp jf cs [] (by omega) (fun i fd' hi=>h (i+1) fd' hi)
 refine ⟨(x,z),⟨hx,hz⟩,?_⟩
 rw[ho,hm]at hr
 have:(cs.drop off).take (m+n)=(cs.drop off).take m++(cs.drop (off+m)).take n:=by
  rw[List.take_add,qv]
 rw[this]
 exact hr.append yN
theorem Cl {P:Program} {t:TypeId} {fs:Array Field} {n:Nat} {α:Type} {f:α->List AV} {Pr:α->Prop} (ht:P.underlying t=some (.struct fs)) (hc:P.cellsOf t=n) (S:DA P fs.toList 0 n f Pr):Shape P t f Pr:=by
 refine ⟨fun x=>by rw[S.size,hc],fun enc w sp jf cs y h => ?_⟩
 obtain ⟨xs,m,_,rfl,hl,hlen,hf⟩:=DataW.trod_struct ht h
 obtain ⟨x,hx,hr⟩:=S.read enc w sp m cs [] (by omega) (fun i fd hi=>by
  have:=hf i fd (by simpa using hi)
  rw[this]
  have CT:i<xs.length:=by
   rw[hlen]
   have:=(zB.1 hi).1
   simpa using this
  simp[CT])
 refine ⟨x,hx,?_⟩
 rw[<-hc,<-hl]at hr
 simpa using hr
structure Ax (P:Program) (t:TypeId) {α:Type} (g:α->AV) (Pr:α->Prop):Prop where
 read:∀{H:Type} (enc:TypeId×Value->H) (w:World) (sp:Nat->Bool) (base:Nat) (v:Value) (d:DataW H) (p:List MemPlace),Value.okWide P w .any base t v->DataW.Trod enc P w 0 sp true t v d p->∃x,Pr x/\aC (jZ w) (g x) v
theorem Dv {P:Program} {t:TypeId} {α:Type} {g:α->AV} {Pr:α->Prop} (S:Shape P t (fun x=>[g x]) Pr) (vE:∀W base v,Value.okWide P W .any base t v->v.cells = #[v]):Ax P t g Pr:=by
 refine ⟨fun enc w sp base v d p hv h => ?_⟩
 obtain ⟨jf,h⟩:=h
 obtain ⟨x,hx,hr⟩:=S.read enc w sp jf _ _ h
 rw[vE w base v hv]at hr
 exact ⟨x,hx,hr.2 0 _ _ rfl rfl⟩
theorem S4 {P:Program} {t:TypeId} {k:IntKind} (ht:P.underlying t=some (.int k)) (hc:P.cellsOf t=1):Ax P t (fun n:Int=>.v (.int k n)) (fun n=>(Lit.int k n).wf=true) :=
 Dv (uB ht hc) fun W base v h=>by obtain ⟨n,rfl⟩:=okWide_int ht h;rfl
theorem HU {P:Program} {t:TypeId} (ht:P.underlying t=some .string) (hc:P.cellsOf t=1):Ax P t (fun l:List UInt8=>.str l) (fun l=>l.length<=maxLen) :=
 Dv (nD ht hc) fun W base v h=>by obtain ⟨n,rfl⟩:=okWide_string ht h;rfl
structure Aw (P:Program) (ts:List TypeId) {α:Type} (g:α->List AV) (Pr:α->Prop):Prop where
 read:∀{H:Type} (enc:TypeId×Value->H) (w:World) (sp:Nat->Bool) (base:Nat) (vs:List Value) (ds:List (DataW H)) (p:List MemPlace),(∀(j:Nat) t v,ts[j]?=some t->vs[j]?=some v->Value.okWide P w .any base t v) ->
  DataW.TrodAll enc P w 0 sp true ts vs ds p->∃x,Pr x/\cE (jZ w) (g x) vs
theorem FJ {P:Program}:Aw P [] (fun _:Unit=>[]) (fun _=>True) :=
 ⟨fun enc w sp base vs ds p hv h=>by
  obtain ⟨rfl,rfl,rfl⟩:=trodAll_nil h
  exact ⟨(),trivial,rfl,fun k av u h=>by simp at h⟩⟩
theorem kY {P:Program} {t:TypeId} {ts:List TypeId} {α β:Type} {g:α->AV} {Pg:α->Prop} {f:β->List AV} {Pf:β->Prop} (A:Ax P t g Pg) (B:Aw P ts f Pf) :
  Aw P (t::ts) (fun x:α×β=>g x.1::f x.2) (fun x=>Pg x.1/\Pf x.2) :=
 ⟨fun enc w sp base vs ds p hv h=>by
  obtain ⟨v,vs1,d,ds1,a,b,rfl,rfl,rfl,h1,h2⟩:=trodAll_cons h
  obtain ⟨x,hx,hr⟩:=A.read enc w sp base v d a (hv 0 t v rfl rfl) h1
  obtain ⟨y,hy,yN⟩:=B.read enc w sp base vs1 ds1 b (fun j t v h1 h2=>hv (j+1) t v h1 h2) h2
  exact ⟨(x,y),⟨hx,hy⟩,(cE.one hr).append yN⟩⟩
structure Kept (W W':World):Prop where
 size:W.heap.size<=W'.heap.size
 heap:∀B,B<W.heap.size->W'.heap[B]?=W.heap[B]?
 os:W'.os=W.os
 output:W'.output=W.output
theorem Nc {P:Program} {E:Env} (hE:Av P E) (hm:P.follows .mixedOrders=true) {f:Nat} {args:List AV} (hb:gk P f=true) (h:aY E f args cG 0 (.v (.bool true)) cG 0 .p) {W:World} (hg:ve (jZ W)) {cargs:Array Value} (ha:cE (jZ W) args cargs.toList) :
  Calls P f cargs W fun e W'=>e=.returned (.bool true)/\Kept W W':=by
 have hX:=B3 hE (fun R hR=>BR hm hR) h (jZ W) cargs rfl (Km hg) ha
 have hC:Calls P f cargs (jZ W).w (kq (jZ W) .p (.v (.bool true)) cG 0 0):=by
  rcases hX with ⟨_,h⟩|⟨u,w',hr,_⟩
  ·exact h
  ·rw[uc hb]at hr;cases hr
 refine Calls.mono hC ?_
 rintro e W' ⟨u,ι',rfl,_,hx,_,hv⟩
 have:=hv.b8
 subst this
 exact ⟨rfl,hx.size,fun B hB=>(hx.ah B hB A2).2,hx.os,hx.output⟩
theorem Kept.keptBut {W W':World} (h:Kept W W') (may:MemPlace->Prop):W.keptBut W' may:=by
 refine ⟨h.os,h.output,fun i hi => ?_⟩
 rw[h.heap i hi]
 have:∃o,W.heap[i]?=some o:=⟨W.heap[i],zL hi⟩
 obtain ⟨o,ho⟩:=this
 rw[ho]
 cases o with
 |cells c t fr=>exact ⟨rfl,rfl,rfl,fun _ _=>rfl⟩
 |map es clock=>exact .inr ⟨rfl,rfl⟩
 |_=>rfl
theorem Kept.sameAt {W W':World} (h:Kept W W') {p:MemPlace} (hp:p.block<W.heap.size):W.sameAt W' p:=by
 cases p with
 |cell b off=>exact cell?_of_heap (h.heap b hp)
 |map b=>exact h.heap b hp
theorem sj {H:Type} {enc:TypeId×Value->H} {P:Program} {W W':World} {sp:Nat->Bool} (h:Kept W W'):∀{ts:List TypeId} {vs:List Value} {ds:List (DataW H)} {p:List MemPlace},(∀q∈p,q.block<W.heap.size)->DataW.TrodAll enc P W 0 sp true ts vs ds p->DataW.TrodAll enc P W' 0 sp true ts vs ds p
 |[],_,_,_,_,ht=>by
  obtain ⟨rfl,rfl,rfl⟩:=trodAll_nil ht
  rfl
 |_::_,_,_,_,hp,ht=>by
  obtain ⟨v,vs1,d,ds1,a,b,rfl,rfl,rfl,h1,h2⟩:=trodAll_cons ht
  obtain ⟨jf,h1⟩:=h1
  exact ⟨a,b,⟨jf,DataW.trod_carry jf _ _ _ h1 fun q hq=>h.sameAt (hp q (by simp[show q∈a from hq]))⟩,sj h (fun q hq=>hp q (by simp[hq])) h2,rfl⟩
theorem Nf {H:Type} {enc:TypeId×Value->H} {P:Program} {f:Func} {s:ChangeSpec} {W W':World} {args:Array Value} {ds gs:List (DataW H)} {before:List MemPlace} {tb:TypeId} (K:Kids P (· < P.types.size)) (hz:∀t e,t<P.types.size->P.underlying t=some (.slice e)->0<P.cellsOf e)
  (hp:∀t∈f.params.toList,t<P.types.size) (Wc:s.vars=[]) (ix:f.resultTypes = #[tb]) (htb:P.underlying tb=some .bool)
  (hfn:∀ds:List (DataW H),ds.length=f.params.toList.length->s.fn H ds={ results:=[.lit (.bool true)],args:=ds })
  (hW:DataW.Whole enc P f.params.toList s.vars false W args.toList ds gs before) (hk:Kept W W'):s.post enc P f false true false false W args (.bool true) W':=by
 have az:=hW.lt
 have hold:∀p∈before,(fun b=>decide (b<W.heap.size)) p.block=true:=fun p hp=>by simpa using az p hp
 have hW0:=hW
 obtain ⟨p,q,hA,hV,rfl,L9,hn⟩:=hW
 rw[Wc]at hV
 obtain ⟨rfl,rfl⟩:=trodVars_none hV
 have hlen:ds.length=f.params.toList.length:=by
  have:∀{ts:List TypeId} {vs:List Value} {ds:List (DataW H)} {p:List MemPlace},DataW.TrodAll enc P W 0 (fun _=>true) true ts vs ds p->ds.length=ts.length:=by
   intro ts
   induction ts with
   |nil=>intro vs ds p h;obtain ⟨rfl,rfl,rfl⟩:=trodAll_nil h;rfl
   |cons t ts ih=>intro vs ds p h;obtain ⟨_,_,_,_,_,_,rfl,rfl,rfl,_,h2⟩:=trodAll_cons h;simp[ih h2]
  exact this hA
 have hf:=hfn ds hlen
 simp only[zT]at *
 have bz:∀sp:Nat->Bool,(∀q∈p,sp q.block=true)->DataW.TrodAll enc P W' 0 sp true f.params.toList args.toList (s.fn H ds).args p:=by
  intro sp hsp
  rw[hf]
  exact DataW.TrodAll.respare K hz hp (sj hk az hA) hsp
 have EJ:∀(b:Nat) (sp:Nat->Bool) (hd:Bool),DataW.TrodAll enc P W' b sp hd f.resultTypes.toList ((Value.bool true).resultList f.resultTypes.size) (s.fn H ds).results []:=by
  intro b sp hd
  rw[hf,ix]
  exact trodAll_cons_mk (shut_bool htb _) trodAll_mk0
 refine ⟨ds,[],p,[],p,[],hW0,by simpa using EJ _ _ _,by simpa using bz _ hold,?_,?_,fun h=>by cases h⟩
 ·rw[Wc]
  have:(s.fn H (ds++[])).vars=[]:=by simp[hf]
  rw[this];rfl
 ·exact hk.keptBut _
theorem RK {P:Program} {E:Env} (hE:Av P E) (hm:P.follows .mixedOrders=true) {f:Nat} {args:List AV} (hb:gk P f=true) (h:aY E f args cG 0 (.v (.bool true)) cG 0 .p) {W:World} {cargs:Array Value} (ha:cE (jZ W) args cargs.toList) :
  Calls P f cargs W fun e W'=>e=.returned (.bool true)/\Kept W W' :=
 Nc hE hm hb h (fun g vs hg=>absurd hg (C2 g vs)) ha
end Go.Ai
namespace Go.Ai
open Go.Proofs Go.ChangeShapes Go.WideShapes Go.ChangeAt Go.RowKit
theorem Ae:Tryz.prog.cellsOf 3=1:=by kernel_rfl
theorem Ad:Tryz.prog.cellsOf 9=1:=by kernel_rfl
theorem JV:Tryz.prog.cellsOf 40=1:=by kernel_rfl
theorem xL:Tryz.prog.cellsOf 45=4:=by kernel_rfl
def B1 (a:Act):Prop:=a.k.length<=maxLen/\a.v.length<=maxLen
def EB (n:Int):Prop:=(Lit.int .i64 n).wf=true
theorem ZV:Shape Tryz.prog 45 fI B1 :=
 (Cl Tryz.underlying45 xL
  (lL (m:=1) (n:=3) rfl Ae (uB Tryz.underlying3 Ae)
  (lL (m:=1) (n:=2) rfl Ad (nD Tryz.underlying9 Ad)
  (lL (m:=1) (n:=1) rfl Ad (nD Tryz.underlying9 Ad)
  (lL (m:=1) (n:=0) rfl Ae (uB Tryz.underlying3 Ae) Gv))))).map (fun _=>xL.symm) fun x h=>⟨⟨x.1,x.2.1,x.2.2.1,x.2.2.2.1⟩,⟨h.2.1,h.2.2.1⟩,rfl⟩
theorem Vd:Shape Tryz.prog 40 (fun s:Gf Act=>[.rs s.nil 4 (s.xs.map fI) (some s.cap)]) (Gf.Ok B1) :=
 (D9 Tryz.underlying40 JV (by rw[xL];decide) ZV).map (fun _=>JV.symm) fun x h=>⟨x,h,by rw[xL]⟩
set_option maxRecDepth 100000 in
theorem J5:Ax Tryz.prog 40 (fun s:Gf Act=>.rs s.nil 4 (s.xs.map fI) (some s.cap)) (Gf.Ok B1) :=
 Dv Vd fun W base v h=>by obtain ⟨a,b,c,rfl⟩:=okWide_slice Tryz.underlying40 h;rfl
theorem Qx:Ax Tryz.prog 3 (fun n:Int=>.v (.int .i64 n)) EB:=S4 Tryz.underlying3 Ae
theorem Qw:Ax Tryz.prog 9 (fun l:List UInt8=>.str l) (fun l=>l.length<=maxLen):=HU Tryz.underlying9 Ad
theorem eV.of {α:Type} {n:Nat} {f:α->List AV} {Pr:α->Prop} {s:Gf α} (h:Gf.Ok Pr s):eV n (s.xs.map f) (.rs s.nil n (s.xs.map f) (some s.cap)) :=
 ⟨_,_,_,rfl,.inr rfl,fun hn=>by rw[h.nil hn];rfl⟩
theorem afK:Aw Tryz.prog [3,40] (fun x:Int×Gf Act×Unit=>[.v (.int .i64 x.1),.rs x.2.1.nil 4 (x.2.1.xs.map fI) (some x.2.1.cap)]) (fun x=>EB x.1/\Gf.Ok B1 x.2.1/\True):=kY Qx (kY J5 FJ)
theorem Qv:Aw Tryz.prog [3,40,9,9] (fun x:Int×Gf Act×List UInt8×List UInt8×Unit=>[.v (.int .i64 x.1),.rs x.2.1.nil 4 (x.2.1.xs.map fI) (some x.2.1.cap),.str x.2.2.1,.str x.2.2.2.1])
  (fun x=>EB x.1/\Gf.Ok B1 x.2.1/\x.2.2.1.length<=maxLen/\x.2.2.2.1.length<=maxLen/\True):=kY Qx (kY J5 (kY Qw (kY Qw FJ)))
set_option maxRecDepth 100000 in
theorem aaA:Kids Tryz.prog (· < Tryz.prog.types.size):=kids_rows (by kernel_rfl) (by kernel_rfl)
set_option maxRecDepth 100000 in
theorem abD:∀t e,t<Tryz.prog.types.size->Tryz.prog.underlying t=some (.slice e)->0<Tryz.prog.cellsOf e:=slices_full_of Tryz.prog (by kernel_rfl)
theorem V2 {n:Int} (h:EB n) : -9223372036854775808<=n/\n<=9223372036854775807:=by
 simp only[EB,Lit.wf,zN,decide_eq_true_eq]at h
 exact h
theorem S6 {s:Gf Act} (h:Gf.Ok B1 s):∀a∈s.xs,a.v.length<=9223372036854775807:=fun a ha=>by
 have h1:=(h.all a ha).2
 have e:maxLen=9223372036854775807:=by decide +kernel
 rw[e]at h1
 exact h1
end Go.Ai
