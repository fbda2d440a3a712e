/- Part 2 of what the proof rests on. -/
import Derived.Test.YtblopagmddgkjaaGreatK1
set_option linter.unusedVariables false
set_option linter.unusedSimpArgs false
set_option maxHeartbeats 4000000
namespace Go.Ai
theorem En {c:Cx} {nx:Nat} (hh:bg c nx) {w':World} {o:Obj} {es:bN} {pn:Place} (hB:pn.B=c.w.heap.size) (cF:w'.heap=c.w.heap.push o) (hnt:∀t k rest,es≠[.ty t k]::rest) (vG:∀c':Cx,pX c' es pn o) (AN:w'.os=c.w.os) (gK:w'.tape=c.w.tape) (gF:w'.output=c.w.output) :
  let c':Cx:=⟨c.F,cn c.ι nx pn,ab c.hp nx (some es),w'⟩
  bg c' (nx+1)/\Ext c c':=by
 intro c'
 have bH:∀B,B<c.w.heap.size->w'.heap[B]?=c.w.heap[B]?:=by
  intro B hB;rw[cF,wW,if_neg (by omega)]
 have EN:w'.heap[c.w.heap.size]?=some o:=by rw[cF];simp
 have Sl:=hh.fresh
 have hfh:=hh.uM
 have hι:∀r,r≠nx->c'.ι r=c.ι r:=fun r hr=>by show cn _ _ _ r=_;simp[cn,hr]
 have xE:c'.ι nx=some pn:=by show cn _ _ _ nx=_;simp[cn]
 have ni:∀r,r≠nx->c'.hp r=c.hp r:=fun r hr=>by show ab _ _ _ r=_;simp[ab,hr]
 have IT:c'.hp nx=some es:=by show ab _ _ _ nx=_;simp[ab]
 have pu:∀B,B<c.w.heap.size->c'.own B->c.own B:=by
  rintro B hB ⟨r,p,h1,h2,h3⟩
  by_cases hr:r=nx
  ·subst hr;rw[xE,zOi]at h2;subst h2;omega
  ·rw[ni r hr]at h1;rw[hι r hr]at h2;exact ⟨r,p,h1,h2,h3⟩
 have bm:Ext c c':=by
  refine ⟨rfl,?_,?_,?_,AN,gK,gF⟩
  ·intro r p h
   by_cases hr:r=nx
   ·subst hr;rw[Sl]at h;simp at h
   ·rw[hι r hr];exact h
  ·show c.w.heap.size<=w'.heap.size
   rw[cF];simp
  ·exact fun B hB ho=>⟨fun h=>ho (pu B hB h),bH B hB⟩
 refine ⟨⟨?_,?_,?_,?_,?_,hh.ty.to ?_ bm.ι (fun B AX t Mj hB=>⟨AX,by show w'.heap[B]?=_;rw[bH B (zE.1 hB).1];exact hB,rfl⟩) (fun r g1 _ g2=>by
  have:r≠nx:=by rintro rfl;have:=hh.uT _ g1;omega
  rw[ni r this]at g2;exact g2),hh.gl.ext bm⟩,bm⟩
 rotate_right
 ·intro r t k rest hr
  by_cases he:r=nx
  ·subst he
   rw[IT,zOi]at hr;exact absurd hr (hnt _ _ _)
  ·rw[ni r he]at hr;exact hr
 ·intro r hr
  by_cases he:r=nx
  ·omega
  ·rw[ni r he]at hr;have:=hh.uT r hr;omega
 ·intro r p h
  by_cases he:r=nx
  ·omega
  ·rw[hι r he]at h;have:=hh.lt r p h;omega
 ·intro r es' p h1 h2
  by_cases he:r=nx
  ·subst he
   rw[IT,zOi]at h1;subst h1
   rw[xE,zOi]at h2;subst h2
   refine ⟨fun hF=>absurd (hh.F _ hF) (by omega),o,by show w'.heap[pn.B]?=_;rw[hB];exact EN,vG _⟩
  ·rw[ni r he]at h1;rw[hι r he]at h2
   obtain ⟨hF,o',h3,h4⟩:=hh.sd r es' p h1 h2
   have az:p.B<c.w.heap.size:=(zE.1 h3).1
   exact ⟨hF,o',by show w'.heap[p.B]?=_;rw[bH _ az];exact h3,h4.move fun x u h=>h.mono bm⟩
 ·have az:∀r p,c.hp r≠none->c.ι r=some p->p.B<c.w.heap.size:=by
   intro r p h1 h2
   exact hh.oX ⟨r,p,h1,h2,rfl⟩
  intro r r' p p' h1 h2 h3 h4 h5
  by_cases he:r=nx
  ·by_cases AR:r'=nx
   ·omega
   ·subst he
    rw[xE,zOi]at h3;subst h3
    rw[ni r' AR]at h2;rw[hι r' AR]at h4
    have:=az r' p' h2 h4;omega
  ·by_cases AR:r'=nx
   ·subst AR
    rw[xE,zOi]at h4;subst h4
    rw[ni r he]at h1;rw[hι r he]at h3
    have:=az r p h1 h3;omega
   ·rw[ni r he]at h1;rw[hι r he]at h3;rw[ni r' AR]at h2;rw[hι r' AR]at h4
    exact hh.inj r r' p p' h1 h2 h3 h4 h5
 ·intro B hB
  have:=hh.F B hB
  show B<w'.heap.size
  rw[cF];simp;omega
theorem ML {c:Cx} {nx:Nat} (hh:bg c nx) {w':World} (cF:w'.heap=c.w.heap.push (.map #[] 0)) (AN:w'.os=c.w.os) (gK:w'.tape=c.w.tape) (gF:w'.output=c.w.output) :
  let c':Cx:=⟨c.F,cn c.ι nx ⟨c.w.heap.size,1,0,0,[]⟩,ab c.hp nx (some []),w'⟩
  bg c' (nx+1)/\Ext c c' :=
 En hh (pn:=⟨c.w.heap.size,1,0,0,[]⟩) rfl cF (fun t k rest h=>by cases h) (fun c'=>.inr (.inl ⟨rfl,#[],0,rfl,⟨rfl,fun i l e h=>by simp at h⟩,fun i e h=>by simp at h,fun i j e e' h=>by simp at h⟩)) AN gK gF
theorem p8 {c:Cx} {nx:Nat} (hh:bg c nx) {r:Nat} {es es':bN} {p:Place} (hr:c.hp r=some es) (hp:c.ι r=some p) {w':World} {o0 o1:Obj}
  (hb:c.w.heap[p.B]?=some o0) (hnc:∀cs e fz,o0≠.cells cs e fz) (cF:w'.heap=c.w.heap.setIfInBounds p.B o1)
  (AN:w'.os=c.w.os) (gK:w'.tape=c.w.tape) (gF:w'.output=c.w.output) (hnt:∀t k rest,es'≠[.ty t k]::rest) (vG:pX c es' p o1) :
  let c':Cx:=⟨c.F,c.ι,ab c.hp r (some es'),w'⟩
  bg c' nx/\Ext c c':=by
 intro c'
 have az:p.B<c.w.heap.size:=(zE.1 hb).1
 have F8:c'.hp r=some es':=by show ab _ _ _ r=_;simp[ab]
 have lI:∀q,q≠r->c'.hp q=c.hp q:=fun q hq=>by show ab _ _ _ q=_;simp[ab,hq]
 have yW:∀q,c'.hp q≠none↔c.hp q≠none:=by
  intro q
  by_cases hq:q=r
  ·subst hq;rw[F8,hr];simp
  ·rw[lI q hq]
 have pj:w'.heap.size=c.w.heap.size:=by rw[cF];simp
 have pC:∀B,B≠p.B->w'.heap[B]?=c.w.heap[B]?:=by
  intro B hB;rw[cF,wQ (by omega)]
 have Q0:w'.heap[p.B]?=some o1:=by rw[cF];simp[az]
 have mf:c.own p.B:=⟨r,p,by simp[hr],hp,rfl⟩
 have bm:Ext c c':=by
  refine ⟨rfl,fun _ _ h=>h,by show _<=w'.heap.size;omega,?_,AN,gK,gF⟩
  intro B hB ho
  refine ⟨?_,pC B (by rintro rfl;exact ho mf)⟩
  rintro ⟨q,p',h1,h2,h3⟩
  exact ho ⟨q,p',(yW q).1 h1,h2,h3⟩
 have FX:A0 c':=hh.ty.to (fun q t k rest hq=>by
   by_cases he:q=r
   ·subst he
    rw[F8,zOi]at hq;subst hq
    exact absurd rfl (hnt _ _ _)
   ·rw[lI q he]at hq;exact hq) bm.ι (fun B AX t Mj hB=>by
   by_cases he:B=p.B
   ·subst he;rw[hb,zOi]at hB;exact absurd hB (hnc _ _ _)
   ·exact ⟨AX,(pC B he).trans hB,rfl⟩) fun q _ _ h=>(yW q).1 h
 refine ⟨⟨fun q h=>hh.uT q ((yW q).1 h),hh.lt,?_,?_,?_,FX,hh.gl.ext bm⟩,bm⟩
 ·intro q SJ p' h1 h2
  by_cases hq:q=r
  ·subst hq
   rw[F8,zOi]at h1;subst h1
   have AD:c.ι q=some p':=h2
   rw[hp,zOi]at AD;subst AD
   obtain ⟨hF,_⟩:=hh.sd q es p hr hp
   exact ⟨hF,o1,Q0,vG.move fun x u h=>h.mono bm⟩
  ·rw[lI q hq]at h1
   obtain ⟨hF,o,h3,h4⟩:=hh.sd q SJ p' h1 h2
   have bt:p'.B≠p.B:=fun h=>hq (hh.inj q r p' p (by simp[h1]) (by simp[hr]) h2 hp h)
   exact ⟨hF,o,by show w'.heap[p'.B]?=_;rw[pC _ bt];exact h3,h4.move fun x u h=>h.mono bm⟩
 ·intro q q' p1 p2 h1 h2 h3 h4 h5
  exact hh.inj q q' p1 p2 ((yW q).1 h1) ((yW q').1 h2) h3 h4 h5
 ·intro B hB
  have:=hh.F B hB
  show B<w'.heap.size
  omega
theorem nc.nt {c:Cx} {es:bN} {ents:Array MapEntry} (h:nc c es ents) (t:TypeId) (k:Nat) (rest:bN):es≠[.ty t k]::rest:=by
 rintro rfl
 have hs:=h.1
 simp at hs
 obtain ⟨k',v',h1,_⟩:=h.2 0 _ (ents[0]'(by omega)) rfl (zL (by omega))
 cases h1
theorem ms {c:Cx} {nx:Nat} (hh:bg c nx) {r:Nat} {es es':bN} {p:Place} (hr:c.hp r=some es) (hp:c.ι r=some p) (eP:p.O=p.N+1) {w':World} {ents ents':Array MapEntry} {clock clock':Nat}
  (hb:c.w.heap[p.B]?=some (.map ents clock)) (cF:w'.heap=c.w.heap.setIfInBounds p.B (.map ents' clock'))
  (AN:w'.os=c.w.os) (gK:w'.tape=c.w.tape) (gF:w'.output=c.w.output) (aX:nc c es' ents') (bU:lu ents' clock') :
  let c':Cx:=⟨c.F,c.ι,ab c.hp r (some es'),w'⟩
  bg c' nx/\Ext c c' :=
 p8 hh hr hp hb (fun cs e fz h=>by cases h) cF AN gK gF aX.nt (.inr (.inl ⟨eP,ents',clock',rfl,aX,bU⟩))
theorem Z6 {c:Cx} {nx:Nat} (hh:bg c nx) {r:Nat} {es:bN} {p:Place} (hr:c.hp r=some es) (hp:c.ι r=some p) {ents:Array MapEntry} {clock:Nat}
  (hb:c.w.heap[p.B]?=some (.map ents clock)) (aX:nc c es ents) (bU:lu ents clock) :
  let c':Cx:=⟨c.F,cn c.ι nx ⟨p.B,3,clock,0,ents.toList.map (·.born)⟩,ab (ab c.hp r none) nx (some es),c.w⟩
  bg c' (nx+1)/\Ext c c':=by
 intro c'
 have IN:r≠nx:=fun h=>by have:=hh.lt r p hp;omega
 have IT:c'.hp nx=some es:=by show ab _ _ _ nx=_;simp[ab]
 have F8:c'.hp r=none:=by show ab _ _ _ r=_;simp[ab,IN]
 have lI:∀q,q≠r->q≠nx->c'.hp q=c.hp q:=fun q hq EK=>by show ab _ _ _ q=_;simp[ab,hq,EK]
 have hι:∀q,q≠nx->c'.ι q=c.ι q:=fun q hq=>by show cn _ _ _ q=_;simp[cn,hq]
 have xE:c'.ι nx=some ⟨p.B,3,clock,0,ents.toList.map (·.born)⟩:=by show cn _ _ _ nx=_;simp[cn]
 have mf:c.own p.B:=⟨r,p,by simp[hr],hp,rfl⟩
 have E2:∀q,c'.hp q≠none->q≠nx->c.hp q≠none/\q≠r:=by
  intro q h hq
  have ur:q≠r:=by rintro rfl;exact h F8
  rw[lI q ur hq]at h;exact ⟨h,ur⟩
 have bm:Ext c c':=by
  refine ⟨rfl,?_,zD _,?_,rfl,rfl,rfl⟩
  ·intro q pq h
   by_cases hq:q=nx
   ·subst hq;rw[hh.fresh]at h;simp at h
   ·rw[hι q hq];exact h
  ·intro B hB ho
   refine ⟨?_,rfl⟩
   rintro ⟨q,pq,h1,h2,h3⟩
   by_cases hq:q=nx
   ·subst hq;rw[xE,zOi]at h2;subst h2;rw[<-h3]at ho;exact ho mf
   ·rw[hι q hq]at h2;exact ho ⟨q,pq,(E2 q h1 hq).1,h2,h3⟩
 have FX:A0 c':=hh.ty.to (fun q t k rest hq=>by
   by_cases he:q=nx
   ·subst he
    rw[IT,zOi]at hq
    exact absurd hq (aX.nt _ _ _)
   ·by_cases Sn:q=r
    ·subst Sn;rw[F8]at hq;cases hq
    ·rw[lI q Sn he]at hq;exact hq) bm.ι (fun B AX t Mj hB=>⟨AX,hB,rfl⟩) fun q g1 _ g2=>by
   have hq:q≠nx:=by rintro rfl;have:=hh.uT _ g1;omega
   exact (E2 q g2 hq).1
 refine ⟨⟨?_,?_,?_,?_,hh.F,FX,hh.gl.ext bm⟩,bm⟩
 ·intro q h
  by_cases hq:q=nx
  ·omega
  ·have:=hh.uT q (E2 q h hq).1;omega
 ·intro q pq h
  by_cases hq:q=nx
  ·omega
  ·rw[hι q hq]at h;have:=hh.lt q pq h;omega
 ·intro q SJ pq h1 h2
  by_cases hq:q=nx
  ·subst hq
   rw[IT,zOi]at h1;subst h1
   rw[xE,zOi]at h2;subst h2
   obtain ⟨hF,_⟩:=hh.sd r es p hr hp
   exact ⟨hF,.map ents clock,hb,.inr (.inr (.inr ⟨rfl,ents,rfl,aX.move fun x u h=>h.mono bm,bU,rfl⟩))⟩
  ·have xg:c'.hp q≠none:=by simp[h1]
   obtain ⟨h3,ur⟩:=E2 q xg hq
   rw[lI q ur hq]at h1;rw[hι q hq]at h2
   obtain ⟨hF,o,h3,h4⟩:=hh.sd q SJ pq h1 h2
   exact ⟨hF,o,h3,h4.move fun x u h=>h.mono bm⟩
 ·have bt:∀q pq,c'.hp q≠none->q≠nx->c.ι q=some pq->pq.B≠p.B:=by
   intro q pq h1 hq h2 h3
   obtain ⟨h4,h5⟩:=E2 q h1 hq
   exact h5 (hh.inj q r pq p h4 (by simp[hr]) h2 hp h3)
  intro q q' p1 p2 h1 h2 h3 h4 h5
  by_cases hq:q=nx
  ·by_cases EK:q'=nx
   ·omega
   ·subst hq
    rw[xE,zOi]at h3;subst h3
    rw[hι q' EK]at h4
    exact absurd h5.symm (bt q' p2 h2 EK h4)
  ·by_cases EK:q'=nx
   ·subst EK
    rw[xE,zOi]at h4;subst h4
    rw[hι q hq]at h3
    exact absurd h5 (bt q p1 h1 hq h3)
   ·rw[hι q hq]at h3;rw[hι q' EK]at h4
    exact hh.inj q q' p1 p2 (E2 q h1 hq).1 (E2 q' h2 EK).1 h3 h4 h5
theorem Gi {c:Cx} {nx:Nat} (hh:bg c nx) {q r:Nat} {es:bN} {p pr:Place} (hq:c.hp q=some es) (hp:c.ι q=some p) (hm:p.O=p.N+3) (QV:c.ι r=some pr) (sb:pr.O=pr.N+1) (hB:p.B=pr.B)
  {hp1:Heap} (oA:Sub hp1 c.hp) (iL:hp1 q=none) :
  let c':Cx:=⟨c.F,c.ι,ab hp1 r (some es),c.w⟩
  bg c' nx/\Ext c c':=by
 intro c'
 obtain ⟨hF,ents,hb,aX,bU,yY⟩:=hh.kept hq hp hm
 have ur:q≠r:=by
  rintro rfl
  rw[hp,zOi]at QV
  subst QV;omega
 have F8:c'.hp r=some es:=by show ab _ _ _ r=_;simp[ab]
 have lI:∀x,x≠r->c'.hp x=hp1 x:=fun x hx=>by show ab _ _ _ x=_;simp[ab,hx]
 have hold:∀x,x≠r->c'.hp x≠none->c'.hp x=c.hp x/\c.hp x≠none/\x≠q:=by
  intro x hx h
  rw[lI x hx]at h ⊢
  rcases oA x with h1|h1
  ·exact ⟨h1,by rw[<-h1];exact h,by rintro rfl;exact h iL⟩
  ·exact absurd h1 h
 have pu:∀B,c'.own B->c.own B:=by
  rintro B ⟨x,px,h1,h2,h3⟩
  by_cases hx:x=r
  ·subst hx
   have h2:c.ι x=some px:=h2
   rw[QV,zOi]at h2;subst h2
   exact ⟨q,p,by simp[hq],hp,hB.trans h3⟩
  ·exact ⟨x,px,(hold x hx h1).2.1,h2,h3⟩
 have bm:Ext c c':=⟨rfl,fun _ _ h=>h,zD _,fun B hB ho=>⟨fun h=>ho (pu B h),rfl⟩,rfl,rfl,rfl⟩
 have bt:∀x px,x≠r->c'.hp x≠none->c.ι x=some px->px.B≠pr.B:=by
  intro x px hx h1 h2 h3
  obtain ⟨g1,g2,g3⟩:=hold x hx h1
  exact g3 (hh.inj x q px p g2 (by simp[hq]) h2 hp (h3.trans hB.symm))
 have aaG:∀x t k rest,c'.hp x=some ([.ty t k]::rest)->c.hp x=some ([.ty t k]::rest):=fun x t k rest hx=>by
   by_cases he:x=r
   ·subst he
    rw[F8,zOi]at hx
    exact absurd hx (aX.nt _ _ _)
   ·rw[<-(hold x he (by rw[hx];simp)).1];exact hx
 have FX:A0 c':=⟨hh.ty.1.to aaG bm.ι fun B cs t fz hB=>⟨cs,fz,hB,rfl⟩,fun x t hx=>by
  obtain ⟨p0,cs,fz,g1,g2,g3⟩:=hh.ty.2 x t (aaG _ _ _ _ hx)
  refine ⟨p0,cs,fz,g1,g2,fun hn=>g3 ?_⟩
  by_cases he:x=r
  ·subst he
   rw[QV,zOi]at g1;subst g1
   rw[<-hB,hb]at g2;cases g2
  ·exact (hold x he hn).2.1⟩
 refine ⟨⟨?_,hh.lt,?_,?_,hh.F,FX,hh.gl.ext bm⟩,bm⟩
 ·intro x h
  by_cases hx:x=r
  ·subst hx;exact hh.lt x pr QV
  ·exact hh.uT x (hold x hx h).2.1
 ·intro x SJ px h1 h2
  by_cases hx:x=r
  ·subst hx
   rw[F8,zOi]at h1;subst h1
   have h2:c.ι x=some px:=h2
   rw[QV,zOi]at h2;subst h2
   exact ⟨by rw[<-hB];exact hF,.map ents p.sz,by rw[<-hB];exact hb,.inr (.inl ⟨sb,ents,p.sz,rfl,aX.move fun x u h=>h.mono bm,bU⟩)⟩
  ·have h3:c'.hp x≠none:=by simp[h1]
   rw[(hold x hx h3).1]at h1
   obtain ⟨hF,o,h4,h5⟩:=hh.sd x SJ px h1 h2
   exact ⟨hF,o,h4,h5.move fun x u h=>h.mono bm⟩
 ·intro x y p1 p2 h1 h2 h3 h4 h5
  by_cases hx:x=r
  ·by_cases hy:y=r
   ·omega
   ·subst hx
    have h3:c.ι x=some p1:=h3
    rw[QV,zOi]at h3;subst h3
    exact absurd h5.symm (bt y p2 hy h2 h4)
  ·by_cases hy:y=r
   ·subst hy
    have h4:c.ι y=some p2:=h4
    rw[QV,zOi]at h4;subst h4
    exact absurd h5 (bt x p1 hx h1 h3)
   ·exact hh.inj x y p1 p2 (hold x hx h1).2.1 (hold y hy h2).2.1 h3 h4 h5
theorem tz {c:Cx} {lk:LK} {k:AV} {kv:Value} (h:sT lk k=true) (hk:aC c k kv):Instr.sameBits 10000 kv kv=true:=by
 unfold sT at h
 split at h
 ·have e:=hk.b8;subst e;simp[Instr.sameBits]
 ·have e:=hk.fQ;subst e
  simp only[Instr.sameBits]
  exact (MapKept.bytes_beq _ _).2 rfl
 ·have e:=hk.b8;subst e;simp[Instr.sameBits]
 ·cases h
theorem lu.sub {ents ents':Array MapEntry} {clock clock':Nat} (h:lu ents clock) (hc:clock<=clock') (f:Nat->Nat) (hf:∀i j,f i=f j->i=j) (ho:∀(i:Nat) (e:MapEntry),ents'[i]?=some e->∃e0,ents[f i]?=some e0/\e0.born=e.born):lu ents' clock':=by
 refine ⟨fun i e hi => ?_,fun i j e e' hi hj hb => ?_⟩
 ·obtain ⟨e0,h1,h2⟩:=ho i e hi
  have:=h.1 _ _ h1;omega
 ·obtain ⟨e0,h1,h2⟩:=ho i e hi
  obtain ⟨e1,h3,h4⟩:=ho j e' hj
  exact hf _ _ (h.2 _ _ _ _ h1 h3 (by omega))
theorem mG:∀(fl:bN) (i0 j:Nat),j∈ij fl i0↔∃k,j=i0+k/\fl[k]?=some [.v (.bool true)]
 |[],i0,j=>by simp[ij]
 |row::r,i0,j=>by
  have key:(∃k,j=i0+k/\(row::r)[k]?=some [.v (.bool true)])↔(j=i0/\row=[.v (.bool true)])\/∃k,j=i0+1+k/\r[k]?=some [.v (.bool true)]:=by
   constructor
   ·rintro ⟨k,h1,h2⟩
    cases k with
    |zero=>simp at h2;exact .inl ⟨by omega,h2⟩
    |succ k=>exact .inr ⟨k,by omega,by simpa using h2⟩
   ·rintro (⟨h1,h2⟩|⟨k,h1,h2⟩)
    ·exact ⟨0,by omega,by simp[h2]⟩
    ·exact ⟨k+1,by omega,by simpa using h2⟩
  rw[key,<-mG r (i0+1) j]
  by_cases h:row=[.v (.bool true)]
  ·subst h
   rw[show ij ([.v (.bool true)]::r) i0=i0::ij r (i0+1) from rfl]
   simp
  ·rw[ij.eq_3 i0 row r h]
   simp[h]
section
variable {P:Program} {dst:Option Tmp} {type:TypeId} {pos:String} {after:Array Edge} {guard:Option (Nat×Bool)} {tm:Nat->AV} {a:Act} {c:Cx} {v:AV} {hp':Heap} {nx nx':Nat}
theorem GG {t kt et:TypeId} {x:Operand} (h:P.underlying t=some (.map kt et)) (he:fb tm c.hp nx (.sP (cO x))=some (v,hp',nx')) (ht:fJ c tm a) (hh:bg c nx) :
  dw P ⟨dst,.range t x,type,pos,after,guard⟩ a c v hp' nx':=by
 simp only[fb]at he
 split at he
 ·rename_i r hx
  split at he
  ·rename_i es cW
   simp only[zOi,zPi]at he
   obtain ⟨rfl,rfl,rfl⟩:=he
   have h1:=aE ht x
   rw[hx]at h1
   generalize yE:a.eval x=ux at h1
   cases h1 with
   |mp hι eP =>
    rename_i p
    obtain ⟨_,ents,clock,hb,aX,bU⟩:=hh.map cW hι eP
    let o:Obj:=.mapIter (some p.B) clock #[] clock
    let w':World:={ c.w with heap:=c.w.heap.push o }
    let pn:Place:=⟨c.w.heap.size,p.B+2,clock,p.B,ents.toList.map (·.born)⟩
    have bR:(Instr.range t (.map (some p.B))).run P c.w=.ok (.pointer (some ⟨c.w.heap.size,0,none⟩)) w':=by
     unfold Instr.range
     simp[run_underlying h,MapKept.run_getObj_map hb,Result.andThen,newObj,Sem.run,w',o]
    have az:=(zE.1 hb).1
    have IN:r<nx:=hh.lt r p hι
    obtain ⟨k1,k2⟩:=En hh (es:=[.v (.int .i64 0)]::es.map fun _=>[.v (.bool true)]) (pn:=pn) (o:=o) (w':=w') rfl rfl (fun t k rest e=>by simp at e) (fun c'=>.inr (.inr (.inl ⟨rfl,#[],rfl,0,_,rfl,by simp[pn,aX.1],fun i l s g1 g2=>by
      simp only[zM,zC]at g1
      obtain ⟨_,_,rfl⟩:=g1
      exact ⟨true,rfl,by simp⟩,fun j h=>by omega⟩))) rfl rfl rfl
    obtain ⟨m1,m2⟩:=Z6 k1 (r:=r) (es:=es) (p:=p) (by show ab _ _ _ r=_;simp[ab,cW];omega) (by show cn _ _ _ r=_;simp[cn,hι];omega) (ents:=ents) (clock:=clock)
     (by show (c.w.heap.push o)[p.B]?=_;rw[wW,if_neg (by omega)];exact hb) (aX.move fun x u g=>g.mono k2) bU
    refine ⟨.pointer (some ⟨c.w.heap.size,0,none⟩),w',_,.inl (by simp only[execOp,yE];simp[bR]),k2.trans m2,m1,?_⟩
    refine .it (p:=pn) (p':=⟨p.B,3,clock,0,ents.toList.map (·.born)⟩) (pr:=p) ?_ ?_ ?_ rfl rfl eP rfl rfl rfl rfl
    ·simp[cn]
    ·simp[cn]
    ·simp[cn,show r≠nx by omega,show r≠nx+1 by omega,hι]
  ·cases he
 ·cases he
theorem KS {x:Operand} (he:fb tm c.hp nx (.tJ (cO x))=some (v,hp',nx')) (ht:fJ c tm a) (hh:bg c nx) :
  dw P ⟨dst,.next x false,type,pos,after,guard⟩ a c v hp' nx':=by
 simp only[fb]at he
 split at he
 ·rename_i q r hx
  split at he
  ·rename_i hd fl es E1 cW
   have h1:=aE ht x
   rw[hx]at h1
   generalize yE:a.eval x=ux at h1
   cases h1 with
   |it hq iL hr hm rJ sb e1 e2 e3 e4 =>
    rename_i p p' pr
    obtain ⟨hFq,seen,Q7,lQ⟩:=hh.walk E1 hq hm
    obtain ⟨_,ents,hb,aX,bU,yY⟩:=hh.kept cW iL rJ
    rw[e2.trans e1.symm]at Q7
    obtain ⟨n0,fl0,F9,lQ⟩:=lQ
    simp only[List.cons.injEq]at F9
    obtain ⟨rfl,rfl⟩:=F9
    have hlen:fl.length=ents.size:=by rw[lQ.1,<-e3,<-yY];simp
    have pD:∀(k:Nat) (e:MapEntry),ents[k]?=some e->p.aux[k]?=some e.born:=by
     intro k e hk
     rw[<-e3,<-yY]
     simp[zM,hk]
    have EZ:∀(k:Nat) (e:MapEntry),ents[k]?=some e->(fl[k]?=some [.v (.bool true)]↔seen.contains e.born=false):=by
     intro k e hk
     have lP:=(zE.1 hk).1
     obtain ⟨b,g1,g2⟩:=lQ.2.1 k fl[k] e.born (zA (by omega)) (pD k e hk)
     rw[zA (show k<fl.length by omega),g1,g2]
     cases b<;>simp
    have mK:=run_next_at (P:=P) c.w type p.B p'.B p.sz p.sz seen ents p'.sz Q7 hb (fun x hx=>by
     obtain ⟨k,hk⟩:=qQ.1 hx
     rw[<-e4];exact bU.1 k x (by simpa using hk)) (zD _)
    have ng:∀e∈(leftOf ents seen).toList,∃k,ents[k]?=some e/\k∈ij fl 0:=by
     intro e sW
     obtain ⟨g1,g2⟩:=mem_left sW
     obtain ⟨k,hk⟩:=qQ.1 g1
     have hk:ents[k]?=some e:=by simpa using hk
     exact ⟨k,hk,(mG fl 0 k).2 ⟨k,by omega,(EZ k e hk).2 g2⟩⟩
    split at he
    ·
     rename_i hl
     simp only[zOi,zPi]at he
     obtain ⟨rfl,rfl,rfl⟩:=he
     rcases mK with ⟨_,bR⟩|⟨e,sW,_⟩
     ·obtain ⟨k1,k2⟩:=Gi hh (q:=q+1) (r:=r) (es:=es) cW iL rJ hr sb e1 (hp1:=ab (ab c.hp q none) (q+1) none) (fun y=>by simp only[ab];split;exact .inr rfl;split;exact .inr rfl;exact .inl rfl) (by simp[ab])
      exact ⟨.tuple #[.bool false],c.w,c.ι,.inl (by simp only[execOp,yE];simp[bR]),k2,k1,.bE rfl fun k av u g1 g2=>by
       match k with
       |0=>simp at g1 g2;subst g1;subst g2;exact .v _
       |k+1=>simp at g1⟩
     ·obtain ⟨k,_,hk⟩:=ng e sW
      rw[hl]at hk;simp at hk
    ·
     rename_i j hl
     split at he
     ·rename_i kk vv eI
      simp only[zOi,zPi]at he
      obtain ⟨rfl,rfl,rfl⟩:=he
      have hj:j∈ij fl 0:=by rw[hl];simp
      obtain ⟨j',Md,NU⟩:=(mG fl 0 j).1 hj
      have:j'=j:=by omega
      subst this
      have tU:j'<ents.size:=by rw[<-hlen];exact (zB.1 NU).1
      rcases mK with ⟨h0,_⟩|⟨e,sW,w1,vD,bR⟩
      ·exfalso
       have hg:=(EZ j' ents[j'] (zL tU)).1 NU
       have:ents[j']∈leftOf ents seen:=by
        unfold leftOf
        simp only[Array.mem_filter]
        exact ⟨Array.getElem_mem tU,by rw[hg];rfl⟩
       have:=Array.size_pos_of_mem this
       omega
      ·obtain ⟨k,hk,lP⟩:=ng e sW
       rw[hl]at lP
       simp at lP;subst lP
       let o1:Obj:=.mapIter (some p.N) p.sz (seen.push e.born) p.sz
       have T1:Obj.mapIter (some p'.B) p.sz (seen.push e.born) p'.sz=o1:=by rw[e1,<-e2,e4]
       have cF:(ChangeMaps.setBlock w1 p.B (.mapIter (some p'.B) p.sz (seen.push e.born) p'.sz)).heap=c.w.heap.setIfInBounds p.B o1:=by
        rw[T1];rcases vD with rfl|rfl<;>rfl
       obtain ⟨k',v',g1,g2,g3⟩:=aX.2 k _ e eI hk
       simp only[List.cons.injEq,and_true]at g1
       obtain ⟨rfl,rfl⟩:=g1
       obtain ⟨k1,k2⟩:=p8 hh E1 hq Q7 (fun cs e fz h=>by cases h) (es':=[.v (.int .i64 (k+1:Nat))]::fl.set k [.v (.bool false)]) (w':=ChangeMaps.setBlock w1 p.B (.mapIter (some p'.B) p.sz (seen.push e.born) p'.sz)) cF
        (by rcases vD with rfl|rfl<;>rfl) (by rcases vD with rfl|rfl<;>rfl) (by rcases vD with rfl|rfl<;>rfl) (fun t k2 rest h=>by simp at h) (.inr (.inr (.inl ⟨hm,seen.push e.born,rfl,k+1,_,rfl,by simp[lQ.1],fun i l s q1 q2=>by
         rw[wx]at q1
         split at q1
         ·rename_i tQ;subst tQ
          split at q1
          ·simp only[zOi]at q1;subst q1
           rw[pD k e hk,zOi]at q2;subst q2
           exact ⟨false,rfl,by simp⟩
          ·cases q1
         ·rename_i tQ
          obtain ⟨b,r1,r2⟩:=lQ.2.1 i l s q1 q2
          refine ⟨b,r1,?_⟩
          have bt:s≠e.born:=by
           intro hs
           have iM:i<ents.size:=by rw[<-hlen];exact (zB.1 q1).1
           have bG:=pD i ents[i] (zL iM)
           rw[q2,zOi]at bG
           exact tQ (bU.2 k i e ents[i] hk (zL iM) (by omega))
          rw[Array.contains_push,r2]
          simp[bt],fun j h=>by
         have:j=k:=by omega
         subst this
         exact ⟨e.born,pD j e hk,by simp⟩⟩)))
       refine ⟨.tuple #[.bool true,e.key,e.val],_,c.ι,.inl (by simp only[execOp,yE];simp[bR]),k2,k1,.bE rfl fun k av u g1 g4 => ?_⟩
       match k with
       |0=>simp at g1 g4;subst g1;subst g4;exact .v _
       |1=>simp at g1 g4;subst g1;subst g4;exact g2.mono k2
       |2=>simp at g1 g4;subst g1;subst g4;exact g3.mono k2
       |k+3=>simp at g1
     ·cases he
    ·cases he
  ·cases he
 ·cases he
theorem FC {x:Operand} {K:AV->Heap->Prop} (h:Ap tm c.hp (cO x) K) (ht:fJ c tm a) (hh:bg c nx) :
  ∃v hp',K v hp'/\dw P ⟨dst,.next x false,type,pos,after,guard⟩ a c v hp' nx:=by
 obtain ⟨q,r,hd,fl,es,hx,E1,cW,CV,pC⟩:=h
 have h1:=aE ht x
 rw[hx]at h1
 generalize yE:a.eval x=ux at h1
 cases h1 with
 |it hq iL hr hm rJ sb e1 e2 e3 e4 =>
  rename_i p p' pr
  obtain ⟨hFq,seen,Q7,lQ⟩:=hh.walk E1 hq hm
  obtain ⟨_,ents,hb,aX,bU,yY⟩:=hh.kept cW iL rJ
  rw[e2.trans e1.symm]at Q7
  obtain ⟨n0,fl0,F9,lQ⟩:=lQ
  simp only[List.cons.injEq]at F9
  obtain ⟨rfl,rfl⟩:=F9
  have hlen:fl.length=ents.size:=by rw[lQ.1,<-e3,<-yY];simp
  have pD:∀(k:Nat) (e:MapEntry),ents[k]?=some e->p.aux[k]?=some e.born:=by
   intro k e hk
   rw[<-e3,<-yY]
   simp[zM,hk]
  have EZ:∀(k:Nat) (e:MapEntry),ents[k]?=some e->(fl[k]?=some [.v (.bool true)]↔seen.contains e.born=false):=by
   intro k e hk
   have lP:=(zE.1 hk).1
   obtain ⟨b,g1,g2⟩:=lQ.2.1 k fl[k] e.born (zA (by omega)) (pD k e hk)
   rw[zA (show k<fl.length by omega),g1,g2]
   cases b<;>simp
  have mK:=run_next_at (P:=P) c.w type p.B p'.B p.sz p.sz seen ents p'.sz Q7 hb (fun x hx=>by
   obtain ⟨k,hk⟩:=qQ.1 hx
   rw[<-e4];exact bU.1 k x (by simpa using hk)) (zD _)
  have ng:∀e∈(leftOf ents seen).toList,∃k,ents[k]?=some e/\k∈ij fl 0:=by
   intro e sW
   obtain ⟨g1,g2⟩:=mem_left sW
   obtain ⟨k,hk⟩:=qQ.1 g1
   have hk:ents[k]?=some e:=by simpa using hk
   exact ⟨k,hk,(mG fl 0 k).2 ⟨k,by omega,(EZ k e hk).2 g2⟩⟩
  rcases mK with ⟨h0,bR⟩|⟨e,sW,w1,vD,bR⟩
  ·have hl:ij fl 0=[]:=by
    cases hl:ij fl 0 with
    |nil=>rfl
    |cons j l =>
     exfalso
     obtain ⟨j',Md,NU⟩:=(mG fl 0 j).1 (by rw[hl];simp)
     have tU:j'<ents.size:=by rw[<-hlen];exact (zB.1 NU).1
     have hg:=(EZ j' ents[j'] (zL tU)).1 NU
     have:ents[j']∈leftOf ents seen:=by
      unfold leftOf
      simp only[Array.mem_filter]
      exact ⟨Array.getElem_mem tU,by rw[hg];rfl⟩
     have:=Array.size_pos_of_mem this
     omega
   obtain ⟨k1,k2⟩:=Gi hh (q:=q+1) (r:=r) (es:=es) cW iL rJ hr sb e1 (hp1:=ab (ab c.hp q none) (q+1) none) (fun y=>by simp only[ab];split;exact .inr rfl;split;exact .inr rfl;exact .inl rfl) (by simp[ab])
   exact ⟨_,_,CV hl,.tuple #[.bool false],c.w,c.ι,.inl (by simp only[execOp,yE];simp[bR]),k2,k1,.bE rfl fun k av u g1 g2=>by
    match k with
    |0=>simp at g1 g2;subst g1;subst g2;exact .v _
    |k+1=>simp at g1⟩
  ·obtain ⟨k,hk,lP⟩:=ng e sW
   obtain ⟨⟨v,hp'⟩,hn,hK⟩:=pC k lP
   unfold MU at hn
   split at hn
   ·rename_i kk vv eI
    simp only[zOi,zPi]at hn
    obtain ⟨rfl,rfl⟩:=hn
    let o1:Obj:=.mapIter (some p.N) p.sz (seen.push e.born) p.sz
    have T1:Obj.mapIter (some p'.B) p.sz (seen.push e.born) p'.sz=o1:=by rw[e1,<-e2,e4]
    have cF:(ChangeMaps.setBlock w1 p.B (.mapIter (some p'.B) p.sz (seen.push e.born) p'.sz)).heap=c.w.heap.setIfInBounds p.B o1:=by
     rw[T1];rcases vD with rfl|rfl<;>rfl
    obtain ⟨k',v',g1,g2,g3⟩:=aX.2 k _ e eI hk
    simp only[List.cons.injEq,and_true]at g1
    obtain ⟨rfl,rfl⟩:=g1
    obtain ⟨k1,k2⟩:=p8 hh E1 hq Q7 (fun cs e fz h=>by cases h) (es':=[.v (.int .i64 (k+1:Nat))]::fl.set k [.v (.bool false)]) (w':=ChangeMaps.setBlock w1 p.B (.mapIter (some p'.B) p.sz (seen.push e.born) p'.sz)) cF
     (by rcases vD with rfl|rfl<;>rfl) (by rcases vD with rfl|rfl<;>rfl) (by rcases vD with rfl|rfl<;>rfl) (fun t k2 rest h=>by simp at h) (.inr (.inr (.inl ⟨hm,seen.push e.born,rfl,k+1,_,rfl,by simp[lQ.1],fun i l s q1 q2=>by
      rw[wx]at q1
      split at q1
      ·rename_i tQ;subst tQ
       split at q1
       ·simp only[zOi]at q1;subst q1
        rw[pD k e hk,zOi]at q2;subst q2
        exact ⟨false,rfl,by simp⟩
       ·cases q1
      ·rename_i tQ
       obtain ⟨b,r1,r2⟩:=lQ.2.1 i l s q1 q2
       refine ⟨b,r1,?_⟩
       have bt:s≠e.born:=by
        intro hs
        have iM:i<ents.size:=by rw[<-hlen];exact (zB.1 q1).1
        have bG:=pD i ents[i] (zL iM)
        rw[q2,zOi]at bG
        exact tQ (bU.2 k i e ents[i] hk (zL iM) (by omega))
       rw[Array.contains_push,r2]
       simp[bt],fun j h=>by
      have:j=k:=by omega
      subst this
      exact ⟨e.born,pD j e hk,by simp⟩⟩)))
    refine ⟨_,_,hK,.tuple #[.bool true,e.key,e.val],_,c.ι,.inl (by simp only[execOp,yE];simp[bR]),k2,k1,.bE rfl fun k av u g1 g4 => ?_⟩
    match k with
    |0=>simp at g1 g4;subst g1;subst g4;exact .v _
    |1=>simp at g1 g4;subst g1;subst g4;exact g2.mono k2
    |2=>simp at g1 g4;subst g1;subst g4;exact g3.mono k2
    |k+3=>simp at g1
   ·cases hn
theorem LM {x:Operand} (he:fb tm c.hp nx (.yx (cO x))=some (v,hp',nx')) (ht:fJ c tm a) (hh:bg c nx) :
  dw P ⟨dst,.entry x,type,pos,after,guard⟩ a c v hp' nx':=by
 simp only[fb]at he
 split at he
 ·rename_i q r hx
  split at he
  ·rename_i n fl es E1 cW
   split at he
   ·rename_i hn
    split at he
    ·rename_i kk vv eI
     simp only[zOi,zPi]at he
     obtain ⟨rfl,rfl,rfl⟩:=he
     have h1:=aE ht x
     rw[hx]at h1
     generalize yE:a.eval x=ux at h1
     cases h1 with
     |it hq iL hr hm rJ sb e1 e2 e3 e4 =>
      rename_i p p' pr
      obtain ⟨hFq,seen,Q7,n0,fl0,F9,hl,_,BK⟩:=hh.walk E1 hq hm
      obtain ⟨_,ents,hb,aX,bU,yY⟩:=hh.kept cW iL rJ
      rw[e2.trans e1.symm]at Q7
      simp only[List.cons.injEq,AV.v.injEq,Value.int.injEq,and_true,true_and]at F9
      obtain ⟨rfl,rfl⟩:=F9
      obtain ⟨s,g1,g2⟩:=BK (n0-1) (by omega)
      have hj:((n0:Int).toNat-1)=n0-1:=by omega
      rw[hj]at eI
      have az:n0-1<ents.size:=by rw[<-aX.1];exact (zB.1 eI).1
      have pw:ents[n0-1]?=some ents[n0-1]:=zL az
      have hs:ents[n0-1].born=s:=by
       rw[<-e3,<-yY]at g1
       simpa [zM,pw] using g1
      have w8:(ents.toList.map (·.born)).Nodup:=by
       rw[qW,qX]
       intro i j hi hj yU IU
       simp at hi hj
       simp only[jA,Array.getElem_toList]at IU
       have:=bU.2 i j _ _ (zL hi) (zL hj) IU
       omega
      have hf:ents.find? (·.born==s)=some ents[n0-1]:=by
       rw[<-Array.find?_toList,<-hs]
       exact find_born ents[n0-1] ents.toList w8 (by simp)
      have bR:(Instr.entry (.pointer (some ⟨p.B,0,none⟩))).run P c.w=.ok (.tuple #[ents[n0-1].key,ents[n0-1].val]) c.w:=by
       simp only[Instr.entry,getObj,Sem.run_bind,Sem.run,Q7,hb,Result.andThen,g2,e4,bne_self_eq_false,zK,if_false,hf]
       rfl
      obtain ⟨k',v',q1,q2,q3⟩:=aX.2 _ _ _ eI pw
      simp only[List.cons.injEq,and_true]at q1
      obtain ⟨rfl,rfl⟩:=q1
      refine ⟨.tuple #[ents[n0-1].key,ents[n0-1].val],c.w,c.ι,.inl (by simp only[execOp,yE];simp[bR]),Ext.refl c,hh,.bE rfl fun k av u r1 r2 => ?_⟩
      match k with
      |0=>simp at r1 r2;subst r1;subst r2;exact q2
      |1=>simp at r1 r2;subst r1;subst r2;exact q3
      |k+2=>simp at r1
    ·cases he
   ·cases he
  ·cases he
 ·cases he
theorem OI {t kt et:TypeId} {m k:Operand} {args:Array Operand} {ts:Array TypeId} {lk:LK} (ha:args.toList=[m,k]) (h0:ts[0]?=some t) (h:P.underlying t=some (.map kt et)) (hl:w7 P kt=some lk)
  (he:fb tm c.hp nx (.M6 lk (cO m) (cO k))=some (v,hp',nx')) (ht:fJ c tm a) (hh:bg c nx):dw P ⟨dst,.call ⟨.builtin .delete,args,ts⟩,type,pos,after,guard⟩ a c v hp' nx':=by
 simp only[fb]at he
 split at he
 ·rename_i r hx
  split at he
  ·rename_i es cW
   split at he
   ·have h1:=aE ht m
    have h2:=aE ht k
    rw[hx]at h1
    generalize yE:a.eval m=ux at h1
    cases h1 with
    |mp hι eP =>
     rename_i p
     obtain ⟨_,ents,clock,hb,aX,bU⟩:=hh.map cW hι eP
     obtain ⟨d,hd,NQ⟩:=rH hl
     have Hp:=fun em=>kR (P:=P) (w:=c.w) hd NQ em (a.eval k)
     have key:=mR NQ h2 es ents.toList 0 (by simpa using aX.1) (fun i row e h3 h4=>aX.2 i row e h3 (by simpa using h4))
     have hm:args.map a.eval = #[.map (some p.B),a.eval k]:=by
      have:args = #[m,k]:=qZ.1 (by simpa using ha)
      subst this;simp[yE]
     split at he
     ·rename_i i v' hf
      simp only[zOi,zPi]at he
      obtain ⟨rfl,rfl,rfl⟩:=he
      obtain ⟨e,g1,g2,g3,g4⟩:=key _ hf
      rw[Nat.zero_add]at g4
      have DP:ents[i]?=some e:=by simpa using g1
      have iM:=(zE.1 DP).1
      have bR:(Builtin.delete_ ts type #[.map (some p.B),a.eval k]).run P c.w=.ok (.tuple #[]) { c.w with heap:=c.w.heap.setIfInBounds p.B (.map (ents.eraseIdxIfInBounds i) clock) }:=by
       unfold Builtin.delete_
       rw[h0,show (#[Value.map (some p.B),a.eval k]:Array Value)[0]?=some (.map (some p.B)) from rfl,show (#[Value.map (some p.B),a.eval k]:Array Value)[1]?=some (a.eval k) from rfl]
       simp[run_underlying h,MapKept.run_getObj_map hb,Hp,MapKept.run_findKey hd g4,Result.andThen,MapKept.run_setObj_map _ hb]
      have T9:(ents.eraseIdxIfInBounds i).toList=ents.toList.eraseIdx i:=by simp[Array.eraseIdxIfInBounds,iM]
      have bH:∀(j:Nat),(ents.eraseIdxIfInBounds i)[j]?=if j<i then ents[j]? else ents[j+1]?:=by
       intro j
       rw[<-Array.getElem?_toList,T9,List.getElem?_eraseIdx]
       simp
      obtain ⟨k1,k2⟩:=ms hh cW hι eP hb (w':={ c.w with heap:=c.w.heap.setIfInBounds p.B (.map (ents.eraseIdxIfInBounds i) clock) }) rfl rfl rfl rfl (es':=es.eraseIdx i) ⟨by
        rw[<-qL,T9,List.length_eraseIdx,List.length_eraseIdx];simp[aX.1],fun j l e' q1 q2=>by
        rw[List.getElem?_eraseIdx]at q1
        rw[bH]at q2
        split at q1
        ·rename_i hj;rw[if_pos hj]at q2;exact aX.2 j l e' q1 q2
        ·rename_i hj;rw[if_neg hj]at q2;exact aX.2 _ l e' q1 q2⟩ (bU.sub (zD _) (fun j=>if j<i then j else j+1) (fun x y hxy=>by
         split at hxy<;>split at hxy<;>omega) fun j e' q=>by
         rw[bH]at q
         refine ⟨e',?_,rfl⟩
         split at q
         ·rename_i hj;simp only[if_pos hj];exact q
         ·rename_i hj;simp only[if_neg hj];exact q)
      exact ⟨.tuple #[],_,c.ι,.inl (cH (by rw[hm];simp only[builtin,Sem.run_bind,bR,Result.andThen_ok,Sem.run_pure])),k2,k1,.v _⟩
     ·rename_i hf
      simp only[zOi,zPi]at he
      obtain ⟨rfl,rfl,rfl⟩:=he
      have g4:=key _ hf
      have bR:(Builtin.delete_ ts type #[.map (some p.B),a.eval k]).run P c.w=.ok (.tuple #[]) { c.w with heap:=c.w.heap.setIfInBounds p.B (.map ents clock) }:=by
       unfold Builtin.delete_
       rw[h0,show (#[Value.map (some p.B),a.eval k]:Array Value)[0]?=some (.map (some p.B)) from rfl,show (#[Value.map (some p.B),a.eval k]:Array Value)[1]?=some (a.eval k) from rfl]
       simp[run_underlying h,MapKept.run_getObj_map hb,Hp,MapKept.run_findKey hd g4,Result.andThen,MapKept.run_setObj_map _ hb]
      obtain ⟨k1,k2⟩:=ms hh cW hι eP hb (w':={ c.w with heap:=c.w.heap.setIfInBounds p.B (.map ents clock) }) rfl rfl rfl rfl aX bU
      exact ⟨.tuple #[],_,c.ι,.inl (cH (by rw[hm];simp only[builtin,Sem.run_bind,bR,Result.andThen_ok,Sem.run_pure])),k2,k1,.v _⟩
     ·cases he
   ·cases he
  ·cases he
 ·cases he
theorem HI {t kt et:TypeId} {m k:Operand} {lk:LK} {i:TypeInfo} {z:Value} (h:P.underlying t=some (.map kt et)) (hl:w7 P kt=some lk) (hi:P.info? et=some i) (hz:i.zero=some z)
  (he:fb tm c.hp nx (.yw lk (QJ z) (cO m) (cO k))=some (v,hp',nx')) (ht:fJ c tm a) (hh:bg c nx):dw P ⟨dst,.mapEntry t m k,type,pos,after,guard⟩ a c v hp' nx':=by
 simp only[fb]at he
 split at he
 ·rename_i r hx
  split at he
  ·rename_i es cW
   split at he
   ·rename_i Hk
    have h1:=aE ht m
    have h2:=aE ht k
    rw[hx]at h1
    generalize yE:a.eval m=ux at h1
    cases h1 with
    |mp hι eP =>
     rename_i p
     obtain ⟨_,ents,clock,hb,aX,bU⟩:=hh.map cW hι eP
     obtain ⟨d,hd,NQ⟩:=rH hl
     have az:=(zE.1 hb).1
     have IN:r<nx:=hh.lt r p hι
     have oe:(zeroValue et).run P c.w=.ok z c.w:=by simp[zeroValue,typeInfo,hi,hz]
     have Hp:=fun em=>kR (P:=P) (w:=c.w) hd NQ em (a.eval k)
     have key:=mR NQ h2 es ents.toList 0 (by simpa using aX.1) (fun i row e h3 h4=>aX.2 i row e h3 (by simpa using h4))
     have fin:∀(w':World) (es':bN) (ents':Array MapEntry) (clock' j:Nat) (e:MapEntry) (vv:AV),w'.heap=c.w.heap.setIfInBounds p.B (.map ents' clock')->w'.os=c.w.os->w'.tape=c.w.tape->w'.output=c.w.output ->
       nc c es' ents'->lu ents' clock'->ents'[j]?=some e->aC c vv e.val->(Instr.mapEntry t (.map (some p.B)) (a.eval k)).run P c.w=.ok (.tuple #[e.val,goInt e.born]) w' ->
       dw P ⟨dst,.mapEntry t m k,type,pos,after,guard⟩ a c (.bE [vv,.tk (j+1) nx r]) (ab (ab (ab c.hp r (some es')) r none) nx (some es')) (nx+1):=by
      intro w' es' ents' clock' j e vv cF AN gK gF yJ EG hj me bR
      obtain ⟨k1,k2⟩:=ms hh cW hι eP hb cF AN gK gF yJ EG
      obtain ⟨m1,m2⟩:=Z6 k1 (r:=r) (es:=es') (p:=p) (by show ab _ _ _ r=_;simp[ab]) hι (ents:=ents') (clock:=clock') (by show w'.heap[p.B]?=_;rw[cF];simp[az]) (yJ.move fun x u g=>g.mono k2) EG
      refine ⟨.tuple #[e.val,goInt e.born],w',_,.inl (by simp only[execOp,yE];simp[bR]),k2.trans m2,m1,.bE rfl fun q av u g1 g2 => ?_⟩
      match q with
      |0=>simp at g1 g2;subst g1;subst g2;exact me.mono (k2.trans m2)
      |1 =>
       simp at g1 g2;subst g1;subst g2
       exact .Gr (p:=⟨p.B,3,clock',0,ents'.toList.map (·.born)⟩) (pr:=p) (by simp[cn]) (by simp[cn,show r≠nx by omega,hι]) rfl eP rfl (by simp[zM,hj])
      |q+2=>simp at g1
     split at he
     ·rename_i i v' hf
      simp only[zOi,zPi]at he
      obtain ⟨rfl,rfl,rfl⟩:=he
      obtain ⟨e,g1,g2,g3,g4⟩:=key _ hf
      rw[Nat.zero_add]at g4
      have DP:ents[i]?=some e:=by simpa using g1
      have iM:=(zE.1 DP).1
      let ents':=ents.modify i fun e=>{ e with key:=a.eval k }
      have hsb:Instr.sameBits 10000 e.key (a.eval k)=true:=by
       rw[g3]
       exact tz Hk h2
      have bH:∀j,ents'[j]?=if j=i then some { e with key:=a.eval k } else ents[j]?:=by
       intro j
       simp only[ents',wY]
       by_cases hj:i=j
       ·subst hj;simp[DP]
       ·simp[hj,Ne.symm hj]
      refine fin { c.w with heap:=c.w.heap.setIfInBounds p.B (.map ents' clock) } (es.set i [ev tm (cO k),v']) ents' clock i { e with key:=a.eval k } v' rfl rfl rfl rfl ⟨by simp[ents',aX.1],fun j l e' q1 q2 => ?_⟩ (bU.sub (zD _) id (fun _ _ h=>h) fun j e' q => ?_) (by rw[bH];simp) g2 ?_
      ·rw[wx]at q1
       rw[bH]at q2
       by_cases hj:i=j
       ·subst hj
        rw[if_pos rfl]at q2
        simp only[zOi]at q2;subst q2
        simp only[if_true]at q1
        split at q1
        ·simp only[zOi]at q1;subst q1
         exact ⟨_,_,rfl,h2,g2⟩
        ·cases q1
       ·rw[if_neg hj]at q1
        rw[if_neg (Ne.symm hj)]at q2
        exact aX.2 j l e' q1 q2
      ·rw[bH]at q
       split at q
       ·rename_i hj;subst hj
        simp only[zOi]at q;subst q
        exact ⟨e,DP,rfl⟩
       ·exact ⟨e',q,rfl⟩
      ·unfold Instr.mapEntry
       simp[run_underlying h,MapKept.run_getObj_map hb,Hp,MapKept.run_findKey hd g4,Result.andThen,DP,Instr.keyThatStays,hsb,MapKept.run_setObj_map _ hb,ents']
     ·rename_i hf
      simp only[zOi,zPi]at he
      obtain ⟨rfl,rfl,rfl⟩:=he
      have g4:=key _ hf
      let ents':=ents.push { key:=a.eval k,val:=z,born:=clock }
      have bH:∀j,ents'[j]?=if j=ents.size then some { key:=a.eval k,val:=z,born:=clock } else ents[j]?:=by
       intro j
       simp only[ents',wW]
      refine fin { c.w with heap:=c.w.heap.setIfInBounds p.B (.map ents' (clock+1)) } (es++[[ev tm (cO k),QJ z]]) ents' (clock+1) es.length { key:=a.eval k,val:=z,born:=clock } (QJ z) rfl rfl rfl rfl ⟨by simp[ents',aX.1],fun j l e' q1 q2 => ?_⟩ ⟨fun j e' q => ?_,fun j j' e1 e2 q1 q2 q3 => ?_⟩ (by rw[bH,aX.1];simp) (tF c z) ?_
      ·rw[bH]at q2
       by_cases hj:j=ents.size
       ·rw[if_pos hj]at q2
        simp only[zOi]at q2;subst q2
        rw[za (by rw[aX.1];omega),hj,aX.1,Nat.sub_self]at q1
        simp at q1;subst q1
        exact ⟨_,_,rfl,h2,tF c z⟩
       ·rw[if_neg hj]at q2
        have tU:=(zE.1 q2).1
        rw[zR (by rw[aX.1];exact tU)]at q1
        exact aX.2 j l e' q1 q2
      ·rw[bH]at q
       split at q
       ·simp only[zOi]at q;subst q;exact Nat.lt_succ_self _
       ·exact Nat.lt_succ_of_lt (bU.1 j e' q)
      ·rw[bH]at q1 q2
       split at q1
       ·rename_i hj
        simp only[zOi]at q1;subst q1
        split at q2
        ·rename_i hj';omega
        ·have:=bU.1 j' e2 q2
         simp at q3;omega
       ·split at q2
        ·simp only[zOi]at q2;subst q2
         have:=bU.1 j e1 q1
         simp at q3;omega
        ·exact bU.2 j j' e1 e2 q1 q2 q3
      ·unfold Instr.mapEntry
       simp[run_underlying h,MapKept.run_getObj_map hb,Hp,MapKept.run_findKey hd g4,oe,Result.andThen,MapKept.run_setObj_map _ hb,ents']
     ·cases he
   ·cases he
  ·cases he
 ·cases he
theorem Fm {t:TypeId} {m s x:Operand} (he:fb tm c.hp nx (.tK (cO m) (cO s) (cO x))=some (v,hp',nx')) (ht:fJ c tm a) (hh:bg c nx) :
  dw P ⟨dst,.entryStore t m s x,type,pos,after,guard⟩ a c v hp' nx':=by
 simp only[fb]at he
 split at he
 ·rename_i r i q r' hm hs
  split at he
  ·rename_i Ha
   subst Ha
   split at he
   ·rename_i es cW
    split at he
    ·rename_i kk vv eI
     simp only[zOi,zPi]at he
     obtain ⟨rfl,rfl,rfl⟩:=he
     have h1:=aE ht m
     have h2:=aE ht s
     have h3:=aE ht x
     rw[hm]at h1
     rw[hs]at h2
     generalize hum:a.eval m=um at h1
     generalize Wf:a.eval s=us at h2
     cases h1 with
     |mp hι eP =>
      rename_i pr
      cases h2 with
      |Gr hq hr hmq sb e1 jt =>
       rename_i n p pr'
       rw[hι,zOi]at hr;subst hr
       obtain ⟨_,ents,hb,aX,bU,yY⟩:=hh.kept cW hq hmq
       have az:=(zE.1 hb).1
       have iM:i<ents.size:=by rw[<-aX.1];exact (zB.1 eI).1
       have pw:ents[i]?=some ents[i]:=zL iM
       have hn:ents[i].born=n:=by
        rw[<-yY]at jt
        simpa [zM,pw] using jt
       obtain ⟨k',v',g1,g2,g3⟩:=aX.2 i _ _ eI pw
       simp only[List.cons.injEq,and_true]at g1
       obtain ⟨rfl,rfl⟩:=g1
       let ents':=ents.modify i fun e=>{ e with val:=a.eval x }
       have lR:ents.findIdx? (fun e=>(e.born:Int)==(n:Int))=some i:=by
        rw[Array.findIdx?_eq_some_iff_getElem]
        refine ⟨iM,by simp[hn],fun j hj hb => ?_⟩
        have hb:ents[j].born=n:=by
         have h:((ents[j].born:Nat):Int)=(n:Int):=by simpa using hb
         omega
        have:=bU.2 j i _ _ (zL (by omega)) pw (by rw[hb,hn])
        omega
       have bR:(Instr.entryStore t (.map (some pr.B)) (.int .i64 n) (a.eval x)).run P c.w=.ok () { c.w with heap:=c.w.heap.setIfInBounds p.B (.map ents' p.sz) }:=by
        unfold Instr.entryStore
        rw[<-e1]
        simp[MapKept.run_getObj_map hb,asInt,asIntOf,lR,Result.andThen,MapKept.run_setObj_map _ hb,ents']
       have bH:∀j,ents'[j]?=if j=i then some { ents[i] with val:=a.eval x } else ents[j]?:=by
        intro j
        simp only[ents',wY]
        by_cases hj:i=j
        ·subst hj;simp[pw]
        ·simp[hj,Ne.symm hj]
       have yJ:nc c (es.set i [kk,ev tm (cO x)]) ents':=⟨by simp[ents',aX.1],fun j l e' q1 q2=>by
        rw[wx]at q1
        rw[bH]at q2
        by_cases hj:i=j
        ·subst hj
         rw[if_pos rfl]at q2
         simp only[zOi]at q2;subst q2
         simp only[if_true]at q1
         split at q1
         ·simp only[zOi]at q1;subst q1
          exact ⟨_,_,rfl,g2,h3⟩
         ·cases q1
        ·rw[if_neg hj]at q1
         rw[if_neg (Ne.symm hj)]at q2
         exact aX.2 j l e' q1 q2⟩
       have EG:lu ents' p.sz:=bU.sub (zD _) id (fun _ _ h=>h) fun j e' q=>by
        rw[bH]at q
        split at q
        ·rename_i hj;subst hj
         simp only[zOi]at q;subst q
         exact ⟨_,pw,rfl⟩
        ·exact ⟨e',q,rfl⟩
       have pD:ents'.toList.map (·.born)=p.aux:=by
        rw[<-yY]
        apply qr
        intro j
        simp only[zM,Array.getElem?_toList,bH]
        split
        ·rename_i hj;subst hj;simp[pw]
        ·rfl
       obtain ⟨k1,k2⟩:=p8 hh cW hq hb (fun cs e fz h=>by cases h) (es':=es.set i [kk,ev tm (cO x)]) (w':={ c.w with heap:=c.w.heap.setIfInBounds p.B (.map ents' p.sz) }) rfl rfl rfl rfl yJ.nt
        (.inr (.inr (.inr ⟨hmq,ents',rfl,yJ,EG,pD⟩)))
       obtain ⟨m1,m2⟩:=Gi k1 (q:=q) (r:=r) (es:=es.set i [kk,ev tm (cO x)]) (by simp[ab]) hq hmq hι eP e1 (hp1:=ab (ab c.hp q (some (es.set i [kk,ev tm (cO x)]))) q none) (fun y=>by simp only[ab];split;exact .inr rfl;exact .inl rfl) (by simp[ab])
       exact ⟨undef,_,c.ι,.inr ⟨by simp only[execOp,hum,Wf];simp[bR],rfl⟩,k2.trans m2,m1,.v _⟩
    ·cases he
   ·cases he
  ·cases he
 ·cases he
end
theorem SI {P:Program} {op:Op} {co:jg} (hm:nb P op co) {dst:Option Tmp} {type:TypeId} {pos:String} {after:Array Edge} {guard:Option (Nat×Bool)} {tm:Nat->AV} {a:Act} {c:Cx} {v:AV} {hp':Heap} {nx nx':Nat} (he:fb tm c.hp nx co=some (v,hp',nx')) (ht:fJ c tm a) (hh:bg c nx) :
  dw P ⟨dst,op,type,pos,after,guard⟩ a c v hp' nx':=by
 cases hm with
 |look h hl hi hz=>simp[fb]at he
 |len ha h0 h=>simp[fb]at he
 |del ha h0 h hl=>exact OI ha h0 h hl he ht hh
 |range h=>exact GG h he ht hh
 |next=>exact KS he ht hh
 |Xu=>exact LM he ht hh
 |entry h hl hi hz=>exact HI h hl hi hz he ht hh
 |HH=>exact Fm he ht hh
 | @mk t kt et h =>
  simp only[fb,zOi,zPi]at he
  obtain ⟨rfl,rfl,rfl⟩:=he
  obtain ⟨h1,h2⟩:=ML hh (w':={ c.w with heap:=c.w.heap.push (.map #[] 0) }) rfl rfl rfl rfl
  exact ⟨.map (some c.w.heap.size),_,_,.inl rfl,h2,h1,.mp (p:=⟨c.w.heap.size,1,0,0,[]⟩) (by simp[cn]) (by simp)⟩
 | @set t kt et m k x lk h hl =>
  simp only[fb]at he
  split at he
  ·rename_i r hx
   split at he
   ·rename_i es cW
    split at he
    ·rename_i Hk
     have h1:=aE ht m
     have h2:=aE ht k
     have h3:=aE ht x
     rw[hx]at h1
     generalize yE:a.eval m=ux at h1
     cases h1 with
     |mp hι eP =>
      rename_i p
      obtain ⟨_,ents,clock,hb,aX,bU⟩:=hh.map cW hι eP
      obtain ⟨d,hd,NQ⟩:=rH hl
      have Hp:=fun em=>kR (P:=P) (w:=c.w) hd NQ em (a.eval k)
      have key:=mR NQ h2 es ents.toList 0 (by simpa using aX.1) (fun i row e h3 h4=>aX.2 i row e h3 (by simpa using h4))
      split at he
      ·rename_i i v' hf
       simp only[zOi,zPi]at he
       obtain ⟨rfl,rfl,rfl⟩:=he
       obtain ⟨e,g1,g2,g3,g4⟩:=key _ hf
       have DP:ents[i]?=some e:=by simpa using g1
       have iM:=(zE.1 DP).1
       let ents':=ents.modify i fun e=>{ e with key:=a.eval k,val:=a.eval x }
       have hsb:Instr.sameBits 10000 e.key (a.eval k)=true:=by
        rw[g3]
        exact tz Hk h2
       have bR:(Instr.mapUpdate t (.map (some p.B)) (a.eval k) (a.eval x)).run P c.w=.ok () { c.w with heap:=c.w.heap.setIfInBounds p.B (.map ents' clock) }:=by
        unfold Instr.mapUpdate
        simp[run_underlying h,MapKept.run_getObj_map hb,Hp,MapKept.run_findKey hd g4,Result.andThen,DP,Instr.keyThatStays,hsb,MapKept.run_setObj_map _ hb,ents']
       have bH:∀j,ents'[j]?=if j=i then some { e with key:=a.eval k,val:=a.eval x } else ents[j]?:=by
        intro j
        simp only[ents',wY]
        by_cases hj:i=j
        ·subst hj;simp[DP]
        ·simp[hj,Ne.symm hj]
       obtain ⟨k1,k2⟩:=ms hh cW hι eP hb (w':={ c.w with heap:=c.w.heap.setIfInBounds p.B (.map ents' clock) }) (ents':=ents') (clock':=clock) rfl rfl rfl rfl (es':=es.set i [ev tm (cO k),ev tm (cO x)]) ⟨by simp[ents',aX.1],fun j l e' q1 q2=>by
        rw[wx]at q1
        rw[bH]at q2
        by_cases hj:i=j
        ·subst hj
         rw[if_pos rfl]at q2
         simp only[zOi]at q2;subst q2
         simp only[if_true]at q1
         split at q1
         ·simp only[zOi]at q1;subst q1
          exact ⟨_,_,rfl,h2,h3⟩
         ·cases q1
        ·rw[if_neg hj]at q1
         rw[if_neg (Ne.symm hj)]at q2
         exact aX.2 j l e' q1 q2⟩ ⟨fun j e' q=>by
         rw[bH]at q
         split at q
         ·simp only[zOi]at q;subst q
          exact bU.1 i e DP
         ·exact bU.1 j e' q,fun j j' e1 e2 q1 q2 q3=>by
         have old:∀(j:Nat) (e1:MapEntry),ents'[j]?=some e1->∃e0:MapEntry,ents[j]?=some e0/\e0.born=e1.born:=by
          intro j e1 q
          rw[bH]at q
          split at q
          ·rename_i hj;subst hj
           simp only[zOi]at q;subst q
           exact ⟨e,DP,rfl⟩
          ·exact ⟨e1,q,rfl⟩
         obtain ⟨a1,b1,c1⟩:=old j e1 q1
         obtain ⟨a2,b2,c2⟩:=old j' e2 q2
         exact bU.2 j j' a1 a2 b1 b2 (by rw[c1,c2,q3])⟩
       exact ⟨undef,_,c.ι,.inr ⟨by simp only[execOp,yE];simp[bR],rfl⟩,k2,k1,.v _⟩
      ·rename_i hf
       simp only[zOi,zPi]at he
       obtain ⟨rfl,rfl,rfl⟩:=he
       have g4:=key _ hf
       let ents':=ents.push { key:=a.eval k,val:=a.eval x,born:=clock }
       have bR:(Instr.mapUpdate t (.map (some p.B)) (a.eval k) (a.eval x)).run P c.w=.ok () { c.w with heap:=c.w.heap.setIfInBounds p.B (.map ents' (clock+1)) }:=by
        unfold Instr.mapUpdate
        simp[run_underlying h,MapKept.run_getObj_map hb,Hp,MapKept.run_findKey hd g4,Result.andThen,MapKept.run_setObj_map _ hb,ents']
       have bH:∀j,ents'[j]?=if j=ents.size then some { key:=a.eval k,val:=a.eval x,born:=clock } else ents[j]?:=by
        intro j
        simp only[ents',wW]
       obtain ⟨k1,k2⟩:=ms hh cW hι eP hb (w':={ c.w with heap:=c.w.heap.setIfInBounds p.B (.map ents' (clock+1)) }) (ents':=ents') (clock':=clock+1) rfl rfl rfl rfl (es':=es++[[ev tm (cO k),ev tm (cO x)]]) ⟨by simp[ents',aX.1],fun j l e' q1 q2=>by
        rw[bH]at q2
        by_cases hj:j=ents.size
        ·rw[if_pos hj]at q2
         simp only[zOi]at q2;subst q2
         rw[za (by rw[aX.1];omega),hj,aX.1,Nat.sub_self]at q1
         simp at q1;subst q1
         exact ⟨_,_,rfl,h2,h3⟩
        ·rw[if_neg hj]at q2
         have tU:=(zE.1 q2).1
         rw[zR (by rw[aX.1];exact tU)]at q1
         exact aX.2 j l e' q1 q2⟩ ⟨fun j e' q=>by
         rw[bH]at q
         split at q
         ·simp only[zOi]at q;subst q;exact Nat.lt_succ_self _
         ·exact Nat.lt_succ_of_lt (bU.1 j e' q),fun j j' e1 e2 q1 q2 q3=>by
         rw[bH]at q1 q2
         split at q1
         ·rename_i hj
          simp only[zOi]at q1;subst q1
          split at q2
          ·rename_i hj';omega
          ·have:=bU.1 j' e2 q2
           simp at q3;omega
         ·split at q2
          ·simp only[zOi]at q2;subst q2
           have:=bU.1 j e1 q1
           simp at q3;omega
          ·exact bU.2 j j' e1 e2 q1 q2 q3⟩
       exact ⟨undef,_,c.ι,.inr ⟨by simp only[execOp,yE];simp[bR],rfl⟩,k2,k1,.v _⟩
      ·cases he
    ·cases he
   ·cases he
  ·cases he
theorem xP (c:Cx) {zv:Value} {sz n:Nat} (hz:zv.cells.size=sz):cE c (List.replicate n (zv.cells.toList.map js)).flatten (Builtin.zeroCells zv.cells n).toList:=by
 rcases qG sz with h0|h0
 ·have cG:zv.cells.toList=[]:=by
   have:zv.cells.size=0:=by omega
   simpa using this
  have h1:(List.replicate n (zv.cells.toList.map js)).flatten=[]:=by
   rw[cG]
   simp
  have h2:Builtin.zeroCells zv.cells n = #[]:=jR hz (by rw[h0];simp)
  rw[h1,h2]
  exact ⟨rfl,fun k av u h=>by simp at h⟩
 ·have:=nr c (len:=n) hz h0
  unfold Builtin.zeroCells
  rw[hz]
  rw[hz]at this
  exact this
theorem GY {α β:Type} {f:α->β} {args:Array α} {x:α} (h:args.toList=[x]):args.map f = #[f x]:=by
 have:args = #[x]:=qZ.1 (by simpa using h)
 subst this;simp
theorem HN {P:Program} {a:Act} {c:Cx} {nx:Nat} (hh:bg c nx) {ts:Array TypeId} {t e:TypeId} {inf:TypeInfo} {args:Array Operand} {x:Operand} {tm:Nat->AV} (ht:fJ c tm a) {r i len:Nat} {cap:Option Nat} {es:bN} {z:List AV}
  (h0:ts[0]?=some t) (hu:P.underlying t=some (.slice e)) (hi:P.info? e=some inf) (hz:zeroOf P e=some z) (bz:args.toList=[x])
  (hd:ev tm (cO x)=.sl r inf.size i len cap) (cW:c.hp r=some es) (ng:i+len<=es.length) (hzl:z.length=inf.size) (lH:0<inf.size) (hzo:z.all AV.one=true)
  {dst:Option Tmp} {type:TypeId} {pos:String} {after:Array Edge} {guard:Option (Nat×Bool)} :
  dw P ⟨dst,.call ⟨.builtin .clear,args,ts⟩,type,pos,after,guard⟩ a c (.v (.tuple #[])) (ab c.hp r (some (aa es i (List.replicate len z)))) nx:=by
 have hm:=GY (f:=a.eval) bz
 have h1:=aE ht x
 rw[hd]at h1
 generalize hud:a.eval x=ud at h1 hm
 obtain ⟨i',zv,kO,oe,oz,Lj⟩:=dz hz
 have NV:inf=i':=by rw[hi]at kO;exact Option.some.inj kO
 subst NV
 cases h1 with
 |sl hι EL ha hl dq hN hE eP =>
  rename_i m p ad
  obtain ⟨hF,cs,ee,fz,g3,g4,g5,g6⟩:=hh.cells cW hι eP
  have aX:∀(k:Nat) (l:List AV),(List.replicate len z)[k]?=some l->l.length=inf.size:=by
   intro k l hk
   rw[wP]at hk
   split at hk
   ·simp only[zOi]at hk;rw[<-hk,hzl]
   ·cases hk
  have y2:cE c (List.replicate len z).flatten (Builtin.zeroCells zv.cells len).toList:=by rw[Lj];exact xP c oz
  have vC:(Builtin.zeroCells zv.cells len).toList.length=len*inf.size:=by
   have:=y2.1
   rw[eK _ aX,qH]at this
   exact this.symm
  by_cases Ls:len=0
  ·subst Ls
   have bR:(Builtin.clear_ ts type #[.slice (some ad) 0 m]).run P c.w=.ok (.tuple #[]) c.w:=by
    unfold Builtin.clear_
    rw[h0,show (#[Value.slice (some ad) 0 m]:Array Value)[0]?=some (.slice (some ad) 0 m) from rfl]
    simp[Sem.run_bind,run_underlying hu,Result.andThen_ok,Sem.run_pure]
   have ll:ab c.hp r (some (aa es i (List.replicate 0 z)))=c.hp:=by
    rw[show List.replicate 0 z=[] from rfl,hY]
    funext q;unfold ab;split
    ·rename_i h;rw[h,cW]
    ·rfl
   refine ⟨_,c.w,c.ι,.inl (cH ?_),?_,?_,.v _⟩
   ·rw[hm]
    simp only[builtin,Sem.run_bind,bR,Result.andThen_ok,Sem.run_pure]
   ·rw[ll];exact Ext.refl c
   ·rw[ll];exact hh
  ·have yR:m≠0:=by omega
   have N8:=ha yR
   have hle:p.O+i*inf.size+(Builtin.zeroCells zv.cells len).toList.length<=cs.size:=by
    rw[g4,vC]
    have:=hN yR
    have h9:i*inf.size+len*inf.size<=(i+m)*inf.size:=by
     rw[<-ze];exact zX _ (by omega)
    omega
   have NL:∀v∈(Builtin.zeroCells zv.cells len).toList,v.oneCell'=true:=rE y2 (by
    rw[zQ]
    intro y hy
    obtain ⟨l,uL,Az⟩:=qe.1 hy
    rw[(List.mem_replicate.1 uL).2]at Az
    exact zQ.1 hzo y Az)
   obtain ⟨w',cs',s1,s2,s3,s4,s5,s6⟩:=fZ (P:=P) (B:=p.B) (o:=p.O+i*inf.size) (Builtin.zeroCells zv.cells len).toList 0 c.w cs g3 (by omega) (by intro k hk;rw[g4]at hk;exact g5 k hk) NL
   rw[wH]at s3
   have bR:(Builtin.clear_ ts type #[.slice (some ad) len m]).run P c.w=.ok (.tuple #[]) w':=by
    unfold Builtin.clear_
    rw[h0,show (#[Value.slice (some ad) len m]:Array Value)[0]?=some (.slice (some ad) len m) from rfl]
    have aep:(zeroValue e).run P c.w=.ok zv c.w:=by simp[zeroValue,typeInfo,kO,oe]
    obtain ⟨len,rfl⟩:∃k,len=k+1:=⟨len-1,by omega⟩
    rw[N8]
    simp only[Sem.run_bind,run_underlying hu,Result.andThen_ok,aep,s1,Sem.run_pure]
   have bH:∀q,cs'[q]?=if p.O+i*inf.size<=q/\q<p.O+i*inf.size+(Builtin.zeroCells zv.cells len).toList.length then (Builtin.zeroCells zv.cells len).toList[q-(p.O+i*inf.size)]? else cs[q]?:=by
    intro q
    rw[<-getElem?_arr,s3,getElem?_spliceL _ _ _ (by simpa using hle)]
    simp only[getElem?_arr]
   have abw:(List.replicate len z).length=len:=by simp
   obtain ⟨k1,k2⟩:=kU hh cW hι g3 s2 (by
     have:=congrArg List.length s3
     rw[dZ _ _ _ (by simpa using hle)]at this
     simpa using this) s4 s5 s6 (es':=aa es i (List.replicate len z)) (by
    intro k l hk
    have az:i+(List.replicate len z).length<=es.length:=by omega
    rw[getElem?_spliceL _ _ _ az]at hk
    split at hk
    ·rename_i hkr
     obtain ⟨h7,h8⟩:=nE aX y2 _ l hk
     refine ⟨h7.trans EL.symm,fun j av hj => ?_⟩
     obtain ⟨u,h9,iC⟩:=h8 j av hj
     refine ⟨u,?_,iC⟩
     have tU:=(zB.1 hj).1
     rw[EL,bH]
     have hq:p.O+k*inf.size+j=p.O+i*inf.size+((k-i)*inf.size+j):=by
      have:k*inf.size=i*inf.size+(k-i)*inf.size:=by rw[<-ze];congr 1;omega
      omega
     have fN:(k-i)*inf.size+j<(Builtin.zeroCells zv.cells len).toList.length:=(zB.1 h9).1
     rw[if_pos (by omega),hq,wa];exact h9
    ·rename_i hkr
     obtain ⟨h7,h8⟩:=g6 k l hk
     refine ⟨h7,fun j av hj => ?_⟩
     have tU:=(zB.1 hj).1
     rw[bH,if_neg]
     ·exact h8 j av hj
     ·rintro ⟨q1,q2⟩
      rw[EL]at q1 q2 h7
      rw[vC]at q2
      rcases zj k i with az|NX
      ·have:=zX inf.size (qU az)
       rw[qz]at this;omega
      ·have nf:i+len<=k:=by omega
       have:=zX inf.size nf
       rw[ze]at this;omega)
   refine ⟨_,w',c.ι,.inl (cH ?_),k2,k1,.v _⟩
   rw[hm]
   simp only[builtin,Sem.run_bind,bR,Result.andThen_ok,Sem.run_pure]
theorem Fl {P:Program} {b:Builtin} {args:Array Operand} {ts:Array TypeId} {dst:Option Tmp} {type:TypeId} {pos:String} {after:Array Edge} {guard:Option (Nat×Bool)} {co:jg} {tm:Nat->AV} {a:Act} {c:Cx} {v:AV} {hp':Heap} {nx nx':Nat}
  (ao:dg P b args.toList ts=some co) (he:fb tm c.hp nx co=some (v,hp',nx')) (ht:fJ c tm a) (hh:bg c nx) :
  dw P ⟨dst,.call ⟨.builtin b,args,ts⟩,type,pos,after,guard⟩ a c v hp' nx':=by
 unfold dg at ao
 split at ao
 ·simp only[zOi]at ao;subst ao;simp[fb]at he
 ·
  rename_i x y bz
  have hm:=mE (f:=a.eval) bz
  have h1:=aE ht x
  have h2:=aE ht y
  split at ao
  ·rename_i e hb ew
   split at ao
   ·rename_i Me
    simp only[zOi]at ao;subst ao
    simp only[zm]at hb
    obtain ⟨pt,hpt,hpu⟩:=hb
    obtain ⟨it,AL⟩:∃it,ts = #[pt,it]:=by
     obtain ⟨l⟩:=ts
     match l,ew with
     |[p,q],_=>simp at hpt;subst hpt;exact ⟨q,rfl⟩
    subst AL
    simp only[fb]at he
    split at he
    ·rename_i hx hy
     simp only[zOi,zPi]at he
     obtain ⟨rfl,rfl,rfl⟩:=he
     rw[hx]at h1;rw[hy]at h2
     refine ⟨.string .empty,c.w,c.ι,.inl (cH ?_),Ext.refl c,hh,.str []⟩
     rw[hm,h1.b8,h2.b8]
     simp only[builtin,Sem.run_bind,Lib.run_unsafeString_none,Result.andThen_ok,Sem.run_pure]
    ·rename_i q n hx hy
     split at he
     ·rename_i t' k es FX cW
      split at he
      ·rename_i hn
       obtain ⟨rfl,yQ,EO,BE⟩:=hn
       simp only[zC,zPi]at he
       obtain ⟨l,hl,rfl,rfl,rfl⟩:=he
       rw[hx]at h1;rw[hy]at h2
       have e2:=h2.b8
       obtain ⟨m,rfl⟩:∃m:Nat,n=m:=⟨n.toNat,by omega⟩
       generalize e1:a.eval x=xu at h1 hm
       have hbound:m<=9223372036854775807:=by omega
       refine Kj (pt:=pt) (it:=it) (ty:=type) (e:=t') hh hpu Me.1 ?_ h1 FX cW (by omega) (by omega) (by simpa using hl) hbound
       intro u w' bR
       refine .inl (cH ?_)
       rw[hm,e2]
       simp only[builtin,Sem.run_bind,bR,Result.andThen_ok,Sem.run_pure]
      ·simp at he
     ·simp at he
    ·simp at he
   ·simp at ao
  ·simp at ao
 ·split at ao<;>simp only[zOi,reduceCtorEq]at ao<;>subst ao<;>simp[fb]at he
 ·split at ao<;>simp only[zOi,reduceCtorEq]at ao<;>subst ao;simp[fb]at he
 ·simp only[zOi]at ao;subst ao;simp[fb]at he
 ·simp only[zOi]at ao;subst ao;simp[fb]at he
 ·
  rename_i s x bz
  have hm:=mE (f:=a.eval) bz
  have h1:=aE ht s
  have h2:=aE ht x
  split at ao
  ·rename_i t t2 BA TR
   split at ao
   ·
    rename_i e kk hu uK
    split at ao
    ·rename_i z i hz hi
     split at ao
     ·rename_i EI
      obtain ⟨EI,tW⟩:=EI
      simp only[zOi]at ao;subst ao
      obtain ⟨i',zv,kO,oe,oz,rfl⟩:=dz hz
      rw[hi]at kO;simp only[zOi]at kO;subst kO
      simp only[fb]at he
      split at he
      ·rename_i k m hx
       split at he
       ·rename_i hc
        obtain ⟨yR,hmb,WK,hzl,cV⟩:=hc
        rw[hx]at h2
        have e2:=h2.b8
        generalize hsu:a.eval s=su at h1 hm
        have aX:∀(q:Nat) (l:List AV),(List.replicate m.toNat (zv.cells.toList.map js))[q]?=some l->l.length=i.size:=by
         intro q l h
         simp only[wP]at h
         split at h
         ·simp only[zOi]at h;subst h;simpa using oz
         ·simp at h
        refine uZ (ts:=ts) (n:=m.toNat) (e:=e) (ty:=type) (x:=.int k m) (arr:=Builtin.zeroCells zv.cells m.toNat) (zc:=zv.cells) hh ?_ h1 (by simp) EI oz aX (xP c oz) ?_ ?_ ?_ he
        ·intro u w' bR
         refine .inl (cH ?_)
         rw[hm,e2]
         simp only[builtin,Sem.run_bind,bR,Result.andThen_ok,Sem.run_pure]
        ·rw[zQ]
         intro l hl
         rw[List.eq_of_mem_replicate hl];exact cV
        ·intro base sLen sCap w' fH bU
         exact AZ BA TR hu uK hi oe oz yR WK hmb fH bU
        ·intro base sLen sCap old ho fH IW
         exact AY BA TR hu uK hi oe oz yR WK hmb ho fH tW IW
       ·simp at he
      ·simp at he
     ·simp at ao
    ·simp at ao
   ·rename_i e d2 aa3 hu uK
    split at ao
    ·rename_i z i hz hi
     split at ao
     ·rename_i EI
      obtain ⟨EI,tW⟩:=EI
      simp only[zOi]at ao;subst ao
      obtain ⟨i',zv,kO,oe,oz,rfl⟩:=dz hz
      rw[hi]at kO;simp only[zOi]at kO;subst kO
      simp only[fb]at he
      split at he
      ·rename_i new sW
       split at he
       ·rename_i cV
        generalize hsu:a.eval s=su at h1 hm
        generalize hxu:a.eval x=xu at h2 hm
        obtain ⟨e1,e2,e3⟩:=jw (P:=P) hh h2 sW
        obtain ⟨ys,y1,y2⟩:=e3 new.length (zD _)
        rw[zW]at y2
        have hd:∀k,d2≠.int k:=fun k hk=>aa3 k hk
        refine uZ (ts:=ts) (n:=new.length) (e:=e) (ty:=type) (x:=xu) (arr:=ys.toArray) (zc:=zv.cells) hh ?_ h1 rfl EI oz e2 (by simpa using y2) cV ?_ ?_ he
        ·intro u w' bR
         refine .inl (cH ?_)
         rw[hm]
         simp only[builtin,Sem.run_bind,bR,Result.andThen_ok,Sem.run_pure]
        ·intro base sLen sCap w' fH bU
         exact om BA TR hu uK hd hi e1 (y1 c.w rfl) fH bU
        ·intro base sLen sCap old ho fH IW
         exact oj BA TR hu uK hd hi oe e1 y1 ho fH tW IW
       ·simp at he
      ·simp at he
     ·simp at ao
    ·simp at ao
   ·simp at ao
  ·simp at ao
 ·
  rename_i d s bz
  split at ao
  ·rename_i e AL
   simp only[zm]at AL
   obtain ⟨t,BA,RZ⟩:=AL
   split at ao
   ·rename_i i hi
    split at ao
    ·simp only[zOi]at ao;subst ao
     simp only[fb]at he
     split at he
     ·rename_i src Wi
      split at he
      ·rename_i r z i' len cap hd
       split at he
       ·rename_i hz
        subst hz
        split at he
        ·rename_i es cW
         split at he
         ·rename_i hc
          simp only[zOi,zPi]at he
          obtain ⟨rfl,rfl,rfl⟩:=he
          exact LS hh ht BA RZ hi bz Wi hd cW hc.1 hc.2
         ·simp at he
        ·simp at he
       ·simp at he
      ·simp at he
     ·simp at he
    ·simp at ao
   ·simp at ao
  ·simp at ao
 ·
  rename_i x bz
  split at ao
  ·rename_i e AL
   simp only[zm]at AL
   obtain ⟨t,BA,RZ⟩:=AL
   split at ao
   ·rename_i z i hz hi
    split at ao
    ·simp only[zOi]at ao;subst ao
     simp only[fb]at he
     split at he
     ·rename_i r z' i' len cap hd
      split at he
      ·rename_i CM
       subst CM
       split at he
       ·rename_i es cW
        split at he
        ·rename_i hc
         simp only[zOi,zPi]at he
         obtain ⟨rfl,rfl,rfl⟩:=he
         exact HN hh ht BA RZ hi hz bz hd cW hc.1 hc.2.1 hc.2.2.1 hc.2.2.2
        ·simp at he
       ·simp at he
      ·simp at he
     ·simp at he
    ·simp at ao
   ·simp at ao
  ·simp at ao
 ·simp at ao
theorem LI {P:Program} {own:Bool} {o:Oper} {co:jg} {tm:Nat->AV} {a:Act} {c:Cx} {v:AV} {hp':Heap} {nx nx':Nat} (hc:dH P own o=some co) (he:fb tm c.hp nx co=some (v,hp',nx')) (ht:fJ c tm a) (hh:bg c nx) :
  dw P o a c v hp' nx':=by
 obtain ⟨dst,op,type,pos,after,guard⟩:=o
 unfold dH at hc
 split at hc
 ·rename_i Rc ao
  simp only[zOi]at hc;subst hc
  cases op<;>simp only[ml]at ao
  case alloc e =>
   split at ao
   ·simp only[zC]at ao
    obtain ⟨z,hz,rfl⟩:=ao
    simp only[fb,zOi,zPi]at he
    obtain ⟨rfl,rfl,rfl⟩:=he
    exact DZ hh hz
   ·simp only[zC]at ao
    obtain ⟨z,hz,rfl⟩:=ao
    simp only[fb,zOi,zPi]at he
    obtain ⟨rfl,rfl,rfl⟩:=he
    exact HW hh hz
  case panic x=>simp only[zOi]at ao;subst ao;simp[fb]at he
  case box e x =>
   simp only[zOi]at ao;subst ao
   simp only[fb]at he
   split at he
   ·rename_i cV
    simp only[zOi,zPi]at he
    obtain ⟨rfl,rfl,rfl⟩:=he
    exact Qp hh ht cV
   ·simp at he
  case buildSlice t n parts =>
   split at ao
   ·rename_i e hu
    split at ao
    ·rename_i z i hz hi
     split at ao
     ·rename_i Me
      simp only[zOi]at ao;subst ao
      cases own with
      |false=>simp[fb]at he
      |true =>
       simp only[↓reduceIte,fb]at he
       split at he
       ·rename_i es cW
        simp only[zOi,zPi]at he
        obtain ⟨rfl,rfl,rfl⟩:=he
        obtain ⟨i',zv,kO,oe,oz,rfl⟩:=dz hz
        rw[hi]at kO;simp only[zOi]at kO;subst kO
        exact Kn hh ht hu hi oe oz Me.1 Me.2 cW
       ·simp at he
     ·simp at ao
    ·simp at ao
   ·simp at ao
  case store t x y =>
   split at ao
   ·rename_i i hi
    split at ao
    ·rename_i h0
     simp only[zOi]at ao;subst ao
     simp only[fb]at he
     split at he
     ·rename_i r j o hx
      split at he
      ·rename_i es cW
       split at he
       ·rename_i l hl
        split at he
        ·rename_i Me
         simp only[zOi,zPi]at he
         obtain ⟨rfl,rfl,rfl⟩:=he
         exact Gn hh ht hi h0 hx cW hl Me.1 Me.2.1 Me.2.2
        ·simp at he
       ·simp at he
      ·simp at he
     ·simp at he
    ·simp at ao
   ·simp at ao
  case convert src Da x =>
   unfold gM at ao
   split at ao
   ·simp only[zOi]at ao;subst ao;simp[fb]at he
   ·simp only[zOi]at ao;subst ao;simp[fb]at he
   ·rename_i e hs hd
    split at ao
    ·rename_i RY
     simp only[zOi]at ao;subst ao
     simp only[fb]at he
     split at he
     ·rename_i l hx
      simp only[zOi,zPi]at he
      obtain ⟨rfl,rfl,rfl⟩:=he
      have h1:=aE ht x
      rw[hx]at h1
      exact ME hh hs hd RY h1.fQ
     ·simp at he
    ·simp at ao
   ·split at ao
    ·simp only[zOi]at ao;subst ao;simp[fb]at he
    ·simp at ao
   ·simp only[zOi]at ao;subst ao;simp[fb]at he
   ·split at ao
    ·simp only[zOi]at ao;subst ao;simp[fb]at he
    ·simp at ao
   ·split at ao
    ·simp only[zOi]at ao;subst ao;simp[fb]at he
    ·simp at ao
   ·simp at ao
  case makeSlice t l n =>
   split at ao
   ·rename_i e hu
    split at ao
    ·rename_i z i hz hi
     split at ao
     ·rename_i Me
      simp only[zOi]at ao;subst ao
      simp only[fb]at he
      split at he
      ·rename_i k1 p k2 q hx hy
       split at he
       ·rename_i hb
        simp only[zOi,zPi]at he
        obtain ⟨rfl,rfl,rfl⟩:=he
        obtain ⟨i',zv,kO,oe,oz,rfl⟩:=dz hz
        rw[hi]at kO;simp only[zOi]at kO;subst kO
        have h1:=aE ht l
        have h2:=aE ht n
        rw[hx]at h1;rw[hy]at h2
        exact CC hh hu hi oe oz Me.1 h1.b8 h2.b8 hb.1 hb.2.1 hb.2.2.1 hb.2.2.2
       ·simp at he
      ·simp at he
     ·simp at ao
    ·simp at ao
   ·simp at ao
  case call cl =>
   obtain ⟨callee,args,ts⟩:=cl
   cases callee with
   |value f =>
    cases f<;>simp only[]at ao<;>(try (split at ao))<;>simp only[zOi,reduceCtorEq]at ao<;>subst ao<;>simp[fb]at he
   |invoke r m=>simp at ao
   |builtin b =>
    simp only[]at ao
    split at ao
    ·exact OB ao he ht hh
    ·exact Fl ao he ht hh
  all_goals (first|(simp at ao;done)|skip)
  all_goals ((try unfold jX at ao);(repeat' split at ao)<;>(first|(simp only[zOi,reduceCtorEq]at ao;done)|(simp only[zOi]at ao;subst ao;simp[fb]at he;done)|(simp only[zC]at ao;obtain ⟨_,_,rfl⟩:=ao;simp[fb]at he;done)))
 ·cases op
  case binOp =>
   unfold iS at hc
   (repeat' split at hc)<;>simp only[zOi,reduceCtorEq]at hc<;>subst hc<;>simp[fb]at he
  all_goals exact SI (dx hc) he ht hh
theorem Ar {R R':aQ} (hR:∀f a h n v h' n' k,R f a h n v h' n' k->R' f a h n v h' n' k) {f args hp nx} {K K':AV->Heap->Nat->Kd->Prop}
  (hK:∀v h n k,K v h n k->K' v h n k) (h:gQ R f args hp nx K):gQ R' f args hp nx K' :=
 let ⟨v,h',n',k,r,q⟩:=h;⟨v,h',n',k,hR _ _ _ _ _ _ _ _ r,hK _ _ _ _ q⟩
theorem m8 {R R':aQ} (hR:∀f a h n v h' n' k,R f a h n v h' n' k->R' f a h n v h' n' k) {co:jg} {s:St} {K K':AV->Heap->Nat->Kd->Prop}
  (hK:∀v h n k,K v h n k->K' v h n k) (h:ey R co s K):ey R' co s K':=by
 unfold ey at *
 split at h
 ·exact Ar hR hK h
 ·split at h
  ·rename_i hg;(try simp only[hg]);exact Ar hR hK h
  ·exact h.elim
 ·split at h
  ·rename_i he;(try simp only[he]);exact hK _ _ _ _ h
  ·rename_i he;(try simp only[he])
   split at h
   ·rename_i hr;(try simp only[hr]);exact hK _ _ _ _ h
   ·rename_i hr;(try simp only[hr])
    split at h
    ·rename_i hE;(try simp only[hE]);exact hK _ _ _ _ h
    ·exact h.elim
theorem jO {R R':aQ} (hR:∀f a h n v h' n' k,R f a h n v h' n' k->R' f a h n v h' n' k):∀(ops:List aL) (s:St) {Q Q':St->Prop},(∀s,Q s->Q' s)->gq R ops s Q->gq R' ops s Q'
 |[],s,Q,Q',hQ,h=>hQ _ h
 |o::rest,s,Q,Q',hQ,h=>by
  unfold gq at *
  split at h
  ·rename_i hw;(try simp only[hw])
   exact m8 hR (fun v hp nx _ h=>jO hR rest _ hQ h) h
  ·rename_i hw;(try simp only[hw]);exact jO hR rest _ hQ h
  ·exact h.elim
theorem jP {R R':aQ} (hR:∀f a h n v h' n' k,R f a h n v h' n' k->R' f a h n v h' n' k):∀(ops:List aL) (s:St) (bj:List Rec) {Q Q':St->List Rec->Prop},(∀s r,Q s r->Q' s r)->eg R ops s bj Q->eg R' ops s bj Q'
 |[],s,bj,Q,Q',hQ,h=>hQ _ _ h
 |o::rest,s,bj,Q,Q',hQ,h=>by
  unfold eg at *
  split at h
  ·rename_i hw;(try simp only[hw])
   exact m8 hR (fun v hp nx _ h=>jP hR rest _ _ hQ h) h
  ·rename_i hw;(try simp only[hw]);exact jP hR rest _ _ hQ h
  ·exact h.elim
theorem sQ {F F':(eS->St->Prop)->St->Prop} (hF:∀Q Q' s,(∀e s,Q e s->Q' e s)->F Q s->F' Q' s) :
  ∀(n:Nat) (Q Q':eS->St->Prop) (s:St),(∀e s,Q e s->Q' e s)->jj F Q n s->jj F' Q' n s
 |0,_,_,_,_,h=>h.elim
 |n+1,Q,Q',s,hQ,h=>by
  simp only[jj]at *
  refine hF _ _ s (fun e s h => ?_) h
  cases e with
  |normal=>exact sQ hF n Q Q' s hQ h
  |exit i=>exact hQ _ _ h
  |ret=>exact hQ _ _ h
theorem Ao {tm:Nat->AV} {hp:Heap} {x:fg} {K K':AV->Heap->Prop} (hK:∀v h,K v h->K' v h) (h:Ap tm hp x K):Ap tm hp x K' :=
 let ⟨q,r,hd,fl,es,h1,h2,h3,h4,h5⟩:=h
 ⟨q,r,hd,fl,es,h1,h2,h3,fun e=>hK _ _ (h4 e),fun j hj=>let ⟨p,g1,g2⟩:=h5 j hj;⟨p,g1,hK _ _ g2⟩⟩
theorem Ow {l:List Nat} {P:Nat->Nat->Prop} (hP:∀m n j,m<=n->P m j->P n j) (h:∀j∈l,∃n,P n j):∃n,∀j∈l,P n j:=by
 induction l with
 |nil=>exact ⟨0,fun j hj=>by simp at hj⟩
 |cons a l ih =>
  obtain ⟨n1,g1⟩:=h a (by simp)
  obtain ⟨n2,g2⟩:=ih fun j hj=>h j (by simp[hj])
  refine ⟨max n1 n2,fun j hj => ?_⟩
  rcases zH.1 hj with rfl|hj
  ·exact hP _ _ _ (Nat.le_max_left _ _) g1
  ·exact hP _ _ _ (Nat.le_max_right _ _) (g2 j hj)
theorem HZ {tm:Nat->AV} {hp:Heap} {x:fg} {K:Nat->AV->Heap->Prop} (hK:∀m n,m<=n->∀v h,K m v h->K n v h) (h:Ap tm hp x (fun v h=>∃n,K n v h)):∃n,Ap tm hp x (K n):=by
 obtain ⟨q,r,hd,fl,es,h1,h2,h3,h4,h5⟩:=h
 obtain ⟨n1,g1⟩:∃n,ij fl 0=[]->K n (.bE [.v (.bool false)]) (ab (ab (ab hp q none) (q+1) none) r (some es)):=by
  by_cases hl:ij fl 0=[]
  ·obtain ⟨n,g⟩:=h4 hl;exact ⟨n,fun _=>g⟩
  ·exact ⟨0,fun h=>absurd h hl⟩
 obtain ⟨n2,g2⟩:=Ow (P:=fun n j=>∃p,MU hp q fl es j=some p/\K n p.1 p.2) (fun m n j oD ⟨p,e1,e2⟩=>⟨p,e1,hK m n oD _ _ e2⟩) (fun j hj=>let ⟨p,e1,n,e2⟩:=h5 j hj;⟨n,p,e1,e2⟩)
 exact ⟨max n1 n2,q,r,hd,fl,es,h1,h2,h3,fun e=>hK _ _ (Nat.le_max_left _ _) _ _ (g1 e),fun j hj=>let ⟨p,e1,e2⟩:=g2 j hj;⟨p,e1,hK _ _ (Nat.le_max_right _ _) _ _ e2⟩⟩
theorem da {R R':aQ} (hR:∀f a h n v h' n' k,R f a h n v h' n' k->R' f a h n v h' n' k):∀(c:cC) (Q Q':eS->St->Prop) (s:St),(∀e s,Q e s->Q' e s)->W R c Q s->W R' c Q' s
 |.skip,Q,Q',s,hQ,h=>hQ _ _ h
 |.region ops,Q,Q',s,hQ,h=>jO hR ops s (hQ .normal) h
 |.draw pre ops,Q,Q',s,hQ,h=>jP hR ops s [] (fun s r ⟨h1,h2⟩=>⟨h1,hQ _ _ h2⟩) h
 |.seq a b,Q,Q',s,hQ,h=>by
  unfold W at *
  refine da hR a _ _ s (fun e s h => ?_) h
  cases e with
  |normal=>exact da hR b Q Q' s hQ h
  |exit i=>exact hQ _ _ h
  |ret=>exact hQ _ _ h
 |.cond c a b,Q,Q',s,hQ,h=>by
  unfold W at *
  split at h
  ·rename_i hc;(try simp only[hc])
   split at h
   ·rename_i ht;simp only[ht,if_true];exact da hR a Q Q' s hQ h
   ·rename_i ht;simp only[ht];exact da hR b Q Q' s hQ h
  ·exact h.elim
 |.block id a,Q,Q',s,hQ,h=>by
  unfold W at *
  refine da hR a _ _ s (fun e s h => ?_) h
  cases e with
  |normal=>exact hQ _ _ h
  |exit i=>dsimp only at *;split at h<;>rename_i hi<;>simp only[hi,if_true,if_false]<;>exact hQ _ _ h
  |ret=>exact hQ _ _ h
 |.loop a,Q,Q',s,hQ,h=>by
  unfold W at *
  obtain ⟨n,h⟩:=h
  exact ⟨n,sQ (fun Q Q' s hq h=>da hR a Q Q' s hq h) n Q Q' s hQ h⟩
 |.exit id,Q,Q',s,hQ,h=>hQ _ _ h
 |.ret,Q,Q',s,hQ,h=>hQ _ _ h
 |.choose d x ops,Q,Q',s,hQ,h=>Ao (fun v hp h=>jO hR ops _ (hQ .normal) h) h
 |.ah l,Q,Q',s,hQ,h=>hQ _ _ h
section
variable {R:Nat->aQ} (hR:∀m n,m<=n->∀f a h x v h' x' k,R m f a h x v h' x' k->R n f a h x v h' x' k)
include hR
theorem FT {co:jg} {s:St} {K:Nat->AV->Heap->Nat->Kd->Prop} (hK:∀m n,m<=n->∀v h x k,K m v h x k->K n v h x k)
  (h:ey (fun f a h x v h' x' k=>∃n,R n f a h x v h' x' k) co s (fun v h x k=>∃n,K n v h x k)):∃n,ey (R n) co s (K n):=by
 have Ui:∀f args,gQ (fun f a h x v h' x' k=>∃n,R n f a h x v h' x' k) f args s.hp s.nx (fun v h x k=>∃n,K n v h x k)->∃n,gQ (R n) f args s.hp s.nx (K n):=by
  rintro f args ⟨v,h',x',k,⟨m,r⟩,n,q⟩
  exact ⟨max m n,v,h',x',k,hR _ _ (Nat.le_max_left _ _) _ _ _ _ _ _ _ _ r,hK _ _ (Nat.le_max_right _ _) _ _ _ _ q⟩
 unfold ey at *
 split at h
 ·exact Ui _ _ h
 ·split at h
  ·rename_i hg;(try simp only[hg]);exact Ui _ _ h
  ·exact h.elim
 ·split at h
  ·rename_i he;(try simp only[he]);exact h
  ·rename_i he;(try simp only[he])
   split at h
   ·rename_i hr;(try simp only[hr]);exact h
   ·rename_i hr;(try simp only[hr])
    split at h
    ·rename_i hE;(try simp only[hE]);exact h
    ·exact h.elim
theorem rW:∀(ops:List aL) (s:St) {Q:Nat->St->Prop},(∀m n,m<=n->∀s,Q m s->Q n s) ->
  gq (fun f a h x v h' x' k=>∃n,R n f a h x v h' x' k) ops s (fun s=>∃n,Q n s)->∃n,gq (R n) ops s (Q n)
 |[],s,Q,hQ,h=>h
 |o::rest,s,Q,hQ,h=>by
  unfold gq at *
  split at h
  ·rename_i hw;(try simp only[hw])
   refine FT hR (K:=fun n v hp nx k=>gq (R n) rest (s.put o.dst v hp nx) (Q n)) ?_ ?_
   ·exact fun m n oD v hp nx k h=>jO (hR m n oD) rest _ (hQ m n oD) h
   ·exact m8 (fun _ _ _ _ _ _ _ _ h=>h) (fun v hp nx k h=>rW rest _ hQ h) h
  ·rename_i hw;(try simp only[hw]);exact rW rest _ hQ h
  ·exact h.elim
theorem tg:∀(ops:List aL) (s:St) (bj:List Rec) {Q:Nat->St->List Rec->Prop},(∀m n,m<=n->∀s r,Q m s r->Q n s r) ->
  eg (fun f a h x v h' x' k=>∃n,R n f a h x v h' x' k) ops s bj (fun s r=>∃n,Q n s r)->∃n,eg (R n) ops s bj (Q n)
 |[],s,bj,Q,hQ,h=>h
 |o::rest,s,bj,Q,hQ,h=>by
  unfold eg at *
  split at h
  ·rename_i hw;(try simp only[hw])
   refine FT hR (K:=fun n v hp nx k=>eg (R n) rest (s.put o.dst v hp nx) (bj++[⟨k,s.hp,hp⟩]) (Q n)) ?_ ?_
   ·exact fun m n oD v hp nx k h=>jP (hR m n oD) rest _ _ (hQ m n oD) h
   ·exact m8 (fun _ _ _ _ _ _ _ _ h=>h) (fun v hp nx k h=>tg rest _ _ hQ h) h
  ·rename_i hw;(try simp only[hw]);exact tg rest _ _ hQ h
  ·exact h.elim
theorem nV:∀(c:cC) (s:St) {Q:Nat->eS->St->Prop},(∀m n,m<=n->∀e s,Q m e s->Q n e s) ->
  W (fun f a h x v h' x' k=>∃n,R n f a h x v h' x' k) c (fun e s=>∃n,Q n e s) s->∃n,W (R n) c (Q n) s
 |.skip,s,Q,hQ,h=>h
 |.region ops,s,Q,hQ,h=>rW hR ops s (fun m n h=>hQ m n h .normal) h
 |.draw pre ops,s,Q,hQ,h=>by
  unfold W at *
  refine tg hR ops s [] (Q:=fun n s' bj=>cZ pre bj/\Q n .normal s') (fun m n h s r ⟨h1,h2⟩=>⟨h1,hQ m n h _ _ h2⟩) ?_
  exact jP (fun _ _ _ _ _ _ _ _ h=>h) _ _ _ (fun s r ⟨h1,n,h2⟩=>⟨n,h1,h2⟩) h
 |.seq a b,s,Q,hQ,h=>by
  unfold W at *
  refine nV a s (Q:=fun n e s'=>match e with | .normal=>W (R n) b (Q n) s'|e=>Q n e s') ?_ ?_
  ·intro m n oD e s h
   cases e with
   |normal=>exact da (hR m n oD) b _ _ s (hQ m n oD) h
   |exit i=>exact hQ m n oD _ _ h
   |ret=>exact hQ m n oD _ _ h
  ·refine da (fun _ _ _ _ _ _ _ _ h=>h) a _ _ s (fun e s h => ?_) h
   cases e with
   |normal=>exact nV b s hQ h
   |exit i=>exact h
   |ret=>exact h
 |.cond c a b,s,Q,hQ,h=>by
  unfold W at *
  split at h
  ·rename_i hc;(try simp only[hc])
   split at h
   ·rename_i ht;simp only[ht,if_true];exact nV a s hQ h
   ·rename_i ht;simp only[ht];exact nV b s hQ h
  ·exact h.elim
 |.block id a,s,Q,hQ,h=>by
  unfold W at *
  refine nV a s (Q:=fun n e s'=>match e with | .exit i=>if i=id then Q n .normal s' else Q n (.exit i) s'|e=>Q n e s') ?_ ?_
  ·intro m n oD e s h
   cases e with
   |normal=>exact hQ m n oD _ _ h
   |exit i=>dsimp only at *;split at h<;>rename_i hi<;>simp only[hi,if_true,if_false]<;>exact hQ m n oD _ _ h
   |ret=>exact hQ m n oD _ _ h
  ·refine da (fun _ _ _ _ _ _ _ _ h=>h) a _ _ s (fun e s h => ?_) h
   cases e with
   |normal=>exact h
   |exit i=>dsimp only at *;split at h<;>rename_i hi<;>simp only[hi,if_true,if_false]<;>exact h
   |ret=>exact h
 |.loop a,s,Q,hQ,h=>by
  unfold W at *
  obtain ⟨k,h⟩:=h
  have key:∀(k:Nat) (s:St),jj (W (fun f a h x v h' x' k=>∃n,R n f a h x v h' x' k) a) (fun e s=>∃n,Q n e s) k s->∃n,jj (W (R n) a) (Q n) k s:=by
   intro k
   induction k with
   |zero=>intro s h;exact h.elim
   |succ k ih =>
    intro s h
    simp only[jj]at *
    refine nV a s (Q:=fun n e s'=>match e with | .normal=>jj (W (R n) a) (Q n) k s'|e=>Q n e s') ?_ ?_
    ·intro m n oD e s h
     cases e with
     |normal=>exact sQ (fun Q Q' s hq h=>da (hR m n oD) a Q Q' s hq h) k _ _ s (hQ m n oD) h
     |exit i=>exact hQ m n oD _ _ h
     |ret=>exact hQ m n oD _ _ h
    ·refine da (fun _ _ _ _ _ _ _ _ h=>h) a _ _ s (fun e s h => ?_) h
     cases e with
     |normal=>exact ih s h
     |exit i=>exact h
     |ret=>exact h
  obtain ⟨n,h⟩:=key k s h
  exact ⟨n,k,h⟩
 |.exit id,s,Q,hQ,h=>h
 |.ret,s,Q,hQ,h=>h
 |.choose d x ops,s,Q,hQ,h=>by
  unfold W at *
  exact HZ (K:=fun n v hp=>gq (R n) ops ⟨jY s.tm d v,hp,s.nx⟩ (Q n .normal)) (fun m n oD v hp h=>jO (hR m n oD) ops _ (fun s=>hQ m n oD .normal s) h)
   (Ao (fun v hp h=>rW hR ops _ (fun m n oD=>hQ m n oD .normal) h) h)
 |.ah l,s,Q,hQ,h=>h
end
theorem vb (E:Env):∀m n,m<=n->∀f a h x v h' x' k,vd E m f a h x v h' x' k->vd E n f a h x v h' x' k
 |0,n,_,_,_,_,_,_,_,_,_,h=>h.elim
 |m+1,0,oD,_,_,_,_,_,_,_,_,h=>absurd oD (by omega)
 |m+1,n+1,oD,f,a,h0,x,v,h',x',k,h=>by
  have ih:=vb E m n (by omega)
  simp only[vd]at *
  rcases h with h|⟨cf,h1,h2,h3⟩|⟨h1,h2,h3,h4,args0,h5,h6⟩|⟨h1,args0,L,k',h2,h3⟩|⟨h1,h2,h3,h4,nx1,h5⟩
  ·exact .inl h
  rotate_left
  ·exact .inr (.inr (.inl ⟨h1,h2,h3,h4,args0,h5,ih _ _ _ _ _ _ _ _ h6⟩))
  ·exact .inr (.inr (.inr (.inl ⟨h1,args0,L,k',h2,ih _ _ _ _ _ _ _ _ h3⟩)))
  ·exact .inr (.inr (.inr (.inr ⟨h1,h2,h3,h4,nx1,ih _ _ _ _ _ _ _ _ h5⟩)))
  ·refine .inr (.inl ⟨cf,h1,h2,?_⟩)
   rcases h3 with ⟨hk,h4,h5,h6,h7⟩|⟨hk,h4⟩
   ·exact .inl ⟨hk,h4,h5,h6,da ih _ _ _ _ (fun _ _ h=>h) h7⟩
   ·exact .inr ⟨hk,da ih _ _ _ _ (fun _ _ h=>h) h4⟩
theorem uk {E:Env} {f args hp nx v hp' nx' k} (h:E.AH f args hp nx v hp' nx' k):aY E f args hp nx v hp' nx' k :=
 ⟨1,.inl h⟩
theorem FV {E:Env} {f:Nat} {cf:au} {args:List AV} {v:AV} (hf:E.fn f=some cf) (hn:args.length=cf.np) (hc:bT args=true)
  (h:W (aY E) cf.body (fun e s=>kI e/\∃v1,ma cf.kK s=some v1/\kh 6 s.hp v1=some v) (init args cG 0)) (hp:Heap) (nx:Nat) :
  aY E f args hp nx v hp nx .p:=by
 obtain ⟨n,h⟩:=nV (R:=vd E) (vb E) cf.body (init args cG 0) (Q:=fun _ e s=>kI e/\∃v1,ma cf.kK s=some v1/\kh 6 s.hp v1=some v) (fun _ _ _ _ _ h=>h)
  (da (fun _ _ _ _ _ _ _ _ h=>h) _ _ _ _ (fun _ _ h=>⟨0,h⟩) h)
 exact ⟨n+1,.inr (.inl ⟨cf,hf,hn,.inl ⟨rfl,rfl,rfl,hc,h⟩⟩)⟩
theorem Ke {E:Env} {f:Nat} {cf:au} {args:List AV} {hp hp':Heap} {nx nx':Nat} {v:AV} (hf:E.fn f=some cf) (hn:args.length=cf.np)
  (h:W (aY E) cf.body (fun e s=>kI e/\ma cf.kK s=some v/\Sub hp' s.hp/\nx'=s.nx) (init args hp nx)) :
  aY E f args hp nx v hp' nx' .e:=by
 obtain ⟨n,h⟩:=nV (R:=vd E) (vb E) cf.body (init args hp nx) (Q:=fun _ e s=>kI e/\ma cf.kK s=some v/\Sub hp' s.hp/\nx'=s.nx) (fun _ _ _ _ _ h=>h)
  (da (fun _ _ _ _ _ _ _ _ h=>h) _ _ _ _ (fun _ _ h=>⟨0,h⟩) h)
 exact ⟨n+1,.inr (.inl ⟨cf,hf,hn,.inr ⟨rfl,h⟩⟩)⟩
theorem na {E:Env} {f:Nat} {args args0:List AV} {v:AV} {hp:Heap} {nx:Nat} (hz:dW (kh 6 hp) args=some args0) (hv:v.flat=true) (h:aY E f args0 cG 0 v cG 0 .p):aY E f args hp nx v hp nx .e :=
 let ⟨n,h⟩:=h;⟨n+1,.inr (.inr (.inl ⟨rfl,rfl,rfl,hv,args0,hz,h⟩))⟩
theorem ul {E:Env} {f:Nat} {args args0:List AV} {v:AV} {hp hp':Heap} {nx nx':Nat} {k:Kd} (L:List Nat) (hz:dW (fO 6 (di hp L)) args=some args0) (h:aY E f args0 (kl hp L) nx v hp' nx' k):aY E f args hp nx v hp' nx' .e :=
 let ⟨n,h⟩:=h;⟨n+1,.inr (.inr (.inr (.inl ⟨rfl,args0,L,k,hz,h⟩)))⟩
structure SR (c:Cx) (s:St) (nt:Nat) (a:Act):Prop where
 tm:fJ c s.tm a
 sz:a.tmps.size=nt
 df:a.defers=c.F.G
 hp:c.hp=s.hp
 rel:bg c s.nx
def kq (c:Cx) (k:Kd) (v:AV) (hp':Heap) (nx nx':Nat):Ending->World->Prop:=fun e w' =>
 ∃u ι',e=.returned u/\(k=.p->ι'=c.ι/\hp'=c.hp/\nx'=nx)/\Ext c ⟨c.F,ι',hp',w'⟩/\bg ⟨c.F,ι',hp',w'⟩ nx'/\aC ⟨c.F,ι',hp',w'⟩ v u
def lB (P:Program) (f:Nat) (cargs:Array Value) (w:World) (Q:Ending->World->Prop):Prop :=
 (gk P f=true/\Calls P f cargs w Q)\/∃u w',(callFunc f cargs).run P w=.ok (.value u) w'/\Q (.returned u) w'
theorem lB.mono {P:Program} {f:Nat} {cargs:Array Value} {w:World} {Q Q':Ending->World->Prop} (h:lB P f cargs w Q) (hQ:∀e w',Q e w'->Q' e w'):lB P f cargs w Q':=by
 rcases h with ⟨h1,h2⟩|⟨u,w',h1,h2⟩
 ·exact .inl ⟨h1,Calls.mono h2 hQ⟩
 ·exact .inr ⟨u,w',h1,hQ _ _ h2⟩
structure de (P:Program) (R:aQ):Prop where
 kind:∀f args hp nx v hp' nx' k,R f args hp nx v hp' nx' k->k=.p\/k=.e
 pure:∀f args hp nx v hp' nx',R f args hp nx v hp' nx' .p->hp'=hp/\nx'=nx/\∀aT ar,R f args aT ar v aT ar .p
 calls:∀f args hp nx v hp' nx' k,R f args hp nx v hp' nx' k->∀(c:Cx) (cargs:Array Value),c.hp=hp->bg c nx->cE c args cargs.toList->lB P f cargs c.w (kq c k v hp' nx nx')
theorem C0 {P:Program} {f:Nat} (h:gk P f=true):∃fn c,P.funcs[f]?=some fn/\(fn.name == "runtime.NumGoroutine")=false/\fn.body=some c:=by
 unfold gk at h
 split at h
 ·rename_i fn hf
  simp only[zN,wh]at h
  obtain ⟨c,hc⟩:=wM.1 h.2
  exact ⟨fn,c,hf,h.1,hc⟩
 ·simp at h
theorem uc {P:Program} {w:World} {f:Nat} (h:gk P f=true) (args:Array Value):(callFunc f args).run P w=.ok (.enter f args) w:=by
 obtain ⟨fn,c,h1,h2,h3⟩:=C0 h
 simp only[callFunc,Sem.run_bind,run_program,Result.andThen_ok,h1]
 rw[if_neg (by rw[h2];simp)]
 simp[h3]
theorem El (a:Act) (d:Option Nat) (u:Value):(a.put d u).tmps.size=a.tmps.size:=by
 cases d<;>simp[Act.put]
theorem put_defers (a:Act) (d:Option Nat) (u:Value):(a.put d u).defers=a.defers:=by
 cases d<;>rfl
theorem fJ.put {c:Cx} {tm:Nat->AV} {a:Act} (h:fJ c tm a) {d:Option Nat} {v:AV} {u:Value} (hv:aC c v u) (hd:d.all (· < a.tmps.size)=true) (s:St) (hs:s.tm=tm) (hp:Heap) (nx:Nat):fJ c (s.put d v hp nx).tm (a.put d u):=by
 cases d with
 |none=>simp only[St.put,Act.put];rw[hs];exact h
 |some d =>
  simp only[Option.all_some,decide_eq_true_eq]at hd
  intro t
  simp only[St.put,Act.put,jY]
  split
  ·rename_i ht;subst ht
   have:(a.tmps.setIfInBounds t u).getD t undef=u:=by simp[hd]
   rw[this];exact hv
  ·rename_i ht
   have:(a.tmps.setIfInBounds d u).getD t undef=a.tmps.getD t undef:=by
    simp[wQ (fun h=>ht h.symm)]
   rw[this,hs];exact h t
theorem k9 {c:Cx} {tm:Nat->AV} {a:Act} {ops:Array Oper} {o:Oper} {g:Option (Nat×Bool)} {b:Bool} (hg:rR ops o.guard=some g) (hw:gR tm g=some b) (ht:fJ c tm a) :
  Region.wanted o (yielded ops a.tmps)=b:=by
 unfold rR at hg
 split at hg
 ·rename_i hn
  simp only[zOi]at hg;subst hg
  simp only[gR,zOi]at hw;subst hw
  simp[Region.wanted,hn]
 ·rename_i j want hn
  split at hg
  ·rename_i d hd
   simp only[zOi]at hg;subst hg
   have hr:=ht d
   simp only[gR]at hw
   split at hw
   ·rename_i q hq
    simp only[zOi]at hw;subst hw
    rw[hq]at hr
    have e:=hr.b8
    have az:d<a.tmps.size:=by
     rcases zj d a.tmps.size with h|h
     ·exact h
     ·rw[wb,qo h]at e;simp[undef]at e
    have bH:a.tmps[d]?=some (.bool q):=by
     rw[wb,zL az]at e
     rw[zL az];simpa using e
    simp only[Region.wanted,hn,yielded,hd,Option.bind_some,bH]
    cases q<;>cases want<;>rfl
   ·rename_i q hq
    simp only[zOi]at hw;subst hw
    rw[hq]at hr
    have e:=hr.b8
    have hy:yielded ops a.tmps j=none:=by
     simp only[yielded,hd,Option.bind_some]
     rcases zj d a.tmps.size with h|h
     ·rw[wb,zL h]at e
      rw[zL h]
      simp at e
      rw[e]
     ·rw[qo h]
    simp only[Region.wanted,hn,hy]
    rfl
   ·simp at hw
  ·simp at hg
theorem va {P:Program} {R:aQ} (hR:de P R) {own:Bool} {o:Oper} {co:jg} {nt:Nat} {c:Cx} {s:St} {a:Act} {K:AV->Heap->Nat->Kd->Prop} {Q:Exit->Act->World->Prop} {K':Act->World->Prop}
  (hc:dH P own o=some co) (hs:SR c s nt a) (hd:o.dst.all (· < nt)=true) (h:ey R co s K)
  (hK:∀v hp' nx' k c' u,K v hp' nx' k->(k=.p->c'.ι=c.ι/\hp'=s.hp/\nx'=s.nx)->Ext c c'->c'.hp=hp'->bg c' nx'->aC c' v u->K' (a.put o.dst u) c'.w) :
  o.wp P a c.w K' Q:=by
 have value:∀{u:Value} {w':World},iX P o a c.w u w'->K' (a.put o.dst u) w'->o.wp P a c.w K' Q:=by
  intro u w' hr hk
  unfold Oper.wp
  rcases hr with hr|⟨hr,rfl⟩
  ·rw[hr];exact hk
  ·rw[hr];exact hk
 have call:∀{f:Nat} {args:List AV} {cargs:Array Value},gQ R f args s.hp s.nx K->cE c args cargs.toList->(execOp a.eval o).run P c.w=(callFunc f cargs).run P c.w->o.wp P a c.w K' Q:=by
  rintro f args cargs ⟨v,hp',nx',k,hr,hk⟩ ha he
  unfold Oper.wp
  rw[he]
  rcases hR.calls _ _ _ _ _ _ _ _ hr c cargs hs.hp hs.rel ha with ⟨hb,hC⟩|⟨u0,w',bR,u,ι',hu,yT,bm,bP,hv⟩
  ·rw[uc hb]
   refine Calls.mono hC ?_
   rintro e w' ⟨u,ι',rfl,yT,bm,bP,hv⟩
   exact hK v hp' nx' k ⟨c.F,ι',hp',w'⟩ u hk (fun h=>by rw[<-hs.hp];exact yT h) bm rfl bP hv
  ·rw[bR]
   simp only[Ending.returned.injEq]at hu;subst hu
   exact hK v hp' nx' k ⟨c.F,ι',hp',w'⟩ u0 hk (fun h=>by rw[<-hs.hp];exact yT h) bm rfl bP hv
 unfold ey at h
 split at h
 ·
  rename_i f args
  obtain ⟨dst,op,type,pos,after,guard⟩:=o
  have EX:∃cl,op=.call cl/\cl.callee=.value (.func f)/\cl.args.toList.map cO=args:=by
   unfold dH at hc
   split at hc
   ·rename_i Rc ao
    simp only[zOi]at hc;subst hc
    cases op<;>simp only[ml]at ao
    case call cl =>
     obtain ⟨callee,L1,ts⟩:=cl
     cases callee with
     |value g =>
      cases g<;>simp only[]at ao
      case func f' =>
       simp only[zOi,jg.call.injEq]at ao
       obtain ⟨rfl,rfl⟩:=ao
       exact ⟨_,rfl,rfl,rfl⟩
      all_goals simp at ao
     |invoke r m=>simp at ao
     |builtin b=>simp only[]at ao;unfold gh dg at ao;(repeat' split at ao)<;>simp at ao
    all_goals (first|(simp at ao;done)|skip)
    all_goals ((try unfold jX at ao);(try unfold gM at ao);(repeat' split at ao)<;>(first|(simp at ao;done)|(simp only[zC]at ao;obtain ⟨_,_,h⟩:=ao;cases h;done)))
   ·cases op
    case binOp =>
     unfold iS at hc
     (repeat' split at hc)<;>simp at hc
    all_goals (exfalso;have F6:=dx hc;cases F6)
  obtain ⟨⟨callee,L1,ts⟩,rfl,N3,rfl⟩:=EX
  simp only at N3;subst N3
  refine call (cargs:=L1.map a.eval) h ?_ ?_
  ·refine ⟨by simp,fun k av u h1 h2 => ?_⟩
   simp only[qx,zM,zC,Array.toList_map,Function.comp_apply]at h1 h2
   obtain ⟨y,hy,rfl⟩:=h1
   obtain ⟨y',AK,rfl⟩:=h2
   rw[hy]at AK;simp only[zOi]at AK;subst AK
   exact aE hs.tm y
  ·simp only[execOp,resolve,Act.eval,Deferred.ofValue,Sem.run_bind,Sem.run_pure,Result.andThen_ok,invoke]
   simp
 ·
  rename_i g args
  split at h
  ·rename_i f first cap hg
   obtain ⟨dst,op,type,pos,after,guard⟩:=o
   have EX:∃cl g',op=.call cl/\cl.callee=.value g'/\cO g'=g/\cl.args.toList.map cO=args:=by
    unfold dH at hc
    split at hc
    ·rename_i Rc ao
     simp only[zOi]at hc;subst hc
     cases op<;>simp only[ml]at ao
     case call cl =>
      obtain ⟨callee,L1,ts⟩:=cl
      cases callee with
      |value g =>
       cases g<;>simp only[]at ao
       case func f'=>simp at ao
       all_goals
        simp only[zOi,jg.kH.injEq]at ao
        obtain ⟨rfl,rfl⟩:=ao
        exact ⟨_,_,rfl,rfl,rfl,rfl⟩
      |invoke r m=>simp at ao
      |builtin b=>simp only[]at ao;unfold gh dg at ao;(repeat' split at ao)<;>simp at ao
     all_goals (first|(simp at ao;done)|skip)
     all_goals ((try unfold jX at ao);(try unfold gM at ao);(repeat' split at ao)<;>(first|(simp at ao;done)|(simp only[zC]at ao;obtain ⟨_,_,h⟩:=ao;cases h;done)))
    ·cases op
     case binOp =>
      unfold iS at hc
      (repeat' split at hc)<;>simp at hc
     all_goals (exfalso;have F6:=dx hc;cases F6)
   obtain ⟨⟨callee,L1,ts⟩,g',rfl,N3,rfl,rfl⟩:=EX
   simp only at N3;subst N3
   have EW:=aE hs.tm g'
   rw[hg]at EW
   generalize hgu:a.eval g'=gu at EW
   cases EW with
   |fn l1 l2 hx hy =>
    rename_i cx cy
    refine call (cargs:=cx++L1.map a.eval++cy) h ?_ ?_
    ·rw[jE,jE]
     refine cE.append (cE.append ⟨by simpa using l1,fun k av u h1 h2=>hx k av u h1 (by rw[<-getElem?_arr];exact h2)⟩ ?_) ⟨by simpa using l2,fun k av u h1 h2=>hy k av u h1 (by rw[<-getElem?_arr];exact h2)⟩
     refine ⟨by simp,fun k av u h1 h2 => ?_⟩
     simp only[qx,zM,zC,Array.toList_map,Function.comp_apply]at h1 h2
     obtain ⟨y,hy,rfl⟩:=h1
     obtain ⟨y',AK,rfl⟩:=h2
     rw[hy]at AK;simp only[zOi]at AK;subst AK
     exact aE hs.tm y
    ·simp only[execOp,resolve,hgu,Deferred.ofValue,Sem.run_bind,Sem.run_pure,Result.andThen_ok,invoke]
  ·exact h.elim
 ·
  split at h
  ·rename_i v hv
   obtain ⟨u,w',hr,hg,me⟩:=LG hc hv hs.tm hs.rel
   refine value hr (hK v s.hp s.nx .p { c with w:=w' } u h (fun _=>⟨rfl,rfl,rfl⟩) (Ext.tE (nx:=s.nx) hg) hs.hp (hs.rel.grow hg) me)
  ·split at h
   ·rename_i v r hv
    rw[<-hs.hp]at hv
    obtain ⟨u,w',hr,hg,me⟩:=LF hc hv hs.tm hs.rel
    refine value hr (hK v s.hp s.nx (.r r) { c with w:=w' } u h (fun _=>⟨rfl,rfl,rfl⟩) (Ext.tE (nx:=s.nx) hg) hs.hp (hs.rel.grow hg) me)
   ·split at h
    ·rename_i v hp' nx' hv
     rw[<-hs.hp]at hv
     obtain ⟨u,w',ι',hr,bm,bP,me⟩:=LI hc hv hs.tm hs.rel
     exact value hr (hK v hp' nx' _ ⟨c.F,ι',hp',w'⟩ u h (fun h=>by cases co<;>simp[No]at h) bm rfl bP me)
    ·exact h.elim
theorem SR.put {c c':Cx} {s:St} {nt:Nat} {a:Act} (hs:SR c s nt a) {d:Option Nat} (hd:d.all (· < nt)=true) {v:AV} {u:Value} {hp':Heap} {nx':Nat} (he:Ext c c') (hh:c'.hp=hp') (hr:bg c' nx') (hv:aC c' v u) :
  SR c' (s.put d v hp' nx') nt (a.put d u):=by
 refine ⟨(hs.tm.mono he).put hv (by rw[hs.sz];exact hd) s rfl hp' nx',by rw[El];exact hs.sz,by rw[put_defers,hs.df,he.F],?_,?_⟩
 ·cases d<;>exact hh
 ·cases d<;>exact hr
theorem nX {P:Program} {R:aQ} (hR:de P R) {ops:Array Oper} {nt:Nat} {own:Nat->Bool}:∀(l:List Oper) (i:Nat) {cl:List aL} {c:Cx} {s:St} {a:Act} {Q:St->Prop} {Q':Exit->Act->World->Prop},
  dr P nt own ops l i=some cl->SR c s nt a->gq R cl s Q->(∀s' c' a',Q s'->SR c' s' nt a'->Ext c c'->Q' .normal a' c'.w)->wpList P ops Q' l a c.w
 |[],i,cl,c,s,a,Q,Q',hc,hs,h,hQ=>by
  simp only[dr,zOi]at hc;subst hc
  exact hQ s c a h hs (Ext.refl c)
 |o::r,i,cl,c,s,a,Q,Q',hc,hs,h,hQ=>by
  simp only[dr]at hc
  split at hc
  ·rename_i co l ho hl
   simp only[zOi]at hc;subst hc
   unfold mW at ho
   split at ho
   ·rename_i LU g W2 hg
    split at ho
    ·rename_i hd
     simp only[zOi]at ho;subst ho
     unfold wpList
     unfold gq at h
     split at h
     ·rename_i hw
      rw[if_pos (k9 hg hw hs.tm)]
      refine .inl (va hR W2 hs hd h ?_)
      intro v hp' nx' k c' u hk _ he hh hr hv
      exact nX hR r (i+1) hl (hs.put hd he hh hr hv) hk (fun s' rU a' q jt AR=>hQ s' rU a' q jt (he.trans AR))
     ·rename_i hw
      have:=k9 hg hw hs.tm
      rw[if_neg (by rw[this];simp)]
      exact nX hR r (i+1) hl (hs.put hd (Ext.refl c) hs.hp hs.rel (.v undef)) h (fun s' rU a' q jt AR=>hQ s' rU a' q jt AR)
     ·exact h.elim
    ·simp at ho
   ·simp at ho
  ·simp at hc
def B8:eS->Exit
 |.normal=>.normal
 |.exit i=>.exit i
 |.ret=>.ret
def rY (P:Program) (R:aQ):Prop:=∀(nt:Nat) (own:Nat->Bool) (id:Nat) (ops:Array Oper) (cl:List aL) (c:Cx) (s:St) (a:Act) (Q:St->Prop) (Q':Exit->Act->World->Prop),
  dr P nt own ops ops.toList 0=some cl->(Iq ops (yg ops)&&Ca cl (yg ops))=true->SR c s nt a->eg R cl s [] (fun s' bj=>cZ (yg ops) bj/\Q s') ->
  (∀s' c' a',Q s'->SR c' s' nt a'->Ext c c'->Q' .normal a' c'.w)->(Code.region id ops true).wp P Q' a c.w
theorem SR.ah {c:Cx} {s:St} {nt:Nat} {a:Act} (h:SR c s nt a) (l:List Nat):SR c ⟨fun t=>if l.contains t=true then s.tm t else .any,s.hp,s.nx⟩ nt a :=
 ⟨fun t=>by
  show aC c (if l.contains t=true then s.tm t else .any) _
  split
  ·exact h.tm t
  ·exact .any _,h.sz,h.df,h.hp,h.rel⟩
theorem tD {a:Code} {o:Option cC} {x:cC} (h:Cy a o=some x):o=some x\/x=Uk:=by
 unfold Cy at h
 split at h
 ·exact .inl h
 ·split at h
  ·simp only[zOi]at h;exact .inr h.symm
  ·cases h
theorem KT {P:Program} {own:Bool} {o:Oper} {x:fg} (h:dH P own o=some (.tJ x)):∃x',x=cO x'/\o.op=.next x' false:=by
 obtain ⟨dst,op,type,pos,after,guard⟩:=o
 unfold dH at h
 split at h
 ·rename_i Rc ao
  simp only[zOi]at h;subst h
  exfalso
  cases op<;>simp only[ml]at ao
  case call cl =>
   obtain ⟨callee,L1,ts⟩:=cl
   cases callee with
   |value g=>cases g<;>simp at ao
   |invoke r m=>simp at ao
   |builtin b=>simp only[]at ao;unfold gh dg at ao;(repeat' split at ao)<;>simp at ao
  all_goals (first|(simp at ao;done)|skip)
  all_goals ((try unfold jX at ao);(try unfold gM at ao);(repeat' split at ao)<;>(first|(simp at ao;done)|(simp only[zC]at ao;obtain ⟨_,_,h⟩:=ao;cases h;done)))
 ·cases op
  case binOp =>
   unfold iS at h
   (repeat' split at h)<;>simp at h
  all_goals (have F6:=dx h;cases F6)
  exact ⟨_,rfl,rfl⟩
theorem GV {P:Program} {R:aQ} (hR:de P R) {nt:Nat} {ow:L6} {own:Nat->Bool} {id:Nat} {ops:Array Oper} {cl:List aL} {c:Cx} {s:St} {a:Act} {Q:eS->St->Prop} {Q':Exit->Act->World->Prop}
  (gj:dr P nt own ops ops.toList 0=some cl) (hs:SR c s nt a) (h:W R (VI ow id cl) Q s) (hQ:∀e s' c' a',Q e s'->SR c' s' nt a'->Ext c c'->Q' (B8 e) a' c'.w):(Code.region id ops false).wp P Q' a c.w:=by
 have plain:∀{Q1:St->Prop},gq R cl s Q1->(∀s',Q1 s'->∀c' a',SR c' s' nt a'->Ext c c'->Q' .normal a' c'.w)->(Code.region id ops false).wp P Q' a c.w :=
  fun h1 h2=>wp_region_list (nX hR ops.toList 0 gj hs h1 (fun s' c' a' q jt he=>h2 s' q c' a' jt he))
 unfold VI at h
 split at h
 ·rename_i d x rest
  split at h
  ·
   refine wp_region_list ?_
   generalize hl:ops.toList=l at gj
   cases l with
   |nil=>simp[dr]at gj
   |cons o r =>
    simp only[dr]at gj
    split at gj
    ·rename_i co l ho hlr
     simp only[zOi,List.cons.injEq]at gj
     obtain ⟨rfl,rfl⟩:=gj
     unfold mW at ho
     split at ho
     ·rename_i LU g W2 hg
      split at ho
      ·rename_i hd
       simp only[zOi,aL.mk.injEq]at ho
       obtain ⟨e1,rfl,rfl⟩:=ho
       unfold wpList
       rw[if_pos (k9 hg rfl hs.tm)]
       refine .inl ?_
       obtain ⟨x',TM,hop⟩:=KT W2
       subst TM
       have h:Ap s.tm s.hp (cO x') fun v hp=>gq R l ⟨jY s.tm d v,hp,s.nx⟩ (Q .normal):=h
       obtain ⟨v,hp',hk,u,w',ι',hr,bm,bP,me⟩:=FC (P:=P) (dst:=o.dst) (type:=o.type) (pos:=o.pos) (after:=o.after) (guard:=o.guard) (by rw[hs.hp];exact h) hs.tm hs.rel
       have key:∀{next:Act->World->Prop} {Q2:Exit->Act->World->Prop},next (a.put o.dst u) w'->o.wp P a c.w next Q2:=by
        intro next Q2 hk
        obtain ⟨ago,oop,afX,agn,aee,aed⟩:=o
        simp only at hop;subst hop
        unfold Oper.wp
        rcases hr with hr|⟨hr,rfl⟩
        ·rw[hr];exact hk
        ·rw[hr];exact hk
       refine key ?_
       have hs2:SR ⟨c.F,ι',hp',w'⟩ ⟨jY s.tm d v,hp',s.nx⟩ nt (a.put o.dst u):=by
        have:=hs.put (d:=o.dst) hd bm rfl bP me
        rw[show s.put o.dst v hp' s.nx=⟨jY s.tm d v,hp',s.nx⟩ by rw[e1];rfl]at this
        exact this
       exact nX hR r 1 hlr hs2 hk fun s' c' a' q jt he=>hQ .normal s' c' a' q jt (bm.trans he)
      ·simp at ho
     ·simp at ho
    ·simp at gj
  ·exact plain h fun s' q c' a' jt he=>hQ .normal s' c' a' q jt he
 ·split at h
  ·exact plain h fun s' q c' a' jt he=>hQ .normal s' c' a' q jt he
  ·rename_i l hl
   exact plain h fun s' q c' a' jt he=>hQ .normal _ c' a' q (jt.ah _) he
theorem lY {P:Program} {R:aQ} (hR:de P R) (hD:rY P R) {nt:Nat} {ow:L6}:∀(code:Code) {cc:cC} {c:Cx} {s:St} {a:Act} {Q:eS->St->Prop} {Q':Exit->Act->World->Prop},
  ct P nt ow code=some cc->SR c s nt a->W R cc Q s->(∀e s' c' a',Q e s'->SR c' s' nt a'->Ext c c'->Q' (B8 e) a' c'.w)->code.wp P Q' a c.w
 |.skip,cc,c,s,a,Q,Q',hc,hs,h,hQ=>by
  simp only[ct,zOi]at hc;subst hc
  exact wp_skip (hQ .normal s c a h hs (Ext.refl c))
 |.region id ops false,cc,c,s,a,Q,Q',hc,hs,h,hQ=>by
  simp only[ct,zC]at hc
  obtain ⟨cl,gj,rfl⟩:=hc
  exact GV hR gj hs h hQ
 |.region id ops true,cc,c,s,a,Q,Q',hc,hs,h,hQ=>by
  simp only[ct]at hc
  split at hc
  ·rename_i cl gj
   split at hc
   ·rename_i vG
    simp only[zOi]at hc;subst hc
    exact hD nt _ id ops cl c s a (Q .normal) Q' gj vG hs h (fun s' c' a' q jt he=>hQ .normal s' c' a' q jt he)
   ·simp at hc
  ·simp at hc
 |.seq x y,cc,c,s,a,Q,Q',hc,hs,h,hQ=>by
  simp only[ct]at hc
  split at hc
  ·rename_i cx cy hx hy
   simp only[zOi]at hc;subst hc
   refine wp_seq (lY hR hD x hx hs h ?_)
   intro e s' c' a' q jt he
   cases e with
   |normal=>exact lY hR hD y hy jt q (fun e s'' rU a'' q Wn AR=>hQ e s'' rU a'' q Wn (he.trans AR))
   |exit i=>exact hQ (.exit i) s' c' a' q jt he
   |ret=>exact hQ .ret s' c' a' q jt he
  ·simp at hc
 |.cond x y z,cc,c,s,a,Q,Q',hc,hs,h,hQ=>by
  simp only[ct]at hc
  split at hc
  ·rename_i cy cz hy hz
   simp only[zOi]at hc;subst hc
   unfold W at h
   split at h
   ·rename_i b hb
    have hx:=aE hs.tm x
    rw[hb]at hx
    refine wp_cond (t:=b) hx.b8 ?_
    cases b with
    |true =>
     rcases tD hy with hy|rfl
     ·exact lY hR hD y hy hs h hQ
     ·exact False.elim h
    |false =>
     rcases tD hz with hz|rfl
     ·exact lY hR hD z hz hs h hQ
     ·exact False.elim h
   ·exact h.elim
  ·simp at hc
 |.block id x,cc,c,s,a,Q,Q',hc,hs,h,hQ=>by
  simp only[ct,zC]at hc
  obtain ⟨cx,hx,rfl⟩:=hc
  refine wp_block (lY hR hD x hx hs h ?_)
  intro e s' c' a' q jt he
  cases e with
  |normal=>exact hQ .normal s' c' a' q jt he
  |exit i =>
   dsimp only at q
   simp only[B8,Exit.inBlock]
   split at q
   ·rename_i hi;rw[if_pos hi];exact hQ .normal s' c' a' q jt he
   ·rename_i hi;rw[if_neg hi];exact hQ (.exit i) s' c' a' q jt he
  |ret=>exact hQ .ret s' c' a' q jt he
 |.loop x,cc,c,s,a,Q,Q',hc,hs,h,hQ=>by
  simp only[ct,zC]at hc
  obtain ⟨cx,hx,rfl⟩:=hc
  obtain ⟨n,h⟩:=h
  have key:∀(n:Nat) (c:Cx) (s:St) (a:Act),SR c s nt a->jj (W R cx) Q n s->(∀e s' c' a',Q e s'->SR c' s' nt a'->Ext c c'->Q' (B8 e) a' c'.w)->Code.rounds P x Q' n a c.w:=by
   intro n
   induction n with
   |zero=>intro c s a hs h hQ;exact h.elim
   |succ n ih =>
    intro c s a hs h hQ
    rw[rounds_succ]
    refine lY hR hD x hx hs h ?_
    intro e s' c' a' q jt he
    cases e with
    |normal=>exact ih c' s' a' jt q (fun e s'' rU a'' q Wn AR=>hQ e s'' rU a'' q Wn (he.trans AR))
    |exit i=>exact hQ (.exit i) s' c' a' q jt he
    |ret=>exact hQ .ret s' c' a' q jt he
  exact wp_loop_rounds n (key n c s a hs h hQ)
 |.exit id,cc,c,s,a,Q,Q',hc,hs,h,hQ=>by
  simp only[ct,zOi]at hc;subst hc
  exact wp_exit (hQ (.exit id) s c a h hs (Ext.refl c))
 |.ret,cc,c,s,a,Q,Q',hc,hs,h,hQ=>by
  simp only[ct,zOi]at hc;subst hc
  exact wp_ret (hQ .ret s c a h hs (Ext.refl c))
 |.rangeFunc ..,cc,c,s,a,Q,Q',hc,hs,h,hQ=>by simp[ct]at hc
 |.scope ..,cc,c,s,a,Q,Q',hc,hs,h,hQ=>by simp[ct]at hc
 |.label ..,cc,c,s,a,Q,Q',hc,hs,h,hQ=>by simp[ct]at hc
 |.goto ..,cc,c,s,a,Q,Q',hc,hs,h,hQ=>by simp[ct]at hc
 |.refuse ..,cc,c,s,a,Q,Q',hc,hs,h,hQ=>by
  simp only[ct,zOi]at hc;subst hc
  exact False.elim h
theorem fm:∀{l:List AV},bT l=true->∀(k:Nat) (av:AV),l[k]?=some av->av.closed=true
 |[],_,k,av,h=>by simp at h
 |x::r,hc,k,av,h=>by
  simp only[bT,zN]at hc
  cases k with
  |zero=>simp at h;subst h;exact hc.1
  |succ k=>exact fm hc.2 k av (by simpa using h)
theorem ub:∀{es:List (List AV)},bl es=true->∀(i:Nat) (l:List AV),es[i]?=some l->∀(j:Nat) (av:AV),l[j]?=some av->av.closed=true
 |[],_,i,l,h,_,_,_=>by simp at h
 |x::r,hc,i,l,h,j,av,hj=>by
  simp only[bl,zN]at hc
  cases i with
  |zero=>simp at h;subst h;exact fm hc.1 j av hj
  |succ i=>exact ub hc.2 i l (by simpa using h) j av hj
theorem tc {c c':Cx} (bZ:∀B,c.ro B->c'.ro B) (fj:∀a:Addr,c.ro a.block->c'.w.cell? a=c.w.cell? a) {x:AV} {u:Value} (hc:x.closed=true) (h:aC c x u):aC c' x u:=by
 induction h with
 |v x=>exact .v x
 |str l=>exact .str l
 |ptr h eP=>simp[AV.closed]at hc
 |mp h eP=>simp[AV.closed]at hc
 |it h h' hr hm rJ sb e1 e2 e3 e4=>simp[AV.closed]at hc
 |Gr h hr hm sb e1 hs=>simp[AV.closed]at hc
 |rp g h1 h2 h3 ih =>
  rename_i cells B O
  have gj:∀(k:Nat) (av:AV),cells[k]?=some av->av.closed=true:=fm (by simpa [AV.closed] using hc)
  exact .rp g (fun h=>bZ _ (h1 h)) (fun k av h=>by rw[fj ⟨B,O+k,none⟩ (h1 (cj h))];exact h2 k av h) (fun k av h=>ih k av h (gj k av h))
 |sl a b d e f g h eP=>simp[AV.closed]at hc
 |nil h=>exact .nil h
 |rs g hlen hl dq ew hr h2 h3 ih =>
  rename_i sz n len es cap a
  have gj:∀(i:Nat) (l:List AV),es[i]?=some l->∀(j:Nat) (av:AV),l[j]?=some av->av.closed=true:=ub (by simpa [AV.closed] using hc)
  exact .rs g hlen hl dq ew (fun h=>⟨bZ _ (hr h).1,(hr h).2⟩) (fun i j l av h1 h4=>by rw[fj ⟨a.block,a.off+i*sz+j,none⟩ (hr (cj h1)).1];exact h2 i j l av h1 h4) (fun i j l av h1 h4=>ih i j l av h1 h4 (gj i l h1 j av h4))
 |agg hl hv ih =>
  rename_i cells cs
  have gj:∀(k:Nat) (av:AV),cells[k]?=some av->av.closed=true:=fm (by simpa [AV.closed] using hc)
  exact .agg hl (fun k av u h1 h2=>ih k av u h1 h2 (gj k av h1))
 |bE hl hv ih =>
  rename_i cells cs
  have gj:∀(k:Nat) (av:AV),cells[k]?=some av->av.closed=true:=fm (by simpa [AV.closed] using hc)
  exact .bE hl (fun k av u h1 h2=>ih k av u h1 h2 (gj k av h1))
 |fn h1 h2 hx hy QQ QP =>
  rename_i f x y cx cy
  simp only[AV.closed,zN]at hc
  exact .fn h1 h2 (fun k av u h3 h4=>QQ k av u h3 h4 (fm hc.1 k av h3)) (fun k av u h3 h4=>QP k av u h3 h4 (fm hc.2 k av h3))
 |Bx h ih=>exact .Bx (ih (by simpa [AV.closed] using hc))
 |any u=>exact .any u
theorem fD {α β:Type} {f:α->Option β}:∀{l:List α} {l':List β},dW f l=some l'->l'.length=l.length/\∀(k:Nat) (y:β),l'[k]?=some y->∃x,l[k]?=some x/\f x=some y
 |[],l',h=>by simp only[dW,zOi]at h;subst h;exact ⟨rfl,fun k y h=>by simp at h⟩
 |x::r,l',h=>by
  simp only[dW]at h
  split at h
  ·rename_i y l hy hl
   simp only[zOi]at h;subst h
   obtain ⟨h1,h2⟩:=fD hl
   refine ⟨by simp[h1],fun k z hk => ?_⟩
   cases k with
   |zero=>simp at hk;subst hk;exact ⟨x,rfl,hy⟩
   |succ k=>simpa using h2 k z (by simpa using hk)
  ·simp at h
theorem xI {c c2:Cx} {nx:Nat} (hh:bg c nx) (hw:c2.w=c.w) (bZ:∀B,c.ro B->c2.ro B) (pu:∀B,c.own B->c2.ro B):∀(d:Nat) {x y:AV} {u:Value},kh d c.hp x=some y->aC c x u->aC c2 y u
 |0,x,y,u,h,_=>by simp[kh]at h
 |d+1,x,y,u,h,hv=>by
  have ih:=fun {x y:AV} {u:Value}=>xI hh hw bZ pu d (x:=x) (y:=y) (u:=u)
  unfold kh at h
  split at h
  ·rename_i hc
   simp only[zOi]at h;subst h
   exact tc bZ (fun a _=>by rw[hw]) hc hv
  ·split at h
   ·rename_i r sz i len cap hnc
    split at h
    ·rename_i es cW
     split at h
     ·rename_i hle
      simp only[zC]at h
      obtain ⟨es',N0,rfl⟩:=h
      obtain ⟨uL,Hm⟩:=fD N0
      have Q4:((es.drop i).take len).length=len:=by simp;omega
      cases hv with
      |sl hι hs ha hl dq hN hE eP =>
       rename_i n p a
       obtain ⟨hF,cs,e,fz,h3,h4,h5,h6⟩:=hh.cells cW hι eP
       have bH:∀(k:Nat) (l:List AV),((es.drop i).take len)[k]?=some l->es[i+k]?=some l/\k<len:=by
        intro k l hk
        rw[wB]at hk
        split at hk
        ·rw[wE]at hk;exact ⟨hk,by assumption⟩
        ·simp at hk
       have N8:es'≠[]->a=⟨p.B,p.O+i*sz,none⟩:=by
        intro bt
        have:es'.length≠0:=fun h=>bt (zf.1 h)
        exact ha (by omega)
       have eI:∀(k:Nat) (l':List AV),es'[k]?=some l'->∃l,es[i+k]?=some l/\l'.length=l.length/\∀(j:Nat) (av:AV),l'[j]?=some av->∃AE,l[j]?=some AE/\kh d c.hp AE=some av:=by
        intro k l' hk
        obtain ⟨l,h7,h8⟩:=Hm k l' hk
        obtain ⟨h9,iC⟩:=fD h8
        exact ⟨l,(bH k l h7).1,h9,iC⟩
       refine .rs (fun k j=>(cs[p.O+(i+k)*p.sz+j]?).getD undef) (by rw[uL,Q4]) hl dq ?_ ?_ ?_ ?_
       ·intro k l' hk
        obtain ⟨l,h7,h8,_⟩:=eI k l' hk
        rw[h8,(h6 _ l h7).1,hs]
       ·intro bt
        rw[N8 bt]
        exact ⟨pu _ ⟨r,p,by simp[cW],hι,rfl⟩,rfl⟩
       ·intro k j l' av hk hj
        obtain ⟨l,h7,h8,h9⟩:=eI k l' hk
        obtain ⟨AE,iC,vM⟩:=h9 j av hj
        obtain ⟨u,xf,h13⟩:=(h6 _ l h7).2 j AE iC
        rw[N8 (cj hk),hw]
        simp only[World.cell?,h3]
        rw[xf,<-hs,show p.O+i*p.sz+k*p.sz+j=p.O+(i+k)*p.sz+j by rw[ze];omega,xf]
        rfl
       ·intro k j l' av hk hj
        obtain ⟨l,h7,h8,h9⟩:=eI k l' hk
        obtain ⟨AE,iC,vM⟩:=h9 j av hj
        obtain ⟨u,xf,h13⟩:=(h6 _ l h7).2 j AE iC
        simp only[xf,wJ]
        exact ih vM h13
     ·simp at h
    ·simp at h
   ·rename_i cs
    simp only[zC]at h
    obtain ⟨cs',Ho,rfl⟩:=h
    obtain ⟨uL,Hm⟩:=fD Ho
    obtain ⟨us,rfl,hl,me⟩:=hv.rV
    refine .agg (by omega) (fun k av u h1 h2 => ?_)
    obtain ⟨AE,h3,h4⟩:=Hm k av h1
    exact ih h4 (me k AE u h3 h2)
   ·rename_i cs
    simp only[zC]at h
    obtain ⟨cs',Ho,rfl⟩:=h
    obtain ⟨uL,Hm⟩:=fD Ho
    obtain ⟨us,rfl,hl,me⟩:=hv.xz
    refine .bE (by omega) (fun k av u h1 h2 => ?_)
    obtain ⟨AE,h3,h4⟩:=Hm k av h1
    exact ih h4 (me k AE u h3 h2)
   ·simp at h
def sF (tmps:Array Value):ResultVar->Sem Value
 |.tmp t=>pure (tmps.getD t undef)
 |.cell ad t=>do loadVar t (<-asAddr (tmps.getD ad undef))
def acW (P:Program):ResultVar->RV->Prop
 |.tmp t,.t n=>n=t
 |.cell ad t,.cell UR n=>UR=ad/\uh P t=some n
 |_,_=>False
theorem GD {P:Program} {c:Cx} {s:St} {nt:Nat} {a:Act} (hs:SR c s nt a) {rv:ResultVar} {r:RV} {v:AV}
  (hc:acW P rv r) (h:kx s r=some v) :
  ∃u,(sF a.tmps rv).run P c.w=.ok u c.w/\aC c v u:=by
 cases rv with
 |tmp t =>
  cases r with
  |t n =>
   have hc:n=t:=hc
   subst hc
   simp only[kx,zOi]at h;subst h
   exact ⟨_,rfl,hs.tm n⟩
  |cell=>exact hc.elim
 |cell ad t =>
  cases r with
  |t=>exact hc.elim
  |cell UR n =>
   have hc:UR=ad/\uh P t=some n:=hc
   obtain ⟨rfl,hn⟩:=hc
   simp only[kx]at h
   have h1:=hs.tm UR
   split at h
   ·rename_i r i o hx
    split at h
    ·rename_i es cW
     split at h
     ·rename_i l hl
      rw[hx]at h1
      generalize hu:a.tmps.getD UR undef=u at h1
      cases h1 with
      |ptr hι eP =>
       rename_i p
       rw[<-hs.hp]at cW
       obtain ⟨hF,cs,e,fz,h3,h4,h5,h6⟩:=hs.rel.cells cW hι eP
       obtain ⟨h7,h8⟩:=h6 i l hl
       obtain ⟨u,h9,iC⟩:=lM (P:=P) hn (B:=p.B) (O:=p.O+i*p.sz) (off:=o) (cells:=l) (fun k av hk=>by
        obtain ⟨u,vM,xf⟩:=h8 k av hk
        refine ⟨u,?_,xf⟩
        simp only[World.cell?,h3]
        simpa using vM) h
       exact ⟨u,by simp only[sF,hu,asAddr,Sem.run_bind,Sem.run_pure,Result.andThen_ok,h9],iC⟩
     ·simp at h
    ·simp at h
   ·rename_i cells hx
    rw[hx]at h1
    generalize hu:a.tmps.getD UR undef=u at h1
    cases h1 with
    |rp g bZ fj me =>
     rename_i B O
     obtain ⟨u,h2,h3⟩:=lM (P:=P) hn (B:=B) (O:=O) (off:=0) (cells:=cells) (fun k av hk=>⟨g k,fj k av hk,me k av hk⟩) h
     rw[wH]at h2
     exact ⟨u,by simp only[sF,hu,asAddr,Sem.run_bind,Sem.run_pure,Result.andThen_ok,h2],h3⟩
   ·simp at h
theorem Dh {P:Program} {rv:ResultVar} {Yd:List ResultVar} {rs:List RV} (h:jW P (rv::Yd)=some rs) :
  ∃r rl,rs=r::rl/\acW P rv r/\jW P Yd=some rl:=by
 cases rv with
 |tmp t =>
  simp only[jW,zC]at h
  obtain ⟨l,hl,rfl⟩:=h
  exact ⟨_,_,rfl,rfl,hl⟩
 |cell ad t =>
  simp only[jW]at h
  split at h
  ·rename_i n l hn hl
   simp only[zOi]at h;subst h
   exact ⟨_,_,rfl,⟨rfl,hn⟩,hl⟩
  ·simp at h
theorem sG {P:Program} {c:Cx} {s:St} {nt:Nat} {a:Act} (hs:SR c s nt a):∀{Yd:List ResultVar} {rs:List RV} {vs:List AV},jW P Yd=some rs->dW (kx s) rs=some vs ->
  ∃us:List Value,(Yd.mapM (sF a.tmps)).run P c.w=.ok us c.w/\cE c vs us
 |[],rs,vs,hc,h=>by
  simp only[jW,zOi]at hc;subst hc
  simp only[dW,zOi]at h;subst h
  exact ⟨[],rfl,rfl,fun k av u h=>by simp at h⟩
 |rv::Yd,rs,vs,hc,h=>by
  obtain ⟨r,rl,rfl,hm,gj⟩:=Dh hc
  simp only[dW]at h
  split at h
  ·rename_i v l hv hl
   simp only[zOi]at h;subst h
   obtain ⟨u,h1,h2⟩:=GD (P:=P) hs hm hv
   obtain ⟨us,h3,h4⟩:=sG hs gj hl
   refine ⟨u::us,by simp only[List.mapM_cons,Sem.run_bind,h1,Result.andThen_ok,h3,Sem.run_pure],by simp[h4.1],fun k av x tT nf => ?_⟩
   cases k with
   |zero=>simp at tT nf;subst tT;subst nf;exact h2
   |succ k=>exact h4.2 k av x (by simpa using tT) (by simpa using nf)
  ·simp at h
theorem vn {P:Program} {c:Cx} {s:St} {nt:Nat} {a:Act} (hs:SR c s nt a) {fn:Func} {rs:List RV} {v:AV} (hc:jW P fn.results.toList=some rs) (h:ma rs s=some v) :
  ∃u,(results fn a.tmps).run P c.w=.ok u c.w/\aC c v u:=by
 have EX:results fn a.tmps=(do let vs <- fn.results.mapM (sF a.tmps);pure (if h:vs.size=1 then vs[0] else .tuple vs)):=by
  unfold results
  congr 1
 rw[EX,Array.mapM_eq_mapM_toList]
 have fin:∀(us:List Value),(fn.results.toList.mapM (sF a.tmps)).run P c.w=.ok us c.w ->
   ((do let vs <- (List.toArray <$> fn.results.toList.mapM (sF a.tmps));pure (if h:vs.size=1 then vs[0] else .tuple vs)):Sem Value).run P c.w=.ok (if h:us.length=1 then us[0] else .tuple us.toArray) c.w:=by
  intro us Wf
  simp only[Sem.run_bind,Sem.run_map,Wf,Result.andThen_ok,Sem.run_pure]
  by_cases h1:us.length=1<;>simp[h1]
 unfold ma at h
 split at h
 ·rename_i r
  have hex:dW (kx s) [r]=some [v]:=by simp[dW,h]
  obtain ⟨us,h1,h2⟩:=sG hs hc hex
  have hlen:=h2.1
  refine ⟨_,fin us h1,?_⟩
  simp only[zV,zS]at hlen
  rw[dif_pos hlen.symm]
  exact h2.2 0 v _ rfl (by simp)
 ·rename_i bt
  simp only[zC]at h
  obtain ⟨vs,Wc,rfl⟩:=h
  obtain ⟨us,h1,h2⟩:=sG hs hc Wc
  obtain ⟨uL,_⟩:=fD Wc
  have hlen:us.length≠1:=by
   intro h
   rw[<-h2.1,uL]at h
   obtain ⟨r,hr⟩:=List.length_eq_one_iff.1 h
   exact bt r hr
  refine ⟨_,fin us h1,?_⟩
  rw[dif_neg hlen]
  exact .bE (by simpa using h2.1) (fun k av u h3 h4=>h2.2 k av u h3 (by simpa using h4))
theorem uR:∀{l:List AV},Fg l=true->∀(k:Nat) (av:AV),l[k]?=some av->av.flat=true
 |[],_,k,av,h=>by simp at h
 |x::r,hc,k,av,h=>by
  simp only[Fg,zN]at hc
  cases k with
  |zero=>simp at h;subst h;exact hc.1
  |succ k=>exact uR hc.2 k av (by simpa using h)
theorem Ff {c c':Cx} {x:AV} {u:Value} (hc:x.flat=true) (h:aC c x u):aC c' x u:=by
 induction h with
 |v x=>exact .v x
 |str l=>exact .str l
 |ptr h eP=>simp[AV.flat]at hc
 |mp h eP=>simp[AV.flat]at hc
 |it h h' hr hm rJ sb e1 e2 e3 e4=>simp[AV.flat]at hc
 |Gr h hr hm sb e1 hs=>simp[AV.flat]at hc
 |rp g h1 h2 h3 ih=>simp[AV.flat]at hc
 |sl a b d e f g h eP=>simp[AV.flat]at hc
 |nil h=>exact .nil h
 |rs g hlen hl dq ew hr h2 h3 ih=>simp[AV.flat]at hc
 |any u=>exact .any u
 |agg hl hv ih =>
  have gj:=uR (by simpa [AV.flat] using hc)
  exact .agg hl (fun k av u h1 h2=>ih k av u h1 h2 (gj k av h1))
 |bE hl hv ih =>
  have gj:=uR (by simpa [AV.flat] using hc)
  exact .bE hl (fun k av u h1 h2=>ih k av u h1 h2 (gj k av h1))
 |fn h1 h2 hx hy QQ QP=>simp[AV.flat]at hc
 |Bx h ih=>simp[AV.flat]at hc
theorem Fe {c c2:Cx} {nx:Nat} (hh:bg c nx) (hw:c2.w=c.w) (hι:c2.ι=c.ι) (bZ:∀B,c.ro B->c2.ro B) (pu:∀B,c.own B->c2.ro B):∀(d:Nat) {x y:AV} {u:Value},fO d c.hp x=some y->aC c x u->aC c2 y u
 |0,x,y,u,h,_=>by simp[fO]at h
 |d+1,x,y,u,h,hv=>by
  have ih:=fun {x y:AV} {u:Value}=>Fe hh hw hι bZ pu d (x:=x) (y:=y) (u:=u)
  by_cases gj:x.closed=true
  ·simp only[fO,gj,if_true,zOi]at h;subst h
   exact tc bZ (fun a _=>by rw[hw]) gj hv
  ·cases x with
   |v x=>simp[AV.closed]at gj
   |str l=>simp[AV.closed]at gj
   |ptr r i o =>
    simp only[fO,gj,zK,if_false,zOi]at h;subst h
    cases hv with
    |ptr h eP=>exact .ptr (by rw[hι];exact h) eP
   |rp cells=>simp[fO,gj]at h
   |sl r sz i len cap =>
    cases hr:c.hp r with
    |none =>
     simp only[fO,gj,zK,if_false,hr,zOi]at h;subst h
     cases hv with
     |sl h1 hs ha hl dq hN hE eP=>exact .sl (by rw[hι];exact h1) hs ha hl dq hN hE eP
    |some es =>
     have hz:kh (d+1) c.hp (.sl r sz i len cap)=some y:=by
      simp only[fO,gj,zK,if_false,hr]at h
      simp only[kh,gj,zK,if_false,hr]
      exact h
     exact xI hh hw bZ pu (d+1) hz hv
   |rs n z es cap=>simp[fO,gj]at h
   |agg cs =>
    simp only[fO,gj,zK,if_false,zC]at h
    obtain ⟨cs',Ho,rfl⟩:=h
    obtain ⟨uL,Hm⟩:=fD Ho
    obtain ⟨us,rfl,hl,me⟩:=hv.rV
    refine .agg (by omega) (fun k av u h1 h2 => ?_)
    obtain ⟨AE,h3,h4⟩:=Hm k av h1
    exact ih h4 (me k AE u h3 h2)
   |bE cs =>
    simp only[fO,gj,zK,if_false,zC]at h
    obtain ⟨cs',Ho,rfl⟩:=h
    obtain ⟨uL,Hm⟩:=fD Ho
    obtain ⟨us,rfl,hl,me⟩:=hv.xz
    refine .bE (by omega) (fun k av u h1 h2 => ?_)
    obtain ⟨AE,h3,h4⟩:=Hm k av h1
    exact ih h4 (me k AE u h3 h2)
   |fn f a b =>
    simp only[fO,gj,zK,if_false]at h
    split at h
    ·rename_i a' b' ha hb
     simp only[zOi]at h;subst h
     obtain ⟨uL,Hm⟩:=fD ha
     obtain ⟨Az,hg2⟩:=fD hb
     cases hv with
     |fn h1 h2 hx hy =>
      exact .fn (by omega) (by omega) (fun k av u h3 h4=>by obtain ⟨AE,h5,h6⟩:=Hm k av h3;exact ih h6 (hx k AE u h5 h4)) (fun k av u h3 h4=>by obtain ⟨AE,h5,h6⟩:=hg2 k av h3;exact ih h6 (hy k AE u h5 h4))
    ·simp at h
   |Bx t x=>simp[fO,gj]at h
   |ty t k=>simp[fO,gj]at h
   |tk k q r=>simp[fO,gj]at h
   |any=>simp[AV.closed]at gj
   |mp r =>
    simp only[fO,gj,zK,if_false,zOi]at h;subst h
    cases hv with
    |mp h eP=>exact .mp (by rw[hι];exact h) eP
theorem aC.part {c c':Cx} (hw:c'.w=c.w) (hι:c'.ι=c.ι) (bZ:∀B,c.ro B->c'.ro B) {x:AV} {u:Value} (h:aC c x u):aC c' x u:=by
 induction h with
 |v x=>exact .v x
 |str l=>exact .str l
 |ptr h eP=>exact .ptr (by rw[hι];exact h) eP
 |mp h eP=>exact .mp (by rw[hι];exact h) eP
 |it h h' hr hm rJ sb e1 e2 e3 e4=>exact .it (by rw[hι];exact h) (by rw[hι];exact h') (by rw[hι];exact hr) hm rJ sb e1 e2 e3 e4
 |Gr h hr hm sb e1 hs=>exact .Gr (by rw[hι];exact h) (by rw[hι];exact hr) hm sb e1 hs
 |rp g h1 h2 h3 ih=>exact .rp g (fun h=>bZ _ (h1 h)) (fun k av h=>by rw[hw];exact h2 k av h) ih
 |sl h1 hs ha hl dq hN hE eP=>exact .sl (by rw[hι];exact h1) hs ha hl dq hN hE eP
 |nil h=>exact .nil h
 |rs g hlen hl dq ew hr h2 h3 ih=>exact .rs g hlen hl dq ew (fun h=>⟨bZ _ (hr h).1,(hr h).2⟩) (fun i j l av h1 h4=>by rw[hw];exact h2 i j l av h1 h4) ih
 |agg hl hv ih=>exact .agg hl ih
 |bE hl hv ih=>exact .bE hl ih
 |fn h1 h2 hx hy QQ QP=>exact .fn h1 h2 QQ QP
 |Bx h ih=>exact .Bx ih
 |any u=>exact .any u
theorem G0 {P:Program} {R:aQ} (hR:de P R) {f:Nat} {args args0:List AV} {v:AV} {c:Cx} {nx:Nat} {cargs:Array Value} (hz:dW (kh 6 c.hp) args=some args0) (hv:v.flat=true) (h:R f args0 cG 0 v cG 0 .p) (bP:bg c nx) (bz:cE c args cargs.toList) :
  lB P f cargs c.w (kq c .e v c.hp nx nx):=by
 let c1:Cx:=⟨c.F,fun _=>none,cG,c.w⟩
 have sV:∀B,¬c1.own B:=by rintro B ⟨r,p,h,_⟩;exact h rfl
 have yM:bg c1 0:=⟨fun r h=>absurd rfl h,fun r p h=>by simp[c1]at h,fun r es p h=>by simp[c1,cG]at h,fun r r' p p' h=>absurd rfl h,bP.F,⟨fun r t k h=>by simp[c1,cG]at h,fun r t h=>by simp[c1,cG]at h⟩,bP.gl.to rfl (fun B hB=>⟨hB.1,sV B,hB.2.2⟩) fun _ _=>rfl⟩
 obtain ⟨uL,Hm⟩:=fD hz
 have NK:∀B,c.own B->¬c.F B:=by
  rintro B ⟨r,p,e1,e2,rfl⟩
  cases he:c.hp r with
  |none=>exact absurd he e1
  |some es=>exact (bP.sd r es p he e2).1
 have yZ:cE c1 args0 cargs.toList:=by
  refine ⟨by rw[uL];exact bz.1,fun k av u e1 e2 => ?_⟩
  obtain ⟨AE,h3,h4⟩:=Hm k av e1
  exact xI (c:=c) (c2:=c1) bP rfl (fun B hB=>⟨hB.1,sV B,hB.2.2⟩) (fun B hB=>⟨bP.oX hB,sV B,NK B hB⟩) 6 h4 (bz.2 k AE u h3 e2)
 refine lB.mono (hR.calls _ _ _ _ _ _ _ _ h c1 cargs rfl yM yZ) ?_
 rintro e w' ⟨u,ι',rfl,_,bm,_,me⟩
 have oi:∀B,B<c.w.heap.size->w'.heap[B]?=c.w.heap[B]?:=fun B hB=>(bm.ah B hB (sV B)).2
 have NW:Grow c.w w':=⟨bm.size,oi,bm.os,bm.tape,bm.output⟩
 exact ⟨u,c.ι,rfl,(fun h=>by cases h),⟨rfl,fun _ _ h=>h,bm.size,fun B hB ho=>⟨ho,oi B hB⟩,bm.os,bm.tape,bm.output⟩,bP.grow NW,Ff hv me⟩
theorem Hz {P:Program} {R:aQ} (hR:de P R) {f:Nat} {args args0:List AV} {v:AV} {c:Cx} {nx nx':Nat} {hp':Heap} {k':Kd} {L:List Nat} {cargs:Array Value} (hz:dW (fO 6 (di c.hp L)) args=some args0) (h:R f args0 (kl c.hp L) nx v hp' nx' k') (bP:bg c nx) (bz:cE c args cargs.toList) :
  lB P f cargs c.w (kq c .e v hp' nx nx'):=by
 have oA:Sub (kl c.hp L) c.hp:=fun r=>by simp only[kl];split<;>simp
 obtain ⟨yM,NZ⟩:=Ce bP oA
 let c1:Cx:={ c with hp:=kl c.hp L }
 have yM:bg c1 nx:=yM
 have NZ:Ext c c1:=NZ
 let cL:Cx:=⟨⟨fun B=>c.F B\/c1.own B,c.F.G⟩,c.ι,di c.hp L,c.w⟩
 have af4:Sub (di c.hp L) c.hp:=fun r=>by simp only[di];split<;>simp
 have bt:∀r,di c.hp L r≠none->r∈L/\di c.hp L r=c.hp r:=fun r h=>by
  simp only[di]at h ⊢
  split at h
  ·rename_i hr;exact ⟨hr,by rw[if_pos hr]⟩
  ·exact absurd rfl h
 have NM:∀r,kl c.hp L r≠none->r∉L/\kl c.hp L r=c.hp r:=fun r h=>by
  simp only[kl]at h ⊢
  split at h
  ·exact absurd rfl h
  ·rename_i hr;exact ⟨hr,by rw[if_neg hr]⟩
 have NK:∀B,c.own B->¬c.F B:=by
  rintro B ⟨r,p,e1,e2,rfl⟩
  cases he:c.hp r with
  |none=>exact absurd he e1
  |some es=>exact (bP.sd r es p he e2).1
 have IX:∀B,cL.own B->¬c1.own B:=by
  rintro B ⟨r,p,e1,e2,e3⟩ ⟨r',p',e4,e5,e6⟩
  obtain ⟨m1,m2⟩:=bt r e1
  obtain ⟨m3,m4⟩:=NM r' e4
  have:r=r':=bP.inj r r' p p' (by rw[<-m2];exact e1) (by rw[<-m4];exact e4) e2 e5 (by rw[e3,e6])
  subst this;exact m3 m1
 have hcL:∀B,cL.own B->c.own B:=by
  rintro B ⟨r,p,e1,e2,e3⟩
  exact ⟨r,p,by rw[<-(bt r e1).2];exact e1,e2,e3⟩
 have Lw:∀B,c1.own B->c.own B:=by
  rintro B ⟨r,p,e1,e2,e3⟩
  exact ⟨r,p,by rw[<-(NM r e1).2];exact e1,e2,e3⟩
 have Wq:∀B,c.ro B->cL.ro B:=fun B hB=>⟨hB.1,fun h=>hB.2.1 (hcL B h),fun h=>h.elim hB.2.2 (fun h=>hB.2.1 (Lw B h))⟩
 have aaS:bg cL nx:=by
  refine ⟨?_,bP.lt,?_,?_,?_,bP.ty.to (fun r t k rest hr=>by
    have hr:di c.hp L r=_:=hr
    rw[<-(bt r (by simp[hr])).2];exact hr) (fun _ _ h=>h) (fun B cs t fz hB=>⟨cs,hB,rfl⟩) (fun r _ _ hr=>by
    have hr:di c.hp L r≠none:=hr
    rw[(bt r hr).2]at hr;exact hr),bP.gl.to rfl Wq fun _ _=>rfl⟩
  ·intro r h
   have h:di c.hp L r≠none:=h
   exact bP.uT r (by rw[<-(bt r h).2];exact h)
  ·intro r es p h1 h2
   have xg:di c.hp L r=some es:=h1
   have hn:di c.hp L r≠none:=by simp[xg]
   have h3:c.hp r=some es:=by rw[<-(bt r hn).2];exact xg
   obtain ⟨hF,o,h4,h5⟩:=bP.sd r es p h3 h2
   refine ⟨?_,o,h4,h5.move fun x u h=>aC.part (c:=c) (c':=cL) rfl rfl Wq h⟩
   rintro (h|h)
   ·exact hF h
   ·exact IX p.B ⟨r,p,hn,h2,rfl⟩ h
  ·intro r r' p p' h1 h2 h3 h4 h5
   have h1:di c.hp L r≠none:=h1
   have h2:di c.hp L r'≠none:=h2
   exact bP.inj r r' p p' (by rw[<-(bt r h1).2];exact h1) (by rw[<-(bt r' h2).2];exact h2) h3 h4 h5
  ·rintro B (h|h)
   ·exact bP.F B h
   ·exact bP.oX (Lw B h)
 obtain ⟨uL,Hm⟩:=fD hz
 have yZ:cE c1 args0 cargs.toList:=by
  refine ⟨by rw[uL];exact bz.1,fun k av u e1 e2 => ?_⟩
  obtain ⟨AE,h3,h4⟩:=Hm k av e1
  refine Fe (c:=cL) (c2:=c1) aaS rfl rfl ?_ ?_ 6 h4 (aC.part (c:=c) (c':=cL) rfl rfl Wq (bz.2 k AE u h3 e2))
  ·intro B hB
   exact ⟨hB.1,fun h=>hB.2.2 (.inr h),fun h=>hB.2.2 (.inl h)⟩
  ·intro B hB
   exact ⟨bP.oX (hcL B hB),IX B hB,NK B (hcL B hB)⟩
 refine lB.mono (hR.calls _ _ _ _ _ _ _ _ h c1 cargs rfl yM yZ) ?_
 rintro e w' ⟨u,ι',rfl,_,bm,yL,me⟩
 exact ⟨u,ι',rfl,(fun h=>by cases h),NZ.trans bm,yL,me⟩
def Cx.df (c:Cx) (D:List Deferred):Cx:=⟨⟨c.F.F,D⟩,c.ι,c.hp,c.w⟩
theorem aC.df {c:Cx} {x:AV} {u:Value} (h:aC c x u) (D:List Deferred):aC (c.df D) x u:=aC.part (c:=c) (c':=c.df D) rfl rfl (fun B hB=>hB) h
theorem bg.df {c:Cx} {nx:Nat} (h:bg c nx) (D:List Deferred):bg (c.df D) nx :=
 ⟨h.uT,h.lt,fun r es p h1 h2=>let ⟨h3,o,h4,h5⟩:=h.sd r es p h1 h2;⟨h3,o,h4,h5.move fun x u g=>g.df D⟩,h.inj,h.F,h.ty,h.gl⟩
theorem cE.df {c:Cx} {x:List AV} {y:List Value} (h:cE c x y) (D:List Deferred):cE (c.df D) x y:=⟨h.1,fun k av u h1 h2=>(h.2 k av u h1 h2).df D⟩
theorem Ext.df {c c':Cx} (h:Ext c c') (D:List Deferred):Ext (c.df D) (c'.df D):=⟨by show (⟨c'.F.F,D⟩:Rl)=⟨c.F.F,D⟩;rw[h.F],h.ι,h.size,h.ah,h.os,h.tape,h.output⟩
theorem Cx.age {c:Cx} {D D':List Deferred}:(c.df D).df D'=c.df D':=rfl
theorem Cx.adv {c:Cx}:c.df c.F.G=c:=rfl
structure Av (P:Program) (E:Env):Prop where
 fn:∀f cf,E.fn f=some cf->gk P f=true/\∃ow,vQ P ow f=some cf
 AH:de P E.AH
theorem aC.back {c c' c2:Cx} (hι:∀r p,c.ι r=some p->c'.ι r=some p) (QR:c2.ι=c.ι) (hw:c2.w=c'.w) (bZ:∀B,c'.ro B->c2.ro B) {x:AV} {u0 u:Value} (h0:aC c x u0) (h:aC c' x u):aC c2 x u:=by
 induction h generalizing u0 with
 |v x=>exact .v x
 |str l=>exact .str l
 |any u=>exact .any u
 |ptr h hm =>
  cases h0 with
  |ptr g _=>rw[hι _ _ g]at h;cases h;exact .ptr (by rw[QR];exact g) hm
 |mp h hm =>
  cases h0 with
  |mp g _=>rw[hι _ _ g]at h;cases h;exact .mp (by rw[QR];exact g) hm
 |it h h' hr hm rJ sb e1 e2 e3 e4 =>
  cases h0 with
  |it g g' gr _ _ _ _ _ _ _ =>
   rw[hι _ _ g]at h;cases h
   rw[hι _ _ g']at h';cases h'
   rw[hι _ _ gr]at hr;cases hr
   exact .it (by rw[QR];exact g) (by rw[QR];exact g') (by rw[QR];exact gr) hm rJ sb e1 e2 e3 e4
 |Gr h hr hm sb e1 hs =>
  cases h0 with
  |Gr g gr _ _ _ _ =>
   rw[hι _ _ g]at h;cases h
   rw[hι _ _ gr]at hr;cases hr
   exact .Gr (by rw[QR];exact g) (by rw[QR];exact gr) hm sb e1 hs
 |rp g hr hc hv ih =>
  cases h0 with
  |rp g0 _ _ We=>exact .rp g (fun h=>bZ _ (hr h)) (fun k av h=>by rw[hw];exact hc k av h) (fun k av h=>ih k av h (We k av h))
 |sl h hs ha hl dq hN hE hm =>
  cases h0 with
  |sl g _ _ _ _ _ _ _=>rw[hι _ _ g]at h;cases h;exact .sl (by rw[QR];exact g) hs ha hl dq hN hE hm
 |nil h=>exact .nil h
 |rs g hlen hl dq ew hr hc hv ih =>
  cases h0 with
  |rs g0 _ _ _ _ _ _ We=>exact .rs g hlen hl dq ew (fun h=>⟨bZ _ (hr h).1,(hr h).2⟩) (fun i j l av h1 h2=>by rw[hw];exact hc i j l av h1 h2) (fun i j l av h1 h2=>ih i j l av h1 h2 (We i j l av h1 h2))
 |agg hl hv ih =>
  obtain ⟨us,rfl,Ls,We⟩:=h0.rV
  refine .agg hl (fun k av u h1 h2 => ?_)
  have hk:k<us.size:=by have:=(zB.1 h1).1;omega
  exact ih k av u h1 h2 (We k av us[k] h1 (zL hk))
 |bE hl hv ih =>
  obtain ⟨us,rfl,Ls,We⟩:=h0.xz
  refine .bE hl (fun k av u h1 h2 => ?_)
  have hk:k<us.size:=by have:=(zB.1 h1).1;omega
  exact ih k av u h1 h2 (We k av us[k] h1 (zL hk))
 |fn h1 h2 hx hy QQ QP =>
  cases h0 with
  |fn g1 g2 gx gy =>
   rename_i cx cy
   refine .fn h1 h2 (fun k av u h3 h4 => ?_) (fun k av u h3 h4 => ?_)
   ·have hk:k<cx.size:=by have:=(zB.1 h3).1;omega
    exact QQ k av u h3 h4 (gx k av cx[k] h3 (zL hk))
   ·have hk:k<cy.size:=by have:=(zB.1 h3).1;omega
    exact QP k av u h3 h4 (gy k av cy[k] h3 (zL hk))
 |Bx h ih =>
  cases h0 with
  |Bx g=>exact .Bx (ih g)
theorem pX.back {c c' c2:Cx} {es:bN} {p:Place} {o0 o:Obj} (h0:pX c es p o0) (h:pX c' es p o) (mv:∀x u0 u,aC c x u0->aC c' x u->aC c2 x u):pX c2 es p o:=by
 rcases h with ⟨g0,cs,e,fz,h1,h2,h3,h4⟩|⟨g0,ents,clock,h1,h2,h3⟩|h|⟨g0,ents,h1,h2,h3⟩
 ·rcases h0 with ⟨_,AX,e0,Mj,_,_,_,k4⟩|⟨k0,_⟩|⟨k0,_⟩|⟨k0,_⟩
  ·exact .inl ⟨g0,cs,e,fz,h1,h2,h3,fun i l hl=>⟨(h4 i l hl).1,fun j av hj=>let ⟨u,q1,q2⟩:=(h4 i l hl).2 j av hj;let ⟨u0,_,q3⟩:=(k4 i l hl).2 j av hj;⟨u,q1,mv _ _ _ q3 q2⟩⟩⟩
  all_goals omega
 ·rcases h0 with ⟨k0,_⟩|⟨_,Fo,afF,_,k2,_⟩|⟨k0,_⟩|⟨k0,_⟩
  ·omega
  ·refine .inr (.inl ⟨g0,ents,clock,h1,⟨h2.1,fun i l e hl he => ?_⟩,h3⟩)
   obtain ⟨k,v,rfl,q2,q3⟩:=h2.2 i l e hl he
   have hi:i<Fo.size:=by have:=(zB.1 hl).1;have:=k2.1;omega
   obtain ⟨k',v',e1,q5,q6⟩:=k2.2 i _ Fo[i] hl (zL hi)
   simp only[List.cons.injEq,and_true]at e1
   obtain ⟨rfl,rfl⟩:=e1
   exact ⟨k,v,rfl,mv _ _ _ q5 q2,mv _ _ _ q6 q3⟩
  all_goals omega
 ·exact .inr (.inr (.inl h))
 ·rcases h0 with ⟨k0,_⟩|⟨k0,_⟩|⟨k0,_⟩|⟨_,Fo,_,k2,_⟩
  ·omega
  ·omega
  ·omega
  ·refine .inr (.inr (.inr ⟨g0,ents,h1,⟨h2.1,fun i l e hl he => ?_⟩,h3⟩))
   obtain ⟨k,v,rfl,q2,q3⟩:=h2.2 i l e hl he
   have hi:i<Fo.size:=by have:=(zB.1 hl).1;have:=k2.1;omega
   obtain ⟨k',v',e1,q5,q6⟩:=k2.2 i _ Fo[i] hl (zL hi)
   simp only[List.cons.injEq,and_true]at e1
   obtain ⟨rfl,rfl⟩:=e1
   exact ⟨k,v,rfl,mv _ _ _ q5 q2,mv _ _ _ q6 q3⟩
theorem Rw {P:Program} {R:aQ} (hR:de P R) {f:Nat} {args:List AV} {hp:Heap} {nx nx1:Nat} {v:AV} (hv:v.flat=true) (h:R f args hp nx v hp nx1 .e) (c:Cx) (cargs:Array Value) (vI:c.hp=hp) (bP:bg c nx) (bz:cE c args cargs.toList) :
  lB P f cargs c.w (kq c .e v hp nx nx):=by
 refine lB.mono (hR.calls _ _ _ _ _ _ _ _ h c cargs vI bP bz) ?_
 rintro e w' ⟨u,ι',rfl,_,bm,og,me⟩
 subst vI
 let c':Cx:=⟨c.F,ι',c.hp,w'⟩
 let c2:Cx:=⟨c.F,c.ι,c.hp,w'⟩
 have hιe:∀r p,c.ι r=some p->c'.ι r=some p:=bm.ι
 have aaY:∀B,c2.own B->c'.own B:=fun B ⟨r,p,h1,h2,h3⟩=>⟨r,p,h1,hιe r p h2,h3⟩
 have bZ:∀B,c'.ro B->c2.ro B:=fun B hB=>⟨hB.1,fun h=>hB.2.1 (aaY B h),hB.2.2⟩
 have mv:∀x u0 u,aC c x u0->aC c' x u->aC c2 x u:=fun x u0 u h0 h=>aC.back (c:=c) (c':=c') (c2:=c2) hιe rfl rfl bZ h0 h
 have yL:bg c2 nx:=by
  refine ⟨bP.uT,bP.lt,fun r es p h1 h2 => ?_,bP.inj,og.F,⟨fun r t k hr => ?_,fun r t hr => ?_⟩,og.gl.to rfl bZ fun _ _=>rfl⟩
  ·obtain ⟨_,o0,_,k0⟩:=bP.sd r es p h1 h2
   obtain ⟨hF,o,h3,h4⟩:=og.sd r es p h1 (hιe r p h2)
   exact ⟨hF,o,h3,k0.back h4 mv⟩
  ·obtain ⟨p0,AX,Mj,g1,_⟩:=bP.ty.1 r t k hr
   obtain ⟨p,cs,fz,h1,h2,h3,h4⟩:=og.ty.1 r t k hr
   have:p=p0:=by have e1:=hιe r p0 g1;have h1:c'.ι r=some p:=h1;rw[e1]at h1;cases h1;rfl
   subst this
   exact ⟨p,cs,fz,g1,h2,h3,h4⟩
  ·obtain ⟨p0,AX,Mj,g1,_⟩:=bP.ty.2 r t hr
   obtain ⟨p,cs,fz,h1,h3,h4⟩:=og.ty.2 r t hr
   have:p=p0:=by have e1:=hιe r p0 g1;have h1:c'.ι r=some p:=h1;rw[e1]at h1;cases h1;rfl
   subst this
   exact ⟨p,cs,fz,g1,h3,h4⟩
 refine ⟨u,c.ι,rfl,(fun h=>by cases h),⟨rfl,fun _ _ h=>h,bm.size,fun B hB ho => ?_,bm.os,bm.tape,bm.output⟩,yL,Ff hv me⟩
 exact ⟨ho,(bm.ah B hB ho).2⟩
theorem At {P:Program} {E:Env} (hE:Av P E) (hD:∀R,de P R->rY P R):∀n,de P (vd E n)
 |0=>⟨fun _ _ _ _ _ _ _ _ h=>h.elim,fun _ _ _ _ _ _ _ h=>h.elim,fun _ _ _ _ _ _ _ _ h=>h.elim⟩
 |n+1=>by
  have ih:=At hE hD n
  have hDn:=hD _ ih
  refine ⟨?_,?_,?_⟩
  ·intro f args hp nx v hp' nx' k h
   have h:E.AH f args hp nx v hp' nx' k\/_:=h
   rcases h with h|⟨cf,h1,h2,h3⟩|⟨h1,_⟩|⟨h1,_⟩|⟨h1,_⟩
   ·exact hE.AH.kind _ _ _ _ _ _ _ _ h
   ·rcases h3 with ⟨hk,_⟩|⟨hk,_⟩
    ·exact .inl hk
    ·exact .inr hk
   ·exact .inr h1
   ·exact .inr h1
   ·exact .inr h1
  ·intro f args hp nx v hp' nx' h
   have h:E.AH f args hp nx v hp' nx' .p\/_:=h
   rcases h with h|⟨cf,h1,h2,h3⟩|⟨h1,_⟩|⟨h1,_⟩|⟨h1,_⟩
   ·obtain ⟨g1,g2,g3⟩:=hE.AH.pure _ _ _ _ _ _ _ h
    exact ⟨g1,g2,fun aT ar=>Or.inl (g3 aT ar)⟩
   ·rcases h3 with ⟨_,h4,h5,h6,h7⟩|⟨hk,_⟩
    ·exact ⟨h4,h5,fun aT ar=>Or.inr (.inl ⟨cf,h1,h2,.inl ⟨rfl,rfl,rfl,h6,h7⟩⟩)⟩
    ·cases hk
   ·cases h1
   ·cases h1
   ·cases h1
  ·intro f args hp nx v hp' nx' k h c cargs vI bP bz
   have h:E.AH f args hp nx v hp' nx' k\/_:=h
   rcases h with h|⟨cf,h1,h2,h3⟩|⟨rfl,rfl,rfl,h4,args0,h5,h6⟩|⟨rfl,args0,L,k',h2,h3⟩|⟨rfl,rfl,rfl,h4,nx1,h5⟩
   ·exact hE.AH.calls _ _ _ _ _ _ _ _ h c cargs vI bP bz
   rotate_left
   ·subst vI;exact G0 ih h5 h4 h6 bP bz
   ·subst vI;exact Hz ih h2 h3 bP bz
   ·exact Rw ih h4 h5 c cargs vI bP bz
   ·obtain ⟨hb,ow,Lv⟩:=hE.fn f cf h1
    refine .inl ⟨hb,?_⟩
    unfold vQ at Lv
    split at Lv
    ·rename_i fn hfn
     split at Lv
     ·rename_i code Uh
      split at Lv
      ·rename_i b rs Uj EJ
       split at Lv
       ·rename_i hnp
        simp only[zOi]at Lv;subst Lv
        have pj:cargs.size=fn.params.size+fn.nfree:=by
         have:=bz.1
         simp only[qL]at this
         rw[<-this];exact h2
        have Ud:∀(c1:Cx) (hp1:Heap) (nx1:Nat),c1.F.G=[]->c1.hp=hp1->bg c1 nx1->cE c1 args cargs.toList->SR c1 (init args hp1 nx1) fn.ntmps { tmps:=cargs++Array.replicate (fn.ntmps-cargs.size) undef,defers:=[] }:=by
         intro c1 hp1 nx1 e0 e1 e2 e3
         refine ⟨?_,?_,e0.symm,e1,e2⟩
         ·intro t
          simp only[init]
          rcases zj t cargs.size with az|NX
          ·have hl:t<args.length:=by have:=e3.1;simp at this;omega
           rw[zA hl,wJ]
           have hg:(cargs++Array.replicate (fn.ntmps-cargs.size) undef).getD t undef=cargs[t]:=by
            rw[wb,qV az];simp[az]
           rw[hg]
           exact e3.2 t _ _ (zA hl) (by simp[az])
          ·have hl:args.length<=t:=by have:=e3.1;simp at this;omega
           rw[wZ hl,qM]
           have hg:(cargs++Array.replicate (fn.ntmps-cargs.size) undef).getD t undef=undef:=by
            rw[wb,Array.getElem?_append_right NX]
            rcases zj (t-cargs.size) (fn.ntmps-cargs.size) with h|h
            ·simp[h]
            ·rw[qo (by simp;omega)];rfl
           rw[hg];exact .any _
         ·simp;omega
        have leave:∀{c1:Cx} {Q:eS->St->Prop} {R:Ending->World->Prop},W (vd E n) b Q (init args c1.hp 0)->True:=fun _=>trivial
        rcases h3 with ⟨rfl,h4,h5,h6,h7⟩|⟨rfl,h4⟩
        ·
         subst h4;subst h5
         let c1:Cx:=⟨⟨fun B=>c.F B\/c.own B,[]⟩,fun _=>none,cG,c.w⟩
         have sV:∀B,¬c1.own B:=by rintro B ⟨r,p,h,_⟩;exact h rfl
         have yM:bg c1 0:=by
          refine ⟨fun r h=>absurd rfl h,fun r p h=>by simp[c1]at h,fun r es p h=>by simp[c1,cG]at h,fun r r' p p' h=>absurd rfl h,?_,⟨fun r t k h=>by simp[c1,cG]at h,fun r t h=>by simp[c1,cG]at h⟩,bP.gl.to2 (fun B hB=>⟨hB.1,sV B,fun h=>h.elim hB.2.2 hB.2.1⟩) fun _ _=>rfl⟩
          rintro B (h|h)
          ·exact bP.F B h
          ·exact bP.oX h
         have yZ:cE c1 args cargs.toList:=by
          refine ⟨bz.1,fun k av u e1 e2 => ?_⟩
          refine tc (c:=c) (c':=c1) ?_ (fun a _=>rfl) (fm h6 k av e1) (bz.2 k av u e1 e2)
          intro B hB
          exact ⟨hB.1,sV B,fun h=>h.elim hB.2.2 hB.2.1⟩
         refine calls_of_wp hfn Uh (lY (c:=c1) ih hDn code Uj (Ud c1 cG 0 rfl rfl yM yZ) h7 ?_)
         rintro e s' c' a' ⟨CV,v1,vE,CU⟩ jt bm
         obtain ⟨u,hu1,uK⟩:=vn (P:=P) jt EJ vE
         have oi:∀B,B<c.w.heap.size->c'.w.heap[B]?=c.w.heap[B]?:=fun B hB=>(bm.ah B hB (sV B)).2
         let c2:Cx:=⟨c.F,c.ι,c.hp,c'.w⟩
         have vH:Ext c c2:=⟨rfl,fun _ _ h=>h,bm.size,fun B hB ho=>⟨ho,oi B hB⟩,bm.os,bm.tape,bm.output⟩
         have NW:Grow c.w c'.w:=⟨bm.size,oi,bm.os,bm.tape,bm.output⟩
         have yL:bg c2 nx':=bP.grow NW
         have Sx:(c'.F:Nat->Prop)=fun B=>c.F B\/c.own B:=congrArg Rl.F bm.F
         have EN:∀B,c'.own B->¬(c.F B\/c.own B):=by
          rintro B ⟨r,p,e1,e2,rfl⟩
          cases he:c'.hp r with
          |none=>exact absurd he e1
          |some es =>
           have:=(jt.rel.sd r es p he e2).1
           rw[Sx]at this;exact this
         have hvf:aC c2 v u:=by
          refine xI (c2:=c2) jt.rel rfl ?_ ?_ 6 (by rw[jt.hp];exact CU) uK
          ·intro B hB
           have h9:=hB.2.2
           rw[Sx]at h9
           exact ⟨hB.1,fun h=>h9 (.inr h),fun h=>h9 (.inl h)⟩
          ·intro B hB
           have h9:=EN B hB
           exact ⟨jt.rel.oX hB,fun h=>h9 (.inr h),fun h=>h9 (.inl h)⟩
         have EM:kq c .p v hp' nx' nx' (.returned u) c'.w:=⟨u,c.ι,rfl,fun _=>⟨rfl,vI.symm,rfl⟩,by rw[<-vI];exact vH,by rw[<-vI];exact yL,by rw[<-vI];exact hvf⟩
         rcases CV with rfl|rfl
         ·exact ⟨jt.df.trans (congrArg Rl.G bm.F),u,hu1,EM⟩
         ·exact ⟨jt.df.trans (congrArg Rl.G bm.F),u,hu1,EM⟩
        ·
         refine calls_of_wp hfn Uh (lY (c:=c.df []) ih hDn code Uj (Ud (c.df []) hp nx rfl vI (bP.df []) (bz.df [])) h4 ?_)
         rintro e s' c' a' ⟨CV,vE,oA,rfl⟩ jt bm
         obtain ⟨u,hu1,uK⟩:=vn (P:=P) jt EJ vE
         have vH:Ext c (c'.df c.F.G):=bm.df c.F.G
         obtain ⟨k1,k2⟩:=Ce (jt.rel.df c.F.G) (hp':=hp') (by show Sub hp' c'.hp;rw[jt.hp];exact oA)
         have hF:(c'.df c.F.G).F=c.F:=vH.F
         have EM:kq c .e v hp' nx s'.nx (.returned u) c'.w:=by
          refine ⟨u,c'.ι,rfl,(fun h=>by cases h),?_,?_,?_⟩
          ·have:=vH.trans k2;rw[<-hF];exact this
          ·rw[<-hF];exact k1
          ·rw[<-hF];exact (uK.df c.F.G).mono k2
         rcases CV with rfl|rfl
         ·exact ⟨jt.df.trans (congrArg Rl.G bm.F),u,hu1,EM⟩
         ·exact ⟨jt.df.trans (congrArg Rl.G bm.F),u,hu1,EM⟩
       ·simp at Lv
      ·simp at Lv
     ·simp at Lv
    ·simp at Lv
theorem B3 {P:Program} {E:Env} (hE:Av P E) (hD:∀R,de P R->rY P R) {f args hp nx v hp' nx' k} (h:aY E f args hp nx v hp' nx' k) (c:Cx) (cargs:Array Value) (hc:c.hp=hp) (hr:bg c nx) (ha:cE c args cargs.toList) :
  lB P f cargs c.w (kq c k v hp' nx nx'):=by
 obtain ⟨n,h⟩:=h
 exact (At hE hD n).calls _ _ _ _ _ _ _ _ h c cargs hc hr ha
def QG (fs:Nat->Bool):aQ:=fun f args hp nx v hp' nx' k =>
 fs f=true/\k=.e/\hp'=hp/\nx'=nx/\v=.v (.bool false)/\∃(q sz m r j l:Nat) (c c':Option Nat) (t:TypeId) (es er:bN),
  args=[.sl q sz 0 m c,.sl r sz j l c']/\q≠r/\hp q=some es/\hp (q+1)=some [[.ty t 0],[]]/\hp r=some er/\0<m/\0<l/\0<sz
def UW (P:Program) (fs:Nat->Bool):Prop:=∀f,fs f=true->∃(fn:Func) (tS tR e:TypeId) (size:Nat),P.funcs[f]?=some fn/\(fn.name == "runtime.NumGoroutine")=false/\fn.body.isNone=true/\Extern.findNext fn=none /\
 P.underlying tS=some (.slice e)/\(∀w,(Go.sizeOf e).run P w=.ok size w)/\Extern.find fn=some (Extern.SlicesOverlaps.overlaps #[tS,tS] #[tR])
theorem K6 {P:Program} {fs:Nat->Bool} (hk:UW P fs):de P (QG fs):=by
 refine ⟨fun f args hp nx v hp' nx' k h=>.inr h.2.1,(fun f args hp nx v hp' nx' h=>nomatch h.2.1),?_⟩
 rintro f args hp nx v hp' nx' k ⟨hf,rfl,rfl,rfl,rfl,q,sz,m,r,j,l,c1,c2,t,es,er,rfl,ur,h1,h2,h3,hm,hl,ew⟩ c cargs hc bP bz
 subst hc
 obtain ⟨fn,tS,tR,e,size,g1,g2,g3,g4,g5,g6,g7⟩:=hk f hf
 obtain ⟨u,u2,rfl⟩:∃u u2,cargs = #[u,u2]:=by
  obtain ⟨x⟩:=cargs
  match x,bz.1 with
  |[u,u2],_=>exact ⟨u,u2,rfl⟩
 have e1:=bz.2 0 _ u rfl rfl
 have e2:=bz.2 1 _ u2 rfl rfl
 cases e1 with
 | @sl _ _ _ _ n1 _ p1 a1 ι1 s1 ha1 uL _ AB _ WK =>
  cases e2 with
  | @sl _ _ _ _ n2 _ p2 a2 ι2 s2 ha2 Az _ DO _ DM =>
   obtain ⟨p,cs,fz,k1,k2,k3⟩:=bP.ty.2 q t h2
   rw[ι1]at k1;cases k1
   have k4:=k3 (by rw[h1];simp)
   subst k4
   obtain ⟨_,sA,e2,fz2,m1,m2,_,_⟩:=bP.cells h3 ι2 DM
   have US:=ha1 (by omega)
   have a2':=ha2 (by omega)
   subst US;subst a2'
   have hB:p1.B≠p2.B:=fun h=>ur (bP.inj q r p1 p2 (by rw[h1];simp) (by rw[h3];simp) ι1 ι2 h)
   have nf:sA.size≠0:=by
    have:=DO (by omega)
    have h8:1*1<=(j+n2)*sz:=qu (by omega) ew
    omega
   have bR:=Lib.run_overlaps_apart (P:=P) c.w tS tR e g5 size g6 ⟨p1.B,p1.O+0*sz,none⟩ ⟨p2.B,p2.O+j*sz,none⟩ m n1 l n2 hB t e2 cs.size sA.size
    (by simp[World.shape?,k2]) (by simp[World.shape?,m1]) nf (by simp[World.frozen?,k2]) (by simp[World.frozen?,k2])
   refine .inr ⟨.bool false,c.w,?_,_,c.ι,rfl,(fun h=>nomatch h),Ext.refl c,bP,.v _⟩
   rw[run_callFunc_extern g1 g2 g3 g4 g7,bR];rfl
end Go.Ai
namespace Go.Ai
open Go
abbrev mV (d s:Nat):aL:=⟨some d,.dm (.t s),none⟩
abbrev ji (d s:Nat) (g:Nat):aL:=⟨some d,.dm (.t s),some (g,true)⟩
abbrev gD (d s:Nat) (g:Nat):aL:=⟨some d,.dm (.t s),some (g,false)⟩
abbrev mI (d:Nat) (n:Int):aL:=⟨some d,.dm (.c (.v (.int .i64 n))),none⟩
abbrev mIT (d:Nat) (n:Int) (g:Nat):aL:=⟨some d,.dm (.c (.v (.int .i64 n))),some (g,true)⟩
abbrev mIF (d:Nat) (n:Int) (g:Nat):aL:=⟨some d,.dm (.c (.v (.int .i64 n))),some (g,false)⟩
abbrev fA (d k s:Nat):aL:=⟨some d,.s8 k (.t s),none⟩
abbrev rN (d k s:Nat) (g:Nat):aL:=⟨some d,.s8 k (.t s),some (g,true)⟩
abbrev xh (d k s:Nat) (g:Nat):aL:=⟨some d,.s8 k (.t s),some (g,false)⟩
abbrev lD (d s:Nat):aL:=⟨some d,.load none (.t s),none⟩
abbrev mb (d s:Nat) (g:Nat):aL:=⟨some d,.load none (.t s),some (g,true)⟩
abbrev ti (d s:Nat) (g:Nat):aL:=⟨some d,.load none (.t s),some (g,false)⟩
abbrev lN (d n s:Nat):aL:=⟨some d,.load (some n) (.t s),none⟩
abbrev lNT (d n s:Nat) (g:Nat):aL:=⟨some d,.load (some n) (.t s),some (g,true)⟩
abbrev lNF (d n s:Nat) (g:Nat):aL:=⟨some d,.load (some n) (.t s),some (g,false)⟩
abbrev nC (d s:Nat):aL:=⟨some d,.yr (.t s),none⟩
abbrev QM (d s:Nat) (g:Nat):aL:=⟨some d,.yr (.t s),some (g,true)⟩
abbrev Iu (d s:Nat) (g:Nat):aL:=⟨some d,.yr (.t s),some (g,false)⟩
abbrev sO (n a b:Nat):aL:=⟨none,.store n (.t a) (.t b),none⟩
abbrev sOT (n a b:Nat) (g:Nat):aL:=⟨none,.store n (.t a) (.t b),some (g,true)⟩
abbrev sOF (n a b:Nat) (g:Nat):aL:=⟨none,.store n (.t a) (.t b),some (g,false)⟩
abbrev xT (d s i:Nat):aL:=⟨some d,.ext (.t s) i,none⟩
abbrev xTT (d s i:Nat) (g:Nat):aL:=⟨some d,.ext (.t s) i,some (g,true)⟩
abbrev xTF (d s i:Nat) (g:Nat):aL:=⟨some d,.ext (.t s) i,some (g,false)⟩
abbrev bI (d:Nat) (o:BinOp) (s:Nat) (n:Int):aL:=⟨some d,.bin o (.t s) (.c (.v (.int .i64 n))),none⟩
abbrev uv (d:Nat) (o:BinOp) (s:Nat) (n:Int) (g:Nat):aL:=⟨some d,.bin o (.t s) (.c (.v (.int .i64 n))),some (g,true)⟩
abbrev tt (d:Nat) (o:BinOp) (s:Nat) (n:Int) (g:Nat):aL:=⟨some d,.bin o (.t s) (.c (.v (.int .i64 n))),some (g,false)⟩
abbrev bB (d:Nat) (o:BinOp) (a b:Nat):aL:=⟨some d,.bin o (.t a) (.t b),none⟩
abbrev DR (d:Nat) (o:BinOp) (a b:Nat) (g:Nat):aL:=⟨some d,.bin o (.t a) (.t b),some (g,true)⟩
abbrev J4 (d:Nat) (o:BinOp) (a b:Nat) (g:Nat):aL:=⟨some d,.bin o (.t a) (.t b),some (g,false)⟩
abbrev cA (d f a:Nat):aL:=⟨some d,.call f [.t a],none⟩
abbrev cAT (d f a:Nat) (g:Nat):aL:=⟨some d,.call f [.t a],some (g,true)⟩
abbrev Dq (d f a:Nat) (g:Nat):aL:=⟨some d,.call f [.t a],some (g,false)⟩
abbrev cB (d f a b:Nat):aL:=⟨some d,.call f [.t a,.t b],none⟩
abbrev cBT (d f a b:Nat) (g:Nat):aL:=⟨some d,.call f [.t a,.t b],some (g,true)⟩
abbrev cBF (d f a b:Nat) (g:Nat):aL:=⟨some d,.call f [.t a,.t b],some (g,false)⟩
abbrev cD (d f a b c:Nat):aL:=⟨some d,.call f [.t a,.t b,.t c],none⟩
abbrev cDT (d f a b c:Nat) (g:Nat):aL:=⟨some d,.call f [.t a,.t b,.t c],some (g,true)⟩
abbrev cDF (d f a b c:Nat) (g:Nat):aL:=⟨some d,.call f [.t a,.t b,.t c],some (g,false)⟩
abbrev pF (d a b:Nat):aL:=⟨some d,.pick (.t a) (.t b) (.c (.v (.bool false))),none⟩
abbrev pFT (d a b:Nat) (g:Nat):aL:=⟨some d,.pick (.t a) (.t b) (.c (.v (.bool false))),some (g,true)⟩
abbrev Z7 (d a b:Nat) (g:Nat):aL:=⟨some d,.pick (.t a) (.t b) (.c (.v (.bool false))),some (g,false)⟩
abbrev pT (d a b:Nat):aL:=⟨some d,.pick (.t a) (.c (.v (.bool true))) (.t b),none⟩
abbrev pTT (d a b:Nat) (g:Nat):aL:=⟨some d,.pick (.t a) (.c (.v (.bool true))) (.t b),some (g,true)⟩
abbrev pTF (d a b:Nat) (g:Nat):aL:=⟨some d,.pick (.t a) (.c (.v (.bool true))) (.t b),some (g,false)⟩
abbrev lE (d s:Nat):aL:=⟨some d,.len (.t s),none⟩
abbrev QN (d s:Nat) (g:Nat):aL:=⟨some d,.len (.t s),some (g,true)⟩
abbrev Tx (d s:Nat) (g:Nat):aL:=⟨some d,.len (.t s),some (g,false)⟩
abbrev iA (d n a b:Nat):aL:=⟨some d,.lO n (.t a) (.t b),none⟩
abbrev TG (d n a b:Nat) (g:Nat):aL:=⟨some d,.lO n (.t a) (.t b),some (g,true)⟩
abbrev iAF (d n a b:Nat) (g:Nat):aL:=⟨some d,.lO n (.t a) (.t b),some (g,false)⟩
abbrev bX (d s:Nat):aL:=⟨some d,.box (.t s),none⟩
abbrev bXT (d s:Nat) (g:Nat):aL:=⟨some d,.box (.t s),some (g,true)⟩
abbrev bXF (d s:Nat) (g:Nat):aL:=⟨some d,.box (.t s),some (g,false)⟩
abbrev mB (d:Nat) (b:Bool):aL:=⟨some d,.dm (.c (.v (.bool b))),none⟩
abbrev mBT (d:Nat) (b:Bool) (g:Nat):aL:=⟨some d,.dm (.c (.v (.bool b))),some (g,true)⟩
abbrev mBF (d:Nat) (b:Bool) (g:Nat):aL:=⟨some d,.dm (.c (.v (.bool b))),some (g,false)⟩
abbrev aP (d n m a b:Nat):aL:=⟨some d,.append n m (.t a) (.t b),none⟩
abbrev aPT (d n m a b:Nat) (g:Nat):aL:=⟨some d,.append n m (.t a) (.t b),some (g,true)⟩
abbrev aPF (d n m a b:Nat) (g:Nat):aL:=⟨some d,.append n m (.t a) (.t b),some (g,false)⟩
abbrev oN (d:Nat) (o:jg):aL:=⟨some d,o,none⟩
abbrev Sq:=cC.seq
abbrev Rg:=cC.region
abbrev af (o:List aL):=cC.seq (.region o)
abbrev Cd (t:Nat):=cC.cond (.t t)
abbrev nS:AV:=.rs true 0 [] (some 0)
abbrev iV (n:Int):AV:=.v (.int .i64 n)
end Go.Ai
namespace Go.Ai
open Go.Proofs
set_option maxRecDepth 100000
abbrev Cm (k:Nat) (c:au):Prop:=gk Tryz.prog k=true/\vQ Tryz.prog [] k=some c
def c75:au:=⟨3,95,(af [oN 6 (.dm (.c nS))] (af [mV 10 0,mV 11 1,oN 12 (.slice 1 (.t 10) (some (.t 11)) none none)] (af [mV 13 2,lE 14 13,mV 7 14] (Sq (af [mV 15 7,bI 16 .eql 15 0] (Cd 16 (af [mV 17 0,mV 6 17] .ret) .skip)) (af [mV 18 0,lE 19 18,mV 8 19] (Sq (af [mV 20 1,mV 21 8,bB 22 .eql 20 21] (Cd 22 (af [mV 23 0,mV 24 2,aP 25 1 16 23 24,mV 6 25] .ret) .skip)) (Sq (af [mV 26 8,mV 27 7,bB 28 .add 26 27,mV 29 0,oN 30 (.cap (.t 29)),bB 31 .gtr 28 30] (Cd 31 (af [mV 32 0,mV 33 1,oN 34 (.slice 1 (.t 32) none (some (.t 33)) none),mV 35 8,mV 36 7,bB 37 .add 35 36,mV 38 1,bB 39 .sub 37 38,oN 40 (.FK 1 16 [(.str [])] (.t 34) (.t 39)),mV 9 40] (af [mV 41 9,mV 42 1,oN 43 (.slice 1 (.t 41) (some (.t 42)) none none),mV 44 2,oN 45 (.copy 1 (.t 43) (.t 44))] (Sq (.draw [[],[],[],[1,2],[0,3,1,2],[],[],[5,6],[4,0,3,1,2,7,5,6]] [mV 46 9,mV 47 1,mV 48 7,bB 49 .add 47 48,oN 50 (.slice 1 (.t 46) (some (.t 49)) none none),mV 51 0,mV 52 1,oN 53 (.slice 1 (.t 51) (some (.t 52)) none none),oN 54 (.copy 1 (.t 50) (.t 53))]) (af [mV 55 9,mV 6 55] .ret)))) .skip)) (af [mV 56 0,mV 57 8,mV 58 7,bB 59 .add 57 58,oN 60 (.slice 1 (.t 56) none (some (.t 59)) none),mV 0 60] (Sq (af [mV 61 2,mV 62 0,mV 63 1,mV 64 7,bB 65 .add 63 64,oN 66 (.slice 1 (.t 62) (some (.t 65)) none none),cB 67 115 61 66,oN 68 (.un .not (.t 67))] (Cd 68 (Sq (.draw [[],[],[],[1,2],[0,3,1,2],[],[],[5,6],[4,0,3,1,2,7,5,6]] [mV 69 0,mV 70 1,mV 71 7,bB 72 .add 70 71,oN 73 (.slice 1 (.t 69) (some (.t 72)) none none),mV 74 0,mV 75 1,oN 76 (.slice 1 (.t 74) (some (.t 75)) none none),oN 77 (.copy 1 (.t 73) (.t 76))]) (af [mV 78 0,mV 79 1,oN 80 (.slice 1 (.t 78) (some (.t 79)) none none),mV 81 2,oN 82 (.copy 1 (.t 80) (.t 81))] (af [mV 83 0,mV 6 83] .ret))) .skip)) (af [mV 84 0,mV 85 8,oN 86 (.slice 1 (.t 84) (some (.t 85)) none none),mV 87 2,oN 88 (.copy 1 (.t 86) (.t 87))] (af [mV 89 0,mV 90 1,oN 91 (.slice 1 (.t 89) (some (.t 90)) none none),mV 92 7,cB 93 116 91 92] (af [mV 94 0,mV 6 94] .ret)))))))))))),[(.t 6)]⟩
theorem Dm:Cm 75 c75:=⟨by kernel_rfl,by kernel_rfl⟩
def c76:au:=⟨3,95,(af [oN 6 (.dm (.c nS))] (af [mV 10 0,mV 11 1,oN 12 (.slice 3 (.t 10) (some (.t 11)) none none)] (af [mV 13 2,lE 14 13,mV 7 14] (Sq (af [mV 15 7,bI 16 .eql 15 0] (Cd 16 (af [mV 17 0,mV 6 17] .ret) .skip)) (af [mV 18 0,lE 19 18,mV 8 19] (Sq (af [mV 20 1,mV 21 8,bB 22 .eql 20 21] (Cd 22 (af [mV 23 0,mV 24 2,aP 25 3 32 23 24,mV 6 25] .ret) .skip)) (Sq (af [mV 26 8,mV 27 7,bB 28 .add 26 27,mV 29 0,oN 30 (.cap (.t 29)),bB 31 .gtr 28 30] (Cd 31 (af [mV 32 0,mV 33 1,oN 34 (.slice 3 (.t 32) none (some (.t 33)) none),mV 35 8,mV 36 7,bB 37 .add 35 36,mV 38 1,bB 39 .sub 37 38,oN 40 (.FK 3 32 [(.str []),(.v (.int .i64 0)),(.v (.int .i64 0))] (.t 34) (.t 39)),mV 9 40] (af [mV 41 9,mV 42 1,oN 43 (.slice 3 (.t 41) (some (.t 42)) none none),mV 44 2,oN 45 (.copy 3 (.t 43) (.t 44))] (Sq (.draw [[],[],[],[1,2],[0,3,1,2],[],[],[5,6],[4,0,3,1,2,7,5,6]] [mV 46 9,mV 47 1,mV 48 7,bB 49 .add 47 48,oN 50 (.slice 3 (.t 46) (some (.t 49)) none none),mV 51 0,mV 52 1,oN 53 (.slice 3 (.t 51) (some (.t 52)) none none),oN 54 (.copy 3 (.t 50) (.t 53))]) (af [mV 55 9,mV 6 55] .ret)))) .skip)) (af [mV 56 0,mV 57 8,mV 58 7,bB 59 .add 57 58,oN 60 (.slice 3 (.t 56) none (some (.t 59)) none),mV 0 60] (Sq (af [mV 61 2,mV 62 0,mV 63 1,mV 64 7,bB 65 .add 63 64,oN 66 (.slice 3 (.t 62) (some (.t 65)) none none),cB 67 117 61 66,oN 68 (.un .not (.t 67))] (Cd 68 (Sq (.draw [[],[],[],[1,2],[0,3,1,2],[],[],[5,6],[4,0,3,1,2,7,5,6]] [mV 69 0,mV 70 1,mV 71 7,bB 72 .add 70 71,oN 73 (.slice 3 (.t 69) (some (.t 72)) none none),mV 74 0,mV 75 1,oN 76 (.slice 3 (.t 74) (some (.t 75)) none none),oN 77 (.copy 3 (.t 73) (.t 76))]) (af [mV 78 0,mV 79 1,oN 80 (.slice 3 (.t 78) (some (.t 79)) none none),mV 81 2,oN 82 (.copy 3 (.t 80) (.t 81))] (af [mV 83 0,mV 6 83] .ret))) .skip)) (af [mV 84 0,mV 85 8,oN 86 (.slice 3 (.t 84) (some (.t 85)) none none),mV 87 2,oN 88 (.copy 3 (.t 86) (.t 87))] (af [mV 89 0,mV 90 1,oN 91 (.slice 3 (.t 89) (some (.t 90)) none none),mV 92 7,cB 93 118 91 92] (af [mV 94 0,mV 6 94] .ret)))))))))))),[(.t 6)]⟩
theorem Dl:Cm 76 c76:=⟨by kernel_rfl,by kernel_rfl⟩
def c77:au:=⟨3,33,(af [oN 6 (.dm (.c nS))] (af [mV 8 0,mV 9 1,mV 10 2,mV 11 0,lE 12 11,oN 13 (.slice 1 (.t 8) (some (.t 9)) (some (.t 10)) (some (.t 12)))] (Sq (af [mV 14 1,mV 15 2,bB 16 .eql 14 15] (Cd 16 (af [mV 17 0,mV 6 17] .ret) .skip)) (af [mV 18 0,lE 19 18,mV 7 19] (Sq (.draw [[],[],[0,1],[],[],[3,4],[2,0,1,5,3,4],[6,2,0,1,5,3,4]] [mV 20 0,mV 21 1,oN 22 (.slice 1 (.t 20) none (some (.t 21)) none),mV 23 0,mV 24 2,oN 25 (.slice 1 (.t 23) (some (.t 24)) none none),aP 26 1 16 22 25,mV 0 26]) (af [mV 27 0,mV 28 0,lE 29 28,mV 30 7,oN 31 (.slice 1 (.t 27) (some (.t 29)) (some (.t 30)) none),⟨none,(.clear 1 [(.str [])] (.t 31)),none⟩] (af [mV 32 0,mV 6 32] .ret))))))),[(.t 6)]⟩
theorem Dk:Cm 77 c77:=⟨by kernel_rfl,by kernel_rfl⟩
def c78:au:=⟨3,33,(af [oN 6 (.dm (.c nS))] (af [mV 8 0,mV 9 1,mV 10 2,mV 11 0,lE 12 11,oN 13 (.slice 3 (.t 8) (some (.t 9)) (some (.t 10)) (some (.t 12)))] (Sq (af [mV 14 1,mV 15 2,bB 16 .eql 14 15] (Cd 16 (af [mV 17 0,mV 6 17] .ret) .skip)) (af [mV 18 0,lE 19 18,mV 7 19] (Sq (.draw [[],[],[0,1],[],[],[3,4],[2,0,1,5,3,4],[6,2,0,1,5,3,4]] [mV 20 0,mV 21 1,oN 22 (.slice 3 (.t 20) none (some (.t 21)) none),mV 23 0,mV 24 2,oN 25 (.slice 3 (.t 23) (some (.t 24)) none none),aP 26 3 32 22 25,mV 0 26]) (af [mV 27 0,mV 28 0,lE 29 28,mV 30 7,oN 31 (.slice 3 (.t 27) (some (.t 29)) (some (.t 30)) none),⟨none,(.clear 3 [(.str []),(.v (.int .i64 0)),(.v (.int .i64 0))] (.t 31)),none⟩] (af [mV 32 0,mV 6 32] .ret))))))),[(.t 6)]⟩
theorem Dj:Cm 78 c78:=⟨by kernel_rfl,by kernel_rfl⟩
def HF:Nat->Option au
 |75=>some c75
 |76=>some c76
 |77=>some c77
 |78=>some c78
 |_=>none
theorem Xo:∀f cf,HF f=some cf->gk Tryz.prog f=true/\∃ow,vQ Tryz.prog ow f=some cf:=by
 intro f cf h
 unfold HF at h
 split at h
 ·cases h;exact ⟨Dm.1,_,Dm.2⟩
 ·cases h;exact ⟨Dl.1,_,Dl.2⟩
 ·cases h;exact ⟨Dk.1,_,Dk.2⟩
 ·cases h;exact ⟨Dj.1,_,Dj.2⟩
 ·cases h
def VU:Nat->Bool
 |115=>true
 |117=>true
 |_=>false
def E0:Env:=⟨HF,QG VU⟩
theorem ab8:E0.fn 75=some c75:=(rfl)
theorem ab7:E0.fn 76=some c76:=(rfl)
theorem ab6:E0.fn 77=some c77:=(rfl)
theorem ab5:E0.fn 78=some c78:=(rfl)
theorem VJ:Tryz.prog.follows .mixedOrders=true:=by kernel_rfl
noncomputable def Tf:Func:=(Tryz.prog.funcs[115]?).getD default
theorem ZH:Tryz.prog.funcs[115]?=some Tf:=by kernel_rfl
noncomputable def Te:Func:=(Tryz.prog.funcs[117]?).getD default
theorem ZG:Tryz.prog.funcs[117]?=some Te:=by kernel_rfl
theorem VT:UW Tryz.prog VU:=by
 intro f h
 unfold VU at h
 split at h
 ·exact ⟨Tf,73,4,9,1,ZH,by kernel_rfl,by kernel_rfl,by kernel_rfl,Tryz.underlying73,Tryz.sizeOf9,by kernel_rfl⟩
 ·exact ⟨Te,74,4,84,3,ZG,by kernel_rfl,by kernel_rfl,by kernel_rfl,Tryz.underlying74,Tryz.sizeOf84,by kernel_rfl⟩
 ·cases h
theorem acY:Av Tryz.prog E0:=⟨Xo,K6 VT⟩
section
variable {tm tm':Nat->AV}
theorem bA {x:fg} (h:∀t∈x.ot,tm t=tm' t):ev tm x=ev tm' x:=by
 cases x with
 |t n=>exact h n (by simp[fg.ot])
 |c x=>rfl
theorem mT {x:Option fg} (h:∀t∈KL x,tm t=tm' t):HG tm x=HG tm' x:=by
 cases x with
 |none=>rfl
 |some x=>exact congrArg some (bA h)
theorem rO {l:List fg} (h:∀t∈CE l,tm t=tm' t):l.map (ev tm)=l.map (ev tm') :=
 jF fun x hx=>bA fun t ht=>h t (List.mem_flatMap.2 ⟨x,hx,ht⟩)
theorem FI {ps:List (Nat×Nat×fg)} (h:∀t∈CE (ps.map (·.2.2)),tm t=tm' t):(ps.map fun p=>(p.1,p.2.1,ev tm p.2.2))=(ps.map fun p=>(p.1,p.2.1,ev tm' p.2.2)) :=
 jF fun p hp=>by
  rw[bA (tm:=tm) (tm':=tm') fun t ht=>h t (List.mem_flatMap.2 ⟨p.2.2,wk.2 ⟨p,hp,rfl⟩,ht⟩)]
theorem nT {ps:List (Nat×fg)} (h:∀t∈CE (ps.map (·.2)),tm t=tm' t):(ps.map fun p=>(p.1,ev tm p.2))=(ps.map fun p=>(p.1,ev tm' p.2)) :=
 jF fun p hp=>by
  rw[bA (tm:=tm) (tm':=tm') fun t ht=>h t (List.mem_flatMap.2 ⟨p.2,wk.2 ⟨p,hp,rfl⟩,ht⟩)]
theorem LH {co:jg} (h:∀t∈co.ot,tm t=tm' t):fV tm co=fV tm' co:=by
 cases co<;>simp only[jg.ot,zJ]at h<;>(try rfl)
 case pick c a b=>simp only[fV,bA (x:=c) fun t ht=>h t (.inl (.inl ht)),bA (x:=a) fun t ht=>h t (.inl (.inr ht)),bA (x:=b) fun t ht=>h t (.inr ht)]
 case build z ps=>simp only[fV,FI h]
 case bp o sz z ps=>cases o<;>simp only[fV,nT h]
 case nB x lo hi=>simp only[fV,bA (x:=x) fun t ht=>h t (.inl (.inl ht)),mT (x:=lo) fun t ht=>h t (.inl (.inr ht)),mT (x:=hi) fun t ht=>h t (.inr ht)]
 case slice n x lo hi mx=>simp only[fV,bA (x:=x) fun t ht=>h t (.inl (.inl (.inl ht))),mT (x:=lo) fun t ht=>h t (.inl (.inl (.inr ht))),mT (x:=hi) fun t ht=>h t (.inl (.inr ht)),mT (x:=mx) fun t ht=>h t (.inr ht)]
 case sa f a b=>simp only[fV,rO (l:=a) fun t ht=>h t (.inl ht),rO (l:=b) fun t ht=>h t (.inr ht)]
 all_goals first
  |(rename_i x y;simp only[fV,bA (x:=x) fun t ht=>h t (.inl ht),bA (x:=y) fun t ht=>h t (.inr ht)];done)
  |(rename_i x;simp only[fV,bA (x:=x) h];done)
  |(rename_i x _;simp only[fV,bA (x:=x) h];done)
theorem BN {co:jg} {hp hp':Heap} {v:AV} {r:Nat} (h:∀t∈co.ot,tm t=tm' t) (he:lF tm hp co=some (v,r)) (hr:hp r=hp' r):lF tm' hp' co=some (v,r):=by
 cases co<;>simp only[jg.ot]at h<;>(try (simp[lF]at he;done))
 case load n x =>
  simp only[lF]at he ⊢
  rw[<-bA (tm:=tm) (tm':=tm') (x:=x) h]
  split at he
  ·split at he
   ·rename_i es cW
    split at he
    ·rename_i l hl
     simp only[zC,zPi]at he
     obtain ⟨v',h1,rfl,rfl⟩:=he
     rw[<-hr,cW]
     simp[hl,h1]
    ·simp at he
   ·simp at he
  ·simp at he
 case Mk x =>
  simp only[lF]at he ⊢
  rw[<-bA (tm:=tm) (tm':=tm') (x:=x) h]
  split at he
  ·split at he
   ·rename_i es cW
    split at he
    ·rename_i hc
     simp only[zC,zPi]at he
     obtain ⟨v',h1,rfl,rfl⟩:=he
     rw[<-hr,cW]
     simp[hc,h1]
    ·simp at he
   ·simp at he
  ·simp at he
 case X8 x =>
  simp only[lF]at he ⊢
  rw[<-bA (tm:=tm) (tm':=tm') (x:=x) h]
  split at he
  ·split at he
   ·rename_i l0 lr es cW
    simp only[zOi,zPi]at he
    obtain ⟨rfl,rfl⟩:=he
    rw[<-hr,cW]
   ·simp at he
  ·simp at he
 case Yg t k x =>
  simp only[lF]at he ⊢
  rw[<-bA (tm:=tm) (tm':=tm') (x:=x) h]
  split at he
  ·split at he
   ·rename_i t' k' cW
    split at he
    ·rename_i hc
     simp only[zOi,zPi]at he
     obtain ⟨rfl,rfl⟩:=he
     rw[<-hr,cW]
     simp[hc]
    ·simp at he
   ·simp at he
  ·simp at he
 case vt lk z ok m k =>
  simp only[jg.ot,zJ]at h
  simp only[lF]at he ⊢
  rw[<-bA (x:=m) fun t ht=>h t (.inl ht),<-bA (x:=k) fun t ht=>h t (.inr ht)]
  split at he
  ·rename_i r' hm
   have Ha:r'=r:=by
    split at he
    ·split at he
     ·split at he<;>first|(simp only[zOi,zPi]at he;exact he.2)|cases he
     ·cases he
    ·cases he
   subst Ha
   rw[<-hr];exact he
  ·cases he
 case M3 m =>
  simp only[lF]at he ⊢
  rw[<-bA (x:=m) h]
  split at he
  ·rename_i r' hm
   have Ha:r'=r:=by
    split at he
    ·simp only[zOi,zPi]at he;exact he.2
    ·cases he
   subst Ha
   rw[<-hr];exact he
  ·cases he
theorem OA {co:jg} {hp:Heap} (h:∀t∈co.ot,tm t=tm' t) (he:lF tm hp co=none):lF tm' hp co=none:=by
 cases hq:lF tm' hp co with
 |none=>rfl
 |some x =>
  obtain ⟨v,r⟩:=x
  have:=BN (tm:=tm') (tm':=tm) (hp':=hp) (fun t ht=>(h t ht).symm) hq rfl
  rw[this]at he;simp at he
theorem LL {co:jg} {hp:Heap} {nx:Nat} (h:∀t∈co.ot,tm t=tm' t):fb tm hp nx co=fb tm' hp nx co:=by
 cases co<;>simp only[jg.ot,zJ]at h<;>(try rfl)
 case bp o sz z ps=>cases o<;>simp only[fb,nT h]
 case Gj t sz z ps=>simp only[fb,nT h]
 all_goals first
  |(rename_i x y;simp only[fb,bA (x:=x) fun t ht=>h t (.inl ht),bA (x:=y) fun t ht=>h t (.inr ht)];done)
  |(rename_i x;simp only[fb,bA (x:=x) h];done)
  |(rename_i x _;simp only[fb,bA (x:=x) h];done)
  |(rename_i x y z;simp only[fb,bA (x:=x) fun t ht=>h t (.inl (.inl ht)),bA (x:=y) fun t ht=>h t (.inl (.inr ht)),bA (x:=z) fun t ht=>h t (.inr ht)];done)
theorem sh {g:Option (Nat×Bool)} (h:∀d w,g=some (d,w)->tm d=tm' d):gR tm g=gR tm' g:=by
 cases g with
 |none=>rfl
 |some x=>obtain ⟨d,w⟩:=x;simp only[gR,h d w rfl]
end
def xx (v:AV) (hp:Heap) (nx:Nat) (k:Kd):AV->Heap->Nat->Kd->Prop:=fun v' hp' nx' k'=>v'=v/\hp'=hp/\nx'=nx/\k'=k
theorem XY {R:aQ} {co:jg} {s:St} {K:AV->Heap->Nat->Kd->Prop} (h:ey R co s K):∃v hp nx k,ey R co s (xx v hp nx k)/\K v hp nx k:=by
 unfold ey at h ⊢
 split at h
 ·obtain ⟨v,hp,nx,k,hr,hk⟩:=h
  exact ⟨v,hp,nx,k,⟨v,hp,nx,k,hr,rfl,rfl,rfl,rfl⟩,hk⟩
 ·split at h
  ·obtain ⟨v,hp,nx,k,hr,hk⟩:=h
   exact ⟨v,hp,nx,k,⟨v,hp,nx,k,hr,rfl,rfl,rfl,rfl⟩,hk⟩
  ·exact h.elim
 ·split at h
  ·exact ⟨_,_,_,_,⟨rfl,rfl,rfl,rfl⟩,h⟩
  ·split at h
   ·exact ⟨_,_,_,_,⟨rfl,rfl,rfl,rfl⟩,h⟩
   ·split at h
    ·exact ⟨_,_,_,_,⟨rfl,rfl,rfl,rfl⟩,h⟩
    ·exact h.elim
def vA (m:Bool) (q:Nat):AV:=if m then .mp q else .ptr q 0 0
theorem LJ {co:jg} {tm tm':Nat->AV} {hp hp1:Heap} {nx nx1:Nat} {v:AV} (ht:∀t∈co.ot,tm t=tm' t) (hk:No co=.a) (hv:fb tm hp nx co=some (v,hp1,nx1)) :
  ∃m es,v=vA m nx/\hp1=ab hp nx (some es)/\nx1=nx+1/\∀hp' nx',fb tm' hp' nx' co=some (vA m nx',ab hp' nx' (some es),nx'+1):=by
 cases co<;>simp only[No,reduceCtorEq]at hk
 ·simp only[fb,zOi,zPi]at hv
  obtain ⟨rfl,rfl,rfl⟩:=hv
  exact ⟨false,_,rfl,rfl,rfl,fun _ _=>rfl⟩
 ·rename_i x
  simp only[jg.ot]at ht
  have hx:=bA (tm:=tm) (tm':=tm') (x:=x) ht
  simp only[fb]at hv
  split at hv
  ·rename_i cV
   simp only[zOi,zPi]at hv
   obtain ⟨rfl,rfl,rfl⟩:=hv
   refine ⟨false,_,rfl,rfl,rfl,fun _ _ => ?_⟩
   simp only[fb]
   rw[<-hx,if_pos cV];rfl
  ·cases hv
 ·simp only[fb,zOi,zPi]at hv
  obtain ⟨rfl,rfl,rfl⟩:=hv
  exact ⟨true,_,rfl,rfl,rfl,fun _ _=>rfl⟩
theorem FR {P:Program} {R:aQ} (hR:de P R) {co:jg} {s s':St} {v:AV} {hp:Heap} {nx:Nat} {k:Kd} (h:ey R co s (xx v hp nx k)) (ht:∀t∈co.ot,s.tm t=s'.tm t) :
  (k=.p->hp=s.hp/\nx=s.nx/\ey R co s' (xx v s'.hp s'.nx .p))/\(∀x,k=.r x->hp=s.hp/\nx=s.nx/\(s.hp x=s'.hp x->ey R co s' (xx v s'.hp s'.nx (.r x)))) /\
  (k=.e->s.hp=s'.hp->s.nx=s'.nx->ey R co s' (xx v hp nx .e)) /\
  (k=.a->No co=.a/\∃m es,v=vA m s.nx/\hp=ab s.hp s.nx (some es)/\nx=s.nx+1/\fb s'.tm s'.hp s'.nx co=some (vA m s'.nx,ab s'.hp s'.nx (some es),s'.nx+1)):=by
 have call:∀{f:Nat} {args:List AV},gQ R f args s.hp s.nx (xx v hp nx k) ->
   (k=.p->hp=s.hp/\nx=s.nx/\gQ R f args s'.hp s'.nx (xx v s'.hp s'.nx .p))/\(∀x,k=.r x->hp=s.hp/\nx=s.nx/\(s.hp x=s'.hp x->gQ R f args s'.hp s'.nx (xx v s'.hp s'.nx (.r x)))) /\
   (k=.e->s.hp=s'.hp->s.nx=s'.nx->gQ R f args s'.hp s'.nx (xx v hp nx .e))/\(k=.a->False):=by
  rintro f args ⟨v1,hp1,nx1,k1,hr,rfl,rfl,rfl,rfl⟩
  refine ⟨?_,?_,?_,?_⟩
  ·rintro rfl
   obtain ⟨g1,g2,g3⟩:=hR.pure _ _ _ _ _ _ _ hr
   exact ⟨g1,g2,_,_,_,_,g3 _ _,rfl,rfl,rfl,rfl⟩
  ·rintro x rfl
   rcases hR.kind _ _ _ _ _ _ _ _ hr with h|h<;>cases h
  ·rintro rfl e1 e2
   exact ⟨_,_,_,_,by rw[<-e1,<-e2];exact hr,rfl,rfl,rfl,rfl⟩
  ·rintro rfl
   rcases hR.kind _ _ _ _ _ _ _ _ hr with h|h<;>cases h
 unfold ey at h ⊢
 split at h
 ·rename_i f args
  rw[<-rO (tm:=s.tm) (tm':=s'.tm) (l:=args) (by simpa [jg.ot] using ht)]
  obtain ⟨h1,h2,h3,h4⟩:=call h
  exact ⟨h1,h2,h3,fun e=>(h4 e).elim⟩
 ·rename_i g args
  simp only[jg.ot,zJ]at ht
  split at h
  ·rename_i f first cap hg
   rw[bA (tm:=s.tm) (tm':=s'.tm) (x:=g) fun t h=>ht t (.inl h)]at hg
   simp only[hg]
   rw[<-rO (tm:=s.tm) (tm':=s'.tm) (l:=args) fun t h=>ht t (.inr h)]
   obtain ⟨h1,h2,h3,h4⟩:=call h
   exact ⟨h1,h2,h3,fun e=>(h4 e).elim⟩
  ·exact h.elim
 ·have e1:=LH (tm:=s.tm) (tm':=s'.tm) ht
  split at h
  ·rename_i v1 hv
   obtain ⟨rfl,rfl,rfl,rfl⟩:=h
   rw[e1]at hv
   simp only[hv]
   refine ⟨fun _ => ?_,fun x h=>(by cases h),fun h=>(by cases h),fun h=>(by cases h)⟩
   simp[xx]
  ·rename_i hn
   rw[e1]at hn
   simp only[hn]
   split at h
   ·rename_i v1 r1 hv
    obtain ⟨rfl,rfl,rfl,rfl⟩:=h
    refine ⟨fun h=>(by cases h),?_,fun h=>(by cases h),fun h=>(by cases h)⟩
    rintro x h
    cases h
    refine ⟨rfl,rfl,fun hx => ?_⟩
    rw[BN ht hv hx]
    exact ⟨rfl,rfl,rfl,rfl⟩
   ·rename_i BE
    split at h
    ·rename_i v1 hp1 nx1 hv
     obtain ⟨rfl,rfl,rfl,rfl⟩:=h
     refine ⟨fun h => ?_,fun x h => ?_,fun hk e2 e3 => ?_,fun hk => ?_⟩
     ·cases co<;>simp[No]at h
     ·cases co<;>simp[No]at h
     ·rw[<-e2,<-e3,OA ht BE,<-LL ht,hv]
      exact ⟨rfl,rfl,rfl,hk⟩
     ·refine ⟨hk,?_⟩
      obtain ⟨m,es,g1,g2,g3,g4⟩:=LJ ht hk hv
      exact ⟨m,es,g1,g2,g3,g4 _ _⟩
    ·exact h.elim
theorem HE {P:Program} {own:Bool} {o:Oper} {z:List AV} (hc:dH P own o=some (.alloc z)):∃e,o.op=.alloc e/\zeroOf P e=some z:=by
 obtain ⟨dst,op,type,pos,after,guard⟩:=o
 unfold dH at hc
 split at hc
 ·rename_i Rc ao
  simp only[zOi]at hc;subst hc
  cases op<;>simp only[ml]at ao
  case alloc e =>
   split at ao
   ·simp only[zC,reduceCtorEq,and_false,exists_false]at ao
   ·simp only[zC,jg.alloc.injEq]at ao
    obtain ⟨z',h,rfl⟩:=ao
    exact ⟨_,rfl,h⟩
  case call cl =>
   obtain ⟨callee,L1,ts⟩:=cl
   cases callee with
   |value g=>cases g<;>simp at ao
   |invoke r m=>simp at ao
   |builtin b=>simp only[]at ao;unfold gh dg at ao;(repeat' split at ao)<;>simp at ao
  all_goals (first|(simp at ao;done)|skip)
  all_goals ((try unfold jX at ao);(try unfold gM at ao);(repeat' split at ao)<;>(first|(simp at ao;done)|(simp only[zC]at ao;obtain ⟨_,_,h⟩:=ao;cases h;done)))
 ·cases op
  case binOp =>
   unfold iS at hc
   (repeat' split at hc)<;>simp at hc
  all_goals (exfalso;have F6:=dx hc;cases F6)
theorem Oo {P:Program} {own:Bool} {o:Oper} {x:fg} (hc:dH P own o=some (.box x)):∃e y,o.op=.box e y/\cO y=x:=by
 obtain ⟨dst,op,type,pos,after,guard⟩:=o
 unfold dH at hc
 split at hc
 ·rename_i Rc ao
  simp only[zOi]at hc;subst hc
  cases op<;>simp only[ml]at ao
  case box e y =>
   simp only[zOi,jg.box.injEq]at ao
   exact ⟨_,_,rfl,ao⟩
  case alloc e =>
   split at ao
   ·simp only[zC,reduceCtorEq,and_false,exists_false]at ao
   ·simp only[zC,reduceCtorEq,and_false,exists_false]at ao
  case call cl =>
   obtain ⟨callee,L1,ts⟩:=cl
   cases callee with
   |value g=>cases g<;>simp at ao
   |invoke r m=>simp at ao
   |builtin b=>simp only[]at ao;unfold gh dg at ao;(repeat' split at ao)<;>simp at ao
  all_goals (first|(simp at ao;done)|skip)
  all_goals ((try unfold jX at ao);(try unfold gM at ao);(repeat' split at ao)<;>(first|(simp at ao;done)|(simp only[zC]at ao;obtain ⟨_,_,h⟩:=ao;cases h;done)))
 ·cases op
  case binOp =>
   unfold iS at hc
   (repeat' split at hc)<;>simp at hc
  all_goals (exfalso;have F6:=dx hc;cases F6)
theorem HD {P:Program} {own:Bool} {o:Oper} (hc:dH P own o=some .sn):∃t kt et,o.op=.makeMap t none/\P.underlying t=some (.map kt et):=by
 obtain ⟨dst,op,type,pos,after,guard⟩:=o
 unfold dH at hc
 split at hc
 ·rename_i Rc ao
  simp only[zOi]at hc;subst hc
  exfalso
  cases op<;>simp only[ml]at ao
  case call cl =>
   obtain ⟨callee,L1,ts⟩:=cl
   cases callee with
   |value g=>cases g<;>simp at ao
   |invoke r m=>simp at ao
   |builtin b=>simp only[]at ao;unfold gh dg at ao;(repeat' split at ao)<;>simp at ao
  all_goals (first|(simp at ao;done)|skip)
  all_goals ((try unfold jX at ao);(try unfold gM at ao);(repeat' split at ao)<;>(first|(simp at ao;done)|(simp only[zC]at ao;obtain ⟨_,_,h⟩:=ao;cases h;done)))
 ·cases op
  case binOp =>
   unfold iS at hc
   (repeat' split at hc)<;>simp at hc
  all_goals (have F6:=dx hc;cases F6)
  exact ⟨_,_,_,rfl,by assumption⟩
def nY (c:Cx) (m:Bool) (es:bN) (p:Place) (o:Obj):Prop:=pX c es p o/\(∀t k rest,es≠[.ty t k]::rest)/\(if m then p.O=1/\p.N=0 else p.O=0)
theorem nY.move {c c':Cx} {m:Bool} {es:bN} {p:Place} {o:Obj} (h:nY c m es p o) (mv:∀x u,aC c x u->aC c' x u):nY c' m es p o:=⟨h.1.move mv,h.2⟩
def uP (p:Place):Value:=if p.O=0 then .pointer (some ⟨p.B,0,none⟩) else .map (some p.B)
theorem HA {P:Program} {own:Bool} {o:Oper} {co:jg} {tm:Nat->AV} {a:Act} {c:Cx} {q:Nat} {hp:Heap} {m:Bool} {es:bN} (hc:dH P own o=some co) (hk:No co=.a)
  (he:fb tm hp q co=some (vA m q,ab hp q (some es),q+1)) (ht:fJ c tm a) :
  ∃ob p,p.B=c.w.heap.size/\iX P o a c.w (uP p) { c.w with heap:=c.w.heap.push ob }/\nY c m es p ob:=by
 have cW:∀{es':bN},ab hp q (some es')=ab hp q (some es)->es'=es:=by
  intro es' h
  have:=congrFun h q
  simpa [ab] using this
 have hm:∀{x:AV},x=vA m q->((∃r,x=.ptr r 0 0)->m=false)/\((∃r,x=.mp r)->m=true):=by
  rintro x rfl
  cases m<;>simp[vA]
 have cells:∀{row:List AV} {cs:Array Value} {e:TypeId},es=[row]->m=false->row.length=cs.size->(∀(k:Nat) (av:AV),row[k]?=some av->∃u,cs[k]?=some u/\aC c av u)->iX P o a c.w (.pointer (some ⟨c.w.heap.size,0,none⟩)) { c.w with heap:=c.w.heap.push (.cells cs e) } ->
   ∃ob p,p.B=c.w.heap.size/\iX P o a c.w (uP p) { c.w with heap:=c.w.heap.push ob }/\nY c m es p ob:=by
  rintro row cs e rfl rfl hl hr bR
  refine ⟨.cells cs e,⟨c.w.heap.size,0,row.length,cs.size,[]⟩,rfl,bR,.inl ⟨wT _,cs,e,(0,0),rfl,rfl,fun o ho=>by simp,fun i l hi => ?_⟩,fun t k rest h => ?_,rfl⟩
  ·cases i with
   |zero =>
    simp at hi;subst hi
    refine ⟨rfl,fun j av hj => ?_⟩
    obtain ⟨u,g1,g2⟩:=hr j av hj
    exact ⟨u,by simpa using g1,g2⟩
   |succ i=>simp at hi
  ·simp only[List.cons.injEq]at h
   obtain ⟨rfl,_⟩:=h
   obtain ⟨u,_,hu⟩:=hr 0 _ rfl
   exact hu.yo
 cases co<;>simp only[No,reduceCtorEq]at hk
 ·rename_i z
  simp only[fb,zOi,zPi]at he
  obtain ⟨e,ho,hz⟩:=HE hc
  obtain ⟨dst,op,type,pos,after,guard⟩:=o
  simp only at ho;subst ho
  obtain ⟨i,zv,hi,oe,oz,rfl⟩:=dz hz
  have hr:=tu c oz
  refine cells (cW he.2.1).symm ((hm he.1).1 ⟨_,rfl⟩) (cs:=zv.cells) (e:=e) (by simp) (fun k av hk => ?_) (.inl ?_)
  ·obtain ⟨u,h3,h4⟩:=hr.get hk
   exact ⟨u,by rw[<-getElem?_arr];exact h3,h4⟩
  ·simp[execOp,Instr.alloc,zeroValue,typeInfo,hi,oe,newVar,newRow]
 ·rename_i x
  simp only[fb]at he
  split at he
  ·rename_i cV
   simp only[zOi,zPi]at he
   obtain ⟨e,y,ho,hy⟩:=Oo hc
   subst hy
   obtain ⟨dst,op,type,pos,after,guard⟩:=o
   simp only at ho;subst ho
   have hr:=mX (aE ht y) (gb cV)
   refine cells (cW he.2.1).symm ((hm he.1).1 ⟨_,rfl⟩) (cs:=(a.eval y).cells) (e:=e) (by simpa using hr.1) (fun k av hk => ?_) (.inl ?_)
   ·obtain ⟨u,h3,h4⟩:=hr.get hk
    exact ⟨u,by rw[<-getElem?_arr];exact h3,h4⟩
   ·simp[execOp,Instr.box,newVar,newRow]
  ·cases he
 ·simp only[fb,zOi,zPi]at he
  have h1:=cW he.2.1
  have h2:=(hm he.1).2 ⟨_,rfl⟩
  subst h1;subst h2
  obtain ⟨t,kt,et,ho,hu⟩:=HD hc
  obtain ⟨dst,op,type,pos,after,guard⟩:=o
  simp only at ho;subst ho
  exact ⟨.map #[] 0,⟨c.w.heap.size,1,0,0,[]⟩,rfl,.inl rfl,.inr (.inl ⟨rfl,#[],0,rfl,⟨rfl,fun i l e h=>by simp at h⟩,fun i e h=>by simp at h,fun i j e e' h=>by simp at h⟩),(fun t k rest h=>by cases h),rfl,rfl⟩
def As (R:aQ) (co:aL) (s:St) (v:AV) (r:Rec) (s':St):Prop :=
 (gR s.tm co.guard=some true/\∃hp nx k,ey R co.op s (xx v hp nx k)/\s'=s.put co.dst v hp nx/\r=⟨k,s.hp,hp⟩) \/
 (gR s.tm co.guard=some false/\v=.v undef/\s'=s.put co.dst (.v undef) s.hp s.nx/\r=⟨.p,s.hp,s.hp⟩)
theorem vW {R:aQ}:∀(cl:List aL) (s:St) (bj:List Rec) {K:St->List Rec->Prop},eg R cl s bj K ->
  ∃(S:Nat->St) (out:Nat->AV) (rs:List Rec),S 0=s/\rs.length=cl.length/\(∀(i:Nat) (co:aL) (r:Rec),cl[i]?=some co->rs[i]?=some r->As R co (S i) (out i) r (S (i+1)))/\K (S cl.length) (bj++rs)
 |[],s,bj,K,h=>⟨fun _=>s,fun _=>.v undef,[],rfl,rfl,fun i co r h=>by simp at h,by simpa [eg] using h⟩
 |o::cl,s,bj,K,h=>by
  have step:∀(v:AV) (r:Rec) (s':St),As R o s v r s'->eg R cl s' (bj++[r]) K ->
    ∃(S:Nat->St) (out:Nat->AV) (rs:List Rec),S 0=s/\rs.length=(o::cl).length/\(∀(i:Nat) (co:aL) (r:Rec),(o::cl)[i]?=some co->rs[i]?=some r->As R co (S i) (out i) r (S (i+1)))/\K (S (o::cl).length) (bj++rs):=by
   intro v r s' bU hw
   obtain ⟨S,out,rs,h1,h2,h3,h4⟩:=vW cl s' (bj++[r]) hw
   refine ⟨fun n=>match n with|0=>s|n+1=>S n,fun n=>match n with|0=>v|n+1=>out n,r::rs,rfl,by simp[h2],?_,?_⟩
   ·intro i co r' hi hr
    cases i with
    |zero =>
     simp at hi hr;subst hi;subst hr
     show As R o s v r (S 0)
     rw[h1];exact bU
    |succ i=>exact h3 i co r' (by simpa using hi) (by simpa using hr)
   ·simpa using h4
  unfold eg at h
  split at h
  ·rename_i hw
   obtain ⟨v,hp,nx,k,h1,h2⟩:=XY h
   exact step v ⟨k,s.hp,hp⟩ _ (.inl ⟨hw,hp,nx,k,h1,rfl,rfl⟩) h2
  ·rename_i hw
   exact step (.v undef) ⟨.p,s.hp,s.hp⟩ _ (.inr ⟨hw,rfl,rfl,rfl⟩) h
  ·exact h.elim
theorem FG (p:List Nat) (b:Rec):∀(l:List Rec) (i:Nat),cZ.one p b l i->∀(k:Nat) (a:Rec),l[k]?=some a->i+k∈p\/gz a b
 |[],i,_,k,a,h=>by simp at h
 |x::r,i,hc,k,a,h=>by
  simp only[cZ.one]at hc
  cases k with
  |zero =>
   simp at h;subst h
   rw[wH]
   by_cases hp:p.contains i=true
   ·left;simpa using hp
   ·right;have:=hc.1;rw[if_neg hp]at this;exact this
  |succ k =>
   have:=FG p b r (i+1) hc.2 k a (by simpa using h)
   rwa [show i+1+k=i+(k+1) by omega]at this
theorem JW:∀(pre:List (List Nat)) (bj done:List Rec) (j:Nat),cZ.go pre bj done j->∀(q:Nat) (b:Rec),bj[q]?=some b->∀(i:Nat) (a:Rec),(done++bj)[i]?=some a->i<done.length+q->i∈pre.getD q []\/gz a b
 |pre,[],done,j,_,q,b,hb,_,_,_,_=>by simp at hb
 |[],r::rest,done,j,h,_,_,_,_,_,_,_=>by simp[cZ.go]at h
 |p::ps,r::rest,done,j,h,q,b,hb,i,a,ha,hi=>by
  simp only[cZ.go]at h
  cases q with
  |zero =>
   simp at hb;subst hb
   have:=FG p r done 0 h.1 i a (by rw[zR (by omega)]at ha;exact ha)
   simpa using this
  |succ q =>
   have:=JW ps rest (done++[r]) (j+1) h.2 q b (by simpa using hb) i a (by rw[zF];simpa using ha) (by simp;omega)
   simpa using this
theorem rT {pre:List (List Nat)} {bj:List Rec} (h:cZ pre bj) {i j:Nat} {a b:Rec} (yU:i<j) (ha:bj[i]?=some a) (hb:bj[j]?=some b):i∈pre.getD j []\/gz a b :=
 JW pre bj [] 0 h.1 j b hb i a (by simpa using ha) (by simpa using yU)
def jS (D:Nat->Bool) (dst:Nat->Option Nat) (out:Nat->AV) (t0:Nat->AV):Nat->Nat->AV
 |0=>t0
 |k+1=>if D k then (match dst k with|some d=>jY (jS D dst out t0 k) d (out k)|none=>jS D dst out t0 k) else jS D dst out t0 k
theorem lf {E:Nat->Bool} {dst:Nat->Option Nat} {out:Nat->AV} {t0:Nat->AV} {t k:Nat} (hd:dst k≠some t):jS E dst out t0 (k+1) t=jS E dst out t0 k t:=by
 simp only[jS]
 split
 ·cases h:dst k with
  |none=>rfl
  |some d =>
   show jY _ d _ t=_
   unfold jY
   rw[if_neg]
   rintro rfl;exact hd h
 ·rfl
theorem kV {D D':Nat->Bool} {dst:Nat->Option Nat} {out:Nat->AV} {t0:Nat->AV} {t:Nat}:∀(k:Nat),(∀j,j<k->dst j=some t->D j=D' j)->jS D dst out t0 k t=jS D' dst out t0 k t
 |0,_=>rfl
 |k+1,h=>by
  have ih:=kV (D:=D) (D':=D') (dst:=dst) (out:=out) (t0:=t0) (t:=t) k (fun j hj hd=>h j (by omega) hd)
  by_cases hd:dst k=some t
  ·simp only[jS,hd,h k (by omega) hd]
   split
   ·simp[jY]
   ·exact ih
  ·rw[lf hd,lf hd];exact ih
theorem A4 {dst:Nat->Option Nat} {out:Nat->AV} {t0:Nat->AV} (i:Nat):∀(k:Nat),i<=k->jS (fun j=>decide (j<i)) dst out t0 k=jS (fun _=>true) dst out t0 i
 |0,h=>by
  have:i=0:=by omega
  subst this;rfl
 |k+1,h=>by
  by_cases hi:i=k+1
  ·subst hi
   funext t
   exact kV (k+1) (fun j hj _=>by simp;omega)
  ·have ih:=A4 (dst:=dst) (out:=out) (t0:=t0) i k (by omega)
   simp only[jS]
   rw[if_neg (by simp;omega)]
   exact ih
theorem DX {E:Nat->Bool} {dst:Nat->Option Nat} {out:Nat->AV} {t0:Nat->AV} {i d:Nat} (hi:E i=true) (hd:dst i=some d):∀k,i<k->(∀j,i<j->j<k->dst j=some d->E j=false)->jS E dst out t0 k d=out i
 |0,h,_=>by omega
 |k+1,hk,h=>by
  by_cases xc:i=k
  ·subst xc
   simp[jS,hi,hd,jY]
  ·have ih:=DX (out:=out) (t0:=t0) hi hd k (by omega) (fun j h1 h2=>h j h1 (by omega))
   by_cases hdk:dst k=some d
   ·simp only[jS,h k (by omega) (by omega) hdk]
    simpa using ih
   ·rw[lf hdk];exact ih
theorem C4 {l:Array Bool} {j:Nat} (h:j<l.size):l.getD j true=l.getD j false:=by
 simp[Array.getD,h]
theorem Oi {l:Array Bool} {i j:Nat} (h:i<l.size):(l.setIfInBounds i true).getD j false=if j=i then true else l.getD j false:=by
 split
 ·rename_i e;subst e;simp[h]
 ·rename_i e;simp[wQ (fun h=>e h.symm)]
def xp (D:Nat->Bool):Nat->Nat
 |0=>0
 |k+1=>xp D k+if D k then 0 else 1
theorem Qg {D D':Nat->Bool} (h:∀j,D j=true->D' j=true):∀k,xp D' k<=xp D k
 |0=>zD _
 |k+1=>by
  have ih:=Qg h k
  simp only[xp]
  by_cases hd:D k=true
  ·rw[if_pos hd,if_pos (h k hd)];exact ih
  ·rw[if_neg hd];split<;>omega
theorem Qf {D D':Nat->Bool} (h:∀j,D j=true->D' j=true) {i:Nat} (hi:D i=false) (kO:D' i=true):∀k,i<k->xp D' k<xp D k
 |0,h0=>by omega
 |k+1,hk=>by
  simp only[xp]
  by_cases xc:i=k
  ·subst xc
   have:=Qg h i
   rw[hi,kO];simp;omega
  ·have ih:=Qf h hi kO k (by omega)
   by_cases hd:D k=true
   ·rw[if_pos hd,if_pos (h k hd)];omega
   ·rw[if_neg hd];split<;>omega
theorem Fz {D:Nat->Bool}:∀k,xp D k=0->∀j,j<k->D j=true
 |0,_,j,hj=>by omega
 |k+1,h,j,hj=>by
  simp only[xp]at h
  by_cases hd:D k=true
  ·by_cases Ua:j=k
   ·subst Ua;exact hd
   ·exact Fz k (by omega) j (by omega)
  ·rw[if_neg hd]at h;omega
theorem aC.move {c c':Cx} (hι:∀r p,c.ι r=some p->c'.ι r=some p) (bZ:∀B,c.ro B->c'.ro B/\c'.w.heap[B]?=c.w.heap[B]?) {x:AV} {u:Value} (h:aC c x u):aC c' x u:=by
 induction h with
 |v x=>exact .v x
 |str l=>exact .str l
 |ptr h eP=>exact .ptr (hι _ _ h) eP
 |mp h eP=>exact .mp (hι _ _ h) eP
 |it h h' hr hm rJ sb e1 e2 e3 e4=>exact .it (hι _ _ h) (hι _ _ h') (hι _ _ hr) hm rJ sb e1 e2 e3 e4
 |Gr h hr hm sb e1 hs=>exact .Gr (hι _ _ h) (hι _ _ hr) hm sb e1 hs
 |rp g hr hc hv ih=>exact .rp g (fun h=>(bZ _ (hr h)).1) (fun k av h=>by rw[cell?_of_heap (bZ _ (hr (cj h))).2];exact hc k av h) ih
 |sl hi hs ha hl dq hN hE eP=>exact .sl (hι _ _ hi) hs ha hl dq hN hE eP
 |nil h=>exact .nil h
 |rs g hlen hl dq ew hr hc hv ih =>
  exact .rs g hlen hl dq ew (fun h=>⟨(bZ _ (hr h).1).1,(hr h).2⟩) (fun i j l av h1 h2=>(cell?_of_heap (a:=⟨_,_,none⟩) (bZ _ (hr (cj h1)).1).2).trans (hc i j l av h1 h2)) ih
 |agg hl hv ih=>exact .agg hl ih
 |bE hl hv ih=>exact .bE hl ih
 |fn h1 h2 hx hy QQ QP=>exact .fn h1 h2 QQ QP
 |Bx h ih=>exact .Bx ih
 |any u=>exact .any u
theorem bg.It {c:Cx} {nx:Nat} (h:bg c nx) {B:Nat} (hF:c.F B):¬c.own B:=by
 rintro ⟨r,p,h1,h2,rfl⟩
 cases e:c.hp r with
 |none=>exact h1 e
 |some es=>exact (h.sd r es p e h2).1 hF
theorem bg.more {c:Cx} {nx:Nat} (h:bg c nx) {w':World} (hg:Grow c.w w') {F':Nat->Prop} (hF:∀B,F' B↔c.F B\/(c.w.heap.size<=B/\B<w'.heap.size)) :
  bg ⟨⟨F',c.F.G⟩,c.ι,c.hp,w'⟩ nx/\∀x u,aC c x u->aC ⟨⟨F',c.F.G⟩,c.ι,c.hp,w'⟩ x u:=by
 have bZ:∀B,c.ro B->(⟨⟨F',c.F.G⟩,c.ι,c.hp,w'⟩:Cx).ro B:=fun B hB=>⟨zU hB.1 hg.size,hB.2.1,fun h2=>by
  rcases (hF B).1 h2 with h3|h3
  ·exact hB.2.2 h3
  ·have:=hB.1;omega⟩
 have mv:∀x u,aC c x u->aC ⟨⟨F',c.F.G⟩,c.ι,c.hp,w'⟩ x u:=fun x u hv=>hv.move (c:=c) (c':=⟨⟨F',c.F.G⟩,c.ι,c.hp,w'⟩) (fun _ _ h=>h) fun B hB=>⟨bZ B hB,hg.ah B hB.1⟩
 refine ⟨⟨h.uT,h.lt,?_,h.inj,fun B hB => ?_,h.ty.to (fun _ _ _ _ h=>h) (fun _ _ h=>h) (fun B cs t fz hB=>⟨cs,by show w'.heap[B]?=_;rw[hg.ah B (zE.1 hB).1];exact hB,rfl⟩) (fun _ _ _ h=>h),h.gl.to rfl bZ fun B hB=>hg.ah B hB.1⟩,mv⟩
 ·intro r es p h1 h2
  obtain ⟨h3,o,h4,h5⟩:=h.sd r es p h1 h2
  have az:p.B<c.w.heap.size:=(zE.1 h4).1
  refine ⟨fun h8 => ?_,o,by show w'.heap[p.B]?=_;rw[hg.ah _ az];exact h4,h5.move mv⟩
  rcases (hF p.B).1 h8 with h9|h9
  ·exact h3 h9
  ·omega
 ·rcases (hF B).1 hB with h1|h1
  ·exact zU (h.F B h1) hg.size
  ·exact h1.2
theorem bg.acE {c:Cx} {q:Nat} (h:bg c q) {p:Place} (hp:c.F p.B) {o:Obj} {xj:bN} {m:Bool} (hc:c.w.heap[p.B]?=some o) (vG:nY c m xj p o) :
  bg ⟨⟨fun B=>c.F B/\B≠p.B,c.F.G⟩,cn c.ι q p,ab c.hp q (some xj),c.w⟩ (q+1)/\∀x u,aC c x u->aC ⟨⟨fun B=>c.F B/\B≠p.B,c.F.G⟩,cn c.ι q p,ab c.hp q (some xj),c.w⟩ x u:=by
 have Sl:=h.fresh
 have hfh:=h.uM
 have hι:∀r,r≠q->cn c.ι q p r=c.ι r:=fun r hr=>by simp[cn,hr]
 have xE:cn c.ι q p q=some p:=by simp[cn]
 have ni:∀r,r≠q->ab c.hp q (some xj) r=c.hp r:=fun r hr=>by simp[ab,hr]
 have IT:ab c.hp q (some xj) q=some xj:=by simp[ab]
 have aa0:=h.It hp
 have bZ:∀B,c.ro B->(⟨⟨fun B=>c.F B/\B≠p.B,c.F.G⟩,cn c.ι q p,ab c.hp q (some xj),c.w⟩:Cx).ro B:=by
  refine fun B hB=>⟨hB.1,?_,fun h2=>hB.2.2 h2.1⟩
  rintro ⟨r,p',h1,h2,h3⟩
  by_cases Hb:r=q
  ·subst Hb
   have AD:some p=some p':=by rw[<-xE];exact h2
   cases AD
   rw[h3]at hp
   exact hB.2.2 hp
  ·exact hB.2.1 ⟨r,p',by have:=h1;simp only[ni r Hb]at this;exact this,by have:=h2;simp only[hι r Hb]at this;exact this,h3⟩
 have mv:∀x u,aC c x u->aC ⟨⟨fun B=>c.F B/\B≠p.B,c.F.G⟩,cn c.ι q p,ab c.hp q (some xj),c.w⟩ x u:=by
  intro x u hv
  refine hv.move (c:=c) (c':=⟨⟨fun B=>c.F B/\B≠p.B,c.F.G⟩,cn c.ι q p,ab c.hp q (some xj),c.w⟩) (fun r p' h1 => ?_) fun B hB=>⟨bZ B hB,rfl⟩
  have:r≠q:=by rintro rfl;rw[Sl]at h1;cases h1
  show cn _ _ _ r=_
  rw[hι r this];exact h1
 refine ⟨⟨?_,?_,?_,?_,fun B hB=>h.F B hB.1,?_,h.gl.to rfl bZ fun _ _=>rfl⟩,mv⟩
 ·intro r hr
  by_cases he:r=q
  ·omega
  ·have:c.hp r≠none:=by simpa only[ni r he] using hr
   have:=h.uT r this;omega
 ·intro r p' h1
  by_cases he:r=q
  ·omega
  ·have:c.ι r=some p':=by simpa only[hι r he] using h1
   have:=h.lt r p' this;omega
 ·intro r es p' h1 h2
  by_cases he:r=q
  ·subst he
   have xg:some xj=some es:=by rw[<-IT];exact h1
   have AD:some p=some p':=by rw[<-xE];exact h2
   cases xg;cases AD
   exact ⟨fun h3=>h3.2 rfl,o,hc,vG.1.move mv⟩
  ·have g1:c.hp r=some es:=by simpa only[ni r he] using h1
   have g2:c.ι r=some p':=by simpa only[hι r he] using h2
   obtain ⟨h3,o,h4,h5⟩:=h.sd r es p' g1 g2
   exact ⟨fun h8=>h3 h8.1,o,h4,h5.move mv⟩
 ·intro r r' p1 p2 h1 h2 h3 h4 h5
  have other:∀x px,x≠q->c.hp x≠none->c.ι x=some px->px.B≠p.B:=by
   intro x px hx k1 k2 k3
   exact aa0 ⟨x,px,k1,k2,k3⟩
  by_cases e1:r=q
  ·by_cases e2:r'=q
   ·rw[e1,e2]
   ·exfalso
    subst e1
    have Sz:some p=some p1:=by rw[<-xE];exact h3
    cases Sz
    exact other r' p2 e2 (by simpa only[ni r' e2] using h2) (by simpa only[hι r' e2] using h4) h5.symm
  ·by_cases e2:r'=q
   ·exfalso
    subst e2
    have h4':some p=some p2:=by rw[<-xE];exact h4
    cases h4'
    exact other r p1 e1 (by simpa only[ni r e1] using h1) (by simpa only[hι r e1] using h3) h5
   ·exact h.inj r r' p1 p2 (by simpa only[ni r e1] using h1) (by simpa only[ni r' e2] using h2) (by simpa only[hι r e1] using h3) (by simpa only[hι r' e2] using h4) h5
 ·refine h.ty.to (fun r t k rest NG => ?_) (fun r p' h1 => ?_) (fun B cs t fz hB=>⟨cs,hB,rfl⟩) (fun r _ g1 g2=>by
   have:r≠q:=by rintro rfl;exact g1 Sl
   have g2:ab c.hp q (some xj) r≠none:=g2
   rw[ni r this]at g2;exact g2)
  ·by_cases he:r=q
   ·subst he
    have xg:some xj=some ([AV.ty t k]::rest):=by rw[<-IT];exact NG
    exact absurd (Option.some.inj xg) (vG.2.1 _ _ _)
   ·simpa only[ni r he] using NG
  ·have:r≠q:=by rintro rfl;rw[Sl]at h1;cases h1
   show cn _ _ _ r=_
   rw[hι r this];exact h1
theorem ug:∀(pre:List (List Nat)) (fl:List (Bool×Bool)) (lJ:List Nat) (i0:Nat),iW pre fl lJ i0=true->∀(q:Nat) (e:Bool),fl[q]?=some (true,e)->∀p∈pre,i0+q∈p->(∀k∈lJ,k∈p)/\∀(k:Nat) (b:Bool),k<q->fl[k]?=some (b,true)->i0+k∈p
 |pre,[],lJ,i0,_,q,e,h,_,_,_=>by simp at h
 |pre,(a,e0)::r,lJ,i0,vG,q,e,hq,p,hp,hm=>by
  simp only[iW,zN]at vG
  cases q with
  |zero =>
   simp at hq
   obtain ⟨rfl,rfl⟩:=hq
   have h1:=vG.1
   rw[if_pos rfl,zQ]at h1
   have h2:=h1 p hp
   rw[if_pos (by simpa using hm),zQ]at h2
   exact ⟨fun k hk=>by simpa using h2 k hk,fun k b hk=>by omega⟩
  |succ q =>
   have ih:=ug pre r _ (i0+1) vG.2 q e (by simpa using hq) p hp (by rw[show i0+1+q=i0+(q+1) by omega];exact hm)
   refine ⟨fun k hk=>ih.1 k (by split<;>simp[hk]),fun k b hk hb => ?_⟩
   cases k with
   |zero =>
    simp at hb
    obtain ⟨rfl,rfl⟩:=hb
    exact ih.1 i0 (by simp)
   |succ k =>
    have:=ih.2 k b (by omega) (by simpa using hb)
    rwa [show i0+1+k=i0+(k+1) by omega]at this
theorem HV {pre:List (List Nat)} {bj:List Rec} (h:cZ pre bj) {i j k:Nat} {r rk:Rec} (hj:bj[j]?=some r) (ha:r.k=.a) (yU:j∈pre.getD i []) (hk:k<j) (NE:bj[k]?=some rk) (he:rk.k.xJ=true):k∈pre.getD i []:=by
 have hi:i<pre.length:=by
  rcases zj i pre.length with h|h
  ·exact h
  ·simp[List.getD,wZ h]at yU
 have mg:pre.getD i []∈pre:=by simp[List.getD,zA hi]
 have:=(ug pre _ [] 0 h.2 j r.k.xJ (by simp[hj,ha,Kd.IH]) _ mg (by simpa using yU)).2 k rk.k.IH hk (by simp[NE,he])
 simpa using this
theorem DW {D:Nat->Bool} {dst:Nat->Option Nat} {o1 o2:Nat->AV} {t0:Nat->AV} {m:Nat} (h:∀j,j≠m->o1 j=o2 j) (t:Nat):∀k,jS D dst o1 t0 k t=jS D dst o2 t0 k t\/(jS D dst o1 t0 k t=o1 m/\jS D dst o2 t0 k t=o2 m)
 |0=>.inl rfl
 |k+1=>by
  have ih:=DW (D:=D) (dst:=dst) (t0:=t0) h t k
  by_cases hd:dst k=some t
  ·simp only[jS,hd]
   split
   ·by_cases hk:k=m
    ·subst hk;exact .inr (by simp[jY])
    ·exact .inl (by simp[jY,h k hk])
   ·exact ih
  ·rw[lf hd,lf hd];exact ih
theorem B9 {D:Nat->Bool} {dst:Nat->Option Nat} {o1 o2:Nat->AV} {t0:Nat->AV} {t:Nat}:∀(k:Nat),(∀j,j<k->D j=true->dst j=some t->o1 j=o2 j)->jS D dst o1 t0 k t=jS D dst o2 t0 k t
 |0,_=>rfl
 |k+1,h=>by
  have ih:=B9 (D:=D) (dst:=dst) (t0:=t0) (t:=t) k (fun j hj=>h j (by omega))
  by_cases hd:dst k=some t
  ·simp only[jS,hd]
   split
   ·rename_i hD;simp[jY,h k (by omega) hD hd]
   ·exact ih
  ·rw[lf hd,lf hd];exact ih
structure Tb (c c':Cx):Prop where
 ι:∀r p,c.ι r=some p->c'.ι r=some p
 size:c.w.heap.size<=c'.w.heap.size
 ah:∀B,B<c.w.heap.size->¬c.own B->¬c'.own B/\c'.w.heap[B]?=c.w.heap[B]?
 os:c'.w.os=c.w.os
 tape:c'.w.tape=c.w.tape
 output:c'.w.output=c.w.output
 G:c'.F.G=c.F.G
theorem Tb.trans {a b c:Cx} (h:Tb a b) (k:Ext b c):Tb a c :=
 ⟨fun r p e=>k.ι r p (h.ι r p e),wF h.size k.size,fun B hB ho=>by
  obtain ⟨h1,h2⟩:=h.ah B hB ho
  obtain ⟨h3,h4⟩:=k.ah B (zU hB h.size) h1
  exact ⟨h3,h4.trans h2⟩,k.os.trans h.os,k.tape.trans h.tape,k.output.trans h.output,by rw[k.F];exact h.G⟩
structure PB (c c':Cx) (S:Nat->St) (out:Nat->AV) (j:Nat) (p:Place):Prop where
 row:∃m es,out j=vA m (S j).nx/\(S (j+1)).hp=ab (S j).hp (S j).nx (some es)/\(S (j+1)).nx=(S j).nx+1 /\
  ∃o,c'.w.heap[p.B]?=some o/\nY c' m es p o
 ge:c.w.heap.size<=p.B
theorem PB.to {c c' rU:Cx} {S:Nat->St} {out:Nat->AV} {j:Nat} {p:Place} (h:PB c c' S out j p) (hw:rU.w.heap[p.B]?=c'.w.heap[p.B]?) (mv:∀x u,aC c' x u->aC rU x u):PB c rU S out j p:=by
 obtain ⟨⟨m,es,h1,h2,h3,o,h4,h5⟩,hg⟩:=h
 exact ⟨⟨m,es,h1,h2,h3,o,by rw[hw];exact h4,h5.move mv⟩,hg⟩
def eQ (pd:Nat->Option Place) (out:Nat->AV) (j:Nat):AV:=match pd j with
 |some p=>.v (uP p)
 |none=>out j
structure DI (c:Cx) (S:Nat->St) (rs:List Rec) (n:Nat) (dst:Nat->Option Nat) (out:Nat->AV) (t0:Nat->AV) (nt:Nat) (ay:Array Bool) (c':Cx) (a':Act) (m:Nat) (pd:Nat->Option Place):Prop where
 Yl:m<=n
 done:∀j r,rs[j]?=some r->r.k.xJ=true->j<m->ay.getD j false=true
 e:∀j r,rs[j]?=some r->r.k=.e->m<=j->ay.getD j false=false
 a:∀j r,rs[j]?=some r->r.k=.a->m<=j->ay.getD j false=true->(pd j).isSome=true
 Cv:∀j p,pd j=some p->m<=j/\(∃r,rs[j]?=some r/\r.k=.a)/\ay.getD j false=true/\PB c c' S out j p/\c'.F p.B
 inj:∀j j' p p',pd j=some p->pd j'=some p'->p.B=p'.B->j=j'
 F:∀B,c'.F B↔c.F B\/∃j p,pd j=some p/\p.B=B
 hp:c'.hp=(S m).hp
 rel:bg c' (S m).nx
 tm:fJ c' (jS (fun i=>ay.getD i false) dst (eQ pd out) t0 n) a'
 sz:a'.tmps.size=nt
 df:a'.defers=c'.F.G
 ext:Tb c c'
section
variable {c:Cx} {S:Nat->St} {rs:List Rec} {n:Nat} {dst:Nat->Option Nat} {out:Nat->AV} {t0:Nat->AV} {nt:Nat} {ay:Array Bool} {c':Cx} {a':Act} {m:Nat} {pd:Nat->Option Place}
theorem DI.skip (h:DI c S rs n dst out t0 nt ay c' a' m pd) (hm:m<n) {r:Rec} (hr:rs[m]?=some r) (hk:r.k.xJ=false) (h1:(S (m+1)).hp=(S m).hp) (h2:(S (m+1)).nx=(S m).nx):DI c S rs n dst out t0 nt ay c' a' (m+1) pd:=by
 refine ⟨by omega,fun j r' h3 h4 h5 => ?_,fun j r' h3 h4 h5=>h.e j r' h3 h4 (by omega),fun j r' h3 h4 h5=>h.a j r' h3 h4 (by omega),fun j p h3 => ?_,h.inj,h.F,by rw[h1];exact h.hp,by rw[h2];exact h.rel,h.tm,h.sz,h.df,h.ext⟩
 ·by_cases hjm:j=m
  ·subst hjm;rw[hr,zOi]at h3;subst h3;rw[hk]at h4;cases h4
  ·exact h.done j r' h3 h4 (by omega)
 ·obtain ⟨g1,⟨r',g2,g3⟩,g4⟩:=h.Cv j p h3
  refine ⟨?_,⟨r',g2,g3⟩,g4⟩
  by_cases hjm:j=m
  ·subst hjm;rw[hr,zOi]at g2;subst g2;rw[g3]at hk;cases hk
  ·omega
theorem DI.take (W3:∀B,c.F B->B<c.w.heap.size) (h:DI c S rs n dst out t0 nt ay c' a' m pd) (hm:m<n) {p:Place} (hp:pd m=some p):∃rU vp,rU.w=c'.w/\DI c S rs n dst out t0 nt ay rU a' (m+1) vp:=by
 obtain ⟨_,⟨r,hr,hk⟩,hl,hPB,hF⟩:=h.Cv m p hp
 obtain ⟨mm,xj,e1,e2,e3,o,e4,e5⟩:=hPB.row
 obtain ⟨bP,mv⟩:=h.rel.acE hF e4 e5
 have Sl:=h.rel.fresh
 refine ⟨⟨⟨fun B=>c'.F B/\B≠p.B,c'.F.G⟩,cn c'.ι (S m).nx p,ab c'.hp (S m).nx (some xj),c'.w⟩,fun j=>if j=m then none else pd j,rfl,?_⟩
 have Sc:∀j p',(if j=m then none else pd j)=some p'->j≠m/\pd j=some p':=by
  intro j p' h1
  split at h1
  ·cases h1
  ·rename_i h2;exact ⟨h2,h1⟩
 refine ⟨by omega,fun j r' h3 h4 h5 => ?_,fun j r' h3 h4 h5=>h.e j r' h3 h4 (by omega),fun j r' h3 h4 h5 h6 => ?_,fun j p' h3 => ?_,fun j j' p1 p2 h3 h4 h5 => ?_,fun B => ?_,?_,?_,?_,h.sz,h.df,?_⟩
 ·by_cases hjm:j=m
  ·subst hjm;exact hl
  ·exact h.done j r' h3 h4 (by omega)
 ·rw[if_neg (by omega)]
  exact h.a j r' h3 h4 (by omega) h6
 ·obtain ⟨h4,h5⟩:=Sc j p' h3
  obtain ⟨g1,g2,g3,g4,g5⟩:=h.Cv j p' h5
  refine ⟨by omega,g2,g3,g4.to rfl mv,g5,fun h6=>h4 (h.inj j m p' p h5 hp h6)⟩
 ·exact h.inj j j' p1 p2 (Sc j p1 h3).2 (Sc j' p2 h4).2 h5
 ·constructor
  ·rintro ⟨h1,h2⟩
   rcases (h.F B).1 h1 with h3|⟨j,p',h3,h4⟩
   ·exact .inl h3
   ·refine .inr ⟨j,p',?_,h4⟩
    rw[if_neg]
    ·exact h3
    ·rintro rfl
     rw[hp,zOi]at h3;subst h3
     exact h2 h4.symm
  ·rintro (h1|⟨j,p',h1,h2⟩)
   ·refine ⟨(h.F B).2 (.inl h1),fun h3 => ?_⟩
    have:=W3 B h1
    have:=hPB.ge
    omega
   ·obtain ⟨h4,h5⟩:=Sc j p' h1
    exact ⟨(h.F B).2 (.inr ⟨j,p',h5,h2⟩),fun h6=>h4 (h.inj j m p' p h5 hp (by rw[h2,h6]))⟩
 ·show ab _ _ _=_
  rw[e2,h.hp]
 ·rw[e3];exact bP
 ·intro t
  have bt:∀j,j≠m->eQ pd out j=eQ (fun j=>if j=m then none else pd j) out j:=by
   intro j hj;simp only[eQ,if_neg hj]
  rcases DW (D:=fun i=>ay.getD i false) (dst:=dst) (t0:=t0) bt t n with h1|⟨h1,h2⟩
  ·rw[<-h1];exact mv _ _ (h.tm t)
  ·rw[h2]
   have h3:=h.tm t
   rw[h1]at h3
   have h4:eQ pd out m=.v (uP p):=by simp only[eQ,hp]
   rw[h4]at h3
   have h5:=h3.b8
   have h6:eQ (fun j=>if j=m then none else pd j) out m=vA mm (S m).nx:=by simp only[eQ,if_true,e1]
   rw[h6,h5]
   have gj:=e5.2.2
   cases mm with
   |false =>
    have hO:p.O=0:=by simpa using gj
    have:=aC.ptr (c:=⟨⟨fun B=>c'.F B/\B≠p.B,c'.F.G⟩,cn c'.ι (S m).nx p,ab c'.hp (S m).nx (some xj),c'.w⟩) (r:=(S m).nx) (i:=0) (off:=0) (p:=p) (by simp[cn]) (by rw[hO];exact wT _)
    simpa [hO,vA,uP] using this
   |true =>
    have hO:p.O=1/\p.N=0:=by simpa using gj
    have:=aC.mp (c:=⟨⟨fun B=>c'.F B/\B≠p.B,c'.F.G⟩,cn c'.ι (S m).nx p,ab c'.hp (S m).nx (some xj),c'.w⟩) (r:=(S m).nx) (p:=p) (by simp[cn]) (by omega)
    simpa [hO.1,vA,uP] using this
 ·refine ⟨fun r' p' h1 => ?_,h.ext.size,fun B hB ho=>⟨?_,(h.ext.ah B hB ho).2⟩,h.ext.os,h.ext.tape,h.ext.output,h.ext.G⟩
  ·have h2:=h.ext.ι r' p' h1
   have:r'≠(S m).nx:=by rintro rfl;rw[Sl]at h2;cases h2
   show cn _ _ _ r'=_
   simp[cn,this,h2]
  ·rintro ⟨r',p',h1,h2,h3⟩
   by_cases Hb:r'=(S m).nx
   ·subst Hb
    have AD:some p=some p':=by rw[<-h2];simp[cn]
    cases AD
    have:=hPB.ge
    omega
   ·refine (h.ext.ah B hB ho).1 ⟨r',p',?_,?_,h3⟩
    ·simpa [ab,Hb] using h1
    ·simpa [cn,Hb] using h2
theorem DI.all (W3:∀B,c.F B->B<c.w.heap.size) (hlen:rs.length=n) (bt:∀i r,rs[i]?=some r->r.k.xJ=false->(S (i+1)).hp=(S i).hp/\(S (i+1)).nx=(S i).nx) :
  ∀(d m:Nat) (c':Cx) (pd:Nat->Option Place),n-m=d->DI c S rs n dst out t0 nt ay c' a' m pd->∃m' rU vp,rU.w=c'.w/\DI c S rs n dst out t0 nt ay rU a' m' vp/\(m'=n\/∃r,rs[m']?=some r/\r.k.xJ=true/\ay.getD m' false=false)
 |0,m,c',pd,hd,h=>⟨m,c',pd,rfl,h,.inl (by have:=h.Yl;omega)⟩
 |d+1,m,c',pd,hd,h=>by
  have hm:m<n:=by omega
  have hr:rs[m]?=some rs[m]:=zA (by omega)
  cases hk:(rs[m]'(by omega)).k.xJ with
  |false =>
   obtain ⟨g1,g2⟩:=bt m _ hr hk
   exact DI.all W3 hlen bt d (m+1) c' pd (by omega) (h.skip hm hr hk g1 g2)
  |true =>
   cases hl:ay.getD m false with
   |false=>exact ⟨m,c',pd,rfl,h,.inr ⟨_,hr,hk,hl⟩⟩
   |true =>
    have Hk:(rs[m]'(by omega)).k=.a:=by
     cases tj:(rs[m]'(by omega)).k with
     |a=>rfl
     |e=>have:=h.e m _ hr tj (zD _);rw[hl]at this;cases this
     |p=>rw[tj]at hk;cases hk
     |r x=>rw[tj]at hk;cases hk
    obtain ⟨p,hp⟩:=wM.1 (h.a m _ hr Hk (zD _) hl)
    obtain ⟨c2,pd2,hw,h2⟩:=h.take W3 hm hp
    obtain ⟨m3,c3,pd3,CO,h3,h4⟩:=DI.all W3 hlen bt d (m+1) c2 pd2 (by omega) h2
    exact ⟨m3,c3,pd3,CO.trans hw,h3,h4⟩
end
theorem BR {P:Program} (hm:P.follows .mixedOrders=true) {R:aQ} (hR:de P R):rY P R:=by
 intro nt own id ops cl c s a Q Q' gj vG hs hW hQ
 simp only[zN]at vG
 obtain ⟨Sa,aaH⟩:=vG
 obtain ⟨S,out,rs,hS0,DK,pi,BI,hQn⟩:=vW cl s [] hW
 rw[zh]at BI
 have hn:cl.length=ops.size:=by
  have key:∀(l:List Oper) (i:Nat) (cl:List aL),dr P nt own ops l i=some cl->cl.length=l.length:=by
   intro l
   induction l with
   |nil=>intro i cl h;simp only[dr,zOi]at h;subst h;rfl
   |cons o r ih =>
    intro i cl h
    simp only[dr]at h
    split at h
    ·rename_i co l' h1 h2
     simp only[zOi]at h;subst h
     simp[ih _ _ h2]
    ·simp at h
  simpa using key _ _ _ gj
 have abp:∀(i:Nat) (o:Oper),ops[i]?=some o->∃co,cl[i]?=some co/\mW P nt (own i) ops o=some co:=by
  have key:∀(l:List Oper) (k:Nat) (cl:List aL),dr P nt own ops l k=some cl->∀(i:Nat) (o:Oper),l[i]?=some o->∃co,cl[i]?=some co/\mW P nt (own (k+i)) ops o=some co:=by
   intro l
   induction l with
   |nil=>intro k cl h i o hi;simp at hi
   |cons x r ih =>
    intro k cl h i o hi
    simp only[dr]at h
    split at h
    ·rename_i co l' h1 h2
     simp only[zOi]at h;subst h
     cases i with
     |zero=>simp at hi;subst hi;exact ⟨co,rfl,h1⟩
     |succ i =>
      obtain ⟨Rc,h3,h4⟩:=ih (k+1) l' h2 i o (by simpa using hi)
      exact ⟨Rc,by simpa using h3,by rw[show k+(i+1)=k+1+i by omega];exact h4⟩
    ·simp at h
  intro i o hi
  obtain ⟨co,h1,h2⟩:=key _ _ _ gj i o (by simpa using hi)
  rw[Nat.zero_add]at h2
  exact ⟨co,h1,h2⟩
 let pre:=yg ops
 let dst:Nat->Option Nat:=fun i=>(cl[i]?).bind (·.dst)
 have BK:∀(j:Nat) (o:Oper),ops[j]?=some o->∀e∈o.after,Region.binds .any e=true->e.on<j:=by
  intro j o ho e he hb
  have hj:=(zE.1 ho).1
  simp only[Iq,zQ,wL]at Sa
  have:=Sa j hj
  simp only[ho,zN,zQ,qB,wh,decide_eq_true_eq]at this
  rcases this.1 e (by simpa using he) with h|h
  ·rw[hb]at h;cases h
  ·exact h
 have pp:∀(j:Nat) (o:Oper),ops[j]?=some o->∀i∈pre.getD j [],i<j/\∃e∈o.after,Region.binds .any e=true/\(e.on=i\/i∈pre.getD e.on []):=by
  intro j o ho i hi
  have hj:=(zE.1 ho).1
  simp only[Iq,zQ,wL]at Sa
  have:=Sa j hj
  simp only[ho,zN,zQ,decide_eq_true_eq,List.any_eq_true,qB,beq_iff_eq]at this
  obtain ⟨h1,e,he,hb,h2⟩:=this.2 i hi
  refine ⟨h1,e,by simpa using he,hb,h2.imp (fun h=>h) (fun h=>by simpa using h)⟩
 have G8:∀(i j:Nat) (x y:aL) (d:Nat),i≠j->cl[i]?=some x->cl[j]?=some y->x.dst=some d->(d∈y.looks\/y.dst=some d)->i∈pre.getD j []\/j∈pre.getD i []:=by
  intro i j x y d yU hx hy hd hl
  simp only[Ca,zQ,wL]at aaH
  have:=aaH i (zB.1 hx).1 j (zB.1 hy).1
  simp only[hx,hy,hd,qB,beq_iff_eq,yU,false_or,wh,qI]at this
  rcases this with (h|h)|h
  ·exfalso
   rcases hl with hl|hl
   ·have h1:=h.1;simp[hl]at h1
   ·have h2:=h.2;simp[hl]at h2
  ·left;simpa using h
  ·right;simpa using h
 have ao:∀i,i<ops.size->∃o co LU g r,ops[i]?=some o/\cl[i]?=some co/\co=⟨o.dst,LU,g⟩/\dH P (own i) o=some LU/\rR ops o.guard=some g/\o.dst.all (· < nt)=true/\rs[i]?=some r/\As R co (S i) (out i) r (S (i+1)):=by
  intro i hi
  obtain ⟨co,h1,h2⟩:=abp i ops[i] (zL hi)
  unfold mW at h2
  split at h2
  ·rename_i LU g hc hg
   split at h2
   ·rename_i hd
    simp only[zOi]at h2
    have hr:i<rs.length:=by omega
    exact ⟨ops[i],co,LU,g,rs[i],zL hi,h1,h2.symm,hc,hg,hd,zA hr,pi i co _ h1 (zA hr)⟩
   ·simp at h2
  ·simp at h2
 have abl:∀i o,ops[i]?=some o->dst i=o.dst:=by
  intro i o ho
  have hi:=(zE.1 ho).1
  obtain ⟨o',co,LU,g,r,h1,h2,h3,_⟩:=ao i hi
  rw[ho,zOi]at h1;subst h1
  simp only[dst,h2,Option.bind_some,h3]
 have abx:∀i,i<=ops.size->(S i).tm=jS (fun _=>true) dst out s.tm i:=by
  intro i
  induction i with
  |zero=>intro _;rw[hS0];rfl
  |succ i ih =>
   intro hi
   obtain ⟨o,co,LU,g,r,h1,h2,h3,h4,h5,h6,h7,h8⟩:=ao i (by omega)
   have hd:=abl i o h1
   have lG:∀(v:AV) (hp:Heap) (nx:Nat),v=out i->((S i).put co.dst v hp nx).tm=jS (fun _=>true) dst out s.tm (i+1):=by
    intro v hp nx hv
    subst hv
    simp only[jS,if_true,hd,h3]
    cases o.dst with
    |none=>simp only[St.put];exact ih (by omega)
    |some d=>simp only[St.put];rw[ih (by omega)]
   rcases h8 with ⟨_,hp,nx,k,_,e,_⟩|⟨_,hv,e,_⟩
   ·rw[e];exact lG _ _ _ rfl
   ·rw[e];exact lG _ _ _ hv.symm
 have aaU:∀i r,rs[i]?=some r->r.hp=(S i).hp/\r.hp'=(S (i+1)).hp/\(r.k.xJ=false->(S (i+1)).hp=(S i).hp/\(S (i+1)).nx=(S i).nx):=by
  intro i r hr
  have hi:i<ops.size:=by have:=(zB.1 hr).1;omega
  obtain ⟨o,co,LU,g,r',h1,h2,h3,h4,h5,h6,h7,h8⟩:=ao i hi
  rw[hr,zOi]at h7;subst h7
  have NJ:∀(d:Option Nat) (v:AV) (hp:Heap) (nx:Nat),((S i).put d v hp nx).hp=hp/\((S i).put d v hp nx).nx=nx:=by intro d v hp nx;cases d<;>exact ⟨rfl,rfl⟩
  rcases h8 with ⟨_,hp,nx,k,hw,e,rfl⟩|⟨_,hv,e,rfl⟩
  ·rw[e]
   refine ⟨rfl,((NJ _ _ _ _).1).symm,fun bt => ?_⟩
   rw[(NJ _ _ _ _).1,(NJ _ _ _ _).2]
   obtain ⟨m1,m2,m3,m4⟩:=FR (P:=P) hR (s':=S i) hw (fun _ _=>rfl)
   cases k with
   |p=>exact ⟨(m1 rfl).1,(m1 rfl).2.1⟩
   |r x=>exact ⟨(m2 x rfl).1,(m2 x rfl).2.1⟩
   |e=>cases bt
   |a=>cases bt
  ·rw[e]
   exact ⟨rfl,((NJ _ _ _ _).1).symm,fun _=>⟨(NJ _ _ _ _).1,(NJ _ _ _ _).2⟩⟩
 have BJ:∀x d i,i+d<=ops.size->(∀j r,i<=j->j<i+d->rs[j]?=some r->r.k.xJ=true->r.hp x=r.hp' x)->(S (i+d)).hp x=(S i).hp x:=by
  intro x d
  induction d with
  |zero=>intro i _ _;rfl
  |succ d ih =>
   intro i hle sV
   have h1:=ih i (by omega) (fun j r h3 h4=>sV j r h3 (by omega))
   have az:i+d<rs.length:=by omega
   obtain ⟨g1,g2,h3⟩:=aaU (i+d) _ (zA az)
   cases hk:(rs[i+d]).k.xJ with
   |true =>
    have:=sV (i+d) _ (by omega) (by omega) (zA az) hk
    rw[g1,g2]at this
    exact this.symm.trans h1
   |false =>
    obtain ⟨h4,_⟩:=h3 hk
    rw[show i+(d+1)=i+d+1 by omega,h4];exact h1
 have ad6:∀(ay:Array Bool),(∀(j:Nat) (o:Oper),ops[j]?=some o->ay.getD j false=true->∀e∈o.after,Region.binds .any e=true->ay.getD e.on false=true) ->
   ∀(b j:Nat),j<b->j<ops.size->ay.getD j false=true->∀i∈pre.getD j [],ay.getD i false=true:=by
  intro ay N2 b
  induction b with
  |zero=>intro j h;omega
  |succ b ih =>
   intro j hjb hj hD i hi
   have ho:=zL hj
   obtain ⟨_,e,he,hb,h2⟩:=pp j _ ho i hi
   have h3:=N2 j _ ho hD e he hb
   have h4:=BK j _ ho e he hb
   rcases h2 with rfl|h2
   ·exact h3
   ·exact ih e.on (by omega) (by omega) h3 i h2
 have afM:∀(ay:Array Bool),ay.size=ops.size->Region.ready .any ops ay=[]->∀(b j:Nat),j<b->j<ops.size->ay.getD j false=true:=by
  intro ay T7 hr b
  induction b with
  |zero=>intro j h;omega
  |succ b ih =>
   intro j hjb hj
   have ho:=zL hj
   cases hD:ay.getD j false with
   |true=>rfl
   |false =>
    have:j∈Region.ready .any ops ay:=mem_ready.2 ⟨by rw[C4 (by omega)];exact hD,_,ho,fun e he hb=>ih e.on (by have:=BK j _ ho e he hb;omega) (by have:=BK j _ ho e he hb;omega)⟩
    rw[hr]at this;cases this
 have W3:∀B,c.F B->B<c.w.heap.size:=hs.rel.F
 have Ul:∀{ay:Array Bool} {c':Cx} {a':Act} {m:Nat} {pd:Nat->Option Place},DI c S rs ops.size dst out s.tm nt ay c' a' m pd->∃m' rU vp,rU.w=c'.w/\DI c S rs ops.size dst out s.tm nt ay rU a' m' vp/\(m'=ops.size\/∃r,rs[m']?=some r/\r.k.xJ=true/\ay.getD m' false=false) :=
  fun {ay c' a' m pd} h=>DI.all W3 (by omega) (fun i r hr hk=>(aaU i r hr).2.2 hk) _ m c' pd rfl h
 have fin:∀(ay:Array Bool) (c':Cx) (a':Act) (m:Nat) (pd:Nat->Option Place),(∀j,j<ops.size->ay.getD j false=true)->DI c S rs ops.size dst out s.tm nt ay c' a' m pd->Q' .normal a' c'.w:=by
  intro ay c0 a' m0 pd0 jc h0
  obtain ⟨m,c',pd,hw,h,EQ⟩:=Ul h0
  have hm:m=ops.size:=by
   rcases EQ with h1|⟨r,h1,h2,h3⟩
   ·exact h1
   ·have az:=(zB.1 h1).1
    rw[jc m (by omega)]at h3;cases h3
  subst hm
  have Sc:∀j,pd j=none:=by
   intro j
   cases hj:pd j with
   |none=>rfl
   |some p =>
    obtain ⟨g1,⟨r,g2,_⟩,_⟩:=h.Cv j p hj
    have:=(zB.1 g2).1
    omega
  have hF:c'.F=c.F:=by
   have hg:=h.ext.G
   have hf:c'.F.F=c.F.F:=by
    funext B
    apply propext
    rw[h.F B]
    constructor
    ·rintro (h1|⟨j,p,h1,_⟩)
     ·exact h1
     ·rw[Sc]at h1;cases h1
    ·exact .inl
   cases hA:c'.F with
   |mk F1 G1 =>
    cases hB:c.F with
    |mk F2 G2=>rw[hA,hB]at hf hg;simp only at hf hg;rw[hf,hg]
  rw[<-hw]
  refine hQ (S ops.size) c' a' (by rw[<-hn];exact hQn) ⟨?_,h.sz,h.df,h.hp,h.rel⟩ ⟨hF,h.ext.ι,h.ext.size,h.ext.ah,h.ext.os,h.ext.tape,h.ext.output⟩
  rw[abx ops.size (zD _)]
  have ho:eQ pd out=out:=funext fun j=>by simp only[eQ,Sc]
  have:jS (fun i=>ay.getD i false) dst (eQ pd out) s.tm ops.size=jS (fun _=>true) dst out s.tm ops.size:=by rw[ho];exact funext fun t=>kV _ (fun j hj _=>jc j hj)
  rw[<-this];exact h.tm
 have main:∀(jf:Nat) (ay:Array Bool) (c':Cx) (a':Act) (m:Nat) (pd:Nat->Option Place),ay.size=ops.size->xp (fun i=>ay.getD i false) ops.size<=jf ->
   (∀(j:Nat) (o:Oper),ops[j]?=some o->ay.getD j false=true->∀e∈o.after,Region.binds .any e=true->ay.getD e.on false=true) ->
   DI c S rs ops.size dst out s.tm nt ay c' a' m pd->wpAny P .any ops Q' jf ay a' c'.w:=by
  intro jf
  induction jf with
  |zero =>
   intro ay c' a' m pd T7 afe N2 iN
   have jc:∀j,j<ops.size->ay.getD j false=true:=Fz ops.size (by omega)
   refine ⟨List.eq_nil_iff_forall_not_mem.2 fun j hj => ?_,fin ay c' a' m pd jc iN⟩
   obtain ⟨h1,o,ho,_⟩:=mem_ready.1 hj
   have hj:=(zE.1 ho).1
   rw[C4 (by omega),jc j hj]at h1;cases h1
  |succ jf ih =>
   intro ay c0 a' m0 pd0 T7 afe N2 abm
   refine ⟨fun hr=>fin ay c0 a' m0 pd0 (fun j hj=>afM ay T7 hr (j+1) j (by omega) hj) abm,?_⟩
   intro i hir
   obtain ⟨m,c',pd,hcw,iN,EQ⟩:=Ul abm
   rw[<-hcw]
   obtain ⟨Hl,o,ho,N7⟩:=mem_ready.1 hir
   have hi:=(zE.1 ho).1
   have iM:i<ay.size:=by omega
   rw[C4 iM]at Hl
   have gj:=ad6 ay N2
   have hpi:∀k∈pre.getD i [],ay.getD k false=true:=by
    intro k hk
    obtain ⟨_,e,he,hb,h2⟩:=pp i o ho k hk
    have h3:=N7 e he hb
    rcases h2 with rfl|h2
    ·exact h3
    ·have:=BK i o ho e he hb
     exact gj (e.on+1) e.on (by omega) (by omega) h3 k h2
   have hip:∀j,j<ops.size->i∈pre.getD j []->ay.getD j false=false:=by
    intro j hj DM
    cases hD:ay.getD j false with
    |false=>rfl
    |true=>rw[gj (j+1) j (by omega) hj hD i DM]at Hl;cases Hl
   obtain ⟨o',co,LU,g,r,h1,h2,h3,h4,h5,h6,h7,h8⟩:=ao i hi
   rw[ho,zOi]at h1;subst h1
   have W1:=abl i o ho
   have N1:∀j,j<ops.size->∃y,cl[j]?=some y/\dst j=y.dst:=by
    intro j hj
    have:j<cl.length:=by omega
    exact ⟨cl[j],zA this,by simp[dst,zA this]⟩
   have hnp:∀j p,pd j=some p->j∉pre.getD i []:=by
    intro j p hp hj
    obtain ⟨g1,⟨rj,g2,g3⟩,g4,_⟩:=iN.Cv j p hp
    have hjn:=(zB.1 g2).1
    rcases EQ with hm|⟨rm,k1,k2,k3⟩
    ·omega
    ·have bt:m≠j:=by rintro rfl;rw[g4]at k3;cases k3
     have:=HV BI g2 g3 hj (by omega) k1 k2
     rw[hpi m this]at k3;cases k3
   have aaW:pd i=none:=by
    cases hp:pd i with
    |none=>rfl
    |some p=>have:=(iN.Cv i p hp).2.2.1;rw[Hl]at this;cases this
   have T8:∀t∈co.looks,(S i).tm t=jS (fun i=>ay.getD i false) dst (eQ pd out) s.tm ops.size t:=by
    intro t Mb
    have e1:(S i).tm t=jS (fun i=>ay.getD i false) dst out s.tm ops.size t:=by
     rw[abx i (by omega),<-A4 i ops.size (by omega)]
     refine kV _ (fun j hj hd => ?_)
     obtain ⟨y,hy,hyd⟩:=N1 j hj
     by_cases oG:j=i
     ·subst oG;rw[Hl];simp
     ·rw[hyd]at hd
      rcases G8 j i y co t oG hy h2 hd (.inl Mb) with h|h
      ·rw[hpi j h];simp;exact (pp i o ho j h).1
      ·rw[hip j hj h];simp
       have:=(pp j _ (zL hj) i h).1
       omega
    rw[e1]
    refine B9 _ fun j hj hD hd => ?_
    simp only[eQ]
    cases hp:pd j with
    |none=>rfl
    |some p =>
     exfalso
     obtain ⟨y,hy,hyd⟩:=N1 j hj
     have oG:j≠i:=by rintro rfl;rw[Hl]at hD;cases hD
     rw[hyd]at hd
     rcases G8 j i y co t oG hy h2 hd (.inl Mb) with h|h
     ·exact hnp j p hp h
     ·rw[hip j hj h]at hD;cases hD
   have Hw:∀j,(ay.setIfInBounds i true).getD j false=if j=i then true else ay.getD j false:=fun j=>Oi iM
   have gF:∀vp:Nat->Option Place,(∀j,j≠i->vp j=pd j)->∀j,j≠i->eQ vp out j=eQ pd out j:=fun vp h j hj=>by simp only[eQ,h j hj]
   have R2:∀(vp:Nat->Option Place) (hp:Heap) (nx:Nat) (s2:St),(∀j,j≠i->vp j=pd j)->s2.tm=jS (fun i=>ay.getD i false) dst (eQ pd out) s.tm ops.size->(s2.put o.dst (eQ vp out i) hp nx).tm=jS (fun j=>(ay.setIfInBounds i true).getD j false) dst (eQ vp out) s.tm ops.size:=by
    intro vp hp nx s2 AM hs2
    have ll:∀t,jS (fun i=>ay.getD i false) dst (eQ pd out) s.tm ops.size t=jS (fun i=>ay.getD i false) dst (eQ vp out) s.tm ops.size t:=fun t=>B9 _ fun j _ hD _=>(gF vp AM j (by rintro rfl;rw[Hl]at hD;cases hD)).symm
    cases hd:o.dst with
    |none =>
     simp only[St.put,hs2]
     funext t
     rw[ll t]
     refine kV _ (fun j hj Ug => ?_)
     show _=(ay.setIfInBounds i true).getD j false
     rw[Hw j,if_neg]
     rintro rfl;rw[W1,hd]at Ug;cases Ug
    |some d =>
     simp only[St.put,hs2]
     funext t
     unfold jY
     split
     ·rename_i htd;subst htd
      refine (DX (i:=i) ?_ (by rw[W1,hd]) _ hi ?_).symm
      ·show (ay.setIfInBounds i true).getD i false=true
       rw[Hw];simp
      ·intro j h9 iC Ug
       show (ay.setIfInBounds i true).getD j false=false
       rw[Hw j,if_neg (by omega)]
       obtain ⟨y,hy,hyd⟩:=N1 j iC
       rw[hyd]at Ug
       rcases G8 j i y co t (by omega) hy h2 Ug (.inr (by rw[h3];exact hd)) with h|h
       ·have:=(pp i o ho j h).1;omega
       ·exact hip j iC h
     ·rename_i htd
      rw[ll t]
      refine kV _ (fun j hj Ug => ?_)
      show _=(ay.setIfInBounds i true).getD j false
      rw[Hw j,if_neg]
      rintro rfl
      rw[W1,hd]at Ug
      exact htd (Option.some.inj Ug).symm
   have So:∀(j:Nat) (o:Oper),ops[j]?=some o->(ay.setIfInBounds i true).getD j false=true->∀e∈o.after,Region.binds .any e=true->(ay.setIfInBounds i true).getD e.on false=true:=by
    intro j o2 ho2 hj e he hb
    rw[Hw]at hj
    split at hj
    ·rename_i oG;subst oG
     rw[ho,zOi]at ho2;subst ho2
     exact getD_set_true (N7 e he hb)
    ·exact getD_set_true (N2 j o2 ho2 hj e he hb)
   have IV:xp (fun j=>(ay.setIfInBounds i true).getD j false) ops.size<=jf:=by
    have:=Qf (D:=fun i=>ay.getD i false) (D':=fun j=>(ay.setIfInBounds i true).getD j false) (fun j h=>getD_set_true h) (i:=i) Hl (by show (ay.setIfInBounds i true).getD i false=true;rw[Hw];simp) ops.size hi
    omega
   have Sg:(ay.setIfInBounds i true).size=ops.size:=by simpa using T7
   have hsr:SR c' ⟨jS (fun i=>ay.getD i false) dst (eQ pd out) s.tm ops.size,(S m).hp,(S m).nx⟩ nt a':=⟨iN.tm,iN.sz,iN.df,iN.hp,iN.rel⟩
   have Ue:∀d w,g=some (d,w)->(S i).tm d=jS (fun i=>ay.getD i false) dst (eQ pd out) s.tm ops.size d:=by
    intro d w hg
    refine T8 d ?_
    rw[h3];simp[aL.looks,hg]
   have TP:∀t∈LU.ot,(S i).tm t=jS (fun i=>ay.getD i false) dst (eQ pd out) s.tm ops.size t:=by
    intro t h
    refine T8 t ?_
    rw[h3];simp[aL.looks,h]
   have Hg:eQ pd out i=out i:=by simp only[eQ,aaW]
   have hee:∀j rj,j<ops.size->rs[j]?=some rj->¬gz r rj->¬gz rj r->j≠i->((ay.getD j false=true↔j<i)):=by
    intro j rj hj QS EO BE oG
    rcases Nat.lt_or_gt_of_ne oG with h|h
    ·rcases rT BI h QS h7 with h|h
     ·exact ⟨fun _=>by omega,fun _=>hpi j h⟩
     ·exact absurd h BE
    ·rcases rT BI h h7 QS with h|h
     ·rw[hip j hj h];simp;omega
     ·exact absurd h EO
   have next:∀(rU:Cx) (a2:Act) (m2:Nat) (u:Value),Ext c' rU->bg rU (S m2).nx->rU.hp=(S m2).hp->fJ rU (jS (fun j=>(ay.setIfInBounds i true).getD j false) dst (eQ pd out) s.tm ops.size) a2->a2.tmps.size=nt->a2.defers=rU.F.G->m2<=ops.size ->
     (r.k.xJ=false/\m2=m\/r.k=.e/\m=i/\m2=i+1)->DI c S rs ops.size dst out s.tm nt (ay.setIfInBounds i true) rU a2 m2 pd:=by
    intro rU a2 m2 u he DK ae2 aeu Wg ae8 DM kg
    have F6:m<=m2/\∀j rj,rs[j]?=some rj->rj.k.xJ=true->j<m2->j<m\/j=i:=by
     rcases kg with ⟨_,rfl⟩|⟨_,rfl,rfl⟩
     ·exact ⟨zD _,fun j rj _ _ h=>.inl h⟩
     ·exact ⟨by omega,fun j rj _ _ h=>by omega⟩
    refine ⟨DM,fun j rj g1 g2 g3 => ?_,fun j rj g1 g2 g3 => ?_,fun j rj g1 g2 g3 g4 => ?_,fun j p g1 => ?_,iN.inj,fun B=>by rw[he.F];exact iN.F B,ae2,DK,aeu,Wg,ae8,iN.ext.trans he⟩
    ·rw[Hw]
     split
     ·rfl
     ·rename_i oG
      rcases F6.2 j rj g1 g2 g3 with h|h
      ·exact iN.done j rj g1 g2 h
      ·exact absurd h oG
    ·rw[Hw,if_neg]
     ·exact iN.e j rj g1 g2 (by omega)
     ·rintro rfl
      rw[h7,zOi]at g1;subst g1
      rcases kg with ⟨h,_⟩|⟨_,_,h⟩
      ·rw[g2]at h;cases h
      ·omega
    ·rw[Hw,if_neg]at g4
     ·exact iN.a j rj g1 g2 (by omega) g4
     ·rintro rfl
      rw[h7,zOi]at g1;subst g1
      rcases kg with ⟨h,_⟩|⟨h,_⟩
      ·rw[g2]at h;cases h
      ·rw[g2]at h;cases h
    ·obtain ⟨k1,k2,k3,k4,k5⟩:=iN.Cv j p g1
     have oG:j≠i:=by rintro rfl;rw[Hl]at k3;cases k3
     refine ⟨?_,k2,by rw[Hw,if_neg oG];exact k3,k4.to ?_ (fun x u h=>h.mono he),by rw[he.F];exact k5⟩
     ·rcases kg with ⟨_,rfl⟩|⟨_,h1,rfl⟩
      ·exact k1
      ·omega
     ·exact (he.ah _ (iN.rel.F _ k5) (iN.rel.It k5)).2
   unfold wpOp
   rw[ho]
   simp only[]
   rcases h8 with ⟨hw,hp,nx,k,Wa,vL,NE⟩|⟨hw,hv,vL,NE⟩
   ·
    rw[h3]at hw Wa vL
    simp only at hw Wa vL
    have mq:=hw
    rw[sh (tm':=jS (fun i=>ay.getD i false) dst (eQ pd out) s.tm ops.size) Ue]at mq
    rw[if_pos (k9 h5 mq iN.tm)]
    refine .inl ?_
    obtain ⟨m1,m2,m3,m4⟩:=FR hR (s':=⟨jS (fun i=>ay.getD i false) dst (eQ pd out) s.tm ops.size,(S m).hp,(S m).nx⟩) Wa TP
    have NJ:∀(d:Option Nat) (v:AV) (hp:Heap) (nx:Nat),((S i).put d v hp nx).hp=hp/\((S i).put d v hp nx).nx=nx:=by intro d v hp nx;cases d<;>exact ⟨rfl,rfl⟩
    have hmi:r.k.xJ=true->m<=i:=by
     intro Yz
     rcases zj i m with h|h
     ·rw[iN.done i r h7 Yz h]at Hl;cases Hl
     ·exact h
    have quiet:∀k2,r.k.xJ=false->ey R LU ⟨jS (fun i=>ay.getD i false) dst (eQ pd out) s.tm ops.size,(S m).hp,(S m).nx⟩ (xx (out i) (S m).hp (S m).nx k2)->o.wp P a' c'.w (wpAny P .any ops Q' jf (ay.setIfInBounds i true)) Q':=by
     intro k2 bt Yx
     refine va hR h4 hsr h6 Yx ?_
     rintro v hp' nx' k' rU u ⟨rfl,rfl,rfl,rfl⟩ _ he hh NC me
     have yH:=hsr.put h6 he hh NC me
     refine ih _ rU _ m pd Sg IV So (next rU _ m u he NC hh ?_ yH.sz yH.df iN.Yl (.inl ⟨bt,rfl⟩))
     rw[<-R2 pd (S m).hp (S m).nx ⟨jS (fun i=>ay.getD i false) dst (eQ pd out) s.tm ops.size,(S m).hp,(S m).nx⟩ (fun _ _=>rfl) rfl,Hg]
     exact yH.tm
    cases k with
    |p=>exact quiet .p (by rw[NE];rfl) (m1 rfl).2.2
    |r x =>
     refine quiet (.r x) (by rw[NE];rfl) ((m2 x rfl).2.2 ?_)
     have hx:∀j rj,j<ops.size->rs[j]?=some rj->rj.k.xJ=true->(j<i/\m<=j\/i<=j/\j<m)->rj.hp x=rj.hp' x:=by
      intro j rj hj QS Hi kg
      have oG:j≠i:=by
       rintro rfl
       rw[h7,zOi]at QS;subst QS
       rw[NE]at Hi;cases Hi
      by_cases E3:rj.hp x=rj.hp' x
      ·exact E3
      ·exfalso
       have EO:¬gz r rj:=by
        rw[NE];simp only[gz]
        cases tj:rj.k with
        |p=>rw[tj]at Hi;cases Hi
        |r y=>rw[tj]at Hi;cases Hi
        |e=>exact E3
        |a=>exact E3
       have BE:¬gz rj r:=by
        rw[NE];simp only[gz]
        cases tj:rj.k with
        |p=>rw[tj]at Hi;cases Hi
        |r y=>rw[tj]at Hi;cases Hi
        |e=>exact E3
        |a=>exact E3
       have:=hee j rj hj QS EO BE oG
       rcases kg with ⟨h1,h2⟩|⟨h1,h2⟩
       ·have hl:=this.2 h1
        cases tj:rj.k with
        |p=>rw[tj]at Hi;cases Hi
        |r y=>rw[tj]at Hi;cases Hi
        |e=>rw[iN.e j rj QS tj h2]at hl;cases hl
        |a =>
         obtain ⟨p,hp⟩:=wM.1 (iN.a j rj QS tj h2 hl)
         rcases rT BI h1 QS h7 with h|h
         ·exact hnp j p hp h
         ·exact BE h
       ·have:=this.1 (iN.done j rj QS Hi h2)
        omega
     rcases Nat.le_total i m with hle|hle
     ·have:=BJ x (m-i) i (by have:=iN.Yl;omega) (fun j rj g1 g2 g3 g4=>hx j rj (by have:=iN.Yl;omega) g3 g4 (.inr ⟨g1,by omega⟩))
      rw[show i+(m-i)=m by omega]at this
      exact this.symm
     ·have:=BJ x (i-m) m (by omega) (fun j rj g1 g2 g3 g4=>hx j rj (by omega) g3 g4 (.inl ⟨by omega,g1⟩))
      rw[show m+(i-m)=i by omega]at this
      exact this
    |e =>
     have Yz:r.k=.e:=by rw[NE]
     have hle:=hmi (by rw[Yz];rfl)
     have WI:m=i:=by
      rcases zj m i with h|h
      ·exfalso
       rcases EQ with h1|⟨rm,k1,k2,k3⟩
       ·omega
       ·have hc:¬gz rm r:=by
         cases tj:rm.k with
         |p=>rw[tj]at k2;cases k2
         |r y=>rw[tj]at k2;cases k2
         |e=>simp only[gz,tj,Yz];exact not_false
         |a=>simp only[gz,tj,Yz];exact not_false
        rcases rT BI h k1 h7 with h9|h9
        ·rw[hpi m h9]at k3;cases k3
        ·exact hc h9
      ·omega
     have e1:(S (i+1)).hp=hp:=by rw[vL];exact (NJ _ _ _ _).1
     have e2:(S (i+1)).nx=nx:=by rw[vL];exact (NJ _ _ _ _).2
     have Yx:=m3 rfl (by rw[WI]) (by rw[WI])
     refine va hR h4 hsr h6 Yx ?_
     rintro v hp' nx' k' rU u ⟨rfl,rfl,rfl,rfl⟩ _ he hh NC me
     have yH:=hsr.put h6 he hh NC me
     refine ih _ rU _ (i+1) pd Sg IV So (next rU _ (i+1) u he (by rw[e2];exact NC) (by rw[e1];exact hh) ?_ yH.sz yH.df (by omega) (.inr ⟨Yz,WI,rfl⟩))
     rw[<-R2 pd hp' nx' ⟨jS (fun i=>ay.getD i false) dst (eQ pd out) s.tm ops.size,(S m).hp,(S m).nx⟩ (fun _ _=>rfl) rfl,Hg]
     exact yH.tm
    |a =>
     have He:r.k=.a:=by rw[NE]
     have hle:=hmi (by rw[He];rfl)
     obtain ⟨Hj,mm,xj,g1,g2,g3,g4⟩:=m4 rfl
     have e1:(S (i+1)).hp=hp:=by rw[vL];exact (NJ _ _ _ _).1
     have e2:(S (i+1)).nx=nx:=by rw[vL];exact (NJ _ _ _ _).2
     have g4':fb (jS (fun i=>ay.getD i false) dst (eQ pd out) s.tm ops.size) c'.hp (S m).nx LU=some (vA mm (S m).nx,ab c'.hp (S m).nx (some xj),(S m).nx+1):=by rw[iN.hp];exact g4
     obtain ⟨ob,p,Ln,bR,ae5⟩:=HA h4 Hj g4' iN.tm
     have EW:Grow c'.w { c'.w with heap:=c'.w.heap.push ob }:=Grow.push _ _
     let N:=c'.w.heap.size
     have hFi:∀B,(c'.F B\/B=N)↔c'.F B\/(c'.w.heap.size<=B/\B<({ c'.w with heap:=c'.w.heap.push ob }:World).heap.size):=by
      intro B
      have:({ c'.w with heap:=c'.w.heap.push ob }:World).heap.size=c'.w.heap.size+1:=by simp
      rw[this]
      constructor
      ·rintro (h|h)
       ·exact .inl h
       ·exact .inr (by show _;omega)
      ·rintro (h|h)
       ·exact .inl h
       ·exact .inr (by show B=c'.w.heap.size;omega)
     obtain ⟨aaT,mv⟩:=iN.rel.more EW (F':=fun B=>c'.F B\/B=N) hFi
     let vp:Nat->Option Place:=fun j=>if j=i then some p else pd j
     have AM:∀j,j≠i->vp j=pd j:=fun j hj=>by simp only[vp,if_neg hj]
     have Hf:vp i=some p:=by simp only[vp,if_true]
     have value:∀{u:Value} {w':World} {K':Act->World->Prop},iX P o a' c'.w u w'->K' (a'.put o.dst u) w'->o.wp P a' c'.w K' Q':=by
      intro u w' K' hr hk
      unfold Oper.wp
      rcases hr with hr|⟨hr,rfl⟩
      ·rw[hr];exact hk
      ·rw[hr];exact hk
     refine value bR ?_
     have afm:c.w.heap.size<=N:=iN.ext.size
     refine ih _ ⟨⟨fun B=>c'.F B\/B=N,c'.F.G⟩,c'.ι,c'.hp,{ c'.w with heap:=c'.w.heap.push ob }⟩ _ m vp Sg IV So ?_
     have aa5:fJ ⟨⟨fun B=>c'.F B\/B=N,c'.F.G⟩,c'.ι,c'.hp,{ c'.w with heap:=c'.w.heap.push ob }⟩ (jS (fun j=>(ay.setIfInBounds i true).getD j false) dst (eQ vp out) s.tm ops.size) (a'.put o.dst (uP p)):=by
      have BA:fJ ⟨⟨fun B=>c'.F B\/B=N,c'.F.G⟩,c'.ι,c'.hp,{ c'.w with heap:=c'.w.heap.push ob }⟩ (jS (fun i=>ay.getD i false) dst (eQ pd out) s.tm ops.size) a':=fun t=>mv _ _ (iN.tm t)
      have:=BA.put (v:=eQ vp out i) (u:=uP p) (by simp only[eQ,Hf];exact .v _) (d:=o.dst) (by rw[iN.sz];exact h6) ⟨jS (fun i=>ay.getD i false) dst (eQ pd out) s.tm ops.size,(S m).hp,(S m).nx⟩ rfl (S m).hp (S m).nx
      rw[R2 vp (S m).hp (S m).nx ⟨jS (fun i=>ay.getD i false) dst (eQ pd out) s.tm ops.size,(S m).hp,(S m).nx⟩ AM rfl]at this
      exact this
     refine ⟨iN.Yl,fun j rj k1 k2 k3 => ?_,fun j rj k1 k2 k3 => ?_,fun j rj k1 k2 k3 k4 => ?_,fun j q k1 => ?_,fun j j' q q' k1 k2 k3 => ?_,fun B => ?_,iN.hp,aaT,aa5,by rw[El];exact iN.sz,by rw[put_defers];exact iN.df,?_⟩
     ·rw[Hw]
      split
      ·rfl
      ·exact iN.done j rj k1 k2 k3
     ·rw[Hw,if_neg]
      ·exact iN.e j rj k1 k2 k3
      ·rintro rfl
       rw[h7,zOi]at k1;subst k1
       rw[He]at k2;cases k2
     ·by_cases oG:j=i
      ·subst oG;rw[Hf];rfl
      ·rw[Hw,if_neg oG]at k4
       rw[AM j oG]
       exact iN.a j rj k1 k2 k3 k4
     ·by_cases oG:j=i
      ·subst oG
       rw[Hf,zOi]at k1;subst k1
       refine ⟨hle,⟨r,h7,He⟩,by rw[Hw,if_pos rfl],⟨⟨mm,xj,g1,by rw[e1,g2],by rw[e2,g3],ob,by rw[Ln];simp,ae5.move mv⟩,by rw[Ln];exact afm⟩,.inr Ln⟩
      ·rw[AM j oG]at k1
       obtain ⟨q1,q2,q3,q4,q5⟩:=iN.Cv j q k1
       refine ⟨q1,q2,by rw[Hw,if_neg oG];exact q3,q4.to ?_ mv,.inl q5⟩
       exact EW.ah _ (iN.rel.F _ q5)
     ·have hB:∀j q,j≠i->vp j=some q->q.B≠N:=by
       intro j q hj hq
       rw[AM j hj]at hq
       have:=iN.rel.F _ (iN.Cv j q hq).2.2.2.2
       show q.B≠c'.w.heap.size
       omega
      by_cases e3:j=i
      ·by_cases e4:j'=i
       ·rw[e3,e4]
       ·exfalso
        rw[e3,Hf,zOi]at k1;subst k1
        exact hB j' q' e4 k2 (k3.symm.trans Ln)
      ·by_cases e4:j'=i
       ·exfalso
        rw[e4,Hf,zOi]at k2;subst k2
        exact hB j q e3 k1 (k3.trans Ln)
       ·rw[AM j e3]at k1;rw[AM j' e4]at k2
        exact iN.inj j j' q q' k1 k2 k3
     ·show (c'.F B\/B=N)↔_
      rw[iN.F B]
      constructor
      ·rintro ((h|⟨j,q,h,hh⟩)|h)
       ·exact .inl h
       ·have oG:j≠i:=by rintro rfl;rw[aaW]at h;cases h
        exact .inr ⟨j,q,by rw[AM j oG];exact h,hh⟩
       ·exact .inr ⟨i,p,Hf,Ln.trans h.symm⟩
      ·rintro (h|⟨j,q,h,hh⟩)
       ·exact .inl (.inl h)
       ·by_cases oG:j=i
        ·subst oG
         rw[Hf,zOi]at h;subst h
         exact .inr (hh.symm.trans Ln)
        ·rw[AM j oG]at h
         exact .inl (.inr ⟨j,q,h,hh⟩)
     ·refine ⟨iN.ext.ι,wF iN.ext.size EW.size,fun B hB sV => ?_,iN.ext.os,iN.ext.tape,iN.ext.output,iN.ext.G⟩
      obtain ⟨q1,q2⟩:=iN.ext.ah B hB sV
      exact ⟨q1,(EW.ah B (zU hB iN.ext.size)).trans q2⟩
   ·
    rw[h3]at hw
    simp only at hw
    have mq:=hw
    rw[sh (tm':=jS (fun i=>ay.getD i false) dst (eQ pd out) s.tm ops.size) Ue]at mq
    have Yv:=k9 h5 mq iN.tm
    rw[if_neg (by rw[Yv];simp)]
    have yH:=hsr.put h6 (Ext.refl c') iN.hp iN.rel (v:=out i) (u:=undef) (by rw[hv];exact .v undef)
    refine ih _ c' _ m pd Sg IV So (next c' _ m undef (Ext.refl c') iN.rel iN.hp ?_ yH.sz yH.df iN.Yl (.inl ⟨by rw[NE];rfl,rfl⟩))
    rw[<-R2 pd (S m).hp (S m).nx ⟨jS (fun i=>ay.getD i false) dst (eQ pd out) s.tm ops.size,(S m).hp,(S m).nx⟩ (fun _ _=>rfl) rfl,Hg]
    exact yH.tm
 refine wp_region_any hm ?_
 have EW:Grow c.w { c.w with drawn:=c.w.drawn+1 }:=⟨zD _,fun _ _=>rfl,rfl,rfl,rfl⟩
 have he:=Ext.tE (c:=c) (nx:=s.nx) EW
 have hD0:∀j,(Array.replicate ops.size false).getD j false=false:=by intro j;simp[Array.getD]
 refine main ops.size (Array.replicate ops.size false) { c with w:={ c.w with drawn:=c.w.drawn+1 } } a 0 (fun _=>none) (by simp) ?_ ?_ ⟨by omega,fun j r _ _ h=>by omega,fun j r _ _ _=>hD0 j,fun j r _ _ _ h=>(by rw[hD0]at h;cases h),fun j p h=>(by cases h),fun j j' p p' h=>(by cases h),fun B => ?_,by rw[hS0];exact hs.hp,by rw[hS0];exact hs.rel.grow EW,?_,hs.sz,hs.df,⟨he.ι,he.size,he.ah,he.os,he.tape,he.output,congrArg Rl.G he.F⟩⟩
 ·have:∀k,xp (fun i=>(Array.replicate ops.size false).getD i false) k<=k:=by
   intro k
   induction k with
   |zero=>exact zD _
   |succ k ih=>simp only[xp];split<;>omega
  exact this _
 ·intro j o ho h;rw[hD0]at h;cases h
 ·constructor
  ·exact .inl
  ·rintro (h|⟨_,_,h,_⟩)
   ·exact h
   ·cases h
 ·have:jS (fun i=>(Array.replicate ops.size false).getD i false) dst (eQ (fun _=>none) out) s.tm ops.size=s.tm:=by
   have:∀k,jS (fun i=>(Array.replicate ops.size false).getD i false) dst (eQ (fun _=>none) out) s.tm k=s.tm:=by
    intro k
    induction k with
    |zero=>rfl
    |succ k ih=>simp only[jS];rw[if_neg (by rw[hD0];simp)];exact ih
   exact this _
  rw[this]
  exact hs.tm.mono he
def Plain (sz:Nat) (spare:bN):Prop:=∀l∈spare,l.length=sz/\∀x∈l,∃u,x=AV.v u
def LiftRel (E0:Env) (ok:Nat->Bool):aQ:=fun f args hp nx v hp' nx' k =>
 ok f=true/\k=.e/\nx'=nx+1/\∃(r sz:Nat) (es es':bN) (rest:List AV),args=.sl r sz 0 es.length none::rest/\hp r=some es/\v=.sl nx sz 0 es'.length none/\hp'=ab (ab hp r none) nx (some es') /\
  ∀spare:bN,Plain sz spare->∃aT ar k2 q c2,aY E0 f (.sl r sz 0 es.length (some (es.length+spare.length))::rest) (ab hp r (some (es++spare))) nx (.sl q sz 0 es'.length c2) aT ar k2 /\
   (∃sp,aT q=some (es'++sp))/\((q=r/\ar=nx/\c2=some (es.length+spare.length))\/(q=nx/\ar=nx+1/\c2=none))/\∀x,x<nx->x≠r->aT x=hp x
theorem GZ {P:Program} {E0:Env} (hE:Av P E0) (hm:P.follows .mixedOrders=true) (ok:Nat->Bool):de P (LiftRel E0 ok):=by
 refine ⟨fun f args hp nx v hp' nx' k h=>.inr h.2.1,(fun f args hp nx v hp' nx' h=>nomatch h.2.1),?_⟩
 rintro f args hp nx v hp' nx' k ⟨_,rfl,rfl,r,sz,es,es',rest,rfl,hr,rfl,rfl,key⟩ c cargs hc bP bz
 subst hc
 obtain ⟨u0,BW,rfl⟩:∃u0 BW,cargs=⟨u0::BW⟩:=by
  obtain ⟨q⟩:=cargs
  match q,bz.1 with
  |u0::BW,_=>exact ⟨u0,BW,rfl⟩
 have h0:=bz.2 0 _ u0 rfl rfl
 have IN:r<nx:=bP.uT r (by simp[hr])
 cases h0 with
 | @sl _ _ _ _ n _ p a hι hs ha hl dq hN hE0 F6 =>
  obtain ⟨hF,cs,e,fz,hb,ew,CU,aX⟩:=bP.cells hr hι F6
  have hEn:=hE0 rfl
  rw[Nat.zero_add]at hEn
  let spare:bN:=(List.range (n-es.length)).map fun k=>(List.range sz).map fun j=>AV.v ((cs[p.O+(es.length+k)*sz+j]?).getD undef)
  have BB:spare.length=n-es.length:=by simp[spare]
  have Lm:Plain sz spare:=by
   intro l hl
   obtain ⟨k,_,rfl⟩:=wk.1 hl
   refine ⟨by simp,fun x hx => ?_⟩
   obtain ⟨j,_,rfl⟩:=wk.1 hx
   exact ⟨_,rfl⟩
  obtain ⟨aT,ar,k2,q,c2,afk,⟨sp,hq⟩,kg,yV⟩:=key spare Lm
  have Wp:∀(i:Nat) (l:List AV),(es++spare)[i]?=some l->l.length=p.sz/\∀(j:Nat) (av:AV),l[j]?=some av->∃u,cs[p.O+i*p.sz+j]?=some u/\aC c av u:=by
   intro i l hi
   by_cases iM:i<es.length
   ·rw[zR iM]at hi
    exact aX i l hi
   ·rw[za (by omega)]at hi
    have hk:i-es.length<n-es.length:=by
     have:=(zB.1 hi).1
     omega
    have CT:l=(List.range sz).map fun j=>AV.v ((cs[p.O+i*sz+j]?).getD undef):=by
     simp only[spare,zM,List.getElem?_range hk,qP,zOi]at hi
     rw[<-hi,show es.length+(i-es.length)=i by omega]
    subst CT
    refine ⟨by simp[hs],fun j av hj => ?_⟩
    have Md:j<sz:=by have:=(zB.1 hj).1;simpa using this
    simp only[zM,List.getElem?_range Md,qP,zOi]at hj
    subst hj
    have az:p.O+i*sz+j<cs.size:=by
     have h1:(i+1)*sz<=n*sz:=zX _ (by omega)
     rw[ze]at h1
     omega
    rw[hs]
    exact ⟨cs[p.O+i*sz+j],by simp[az],by simp[az];exact .v _⟩
  have RW:c.w.heap=c.w.heap.setIfInBounds p.B (.cells cs e fz):=by
   apply qk
   intro i
   rw[qO]
   by_cases hi:p.B=i
   ·subst hi
    have:=(zE.1 hb).1
    rw[if_pos rfl,if_pos this];exact hb
   ·rw[if_neg hi]
  obtain ⟨yL,vH⟩:=kU bP (es':=es++spare) hr hι hb (w':=c.w) (cs':=cs) RW rfl rfl rfl rfl Wp
  have fq:es.length+spare.length=n:=by omega
  have W8:cE ⟨c.F,c.ι,ab c.hp r (some (es++spare)),c.w⟩ (.sl r sz 0 es.length (some (es.length+spare.length))::rest) (Value.slice (some a) es.length n::BW):=by
   refine ⟨bz.1,fun k av u g1 g2 => ?_⟩
   cases k with
   |zero =>
    simp at g1 g2
    subst g1;subst g2
    exact .sl hι hs ha hl (fun m hm=>by simp only[zOi]at hm;omega) hN (fun h=>by cases h) F6
   |succ k=>exact (bz.2 (k+1) av u g1 g2).mono vH
  have hX:=B3 hE (fun R hR=>BR hm hR) afk ⟨c.F,c.ι,ab c.hp r (some (es++spare)),c.w⟩ ⟨Value.slice (some a) es.length n::BW⟩ rfl yL W8
  refine hX.mono ?_
  rintro e2 w' ⟨u,ι',rfl,_,hx,yN,hv⟩
  have QU:q<ar:=yN.uT q (by show aT q≠none;rw[hq];simp)
  cases hv with
  | @sl _ _ _ _ n2 _ pq a2 gι gs ga gl afp gN gE gm =>
   have gι:ι' q=some pq:=gι
   have aeo:∀p',ι' nx=some p'->p'=pq:=by
    intro p' h
    rcases kg with ⟨_,h2,_⟩|⟨h2,_,_⟩
    ·have:=yN.lt nx p' h;omega
    ·rw[<-h2,gι]at h;cases h;rfl
   let ι3:Nat->Option Place:=cn ι' nx pq
   let kr:Heap:=ab (ab c.hp r none) nx (some es')
   let c3:Cx:=⟨c.F,ι3,kr,w'⟩
   let cB:Cx:=⟨c.F,ι',aT,w'⟩
   have Ys:ι3 nx=some pq:=by show cn _ _ _ nx=_;simp[cn]
   have V3:∀x,x≠nx->ι3 x=ι' x:=fun x h=>by show cn _ _ _ x=_;simp[cn,h]
   have h3n:kr nx=some es':=by show ab _ _ _ nx=_;simp[ab]
   have h3r:kr r=none:=by show ab _ _ _ r=_;simp[ab,show ¬r=nx by omega]
   have YM:∀x,x≠nx->x≠r->kr x=c.hp x:=fun x h1 h2=>by show ab _ _ _ x=_;simp[ab,h1,h2]
   have Uq:∀x,x≠nx->kr x≠none->x≠r/\x<nx/\kr x=c.hp x/\aT x=c.hp x:=by
    intro x h1 h2
    have TJ:x≠r:=by rintro rfl;exact h2 h3r
    rw[YM x h1 TJ]at h2
    have yD:=bP.uT x h2
    exact ⟨TJ,yD,YM x h1 TJ,yV x yD TJ⟩
   have mι:∀x p',ι' x=some p'->ι3 x=some p':=by
    intro x p' h
    by_cases yD:x=nx
    ·subst yD;rw[Ys,aeo p' h]
    ·rw[V3 x yD];exact h
   have hq0:cB.hp q≠none:=by show aT q≠none;rw[hq];simp
   have pu:∀B,c3.own B->cB.own B:=by
    rintro B ⟨x,px,g1,g2,g3⟩
    by_cases yD:x=nx
    ·subst yD
     have g2:ι3 x=some px:=g2
     rw[Ys]at g2;cases g2
     exact ⟨q,pq,hq0,gι,g3⟩
    ·obtain ⟨m1,m2,m3,m4⟩:=Uq x yD g1
     exact ⟨x,px,by show aT x≠none;rw[m4,<-m3];exact g1,by show ι' x=_;rw[<-V3 x yD];exact g2,g3⟩
   have bZ:∀B,cB.ro B->c3.ro B:=fun B hB=>⟨hB.1,fun h=>hB.2.1 (pu B h),hB.2.2⟩
   have mv:∀x u,aC cB x u->aC c3 x u:=fun x u h=>h.move (c':=c3) mι fun B hB=>⟨bZ B hB,rfl⟩
   have bm:Ext c c3:=by
    have TM:=vH.trans hx
    refine ⟨rfl,fun x px h=>mι x px (TM.ι x px h),TM.size,fun B hB ho => ?_,TM.os,TM.tape,TM.output⟩
    obtain ⟨g1,g2⟩:=TM.ah B hB ho
    exact ⟨fun h=>g1 (pu B h),g2⟩
   obtain ⟨bF,sA,e3,fz3,b1,b2,b3,b4⟩:=yN.cells hq gι gm
   refine ⟨.slice (some a2) es'.length n2,ι3,rfl,(fun h=>nomatch h),bm,⟨?_,?_,?_,?_,yN.F,?_,?_⟩,?_⟩
   ·intro x kN
    have kN:kr x≠none:=kN
    by_cases yD:x=nx
    ·omega
    ·have:=(Uq x yD kN).2.1;omega
   ·intro x px h
    have h:ι3 x=some px:=h
    by_cases yD:x=nx
    ·omega
    ·rw[V3 x yD]at h
     have:=yN.lt x px h
     rcases kg with ⟨_,h2,_⟩|⟨_,h2,_⟩<;>omega
   ·intro x ex px g1 g2
    have g1:kr x=some ex:=g1
    have g2:ι3 x=some px:=g2
    by_cases yD:x=nx
    ·subst yD
     rw[h3n]at g1;cases g1
     rw[Ys]at g2;cases g2
     refine ⟨bF,_,b1,.inl ⟨gm,sA,e3,fz3,rfl,b2,b3,fun i l hi => ?_⟩⟩
     have CT:(es'++sp)[i]?=some l:=by rw[zR (zB.1 hi).1];exact hi
     obtain ⟨m1,m2⟩:=b4 i l CT
     exact ⟨m1,fun j av hj=>let ⟨u,m3,m4⟩:=m2 j av hj;⟨u,m3,mv _ _ m4⟩⟩
    ·obtain ⟨m1,m2,m3,m4⟩:=Uq x yD (by rw[g1];simp)
     obtain ⟨n1,o,n3,n4⟩:=yN.sd x ex px (by show aT x=_;rw[m4,<-m3];exact g1) (by show ι' x=_;rw[<-V3 x yD];exact g2)
     exact ⟨n1,o,n3,n4.move mv⟩
   ·intro x y px py g1 g2 g3 g4 g5
    have g1:kr x≠none:=g1
    have g2:kr y≠none:=g2
    have g3:ι3 x=some px:=g3
    have g4:ι3 y=some py:=g4
    have other:∀z pz,z≠nx->kr z≠none->ι3 z=some pz->pz.B≠pq.B:=by
     intro z pz hz k1 k2 k3
     obtain ⟨m1,m2,m3,m4⟩:=Uq z hz k1
     have:=yN.inj z q pz pq (by show aT z≠none;rw[m4,<-m3];exact k1) hq0 (by show ι' z=_;rw[<-V3 z hz];exact k2) gι k3
     rcases kg with ⟨h2,_,_⟩|⟨h2,_,_⟩
     ·exact m1 (this.trans h2)
     ·exact hz (this.trans h2)
    by_cases e1:x=nx
    ·by_cases e2:y=nx
     ·rw[e1,e2]
     ·exfalso
      subst e1
      rw[Ys]at g3;cases g3
      exact other y py e2 g2 g4 g5.symm
    ·by_cases e2:y=nx
     ·exfalso
      subst e2
      rw[Ys]at g4;cases g4
      exact other x px e1 g1 g3 g5
     ·obtain ⟨m1,m2,m3,m4⟩:=Uq x e1 g1
      obtain ⟨m1',m2',m3',m4'⟩:=Uq y e2 g2
      exact yN.inj x y px py (by show aT x≠none;rw[m4,<-m3];exact g1) (by show aT y≠none;rw[m4',<-m3'];exact g2) (by show ι' x=_;rw[<-V3 x e1];exact g3) (by show ι' y=_;rw[<-V3 y e2];exact g4) g5
   ·refine A0.to (c:=cB) yN.ty (fun x t k ZZ g => ?_) mι (fun B cs t fz hB=>⟨cs,hB,rfl⟩) fun x g1 g2 g3 => ?_
    ·have g:kr x=some ([.ty t k]::ZZ):=g
     by_cases yD:x=nx
     ·subst yD
      rw[h3n]at g;cases g
      obtain ⟨_,m2⟩:=b4 0 [.ty t k] (by simp)
      obtain ⟨u,_,m3⟩:=m2 0 (.ty t k) rfl
      exact m3.yo.elim
     ·obtain ⟨m1,m2,m3,m4⟩:=Uq x yD (by rw[g];simp)
      show aT x=_
      rw[m4,<-m3];exact g
    ·have g2:ι' x≠none:=g2
     have g3:kr x≠none:=g3
     show aT x≠none
     by_cases yD:x=nx
     ·subst yD
      rcases kg with ⟨_,h2,_⟩|⟨h2,_,_⟩
      ·cases hh:ι' x with
       |none=>exact absurd hh g2
       |some p'=>have:=yN.lt x p' hh;omega
      ·rw[<-h2];exact hq0
     ·obtain ⟨m1,m2,m3,m4⟩:=Uq x yD g3
      rw[m4,<-m3];exact g3
   ·exact ve.to (c:=cB) yN.gl rfl bZ fun B hB=>rfl
   ·refine .sl (c:=c3) (p:=pq) Ys gs ga gl (fun m hm=>by cases hm) gN (fun _ => ?_) gm
    rcases kg with ⟨h2,_,h4⟩|⟨_,_,h4⟩
    ·have g8:=afp _ h4
     have:ι' r=some p:=(vH.trans hx).ι r p hι
     rw[<-h2,gι]at this
     cases this
     rw[Nat.zero_add,<-g8,fq];exact hEn
    ·exact gE h4
inductive Ta where
 |same
 |RT
 |mkb (t:TypeId)
def pW (k:Nat->Option Ta):aQ:=fun f args hp nx v hp' nx' kd =>
 match k f with
  |some .same=>kd=.p/\hp'=hp/\nx'=nx/\args=[v]
  |some .RT=>kd=.p/\hp'=hp/\nx'=nx/\∃l n,args=[.str l,.v (.int .u8 n)]/\v=.v (.int .i64 (Lib.indexByte l n.toNat.toUInt8))
  |some (.mkb t)=>kd=.e/\nx'=nx+2/\hp'=ab (ab hp nx (some [])) (nx+1) (some [[.ty t 0]])/\∃n:Nat,n<=140737488355328/\args=[.v (.int .i64 n)]/\v=.sl nx 1 0 n none
  |none=>False
structure UX (P:Program) (k:Nat->Option Ta):Prop where
 same:∀f,k f=some .same->∃fn,P.funcs[f]?=some fn/\(fn.name == "runtime.NumGoroutine")=false/\fn.body.isNone=true/\Extern.findNext fn=none/\Extern.find fn=some Extern.AbiNoEscape.same
 mkb:∀f t,k f=some (.mkb t)->∃fn ps s,P.funcs[f]?=some fn/\(fn.name == "runtime.NumGoroutine")=false/\fn.body.isNone=true/\Extern.findNext fn=none/\P.underlying s=some (.slice t)/\Extern.find fn=some (Extern.BytealgMakeNoZero.makeNoZero ps #[s])
 RT:∀f,k f=some .RT->∃fn,P.funcs[f]?=some fn/\(fn.name == "runtime.NumGoroutine")=false/\fn.body.isNone=true/\Extern.findNext fn=none/\Extern.find fn=some Extern.BytealgIndexByte.indexByte
theorem LD {P:Program} {k:Nat->Option Ta} (hk:UX P k):de P (pW k):=by
 refine ⟨fun f args hp nx v hp' nx' kd h => ?_,fun f args hp nx v hp' nx' h => ?_,?_⟩
 ·unfold pW at h
  split at h
  ·exact .inl h.1
  ·exact .inl h.1
  ·exact .inr h.1
  ·exact h.elim
 ·unfold pW at h
  split at h
  ·rename_i jn;exact ⟨h.2.1,h.2.2.1,fun aT ar=>by unfold pW;rw[jn];exact ⟨rfl,rfl,rfl,h.2.2.2⟩⟩
  ·rename_i jn;exact ⟨h.2.1,h.2.2.1,fun aT ar=>by unfold pW;rw[jn];exact ⟨rfl,rfl,rfl,h.2.2.2⟩⟩
  ·cases h.1
  ·exact h.elim
 intro f args hp nx v hp' nx' kd h c cargs hc bP bz
 unfold pW at h
 split at h
 ·rename_i hkf
  obtain ⟨rfl,rfl,rfl,h⟩:=h
  subst h
  obtain ⟨fn,h1,h2,h3,h4,h5⟩:=hk.same f hkf
  obtain ⟨u,rfl⟩:∃u,cargs = #[u]:=by
   obtain ⟨l⟩:=cargs
   match l,bz.1 with
   |[u],_=>exact ⟨u,rfl⟩
  refine .inr ⟨u,c.w,?_,u,c.ι,rfl,fun _=>⟨rfl,hc.symm,rfl⟩,by rw[<-hc];exact Ext.refl c,by rw[<-hc];exact bP,by rw[<-hc];exact bz.2 0 _ _ rfl rfl⟩
  rw[run_callFunc_extern h1 h2 h3 h4 h5,Lib.run_noEscape];rfl
 ·rename_i hkf
  obtain ⟨rfl,rfl,rfl,l,n,rfl,rfl⟩:=h
  obtain ⟨fn,h1,h2,h3,h4,h5⟩:=hk.RT f hkf
  obtain ⟨u,u2,rfl⟩:∃u u2,cargs = #[u,u2]:=by
   obtain ⟨q⟩:=cargs
   match q,bz.1 with
   |[u,u2],_=>exact ⟨u,u2,rfl⟩
  have e1:=(bz.2 0 _ u rfl rfl).fQ
  have e2:=(bz.2 1 _ u2 rfl rfl).b8
  subst e1;subst e2
  refine .inr ⟨.int .i64 (Lib.indexByte l n.toNat.toUInt8),c.w,?_,_,c.ι,rfl,fun _=>⟨rfl,hc.symm,rfl⟩,by rw[<-hc];exact Ext.refl c,by rw[<-hc];exact bP,.v _⟩
  rw[run_callFunc_extern h1 h2 h3 h4 h5,Lib.run_indexByteString];rfl
 ·rename_i t hkf
  obtain ⟨rfl,rfl,rfl,n,hn,rfl,rfl⟩:=h
  obtain ⟨fn,ps,st,h1,h2,h3,h4,bU,h5⟩:=hk.mkb f t hkf
  obtain ⟨u,rfl⟩:∃u,cargs = #[u]:=by
   obtain ⟨q⟩:=cargs
   match q,bz.1 with
   |[u],_=>exact ⟨u,rfl⟩
  have e1:=(bz.2 0 _ u rfl rfl).b8
  subst e1
  obtain ⟨cs,bR,hle,_⟩:=Lib.run_makeNoZero (P:=P) c.w ps st t bU n (by omega)
  obtain ⟨k1,k2⟩:=tC (nx:=nx) bP (w':=c.w.drew.drew.alloc (.cells cs t)) (cs:=cs) (e:=t) (fz:=(0,0)) (es:=[]) (sz:=1) rfl rfl rfl rfl (by intro o h;simp) (by intro i l h;simp at h)
  obtain ⟨k3,k4⟩:=J9 (q:=nx) (t:=t) (k:=0) (p:=⟨c.w.heap.size,0,1,cs.size,[]⟩) (cs:=cs) (fz:=(0,0)) k1.up (by omega) k1.fresh (by show cn _ _ _ nx=_;simp[cn]) rfl (by show (c.w.heap.push _)[c.w.heap.size]?=_;simp) (wT _)
  refine .inr ⟨.slice (some ⟨c.w.heap.size,0,none⟩) n cs.size,c.w.drew.drew.alloc (.cells cs t),?_,_,cn c.ι nx ⟨c.w.heap.size,0,1,cs.size,[]⟩,rfl,(fun h=>by cases h),?_,?_,?_⟩
  ·rw[run_callFunc_extern h1 h2 h3 h4 h5,bR];rfl
  ·rw[<-hc];exact k2.trans k4
  ·rw[<-hc];exact k3
  ·exact .sl (p:=⟨c.w.heap.size,0,1,cs.size,[]⟩) (by show cn _ _ _ nx=_;simp[cn]) rfl (by simp) hle (by simp) (by simp) (by simp) (wT _)
 ·exact h.elim
end Go.Ai
