/- Part 2 of what the proof of BtreePlays rests on. -/
import Derived.Test.YtblopagmddgkjaaGreatK1
set_option linter.unusedVariables false
set_option linter.unusedSimpArgs false
set_option maxHeartbeats 4000000
namespace Go.Ai
theorem D6 {c:Cx} {nx:Nat} (hh:bf c nx) {w':World} {o:Obj} {es:bN} {pn:Place} (hB:pn.B=c.w.heap.size) (cv:w'.heap=c.w.heap.push o) (hnt:∀t k rest,es≠[.ty t k]::rest) (vt:∀c':Cx,pL c' es pn o) (Ay:w'.os=c.w.os) (gD:w'.tape=c.w.tape) (gw:w'.output=c.w.output) :
  let c':Cx:=⟨c.F,cj c.ι nx pn,ab c.hp nx (some es),w'⟩
  bf c' (nx+1)/\Ext c c':=by
 intro c'
 have bH:∀B,B<c.w.heap.size->w'.heap[B]?=c.w.heap[B]?:=by
  intro B hB;rw[cv,wW,if_neg (by omega)]
 have Ex:w'.heap[c.w.heap.size]?=some o:=by rw[cv];simp
 have R3:=hh.fresh
 have hfh:=hh.uE
 have hι:∀r,r≠nx->c'.ι r=c.ι r:=fun r hr=>by show cj _ _ _ r=_;simp[cj,hr]
 have xq:c'.ι nx=some pn:=by show cj _ _ _ nx=_;simp[cj]
 have nc:∀r,r≠nx->c'.hp r=c.hp r:=fun r hr=>by show ab _ _ _ r=_;simp[ab,hr]
 have Ix:c'.hp nx=some es:=by show ab _ _ _ nx=_;simp[ab]
 have o8:∀B,B<c.w.heap.size->c'.own B->c.own B:=by
  rintro B hB ⟨r,p,h1,h2,h3⟩
  by_cases hr:r=nx
  ·subst hr;rw[xq,zOi]at h2;subst h2;omega
  ·rw[nc r hr]at h1;rw[hι r hr]at h2;exact ⟨r,p,h1,h2,h3⟩
 have bm:Ext c c':=by
  refine ⟨rfl,?_,?_,?_,Ay,gD,gw⟩
  ·intro r p h
   by_cases hr:r=nx
   ·subst hr;rw[R3]at h;simp at h
   ·rw[hι r hr];exact h
  ·show c.w.heap.size<=w'.heap.size
   rw[cv];simp
  ·exact fun B hB ho=>⟨fun h=>ho (o8 B hB h),bH B hB⟩
 refine ⟨⟨?_,?_,?_,?_,?_,hh.ty.to ?_ bm.ι (fun B AI t LY hB=>⟨AI,by show w'.heap[B]?=_;rw[bH B (zE.1 hB).1];exact hB,rfl⟩) (fun r g1 _ g2=>by
  have:r≠nx:=by rintro rfl;have:=hh.uK _ g1;omega
  rw[nc r this]at g2;exact g2),hh.gl.ext bm⟩,bm⟩
 rotate_right
 ·intro r t k rest hr
  by_cases he:r=nx
  ·subst he
   rw[Ix,zOi]at hr;exact absurd hr (hnt _ _ _)
  ·rw[nc r he]at hr;exact hr
 ·intro r hr
  by_cases he:r=nx
  ·omega
  ·rw[nc r he]at hr;have:=hh.uK r hr;omega
 ·intro r p h
  by_cases he:r=nx
  ·omega
  ·rw[hι r he]at h;have:=hh.lt r p h;omega
 ·intro r es' p h1 h2
  by_cases he:r=nx
  ·subst he
   rw[Ix,zOi]at h1;subst h1
   rw[xq,zOi]at h2;subst h2
   refine ⟨fun hF=>absurd (hh.F _ hF) (by omega),o,by show w'.heap[pn.B]?=_;rw[hB];exact Ex,vt _⟩
  ·rw[nc r he]at h1;rw[hι r he]at h2
   obtain ⟨hF,o',h3,h4⟩:=hh.rU r es' p h1 h2
   have az:p.B<c.w.heap.size:=(zE.1 h3).1
   exact ⟨hF,o',by show w'.heap[p.B]?=_;rw[bH _ az];exact h3,h4.move fun x u h=>h.mono bm⟩
 ·have az:∀r p,c.hp r≠none->c.ι r=some p->p.B<c.w.heap.size:=by
   intro r p h1 h2
   exact hh.oP ⟨r,p,h1,h2,rfl⟩
  intro r r' p p' h1 h2 h3 h4 h5
  by_cases he:r=nx
  ·by_cases AD:r'=nx
   ·omega
   ·subst he
    rw[xq,zOi]at h3;subst h3
    rw[nc r' AD]at h2;rw[hι r' AD]at h4
    have:=az r' p' h2 h4;omega
  ·by_cases AD:r'=nx
   ·subst AD
    rw[xq,zOi]at h4;subst h4
    rw[nc r he]at h1;rw[hι r he]at h3
    have:=az r p h1 h3;omega
   ·rw[nc r he]at h1;rw[hι r he]at h3;rw[nc r' AD]at h2;rw[hι r' AD]at h4
    exact hh.inj r r' p p' h1 h2 h3 h4 h5
 ·intro B hB
  have:=hh.F B hB
  show B<w'.heap.size
  rw[cv];simp;omega
theorem Mt {c:Cx} {nx:Nat} (hh:bf c nx) {w':World} (cv:w'.heap=c.w.heap.push (.map #[] 0)) (Ay:w'.os=c.w.os) (gD:w'.tape=c.w.tape) (gw:w'.output=c.w.output) :
  let c':Cx:=⟨c.F,cj c.ι nx ⟨c.w.heap.size,1,0,0,[]⟩,ab c.hp nx (some []),w'⟩
  bf c' (nx+1)/\Ext c c' :=
 D6 hh (pn:=⟨c.w.heap.size,1,0,0,[]⟩) rfl cv (fun t k rest h=>by cases h) (fun c'=>.inr (.inl ⟨rfl,#[],0,rfl,⟨rfl,fun i l e h=>by simp at h⟩,fun i e h=>by simp at h,fun i j e e' h=>by simp at h⟩)) Ay gD gw
theorem pO {c:Cx} {nx:Nat} (hh:bf c nx) {r:Nat} {es es':bN} {p:Place} (hr:c.hp r=some es) (hp:c.ι r=some p) {w':World} {o0 o1:Obj}
  (hb:c.w.heap[p.B]?=some o0) (hnc:∀cs e fz,o0≠.cells cs e fz) (cv:w'.heap=c.w.heap.setIfInBounds p.B o1)
  (Ay:w'.os=c.w.os) (gD:w'.tape=c.w.tape) (gw:w'.output=c.w.output) (hnt:∀t k rest,es'≠[.ty t k]::rest) (vt:pL c es' p o1) :
  let c':Cx:=⟨c.F,c.ι,ab c.hp r (some es'),w'⟩
  bf c' nx/\Ext c c':=by
 intro c'
 have az:p.B<c.w.heap.size:=(zE.1 hb).1
 have FM:c'.hp r=some es':=by show ab _ _ _ r=_;simp[ab]
 have lC:∀q,q≠r->c'.hp q=c.hp q:=fun q hq=>by show ab _ _ _ q=_;simp[ab,hq]
 have yH:∀q,c'.hp q≠none↔c.hp q≠none:=by
  intro q
  by_cases hq:q=r
  ·subst hq;rw[FM,hr];simp
  ·rw[lC q hq]
 have o5:w'.heap.size=c.w.heap.size:=by rw[cv];simp
 have pc:∀B,B≠p.B->w'.heap[B]?=c.w.heap[B]?:=by
  intro B hB;rw[cv,wQ (by omega)]
 have QF:w'.heap[p.B]?=some o1:=by rw[cv];simp[az]
 have ma:c.own p.B:=⟨r,p,by simp[hr],hp,rfl⟩
 have bm:Ext c c':=by
  refine ⟨rfl,fun _ _ h=>h,by show _<=w'.heap.size;omega,?_,Ay,gD,gw⟩
  intro B hB ho
  refine ⟨?_,pc B (by rintro rfl;exact ho ma)⟩
  rintro ⟨q,p',h1,h2,h3⟩
  exact ho ⟨q,p',(yH q).1 h1,h2,h3⟩
 have FI:AN c':=hh.ty.to (fun q t k rest hq=>by
   by_cases he:q=r
   ·subst he
    rw[FM,zOi]at hq;subst hq
    exact absurd rfl (hnt _ _ _)
   ·rw[lC q he]at hq;exact hq) bm.ι (fun B AI t LY hB=>by
   by_cases he:B=p.B
   ·subst he;rw[hb,zOi]at hB;exact absurd hB (hnc _ _ _)
   ·exact ⟨AI,(pc B he).trans hB,rfl⟩) fun q _ _ h=>(yH q).1 h
 refine ⟨⟨fun q h=>hh.uK q ((yH q).1 h),hh.lt,?_,?_,?_,FI,hh.gl.ext bm⟩,bm⟩
 ·intro q So p' h1 h2
  by_cases hq:q=r
  ·subst hq
   rw[FM,zOi]at h1;subst h1
   have Al:c.ι q=some p':=h2
   rw[hp,zOi]at Al;subst Al
   obtain ⟨hF,_⟩:=hh.rU q es p hr hp
   exact ⟨hF,o1,QF,vt.move fun x u h=>h.mono bm⟩
  ·rw[lC q hq]at h1
   obtain ⟨hF,o,h3,h4⟩:=hh.rU q So p' h1 h2
   have bt:p'.B≠p.B:=fun h=>hq (hh.inj q r p' p (by simp[h1]) (by simp[hr]) h2 hp h)
   exact ⟨hF,o,by show w'.heap[p'.B]?=_;rw[pc _ bt];exact h3,h4.move fun x u h=>h.mono bm⟩
 ·intro q q' p1 p2 h1 h2 h3 h4 h5
  exact hh.inj q q' p1 p2 ((yH q).1 h1) ((yH q').1 h2) h3 h4 h5
 ·intro B hB
  have:=hh.F B hB
  show B<w'.heap.size
  omega
theorem m8.nt {c:Cx} {es:bN} {ents:Array MapEntry} (h:m8 c es ents) (t:TypeId) (k:Nat) (rest:bN):es≠[.ty t k]::rest:=by
 rintro rfl
 have hs:=h.1
 simp at hs
 obtain ⟨k',v',h1,_⟩:=h.2 0 _ (ents[0]'(by omega)) rfl (zL (by omega))
 cases h1
theorem mn {c:Cx} {nx:Nat} (hh:bf c nx) {r:Nat} {es es':bN} {p:Place} (hr:c.hp r=some es) (hp:c.ι r=some p) (eK:p.O=p.N+1) {w':World} {ents ents':Array MapEntry} {clock clock':Nat}
  (hb:c.w.heap[p.B]?=some (.map ents clock)) (cv:w'.heap=c.w.heap.setIfInBounds p.B (.map ents' clock'))
  (Ay:w'.os=c.w.os) (gD:w'.tape=c.w.tape) (gw:w'.output=c.w.output) (aX:m8 c es' ents') (bU:lf ents' clock') :
  let c':Cx:=⟨c.F,c.ι,ab c.hp r (some es'),w'⟩
  bf c' nx/\Ext c c' :=
 pO hh hr hp hb (fun cs e fz h=>by cases h) cv Ay gD gw aX.nt (.inr (.inl ⟨eK,ents',clock',rfl,aX,bU⟩))
theorem ZM {c:Cx} {nx:Nat} (hh:bf c nx) {r:Nat} {es:bN} {p:Place} (hr:c.hp r=some es) (hp:c.ι r=some p) {ents:Array MapEntry} {clock:Nat}
  (hb:c.w.heap[p.B]?=some (.map ents clock)) (aX:m8 c es ents) (bU:lf ents clock) :
  let c':Cx:=⟨c.F,cj c.ι nx ⟨p.B,3,clock,0,ents.toList.map (·.born)⟩,ab (ab c.hp r none) nx (some es),c.w⟩
  bf c' (nx+1)/\Ext c c':=by
 intro c'
 have Is:r≠nx:=fun h=>by have:=hh.lt r p hp;omega
 have Ix:c'.hp nx=some es:=by show ab _ _ _ nx=_;simp[ab]
 have FM:c'.hp r=none:=by show ab _ _ _ r=_;simp[ab,Is]
 have lC:∀q,q≠r->q≠nx->c'.hp q=c.hp q:=fun q hq Eu=>by show ab _ _ _ q=_;simp[ab,hq,Eu]
 have hι:∀q,q≠nx->c'.ι q=c.ι q:=fun q hq=>by show cj _ _ _ q=_;simp[cj,hq]
 have xq:c'.ι nx=some ⟨p.B,3,clock,0,ents.toList.map (·.born)⟩:=by show cj _ _ _ nx=_;simp[cj]
 have ma:c.own p.B:=⟨r,p,by simp[hr],hp,rfl⟩
 have EL:∀q,c'.hp q≠none->q≠nx->c.hp q≠none/\q≠r:=by
  intro q h hq
  have uf:q≠r:=by rintro rfl;exact h FM
  rw[lC q uf hq]at h;exact ⟨h,uf⟩
 have bm:Ext c c':=by
  refine ⟨rfl,?_,zD _,?_,rfl,rfl,rfl⟩
  ·intro q pq h
   by_cases hq:q=nx
   ·subst hq;rw[hh.fresh]at h;simp at h
   ·rw[hι q hq];exact h
  ·intro B hB ho
   refine ⟨?_,rfl⟩
   rintro ⟨q,pq,h1,h2,h3⟩
   by_cases hq:q=nx
   ·subst hq;rw[xq,zOi]at h2;subst h2;rw[<-h3]at ho;exact ho ma
   ·rw[hι q hq]at h2;exact ho ⟨q,pq,(EL q h1 hq).1,h2,h3⟩
 have FI:AN c':=hh.ty.to (fun q t k rest hq=>by
   by_cases he:q=nx
   ·subst he
    rw[Ix,zOi]at hq
    exact absurd hq (aX.nt _ _ _)
   ·by_cases R5:q=r
    ·subst R5;rw[FM]at hq;cases hq
    ·rw[lC q R5 he]at hq;exact hq) bm.ι (fun B AI t LY hB=>⟨AI,hB,rfl⟩) fun q g1 _ g2=>by
   have hq:q≠nx:=by rintro rfl;have:=hh.uK _ g1;omega
   exact (EL q g2 hq).1
 refine ⟨⟨?_,?_,?_,?_,hh.F,FI,hh.gl.ext bm⟩,bm⟩
 ·intro q h
  by_cases hq:q=nx
  ·omega
  ·have:=hh.uK q (EL q h hq).1;omega
 ·intro q pq h
  by_cases hq:q=nx
  ·omega
  ·rw[hι q hq]at h;have:=hh.lt q pq h;omega
 ·intro q So pq h1 h2
  by_cases hq:q=nx
  ·subst hq
   rw[Ix,zOi]at h1;subst h1
   rw[xq,zOi]at h2;subst h2
   obtain ⟨hF,_⟩:=hh.rU r es p hr hp
   exact ⟨hF,.map ents clock,hb,.inr (.inr (.inr ⟨rfl,ents,rfl,aX.move fun x u h=>h.mono bm,bU,rfl⟩))⟩
  ·have v8:c'.hp q≠none:=by simp[h1]
   obtain ⟨h3,uf⟩:=EL q v8 hq
   rw[lC q uf hq]at h1;rw[hι q hq]at h2
   obtain ⟨hF,o,h3,h4⟩:=hh.rU q So pq h1 h2
   exact ⟨hF,o,h3,h4.move fun x u h=>h.mono bm⟩
 ·have bt:∀q pq,c'.hp q≠none->q≠nx->c.ι q=some pq->pq.B≠p.B:=by
   intro q pq h1 hq h2 h3
   obtain ⟨h4,h5⟩:=EL q h1 hq
   exact h5 (hh.inj q r pq p h4 (by simp[hr]) h2 hp h3)
  intro q q' p1 p2 h1 h2 h3 h4 h5
  by_cases hq:q=nx
  ·by_cases Eu:q'=nx
   ·omega
   ·subst hq
    rw[xq,zOi]at h3;subst h3
    rw[hι q' Eu]at h4
    exact absurd h5.symm (bt q' p2 h2 Eu h4)
  ·by_cases Eu:q'=nx
   ·subst Eu
    rw[xq,zOi]at h4;subst h4
    rw[hι q hq]at h3
    exact absurd h5 (bt q p1 h1 hq h3)
   ·rw[hι q hq]at h3;rw[hι q' Eu]at h4
    exact hh.inj q q' p1 p2 (EL q h1 hq).1 (EL q' h2 Eu).1 h3 h4 h5
theorem FW {c:Cx} {nx:Nat} (hh:bf c nx) {q r:Nat} {es:bN} {p pr:Place} (hq:c.hp q=some es) (hp:c.ι q=some p) (hm:p.O=p.N+3) (QA:c.ι r=some pr) (rR:pr.O=pr.N+1) (hB:p.B=pr.B)
  {hp1:Heap} (ot:Sub hp1 c.hp) (iE:hp1 q=none) :
  let c':Cx:=⟨c.F,c.ι,ab hp1 r (some es),c.w⟩
  bf c' nx/\Ext c c':=by
 intro c'
 obtain ⟨hF,ents,hb,aX,bU,yJ⟩:=hh.kept hq hp hm
 have uf:q≠r:=by
  rintro rfl
  rw[hp,zOi]at QA
  subst QA;omega
 have FM:c'.hp r=some es:=by show ab _ _ _ r=_;simp[ab]
 have lC:∀x,x≠r->c'.hp x=hp1 x:=fun x hx=>by show ab _ _ _ x=_;simp[ab,hx]
 have hold:∀x,x≠r->c'.hp x≠none->c'.hp x=c.hp x/\c.hp x≠none/\x≠q:=by
  intro x hx h
  rw[lC x hx]at h ⊢
  rcases ot x with h1|h1
  ·exact ⟨h1,by rw[<-h1];exact h,by rintro rfl;exact h iE⟩
  ·exact absurd h1 h
 have o8:∀B,c'.own B->c.own B:=by
  rintro B ⟨x,px,h1,h2,h3⟩
  by_cases hx:x=r
  ·subst hx
   have h2:c.ι x=some px:=h2
   rw[QA,zOi]at h2;subst h2
   exact ⟨q,p,by simp[hq],hp,hB.trans h3⟩
  ·exact ⟨x,px,(hold x hx h1).2.1,h2,h3⟩
 have bm:Ext c c':=⟨rfl,fun _ _ h=>h,zD _,fun B hB ho=>⟨fun h=>ho (o8 B h),rfl⟩,rfl,rfl,rfl⟩
 have bt:∀x px,x≠r->c'.hp x≠none->c.ι x=some px->px.B≠pr.B:=by
  intro x px hx h1 h2 h3
  obtain ⟨g1,g2,g3⟩:=hold x hx h1
  exact g3 (hh.inj x q px p g2 (by simp[hq]) h2 hp (h3.trans hB.symm))
 have aat:∀x t k rest,c'.hp x=some ([.ty t k]::rest)->c.hp x=some ([.ty t k]::rest):=fun x t k rest hx=>by
   by_cases he:x=r
   ·subst he
    rw[FM,zOi]at hx
    exact absurd hx (aX.nt _ _ _)
   ·rw[<-(hold x he (by rw[hx];simp)).1];exact hx
 have FI:AN c':=⟨hh.ty.1.to aat bm.ι fun B cs t fz hB=>⟨cs,fz,hB,rfl⟩,fun x t hx=>by
  obtain ⟨p0,cs,fz,g1,g2,g3⟩:=hh.ty.2 x t (aat _ _ _ _ hx)
  refine ⟨p0,cs,fz,g1,g2,fun hn=>g3 ?_⟩
  by_cases he:x=r
  ·subst he
   rw[QA,zOi]at g1;subst g1
   rw[<-hB,hb]at g2;cases g2
  ·exact (hold x he hn).2.1⟩
 refine ⟨⟨?_,hh.lt,?_,?_,hh.F,FI,hh.gl.ext bm⟩,bm⟩
 ·intro x h
  by_cases hx:x=r
  ·subst hx;exact hh.lt x pr QA
  ·exact hh.uK x (hold x hx h).2.1
 ·intro x So px h1 h2
  by_cases hx:x=r
  ·subst hx
   rw[FM,zOi]at h1;subst h1
   have h2:c.ι x=some px:=h2
   rw[QA,zOi]at h2;subst h2
   exact ⟨by rw[<-hB];exact hF,.map ents p.sz,by rw[<-hB];exact hb,.inr (.inl ⟨rR,ents,p.sz,rfl,aX.move fun x u h=>h.mono bm,bU⟩)⟩
  ·have h3:c'.hp x≠none:=by simp[h1]
   rw[(hold x hx h3).1]at h1
   obtain ⟨hF,o,h4,h5⟩:=hh.rU x So px h1 h2
   exact ⟨hF,o,h4,h5.move fun x u h=>h.mono bm⟩
 ·intro x y p1 p2 h1 h2 h3 h4 h5
  by_cases hx:x=r
  ·by_cases hy:y=r
   ·omega
   ·subst hx
    have h3:c.ι x=some p1:=h3
    rw[QA,zOi]at h3;subst h3
    exact absurd h5.symm (bt y p2 hy h2 h4)
  ·by_cases hy:y=r
   ·subst hy
    have h4:c.ι y=some p2:=h4
    rw[QA,zOi]at h4;subst h4
    exact absurd h5 (bt x p1 hx h1 h3)
   ·exact hh.inj x y p1 p2 (hold x hx h1).2.1 (hold y hy h2).2.1 h3 h4 h5
theorem tg {c:Cx} {lk:LK} {k:AV} {kv:Value} (h:sH lk k=true) (hk:aC c k kv):Instr.sameBits 10000 kv kv=true:=by
 unfold sH at h
 split at h
 ·have e:=hk.bZ;subst e;simp[Instr.sameBits]
 ·have e:=hk.fL;subst e
  simp only[Instr.sameBits]
  exact (MapKept.bytes_beq _ _).2 rfl
 ·have e:=hk.bZ;subst e;simp[Instr.sameBits]
 ·cases h
theorem lf.sub {ents ents':Array MapEntry} {clock clock':Nat} (h:lf ents clock) (hc:clock<=clock') (f:Nat->Nat) (hf:∀i j,f i=f j->i=j) (ho:∀(i:Nat) (e:MapEntry),ents'[i]?=some e->∃e0,ents[f i]?=some e0/\e0.born=e.born):lf ents' clock':=by
 refine ⟨fun i e hi => ?_,fun i j e e' hi hj hb => ?_⟩
 ·obtain ⟨e0,h1,h2⟩:=ho i e hi
  have:=h.1 _ _ h1;omega
 ·obtain ⟨e0,h1,h2⟩:=ho i e hi
  obtain ⟨e1,h3,h4⟩:=ho j e' hj
  exact hf _ _ (h.2 _ _ _ _ h1 h3 (by omega))
theorem mC:∀(fl:bN) (i0 j:Nat),j∈g9 fl i0↔∃k,j=i0+k/\fl[k]?=some [.v (.bool true)]
 |[],i0,j=>by simp[g9]
 |row::r,i0,j=>by
  have key:(∃k,j=i0+k/\(row::r)[k]?=some [.v (.bool true)])↔(j=i0/\row=[.v (.bool true)])\/∃k,j=i0+1+k/\r[k]?=some [.v (.bool true)]:=by
   constructor
   ·rintro ⟨k,h1,h2⟩
    cases k with
    |zero=>simp at h2;exact .inl ⟨by omega,h2⟩
    |succ k=>exact .inr ⟨k,by omega,by simpa using h2⟩
   ·rintro (⟨h1,h2⟩|⟨k,h1,h2⟩)
    ·exact ⟨0,by omega,by simp[h2]⟩
    ·exact ⟨k+1,by omega,by simpa using h2⟩
  rw[key,<-mC r (i0+1) j]
  by_cases h:row=[.v (.bool true)]
  ·subst h
   rw[show g9 ([.v (.bool true)]::r) i0=i0::g9 r (i0+1) from rfl]
   simp
  ·rw[g9.eq_3 i0 row r h]
   simp[h]
section
variable {P:Program} {dst:Option Tmp} {type:TypeId} {pos:String} {after:Array Edge} {guard:Option (Nat×Bool)} {tm:Nat->AV} {a:Act} {c:Cx} {v:AV} {hp':Heap} {nx nx':Nat}
theorem Gq {t kt et:TypeId} {x:Operand} (h:P.underlying t=some (.map kt et)) (he:eX tm c.hp nx (.sD (cO x))=some (v,hp',nx')) (ht:fD c tm a) (hh:bf c nx) :
  dr P ⟨dst,.range t x,type,pos,after,guard⟩ a c v hp' nx':=by
 simp only[eX]at he
 split at he
 ·rename_i r hx
  split at he
  ·rename_i es cT
   simp only[zOi,zPi]at he
   obtain ⟨rfl,rfl,rfl⟩:=he
   have h1:=aD ht x
   rw[hx]at h1
   generalize ym:a.eval x=ux at h1
   cases h1 with
   |mp hι eK =>
    rename_i p
    obtain ⟨_,ents,clock,hb,aX,bU⟩:=hh.map cT hι eK
    let o:Obj:=.mapIter (some p.B) clock #[] clock
    let w':World:={ c.w with heap:=c.w.heap.push o }
    let pn:Place:=⟨c.w.heap.size,p.B+2,clock,p.B,ents.toList.map (·.born)⟩
    have bR:(Instr.range t (.map (some p.B))).run P c.w=.ok (.pointer (some ⟨c.w.heap.size,0,none⟩)) w':=by
     unfold Instr.range
     simp[run_underlying h,MapKept.run_getObj_map hb,Result.andThen,newObj,Sem.run,w',o]
    have az:=(zE.1 hb).1
    have Is:r<nx:=hh.lt r p hι
    obtain ⟨k1,k2⟩:=D6 hh (es:=[.v (.int .i64 0)]::es.map fun _=>[.v (.bool true)]) (pn:=pn) (o:=o) (w':=w') rfl rfl (fun t k rest e=>by simp at e) (fun c'=>.inr (.inr (.inl ⟨rfl,#[],rfl,0,_,rfl,by simp[pn,aX.1],fun i l s g1 g2=>by
      simp only[zO,zC]at g1
      obtain ⟨_,_,rfl⟩:=g1
      exact ⟨true,rfl,by simp⟩,fun j h=>by omega⟩))) rfl rfl rfl
    obtain ⟨m1,m2⟩:=ZM k1 (r:=r) (es:=es) (p:=p) (by show ab _ _ _ r=_;simp[ab,cT];omega) (by show cj _ _ _ r=_;simp[cj,hι];omega) (ents:=ents) (clock:=clock)
     (by show (c.w.heap.push o)[p.B]?=_;rw[wW,if_neg (by omega)];exact hb) (aX.move fun x u g=>g.mono k2) bU
    refine ⟨.pointer (some ⟨c.w.heap.size,0,none⟩),w',_,.inl (by simp only[execOp,ym];simp[bR]),k2.trans m2,m1,?_⟩
    refine .it (p:=pn) (p':=⟨p.B,3,clock,0,ents.toList.map (·.born)⟩) (pr:=p) ?_ ?_ ?_ rfl rfl eK rfl rfl rfl rfl
    ·simp[cj]
    ·simp[cj]
    ·simp[cj,show r≠nx by omega,show r≠nx+1 by omega,hι]
  ·cases he
 ·cases he
theorem Kx {x:Operand} (he:eX tm c.hp nx (.tB (cO x))=some (v,hp',nx')) (ht:fD c tm a) (hh:bf c nx) :
  dr P ⟨dst,.next x false,type,pos,after,guard⟩ a c v hp' nx':=by
 simp only[eX]at he
 split at he
 ·rename_i q r hx
  split at he
  ·rename_i hd fl es EK cT
   have h1:=aD ht x
   rw[hx]at h1
   generalize ym:a.eval x=ux at h1
   cases h1 with
   |it hq iE hr hm rq rR e1 e2 e3 e4 =>
    rename_i p p' pr
    obtain ⟨hFq,seen,QK,lL⟩:=hh.walk EK hq hm
    obtain ⟨_,ents,hb,aX,bU,yJ⟩:=hh.kept cT iE rq
    rw[e2.trans e1.symm]at QK
    obtain ⟨n0,fl0,FN,lL⟩:=lL
    simp only[List.cons.injEq]at FN
    obtain ⟨rfl,rfl⟩:=FN
    have hlen:fl.length=ents.size:=by rw[lL.1,<-e3,<-yJ];simp
    have pe:∀(k:Nat) (e:MapEntry),ents[k]?=some e->p.aux[k]?=some e.born:=by
     intro k e hk
     rw[<-e3,<-yJ]
     simp[zO,hk]
    have EJ:∀(k:Nat) (e:MapEntry),ents[k]?=some e->(fl[k]?=some [.v (.bool true)]↔seen.contains e.born=false):=by
     intro k e hk
     have lK:=(zE.1 hk).1
     obtain ⟨b,g1,g2⟩:=lL.2.1 k fl[k] e.born (zA (by omega)) (pe k e hk)
     rw[zA (show k<fl.length by omega),g1,g2]
     cases b<;>simp
    have mF:=run_next_at (P:=P) c.w type p.B p'.B p.sz p.sz seen ents p'.sz QK hb (fun x hx=>by
     obtain ⟨k,hk⟩:=qQ.1 hx
     rw[<-e4];exact bU.1 k x (by simpa using hk)) (zD _)
    have na:∀e∈(leftOf ents seen).toList,∃k,ents[k]?=some e/\k∈g9 fl 0:=by
     intro e sK
     obtain ⟨g1,g2⟩:=mem_left sK
     obtain ⟨k,hk⟩:=qQ.1 g1
     have hk:ents[k]?=some e:=by simpa using hk
     exact ⟨k,hk,(mC fl 0 k).2 ⟨k,by omega,(EJ k e hk).2 g2⟩⟩
    split at he
    ·
     rename_i hl
     simp only[zOi,zPi]at he
     obtain ⟨rfl,rfl,rfl⟩:=he
     rcases mF with ⟨_,bR⟩|⟨e,sK,_⟩
     ·obtain ⟨k1,k2⟩:=FW hh (q:=q+1) (r:=r) (es:=es) cT iE rq hr rR e1 (hp1:=ab (ab c.hp q none) (q+1) none) (fun y=>by simp only[ab];split;exact .inr rfl;split;exact .inr rfl;exact .inl rfl) (by simp[ab])
      exact ⟨.tuple #[.bool false],c.w,c.ι,.inl (by simp only[execOp,ym];simp[bR]),k2,k1,.bE rfl fun k av u g1 g2=>by
       match k with
       |0=>simp at g1 g2;subst g1;subst g2;exact .v _
       |k+1=>simp at g1⟩
     ·obtain ⟨k,_,hk⟩:=na e sK
      rw[hl]at hk;simp at hk
    ·
     rename_i j hl
     split at he
     ·rename_i kk vv eb
      simp only[zOi,zPi]at he
      obtain ⟨rfl,rfl,rfl⟩:=he
      have hj:j∈g9 fl 0:=by rw[hl];simp
      obtain ⟨j',LR,Nz⟩:=(mC fl 0 j).1 hj
      have:j'=j:=by omega
      subst this
      have tJ:j'<ents.size:=by rw[<-hlen];exact (zB.1 Nz).1
      rcases mF with ⟨h0,_⟩|⟨e,sK,w1,vp,bR⟩
      ·exfalso
       have hg:=(EJ j' ents[j'] (zL tJ)).1 Nz
       have:ents[j']∈leftOf ents seen:=by
        unfold leftOf
        simp only[Array.mem_filter]
        exact ⟨Array.getElem_mem tJ,by rw[hg];rfl⟩
       have:=Array.size_pos_of_mem this
       omega
      ·obtain ⟨k,hk,lK⟩:=na e sK
       rw[hl]at lK
       simp at lK;subst lK
       let o1:Obj:=.mapIter (some p.N) p.sz (seen.push e.born) p.sz
       have TE:Obj.mapIter (some p'.B) p.sz (seen.push e.born) p'.sz=o1:=by rw[e1,<-e2,e4]
       have cv:(ChangeMaps.setBlock w1 p.B (.mapIter (some p'.B) p.sz (seen.push e.born) p'.sz)).heap=c.w.heap.setIfInBounds p.B o1:=by
        rw[TE];rcases vp with rfl|rfl<;>rfl
       obtain ⟨k',v',g1,g2,g3⟩:=aX.2 k _ e eb hk
       simp only[List.cons.injEq,and_true]at g1
       obtain ⟨rfl,rfl⟩:=g1
       obtain ⟨k1,k2⟩:=pO hh EK hq QK (fun cs e fz h=>by cases h) (es':=[.v (.int .i64 (k+1:Nat))]::fl.set k [.v (.bool false)]) (w':=ChangeMaps.setBlock w1 p.B (.mapIter (some p'.B) p.sz (seen.push e.born) p'.sz)) cv
        (by rcases vp with rfl|rfl<;>rfl) (by rcases vp with rfl|rfl<;>rfl) (by rcases vp with rfl|rfl<;>rfl) (fun t k2 rest h=>by simp at h) (.inr (.inr (.inl ⟨hm,seen.push e.born,rfl,k+1,_,rfl,by simp[lL.1],fun i l s q1 q2=>by
         rw[ww]at q1
         split at q1
         ·rename_i tH;subst tH
          split at q1
          ·simp only[zOi]at q1;subst q1
           rw[pe k e hk,zOi]at q2;subst q2
           exact ⟨false,rfl,by simp⟩
          ·cases q1
         ·rename_i tH
          obtain ⟨b,r1,r2⟩:=lL.2.1 i l s q1 q2
          refine ⟨b,r1,?_⟩
          have bt:s≠e.born:=by
           intro hs
           have iR:i<ents.size:=by rw[<-hlen];exact (zB.1 q1).1
           have bJ:=pe i ents[i] (zL iR)
           rw[q2,zOi]at bJ
           exact tH (bU.2 k i e ents[i] hk (zL iR) (by omega))
          rw[Array.contains_push,r2]
          simp[bt],fun j h=>by
         have:j=k:=by omega
         subst this
         exact ⟨e.born,pe j e hk,by simp⟩⟩)))
       refine ⟨.tuple #[.bool true,e.key,e.val],_,c.ι,.inl (by simp only[execOp,ym];simp[bR]),k2,k1,.bE rfl fun k av u g1 g4 => ?_⟩
       match k with
       |0=>simp at g1 g4;subst g1;subst g4;exact .v _
       |1=>simp at g1 g4;subst g1;subst g4;exact g2.mono k2
       |2=>simp at g1 g4;subst g1;subst g4;exact g3.mono k2
       |k+3=>simp at g1
     ·cases he
    ·cases he
  ·cases he
 ·cases he
theorem Fj {x:Operand} {K:AV->Heap->Prop} (h:z8 tm c.hp (cO x) K) (ht:fD c tm a) (hh:bf c nx) :
  ∃v hp',K v hp'/\dr P ⟨dst,.next x false,type,pos,after,guard⟩ a c v hp' nx:=by
 obtain ⟨q,r,hd,fl,es,hx,EK,cT,CJ,pc⟩:=h
 have h1:=aD ht x
 rw[hx]at h1
 generalize ym:a.eval x=ux at h1
 cases h1 with
 |it hq iE hr hm rq rR e1 e2 e3 e4 =>
  rename_i p p' pr
  obtain ⟨hFq,seen,QK,lL⟩:=hh.walk EK hq hm
  obtain ⟨_,ents,hb,aX,bU,yJ⟩:=hh.kept cT iE rq
  rw[e2.trans e1.symm]at QK
  obtain ⟨n0,fl0,FN,lL⟩:=lL
  simp only[List.cons.injEq]at FN
  obtain ⟨rfl,rfl⟩:=FN
  have hlen:fl.length=ents.size:=by rw[lL.1,<-e3,<-yJ];simp
  have pe:∀(k:Nat) (e:MapEntry),ents[k]?=some e->p.aux[k]?=some e.born:=by
   intro k e hk
   rw[<-e3,<-yJ]
   simp[zO,hk]
  have EJ:∀(k:Nat) (e:MapEntry),ents[k]?=some e->(fl[k]?=some [.v (.bool true)]↔seen.contains e.born=false):=by
   intro k e hk
   have lK:=(zE.1 hk).1
   obtain ⟨b,g1,g2⟩:=lL.2.1 k fl[k] e.born (zA (by omega)) (pe k e hk)
   rw[zA (show k<fl.length by omega),g1,g2]
   cases b<;>simp
  have mF:=run_next_at (P:=P) c.w type p.B p'.B p.sz p.sz seen ents p'.sz QK hb (fun x hx=>by
   obtain ⟨k,hk⟩:=qQ.1 hx
   rw[<-e4];exact bU.1 k x (by simpa using hk)) (zD _)
  have na:∀e∈(leftOf ents seen).toList,∃k,ents[k]?=some e/\k∈g9 fl 0:=by
   intro e sK
   obtain ⟨g1,g2⟩:=mem_left sK
   obtain ⟨k,hk⟩:=qQ.1 g1
   have hk:ents[k]?=some e:=by simpa using hk
   exact ⟨k,hk,(mC fl 0 k).2 ⟨k,by omega,(EJ k e hk).2 g2⟩⟩
  rcases mF with ⟨h0,bR⟩|⟨e,sK,w1,vp,bR⟩
  ·have hl:g9 fl 0=[]:=by
    cases hl:g9 fl 0 with
    |nil=>rfl
    |cons j l =>
     exfalso
     obtain ⟨j',LR,Nz⟩:=(mC fl 0 j).1 (by rw[hl];simp)
     have tJ:j'<ents.size:=by rw[<-hlen];exact (zB.1 Nz).1
     have hg:=(EJ j' ents[j'] (zL tJ)).1 Nz
     have:ents[j']∈leftOf ents seen:=by
      unfold leftOf
      simp only[Array.mem_filter]
      exact ⟨Array.getElem_mem tJ,by rw[hg];rfl⟩
     have:=Array.size_pos_of_mem this
     omega
   obtain ⟨k1,k2⟩:=FW hh (q:=q+1) (r:=r) (es:=es) cT iE rq hr rR e1 (hp1:=ab (ab c.hp q none) (q+1) none) (fun y=>by simp only[ab];split;exact .inr rfl;split;exact .inr rfl;exact .inl rfl) (by simp[ab])
   exact ⟨_,_,CJ hl,.tuple #[.bool false],c.w,c.ι,.inl (by simp only[execOp,ym];simp[bR]),k2,k1,.bE rfl fun k av u g1 g2=>by
    match k with
    |0=>simp at g1 g2;subst g1;subst g2;exact .v _
    |k+1=>simp at g1⟩
  ·obtain ⟨k,hk,lK⟩:=na e sK
   obtain ⟨⟨v,hp'⟩,hn,hK⟩:=pc k lK
   unfold MC at hn
   split at hn
   ·rename_i kk vv eb
    simp only[zOi,zPi]at hn
    obtain ⟨rfl,rfl⟩:=hn
    let o1:Obj:=.mapIter (some p.N) p.sz (seen.push e.born) p.sz
    have TE:Obj.mapIter (some p'.B) p.sz (seen.push e.born) p'.sz=o1:=by rw[e1,<-e2,e4]
    have cv:(ChangeMaps.setBlock w1 p.B (.mapIter (some p'.B) p.sz (seen.push e.born) p'.sz)).heap=c.w.heap.setIfInBounds p.B o1:=by
     rw[TE];rcases vp with rfl|rfl<;>rfl
    obtain ⟨k',v',g1,g2,g3⟩:=aX.2 k _ e eb hk
    simp only[List.cons.injEq,and_true]at g1
    obtain ⟨rfl,rfl⟩:=g1
    obtain ⟨k1,k2⟩:=pO hh EK hq QK (fun cs e fz h=>by cases h) (es':=[.v (.int .i64 (k+1:Nat))]::fl.set k [.v (.bool false)]) (w':=ChangeMaps.setBlock w1 p.B (.mapIter (some p'.B) p.sz (seen.push e.born) p'.sz)) cv
     (by rcases vp with rfl|rfl<;>rfl) (by rcases vp with rfl|rfl<;>rfl) (by rcases vp with rfl|rfl<;>rfl) (fun t k2 rest h=>by simp at h) (.inr (.inr (.inl ⟨hm,seen.push e.born,rfl,k+1,_,rfl,by simp[lL.1],fun i l s q1 q2=>by
      rw[ww]at q1
      split at q1
      ·rename_i tH;subst tH
       split at q1
       ·simp only[zOi]at q1;subst q1
        rw[pe k e hk,zOi]at q2;subst q2
        exact ⟨false,rfl,by simp⟩
       ·cases q1
      ·rename_i tH
       obtain ⟨b,r1,r2⟩:=lL.2.1 i l s q1 q2
       refine ⟨b,r1,?_⟩
       have bt:s≠e.born:=by
        intro hs
        have iR:i<ents.size:=by rw[<-hlen];exact (zB.1 q1).1
        have bJ:=pe i ents[i] (zL iR)
        rw[q2,zOi]at bJ
        exact tH (bU.2 k i e ents[i] hk (zL iR) (by omega))
       rw[Array.contains_push,r2]
       simp[bt],fun j h=>by
      have:j=k:=by omega
      subst this
      exact ⟨e.born,pe j e hk,by simp⟩⟩)))
    refine ⟨_,_,hK,.tuple #[.bool true,e.key,e.val],_,c.ι,.inl (by simp only[execOp,ym];simp[bR]),k2,k1,.bE rfl fun k av u g1 g4 => ?_⟩
    match k with
    |0=>simp at g1 g4;subst g1;subst g4;exact .v _
    |1=>simp at g1 g4;subst g1;subst g4;exact g2.mono k2
    |2=>simp at g1 g4;subst g1;subst g4;exact g3.mono k2
    |k+3=>simp at g1
   ·cases hn
theorem Lp {x:Operand} (he:eX tm c.hp nx (.yf (cO x))=some (v,hp',nx')) (ht:fD c tm a) (hh:bf c nx) :
  dr P ⟨dst,.entry x,type,pos,after,guard⟩ a c v hp' nx':=by
 simp only[eX]at he
 split at he
 ·rename_i q r hx
  split at he
  ·rename_i n fl es EK cT
   split at he
   ·rename_i hn
    split at he
    ·rename_i kk vv eb
     simp only[zOi,zPi]at he
     obtain ⟨rfl,rfl,rfl⟩:=he
     have h1:=aD ht x
     rw[hx]at h1
     generalize ym:a.eval x=ux at h1
     cases h1 with
     |it hq iE hr hm rq rR e1 e2 e3 e4 =>
      rename_i p p' pr
      obtain ⟨hFq,seen,QK,n0,fl0,FN,hl,_,Bx⟩:=hh.walk EK hq hm
      obtain ⟨_,ents,hb,aX,bU,yJ⟩:=hh.kept cT iE rq
      rw[e2.trans e1.symm]at QK
      simp only[List.cons.injEq,AV.v.injEq,Value.int.injEq,and_true,true_and]at FN
      obtain ⟨rfl,rfl⟩:=FN
      obtain ⟨s,g1,g2⟩:=Bx (n0-1) (by omega)
      have hj:((n0:Int).toNat-1)=n0-1:=by omega
      rw[hj]at eb
      have az:n0-1<ents.size:=by rw[<-aX.1];exact (zB.1 eb).1
      have rS:ents[n0-1]?=some ents[n0-1]:=zL az
      have hs:ents[n0-1].born=s:=by
       rw[<-e3,<-yJ]at g1
       simpa [zO,rS] using g1
      have vX:(ents.toList.map (·.born)).Nodup:=by
       rw[qW,qX]
       intro i j hi hj yF Iy
       simp at hi hj
       simp only[jA,Array.getElem_toList]at Iy
       have:=bU.2 i j _ _ (zL hi) (zL hj) Iy
       omega
      have hf:ents.find? (·.born==s)=some ents[n0-1]:=by
       rw[<-Array.find?_toList,<-hs]
       exact find_born ents[n0-1] ents.toList vX (by simp)
      have bR:(Instr.entry (.pointer (some ⟨p.B,0,none⟩))).run P c.w=.ok (.tuple #[ents[n0-1].key,ents[n0-1].val]) c.w:=by
       simp only[Instr.entry,getObj,Sem.run_bind,Sem.run,QK,hb,Result.andThen,g2,e4,bne_self_eq_false,zK,if_false,hf]
       rfl
      obtain ⟨k',v',q1,q2,q3⟩:=aX.2 _ _ _ eb rS
      simp only[List.cons.injEq,and_true]at q1
      obtain ⟨rfl,rfl⟩:=q1
      refine ⟨.tuple #[ents[n0-1].key,ents[n0-1].val],c.w,c.ι,.inl (by simp only[execOp,ym];simp[bR]),Ext.refl c,hh,.bE rfl fun k av u r1 r2 => ?_⟩
      match k with
      |0=>simp at r1 r2;subst r1;subst r2;exact q2
      |1=>simp at r1 r2;subst r1;subst r2;exact q3
      |k+2=>simp at r1
    ·cases he
   ·cases he
  ·cases he
 ·cases he
theorem Ol {t kt et:TypeId} {m k:Operand} {args:Array Operand} {ts:Array TypeId} {lk:LK} (ha:args.toList=[m,k]) (h0:ts[0]?=some t) (h:P.underlying t=some (.map kt et)) (hl:vV P kt=some lk)
  (he:eX tm c.hp nx (.MO lk (cO m) (cO k))=some (v,hp',nx')) (ht:fD c tm a) (hh:bf c nx):dr P ⟨dst,.call ⟨.builtin .delete,args,ts⟩,type,pos,after,guard⟩ a c v hp' nx':=by
 simp only[eX]at he
 split at he
 ·rename_i r hx
  split at he
  ·rename_i es cT
   split at he
   ·have h1:=aD ht m
    have h2:=aD ht k
    rw[hx]at h1
    generalize ym:a.eval m=ux at h1
    cases h1 with
    |mp hι eK =>
     rename_i p
     obtain ⟨_,ents,clock,hb,aX,bU⟩:=hh.map cT hι eK
     obtain ⟨d,hd,Nv⟩:=rf hl
     have G9:=fun em=>kJ (P:=P) (w:=c.w) hd Nv em (a.eval k)
     have key:=mM Nv h2 es ents.toList 0 (by simpa using aX.1) (fun i row e h3 h4=>aX.2 i row e h3 (by simpa using h4))
     have hm:args.map a.eval = #[.map (some p.B),a.eval k]:=by
      have:args = #[m,k]:=qZ.1 (by simpa using ha)
      subst this;simp[ym]
     split at he
     ·rename_i i v' hf
      simp only[zOi,zPi]at he
      obtain ⟨rfl,rfl,rfl⟩:=he
      obtain ⟨e,g1,g2,g3,g4⟩:=key _ hf
      rw[Nat.zero_add]at g4
      have DA:ents[i]?=some e:=by simpa using g1
      have iR:=(zE.1 DA).1
      have bR:(Builtin.delete_ ts type #[.map (some p.B),a.eval k]).run P c.w=.ok (.tuple #[]) { c.w with heap:=c.w.heap.setIfInBounds p.B (.map (ents.eraseIdxIfInBounds i) clock) }:=by
       unfold Builtin.delete_
       rw[h0,show (#[Value.map (some p.B),a.eval k]:Array Value)[0]?=some (.map (some p.B)) from rfl,show (#[Value.map (some p.B),a.eval k]:Array Value)[1]?=some (a.eval k) from rfl]
       simp[run_underlying h,MapKept.run_getObj_map hb,G9,MapKept.run_findKey hd g4,Result.andThen,MapKept.run_setObj_map _ hb]
      have TO:(ents.eraseIdxIfInBounds i).toList=ents.toList.eraseIdx i:=by simp[Array.eraseIdxIfInBounds,iR]
      have bH:∀(j:Nat),(ents.eraseIdxIfInBounds i)[j]?=if j<i then ents[j]? else ents[j+1]?:=by
       intro j
       rw[<-Array.getElem?_toList,TO,List.getElem?_eraseIdx]
       simp
      obtain ⟨k1,k2⟩:=mn hh cT hι eK hb (w':={ c.w with heap:=c.w.heap.setIfInBounds p.B (.map (ents.eraseIdxIfInBounds i) clock) }) rfl rfl rfl rfl (es':=es.eraseIdx i) ⟨by
        rw[<-qL,TO,List.length_eraseIdx,List.length_eraseIdx];simp[aX.1],fun j l e' q1 q2=>by
        rw[List.getElem?_eraseIdx]at q1
        rw[bH]at q2
        split at q1
        ·rename_i hj;rw[if_pos hj]at q2;exact aX.2 j l e' q1 q2
        ·rename_i hj;rw[if_neg hj]at q2;exact aX.2 _ l e' q1 q2⟩ (bU.sub (zD _) (fun j=>if j<i then j else j+1) (fun x y hxy=>by
         split at hxy<;>split at hxy<;>omega) fun j e' q=>by
         rw[bH]at q
         refine ⟨e',?_,rfl⟩
         split at q
         ·rename_i hj;simp only[if_pos hj];exact q
         ·rename_i hj;simp only[if_neg hj];exact q)
      exact ⟨.tuple #[],_,c.ι,.inl (cE (by rw[hm];simp only[builtin,Sem.run_bind,bR,Result.andThen_ok,Sem.run_pure])),k2,k1,.v _⟩
     ·rename_i hf
      simp only[zOi,zPi]at he
      obtain ⟨rfl,rfl,rfl⟩:=he
      have g4:=key _ hf
      have bR:(Builtin.delete_ ts type #[.map (some p.B),a.eval k]).run P c.w=.ok (.tuple #[]) { c.w with heap:=c.w.heap.setIfInBounds p.B (.map ents clock) }:=by
       unfold Builtin.delete_
       rw[h0,show (#[Value.map (some p.B),a.eval k]:Array Value)[0]?=some (.map (some p.B)) from rfl,show (#[Value.map (some p.B),a.eval k]:Array Value)[1]?=some (a.eval k) from rfl]
       simp[run_underlying h,MapKept.run_getObj_map hb,G9,MapKept.run_findKey hd g4,Result.andThen,MapKept.run_setObj_map _ hb]
      obtain ⟨k1,k2⟩:=mn hh cT hι eK hb (w':={ c.w with heap:=c.w.heap.setIfInBounds p.B (.map ents clock) }) rfl rfl rfl rfl aX bU
      exact ⟨.tuple #[],_,c.ι,.inl (cE (by rw[hm];simp only[builtin,Sem.run_bind,bR,Result.andThen_ok,Sem.run_pure])),k2,k1,.v _⟩
     ·cases he
   ·cases he
  ·cases he
 ·cases he
theorem Hs {t kt et:TypeId} {m k:Operand} {lk:LK} {i:TypeInfo} {z:Value} (h:P.underlying t=some (.map kt et)) (hl:vV P kt=some lk) (hi:P.info? et=some i) (hz:i.zero=some z)
  (he:eX tm c.hp nx (.ye lk (Qn z) (cO m) (cO k))=some (v,hp',nx')) (ht:fD c tm a) (hh:bf c nx):dr P ⟨dst,.mapEntry t m k,type,pos,after,guard⟩ a c v hp' nx':=by
 simp only[eX]at he
 split at he
 ·rename_i r hx
  split at he
  ·rename_i es cT
   split at he
   ·rename_i G4
    have h1:=aD ht m
    have h2:=aD ht k
    rw[hx]at h1
    generalize ym:a.eval m=ux at h1
    cases h1 with
    |mp hι eK =>
     rename_i p
     obtain ⟨_,ents,clock,hb,aX,bU⟩:=hh.map cT hι eK
     obtain ⟨d,hd,Nv⟩:=rf hl
     have az:=(zE.1 hb).1
     have Is:r<nx:=hh.lt r p hι
     have nY:(zeroValue et).run P c.w=.ok z c.w:=by simp[zeroValue,typeInfo,hi,hz]
     have G9:=fun em=>kJ (P:=P) (w:=c.w) hd Nv em (a.eval k)
     have key:=mM Nv h2 es ents.toList 0 (by simpa using aX.1) (fun i row e h3 h4=>aX.2 i row e h3 (by simpa using h4))
     have fin:∀(w':World) (es':bN) (ents':Array MapEntry) (clock' j:Nat) (e:MapEntry) (vv:AV),w'.heap=c.w.heap.setIfInBounds p.B (.map ents' clock')->w'.os=c.w.os->w'.tape=c.w.tape->w'.output=c.w.output ->
       m8 c es' ents'->lf ents' clock'->ents'[j]?=some e->aC c vv e.val->(Instr.mapEntry t (.map (some p.B)) (a.eval k)).run P c.w=.ok (.tuple #[e.val,goInt e.born]) w' ->
       dr P ⟨dst,.mapEntry t m k,type,pos,after,guard⟩ a c (.bE [vv,.tk (j+1) nx r]) (ab (ab (ab c.hp r (some es')) r none) nx (some es')) (nx+1):=by
      intro w' es' ents' clock' j e vv cv Ay gD gw yu Ep hj l8 bR
      obtain ⟨k1,k2⟩:=mn hh cT hι eK hb cv Ay gD gw yu Ep
      obtain ⟨m1,m2⟩:=ZM k1 (r:=r) (es:=es') (p:=p) (by show ab _ _ _ r=_;simp[ab]) hι (ents:=ents') (clock:=clock') (by show w'.heap[p.B]?=_;rw[cv];simp[az]) (yu.move fun x u g=>g.mono k2) Ep
      refine ⟨.tuple #[e.val,goInt e.born],w',_,.inl (by simp only[execOp,ym];simp[bR]),k2.trans m2,m1,.bE rfl fun q av u g1 g2 => ?_⟩
      match q with
      |0=>simp at g1 g2;subst g1;subst g2;exact l8.mono (k2.trans m2)
      |1 =>
       simp at g1 g2;subst g1;subst g2
       exact .Gb (p:=⟨p.B,3,clock',0,ents'.toList.map (·.born)⟩) (pr:=p) (by simp[cj]) (by simp[cj,show r≠nx by omega,hι]) rfl eK rfl (by simp[zO,hj])
      |q+2=>simp at g1
     split at he
     ·rename_i i v' hf
      simp only[zOi,zPi]at he
      obtain ⟨rfl,rfl,rfl⟩:=he
      obtain ⟨e,g1,g2,g3,g4⟩:=key _ hf
      rw[Nat.zero_add]at g4
      have DA:ents[i]?=some e:=by simpa using g1
      have iR:=(zE.1 DA).1
      let ents':=ents.modify i fun e=>{ e with key:=a.eval k }
      have hsb:Instr.sameBits 10000 e.key (a.eval k)=true:=by
       rw[g3]
       exact tg G4 h2
      have bH:∀j,ents'[j]?=if j=i then some { e with key:=a.eval k } else ents[j]?:=by
       intro j
       simp only[ents',wY]
       by_cases hj:i=j
       ·subst hj;simp[DA]
       ·simp[hj,Ne.symm hj]
      refine fin { c.w with heap:=c.w.heap.setIfInBounds p.B (.map ents' clock) } (es.set i [ev tm (cO k),v']) ents' clock i { e with key:=a.eval k } v' rfl rfl rfl rfl ⟨by simp[ents',aX.1],fun j l e' q1 q2 => ?_⟩ (bU.sub (zD _) id (fun _ _ h=>h) fun j e' q => ?_) (by rw[bH];simp) g2 ?_
      ·rw[ww]at q1
       rw[bH]at q2
       by_cases hj:i=j
       ·subst hj
        rw[if_pos rfl]at q2
        simp only[zOi]at q2;subst q2
        simp only[if_true]at q1
        split at q1
        ·simp only[zOi]at q1;subst q1
         exact ⟨_,_,rfl,h2,g2⟩
        ·cases q1
       ·rw[if_neg hj]at q1
        rw[if_neg (Ne.symm hj)]at q2
        exact aX.2 j l e' q1 q2
      ·rw[bH]at q
       split at q
       ·rename_i hj;subst hj
        simp only[zOi]at q;subst q
        exact ⟨e,DA,rfl⟩
       ·exact ⟨e',q,rfl⟩
      ·unfold Instr.mapEntry
       simp[run_underlying h,MapKept.run_getObj_map hb,G9,MapKept.run_findKey hd g4,Result.andThen,DA,Instr.keyThatStays,hsb,MapKept.run_setObj_map _ hb,ents']
     ·rename_i hf
      simp only[zOi,zPi]at he
      obtain ⟨rfl,rfl,rfl⟩:=he
      have g4:=key _ hf
      let ents':=ents.push { key:=a.eval k,val:=z,born:=clock }
      have bH:∀j,ents'[j]?=if j=ents.size then some { key:=a.eval k,val:=z,born:=clock } else ents[j]?:=by
       intro j
       simp only[ents',wW]
      refine fin { c.w with heap:=c.w.heap.setIfInBounds p.B (.map ents' (clock+1)) } (es++[[ev tm (cO k),Qn z]]) ents' (clock+1) es.length { key:=a.eval k,val:=z,born:=clock } (Qn z) rfl rfl rfl rfl ⟨by simp[ents',aX.1],fun j l e' q1 q2 => ?_⟩ ⟨fun j e' q => ?_,fun j j' e1 e2 q1 q2 q3 => ?_⟩ (by rw[bH,aX.1];simp) (tu c z) ?_
      ·rw[bH]at q2
       by_cases hj:j=ents.size
       ·rw[if_pos hj]at q2
        simp only[zOi]at q2;subst q2
        rw[za (by rw[aX.1];omega),hj,aX.1,Nat.sub_self]at q1
        simp at q1;subst q1
        exact ⟨_,_,rfl,h2,tu c z⟩
       ·rw[if_neg hj]at q2
        have tJ:=(zE.1 q2).1
        rw[zR (by rw[aX.1];exact tJ)]at q1
        exact aX.2 j l e' q1 q2
      ·rw[bH]at q
       split at q
       ·simp only[zOi]at q;subst q;exact Nat.lt_succ_self _
       ·exact Nat.lt_succ_of_lt (bU.1 j e' q)
      ·rw[bH]at q1 q2
       split at q1
       ·rename_i hj
        simp only[zOi]at q1;subst q1
        split at q2
        ·rename_i hj';omega
        ·have:=bU.1 j' e2 q2
         simp at q3;omega
       ·split at q2
        ·simp only[zOi]at q2;subst q2
         have:=bU.1 j e1 q1
         simp at q3;omega
        ·exact bU.2 j j' e1 e2 q1 q2 q3
      ·unfold Instr.mapEntry
       simp[run_underlying h,MapKept.run_getObj_map hb,G9,MapKept.run_findKey hd g4,nY,Result.andThen,MapKept.run_setObj_map _ hb,ents']
     ·cases he
   ·cases he
  ·cases he
 ·cases he
theorem E3 {t:TypeId} {m s x:Operand} (he:eX tm c.hp nx (.tC (cO m) (cO s) (cO x))=some (v,hp',nx')) (ht:fD c tm a) (hh:bf c nx) :
  dr P ⟨dst,.entryStore t m s x,type,pos,after,guard⟩ a c v hp' nx':=by
 simp only[eX]at he
 split at he
 ·rename_i r i q r' hm hs
  split at he
  ·rename_i GR
   subst GR
   split at he
   ·rename_i es cT
    split at he
    ·rename_i kk vv eb
     simp only[zOi,zPi]at he
     obtain ⟨rfl,rfl,rfl⟩:=he
     have h1:=aD ht m
     have h2:=aD ht s
     have h3:=aD ht x
     rw[hm]at h1
     rw[hs]at h2
     generalize hum:a.eval m=um at h1
     generalize VR:a.eval s=us at h2
     cases h1 with
     |mp hι eK =>
      rename_i pr
      cases h2 with
      |Gb hq hr hmq rR e1 jl =>
       rename_i n p pr'
       rw[hι,zOi]at hr;subst hr
       obtain ⟨_,ents,hb,aX,bU,yJ⟩:=hh.kept cT hq hmq
       have az:=(zE.1 hb).1
       have iR:i<ents.size:=by rw[<-aX.1];exact (zB.1 eb).1
       have rS:ents[i]?=some ents[i]:=zL iR
       have hn:ents[i].born=n:=by
        rw[<-yJ]at jl
        simpa [zO,rS] using jl
       obtain ⟨k',v',g1,g2,g3⟩:=aX.2 i _ _ eb rS
       simp only[List.cons.injEq,and_true]at g1
       obtain ⟨rfl,rfl⟩:=g1
       let ents':=ents.modify i fun e=>{ e with val:=a.eval x }
       have lM:ents.findIdx? (fun e=>(e.born:Int)==(n:Int))=some i:=by
        rw[Array.findIdx?_eq_some_iff_getElem]
        refine ⟨iR,by simp[hn],fun j hj hb => ?_⟩
        have hb:ents[j].born=n:=by
         have h:((ents[j].born:Nat):Int)=(n:Int):=by simpa using hb
         omega
        have:=bU.2 j i _ _ (zL (by omega)) rS (by rw[hb,hn])
        omega
       have bR:(Instr.entryStore t (.map (some pr.B)) (.int .i64 n) (a.eval x)).run P c.w=.ok () { c.w with heap:=c.w.heap.setIfInBounds p.B (.map ents' p.sz) }:=by
        unfold Instr.entryStore
        rw[<-e1]
        simp[MapKept.run_getObj_map hb,asInt,asIntOf,lM,Result.andThen,MapKept.run_setObj_map _ hb,ents']
       have bH:∀j,ents'[j]?=if j=i then some { ents[i] with val:=a.eval x } else ents[j]?:=by
        intro j
        simp only[ents',wY]
        by_cases hj:i=j
        ·subst hj;simp[rS]
        ·simp[hj,Ne.symm hj]
       have yu:m8 c (es.set i [kk,ev tm (cO x)]) ents':=⟨by simp[ents',aX.1],fun j l e' q1 q2=>by
        rw[ww]at q1
        rw[bH]at q2
        by_cases hj:i=j
        ·subst hj
         rw[if_pos rfl]at q2
         simp only[zOi]at q2;subst q2
         simp only[if_true]at q1
         split at q1
         ·simp only[zOi]at q1;subst q1
          exact ⟨_,_,rfl,g2,h3⟩
         ·cases q1
        ·rw[if_neg hj]at q1
         rw[if_neg (Ne.symm hj)]at q2
         exact aX.2 j l e' q1 q2⟩
       have Ep:lf ents' p.sz:=bU.sub (zD _) id (fun _ _ h=>h) fun j e' q=>by
        rw[bH]at q
        split at q
        ·rename_i hj;subst hj
         simp only[zOi]at q;subst q
         exact ⟨_,rS,rfl⟩
        ·exact ⟨e',q,rfl⟩
       have pe:ents'.toList.map (·.born)=p.aux:=by
        rw[<-yJ]
        apply qr
        intro j
        simp only[zO,Array.getElem?_toList,bH]
        split
        ·rename_i hj;subst hj;simp[rS]
        ·rfl
       obtain ⟨k1,k2⟩:=pO hh cT hq hb (fun cs e fz h=>by cases h) (es':=es.set i [kk,ev tm (cO x)]) (w':={ c.w with heap:=c.w.heap.setIfInBounds p.B (.map ents' p.sz) }) rfl rfl rfl rfl yu.nt
        (.inr (.inr (.inr ⟨hmq,ents',rfl,yu,Ep,pe⟩)))
       obtain ⟨m1,m2⟩:=FW k1 (q:=q) (r:=r) (es:=es.set i [kk,ev tm (cO x)]) (by simp[ab]) hq hmq hι eK e1 (hp1:=ab (ab c.hp q (some (es.set i [kk,ev tm (cO x)]))) q none) (fun y=>by simp only[ab];split;exact .inr rfl;exact .inl rfl) (by simp[ab])
       exact ⟨undef,_,c.ι,.inr ⟨by simp only[execOp,hum,VR];simp[bR],rfl⟩,k2.trans m2,m1,.v _⟩
    ·cases he
   ·cases he
  ·cases he
 ·cases he
end
theorem Sn {P:Program} {op:Op} {co:iZ} (hm:m7 P op co) {dst:Option Tmp} {type:TypeId} {pos:String} {after:Array Edge} {guard:Option (Nat×Bool)} {tm:Nat->AV} {a:Act} {c:Cx} {v:AV} {hp':Heap} {nx nx':Nat} (he:eX tm c.hp nx co=some (v,hp',nx')) (ht:fD c tm a) (hh:bf c nx) :
  dr P ⟨dst,op,type,pos,after,guard⟩ a c v hp' nx':=by
 cases hm with
 |look h hl hi hz=>simp[eX]at he
 |len ha h0 h=>simp[eX]at he
 |del ha h0 h hl=>exact Ol ha h0 h hl he ht hh
 |range h=>exact Gq h he ht hh
 |next=>exact Kx he ht hh
 |W4=>exact Lp he ht hh
 |entry h hl hi hz=>exact Hs h hl hi hz he ht hh
 |Hr=>exact E3 he ht hh
 | @mk t kt et h =>
  simp only[eX,zOi,zPi]at he
  obtain ⟨rfl,rfl,rfl⟩:=he
  obtain ⟨h1,h2⟩:=Mt hh (w':={ c.w with heap:=c.w.heap.push (.map #[] 0) }) rfl rfl rfl rfl
  exact ⟨.map (some c.w.heap.size),_,_,.inl rfl,h2,h1,.mp (p:=⟨c.w.heap.size,1,0,0,[]⟩) (by simp[cj]) (by simp)⟩
 | @set t kt et m k x lk h hl =>
  simp only[eX]at he
  split at he
  ·rename_i r hx
   split at he
   ·rename_i es cT
    split at he
    ·rename_i G4
     have h1:=aD ht m
     have h2:=aD ht k
     have h3:=aD ht x
     rw[hx]at h1
     generalize ym:a.eval m=ux at h1
     cases h1 with
     |mp hι eK =>
      rename_i p
      obtain ⟨_,ents,clock,hb,aX,bU⟩:=hh.map cT hι eK
      obtain ⟨d,hd,Nv⟩:=rf hl
      have G9:=fun em=>kJ (P:=P) (w:=c.w) hd Nv em (a.eval k)
      have key:=mM Nv h2 es ents.toList 0 (by simpa using aX.1) (fun i row e h3 h4=>aX.2 i row e h3 (by simpa using h4))
      split at he
      ·rename_i i v' hf
       simp only[zOi,zPi]at he
       obtain ⟨rfl,rfl,rfl⟩:=he
       obtain ⟨e,g1,g2,g3,g4⟩:=key _ hf
       have DA:ents[i]?=some e:=by simpa using g1
       have iR:=(zE.1 DA).1
       let ents':=ents.modify i fun e=>{ e with key:=a.eval k,val:=a.eval x }
       have hsb:Instr.sameBits 10000 e.key (a.eval k)=true:=by
        rw[g3]
        exact tg G4 h2
       have bR:(Instr.mapUpdate t (.map (some p.B)) (a.eval k) (a.eval x)).run P c.w=.ok () { c.w with heap:=c.w.heap.setIfInBounds p.B (.map ents' clock) }:=by
        unfold Instr.mapUpdate
        simp[run_underlying h,MapKept.run_getObj_map hb,G9,MapKept.run_findKey hd g4,Result.andThen,DA,Instr.keyThatStays,hsb,MapKept.run_setObj_map _ hb,ents']
       have bH:∀j,ents'[j]?=if j=i then some { e with key:=a.eval k,val:=a.eval x } else ents[j]?:=by
        intro j
        simp only[ents',wY]
        by_cases hj:i=j
        ·subst hj;simp[DA]
        ·simp[hj,Ne.symm hj]
       obtain ⟨k1,k2⟩:=mn hh cT hι eK hb (w':={ c.w with heap:=c.w.heap.setIfInBounds p.B (.map ents' clock) }) (ents':=ents') (clock':=clock) rfl rfl rfl rfl (es':=es.set i [ev tm (cO k),ev tm (cO x)]) ⟨by simp[ents',aX.1],fun j l e' q1 q2=>by
        rw[ww]at q1
        rw[bH]at q2
        by_cases hj:i=j
        ·subst hj
         rw[if_pos rfl]at q2
         simp only[zOi]at q2;subst q2
         simp only[if_true]at q1
         split at q1
         ·simp only[zOi]at q1;subst q1
          exact ⟨_,_,rfl,h2,h3⟩
         ·cases q1
        ·rw[if_neg hj]at q1
         rw[if_neg (Ne.symm hj)]at q2
         exact aX.2 j l e' q1 q2⟩ ⟨fun j e' q=>by
         rw[bH]at q
         split at q
         ·simp only[zOi]at q;subst q
          exact bU.1 i e DA
         ·exact bU.1 j e' q,fun j j' e1 e2 q1 q2 q3=>by
         have old:∀(j:Nat) (e1:MapEntry),ents'[j]?=some e1->∃e0:MapEntry,ents[j]?=some e0/\e0.born=e1.born:=by
          intro j e1 q
          rw[bH]at q
          split at q
          ·rename_i hj;subst hj
           simp only[zOi]at q;subst q
           exact ⟨e,DA,rfl⟩
          ·exact ⟨e1,q,rfl⟩
         obtain ⟨a1,b1,c1⟩:=old j e1 q1
         obtain ⟨a2,b2,c2⟩:=old j' e2 q2
         exact bU.2 j j' a1 a2 b1 b2 (by rw[c1,c2,q3])⟩
       exact ⟨undef,_,c.ι,.inr ⟨by simp only[execOp,ym];simp[bR],rfl⟩,k2,k1,.v _⟩
      ·rename_i hf
       simp only[zOi,zPi]at he
       obtain ⟨rfl,rfl,rfl⟩:=he
       have g4:=key _ hf
       let ents':=ents.push { key:=a.eval k,val:=a.eval x,born:=clock }
       have bR:(Instr.mapUpdate t (.map (some p.B)) (a.eval k) (a.eval x)).run P c.w=.ok () { c.w with heap:=c.w.heap.setIfInBounds p.B (.map ents' (clock+1)) }:=by
        unfold Instr.mapUpdate
        simp[run_underlying h,MapKept.run_getObj_map hb,G9,MapKept.run_findKey hd g4,Result.andThen,MapKept.run_setObj_map _ hb,ents']
       have bH:∀j,ents'[j]?=if j=ents.size then some { key:=a.eval k,val:=a.eval x,born:=clock } else ents[j]?:=by
        intro j
        simp only[ents',wW]
       obtain ⟨k1,k2⟩:=mn hh cT hι eK hb (w':={ c.w with heap:=c.w.heap.setIfInBounds p.B (.map ents' (clock+1)) }) (ents':=ents') (clock':=clock+1) rfl rfl rfl rfl (es':=es++[[ev tm (cO k),ev tm (cO x)]]) ⟨by simp[ents',aX.1],fun j l e' q1 q2=>by
        rw[bH]at q2
        by_cases hj:j=ents.size
        ·rw[if_pos hj]at q2
         simp only[zOi]at q2;subst q2
         rw[za (by rw[aX.1];omega),hj,aX.1,Nat.sub_self]at q1
         simp at q1;subst q1
         exact ⟨_,_,rfl,h2,h3⟩
        ·rw[if_neg hj]at q2
         have tJ:=(zE.1 q2).1
         rw[zR (by rw[aX.1];exact tJ)]at q1
         exact aX.2 j l e' q1 q2⟩ ⟨fun j e' q=>by
         rw[bH]at q
         split at q
         ·simp only[zOi]at q;subst q;exact Nat.lt_succ_self _
         ·exact Nat.lt_succ_of_lt (bU.1 j e' q),fun j j' e1 e2 q1 q2 q3=>by
         rw[bH]at q1 q2
         split at q1
         ·rename_i hj
          simp only[zOi]at q1;subst q1
          split at q2
          ·rename_i hj';omega
          ·have:=bU.1 j' e2 q2
           simp at q3;omega
         ·split at q2
          ·simp only[zOi]at q2;subst q2
           have:=bU.1 j e1 q1
           simp at q3;omega
          ·exact bU.2 j j' e1 e2 q1 q2 q3⟩
       exact ⟨undef,_,c.ι,.inr ⟨by simp only[execOp,ym];simp[bR],rfl⟩,k2,k1,.v _⟩
      ·cases he
    ·cases he
   ·cases he
  ·cases he
theorem xD (c:Cx) {zv:Value} {sz n:Nat} (hz:zv.cells.size=sz):cu c (List.replicate n (zv.cells.toList.map jk)).flatten (Builtin.zeroCells zv.cells n).toList:=by
 rcases qF sz with h0|h0
 ·have cG:zv.cells.toList=[]:=by
   have:zv.cells.size=0:=by omega
   simpa using this
  have h1:(List.replicate n (zv.cells.toList.map jk)).flatten=[]:=by
   rw[cG]
   simp
  have h2:Builtin.zeroCells zv.cells n = #[]:=jv hz (by rw[h0];simp)
  rw[h1,h2]
  exact ⟨rfl,fun k av u h=>by simp at h⟩
 ·have:=ng c (len:=n) hz h0
  unfold Builtin.zeroCells
  rw[hz]
  rw[hz]at this
  exact this
theorem GI {α β:Type} {f:α->β} {args:Array α} {x:α} (h:args.toList=[x]):args.map f = #[f x]:=by
 have:args = #[x]:=qZ.1 (by simpa using h)
 subst this;simp
theorem Hx {P:Program} {a:Act} {c:Cx} {nx:Nat} (hh:bf c nx) {ts:Array TypeId} {t e:TypeId} {inf:TypeInfo} {args:Array Operand} {x:Operand} {tm:Nat->AV} (ht:fD c tm a) {r i len:Nat} {cap:Option Nat} {es:bN} {z:List AV}
  (h0:ts[0]?=some t) (hu:P.underlying t=some (.slice e)) (hi:P.info? e=some inf) (hz:zeroOf P e=some z) (bz:args.toList=[x])
  (hd:ev tm (cO x)=.sl r inf.size i len cap) (cT:c.hp r=some es) (na:i+len<=es.length) (hzl:z.length=inf.size) (lB:0<inf.size) (hzo:z.all AV.one=true)
  {dst:Option Tmp} {type:TypeId} {pos:String} {after:Array Edge} {guard:Option (Nat×Bool)} :
  dr P ⟨dst,.call ⟨.builtin .clear,args,ts⟩,type,pos,after,guard⟩ a c (.v (.tuple #[])) (ab c.hp r (some (aa es i (List.replicate len z)))) nx:=by
 have hm:=GI (f:=a.eval) bz
 have h1:=aD ht x
 rw[hd]at h1
 generalize hud:a.eval x=ud at h1 hm
 obtain ⟨i',zv,kG,nY,oq,KU⟩:=du hz
 have NA:inf=i':=by rw[hi]at kG;exact Option.some.inj kG
 subst NA
 cases h1 with
 |sl hι Ev ha hl dm hN hE eK =>
  rename_i m p ad
  obtain ⟨hF,cs,ee,fz,g3,g4,g5,g6⟩:=hh.cells cT hι eK
  have aX:∀(k:Nat) (l:List AV),(List.replicate len z)[k]?=some l->l.length=inf.size:=by
   intro k l hk
   rw[wP]at hk
   split at hk
   ·simp only[zOi]at hk;rw[<-hk,hzl]
   ·cases hk
  have y2:cu c (List.replicate len z).flatten (Builtin.zeroCells zv.cells len).toList:=by rw[KU];exact xD c oq
  have vn:(Builtin.zeroCells zv.cells len).toList.length=len*inf.size:=by
   have:=y2.1
   rw[eG _ aX,qG]at this
   exact this.symm
  by_cases K7:len=0
  ·subst K7
   have bR:(Builtin.clear_ ts type #[.slice (some ad) 0 m]).run P c.w=.ok (.tuple #[]) c.w:=by
    unfold Builtin.clear_
    rw[h0,show (#[Value.slice (some ad) 0 m]:Array Value)[0]?=some (.slice (some ad) 0 m) from rfl]
    simp[Sem.run_bind,run_underlying hu,Result.andThen_ok,Sem.run_pure]
   have k7:ab c.hp r (some (aa es i (List.replicate 0 z)))=c.hp:=by
    rw[show List.replicate 0 z=[] from rfl,gW]
    funext q;unfold ab;split
    ·rename_i h;rw[h,cT]
    ·rfl
   refine ⟨_,c.w,c.ι,.inl (cE ?_),?_,?_,.v _⟩
   ·rw[hm]
    simp only[builtin,Sem.run_bind,bR,Result.andThen_ok,Sem.run_pure]
   ·rw[k7];exact Ext.refl c
   ·rw[k7];exact hh
  ·have yC:m≠0:=by omega
   have NO:=ha yC
   have hle:p.O+i*inf.size+(Builtin.zeroCells zv.cells len).toList.length<=cs.size:=by
    rw[g4,vn]
    have:=hN yC
    have h9:i*inf.size+len*inf.size<=(i+m)*inf.size:=by
     rw[<-ze];exact zX _ (by omega)
    omega
   have Nq:∀v∈(Builtin.zeroCells zv.cells len).toList,v.oneCell'=true:=q0 y2 (by
    rw[zQ]
    intro y hy
    obtain ⟨l,uD,Ag⟩:=qe.1 hy
    rw[(List.mem_replicate.1 uD).2]at Ag
    exact zQ.1 hzo y Ag)
   obtain ⟨w',cs',s1,s2,s3,s4,s5,s6⟩:=fT (P:=P) (B:=p.B) (o:=p.O+i*inf.size) (Builtin.zeroCells zv.cells len).toList 0 c.w cs g3 (by omega) (by intro k hk;rw[g4]at hk;exact g5 k hk) Nq
   rw[wF]at s3
   have bR:(Builtin.clear_ ts type #[.slice (some ad) len m]).run P c.w=.ok (.tuple #[]) w':=by
    unfold Builtin.clear_
    rw[h0,show (#[Value.slice (some ad) len m]:Array Value)[0]?=some (.slice (some ad) len m) from rfl]
    have aee:(zeroValue e).run P c.w=.ok zv c.w:=by simp[zeroValue,typeInfo,kG,nY]
    obtain ⟨len,rfl⟩:∃k,len=k+1:=⟨len-1,by omega⟩
    rw[NO]
    simp only[Sem.run_bind,run_underlying hu,Result.andThen_ok,aee,s1,Sem.run_pure]
   have bH:∀q,cs'[q]?=if p.O+i*inf.size<=q/\q<p.O+i*inf.size+(Builtin.zeroCells zv.cells len).toList.length then (Builtin.zeroCells zv.cells len).toList[q-(p.O+i*inf.size)]? else cs[q]?:=by
    intro q
    rw[<-getElem?_arr,s3,getElem?_spliceL _ _ _ (by simpa using hle)]
    simp only[getElem?_arr]
   have abh:(List.replicate len z).length=len:=by simp
   obtain ⟨k1,k2⟩:=kM hh cT hι g3 s2 (by
     have:=congrArg List.length s3
     rw[dV _ _ _ (by simpa using hle)]at this
     simpa using this) s4 s5 s6 (es':=aa es i (List.replicate len z)) (by
    intro k l hk
    have az:i+(List.replicate len z).length<=es.length:=by omega
    rw[getElem?_spliceL _ _ _ az]at hk
    split at hk
    ·rename_i hkr
     obtain ⟨h7,h8⟩:=nu aX y2 _ l hk
     refine ⟨h7.trans Ev.symm,fun j av hj => ?_⟩
     obtain ⟨u,h9,im⟩:=h8 j av hj
     refine ⟨u,?_,im⟩
     have tJ:=(zB.1 hj).1
     rw[Ev,bH]
     have hq:p.O+k*inf.size+j=p.O+i*inf.size+((k-i)*inf.size+j):=by
      have:k*inf.size=i*inf.size+(k-i)*inf.size:=by rw[<-ze];congr 1;omega
      omega
     have fI:(k-i)*inf.size+j<(Builtin.zeroCells zv.cells len).toList.length:=(zB.1 h9).1
     rw[if_pos (by omega),hq,wa];exact h9
    ·rename_i hkr
     obtain ⟨h7,h8⟩:=g6 k l hk
     refine ⟨h7,fun j av hj => ?_⟩
     have tJ:=(zB.1 hj).1
     rw[bH,if_neg]
     ·exact h8 j av hj
     ·rintro ⟨q1,q2⟩
      rw[Ev]at q1 q2 h7
      rw[vn]at q2
      rcases zj k i with az|NC
      ·have:=zX inf.size (qU az)
       rw[qz]at this;omega
      ·have m9:i+len<=k:=by omega
       have:=zX inf.size m9
       rw[ze]at this;omega)
   refine ⟨_,w',c.ι,.inl (cE ?_),k2,k1,.v _⟩
   rw[hm]
   simp only[builtin,Sem.run_bind,bR,Result.andThen_ok,Sem.run_pure]
theorem E2 {P:Program} {b:Builtin} {args:Array Operand} {ts:Array TypeId} {dst:Option Tmp} {type:TypeId} {pos:String} {after:Array Edge} {guard:Option (Nat×Bool)} {co:iZ} {tm:Nat->AV} {a:Act} {c:Cx} {v:AV} {hp':Heap} {nx nx':Nat}
  (ao:cZ P b args.toList ts=some co) (he:eX tm c.hp nx co=some (v,hp',nx')) (ht:fD c tm a) (hh:bf c nx) :
  dr P ⟨dst,.call ⟨.builtin b,args,ts⟩,type,pos,after,guard⟩ a c v hp' nx':=by
 unfold cZ at ao
 split at ao
 ·simp only[zOi]at ao;subst ao;simp[eX]at he
 ·
  rename_i x y bz
  have hm:=mz (f:=a.eval) bz
  have h1:=aD ht x
  have h2:=aD ht y
  split at ao
  ·rename_i e hb eo
   split at ao
   ·rename_i LS
    simp only[zOi]at ao;subst ao
    simp only[zm]at hb
    obtain ⟨pt,hpt,hpu⟩:=hb
    obtain ⟨it,Av⟩:∃it,ts = #[pt,it]:=by
     obtain ⟨l⟩:=ts
     match l,eo with
     |[p,q],_=>simp at hpt;subst hpt;exact ⟨q,rfl⟩
    subst Av
    simp only[eX]at he
    split at he
    ·rename_i hx hy
     simp only[zOi,zPi]at he
     obtain ⟨rfl,rfl,rfl⟩:=he
     rw[hx]at h1;rw[hy]at h2
     refine ⟨.string .empty,c.w,c.ι,.inl (cE ?_),Ext.refl c,hh,.str []⟩
     rw[hm,h1.bZ,h2.bZ]
     simp only[builtin,Sem.run_bind,Lib.run_unsafeString_none,Result.andThen_ok,Sem.run_pure]
    ·rename_i q n hx hy
     split at he
     ·rename_i t' k es FI cT
      split at he
      ·rename_i hn
       obtain ⟨rfl,yB,Ey,Bp⟩:=hn
       simp only[zC,zPi]at he
       obtain ⟨l,hl,rfl,rfl,rfl⟩:=he
       rw[hx]at h1;rw[hy]at h2
       have e2:=h2.bZ
       obtain ⟨m,rfl⟩:∃m:Nat,n=m:=⟨n.toNat,by omega⟩
       generalize e1:a.eval x=xu at h1 hm
       have hbound:m<=9223372036854775807:=by omega
       refine JY (pt:=pt) (it:=it) (ty:=type) (e:=t') hh hpu LS.1 ?_ h1 FI cT (by omega) (by omega) (by simpa using hl) hbound
       intro u w' bR
       refine .inl (cE ?_)
       rw[hm,e2]
       simp only[builtin,Sem.run_bind,bR,Result.andThen_ok,Sem.run_pure]
      ·simp at he
     ·simp at he
    ·simp at he
   ·simp at ao
  ·simp at ao
 ·split at ao<;>simp only[zOi,reduceCtorEq]at ao<;>subst ao<;>simp[eX]at he
 ·split at ao<;>simp only[zOi,reduceCtorEq]at ao<;>subst ao;simp[eX]at he
 ·simp only[zOi]at ao;subst ao;simp[eX]at he
 ·simp only[zOi]at ao;subst ao;simp[eX]at he
 ·
  rename_i s x bz
  have hm:=mz (f:=a.eval) bz
  have h1:=aD ht s
  have h2:=aD ht x
  split at ao
  ·rename_i t t2 Bl Tu
   split at ao
   ·
    rename_i e kk hu uC
    split at ao
    ·rename_i z i hz hi
     split at ao
     ·rename_i Es
      obtain ⟨Es,tL⟩:=Es
      simp only[zOi]at ao;subst ao
      obtain ⟨i',zv,kG,nY,oq,rfl⟩:=du hz
      rw[hi]at kG;simp only[zOi]at kG;subst kG
      simp only[eX]at he
      split at he
      ·rename_i k m hx
       split at he
       ·rename_i hc
        obtain ⟨yC,hmb,Wk,hzl,cS⟩:=hc
        rw[hx]at h2
        have e2:=h2.bZ
        generalize hsu:a.eval s=su at h1 hm
        have aX:∀(q:Nat) (l:List AV),(List.replicate m.toNat (zv.cells.toList.map jk))[q]?=some l->l.length=i.size:=by
         intro q l h
         simp only[wP]at h
         split at h
         ·simp only[zOi]at h;subst h;simpa using oq
         ·simp at h
        refine uS (ts:=ts) (n:=m.toNat) (e:=e) (ty:=type) (x:=.int k m) (arr:=Builtin.zeroCells zv.cells m.toNat) (zc:=zv.cells) hh ?_ h1 (by simp) Es oq aX (xD c oq) ?_ ?_ ?_ he
        ·intro u w' bR
         refine .inl (cE ?_)
         rw[hm,e2]
         simp only[builtin,Sem.run_bind,bR,Result.andThen_ok,Sem.run_pure]
        ·rw[zQ]
         intro l hl
         rw[List.eq_of_mem_replicate hl];exact cS
        ·intro base sLen sCap w' fC bU
         exact AL Bl Tu hu uC hi nY oq yC Wk hmb fC bU
        ·intro base sLen sCap old ho fC IA
         exact AK Bl Tu hu uC hi nY oq yC Wk hmb ho fC tL IA
       ·simp at he
      ·simp at he
     ·simp at ao
    ·simp at ao
   ·rename_i e d2 aaQ hu uC
    split at ao
    ·rename_i z i hz hi
     split at ao
     ·rename_i Es
      obtain ⟨Es,tL⟩:=Es
      simp only[zOi]at ao;subst ao
      obtain ⟨i',zv,kG,nY,oq,rfl⟩:=du hz
      rw[hi]at kG;simp only[zOi]at kG;subst kG
      simp only[eX]at he
      split at he
      ·rename_i new sK
       split at he
       ·rename_i cS
        generalize hsu:a.eval s=su at h1 hm
        generalize hxu:a.eval x=xu at h2 hm
        obtain ⟨e1,e2,e3⟩:=jn (P:=P) hh h2 sK
        obtain ⟨ys,y1,y2⟩:=e3 new.length (zD _)
        rw[zW]at y2
        have hd:∀k,d2≠.int k:=fun k hk=>aaQ k hk
        refine uS (ts:=ts) (n:=new.length) (e:=e) (ty:=type) (x:=xu) (arr:=ys.toArray) (zc:=zv.cells) hh ?_ h1 rfl Es oq e2 (by simpa using y2) cS ?_ ?_ he
        ·intro u w' bR
         refine .inl (cE ?_)
         rw[hm]
         simp only[builtin,Sem.run_bind,bR,Result.andThen_ok,Sem.run_pure]
        ·intro base sLen sCap w' fC bU
         exact oe Bl Tu hu uC hd hi e1 (y1 c.w rfl) fC bU
        ·intro base sLen sCap old ho fC IA
         exact oc Bl Tu hu uC hd hi nY e1 y1 ho fC tL IA
       ·simp at he
      ·simp at he
     ·simp at ao
    ·simp at ao
   ·simp at ao
  ·simp at ao
 ·
  rename_i d s bz
  split at ao
  ·rename_i e Av
   simp only[zm]at Av
   obtain ⟨t,Bl,RG⟩:=Av
   split at ao
   ·rename_i i hi
    split at ao
    ·simp only[zOi]at ao;subst ao
     simp only[eX]at he
     split at he
     ·rename_i src VU
      split at he
      ·rename_i r z i' len cap hd
       split at he
       ·rename_i hz
        subst hz
        split at he
        ·rename_i es cT
         split at he
         ·rename_i hc
          simp only[zOi,zPi]at he
          obtain ⟨rfl,rfl,rfl⟩:=he
          exact Lw hh ht Bl RG hi bz VU hd cT hc.1 hc.2
         ·simp at he
        ·simp at he
       ·simp at he
      ·simp at he
     ·simp at he
    ·simp at ao
   ·simp at ao
  ·simp at ao
 ·
  rename_i x bz
  split at ao
  ·rename_i e Av
   simp only[zm]at Av
   obtain ⟨t,Bl,RG⟩:=Av
   split at ao
   ·rename_i z i hz hi
    split at ao
    ·simp only[zOi]at ao;subst ao
     simp only[eX]at he
     split at he
     ·rename_i r z' i' len cap hd
      split at he
      ·rename_i Eo
       subst Eo
       split at he
       ·rename_i es cT
        split at he
        ·rename_i hc
         simp only[zOi,zPi]at he
         obtain ⟨rfl,rfl,rfl⟩:=he
         exact Hx hh ht Bl RG hi hz bz hd cT hc.1 hc.2.1 hc.2.2.1 hc.2.2.2
        ·simp at he
       ·simp at he
      ·simp at he
     ·simp at he
    ·simp at ao
   ·simp at ao
  ·simp at ao
 ·simp at ao
theorem Lm {P:Program} {own:Bool} {o:Oper} {co:iZ} {tm:Nat->AV} {a:Act} {c:Cx} {v:AV} {hp':Heap} {nx nx':Nat} (hc:dC P own o=some co) (he:eX tm c.hp nx co=some (v,hp',nx')) (ht:fD c tm a) (hh:bf c nx) :
  dr P o a c v hp' nx':=by
 obtain ⟨dst,op,type,pos,after,guard⟩:=o
 unfold dC at hc
 split at hc
 ·rename_i QP ao
  simp only[zOi]at hc;subst hc
  cases op<;>simp only[mg]at ao
  case alloc e =>
   split at ao
   ·simp only[zC]at ao
    obtain ⟨z,hz,rfl⟩:=ao
    simp only[eX,zOi,zPi]at he
    obtain ⟨rfl,rfl,rfl⟩:=he
    exact DJ hh hz
   ·simp only[zC]at ao
    obtain ⟨z,hz,rfl⟩:=ao
    simp only[eX,zOi,zPi]at he
    obtain ⟨rfl,rfl,rfl⟩:=he
    exact HF hh hz
  case panic x=>simp only[zOi]at ao;subst ao;simp[eX]at he
  case box e x =>
   simp only[zOi]at ao;subst ao
   simp only[eX]at he
   split at he
   ·rename_i cS
    simp only[zOi,zPi]at he
    obtain ⟨rfl,rfl,rfl⟩:=he
    exact P4 hh ht cS
   ·simp at he
  case buildSlice t n parts =>
   split at ao
   ·rename_i e hu
    split at ao
    ·rename_i z i hz hi
     split at ao
     ·rename_i LS
      simp only[zOi]at ao;subst ao
      cases own with
      |false=>simp[eX]at he
      |true =>
       simp only[↓reduceIte,eX]at he
       split at he
       ·rename_i es cT
        simp only[zOi,zPi]at he
        obtain ⟨rfl,rfl,rfl⟩:=he
        obtain ⟨i',zv,kG,nY,oq,rfl⟩:=du hz
        rw[hi]at kG;simp only[zOi]at kG;subst kG
        exact J2 hh ht hu hi nY oq LS.1 LS.2 cT
       ·simp at he
     ·simp at ao
    ·simp at ao
   ·simp at ao
  case store t x y =>
   split at ao
   ·rename_i i hi
    split at ao
    ·rename_i h0
     simp only[zOi]at ao;subst ao
     simp only[eX]at he
     split at he
     ·rename_i r j o hx
      split at he
      ·rename_i es cT
       split at he
       ·rename_i l hl
        split at he
        ·rename_i LS
         simp only[zOi,zPi]at he
         obtain ⟨rfl,rfl,rfl⟩:=he
         exact F8 hh ht hi h0 hx cT hl LS.1 LS.2.1 LS.2.2
        ·simp at he
       ·simp at he
      ·simp at he
     ·simp at he
    ·simp at ao
   ·simp at ao
  case convert src CW x =>
   unfold gG at ao
   split at ao
   ·simp only[zOi]at ao;subst ao;simp[eX]at he
   ·simp only[zOi]at ao;subst ao;simp[eX]at he
   ·rename_i e hs hd
    split at ao
    ·rename_i RF
     simp only[zOi]at ao;subst ao
     simp only[eX]at he
     split at he
     ·rename_i l hx
      simp only[zOi,zPi]at he
      obtain ⟨rfl,rfl,rfl⟩:=he
      have h1:=aD ht x
      rw[hx]at h1
      exact Mm hh hs hd RF h1.fL
     ·simp at he
    ·simp at ao
   ·split at ao
    ·simp only[zOi]at ao;subst ao;simp[eX]at he
    ·simp at ao
   ·simp only[zOi]at ao;subst ao;simp[eX]at he
   ·split at ao
    ·simp only[zOi]at ao;subst ao;simp[eX]at he
    ·simp at ao
   ·split at ao
    ·simp only[zOi]at ao;subst ao;simp[eX]at he
    ·simp at ao
   ·simp at ao
  case makeSlice t l n =>
   split at ao
   ·rename_i e hu
    split at ao
    ·rename_i z i hz hi
     split at ao
     ·rename_i LS
      simp only[zOi]at ao;subst ao
      simp only[eX]at he
      split at he
      ·rename_i k1 p k2 q hx hy
       split at he
       ·rename_i hb
        simp only[zOi,zPi]at he
        obtain ⟨rfl,rfl,rfl⟩:=he
        obtain ⟨i',zv,kG,nY,oq,rfl⟩:=du hz
        rw[hi]at kG;simp only[zOi]at kG;subst kG
        have h1:=aD ht l
        have h2:=aD ht n
        rw[hx]at h1;rw[hy]at h2
        exact Cq hh hu hi nY oq LS.1 h1.bZ h2.bZ hb.1 hb.2.1 hb.2.2.1 hb.2.2.2
       ·simp at he
      ·simp at he
     ·simp at ao
    ·simp at ao
   ·simp at ao
  case call cl =>
   obtain ⟨callee,args,ts⟩:=cl
   cases callee with
   |value f =>
    cases f<;>simp only[]at ao<;>(try (split at ao))<;>simp only[zOi,reduceCtorEq]at ao<;>subst ao<;>simp[eX]at he
   |invoke r m=>simp at ao
   |builtin b =>
    simp only[]at ao
    split at ao
    ·exact Od ao he ht hh
    ·exact E2 ao he ht hh
  all_goals (first|(simp at ao;done)|skip)
  all_goals ((try unfold jQ at ao);(repeat' split at ao)<;>(first|(simp only[zOi,reduceCtorEq]at ao;done)|(simp only[zOi]at ao;subst ao;simp[eX]at he;done)|(simp only[zC]at ao;obtain ⟨_,_,rfl⟩:=ao;simp[eX]at he;done)))
 ·cases op
  case binOp =>
   unfold iJ at hc
   (repeat' split at hc)<;>simp only[zOi,reduceCtorEq]at hc<;>subst hc<;>simp[eX]at he
  all_goals exact Sn (dt hc) he ht hh
theorem Aa {R R':aQ} (hR:∀f a h n v h' n' k,R f a h n v h' n' k->R' f a h n v h' n' k) {f args hp nx} {K K':AV->Heap->Nat->Kd->Prop}
  (hK:∀v h n k,K v h n k->K' v h n k) (h:gK R f args hp nx K):gK R' f args hp nx K' :=
 let ⟨v,h',n',k,r,q⟩:=h;⟨v,h',n',k,hR _ _ _ _ _ _ _ _ r,hK _ _ _ _ q⟩
theorem mY {R R':aQ} (hR:∀f a h n v h' n' k,R f a h n v h' n' k->R' f a h n v h' n' k) {co:iZ} {s:St} {K K':AV->Heap->Nat->Kd->Prop}
  (hK:∀v h n k,K v h n k->K' v h n k) (h:eu R co s K):eu R' co s K':=by
 unfold eu at *
 split at h
 ·exact Aa hR hK h
 ·split at h
  ·rename_i hg;(try simp only[hg]);exact Aa hR hK h
  ·exact h.elim
 ·split at h
  ·rename_i he;(try simp only[he]);exact hK _ _ _ _ h
  ·rename_i he;(try simp only[he])
   split at h
   ·rename_i hr;(try simp only[hr]);exact hK _ _ _ _ h
   ·rename_i hr;(try simp only[hr])
    split at h
    ·rename_i hE;(try simp only[hE]);exact hK _ _ _ _ h
    ·exact h.elim
theorem js {R R':aQ} (hR:∀f a h n v h' n' k,R f a h n v h' n' k->R' f a h n v h' n' k):∀(ops:List aK) (s:St) {Q Q':St->Prop},(∀s,Q s->Q' s)->gi R ops s Q->gi R' ops s Q'
 |[],s,Q,Q',hQ,h=>hQ _ h
 |o::rest,s,Q,Q',hQ,h=>by
  unfold gi at *
  split at h
  ·rename_i hw;(try simp only[hw])
   exact mY hR (fun v hp nx _ h=>js hR rest _ hQ h) h
  ·rename_i hw;(try simp only[hw]);exact js hR rest _ hQ h
  ·exact h.elim
theorem jt {R R':aQ} (hR:∀f a h n v h' n' k,R f a h n v h' n' k->R' f a h n v h' n' k):∀(ops:List aK) (s:St) (bh:List Rec) {Q Q':St->List Rec->Prop},(∀s r,Q s r->Q' s r)->dZ R ops s bh Q->dZ R' ops s bh Q'
 |[],s,bh,Q,Q',hQ,h=>hQ _ _ h
 |o::rest,s,bh,Q,Q',hQ,h=>by
  unfold dZ at *
  split at h
  ·rename_i hw;(try simp only[hw])
   exact mY hR (fun v hp nx _ h=>jt hR rest _ _ hQ h) h
  ·rename_i hw;(try simp only[hw]);exact jt hR rest _ _ hQ h
  ·exact h.elim
theorem sE {F F':(eP->St->Prop)->St->Prop} (hF:∀Q Q' s,(∀e s,Q e s->Q' e s)->F Q s->F' Q' s) :
  ∀(n:Nat) (Q Q':eP->St->Prop) (s:St),(∀e s,Q e s->Q' e s)->jb F Q n s->jb F' Q' n s
 |0,_,_,_,_,h=>h.elim
 |n+1,Q,Q',s,hQ,h=>by
  simp only[jb]at *
  refine hF _ _ s (fun e s h => ?_) h
  cases e with
  |normal=>exact sE hF n Q Q' s hQ h
  |exit i=>exact hQ _ _ h
  |ret=>exact hQ _ _ h
theorem z6 {tm:Nat->AV} {hp:Heap} {x:fc} {K K':AV->Heap->Prop} (hK:∀v h,K v h->K' v h) (h:z8 tm hp x K):z8 tm hp x K' :=
 let ⟨q,r,hd,fl,es,h1,h2,h3,h4,h5⟩:=h
 ⟨q,r,hd,fl,es,h1,h2,h3,fun e=>hK _ _ (h4 e),fun j hj=>let ⟨p,g1,g2⟩:=h5 j hj;⟨p,g1,hK _ _ g2⟩⟩
theorem N8 {l:List Nat} {P:Nat->Nat->Prop} (hP:∀m n j,m<=n->P m j->P n j) (h:∀j∈l,∃n,P n j):∃n,∀j∈l,P n j:=by
 induction l with
 |nil=>exact ⟨0,fun j hj=>by simp at hj⟩
 |cons a l ih =>
  obtain ⟨n1,g1⟩:=h a (by simp)
  obtain ⟨n2,g2⟩:=ih fun j hj=>h j (by simp[hj])
  refine ⟨max n1 n2,fun j hj => ?_⟩
  rcases zH.1 hj with rfl|hj
  ·exact hP _ _ _ (Nat.le_max_left _ _) g1
  ·exact hP _ _ _ (Nat.le_max_right _ _) (g2 j hj)
theorem HH {tm:Nat->AV} {hp:Heap} {x:fc} {K:Nat->AV->Heap->Prop} (hK:∀m n,m<=n->∀v h,K m v h->K n v h) (h:z8 tm hp x (fun v h=>∃n,K n v h)):∃n,z8 tm hp x (K n):=by
 obtain ⟨q,r,hd,fl,es,h1,h2,h3,h4,h5⟩:=h
 obtain ⟨n1,g1⟩:∃n,g9 fl 0=[]->K n (.bE [.v (.bool false)]) (ab (ab (ab hp q none) (q+1) none) r (some es)):=by
  by_cases hl:g9 fl 0=[]
  ·obtain ⟨n,g⟩:=h4 hl;exact ⟨n,fun _=>g⟩
  ·exact ⟨0,fun h=>absurd h hl⟩
 obtain ⟨n2,g2⟩:=N8 (P:=fun n j=>∃p,MC hp q fl es j=some p/\K n p.1 p.2) (fun m n j ox ⟨p,e1,e2⟩=>⟨p,e1,hK m n ox _ _ e2⟩) (fun j hj=>let ⟨p,e1,n,e2⟩:=h5 j hj;⟨n,p,e1,e2⟩)
 exact ⟨max n1 n2,q,r,hd,fl,es,h1,h2,h3,fun e=>hK _ _ (Nat.le_max_left _ _) _ _ (g1 e),fun j hj=>let ⟨p,e1,e2⟩:=g2 j hj;⟨p,e1,hK _ _ (Nat.le_max_right _ _) _ _ e2⟩⟩
theorem cX {R R':aQ} (hR:∀f a h n v h' n' k,R f a h n v h' n' k->R' f a h n v h' n' k):∀(c:cC) (Q Q':eP->St->Prop) (s:St),(∀e s,Q e s->Q' e s)->W R c Q s->W R' c Q' s
 |.skip,Q,Q',s,hQ,h=>hQ _ _ h
 |.region ops,Q,Q',s,hQ,h=>js hR ops s (hQ .normal) h
 |.draw pre ops,Q,Q',s,hQ,h=>jt hR ops s [] (fun s r ⟨h1,h2⟩=>⟨h1,hQ _ _ h2⟩) h
 |.seq a b,Q,Q',s,hQ,h=>by
  unfold W at *
  refine cX hR a _ _ s (fun e s h => ?_) h
  cases e with
  |normal=>exact cX hR b Q Q' s hQ h
  |exit i=>exact hQ _ _ h
  |ret=>exact hQ _ _ h
 |.cond c a b,Q,Q',s,hQ,h=>by
  unfold W at *
  split at h
  ·rename_i hc;(try simp only[hc])
   split at h
   ·rename_i ht;simp only[ht,if_true];exact cX hR a Q Q' s hQ h
   ·rename_i ht;simp only[ht];exact cX hR b Q Q' s hQ h
  ·exact h.elim
 |.block id a,Q,Q',s,hQ,h=>by
  unfold W at *
  refine cX hR a _ _ s (fun e s h => ?_) h
  cases e with
  |normal=>exact hQ _ _ h
  |exit i=>dsimp only at *;split at h<;>rename_i hi<;>simp only[hi,if_true,if_false]<;>exact hQ _ _ h
  |ret=>exact hQ _ _ h
 |.loop a,Q,Q',s,hQ,h=>by
  unfold W at *
  obtain ⟨n,h⟩:=h
  exact ⟨n,sE (fun Q Q' s hq h=>cX hR a Q Q' s hq h) n Q Q' s hQ h⟩
 |.exit id,Q,Q',s,hQ,h=>hQ _ _ h
 |.ret,Q,Q',s,hQ,h=>hQ _ _ h
 |.choose d x ops,Q,Q',s,hQ,h=>z6 (fun v hp h=>js hR ops _ (hQ .normal) h) h
 |.ah l,Q,Q',s,hQ,h=>hQ _ _ h
section
variable {R:Nat->aQ} (hR:∀m n,m<=n->∀f a h x v h' x' k,R m f a h x v h' x' k->R n f a h x v h' x' k)
include hR
theorem FD {co:iZ} {s:St} {K:Nat->AV->Heap->Nat->Kd->Prop} (hK:∀m n,m<=n->∀v h x k,K m v h x k->K n v h x k)
  (h:eu (fun f a h x v h' x' k=>∃n,R n f a h x v h' x' k) co s (fun v h x k=>∃n,K n v h x k)):∃n,eu (R n) co s (K n):=by
 have TY:∀f args,gK (fun f a h x v h' x' k=>∃n,R n f a h x v h' x' k) f args s.hp s.nx (fun v h x k=>∃n,K n v h x k)->∃n,gK (R n) f args s.hp s.nx (K n):=by
  rintro f args ⟨v,h',x',k,⟨m,r⟩,n,q⟩
  exact ⟨max m n,v,h',x',k,hR _ _ (Nat.le_max_left _ _) _ _ _ _ _ _ _ _ r,hK _ _ (Nat.le_max_right _ _) _ _ _ _ q⟩
 unfold eu at *
 split at h
 ·exact TY _ _ h
 ·split at h
  ·rename_i hg;(try simp only[hg]);exact TY _ _ h
  ·exact h.elim
 ·split at h
  ·rename_i he;(try simp only[he]);exact h
  ·rename_i he;(try simp only[he])
   split at h
   ·rename_i hr;(try simp only[hr]);exact h
   ·rename_i hr;(try simp only[hr])
    split at h
    ·rename_i hE;(try simp only[hE]);exact h
    ·exact h.elim
theorem rL:∀(ops:List aK) (s:St) {Q:Nat->St->Prop},(∀m n,m<=n->∀s,Q m s->Q n s) ->
  gi (fun f a h x v h' x' k=>∃n,R n f a h x v h' x' k) ops s (fun s=>∃n,Q n s)->∃n,gi (R n) ops s (Q n)
 |[],s,Q,hQ,h=>h
 |o::rest,s,Q,hQ,h=>by
  unfold gi at *
  split at h
  ·rename_i hw;(try simp only[hw])
   refine FD hR (K:=fun n v hp nx k=>gi (R n) rest (s.put o.dst v hp nx) (Q n)) ?_ ?_
   ·exact fun m n ox v hp nx k h=>js (hR m n ox) rest _ (hQ m n ox) h
   ·exact mY (fun _ _ _ _ _ _ _ _ h=>h) (fun v hp nx k h=>rL rest _ hQ h) h
  ·rename_i hw;(try simp only[hw]);exact rL rest _ hQ h
  ·exact h.elim
theorem sY:∀(ops:List aK) (s:St) (bh:List Rec) {Q:Nat->St->List Rec->Prop},(∀m n,m<=n->∀s r,Q m s r->Q n s r) ->
  dZ (fun f a h x v h' x' k=>∃n,R n f a h x v h' x' k) ops s bh (fun s r=>∃n,Q n s r)->∃n,dZ (R n) ops s bh (Q n)
 |[],s,bh,Q,hQ,h=>h
 |o::rest,s,bh,Q,hQ,h=>by
  unfold dZ at *
  split at h
  ·rename_i hw;(try simp only[hw])
   refine FD hR (K:=fun n v hp nx k=>dZ (R n) rest (s.put o.dst v hp nx) (bh++[⟨k,s.hp,hp⟩]) (Q n)) ?_ ?_
   ·exact fun m n ox v hp nx k h=>jt (hR m n ox) rest _ _ (hQ m n ox) h
   ·exact mY (fun _ _ _ _ _ _ _ _ h=>h) (fun v hp nx k h=>sY rest _ _ hQ h) h
  ·rename_i hw;(try simp only[hw]);exact sY rest _ _ hQ h
  ·exact h.elim
theorem nP:∀(c:cC) (s:St) {Q:Nat->eP->St->Prop},(∀m n,m<=n->∀e s,Q m e s->Q n e s) ->
  W (fun f a h x v h' x' k=>∃n,R n f a h x v h' x' k) c (fun e s=>∃n,Q n e s) s->∃n,W (R n) c (Q n) s
 |.skip,s,Q,hQ,h=>h
 |.region ops,s,Q,hQ,h=>rL hR ops s (fun m n h=>hQ m n h .normal) h
 |.draw pre ops,s,Q,hQ,h=>by
  unfold W at *
  refine sY hR ops s [] (Q:=fun n s' bh=>cW pre bh/\Q n .normal s') (fun m n h s r ⟨h1,h2⟩=>⟨h1,hQ m n h _ _ h2⟩) ?_
  exact jt (fun _ _ _ _ _ _ _ _ h=>h) _ _ _ (fun s r ⟨h1,n,h2⟩=>⟨n,h1,h2⟩) h
 |.seq a b,s,Q,hQ,h=>by
  unfold W at *
  refine nP a s (Q:=fun n e s'=>match e with | .normal=>W (R n) b (Q n) s'|e=>Q n e s') ?_ ?_
  ·intro m n ox e s h
   cases e with
   |normal=>exact cX (hR m n ox) b _ _ s (hQ m n ox) h
   |exit i=>exact hQ m n ox _ _ h
   |ret=>exact hQ m n ox _ _ h
  ·refine cX (fun _ _ _ _ _ _ _ _ h=>h) a _ _ s (fun e s h => ?_) h
   cases e with
   |normal=>exact nP b s hQ h
   |exit i=>exact h
   |ret=>exact h
 |.cond c a b,s,Q,hQ,h=>by
  unfold W at *
  split at h
  ·rename_i hc;(try simp only[hc])
   split at h
   ·rename_i ht;simp only[ht,if_true];exact nP a s hQ h
   ·rename_i ht;simp only[ht];exact nP b s hQ h
  ·exact h.elim
 |.block id a,s,Q,hQ,h=>by
  unfold W at *
  refine nP a s (Q:=fun n e s'=>match e with | .exit i=>if i=id then Q n .normal s' else Q n (.exit i) s'|e=>Q n e s') ?_ ?_
  ·intro m n ox e s h
   cases e with
   |normal=>exact hQ m n ox _ _ h
   |exit i=>dsimp only at *;split at h<;>rename_i hi<;>simp only[hi,if_true,if_false]<;>exact hQ m n ox _ _ h
   |ret=>exact hQ m n ox _ _ h
  ·refine cX (fun _ _ _ _ _ _ _ _ h=>h) a _ _ s (fun e s h => ?_) h
   cases e with
   |normal=>exact h
   |exit i=>dsimp only at *;split at h<;>rename_i hi<;>simp only[hi,if_true,if_false]<;>exact h
   |ret=>exact h
 |.loop a,s,Q,hQ,h=>by
  unfold W at *
  obtain ⟨k,h⟩:=h
  have key:∀(k:Nat) (s:St),jb (W (fun f a h x v h' x' k=>∃n,R n f a h x v h' x' k) a) (fun e s=>∃n,Q n e s) k s->∃n,jb (W (R n) a) (Q n) k s:=by
   intro k
   induction k with
   |zero=>intro s h;exact h.elim
   |succ k ih =>
    intro s h
    simp only[jb]at *
    refine nP a s (Q:=fun n e s'=>match e with | .normal=>jb (W (R n) a) (Q n) k s'|e=>Q n e s') ?_ ?_
    ·intro m n ox e s h
     cases e with
     |normal=>exact sE (fun Q Q' s hq h=>cX (hR m n ox) a Q Q' s hq h) k _ _ s (hQ m n ox) h
     |exit i=>exact hQ m n ox _ _ h
     |ret=>exact hQ m n ox _ _ h
    ·refine cX (fun _ _ _ _ _ _ _ _ h=>h) a _ _ s (fun e s h => ?_) h
     cases e with
     |normal=>exact ih s h
     |exit i=>exact h
     |ret=>exact h
  obtain ⟨n,h⟩:=key k s h
  exact ⟨n,k,h⟩
 |.exit id,s,Q,hQ,h=>h
 |.ret,s,Q,hQ,h=>h
 |.choose d x ops,s,Q,hQ,h=>by
  unfold W at *
  exact HH (K:=fun n v hp=>gi (R n) ops ⟨jR s.tm d v,hp,s.nx⟩ (Q n .normal)) (fun m n ox v hp h=>js (hR m n ox) ops _ (fun s=>hQ m n ox .normal s) h)
   (z6 (fun v hp h=>rL hR ops _ (fun m n ox=>hQ m n ox .normal) h) h)
 |.ah l,s,Q,hQ,h=>h
end
theorem uU (E:Env):∀m n,m<=n->∀f a h x v h' x' k,uV E m f a h x v h' x' k->uV E n f a h x v h' x' k
 |0,n,_,_,_,_,_,_,_,_,_,h=>h.elim
 |m+1,0,ox,_,_,_,_,_,_,_,_,h=>absurd ox (by omega)
 |m+1,n+1,ox,f,a,h0,x,v,h',x',k,h=>by
  have ih:=uU E m n (by omega)
  simp only[uV]at *
  rcases h with h|⟨cf,h1,h2,h3⟩|⟨h1,h2,h3,h4,args0,h5,h6⟩|⟨h1,args0,L,k',h2,h3⟩|⟨h1,h2,h3,h4,nx1,h5⟩
  ·exact .inl h
  rotate_left
  ·exact .inr (.inr (.inl ⟨h1,h2,h3,h4,args0,h5,ih _ _ _ _ _ _ _ _ h6⟩))
  ·exact .inr (.inr (.inr (.inl ⟨h1,args0,L,k',h2,ih _ _ _ _ _ _ _ _ h3⟩)))
  ·exact .inr (.inr (.inr (.inr ⟨h1,h2,h3,h4,nx1,ih _ _ _ _ _ _ _ _ h5⟩)))
  ·refine .inr (.inl ⟨cf,h1,h2,?_⟩)
   rcases h3 with ⟨hk,h4,h5,h6,h7⟩|⟨hk,h4⟩
   ·exact .inl ⟨hk,h4,h5,h6,cX ih _ _ _ _ (fun _ _ h=>h) h7⟩
   ·exact .inr ⟨hk,cX ih _ _ _ _ (fun _ _ h=>h) h4⟩
theorem ua {E:Env} {f args hp nx v hp' nx' k} (h:E.Ar f args hp nx v hp' nx' k):aZ E f args hp nx v hp' nx' k :=
 ⟨1,.inl h⟩
theorem FE {E:Env} {f:Nat} {cf:au} {args:List AV} {v:AV} (hf:E.fn f=some cf) (hn:args.length=cf.np) (hc:bT args=true)
  (h:W (aZ E) cf.body (fun e s=>ku e/\∃v1,lY cf.kx s=some v1/\j5 6 s.hp v1=some v) (init args cG 0)) (hp:Heap) (nx:Nat) :
  aZ E f args hp nx v hp nx .p:=by
 obtain ⟨n,h⟩:=nP (R:=uV E) (uU E) cf.body (init args cG 0) (Q:=fun _ e s=>ku e/\∃v1,lY cf.kx s=some v1/\j5 6 s.hp v1=some v) (fun _ _ _ _ _ h=>h)
  (cX (fun _ _ _ _ _ _ _ _ h=>h) _ _ _ _ (fun _ _ h=>⟨0,h⟩) h)
 exact ⟨n+1,.inr (.inl ⟨cf,hf,hn,.inl ⟨rfl,rfl,rfl,hc,h⟩⟩)⟩
theorem JT {E:Env} {f:Nat} {cf:au} {args:List AV} {hp hp':Heap} {nx nx':Nat} {v:AV} (hf:E.fn f=some cf) (hn:args.length=cf.np)
  (h:W (aZ E) cf.body (fun e s=>ku e/\lY cf.kx s=some v/\Sub hp' s.hp/\nx'=s.nx) (init args hp nx)) :
  aZ E f args hp nx v hp' nx' .e:=by
 obtain ⟨n,h⟩:=nP (R:=uV E) (uU E) cf.body (init args hp nx) (Q:=fun _ e s=>ku e/\lY cf.kx s=some v/\Sub hp' s.hp/\nx'=s.nx) (fun _ _ _ _ _ h=>h)
  (cX (fun _ _ _ _ _ _ _ _ h=>h) _ _ _ _ (fun _ _ h=>⟨0,h⟩) h)
 exact ⟨n+1,.inr (.inl ⟨cf,hf,hn,.inr ⟨rfl,h⟩⟩)⟩
theorem m6 {E:Env} {f:Nat} {args args0:List AV} {v:AV} {hp:Heap} {nx:Nat} (hz:dS (j5 6 hp) args=some args0) (hv:v.flat=true) (h:aZ E f args0 cG 0 v cG 0 .p):aZ E f args hp nx v hp nx .e :=
 let ⟨n,h⟩:=h;⟨n+1,.inr (.inr (.inl ⟨rfl,rfl,rfl,hv,args0,hz,h⟩))⟩
theorem ub {E:Env} {f:Nat} {args args0:List AV} {v:AV} {hp hp':Heap} {nx nx':Nat} {k:Kd} (L:List Nat) (hz:dS (fJ 6 (de hp L)) args=some args0) (h:aZ E f args0 (j7 hp L) nx v hp' nx' k):aZ E f args hp nx v hp' nx' .e :=
 let ⟨n,h⟩:=h;⟨n+1,.inr (.inr (.inr (.inl ⟨rfl,args0,L,k,hz,h⟩)))⟩
structure SR (c:Cx) (s:St) (nt:Nat) (a:Act):Prop where
 tm:fD c s.tm a
 sz:a.tmps.size=nt
 df:a.defers=c.F.G
 hp:c.hp=s.hp
 rel:bf c s.nx
def j9 (c:Cx) (k:Kd) (v:AV) (hp':Heap) (nx nx':Nat):Ending->World->Prop:=fun e w' =>
 ∃u ι',e=.returned u/\(k=.p->ι'=c.ι/\hp'=c.hp/\nx'=nx)/\Ext c ⟨c.F,ι',hp',w'⟩/\bf ⟨c.F,ι',hp',w'⟩ nx'/\aC ⟨c.F,ι',hp',w'⟩ v u
def lh (P:Program) (f:Nat) (cargs:Array Value) (w:World) (Q:Ending->World->Prop):Prop :=
 (gg P f=true/\Calls P f cargs w Q)\/∃u w',(callFunc f cargs).run P w=.ok (.value u) w'/\Q (.returned u) w'
theorem lh.mono {P:Program} {f:Nat} {cargs:Array Value} {w:World} {Q Q':Ending->World->Prop} (h:lh P f cargs w Q) (hQ:∀e w',Q e w'->Q' e w'):lh P f cargs w Q':=by
 rcases h with ⟨h1,h2⟩|⟨u,w',h1,h2⟩
 ·exact .inl ⟨h1,Calls.mono h2 hQ⟩
 ·exact .inr ⟨u,w',h1,hQ _ _ h2⟩
structure cY (P:Program) (R:aQ):Prop where
 kind:∀f args hp nx v hp' nx' k,R f args hp nx v hp' nx' k->k=.p\/k=.e
 pure:∀f args hp nx v hp' nx',R f args hp nx v hp' nx' .p->hp'=hp/\nx'=nx/\∀aT ar,R f args aT ar v aT ar .p
 calls:∀f args hp nx v hp' nx' k,R f args hp nx v hp' nx' k->∀(c:Cx) (cargs:Array Value),c.hp=hp->bf c nx->cu c args cargs.toList->lh P f cargs c.w (j9 c k v hp' nx nx')
theorem CO {P:Program} {f:Nat} (h:gg P f=true):∃fn c,P.funcs[f]?=some fn/\(fn.name == "runtime.NumGoroutine")=false/\fn.body=some c:=by
 unfold gg at h
 split at h
 ·rename_i fn hf
  simp only[zM,wh]at h
  obtain ⟨c,hc⟩:=wM.1 h.2
  exact ⟨fn,c,hf,h.1,hc⟩
 ·simp at h
theorem tU {P:Program} {w:World} {f:Nat} (h:gg P f=true) (args:Array Value):(callFunc f args).run P w=.ok (.enter f args) w:=by
 obtain ⟨fn,c,h1,h2,h3⟩:=CO h
 simp only[callFunc,Sem.run_bind,run_program,Result.andThen_ok,h1]
 rw[if_neg (by rw[h2];simp)]
 simp[h3]
theorem D4 (a:Act) (d:Option Nat) (u:Value):(a.put d u).tmps.size=a.tmps.size:=by
 cases d<;>simp[Act.put]
theorem put_defers (a:Act) (d:Option Nat) (u:Value):(a.put d u).defers=a.defers:=by
 cases d<;>rfl
theorem fD.put {c:Cx} {tm:Nat->AV} {a:Act} (h:fD c tm a) {d:Option Nat} {v:AV} {u:Value} (hv:aC c v u) (hd:d.all (· < a.tmps.size)=true) (s:St) (hs:s.tm=tm) (hp:Heap) (nx:Nat):fD c (s.put d v hp nx).tm (a.put d u):=by
 cases d with
 |none=>simp only[St.put,Act.put];rw[hs];exact h
 |some d =>
  simp only[Option.all_some,decide_eq_true_eq]at hd
  intro t
  simp only[St.put,Act.put,jR]
  split
  ·rename_i ht;subst ht
   have:(a.tmps.setIfInBounds t u).getD t undef=u:=by simp[hd]
   rw[this];exact hv
  ·rename_i ht
   have:(a.tmps.setIfInBounds d u).getD t undef=a.tmps.getD t undef:=by
    simp[wQ (fun h=>ht h.symm)]
   rw[this,hs];exact h t
theorem kT {c:Cx} {tm:Nat->AV} {a:Act} {ops:Array Oper} {o:Oper} {g:Option (Nat×Bool)} {b:Bool} (hg:rG ops o.guard=some g) (hw:gL tm g=some b) (ht:fD c tm a) :
  Region.wanted o (yielded ops a.tmps)=b:=by
 unfold rG at hg
 split at hg
 ·rename_i hn
  simp only[zOi]at hg;subst hg
  simp only[gL,zOi]at hw;subst hw
  simp[Region.wanted,hn]
 ·rename_i j want hn
  split at hg
  ·rename_i d hd
   simp only[zOi]at hg;subst hg
   have hr:=ht d
   simp only[gL]at hw
   split at hw
   ·rename_i q hq
    simp only[zOi]at hw;subst hw
    rw[hq]at hr
    have e:=hr.bZ
    have az:d<a.tmps.size:=by
     rcases zj d a.tmps.size with h|h
     ·exact h
     ·rw[wb,qo h]at e;simp[undef]at e
    have bH:a.tmps[d]?=some (.bool q):=by
     rw[wb,zL az]at e
     rw[zL az];simpa using e
    simp only[Region.wanted,hn,yielded,hd,Option.bind_some,bH]
    cases q<;>cases want<;>rfl
   ·rename_i q hq
    simp only[zOi]at hw;subst hw
    rw[hq]at hr
    have e:=hr.bZ
    have hy:yielded ops a.tmps j=none:=by
     simp only[yielded,hd,Option.bind_some]
     rcases zj d a.tmps.size with h|h
     ·rw[wb,zL h]at e
      rw[zL h]
      simp at e
      rw[e]
     ·rw[qo h]
    simp only[Region.wanted,hn,hy]
    rfl
   ·simp at hw
  ·simp at hg
theorem uT {P:Program} {R:aQ} (hR:cY P R) {own:Bool} {o:Oper} {co:iZ} {nt:Nat} {c:Cx} {s:St} {a:Act} {K:AV->Heap->Nat->Kd->Prop} {Q:Exit->Act->World->Prop} {K':Act->World->Prop}
  (hc:dC P own o=some co) (hs:SR c s nt a) (hd:o.dst.all (· < nt)=true) (h:eu R co s K)
  (hK:∀v hp' nx' k c' u,K v hp' nx' k->(k=.p->c'.ι=c.ι/\hp'=s.hp/\nx'=s.nx)->Ext c c'->c'.hp=hp'->bf c' nx'->aC c' v u->K' (a.put o.dst u) c'.w) :
  o.wp P a c.w K' Q:=by
 have value:∀{u:Value} {w':World},iN P o a c.w u w'->K' (a.put o.dst u) w'->o.wp P a c.w K' Q:=by
  intro u w' hr hk
  unfold Oper.wp
  rcases hr with hr|⟨hr,rfl⟩
  ·rw[hr];exact hk
  ·rw[hr];exact hk
 have call:∀{f:Nat} {args:List AV} {cargs:Array Value},gK R f args s.hp s.nx K->cu c args cargs.toList->(execOp a.eval o).run P c.w=(callFunc f cargs).run P c.w->o.wp P a c.w K' Q:=by
  rintro f args cargs ⟨v,hp',nx',k,hr,hk⟩ ha he
  unfold Oper.wp
  rw[he]
  rcases hR.calls _ _ _ _ _ _ _ _ hr c cargs hs.hp hs.rel ha with ⟨hb,hC⟩|⟨u0,w',bR,u,ι',hu,yE,bm,bP,hv⟩
  ·rw[tU hb]
   refine Calls.mono hC ?_
   rintro e w' ⟨u,ι',rfl,yE,bm,bP,hv⟩
   exact hK v hp' nx' k ⟨c.F,ι',hp',w'⟩ u hk (fun h=>by rw[<-hs.hp];exact yE h) bm rfl bP hv
  ·rw[bR]
   simp only[Ending.returned.injEq]at hu;subst hu
   exact hK v hp' nx' k ⟨c.F,ι',hp',w'⟩ u0 hk (fun h=>by rw[<-hs.hp];exact yE h) bm rfl bP hv
 unfold eu at h
 split at h
 ·
  rename_i f args
  obtain ⟨dst,op,type,pos,after,guard⟩:=o
  have EH:∃cl,op=.call cl/\cl.callee=.value (.func f)/\cl.args.toList.map cO=args:=by
   unfold dC at hc
   split at hc
   ·rename_i QP ao
    simp only[zOi]at hc;subst hc
    cases op<;>simp only[mg]at ao
    case call cl =>
     obtain ⟨callee,LD,ts⟩:=cl
     cases callee with
     |value g =>
      cases g<;>simp only[]at ao
      case func f' =>
       simp only[zOi,iZ.call.injEq]at ao
       obtain ⟨rfl,rfl⟩:=ao
       exact ⟨_,rfl,rfl,rfl⟩
      all_goals simp at ao
     |invoke r m=>simp at ao
     |builtin b=>simp only[]at ao;unfold fY cZ at ao;(repeat' split at ao)<;>simp at ao
    all_goals (first|(simp at ao;done)|skip)
    all_goals ((try unfold jQ at ao);(try unfold gG at ao);(repeat' split at ao)<;>(first|(simp at ao;done)|(simp only[zC]at ao;obtain ⟨_,_,h⟩:=ao;cases h;done)))
   ·cases op
    case binOp =>
     unfold iJ at hc
     (repeat' split at hc)<;>simp at hc
    all_goals (exfalso;have FL:=dt hc;cases FL)
  obtain ⟨⟨callee,LD,ts⟩,rfl,NK,rfl⟩:=EH
  simp only at NK;subst NK
  refine call (cargs:=LD.map a.eval) h ?_ ?_
  ·refine ⟨by simp,fun k av u h1 h2 => ?_⟩
   simp only[qx,zO,zC,Array.toList_map,Function.comp_apply]at h1 h2
   obtain ⟨y,hy,rfl⟩:=h1
   obtain ⟨y',Au,rfl⟩:=h2
   rw[hy]at Au;simp only[zOi]at Au;subst Au
   exact aD hs.tm y
  ·simp only[execOp,resolve,Act.eval,Deferred.ofValue,Sem.run_bind,Sem.run_pure,Result.andThen_ok,invoke]
   simp
 ·
  rename_i g args
  split at h
  ·rename_i f first cap hg
   obtain ⟨dst,op,type,pos,after,guard⟩:=o
   have EH:∃cl g',op=.call cl/\cl.callee=.value g'/\cO g'=g/\cl.args.toList.map cO=args:=by
    unfold dC at hc
    split at hc
    ·rename_i QP ao
     simp only[zOi]at hc;subst hc
     cases op<;>simp only[mg]at ao
     case call cl =>
      obtain ⟨callee,LD,ts⟩:=cl
      cases callee with
      |value g =>
       cases g<;>simp only[]at ao
       case func f'=>simp at ao
       all_goals
        simp only[zOi,iZ.kr.injEq]at ao
        obtain ⟨rfl,rfl⟩:=ao
        exact ⟨_,_,rfl,rfl,rfl,rfl⟩
      |invoke r m=>simp at ao
      |builtin b=>simp only[]at ao;unfold fY cZ at ao;(repeat' split at ao)<;>simp at ao
     all_goals (first|(simp at ao;done)|skip)
     all_goals ((try unfold jQ at ao);(try unfold gG at ao);(repeat' split at ao)<;>(first|(simp at ao;done)|(simp only[zC]at ao;obtain ⟨_,_,h⟩:=ao;cases h;done)))
    ·cases op
     case binOp =>
      unfold iJ at hc
      (repeat' split at hc)<;>simp at hc
     all_goals (exfalso;have FL:=dt hc;cases FL)
   obtain ⟨⟨callee,LD,ts⟩,g',rfl,NK,rfl,rfl⟩:=EH
   simp only at NK;subst NK
   have EG:=aD hs.tm g'
   rw[hg]at EG
   generalize hgu:a.eval g'=gu at EG
   cases EG with
   |fn l1 l2 hx hy =>
    rename_i cx cy
    refine call (cargs:=cx++LD.map a.eval++cy) h ?_ ?_
    ·rw[jE,jE]
     refine cu.append (cu.append ⟨by simpa using l1,fun k av u h1 h2=>hx k av u h1 (by rw[<-getElem?_arr];exact h2)⟩ ?_) ⟨by simpa using l2,fun k av u h1 h2=>hy k av u h1 (by rw[<-getElem?_arr];exact h2)⟩
     refine ⟨by simp,fun k av u h1 h2 => ?_⟩
     simp only[qx,zO,zC,Array.toList_map,Function.comp_apply]at h1 h2
     obtain ⟨y,hy,rfl⟩:=h1
     obtain ⟨y',Au,rfl⟩:=h2
     rw[hy]at Au;simp only[zOi]at Au;subst Au
     exact aD hs.tm y
    ·simp only[execOp,resolve,hgu,Deferred.ofValue,Sem.run_bind,Sem.run_pure,Result.andThen_ok,invoke]
  ·exact h.elim
 ·
  split at h
  ·rename_i v hv
   obtain ⟨u,w',hr,hg,l8⟩:=Lk hc hv hs.tm hs.rel
   refine value hr (hK v s.hp s.nx .p { c with w:=w' } u h (fun _=>⟨rfl,rfl,rfl⟩) (Ext.tt (nx:=s.nx) hg) hs.hp (hs.rel.grow hg) l8)
  ·split at h
   ·rename_i v r hv
    rw[<-hs.hp]at hv
    obtain ⟨u,w',hr,hg,l8⟩:=Lj hc hv hs.tm hs.rel
    refine value hr (hK v s.hp s.nx (.r r) { c with w:=w' } u h (fun _=>⟨rfl,rfl,rfl⟩) (Ext.tt (nx:=s.nx) hg) hs.hp (hs.rel.grow hg) l8)
   ·split at h
    ·rename_i v hp' nx' hv
     rw[<-hs.hp]at hv
     obtain ⟨u,w',ι',hr,bm,bP,l8⟩:=Lm hc hv hs.tm hs.rel
     exact value hr (hK v hp' nx' _ ⟨c.F,ι',hp',w'⟩ u h (fun h=>by cases co<;>simp[M3]at h) bm rfl bP l8)
    ·exact h.elim
theorem SR.put {c c':Cx} {s:St} {nt:Nat} {a:Act} (hs:SR c s nt a) {d:Option Nat} (hd:d.all (· < nt)=true) {v:AV} {u:Value} {hp':Heap} {nx':Nat} (he:Ext c c') (hh:c'.hp=hp') (hr:bf c' nx') (hv:aC c' v u) :
  SR c' (s.put d v hp' nx') nt (a.put d u):=by
 refine ⟨(hs.tm.mono he).put hv (by rw[hs.sz];exact hd) s rfl hp' nx',by rw[D4];exact hs.sz,by rw[put_defers,hs.df,he.F],?_,?_⟩
 ·cases d<;>exact hh
 ·cases d<;>exact hr
theorem nR {P:Program} {R:aQ} (hR:cY P R) {ops:Array Oper} {nt:Nat} {own:Nat->Bool}:∀(l:List Oper) (i:Nat) {cl:List aK} {c:Cx} {s:St} {a:Act} {Q:St->Prop} {Q':Exit->Act->World->Prop},
  dp P nt own ops l i=some cl->SR c s nt a->gi R cl s Q->(∀s' c' a',Q s'->SR c' s' nt a'->Ext c c'->Q' .normal a' c'.w)->wpList P ops Q' l a c.w
 |[],i,cl,c,s,a,Q,Q',hc,hs,h,hQ=>by
  simp only[dp,zOi]at hc;subst hc
  exact hQ s c a h hs (Ext.refl c)
 |o::r,i,cl,c,s,a,Q,Q',hc,hs,h,hQ=>by
  simp only[dp]at hc
  split at hc
  ·rename_i co l ho hl
   simp only[zOi]at hc;subst hc
   unfold mR at ho
   split at ho
   ·rename_i Lx g WC hg
    split at ho
    ·rename_i hd
     simp only[zOi]at ho;subst ho
     unfold wpList
     unfold gi at h
     split at h
     ·rename_i hw
      rw[if_pos (kT hg hw hs.tm)]
      refine .inl (uT hR WC hs hd h ?_)
      intro v hp' nx' k c' u hk _ he hh hr hv
      exact nR hR r (i+1) hl (hs.put hd he hh hr hv) hk (fun s' rJ a' q jl AD=>hQ s' rJ a' q jl (he.trans AD))
     ·rename_i hw
      have:=kT hg hw hs.tm
      rw[if_neg (by rw[this];simp)]
      exact nR hR r (i+1) hl (hs.put hd (Ext.refl c) hs.hp hs.rel (.v undef)) h (fun s' rJ a' q jl AD=>hQ s' rJ a' q jl AD)
     ·exact h.elim
    ·simp at ho
   ·simp at ho
  ·simp at hc
def BW:eP->Exit
 |.normal=>.normal
 |.exit i=>.exit i
 |.ret=>.ret
def rN (P:Program) (R:aQ):Prop:=∀(nt:Nat) (own:Nat->Bool) (id:Nat) (ops:Array Oper) (cl:List aK) (c:Cx) (s:St) (a:Act) (Q:St->Prop) (Q':Exit->Act->World->Prop),
  dp P nt own ops ops.toList 0=some cl->(HX ops (xS ops)&&BY cl (xS ops))=true->SR c s nt a->dZ R cl s [] (fun s' bh=>cW (xS ops) bh/\Q s') ->
  (∀s' c' a',Q s'->SR c' s' nt a'->Ext c c'->Q' .normal a' c'.w)->(Code.region id ops true).wp P Q' a c.w
theorem SR.ah {c:Cx} {s:St} {nt:Nat} {a:Act} (h:SR c s nt a) (l:List Nat):SR c ⟨fun t=>if l.contains t=true then s.tm t else .any,s.hp,s.nx⟩ nt a :=
 ⟨fun t=>by
  show aC c (if l.contains t=true then s.tm t else .any) _
  split
  ·exact h.tm t
  ·exact .any _,h.sz,h.df,h.hp,h.rel⟩
theorem tn {a:Code} {o:Option cC} {x:cC} (h:Cl a o=some x):o=some x\/x=T0:=by
 unfold Cl at h
 split at h
 ·exact .inl h
 ·split at h
  ·simp only[zOi]at h;exact .inr h.symm
  ·cases h
theorem Ky {P:Program} {own:Bool} {o:Oper} {x:fc} (h:dC P own o=some (.tB x)):∃x',x=cO x'/\o.op=.next x' false:=by
 obtain ⟨dst,op,type,pos,after,guard⟩:=o
 unfold dC at h
 split at h
 ·rename_i QP ao
  simp only[zOi]at h;subst h
  exfalso
  cases op<;>simp only[mg]at ao
  case call cl =>
   obtain ⟨callee,LD,ts⟩:=cl
   cases callee with
   |value g=>cases g<;>simp at ao
   |invoke r m=>simp at ao
   |builtin b=>simp only[]at ao;unfold fY cZ at ao;(repeat' split at ao)<;>simp at ao
  all_goals (first|(simp at ao;done)|skip)
  all_goals ((try unfold jQ at ao);(try unfold gG at ao);(repeat' split at ao)<;>(first|(simp at ao;done)|(simp only[zC]at ao;obtain ⟨_,_,h⟩:=ao;cases h;done)))
 ·cases op
  case binOp =>
   unfold iJ at h
   (repeat' split at h)<;>simp at h
  all_goals (have FL:=dt h;cases FL)
  exact ⟨_,rfl,rfl⟩
theorem GF {P:Program} {R:aQ} (hR:cY P R) {nt:Nat} {ow:LJ} {own:Nat->Bool} {id:Nat} {ops:Array Oper} {cl:List aK} {c:Cx} {s:St} {a:Act} {Q:eP->St->Prop} {Q':Exit->Act->World->Prop}
  (gf:dp P nt own ops ops.toList 0=some cl) (hs:SR c s nt a) (h:W R (Vl ow id cl) Q s) (hQ:∀e s' c' a',Q e s'->SR c' s' nt a'->Ext c c'->Q' (BW e) a' c'.w):(Code.region id ops false).wp P Q' a c.w:=by
 have plain:∀{Q1:St->Prop},gi R cl s Q1->(∀s',Q1 s'->∀c' a',SR c' s' nt a'->Ext c c'->Q' .normal a' c'.w)->(Code.region id ops false).wp P Q' a c.w :=
  fun h1 h2=>wp_region_list (nR hR ops.toList 0 gf hs h1 (fun s' c' a' q jl he=>h2 s' q c' a' jl he))
 unfold Vl at h
 split at h
 ·rename_i d x rest
  split at h
  ·
   refine wp_region_list ?_
   generalize hl:ops.toList=l at gf
   cases l with
   |nil=>simp[dp]at gf
   |cons o r =>
    simp only[dp]at gf
    split at gf
    ·rename_i co l ho hlr
     simp only[zOi,List.cons.injEq]at gf
     obtain ⟨rfl,rfl⟩:=gf
     unfold mR at ho
     split at ho
     ·rename_i Lx g WC hg
      split at ho
      ·rename_i hd
       simp only[zOi,aK.mk.injEq]at ho
       obtain ⟨e1,rfl,rfl⟩:=ho
       unfold wpList
       rw[if_pos (kT hg rfl hs.tm)]
       refine .inl ?_
       obtain ⟨x',Tr,hop⟩:=Ky WC
       subst Tr
       have h:z8 s.tm s.hp (cO x') fun v hp=>gi R l ⟨jR s.tm d v,hp,s.nx⟩ (Q .normal):=h
       obtain ⟨v,hp',hk,u,w',ι',hr,bm,bP,l8⟩:=Fj (P:=P) (dst:=o.dst) (type:=o.type) (pos:=o.pos) (after:=o.after) (guard:=o.guard) (by rw[hs.hp];exact h) hs.tm hs.rel
       have key:∀{next:Act->World->Prop} {Q2:Exit->Act->World->Prop},next (a.put o.dst u) w'->o.wp P a c.w next Q2:=by
        intro next Q2 hk
        obtain ⟨agb,oop,afK,aga,ad3,ad1⟩:=o
        simp only at hop;subst hop
        unfold Oper.wp
        rcases hr with hr|⟨hr,rfl⟩
        ·rw[hr];exact hk
        ·rw[hr];exact hk
       refine key ?_
       have hs2:SR ⟨c.F,ι',hp',w'⟩ ⟨jR s.tm d v,hp',s.nx⟩ nt (a.put o.dst u):=by
        have:=hs.put (d:=o.dst) hd bm rfl bP l8
        rw[show s.put o.dst v hp' s.nx=⟨jR s.tm d v,hp',s.nx⟩ by rw[e1];rfl]at this
        exact this
       exact nR hR r 1 hlr hs2 hk fun s' c' a' q jl he=>hQ .normal s' c' a' q jl (bm.trans he)
      ·simp at ho
     ·simp at ho
    ·simp at gf
  ·exact plain h fun s' q c' a' jl he=>hQ .normal s' c' a' q jl he
 ·split at h
  ·exact plain h fun s' q c' a' jl he=>hQ .normal s' c' a' q jl he
  ·rename_i l hl
   exact plain h fun s' q c' a' jl he=>hQ .normal _ c' a' q (jl.ah _) he
theorem lV {P:Program} {R:aQ} (hR:cY P R) (hD:rN P R) {nt:Nat} {ow:LJ}:∀(code:Code) {cc:cC} {c:Cx} {s:St} {a:Act} {Q:eP->St->Prop} {Q':Exit->Act->World->Prop},
  cq P nt ow code=some cc->SR c s nt a->W R cc Q s->(∀e s' c' a',Q e s'->SR c' s' nt a'->Ext c c'->Q' (BW e) a' c'.w)->code.wp P Q' a c.w
 |.skip,cc,c,s,a,Q,Q',hc,hs,h,hQ=>by
  simp only[cq,zOi]at hc;subst hc
  exact wp_skip (hQ .normal s c a h hs (Ext.refl c))
 |.region id ops false,cc,c,s,a,Q,Q',hc,hs,h,hQ=>by
  simp only[cq,zC]at hc
  obtain ⟨cl,gf,rfl⟩:=hc
  exact GF hR gf hs h hQ
 |.region id ops true,cc,c,s,a,Q,Q',hc,hs,h,hQ=>by
  simp only[cq]at hc
  split at hc
  ·rename_i cl gf
   split at hc
   ·rename_i vt
    simp only[zOi]at hc;subst hc
    exact hD nt _ id ops cl c s a (Q .normal) Q' gf vt hs h (fun s' c' a' q jl he=>hQ .normal s' c' a' q jl he)
   ·simp at hc
  ·simp at hc
 |.seq x y,cc,c,s,a,Q,Q',hc,hs,h,hQ=>by
  simp only[cq]at hc
  split at hc
  ·rename_i cx cy hx hy
   simp only[zOi]at hc;subst hc
   refine wp_seq (lV hR hD x hx hs h ?_)
   intro e s' c' a' q jl he
   cases e with
   |normal=>exact lV hR hD y hy jl q (fun e s'' rJ a'' q VZ AD=>hQ e s'' rJ a'' q VZ (he.trans AD))
   |exit i=>exact hQ (.exit i) s' c' a' q jl he
   |ret=>exact hQ .ret s' c' a' q jl he
  ·simp at hc
 |.cond x y z,cc,c,s,a,Q,Q',hc,hs,h,hQ=>by
  simp only[cq]at hc
  split at hc
  ·rename_i cy cz hy hz
   simp only[zOi]at hc;subst hc
   unfold W at h
   split at h
   ·rename_i b hb
    have hx:=aD hs.tm x
    rw[hb]at hx
    refine wp_cond (t:=b) hx.bZ ?_
    cases b with
    |true =>
     rcases tn hy with hy|rfl
     ·exact lV hR hD y hy hs h hQ
     ·exact False.elim h
    |false =>
     rcases tn hz with hz|rfl
     ·exact lV hR hD z hz hs h hQ
     ·exact False.elim h
   ·exact h.elim
  ·simp at hc
 |.block id x,cc,c,s,a,Q,Q',hc,hs,h,hQ=>by
  simp only[cq,zC]at hc
  obtain ⟨cx,hx,rfl⟩:=hc
  refine wp_block (lV hR hD x hx hs h ?_)
  intro e s' c' a' q jl he
  cases e with
  |normal=>exact hQ .normal s' c' a' q jl he
  |exit i =>
   dsimp only at q
   simp only[BW,Exit.inBlock]
   split at q
   ·rename_i hi;rw[if_pos hi];exact hQ .normal s' c' a' q jl he
   ·rename_i hi;rw[if_neg hi];exact hQ (.exit i) s' c' a' q jl he
  |ret=>exact hQ .ret s' c' a' q jl he
 |.loop x,cc,c,s,a,Q,Q',hc,hs,h,hQ=>by
  simp only[cq,zC]at hc
  obtain ⟨cx,hx,rfl⟩:=hc
  obtain ⟨n,h⟩:=h
  have key:∀(n:Nat) (c:Cx) (s:St) (a:Act),SR c s nt a->jb (W R cx) Q n s->(∀e s' c' a',Q e s'->SR c' s' nt a'->Ext c c'->Q' (BW e) a' c'.w)->Code.rounds P x Q' n a c.w:=by
   intro n
   induction n with
   |zero=>intro c s a hs h hQ;exact h.elim
   |succ n ih =>
    intro c s a hs h hQ
    rw[rounds_succ]
    refine lV hR hD x hx hs h ?_
    intro e s' c' a' q jl he
    cases e with
    |normal=>exact ih c' s' a' jl q (fun e s'' rJ a'' q VZ AD=>hQ e s'' rJ a'' q VZ (he.trans AD))
    |exit i=>exact hQ (.exit i) s' c' a' q jl he
    |ret=>exact hQ .ret s' c' a' q jl he
  exact wp_loop_rounds n (key n c s a hs h hQ)
 |.exit id,cc,c,s,a,Q,Q',hc,hs,h,hQ=>by
  simp only[cq,zOi]at hc;subst hc
  exact wp_exit (hQ (.exit id) s c a h hs (Ext.refl c))
 |.ret,cc,c,s,a,Q,Q',hc,hs,h,hQ=>by
  simp only[cq,zOi]at hc;subst hc
  exact wp_ret (hQ .ret s c a h hs (Ext.refl c))
 |.rangeFunc ..,cc,c,s,a,Q,Q',hc,hs,h,hQ=>by simp[cq]at hc
 |.scope ..,cc,c,s,a,Q,Q',hc,hs,h,hQ=>by simp[cq]at hc
 |.label ..,cc,c,s,a,Q,Q',hc,hs,h,hQ=>by simp[cq]at hc
 |.goto ..,cc,c,s,a,Q,Q',hc,hs,h,hQ=>by simp[cq]at hc
 |.refuse ..,cc,c,s,a,Q,Q',hc,hs,h,hQ=>by
  simp only[cq,zOi]at hc;subst hc
  exact False.elim h
theorem fi:∀{l:List AV},bT l=true->∀(k:Nat) (av:AV),l[k]?=some av->av.closed=true
 |[],_,k,av,h=>by simp at h
 |x::r,hc,k,av,h=>by
  simp only[bT,zM]at hc
  cases k with
  |zero=>simp at h;subst h;exact hc.1
  |succ k=>exact fi hc.2 k av (by simpa using h)
theorem tT:∀{es:List (List AV)},bl es=true->∀(i:Nat) (l:List AV),es[i]?=some l->∀(j:Nat) (av:AV),l[j]?=some av->av.closed=true
 |[],_,i,l,h,_,_,_=>by simp at h
 |x::r,hc,i,l,h,j,av,hj=>by
  simp only[bl,zM]at hc
  cases i with
  |zero=>simp at h;subst h;exact fi hc.1 j av hj
  |succ i=>exact tT hc.2 i l (by simpa using h) j av hj
theorem sT {c c':Cx} (ck:∀B,c.ro B->c'.ro B) (fg:∀a:Addr,c.ro a.block->c'.w.cell? a=c.w.cell? a) {x:AV} {u:Value} (hc:x.closed=true) (h:aC c x u):aC c' x u:=by
 induction h with
 |v x=>exact .v x
 |str l=>exact .str l
 |ptr h eK=>simp[AV.closed]at hc
 |mp h eK=>simp[AV.closed]at hc
 |it h h' hr hm rq rR e1 e2 e3 e4=>simp[AV.closed]at hc
 |Gb h hr hm rR e1 hs=>simp[AV.closed]at hc
 |rp g h1 h2 h3 ih =>
  rename_i cells B O
  have gf:∀(k:Nat) (av:AV),cells[k]?=some av->av.closed=true:=fi (by simpa [AV.closed] using hc)
  exact .rp g (fun h=>ck _ (h1 h)) (fun k av h=>by rw[fg ⟨B,O+k,none⟩ (h1 (ch h))];exact h2 k av h) (fun k av h=>ih k av h (gf k av h))
 |sl a b d e f g h eK=>simp[AV.closed]at hc
 |nil h=>exact .nil h
 |rs g hlen hl dm eo hr h2 h3 ih =>
  rename_i sz n len es cap a
  have gf:∀(i:Nat) (l:List AV),es[i]?=some l->∀(j:Nat) (av:AV),l[j]?=some av->av.closed=true:=tT (by simpa [AV.closed] using hc)
  exact .rs g hlen hl dm eo (fun h=>⟨ck _ (hr h).1,(hr h).2⟩) (fun i j l av h1 h4=>by rw[fg ⟨a.block,a.off+i*sz+j,none⟩ (hr (ch h1)).1];exact h2 i j l av h1 h4) (fun i j l av h1 h4=>ih i j l av h1 h4 (gf i l h1 j av h4))
 |agg hl hv ih =>
  rename_i cells cs
  have gf:∀(k:Nat) (av:AV),cells[k]?=some av->av.closed=true:=fi (by simpa [AV.closed] using hc)
  exact .agg hl (fun k av u h1 h2=>ih k av u h1 h2 (gf k av h1))
 |bE hl hv ih =>
  rename_i cells cs
  have gf:∀(k:Nat) (av:AV),cells[k]?=some av->av.closed=true:=fi (by simpa [AV.closed] using hc)
  exact .bE hl (fun k av u h1 h2=>ih k av u h1 h2 (gf k av h1))
 |fn h1 h2 hx hy Qu Qt =>
  rename_i f x y cx cy
  simp only[AV.closed,zM]at hc
  exact .fn h1 h2 (fun k av u h3 h4=>Qu k av u h3 h4 (fi hc.1 k av h3)) (fun k av u h3 h4=>Qt k av u h3 h4 (fi hc.2 k av h3))
 |Bi h ih=>exact .Bi (ih (by simpa [AV.closed] using hc))
 |any u=>exact .any u
theorem fw {α β:Type} {f:α->Option β}:∀{l:List α} {l':List β},dS f l=some l'->l'.length=l.length/\∀(k:Nat) (y:β),l'[k]?=some y->∃x,l[k]?=some x/\f x=some y
 |[],l',h=>by simp only[dS,zOi]at h;subst h;exact ⟨rfl,fun k y h=>by simp at h⟩
 |x::r,l',h=>by
  simp only[dS]at h
  split at h
  ·rename_i y l hy hl
   simp only[zOi]at h;subst h
   obtain ⟨h1,h2⟩:=fw hl
   refine ⟨by simp[h1],fun k z hk => ?_⟩
   cases k with
   |zero=>simp at hk;subst hk;exact ⟨x,rfl,hy⟩
   |succ k=>simpa using h2 k z (by simpa using hk)
  ·simp at h
theorem xw {c c2:Cx} {nx:Nat} (hh:bf c nx) (hw:c2.w=c.w) (ck:∀B,c.ro B->c2.ro B) (o8:∀B,c.own B->c2.ro B):∀(d:Nat) {x y:AV} {u:Value},j5 d c.hp x=some y->aC c x u->aC c2 y u
 |0,x,y,u,h,_=>by simp[j5]at h
 |d+1,x,y,u,h,hv=>by
  have ih:=fun {x y:AV} {u:Value}=>xw hh hw ck o8 d (x:=x) (y:=y) (u:=u)
  unfold j5 at h
  split at h
  ·rename_i hc
   simp only[zOi]at h;subst h
   exact sT ck (fun a _=>by rw[hw]) hc hv
  ·split at h
   ·rename_i r sz i len cap hnc
    split at h
    ·rename_i es cT
     split at h
     ·rename_i hle
      simp only[zC]at h
      obtain ⟨es',NG,rfl⟩:=h
      obtain ⟨uD,G6⟩:=fw NG
      have QH:((es.drop i).take len).length=len:=by simp;omega
      cases hv with
      |sl hι hs ha hl dm hN hE eK =>
       rename_i n p a
       obtain ⟨hF,cs,e,fz,h3,h4,h5,h6⟩:=hh.cells cT hι eK
       have bH:∀(k:Nat) (l:List AV),((es.drop i).take len)[k]?=some l->es[i+k]?=some l/\k<len:=by
        intro k l hk
        rw[wB]at hk
        split at hk
        ·rw[wE]at hk;exact ⟨hk,by assumption⟩
        ·simp at hk
       have NO:es'≠[]->a=⟨p.B,p.O+i*sz,none⟩:=by
        intro bt
        have:es'.length≠0:=fun h=>bt (zg.1 h)
        exact ha (by omega)
       have eb:∀(k:Nat) (l':List AV),es'[k]?=some l'->∃l,es[i+k]?=some l/\l'.length=l.length/\∀(j:Nat) (av:AV),l'[j]?=some av->∃An,l[j]?=some An/\j5 d c.hp An=some av:=by
        intro k l' hk
        obtain ⟨l,h7,h8⟩:=G6 k l' hk
        obtain ⟨h9,im⟩:=fw h8
        exact ⟨l,(bH k l h7).1,h9,im⟩
       refine .rs (fun k j=>(cs[p.O+(i+k)*p.sz+j]?).getD undef) (by rw[uD,QH]) hl dm ?_ ?_ ?_ ?_
       ·intro k l' hk
        obtain ⟨l,h7,h8,_⟩:=eb k l' hk
        rw[h8,(h6 _ l h7).1,hs]
       ·intro bt
        rw[NO bt]
        exact ⟨o8 _ ⟨r,p,by simp[cT],hι,rfl⟩,rfl⟩
       ·intro k j l' av hk hj
        obtain ⟨l,h7,h8,h9⟩:=eb k l' hk
        obtain ⟨An,im,vC⟩:=h9 j av hj
        obtain ⟨u,v7,h13⟩:=(h6 _ l h7).2 j An im
        rw[NO (ch hk),hw]
        simp only[World.cell?,h3]
        rw[v7,<-hs,show p.O+i*p.sz+k*p.sz+j=p.O+(i+k)*p.sz+j by rw[ze];omega,v7]
        rfl
       ·intro k j l' av hk hj
        obtain ⟨l,h7,h8,h9⟩:=eb k l' hk
        obtain ⟨An,im,vC⟩:=h9 j av hj
        obtain ⟨u,v7,h13⟩:=(h6 _ l h7).2 j An im
        simp only[v7,wJ]
        exact ih vC h13
     ·simp at h
    ·simp at h
   ·rename_i cs
    simp only[zC]at h
    obtain ⟨cs',G8,rfl⟩:=h
    obtain ⟨uD,G6⟩:=fw G8
    obtain ⟨us,rfl,hl,l8⟩:=hv.rK
    refine .agg (by omega) (fun k av u h1 h2 => ?_)
    obtain ⟨An,h3,h4⟩:=G6 k av h1
    exact ih h4 (l8 k An u h3 h2)
   ·rename_i cs
    simp only[zC]at h
    obtain ⟨cs',G8,rfl⟩:=h
    obtain ⟨uD,G6⟩:=fw G8
    obtain ⟨us,rfl,hl,l8⟩:=hv.xm
    refine .bE (by omega) (fun k av u h1 h2 => ?_)
    obtain ⟨An,h3,h4⟩:=G6 k av h1
    exact ih h4 (l8 k An u h3 h2)
   ·simp at h
def sq (tmps:Array Value):ResultVar->Sem Value
 |.tmp t=>pure (tmps.getD t undef)
 |.cell ad t=>do loadVar t (<-asAddr (tmps.getD ad undef))
def acK (P:Program):ResultVar->RV->Prop
 |.tmp t,.t n=>n=t
 |.cell ad t,.cell Uw n=>Uw=ad/\tY P t=some n
 |_,_=>False
theorem Gn {P:Program} {c:Cx} {s:St} {nt:Nat} {a:Act} (hs:SR c s nt a) {rv:ResultVar} {r:RV} {v:AV}
  (hc:acK P rv r) (h:kg s r=some v) :
  ∃u,(sq a.tmps rv).run P c.w=.ok u c.w/\aC c v u:=by
 cases rv with
 |tmp t =>
  cases r with
  |t n =>
   have hc:n=t:=hc
   subst hc
   simp only[kg,zOi]at h;subst h
   exact ⟨_,rfl,hs.tm n⟩
  |cell=>exact hc.elim
 |cell ad t =>
  cases r with
  |t=>exact hc.elim
  |cell Uw n =>
   have hc:Uw=ad/\tY P t=some n:=hc
   obtain ⟨rfl,hn⟩:=hc
   simp only[kg]at h
   have h1:=hs.tm Uw
   split at h
   ·rename_i r i o hx
    split at h
    ·rename_i es cT
     split at h
     ·rename_i l hl
      rw[hx]at h1
      generalize hu:a.tmps.getD Uw undef=u at h1
      cases h1 with
      |ptr hι eK =>
       rename_i p
       rw[<-hs.hp]at cT
       obtain ⟨hF,cs,e,fz,h3,h4,h5,h6⟩:=hs.rel.cells cT hι eK
       obtain ⟨h7,h8⟩:=h6 i l hl
       obtain ⟨u,h9,im⟩:=lI (P:=P) hn (B:=p.B) (O:=p.O+i*p.sz) (off:=o) (cells:=l) (fun k av hk=>by
        obtain ⟨u,vC,v7⟩:=h8 k av hk
        refine ⟨u,?_,v7⟩
        simp only[World.cell?,h3]
        simpa using vC) h
       exact ⟨u,by simp only[sq,hu,asAddr,Sem.run_bind,Sem.run_pure,Result.andThen_ok,h9],im⟩
     ·simp at h
    ·simp at h
   ·rename_i cells hx
    rw[hx]at h1
    generalize hu:a.tmps.getD Uw undef=u at h1
    cases h1 with
    |rp g ck fg l8 =>
     rename_i B O
     obtain ⟨u,h2,h3⟩:=lI (P:=P) hn (B:=B) (O:=O) (off:=0) (cells:=cells) (fun k av hk=>⟨g k,fg k av hk,l8 k av hk⟩) h
     rw[wF]at h2
     exact ⟨u,by simp only[sq,hu,asAddr,Sem.run_bind,Sem.run_pure,Result.andThen_ok,h2],h3⟩
   ·simp at h
theorem C3 {P:Program} {rv:ResultVar} {XN:List ResultVar} {rs:List RV} (h:jP P (rv::XN)=some rs) :
  ∃r rl,rs=r::rl/\acK P rv r/\jP P XN=some rl:=by
 cases rv with
 |tmp t =>
  simp only[jP,zC]at h
  obtain ⟨l,hl,rfl⟩:=h
  exact ⟨_,_,rfl,rfl,hl⟩
 |cell ad t =>
  simp only[jP]at h
  split at h
  ·rename_i n l hn hl
   simp only[zOi]at h;subst h
   exact ⟨_,_,rfl,⟨rfl,hn⟩,hl⟩
  ·simp at h
theorem sr {P:Program} {c:Cx} {s:St} {nt:Nat} {a:Act} (hs:SR c s nt a):∀{XN:List ResultVar} {rs:List RV} {vs:List AV},jP P XN=some rs->dS (kg s) rs=some vs ->
  ∃us:List Value,(XN.mapM (sq a.tmps)).run P c.w=.ok us c.w/\cu c vs us
 |[],rs,vs,hc,h=>by
  simp only[jP,zOi]at hc;subst hc
  simp only[dS,zOi]at h;subst h
  exact ⟨[],rfl,rfl,fun k av u h=>by simp at h⟩
 |rv::XN,rs,vs,hc,h=>by
  obtain ⟨r,rl,rfl,hm,gf⟩:=C3 hc
  simp only[dS]at h
  split at h
  ·rename_i v l hv hl
   simp only[zOi]at h;subst h
   obtain ⟨u,h1,h2⟩:=Gn (P:=P) hs hm hv
   obtain ⟨us,h3,h4⟩:=sr hs gf hl
   refine ⟨u::us,by simp only[List.mapM_cons,Sem.run_bind,h1,Result.andThen_ok,h3,Sem.run_pure],by simp[h4.1],fun k av x tI m9 => ?_⟩
   cases k with
   |zero=>simp at tI m9;subst tI;subst m9;exact h2
   |succ k=>exact h4.2 k av x (by simpa using tI) (by simpa using m9)
  ·simp at h
theorem vd {P:Program} {c:Cx} {s:St} {nt:Nat} {a:Act} (hs:SR c s nt a) {fn:Func} {rs:List RV} {v:AV} (hc:jP P fn.results.toList=some rs) (h:lY rs s=some v) :
  ∃u,(results fn a.tmps).run P c.w=.ok u c.w/\aC c v u:=by
 have EH:results fn a.tmps=(do let vs <- fn.results.mapM (sq a.tmps);pure (if h:vs.size=1 then vs[0] else .tuple vs)):=by
  unfold results
  congr 1
 rw[EH,Array.mapM_eq_mapM_toList]
 have fin:∀(us:List Value),(fn.results.toList.mapM (sq a.tmps)).run P c.w=.ok us c.w ->
   ((do let vs <- (List.toArray <$> fn.results.toList.mapM (sq a.tmps));pure (if h:vs.size=1 then vs[0] else .tuple vs)):Sem Value).run P c.w=.ok (if h:us.length=1 then us[0] else .tuple us.toArray) c.w:=by
  intro us VR
  simp only[Sem.run_bind,Sem.run_map,VR,Result.andThen_ok,Sem.run_pure]
  by_cases h1:us.length=1<;>simp[h1]
 unfold lY at h
 split at h
 ·rename_i r
  have hex:dS (kg s) [r]=some [v]:=by simp[dS,h]
  obtain ⟨us,h1,h2⟩:=sr hs hc hex
  have hlen:=h2.1
  refine ⟨_,fin us h1,?_⟩
  simp only[zV,zS]at hlen
  rw[dif_pos hlen.symm]
  exact h2.2 0 v _ rfl (by simp)
 ·rename_i bt
  simp only[zC]at h
  obtain ⟨vs,VO,rfl⟩:=h
  obtain ⟨us,h1,h2⟩:=sr hs hc VO
  obtain ⟨uD,_⟩:=fw VO
  have hlen:us.length≠1:=by
   intro h
   rw[<-h2.1,uD]at h
   obtain ⟨r,hr⟩:=List.length_eq_one_iff.1 h
   exact bt r hr
  refine ⟨_,fin us h1,?_⟩
  rw[dif_neg hlen]
  exact .bE (by simpa using h2.1) (fun k av u h3 h4=>h2.2 k av u h3 (by simpa using h4))
theorem uI:∀{l:List AV},EW l=true->∀(k:Nat) (av:AV),l[k]?=some av->av.flat=true
 |[],_,k,av,h=>by simp at h
 |x::r,hc,k,av,h=>by
  simp only[EW,zM]at hc
  cases k with
  |zero=>simp at h;subst h;exact hc.1
  |succ k=>exact uI hc.2 k av (by simpa using h)
theorem EV {c c':Cx} {x:AV} {u:Value} (hc:x.flat=true) (h:aC c x u):aC c' x u:=by
 induction h with
 |v x=>exact .v x
 |str l=>exact .str l
 |ptr h eK=>simp[AV.flat]at hc
 |mp h eK=>simp[AV.flat]at hc
 |it h h' hr hm rq rR e1 e2 e3 e4=>simp[AV.flat]at hc
 |Gb h hr hm rR e1 hs=>simp[AV.flat]at hc
 |rp g h1 h2 h3 ih=>simp[AV.flat]at hc
 |sl a b d e f g h eK=>simp[AV.flat]at hc
 |nil h=>exact .nil h
 |rs g hlen hl dm eo hr h2 h3 ih=>simp[AV.flat]at hc
 |any u=>exact .any u
 |agg hl hv ih =>
  have gf:=uI (by simpa [AV.flat] using hc)
  exact .agg hl (fun k av u h1 h2=>ih k av u h1 h2 (gf k av h1))
 |bE hl hv ih =>
  have gf:=uI (by simpa [AV.flat] using hc)
  exact .bE hl (fun k av u h1 h2=>ih k av u h1 h2 (gf k av h1))
 |fn h1 h2 hx hy Qu Qt=>simp[AV.flat]at hc
 |Bi h ih=>simp[AV.flat]at hc
theorem EU {c c2:Cx} {nx:Nat} (hh:bf c nx) (hw:c2.w=c.w) (hι:c2.ι=c.ι) (ck:∀B,c.ro B->c2.ro B) (o8:∀B,c.own B->c2.ro B):∀(d:Nat) {x y:AV} {u:Value},fJ d c.hp x=some y->aC c x u->aC c2 y u
 |0,x,y,u,h,_=>by simp[fJ]at h
 |d+1,x,y,u,h,hv=>by
  have ih:=fun {x y:AV} {u:Value}=>EU hh hw hι ck o8 d (x:=x) (y:=y) (u:=u)
  by_cases gf:x.closed=true
  ·simp only[fJ,gf,if_true,zOi]at h;subst h
   exact sT ck (fun a _=>by rw[hw]) gf hv
  ·cases x with
   |v x=>simp[AV.closed]at gf
   |str l=>simp[AV.closed]at gf
   |ptr r i o =>
    simp only[fJ,gf,zK,if_false,zOi]at h;subst h
    cases hv with
    |ptr h eK=>exact .ptr (by rw[hι];exact h) eK
   |rp cells=>simp[fJ,gf]at h
   |sl r sz i len cap =>
    cases hr:c.hp r with
    |none =>
     simp only[fJ,gf,zK,if_false,hr,zOi]at h;subst h
     cases hv with
     |sl h1 hs ha hl dm hN hE eK=>exact .sl (by rw[hι];exact h1) hs ha hl dm hN hE eK
    |some es =>
     have hz:j5 (d+1) c.hp (.sl r sz i len cap)=some y:=by
      simp only[fJ,gf,zK,if_false,hr]at h
      simp only[j5,gf,zK,if_false,hr]
      exact h
     exact xw hh hw ck o8 (d+1) hz hv
   |rs n z es cap=>simp[fJ,gf]at h
   |agg cs =>
    simp only[fJ,gf,zK,if_false,zC]at h
    obtain ⟨cs',G8,rfl⟩:=h
    obtain ⟨uD,G6⟩:=fw G8
    obtain ⟨us,rfl,hl,l8⟩:=hv.rK
    refine .agg (by omega) (fun k av u h1 h2 => ?_)
    obtain ⟨An,h3,h4⟩:=G6 k av h1
    exact ih h4 (l8 k An u h3 h2)
   |bE cs =>
    simp only[fJ,gf,zK,if_false,zC]at h
    obtain ⟨cs',G8,rfl⟩:=h
    obtain ⟨uD,G6⟩:=fw G8
    obtain ⟨us,rfl,hl,l8⟩:=hv.xm
    refine .bE (by omega) (fun k av u h1 h2 => ?_)
    obtain ⟨An,h3,h4⟩:=G6 k av h1
    exact ih h4 (l8 k An u h3 h2)
   |fn f a b =>
    simp only[fJ,gf,zK,if_false]at h
    split at h
    ·rename_i a' b' ha hb
     simp only[zOi]at h;subst h
     obtain ⟨uD,G6⟩:=fw ha
     obtain ⟨Ag,hg2⟩:=fw hb
     cases hv with
     |fn h1 h2 hx hy =>
      exact .fn (by omega) (by omega) (fun k av u h3 h4=>by obtain ⟨An,h5,h6⟩:=G6 k av h3;exact ih h6 (hx k An u h5 h4)) (fun k av u h3 h4=>by obtain ⟨An,h5,h6⟩:=hg2 k av h3;exact ih h6 (hy k An u h5 h4))
    ·simp at h
   |Bi t x=>simp[fJ,gf]at h
   |ty t k=>simp[fJ,gf]at h
   |tk k q r=>simp[fJ,gf]at h
   |any=>simp[AV.closed]at gf
   |mp r =>
    simp only[fJ,gf,zK,if_false,zOi]at h;subst h
    cases hv with
    |mp h eK=>exact .mp (by rw[hι];exact h) eK
theorem aC.part {c c':Cx} (hw:c'.w=c.w) (hι:c'.ι=c.ι) (ck:∀B,c.ro B->c'.ro B) {x:AV} {u:Value} (h:aC c x u):aC c' x u:=by
 induction h with
 |v x=>exact .v x
 |str l=>exact .str l
 |ptr h eK=>exact .ptr (by rw[hι];exact h) eK
 |mp h eK=>exact .mp (by rw[hι];exact h) eK
 |it h h' hr hm rq rR e1 e2 e3 e4=>exact .it (by rw[hι];exact h) (by rw[hι];exact h') (by rw[hι];exact hr) hm rq rR e1 e2 e3 e4
 |Gb h hr hm rR e1 hs=>exact .Gb (by rw[hι];exact h) (by rw[hι];exact hr) hm rR e1 hs
 |rp g h1 h2 h3 ih=>exact .rp g (fun h=>ck _ (h1 h)) (fun k av h=>by rw[hw];exact h2 k av h) ih
 |sl h1 hs ha hl dm hN hE eK=>exact .sl (by rw[hι];exact h1) hs ha hl dm hN hE eK
 |nil h=>exact .nil h
 |rs g hlen hl dm eo hr h2 h3 ih=>exact .rs g hlen hl dm eo (fun h=>⟨ck _ (hr h).1,(hr h).2⟩) (fun i j l av h1 h4=>by rw[hw];exact h2 i j l av h1 h4) ih
 |agg hl hv ih=>exact .agg hl ih
 |bE hl hv ih=>exact .bE hl ih
 |fn h1 h2 hx hy Qu Qt=>exact .fn h1 h2 Qu Qt
 |Bi h ih=>exact .Bi ih
 |any u=>exact .any u
theorem GK {P:Program} {R:aQ} (hR:cY P R) {f:Nat} {args args0:List AV} {v:AV} {c:Cx} {nx:Nat} {cargs:Array Value} (hz:dS (j5 6 c.hp) args=some args0) (hv:v.flat=true) (h:R f args0 cG 0 v cG 0 .p) (bP:bf c nx) (bz:cu c args cargs.toList) :
  lh P f cargs c.w (j9 c .e v c.hp nx nx):=by
 let c1:Cx:=⟨c.F,fun _=>none,cG,c.w⟩
 have sJ:∀B,¬c1.own B:=by rintro B ⟨r,p,h,_⟩;exact h rfl
 have yx:bf c1 0:=⟨fun r h=>absurd rfl h,fun r p h=>by simp[c1]at h,fun r es p h=>by simp[c1,cG]at h,fun r r' p p' h=>absurd rfl h,bP.F,⟨fun r t k h=>by simp[c1,cG]at h,fun r t h=>by simp[c1,cG]at h⟩,bP.gl.to rfl (fun B hB=>⟨hB.1,sJ B,hB.2.2⟩) fun _ _=>rfl⟩
 obtain ⟨uD,G6⟩:=fw hz
 have Np:∀B,c.own B->¬c.F B:=by
  rintro B ⟨r,p,e1,e2,rfl⟩
  cases he:c.hp r with
  |none=>exact absurd he e1
  |some es=>exact (bP.rU r es p he e2).1
 have yK:cu c1 args0 cargs.toList:=by
  refine ⟨by rw[uD];exact bz.1,fun k av u e1 e2 => ?_⟩
  obtain ⟨An,h3,h4⟩:=G6 k av e1
  exact xw (c:=c) (c2:=c1) bP rfl (fun B hB=>⟨hB.1,sJ B,hB.2.2⟩) (fun B hB=>⟨bP.oP hB,sJ B,Np B hB⟩) 6 h4 (bz.2 k An u h3 e2)
 refine lh.mono (hR.calls _ _ _ _ _ _ _ _ h c1 cargs rfl yx yK) ?_
 rintro e w' ⟨u,ι',rfl,_,bm,_,l8⟩
 have oa:∀B,B<c.w.heap.size->w'.heap[B]?=c.w.heap[B]?:=fun B hB=>(bm.ah B hB (sJ B)).2
 have NB:Grow c.w w':=⟨bm.size,oa,bm.os,bm.tape,bm.output⟩
 exact ⟨u,c.ι,rfl,(fun h=>by cases h),⟨rfl,fun _ _ h=>h,bm.size,fun B hB ho=>⟨ho,oa B hB⟩,bm.os,bm.tape,bm.output⟩,bP.grow NB,EV hv l8⟩
theorem Hj {P:Program} {R:aQ} (hR:cY P R) {f:Nat} {args args0:List AV} {v:AV} {c:Cx} {nx nx':Nat} {hp':Heap} {k':Kd} {L:List Nat} {cargs:Array Value} (hz:dS (fJ 6 (de c.hp L)) args=some args0) (h:R f args0 (j7 c.hp L) nx v hp' nx' k') (bP:bf c nx) (bz:cu c args cargs.toList) :
  lh P f cargs c.w (j9 c .e v hp' nx nx'):=by
 have ot:Sub (j7 c.hp L) c.hp:=fun r=>by simp only[j7];split<;>simp
 obtain ⟨yx,NF⟩:=B1 bP ot
 let c1:Cx:={ c with hp:=j7 c.hp L }
 have yx:bf c1 nx:=yx
 have NF:Ext c c1:=NF
 let cL:Cx:=⟨⟨fun B=>c.F B\/c1.own B,c.F.G⟩,c.ι,de c.hp L,c.w⟩
 have afR:Sub (de c.hp L) c.hp:=fun r=>by simp only[de];split<;>simp
 have bt:∀r,de c.hp L r≠none->r∈L/\de c.hp L r=c.hp r:=fun r h=>by
  simp only[de]at h ⊢
  split at h
  ·rename_i hr;exact ⟨hr,by rw[if_pos hr]⟩
  ·exact absurd rfl h
 have Nr:∀r,j7 c.hp L r≠none->r∉L/\j7 c.hp L r=c.hp r:=fun r h=>by
  simp only[j7]at h ⊢
  split at h
  ·exact absurd rfl h
  ·rename_i hr;exact ⟨hr,by rw[if_neg hr]⟩
 have Np:∀B,c.own B->¬c.F B:=by
  rintro B ⟨r,p,e1,e2,rfl⟩
  cases he:c.hp r with
  |none=>exact absurd he e1
  |some es=>exact (bP.rU r es p he e2).1
 have IB:∀B,cL.own B->¬c1.own B:=by
  rintro B ⟨r,p,e1,e2,e3⟩ ⟨r',p',e4,e5,e6⟩
  obtain ⟨m1,m2⟩:=bt r e1
  obtain ⟨m3,m4⟩:=Nr r' e4
  have:r=r':=bP.inj r r' p p' (by rw[<-m2];exact e1) (by rw[<-m4];exact e4) e2 e5 (by rw[e3,e6])
  subst this;exact m3 m1
 have hcL:∀B,cL.own B->c.own B:=by
  rintro B ⟨r,p,e1,e2,e3⟩
  exact ⟨r,p,by rw[<-(bt r e1).2];exact e1,e2,e3⟩
 have Lb:∀B,c1.own B->c.own B:=by
  rintro B ⟨r,p,e1,e2,e3⟩
  exact ⟨r,p,by rw[<-(Nr r e1).2];exact e1,e2,e3⟩
 have V2:∀B,c.ro B->cL.ro B:=fun B hB=>⟨hB.1,fun h=>hB.2.1 (hcL B h),fun h=>h.elim hB.2.2 (fun h=>hB.2.1 (Lb B h))⟩
 have aaF:bf cL nx:=by
  refine ⟨?_,bP.lt,?_,?_,?_,bP.ty.to (fun r t k rest hr=>by
    have hr:de c.hp L r=_:=hr
    rw[<-(bt r (by simp[hr])).2];exact hr) (fun _ _ h=>h) (fun B cs t fz hB=>⟨cs,hB,rfl⟩) (fun r _ _ hr=>by
    have hr:de c.hp L r≠none:=hr
    rw[(bt r hr).2]at hr;exact hr),bP.gl.to rfl V2 fun _ _=>rfl⟩
  ·intro r h
   have h:de c.hp L r≠none:=h
   exact bP.uK r (by rw[<-(bt r h).2];exact h)
  ·intro r es p h1 h2
   have v8:de c.hp L r=some es:=h1
   have hn:de c.hp L r≠none:=by simp[v8]
   have h3:c.hp r=some es:=by rw[<-(bt r hn).2];exact v8
   obtain ⟨hF,o,h4,h5⟩:=bP.rU r es p h3 h2
   refine ⟨?_,o,h4,h5.move fun x u h=>aC.part (c:=c) (c':=cL) rfl rfl V2 h⟩
   rintro (h|h)
   ·exact hF h
   ·exact IB p.B ⟨r,p,hn,h2,rfl⟩ h
  ·intro r r' p p' h1 h2 h3 h4 h5
   have h1:de c.hp L r≠none:=h1
   have h2:de c.hp L r'≠none:=h2
   exact bP.inj r r' p p' (by rw[<-(bt r h1).2];exact h1) (by rw[<-(bt r' h2).2];exact h2) h3 h4 h5
  ·rintro B (h|h)
   ·exact bP.F B h
   ·exact bP.oP (Lb B h)
 obtain ⟨uD,G6⟩:=fw hz
 have yK:cu c1 args0 cargs.toList:=by
  refine ⟨by rw[uD];exact bz.1,fun k av u e1 e2 => ?_⟩
  obtain ⟨An,h3,h4⟩:=G6 k av e1
  refine EU (c:=cL) (c2:=c1) aaF rfl rfl ?_ ?_ 6 h4 (aC.part (c:=c) (c':=cL) rfl rfl V2 (bz.2 k An u h3 e2))
  ·intro B hB
   exact ⟨hB.1,fun h=>hB.2.2 (.inr h),fun h=>hB.2.2 (.inl h)⟩
  ·intro B hB
   exact ⟨bP.oP (hcL B hB),IB B hB,Np B (hcL B hB)⟩
 refine lh.mono (hR.calls _ _ _ _ _ _ _ _ h c1 cargs rfl yx yK) ?_
 rintro e w' ⟨u,ι',rfl,_,bm,yw,l8⟩
 exact ⟨u,ι',rfl,(fun h=>by cases h),NF.trans bm,yw,l8⟩
def Cx.df (c:Cx) (D:List Deferred):Cx:=⟨⟨c.F.F,D⟩,c.ι,c.hp,c.w⟩
theorem aC.df {c:Cx} {x:AV} {u:Value} (h:aC c x u) (D:List Deferred):aC (c.df D) x u:=aC.part (c:=c) (c':=c.df D) rfl rfl (fun B hB=>hB) h
theorem bf.df {c:Cx} {nx:Nat} (h:bf c nx) (D:List Deferred):bf (c.df D) nx :=
 ⟨h.uK,h.lt,fun r es p h1 h2=>let ⟨h3,o,h4,h5⟩:=h.rU r es p h1 h2;⟨h3,o,h4,h5.move fun x u g=>g.df D⟩,h.inj,h.F,h.ty,h.gl⟩
theorem cu.df {c:Cx} {x:List AV} {y:List Value} (h:cu c x y) (D:List Deferred):cu (c.df D) x y:=⟨h.1,fun k av u h1 h2=>(h.2 k av u h1 h2).df D⟩
theorem Ext.df {c c':Cx} (h:Ext c c') (D:List Deferred):Ext (c.df D) (c'.df D):=⟨by show (⟨c'.F.F,D⟩:QX)=⟨c.F.F,D⟩;rw[h.F],h.ι,h.size,h.ah,h.os,h.tape,h.output⟩
theorem Cx.af2 {c:Cx} {D D':List Deferred}:(c.df D).df D'=c.df D':=rfl
theorem Cx.adi {c:Cx}:c.df c.F.G=c:=rfl
structure Ae (P:Program) (E:Env):Prop where
 fn:∀f cf,E.fn f=some cf->gg P f=true/\∃ow,vG P ow f=some cf
 Ar:cY P E.Ar
theorem aC.back {c c' c2:Cx} (hι:∀r p,c.ι r=some p->c'.ι r=some p) (Qv:c2.ι=c.ι) (hw:c2.w=c'.w) (ck:∀B,c'.ro B->c2.ro B) {x:AV} {u0 u:Value} (h0:aC c x u0) (h:aC c' x u):aC c2 x u:=by
 induction h generalizing u0 with
 |v x=>exact .v x
 |str l=>exact .str l
 |any u=>exact .any u
 |ptr h hm =>
  cases h0 with
  |ptr g _=>rw[hι _ _ g]at h;cases h;exact .ptr (by rw[Qv];exact g) hm
 |mp h hm =>
  cases h0 with
  |mp g _=>rw[hι _ _ g]at h;cases h;exact .mp (by rw[Qv];exact g) hm
 |it h h' hr hm rq rR e1 e2 e3 e4 =>
  cases h0 with
  |it g g' gr _ _ _ _ _ _ _ =>
   rw[hι _ _ g]at h;cases h
   rw[hι _ _ g']at h';cases h'
   rw[hι _ _ gr]at hr;cases hr
   exact .it (by rw[Qv];exact g) (by rw[Qv];exact g') (by rw[Qv];exact gr) hm rq rR e1 e2 e3 e4
 |Gb h hr hm rR e1 hs =>
  cases h0 with
  |Gb g gr _ _ _ _ =>
   rw[hι _ _ g]at h;cases h
   rw[hι _ _ gr]at hr;cases hr
   exact .Gb (by rw[Qv];exact g) (by rw[Qv];exact gr) hm rR e1 hs
 |rp g hr hc hv ih =>
  cases h0 with
  |rp g0 _ _ VQ=>exact .rp g (fun h=>ck _ (hr h)) (fun k av h=>by rw[hw];exact hc k av h) (fun k av h=>ih k av h (VQ k av h))
 |sl h hs ha hl dm hN hE hm =>
  cases h0 with
  |sl g _ _ _ _ _ _ _=>rw[hι _ _ g]at h;cases h;exact .sl (by rw[Qv];exact g) hs ha hl dm hN hE hm
 |nil h=>exact .nil h
 |rs g hlen hl dm eo hr hc hv ih =>
  cases h0 with
  |rs g0 _ _ _ _ _ _ VQ=>exact .rs g hlen hl dm eo (fun h=>⟨ck _ (hr h).1,(hr h).2⟩) (fun i j l av h1 h2=>by rw[hw];exact hc i j l av h1 h2) (fun i j l av h1 h2=>ih i j l av h1 h2 (VQ i j l av h1 h2))
 |agg hl hv ih =>
  obtain ⟨us,rfl,K7,VQ⟩:=h0.rK
  refine .agg hl (fun k av u h1 h2 => ?_)
  have hk:k<us.size:=by have:=(zB.1 h1).1;omega
  exact ih k av u h1 h2 (VQ k av us[k] h1 (zL hk))
 |bE hl hv ih =>
  obtain ⟨us,rfl,K7,VQ⟩:=h0.xm
  refine .bE hl (fun k av u h1 h2 => ?_)
  have hk:k<us.size:=by have:=(zB.1 h1).1;omega
  exact ih k av u h1 h2 (VQ k av us[k] h1 (zL hk))
 |fn h1 h2 hx hy Qu Qt =>
  cases h0 with
  |fn g1 g2 gx gy =>
   rename_i cx cy
   refine .fn h1 h2 (fun k av u h3 h4 => ?_) (fun k av u h3 h4 => ?_)
   ·have hk:k<cx.size:=by have:=(zB.1 h3).1;omega
    exact Qu k av u h3 h4 (gx k av cx[k] h3 (zL hk))
   ·have hk:k<cy.size:=by have:=(zB.1 h3).1;omega
    exact Qt k av u h3 h4 (gy k av cy[k] h3 (zL hk))
 |Bi h ih =>
  cases h0 with
  |Bi g=>exact .Bi (ih g)
theorem pL.back {c c' c2:Cx} {es:bN} {p:Place} {o0 o:Obj} (h0:pL c es p o0) (h:pL c' es p o) (mv:∀x u0 u,aC c x u0->aC c' x u->aC c2 x u):pL c2 es p o:=by
 rcases h with ⟨g0,cs,e,fz,h1,h2,h3,h4⟩|⟨g0,ents,clock,h1,h2,h3⟩|h|⟨g0,ents,h1,h2,h3⟩
 ·rcases h0 with ⟨_,AI,e0,LY,_,_,_,k4⟩|⟨k0,_⟩|⟨k0,_⟩|⟨k0,_⟩
  ·exact .inl ⟨g0,cs,e,fz,h1,h2,h3,fun i l hl=>⟨(h4 i l hl).1,fun j av hj=>let ⟨u,q1,q2⟩:=(h4 i l hl).2 j av hj;let ⟨u0,_,q3⟩:=(k4 i l hl).2 j av hj;⟨u,q1,mv _ _ _ q3 q2⟩⟩⟩
  all_goals omega
 ·rcases h0 with ⟨k0,_⟩|⟨_,E4,aft,_,k2,_⟩|⟨k0,_⟩|⟨k0,_⟩
  ·omega
  ·refine .inr (.inl ⟨g0,ents,clock,h1,⟨h2.1,fun i l e hl he => ?_⟩,h3⟩)
   obtain ⟨k,v,rfl,q2,q3⟩:=h2.2 i l e hl he
   have hi:i<E4.size:=by have:=(zB.1 hl).1;have:=k2.1;omega
   obtain ⟨k',v',e1,q5,q6⟩:=k2.2 i _ E4[i] hl (zL hi)
   simp only[List.cons.injEq,and_true]at e1
   obtain ⟨rfl,rfl⟩:=e1
   exact ⟨k,v,rfl,mv _ _ _ q5 q2,mv _ _ _ q6 q3⟩
  all_goals omega
 ·exact .inr (.inr (.inl h))
 ·rcases h0 with ⟨k0,_⟩|⟨k0,_⟩|⟨k0,_⟩|⟨_,E4,_,k2,_⟩
  ·omega
  ·omega
  ·omega
  ·refine .inr (.inr (.inr ⟨g0,ents,h1,⟨h2.1,fun i l e hl he => ?_⟩,h3⟩))
   obtain ⟨k,v,rfl,q2,q3⟩:=h2.2 i l e hl he
   have hi:i<E4.size:=by have:=(zB.1 hl).1;have:=k2.1;omega
   obtain ⟨k',v',e1,q5,q6⟩:=k2.2 i _ E4[i] hl (zL hi)
   simp only[List.cons.injEq,and_true]at e1
   obtain ⟨rfl,rfl⟩:=e1
   exact ⟨k,v,rfl,mv _ _ _ q5 q2,mv _ _ _ q6 q3⟩
theorem Ra {P:Program} {R:aQ} (hR:cY P R) {f:Nat} {args:List AV} {hp:Heap} {nx nx1:Nat} {v:AV} (hv:v.flat=true) (h:R f args hp nx v hp nx1 .e) (c:Cx) (cargs:Array Value) (vw:c.hp=hp) (bP:bf c nx) (bz:cu c args cargs.toList) :
  lh P f cargs c.w (j9 c .e v hp nx nx):=by
 refine lh.mono (hR.calls _ _ _ _ _ _ _ _ h c cargs vw bP bz) ?_
 rintro e w' ⟨u,ι',rfl,_,bm,nZ,l8⟩
 subst vw
 let c':Cx:=⟨c.F,ι',c.hp,w'⟩
 let c2:Cx:=⟨c.F,c.ι,c.hp,w'⟩
 have hιe:∀r p,c.ι r=some p->c'.ι r=some p:=bm.ι
 have aaL:∀B,c2.own B->c'.own B:=fun B ⟨r,p,h1,h2,h3⟩=>⟨r,p,h1,hιe r p h2,h3⟩
 have ck:∀B,c'.ro B->c2.ro B:=fun B hB=>⟨hB.1,fun h=>hB.2.1 (aaL B h),hB.2.2⟩
 have mv:∀x u0 u,aC c x u0->aC c' x u->aC c2 x u:=fun x u0 u h0 h=>aC.back (c:=c) (c':=c') (c2:=c2) hιe rfl rfl ck h0 h
 have yw:bf c2 nx:=by
  refine ⟨bP.uK,bP.lt,fun r es p h1 h2 => ?_,bP.inj,nZ.F,⟨fun r t k hr => ?_,fun r t hr => ?_⟩,nZ.gl.to rfl ck fun _ _=>rfl⟩
  ·obtain ⟨_,o0,_,k0⟩:=bP.rU r es p h1 h2
   obtain ⟨hF,o,h3,h4⟩:=nZ.rU r es p h1 (hιe r p h2)
   exact ⟨hF,o,h3,k0.back h4 mv⟩
  ·obtain ⟨p0,AI,LY,g1,_⟩:=bP.ty.1 r t k hr
   obtain ⟨p,cs,fz,h1,h2,h3,h4⟩:=nZ.ty.1 r t k hr
   have:p=p0:=by have e1:=hιe r p0 g1;have h1:c'.ι r=some p:=h1;rw[e1]at h1;cases h1;rfl
   subst this
   exact ⟨p,cs,fz,g1,h2,h3,h4⟩
  ·obtain ⟨p0,AI,LY,g1,_⟩:=bP.ty.2 r t hr
   obtain ⟨p,cs,fz,h1,h3,h4⟩:=nZ.ty.2 r t hr
   have:p=p0:=by have e1:=hιe r p0 g1;have h1:c'.ι r=some p:=h1;rw[e1]at h1;cases h1;rfl
   subst this
   exact ⟨p,cs,fz,g1,h3,h4⟩
 refine ⟨u,c.ι,rfl,(fun h=>by cases h),⟨rfl,fun _ _ h=>h,bm.size,fun B hB ho => ?_,bm.os,bm.tape,bm.output⟩,yw,EV hv l8⟩
 exact ⟨ho,(bm.ah B hB ho).2⟩
theorem Ac {P:Program} {E:Env} (hE:Ae P E) (hD:∀R,cY P R->rN P R):∀n,cY P (uV E n)
 |0=>⟨fun _ _ _ _ _ _ _ _ h=>h.elim,fun _ _ _ _ _ _ _ h=>h.elim,fun _ _ _ _ _ _ _ _ h=>h.elim⟩
 |n+1=>by
  have ih:=Ac hE hD n
  have hDn:=hD _ ih
  refine ⟨?_,?_,?_⟩
  ·intro f args hp nx v hp' nx' k h
   have h:E.Ar f args hp nx v hp' nx' k\/_:=h
   rcases h with h|⟨cf,h1,h2,h3⟩|⟨h1,_⟩|⟨h1,_⟩|⟨h1,_⟩
   ·exact hE.Ar.kind _ _ _ _ _ _ _ _ h
   ·rcases h3 with ⟨hk,_⟩|⟨hk,_⟩
    ·exact .inl hk
    ·exact .inr hk
   ·exact .inr h1
   ·exact .inr h1
   ·exact .inr h1
  ·intro f args hp nx v hp' nx' h
   have h:E.Ar f args hp nx v hp' nx' .p\/_:=h
   rcases h with h|⟨cf,h1,h2,h3⟩|⟨h1,_⟩|⟨h1,_⟩|⟨h1,_⟩
   ·obtain ⟨g1,g2,g3⟩:=hE.Ar.pure _ _ _ _ _ _ _ h
    exact ⟨g1,g2,fun aT ar=>Or.inl (g3 aT ar)⟩
   ·rcases h3 with ⟨_,h4,h5,h6,h7⟩|⟨hk,_⟩
    ·exact ⟨h4,h5,fun aT ar=>Or.inr (.inl ⟨cf,h1,h2,.inl ⟨rfl,rfl,rfl,h6,h7⟩⟩)⟩
    ·cases hk
   ·cases h1
   ·cases h1
   ·cases h1
  ·intro f args hp nx v hp' nx' k h c cargs vw bP bz
   have h:E.Ar f args hp nx v hp' nx' k\/_:=h
   rcases h with h|⟨cf,h1,h2,h3⟩|⟨rfl,rfl,rfl,h4,args0,h5,h6⟩|⟨rfl,args0,L,k',h2,h3⟩|⟨rfl,rfl,rfl,h4,nx1,h5⟩
   ·exact hE.Ar.calls _ _ _ _ _ _ _ _ h c cargs vw bP bz
   rotate_left
   ·subst vw;exact GK ih h5 h4 h6 bP bz
   ·subst vw;exact Hj ih h2 h3 bP bz
   ·exact Ra ih h4 h5 c cargs vw bP bz
   ·obtain ⟨hb,ow,La⟩:=hE.fn f cf h1
    refine .inl ⟨hb,?_⟩
    unfold vG at La
    split at La
    ·rename_i fn hfn
     split at La
     ·rename_i code TW
      split at La
      ·rename_i b rs TZ Et
       split at La
       ·rename_i hnp
        simp only[zOi]at La;subst La
        have o5:cargs.size=fn.params.size+fn.nfree:=by
         have:=bz.1
         simp only[qL]at this
         rw[<-this];exact h2
        have TS:∀(c1:Cx) (hp1:Heap) (nx1:Nat),c1.F.G=[]->c1.hp=hp1->bf c1 nx1->cu c1 args cargs.toList->SR c1 (init args hp1 nx1) fn.ntmps { tmps:=cargs++Array.replicate (fn.ntmps-cargs.size) undef,defers:=[] }:=by
         intro c1 hp1 nx1 e0 e1 e2 e3
         refine ⟨?_,?_,e0.symm,e1,e2⟩
         ·intro t
          simp only[init]
          rcases zj t cargs.size with az|NC
          ·have hl:t<args.length:=by have:=e3.1;simp at this;omega
           rw[zA hl,wJ]
           have hg:(cargs++Array.replicate (fn.ntmps-cargs.size) undef).getD t undef=cargs[t]:=by
            rw[wb,qV az];simp[az]
           rw[hg]
           exact e3.2 t _ _ (zA hl) (by simp[az])
          ·have hl:args.length<=t:=by have:=e3.1;simp at this;omega
           rw[wZ hl,qM]
           have hg:(cargs++Array.replicate (fn.ntmps-cargs.size) undef).getD t undef=undef:=by
            rw[wb,Array.getElem?_append_right NC]
            rcases zj (t-cargs.size) (fn.ntmps-cargs.size) with h|h
            ·simp[h]
            ·rw[qo (by simp;omega)];rfl
           rw[hg];exact .any _
         ·simp;omega
        have leave:∀{c1:Cx} {Q:eP->St->Prop} {R:Ending->World->Prop},W (uV E n) b Q (init args c1.hp 0)->True:=fun _=>trivial
        rcases h3 with ⟨rfl,h4,h5,h6,h7⟩|⟨rfl,h4⟩
        ·
         subst h4;subst h5
         let c1:Cx:=⟨⟨fun B=>c.F B\/c.own B,[]⟩,fun _=>none,cG,c.w⟩
         have sJ:∀B,¬c1.own B:=by rintro B ⟨r,p,h,_⟩;exact h rfl
         have yx:bf c1 0:=by
          refine ⟨fun r h=>absurd rfl h,fun r p h=>by simp[c1]at h,fun r es p h=>by simp[c1,cG]at h,fun r r' p p' h=>absurd rfl h,?_,⟨fun r t k h=>by simp[c1,cG]at h,fun r t h=>by simp[c1,cG]at h⟩,bP.gl.to2 (fun B hB=>⟨hB.1,sJ B,fun h=>h.elim hB.2.2 hB.2.1⟩) fun _ _=>rfl⟩
          rintro B (h|h)
          ·exact bP.F B h
          ·exact bP.oP h
         have yK:cu c1 args cargs.toList:=by
          refine ⟨bz.1,fun k av u e1 e2 => ?_⟩
          refine sT (c:=c) (c':=c1) ?_ (fun a _=>rfl) (fi h6 k av e1) (bz.2 k av u e1 e2)
          intro B hB
          exact ⟨hB.1,sJ B,fun h=>h.elim hB.2.2 hB.2.1⟩
         refine calls_of_wp hfn TW (lV (c:=c1) ih hDn code TZ (TS c1 cG 0 rfl rfl yx yK) h7 ?_)
         rintro e s' c' a' ⟨CJ,v1,vq,CI⟩ jl bm
         obtain ⟨u,hu1,uC⟩:=vd (P:=P) jl Et vq
         have oa:∀B,B<c.w.heap.size->c'.w.heap[B]?=c.w.heap[B]?:=fun B hB=>(bm.ah B hB (sJ B)).2
         let c2:Cx:=⟨c.F,c.ι,c.hp,c'.w⟩
         have vu:Ext c c2:=⟨rfl,fun _ _ h=>h,bm.size,fun B hB ho=>⟨ho,oa B hB⟩,bm.os,bm.tape,bm.output⟩
         have NB:Grow c.w c'.w:=⟨bm.size,oa,bm.os,bm.tape,bm.output⟩
         have yw:bf c2 nx':=bP.grow NB
         have Sd:(c'.F:Nat->Prop)=fun B=>c.F B\/c.own B:=congrArg QX.F bm.F
         have Ex:∀B,c'.own B->¬(c.F B\/c.own B):=by
          rintro B ⟨r,p,e1,e2,rfl⟩
          cases he:c'.hp r with
          |none=>exact absurd he e1
          |some es =>
           have:=(jl.rel.rU r es p he e2).1
           rw[Sd]at this;exact this
         have hvf:aC c2 v u:=by
          refine xw (c2:=c2) jl.rel rfl ?_ ?_ 6 (by rw[jl.hp];exact CI) uC
          ·intro B hB
           have h9:=hB.2.2
           rw[Sd]at h9
           exact ⟨hB.1,fun h=>h9 (.inr h),fun h=>h9 (.inl h)⟩
          ·intro B hB
           have h9:=Ex B hB
           exact ⟨jl.rel.oP hB,fun h=>h9 (.inr h),fun h=>h9 (.inl h)⟩
         have Ew:j9 c .p v hp' nx' nx' (.returned u) c'.w:=⟨u,c.ι,rfl,fun _=>⟨rfl,vw.symm,rfl⟩,by rw[<-vw];exact vu,by rw[<-vw];exact yw,by rw[<-vw];exact hvf⟩
         rcases CJ with rfl|rfl
         ·exact ⟨jl.df.trans (congrArg QX.G bm.F),u,hu1,Ew⟩
         ·exact ⟨jl.df.trans (congrArg QX.G bm.F),u,hu1,Ew⟩
        ·
         refine calls_of_wp hfn TW (lV (c:=c.df []) ih hDn code TZ (TS (c.df []) hp nx rfl vw (bP.df []) (bz.df [])) h4 ?_)
         rintro e s' c' a' ⟨CJ,vq,ot,rfl⟩ jl bm
         obtain ⟨u,hu1,uC⟩:=vd (P:=P) jl Et vq
         have vu:Ext c (c'.df c.F.G):=bm.df c.F.G
         obtain ⟨k1,k2⟩:=B1 (jl.rel.df c.F.G) (hp':=hp') (by show Sub hp' c'.hp;rw[jl.hp];exact ot)
         have hF:(c'.df c.F.G).F=c.F:=vu.F
         have Ew:j9 c .e v hp' nx s'.nx (.returned u) c'.w:=by
          refine ⟨u,c'.ι,rfl,(fun h=>by cases h),?_,?_,?_⟩
          ·have:=vu.trans k2;rw[<-hF];exact this
          ·rw[<-hF];exact k1
          ·rw[<-hF];exact (uC.df c.F.G).mono k2
         rcases CJ with rfl|rfl
         ·exact ⟨jl.df.trans (congrArg QX.G bm.F),u,hu1,Ew⟩
         ·exact ⟨jl.df.trans (congrArg QX.G bm.F),u,hu1,Ew⟩
       ·simp at La
      ·simp at La
     ·simp at La
    ·simp at La
theorem BQ {P:Program} {E:Env} (hE:Ae P E) (hD:∀R,cY P R->rN P R) {f args hp nx v hp' nx' k} (h:aZ E f args hp nx v hp' nx' k) (c:Cx) (cargs:Array Value) (hc:c.hp=hp) (hr:bf c nx) (ha:cu c args cargs.toList) :
  lh P f cargs c.w (j9 c k v hp' nx nx'):=by
 obtain ⟨n,h⟩:=h
 exact (Ac hE hD n).calls _ _ _ _ _ _ _ _ h c cargs hc hr ha
def Qj (fs:Nat->Bool):aQ:=fun f args hp nx v hp' nx' k =>
 fs f=true/\k=.e/\hp'=hp/\nx'=nx/\v=.v (.bool false)/\∃(q sz m r j l:Nat) (c c':Option Nat) (t:TypeId) (es er:bN),
  args=[.sl q sz 0 m c,.sl r sz j l c']/\q≠r/\hp q=some es/\hp (q+1)=some [[.ty t 0],[]]/\hp r=some er/\0<m/\0<l/\0<sz
def UA (P:Program) (fs:Nat->Bool):Prop:=∀f,fs f=true->∃(fn:Func) (tS tR e:TypeId) (size:Nat),P.funcs[f]?=some fn/\(fn.name == "runtime.NumGoroutine")=false/\fn.body.isNone=true/\Extern.findNext fn=none /\
 P.underlying tS=some (.slice e)/\(∀w,(Go.sizeOf e).run P w=.ok size w)/\Extern.find fn=some (Extern.SlicesOverlaps.overlaps #[tS,tS] #[tR])
theorem KH {P:Program} {fs:Nat->Bool} (hk:UA P fs):cY P (Qj fs):=by
 refine ⟨fun f args hp nx v hp' nx' k h=>.inr h.2.1,(fun f args hp nx v hp' nx' h=>nomatch h.2.1),?_⟩
 rintro f args hp nx v hp' nx' k ⟨hf,rfl,rfl,rfl,rfl,q,sz,m,r,j,l,c1,c2,t,es,er,rfl,uf,h1,h2,h3,hm,hl,eo⟩ c cargs hc bP bz
 subst hc
 obtain ⟨fn,tS,tR,e,size,g1,g2,g3,g4,g5,g6,g7⟩:=hk f hf
 obtain ⟨u,u2,rfl⟩:∃u u2,cargs = #[u,u2]:=by
  obtain ⟨x⟩:=cargs
  match x,bz.1 with
  |[u,u2],_=>exact ⟨u,u2,rfl⟩
 have e1:=bz.2 0 _ u rfl rfl
 have e2:=bz.2 1 _ u2 rfl rfl
 cases e1 with
 | @sl _ _ _ _ n1 _ p1 a1 ι1 s1 ha1 uD _ Ak _ Wk =>
  cases e2 with
  | @sl _ _ _ _ n2 _ p2 a2 ι2 s2 ha2 Ag _ Dz _ Dx =>
   obtain ⟨p,cs,fz,k1,k2,k3⟩:=bP.ty.2 q t h2
   rw[ι1]at k1;cases k1
   have k4:=k3 (by rw[h1];simp)
   subst k4
   obtain ⟨_,sj,e2,fz2,m1,m2,_,_⟩:=bP.cells h3 ι2 Dx
   have Ux:=ha1 (by omega)
   have a2':=ha2 (by omega)
   subst Ux;subst a2'
   have hB:p1.B≠p2.B:=fun h=>uf (bP.inj q r p1 p2 (by rw[h1];simp) (by rw[h3];simp) ι1 ι2 h)
   have m9:sj.size≠0:=by
    have:=Dz (by omega)
    have h8:1*1<=(j+n2)*sz:=qu (by omega) eo
    omega
   have bR:=Lib.run_overlaps_apart (P:=P) c.w tS tR e g5 size g6 ⟨p1.B,p1.O+0*sz,none⟩ ⟨p2.B,p2.O+j*sz,none⟩ m n1 l n2 hB t e2 cs.size sj.size
    (by simp[World.shape?,k2]) (by simp[World.shape?,m1]) m9 (by simp[World.frozen?,k2]) (by simp[World.frozen?,k2])
   refine .inr ⟨.bool false,c.w,?_,_,c.ι,rfl,(fun h=>nomatch h),Ext.refl c,bP,.v _⟩
   rw[run_callFunc_extern g1 g2 g3 g4 g7,bR];rfl
end Go.Ai
namespace Go.Ai
open Go
abbrev mV (d s:Nat):aK:=⟨some d,.dj (.t s),none⟩
abbrev jz (d s:Nat) (g:Nat):aK:=⟨some d,.dj (.t s),some (g,true)⟩
abbrev il (d s:Nat) (g:Nat):aK:=⟨some d,.dj (.t s),some (g,false)⟩
abbrev mI (d:Nat) (n:Int):aK:=⟨some d,.dj (.c (.v (.int .i64 n))),none⟩
abbrev mIT (d:Nat) (n:Int) (g:Nat):aK:=⟨some d,.dj (.c (.v (.int .i64 n))),some (g,true)⟩
abbrev mIF (d:Nat) (n:Int) (g:Nat):aK:=⟨some d,.dj (.c (.v (.int .i64 n))),some (g,false)⟩
abbrev fA (d k s:Nat):aK:=⟨some d,.sQ k (.t s),none⟩
abbrev rC (d k s:Nat) (g:Nat):aK:=⟨some d,.sQ k (.t s),some (g,true)⟩
abbrev BA (d k s:Nat) (g:Nat):aK:=⟨some d,.sQ k (.t s),some (g,false)⟩
abbrev lD (d s:Nat):aK:=⟨some d,.load none (.t s),none⟩
abbrev lZ (d s:Nat) (g:Nat):aK:=⟨some d,.load none (.t s),some (g,true)⟩
abbrev vW (d s:Nat) (g:Nat):aK:=⟨some d,.load none (.t s),some (g,false)⟩
abbrev lN (d n s:Nat):aK:=⟨some d,.load (some n) (.t s),none⟩
abbrev lNT (d n s:Nat) (g:Nat):aK:=⟨some d,.load (some n) (.t s),some (g,true)⟩
abbrev lNF (d n s:Nat) (g:Nat):aK:=⟨some d,.load (some n) (.t s),some (g,false)⟩
abbrev nC (d s:Nat):aK:=⟨some d,.x8 (.t s),none⟩
abbrev Qq (d s:Nat) (g:Nat):aK:=⟨some d,.x8 (.t s),some (g,true)⟩
abbrev Rj (d s:Nat) (g:Nat):aK:=⟨some d,.x8 (.t s),some (g,false)⟩
abbrev sO (n a b:Nat):aK:=⟨none,.store n (.t a) (.t b),none⟩
abbrev sOT (n a b:Nat) (g:Nat):aK:=⟨none,.store n (.t a) (.t b),some (g,true)⟩
abbrev sOF (n a b:Nat) (g:Nat):aK:=⟨none,.store n (.t a) (.t b),some (g,false)⟩
abbrev xT (d s i:Nat):aK:=⟨some d,.ext (.t s) i,none⟩
abbrev xTT (d s i:Nat) (g:Nat):aK:=⟨some d,.ext (.t s) i,some (g,true)⟩
abbrev xTF (d s i:Nat) (g:Nat):aK:=⟨some d,.ext (.t s) i,some (g,false)⟩
abbrev bI (d:Nat) (o:BinOp) (s:Nat) (n:Int):aK:=⟨some d,.bin o (.t s) (.c (.v (.int .i64 n))),none⟩
abbrev uR (d:Nat) (o:BinOp) (s:Nat) (n:Int) (g:Nat):aK:=⟨some d,.bin o (.t s) (.c (.v (.int .i64 n))),some (g,true)⟩
abbrev yZ (d:Nat) (o:BinOp) (s:Nat) (n:Int) (g:Nat):aK:=⟨some d,.bin o (.t s) (.c (.v (.int .i64 n))),some (g,false)⟩
abbrev bB (d:Nat) (o:BinOp) (a b:Nat):aK:=⟨some d,.bin o (.t a) (.t b),none⟩
abbrev Ft (d:Nat) (o:BinOp) (a b:Nat) (g:Nat):aK:=⟨some d,.bin o (.t a) (.t b),some (g,true)⟩
abbrev JJ (d:Nat) (o:BinOp) (a b:Nat) (g:Nat):aK:=⟨some d,.bin o (.t a) (.t b),some (g,false)⟩
abbrev cA (d f a:Nat):aK:=⟨some d,.call f [.t a],none⟩
abbrev cAT (d f a:Nat) (g:Nat):aK:=⟨some d,.call f [.t a],some (g,true)⟩
abbrev FT (d f a:Nat) (g:Nat):aK:=⟨some d,.call f [.t a],some (g,false)⟩
abbrev cB (d f a b:Nat):aK:=⟨some d,.call f [.t a,.t b],none⟩
abbrev cBT (d f a b:Nat) (g:Nat):aK:=⟨some d,.call f [.t a,.t b],some (g,true)⟩
abbrev cBF (d f a b:Nat) (g:Nat):aK:=⟨some d,.call f [.t a,.t b],some (g,false)⟩
abbrev cD (d f a b c:Nat):aK:=⟨some d,.call f [.t a,.t b,.t c],none⟩
abbrev cDT (d f a b c:Nat) (g:Nat):aK:=⟨some d,.call f [.t a,.t b,.t c],some (g,true)⟩
abbrev cDF (d f a b c:Nat) (g:Nat):aK:=⟨some d,.call f [.t a,.t b,.t c],some (g,false)⟩
abbrev pF (d a b:Nat):aK:=⟨some d,.pick (.t a) (.t b) (.c (.v (.bool false))),none⟩
abbrev pFT (d a b:Nat) (g:Nat):aK:=⟨some d,.pick (.t a) (.t b) (.c (.v (.bool false))),some (g,true)⟩
abbrev ZN (d a b:Nat) (g:Nat):aK:=⟨some d,.pick (.t a) (.t b) (.c (.v (.bool false))),some (g,false)⟩
abbrev pT (d a b:Nat):aK:=⟨some d,.pick (.t a) (.c (.v (.bool true))) (.t b),none⟩
abbrev pTT (d a b:Nat) (g:Nat):aK:=⟨some d,.pick (.t a) (.c (.v (.bool true))) (.t b),some (g,true)⟩
abbrev pTF (d a b:Nat) (g:Nat):aK:=⟨some d,.pick (.t a) (.c (.v (.bool true))) (.t b),some (g,false)⟩
abbrev lE (d s:Nat):aK:=⟨some d,.len (.t s),none⟩
abbrev Qr (d s:Nat) (g:Nat):aK:=⟨some d,.len (.t s),some (g,true)⟩
abbrev X2 (d s:Nat) (g:Nat):aK:=⟨some d,.len (.t s),some (g,false)⟩
abbrev iA (d n a b:Nat):aK:=⟨some d,.lJ n (.t a) (.t b),none⟩
abbrev Tn (d n a b:Nat) (g:Nat):aK:=⟨some d,.lJ n (.t a) (.t b),some (g,true)⟩
abbrev iAF (d n a b:Nat) (g:Nat):aK:=⟨some d,.lJ n (.t a) (.t b),some (g,false)⟩
abbrev bX (d s:Nat):aK:=⟨some d,.box (.t s),none⟩
abbrev bXT (d s:Nat) (g:Nat):aK:=⟨some d,.box (.t s),some (g,true)⟩
abbrev bXF (d s:Nat) (g:Nat):aK:=⟨some d,.box (.t s),some (g,false)⟩
abbrev mB (d:Nat) (b:Bool):aK:=⟨some d,.dj (.c (.v (.bool b))),none⟩
abbrev mBT (d:Nat) (b:Bool) (g:Nat):aK:=⟨some d,.dj (.c (.v (.bool b))),some (g,true)⟩
abbrev mBF (d:Nat) (b:Bool) (g:Nat):aK:=⟨some d,.dj (.c (.v (.bool b))),some (g,false)⟩
abbrev aP (d n m a b:Nat):aK:=⟨some d,.append n m (.t a) (.t b),none⟩
abbrev aPT (d n m a b:Nat) (g:Nat):aK:=⟨some d,.append n m (.t a) (.t b),some (g,true)⟩
abbrev aPF (d n m a b:Nat) (g:Nat):aK:=⟨some d,.append n m (.t a) (.t b),some (g,false)⟩
abbrev oN (d:Nat) (o:iZ):aK:=⟨some d,o,none⟩
abbrev Sq:=cC.seq
abbrev Rg:=cC.region
abbrev af (o:List aK):=cC.seq (.region o)
abbrev Cd (t:Nat):=cC.cond (.t t)
abbrev nS:AV:=.rs true 0 [] (some 0)
abbrev iV (n:Int):AV:=.v (.int .i64 n)
end Go.Ai
namespace Go.Ai
open Go.Proofs
set_option maxRecDepth 100000
abbrev Cm (k:Nat) (c:au):Prop:=gg Tryz.prog k=true/\vG Tryz.prog [] k=some c
def c75:au:=⟨3,95,(af [oN 6 (.dj (.c nS))] (af [mV 10 0,mV 11 1,oN 12 (.slice 1 (.t 10) (some (.t 11)) none none)] (af [mV 13 2,lE 14 13,mV 7 14] (Sq (af [mV 15 7,bI 16 .eql 15 0] (Cd 16 (af [mV 17 0,mV 6 17] .ret) .skip)) (af [mV 18 0,lE 19 18,mV 8 19] (Sq (af [mV 20 1,mV 21 8,bB 22 .eql 20 21] (Cd 22 (af [mV 23 0,mV 24 2,aP 25 1 16 23 24,mV 6 25] .ret) .skip)) (Sq (af [mV 26 8,mV 27 7,bB 28 .add 26 27,mV 29 0,oN 30 (.cap (.t 29)),bB 31 .gtr 28 30] (Cd 31 (af [mV 32 0,mV 33 1,oN 34 (.slice 1 (.t 32) none (some (.t 33)) none),mV 35 8,mV 36 7,bB 37 .add 35 36,mV 38 1,bB 39 .sub 37 38,oN 40 (.Fu 1 16 [(.str [])] (.t 34) (.t 39)),mV 9 40] (af [mV 41 9,mV 42 1,oN 43 (.slice 1 (.t 41) (some (.t 42)) none none),mV 44 2,oN 45 (.copy 1 (.t 43) (.t 44))] (Sq (.draw [[],[],[],[1,2],[0,3,1,2],[],[],[5,6],[4,0,3,1,2,7,5,6]] [mV 46 9,mV 47 1,mV 48 7,bB 49 .add 47 48,oN 50 (.slice 1 (.t 46) (some (.t 49)) none none),mV 51 0,mV 52 1,oN 53 (.slice 1 (.t 51) (some (.t 52)) none none),oN 54 (.copy 1 (.t 50) (.t 53))]) (af [mV 55 9,mV 6 55] .ret)))) .skip)) (af [mV 56 0,mV 57 8,mV 58 7,bB 59 .add 57 58,oN 60 (.slice 1 (.t 56) none (some (.t 59)) none),mV 0 60] (Sq (af [mV 61 2,mV 62 0,mV 63 1,mV 64 7,bB 65 .add 63 64,oN 66 (.slice 1 (.t 62) (some (.t 65)) none none),cB 67 115 61 66,oN 68 (.un .not (.t 67))] (Cd 68 (Sq (.draw [[],[],[],[1,2],[0,3,1,2],[],[],[5,6],[4,0,3,1,2,7,5,6]] [mV 69 0,mV 70 1,mV 71 7,bB 72 .add 70 71,oN 73 (.slice 1 (.t 69) (some (.t 72)) none none),mV 74 0,mV 75 1,oN 76 (.slice 1 (.t 74) (some (.t 75)) none none),oN 77 (.copy 1 (.t 73) (.t 76))]) (af [mV 78 0,mV 79 1,oN 80 (.slice 1 (.t 78) (some (.t 79)) none none),mV 81 2,oN 82 (.copy 1 (.t 80) (.t 81))] (af [mV 83 0,mV 6 83] .ret))) .skip)) (af [mV 84 0,mV 85 8,oN 86 (.slice 1 (.t 84) (some (.t 85)) none none),mV 87 2,oN 88 (.copy 1 (.t 86) (.t 87))] (af [mV 89 0,mV 90 1,oN 91 (.slice 1 (.t 89) (some (.t 90)) none none),mV 92 7,cB 93 116 91 92] (af [mV 94 0,mV 6 94] .ret)))))))))))),[(.t 6)]⟩
theorem C8:Cm 75 c75:=⟨by kernel_rfl,by kernel_rfl⟩
def c76:au:=⟨3,95,(af [oN 6 (.dj (.c nS))] (af [mV 10 0,mV 11 1,oN 12 (.slice 3 (.t 10) (some (.t 11)) none none)] (af [mV 13 2,lE 14 13,mV 7 14] (Sq (af [mV 15 7,bI 16 .eql 15 0] (Cd 16 (af [mV 17 0,mV 6 17] .ret) .skip)) (af [mV 18 0,lE 19 18,mV 8 19] (Sq (af [mV 20 1,mV 21 8,bB 22 .eql 20 21] (Cd 22 (af [mV 23 0,mV 24 2,aP 25 3 32 23 24,mV 6 25] .ret) .skip)) (Sq (af [mV 26 8,mV 27 7,bB 28 .add 26 27,mV 29 0,oN 30 (.cap (.t 29)),bB 31 .gtr 28 30] (Cd 31 (af [mV 32 0,mV 33 1,oN 34 (.slice 3 (.t 32) none (some (.t 33)) none),mV 35 8,mV 36 7,bB 37 .add 35 36,mV 38 1,bB 39 .sub 37 38,oN 40 (.Fu 3 32 [(.str []),(.v (.int .i64 0)),(.v (.int .i64 0))] (.t 34) (.t 39)),mV 9 40] (af [mV 41 9,mV 42 1,oN 43 (.slice 3 (.t 41) (some (.t 42)) none none),mV 44 2,oN 45 (.copy 3 (.t 43) (.t 44))] (Sq (.draw [[],[],[],[1,2],[0,3,1,2],[],[],[5,6],[4,0,3,1,2,7,5,6]] [mV 46 9,mV 47 1,mV 48 7,bB 49 .add 47 48,oN 50 (.slice 3 (.t 46) (some (.t 49)) none none),mV 51 0,mV 52 1,oN 53 (.slice 3 (.t 51) (some (.t 52)) none none),oN 54 (.copy 3 (.t 50) (.t 53))]) (af [mV 55 9,mV 6 55] .ret)))) .skip)) (af [mV 56 0,mV 57 8,mV 58 7,bB 59 .add 57 58,oN 60 (.slice 3 (.t 56) none (some (.t 59)) none),mV 0 60] (Sq (af [mV 61 2,mV 62 0,mV 63 1,mV 64 7,bB 65 .add 63 64,oN 66 (.slice 3 (.t 62) (some (.t 65)) none none),cB 67 117 61 66,oN 68 (.un .not (.t 67))] (Cd 68 (Sq (.draw [[],[],[],[1,2],[0,3,1,2],[],[],[5,6],[4,0,3,1,2,7,5,6]] [mV 69 0,mV 70 1,mV 71 7,bB 72 .add 70 71,oN 73 (.slice 3 (.t 69) (some (.t 72)) none none),mV 74 0,mV 75 1,oN 76 (.slice 3 (.t 74) (some (.t 75)) none none),oN 77 (.copy 3 (.t 73) (.t 76))]) (af [mV 78 0,mV 79 1,oN 80 (.slice 3 (.t 78) (some (.t 79)) none none),mV 81 2,oN 82 (.copy 3 (.t 80) (.t 81))] (af [mV 83 0,mV 6 83] .ret))) .skip)) (af [mV 84 0,mV 85 8,oN 86 (.slice 3 (.t 84) (some (.t 85)) none none),mV 87 2,oN 88 (.copy 3 (.t 86) (.t 87))] (af [mV 89 0,mV 90 1,oN 91 (.slice 3 (.t 89) (some (.t 90)) none none),mV 92 7,cB 93 118 91 92] (af [mV 94 0,mV 6 94] .ret)))))))))))),[(.t 6)]⟩
theorem C7:Cm 76 c76:=⟨by kernel_rfl,by kernel_rfl⟩
def c77:au:=⟨3,33,(af [oN 6 (.dj (.c nS))] (af [mV 8 0,mV 9 1,mV 10 2,mV 11 0,lE 12 11,oN 13 (.slice 1 (.t 8) (some (.t 9)) (some (.t 10)) (some (.t 12)))] (Sq (af [mV 14 1,mV 15 2,bB 16 .eql 14 15] (Cd 16 (af [mV 17 0,mV 6 17] .ret) .skip)) (af [mV 18 0,lE 19 18,mV 7 19] (Sq (.draw [[],[],[0,1],[],[],[3,4],[2,0,1,5,3,4],[6,2,0,1,5,3,4]] [mV 20 0,mV 21 1,oN 22 (.slice 1 (.t 20) none (some (.t 21)) none),mV 23 0,mV 24 2,oN 25 (.slice 1 (.t 23) (some (.t 24)) none none),aP 26 1 16 22 25,mV 0 26]) (af [mV 27 0,mV 28 0,lE 29 28,mV 30 7,oN 31 (.slice 1 (.t 27) (some (.t 29)) (some (.t 30)) none),⟨none,(.clear 1 [(.str [])] (.t 31)),none⟩] (af [mV 32 0,mV 6 32] .ret))))))),[(.t 6)]⟩
theorem C6:Cm 77 c77:=⟨by kernel_rfl,by kernel_rfl⟩
def c78:au:=⟨3,33,(af [oN 6 (.dj (.c nS))] (af [mV 8 0,mV 9 1,mV 10 2,mV 11 0,lE 12 11,oN 13 (.slice 3 (.t 8) (some (.t 9)) (some (.t 10)) (some (.t 12)))] (Sq (af [mV 14 1,mV 15 2,bB 16 .eql 14 15] (Cd 16 (af [mV 17 0,mV 6 17] .ret) .skip)) (af [mV 18 0,lE 19 18,mV 7 19] (Sq (.draw [[],[],[0,1],[],[],[3,4],[2,0,1,5,3,4],[6,2,0,1,5,3,4]] [mV 20 0,mV 21 1,oN 22 (.slice 3 (.t 20) none (some (.t 21)) none),mV 23 0,mV 24 2,oN 25 (.slice 3 (.t 23) (some (.t 24)) none none),aP 26 3 32 22 25,mV 0 26]) (af [mV 27 0,mV 28 0,lE 29 28,mV 30 7,oN 31 (.slice 3 (.t 27) (some (.t 29)) (some (.t 30)) none),⟨none,(.clear 3 [(.str []),(.v (.int .i64 0)),(.v (.int .i64 0))] (.t 31)),none⟩] (af [mV 32 0,mV 6 32] .ret))))))),[(.t 6)]⟩
theorem C5:Cm 78 c78:=⟨by kernel_rfl,by kernel_rfl⟩
def Hp:Nat->Option au
 |75=>some c75
 |76=>some c76
 |77=>some c77
 |78=>some c78
 |_=>none
theorem WY:∀f cf,Hp f=some cf->gg Tryz.prog f=true/\∃ow,vG Tryz.prog ow f=some cf:=by
 intro f cf h
 unfold Hp at h
 split at h
 ·cases h;exact ⟨C8.1,_,C8.2⟩
 ·cases h;exact ⟨C7.1,_,C7.2⟩
 ·cases h;exact ⟨C6.1,_,C6.2⟩
 ·cases h;exact ⟨C5.1,_,C5.2⟩
 ·cases h
def Vx:Nat->Bool
 |115=>true
 |117=>true
 |_=>false
def E0:Env:=⟨Hp,Qj Vx⟩
theorem abW:E0.fn 75=some c75:=(rfl)
theorem abV:E0.fn 76=some c76:=(rfl)
theorem abU:E0.fn 77=some c77:=(rfl)
theorem abT:E0.fn 78=some c78:=(rfl)
theorem Vm:Tryz.prog.follows .mixedOrders=true:=by kernel_rfl
noncomputable def SY:Func:=(Tryz.prog.funcs[115]?).getD default
theorem Zl:Tryz.prog.funcs[115]?=some SY:=by kernel_rfl
noncomputable def SX:Func:=(Tryz.prog.funcs[117]?).getD default
theorem Zk:Tryz.prog.funcs[117]?=some SX:=by kernel_rfl
theorem Vw:UA Tryz.prog Vx:=by
 intro f h
 unfold Vx at h
 split at h
 ·exact ⟨SY,73,4,9,1,Zl,by kernel_rfl,by kernel_rfl,by kernel_rfl,Tryz.underlying73,Tryz.sizeOf9,by kernel_rfl⟩
 ·exact ⟨SX,74,4,84,3,Zk,by kernel_rfl,by kernel_rfl,by kernel_rfl,Tryz.underlying74,Tryz.sizeOf84,by kernel_rfl⟩
 ·cases h
theorem acM:Ae Tryz.prog E0:=⟨WY,KH Vw⟩
section
variable {tm tm':Nat->AV}
theorem bA {x:fc} (h:∀t∈x.oi,tm t=tm' t):ev tm x=ev tm' x:=by
 cases x with
 |t n=>exact h n (by simp[fc.oi])
 |c x=>rfl
theorem mP {x:Option fc} (h:∀t∈Kq x,tm t=tm' t):Hq tm x=Hq tm' x:=by
 cases x with
 |none=>rfl
 |some x=>exact congrArg some (bA h)
theorem rD {l:List fc} (h:∀t∈Cs l,tm t=tm' t):l.map (ev tm)=l.map (ev tm') :=
 jF fun x hx=>bA fun t ht=>h t (List.mem_flatMap.2 ⟨x,hx,ht⟩)
theorem Fs {ps:List (Nat×Nat×fc)} (h:∀t∈Cs (ps.map (·.2.2)),tm t=tm' t):(ps.map fun p=>(p.1,p.2.1,ev tm p.2.2))=(ps.map fun p=>(p.1,p.2.1,ev tm' p.2.2)) :=
 jF fun p hp=>by
  rw[bA (tm:=tm) (tm':=tm') fun t ht=>h t (List.mem_flatMap.2 ⟨p.2.2,wk.2 ⟨p,hp,rfl⟩,ht⟩)]
theorem nN {ps:List (Nat×fc)} (h:∀t∈Cs (ps.map (·.2)),tm t=tm' t):(ps.map fun p=>(p.1,ev tm p.2))=(ps.map fun p=>(p.1,ev tm' p.2)) :=
 jF fun p hp=>by
  rw[bA (tm:=tm) (tm':=tm') fun t ht=>h t (List.mem_flatMap.2 ⟨p.2,wk.2 ⟨p,hp,rfl⟩,ht⟩)]
theorem Ll {co:iZ} (h:∀t∈co.oi,tm t=tm' t):fQ tm co=fQ tm' co:=by
 cases co<;>simp only[iZ.oi,zJ]at h<;>(try rfl)
 case pick c a b=>simp only[fQ,bA (x:=c) fun t ht=>h t (.inl (.inl ht)),bA (x:=a) fun t ht=>h t (.inl (.inr ht)),bA (x:=b) fun t ht=>h t (.inr ht)]
 case build z ps=>simp only[fQ,Fs h]
 case bp o sz z ps=>cases o<;>simp only[fQ,nN h]
 case nr x lo hi=>simp only[fQ,bA (x:=x) fun t ht=>h t (.inl (.inl ht)),mP (x:=lo) fun t ht=>h t (.inl (.inr ht)),mP (x:=hi) fun t ht=>h t (.inr ht)]
 case slice n x lo hi mx=>simp only[fQ,bA (x:=x) fun t ht=>h t (.inl (.inl (.inl ht))),mP (x:=lo) fun t ht=>h t (.inl (.inl (.inr ht))),mP (x:=hi) fun t ht=>h t (.inl (.inr ht)),mP (x:=mx) fun t ht=>h t (.inr ht)]
 case rQ f a b=>simp only[fQ,rD (l:=a) fun t ht=>h t (.inl ht),rD (l:=b) fun t ht=>h t (.inr ht)]
 all_goals first
  |(rename_i x y;simp only[fQ,bA (x:=x) fun t ht=>h t (.inl ht),bA (x:=y) fun t ht=>h t (.inr ht)];done)
  |(rename_i x;simp only[fQ,bA (x:=x) h];done)
  |(rename_i x _;simp only[fQ,bA (x:=x) h];done)
theorem BB {co:iZ} {hp hp':Heap} {v:AV} {r:Nat} (h:∀t∈co.oi,tm t=tm' t) (he:ls tm hp co=some (v,r)) (hr:hp r=hp' r):ls tm' hp' co=some (v,r):=by
 cases co<;>simp only[iZ.oi]at h<;>(try (simp[ls]at he;done))
 case load n x =>
  simp only[ls]at he ⊢
  rw[<-bA (tm:=tm) (tm':=tm') (x:=x) h]
  split at he
  ·split at he
   ·rename_i es cT
    split at he
    ·rename_i l hl
     simp only[zC,zPi]at he
     obtain ⟨v',h1,rfl,rfl⟩:=he
     rw[<-hr,cT]
     simp[hl,h1]
    ·simp at he
   ·simp at he
  ·simp at he
 case L0 x =>
  simp only[ls]at he ⊢
  rw[<-bA (tm:=tm) (tm':=tm') (x:=x) h]
  split at he
  ·split at he
   ·rename_i es cT
    split at he
    ·rename_i hc
     simp only[zC,zPi]at he
     obtain ⟨v',h1,rfl,rfl⟩:=he
     rw[<-hr,cT]
     simp[hc,h1]
    ·simp at he
   ·simp at he
  ·simp at he
 case XI x =>
  simp only[ls]at he ⊢
  rw[<-bA (tm:=tm) (tm':=tm') (x:=x) h]
  split at he
  ·split at he
   ·rename_i l0 lr es cT
    simp only[zOi,zPi]at he
    obtain ⟨rfl,rfl⟩:=he
    rw[<-hr,cT]
   ·simp at he
  ·simp at he
 case XR t k x =>
  simp only[ls]at he ⊢
  rw[<-bA (tm:=tm) (tm':=tm') (x:=x) h]
  split at he
  ·split at he
   ·rename_i t' k' cT
    split at he
    ·rename_i hc
     simp only[zOi,zPi]at he
     obtain ⟨rfl,rfl⟩:=he
     rw[<-hr,cT]
     simp[hc]
    ·simp at he
   ·simp at he
  ·simp at he
 case vg lk z ok m k =>
  simp only[iZ.oi,zJ]at h
  simp only[ls]at he ⊢
  rw[<-bA (x:=m) fun t ht=>h t (.inl ht),<-bA (x:=k) fun t ht=>h t (.inr ht)]
  split at he
  ·rename_i r' hm
   have GR:r'=r:=by
    split at he
    ·split at he
     ·split at he<;>first|(simp only[zOi,zPi]at he;exact he.2)|cases he
     ·cases he
    ·cases he
   subst GR
   rw[<-hr];exact he
  ·cases he
 case ML m =>
  simp only[ls]at he ⊢
  rw[<-bA (x:=m) h]
  split at he
  ·rename_i r' hm
   have GR:r'=r:=by
    split at he
    ·simp only[zOi,zPi]at he;exact he.2
    ·cases he
   subst GR
   rw[<-hr];exact he
  ·cases he
theorem Oc {co:iZ} {hp:Heap} (h:∀t∈co.oi,tm t=tm' t) (he:ls tm hp co=none):ls tm' hp co=none:=by
 cases hq:ls tm' hp co with
 |none=>rfl
 |some x =>
  obtain ⟨v,r⟩:=x
  have:=BB (tm:=tm') (tm':=tm) (hp':=hp) (fun t ht=>(h t ht).symm) hq rfl
  rw[this]at he;simp at he
theorem Lo {co:iZ} {hp:Heap} {nx:Nat} (h:∀t∈co.oi,tm t=tm' t):eX tm hp nx co=eX tm' hp nx co:=by
 cases co<;>simp only[iZ.oi,zJ]at h<;>(try rfl)
 case bp o sz z ps=>cases o<;>simp only[eX,nN h]
 case FX t sz z ps=>simp only[eX,nN h]
 all_goals first
  |(rename_i x y;simp only[eX,bA (x:=x) fun t ht=>h t (.inl ht),bA (x:=y) fun t ht=>h t (.inr ht)];done)
  |(rename_i x;simp only[eX,bA (x:=x) h];done)
  |(rename_i x _;simp only[eX,bA (x:=x) h];done)
  |(rename_i x y z;simp only[eX,bA (x:=x) fun t ht=>h t (.inl (.inl ht)),bA (x:=y) fun t ht=>h t (.inl (.inr ht)),bA (x:=z) fun t ht=>h t (.inr ht)];done)
theorem rX {g:Option (Nat×Bool)} (h:∀d w,g=some (d,w)->tm d=tm' d):gL tm g=gL tm' g:=by
 cases g with
 |none=>rfl
 |some x=>obtain ⟨d,w⟩:=x;simp only[gL,h d w rfl]
end
def xj (v:AV) (hp:Heap) (nx:Nat) (k:Kd):AV->Heap->Nat->Kd->Prop:=fun v' hp' nx' k'=>v'=v/\hp'=hp/\nx'=nx/\k'=k
theorem Xy {R:aQ} {co:iZ} {s:St} {K:AV->Heap->Nat->Kd->Prop} (h:eu R co s K):∃v hp nx k,eu R co s (xj v hp nx k)/\K v hp nx k:=by
 unfold eu at h ⊢
 split at h
 ·obtain ⟨v,hp,nx,k,hr,hk⟩:=h
  exact ⟨v,hp,nx,k,⟨v,hp,nx,k,hr,rfl,rfl,rfl,rfl⟩,hk⟩
 ·split at h
  ·obtain ⟨v,hp,nx,k,hr,hk⟩:=h
   exact ⟨v,hp,nx,k,⟨v,hp,nx,k,hr,rfl,rfl,rfl,rfl⟩,hk⟩
  ·exact h.elim
 ·split at h
  ·exact ⟨_,_,_,_,⟨rfl,rfl,rfl,rfl⟩,h⟩
  ·split at h
   ·exact ⟨_,_,_,_,⟨rfl,rfl,rfl,rfl⟩,h⟩
   ·split at h
    ·exact ⟨_,_,_,_,⟨rfl,rfl,rfl,rfl⟩,h⟩
    ·exact h.elim
def vA (m:Bool) (q:Nat):AV:=if m then .mp q else .ptr q 0 0
theorem Ln {co:iZ} {tm tm':Nat->AV} {hp hp1:Heap} {nx nx1:Nat} {v:AV} (ht:∀t∈co.oi,tm t=tm' t) (hk:M3 co=.a) (hv:eX tm hp nx co=some (v,hp1,nx1)) :
  ∃m es,v=vA m nx/\hp1=ab hp nx (some es)/\nx1=nx+1/\∀hp' nx',eX tm' hp' nx' co=some (vA m nx',ab hp' nx' (some es),nx'+1):=by
 cases co<;>simp only[M3,reduceCtorEq]at hk
 ·simp only[eX,zOi,zPi]at hv
  obtain ⟨rfl,rfl,rfl⟩:=hv
  exact ⟨false,_,rfl,rfl,rfl,fun _ _=>rfl⟩
 ·rename_i x
  simp only[iZ.oi]at ht
  have hx:=bA (tm:=tm) (tm':=tm') (x:=x) ht
  simp only[eX]at hv
  split at hv
  ·rename_i cS
   simp only[zOi,zPi]at hv
   obtain ⟨rfl,rfl,rfl⟩:=hv
   refine ⟨false,_,rfl,rfl,rfl,fun _ _ => ?_⟩
   simp only[eX]
   rw[<-hx,if_pos cS];rfl
  ·cases hv
 ·simp only[eX,zOi,zPi]at hv
  obtain ⟨rfl,rfl,rfl⟩:=hv
  exact ⟨true,_,rfl,rfl,rfl,fun _ _=>rfl⟩
theorem FC {P:Program} {R:aQ} (hR:cY P R) {co:iZ} {s s':St} {v:AV} {hp:Heap} {nx:Nat} {k:Kd} (h:eu R co s (xj v hp nx k)) (ht:∀t∈co.oi,s.tm t=s'.tm t) :
  (k=.p->hp=s.hp/\nx=s.nx/\eu R co s' (xj v s'.hp s'.nx .p))/\(∀x,k=.r x->hp=s.hp/\nx=s.nx/\(s.hp x=s'.hp x->eu R co s' (xj v s'.hp s'.nx (.r x)))) /\
  (k=.e->s.hp=s'.hp->s.nx=s'.nx->eu R co s' (xj v hp nx .e)) /\
  (k=.a->M3 co=.a/\∃m es,v=vA m s.nx/\hp=ab s.hp s.nx (some es)/\nx=s.nx+1/\eX s'.tm s'.hp s'.nx co=some (vA m s'.nx,ab s'.hp s'.nx (some es),s'.nx+1)):=by
 have call:∀{f:Nat} {args:List AV},gK R f args s.hp s.nx (xj v hp nx k) ->
   (k=.p->hp=s.hp/\nx=s.nx/\gK R f args s'.hp s'.nx (xj v s'.hp s'.nx .p))/\(∀x,k=.r x->hp=s.hp/\nx=s.nx/\(s.hp x=s'.hp x->gK R f args s'.hp s'.nx (xj v s'.hp s'.nx (.r x)))) /\
   (k=.e->s.hp=s'.hp->s.nx=s'.nx->gK R f args s'.hp s'.nx (xj v hp nx .e))/\(k=.a->False):=by
  rintro f args ⟨v1,hp1,nx1,k1,hr,rfl,rfl,rfl,rfl⟩
  refine ⟨?_,?_,?_,?_⟩
  ·rintro rfl
   obtain ⟨g1,g2,g3⟩:=hR.pure _ _ _ _ _ _ _ hr
   exact ⟨g1,g2,_,_,_,_,g3 _ _,rfl,rfl,rfl,rfl⟩
  ·rintro x rfl
   rcases hR.kind _ _ _ _ _ _ _ _ hr with h|h<;>cases h
  ·rintro rfl e1 e2
   exact ⟨_,_,_,_,by rw[<-e1,<-e2];exact hr,rfl,rfl,rfl,rfl⟩
  ·rintro rfl
   rcases hR.kind _ _ _ _ _ _ _ _ hr with h|h<;>cases h
 unfold eu at h ⊢
 split at h
 ·rename_i f args
  rw[<-rD (tm:=s.tm) (tm':=s'.tm) (l:=args) (by simpa [iZ.oi] using ht)]
  obtain ⟨h1,h2,h3,h4⟩:=call h
  exact ⟨h1,h2,h3,fun e=>(h4 e).elim⟩
 ·rename_i g args
  simp only[iZ.oi,zJ]at ht
  split at h
  ·rename_i f first cap hg
   rw[bA (tm:=s.tm) (tm':=s'.tm) (x:=g) fun t h=>ht t (.inl h)]at hg
   simp only[hg]
   rw[<-rD (tm:=s.tm) (tm':=s'.tm) (l:=args) fun t h=>ht t (.inr h)]
   obtain ⟨h1,h2,h3,h4⟩:=call h
   exact ⟨h1,h2,h3,fun e=>(h4 e).elim⟩
  ·exact h.elim
 ·have e1:=Ll (tm:=s.tm) (tm':=s'.tm) ht
  split at h
  ·rename_i v1 hv
   obtain ⟨rfl,rfl,rfl,rfl⟩:=h
   rw[e1]at hv
   simp only[hv]
   refine ⟨fun _ => ?_,fun x h=>(by cases h),fun h=>(by cases h),fun h=>(by cases h)⟩
   simp[xj]
  ·rename_i hn
   rw[e1]at hn
   simp only[hn]
   split at h
   ·rename_i v1 r1 hv
    obtain ⟨rfl,rfl,rfl,rfl⟩:=h
    refine ⟨fun h=>(by cases h),?_,fun h=>(by cases h),fun h=>(by cases h)⟩
    rintro x h
    cases h
    refine ⟨rfl,rfl,fun hx => ?_⟩
    rw[BB ht hv hx]
    exact ⟨rfl,rfl,rfl,rfl⟩
   ·rename_i Bp
    split at h
    ·rename_i v1 hp1 nx1 hv
     obtain ⟨rfl,rfl,rfl,rfl⟩:=h
     refine ⟨fun h => ?_,fun x h => ?_,fun hk e2 e3 => ?_,fun hk => ?_⟩
     ·cases co<;>simp[M3]at h
     ·cases co<;>simp[M3]at h
     ·rw[<-e2,<-e3,Oc ht Bp,<-Lo ht,hv]
      exact ⟨rfl,rfl,rfl,hk⟩
     ·refine ⟨hk,?_⟩
      obtain ⟨m,es,g1,g2,g3,g4⟩:=Ln ht hk hv
      exact ⟨m,es,g1,g2,g3,g4 _ _⟩
    ·exact h.elim
theorem Ho {P:Program} {own:Bool} {o:Oper} {z:List AV} (hc:dC P own o=some (.alloc z)):∃e,o.op=.alloc e/\zeroOf P e=some z:=by
 obtain ⟨dst,op,type,pos,after,guard⟩:=o
 unfold dC at hc
 split at hc
 ·rename_i QP ao
  simp only[zOi]at hc;subst hc
  cases op<;>simp only[mg]at ao
  case alloc e =>
   split at ao
   ·simp only[zC,reduceCtorEq,and_false,exists_false]at ao
   ·simp only[zC,iZ.alloc.injEq]at ao
    obtain ⟨z',h,rfl⟩:=ao
    exact ⟨_,rfl,h⟩
  case call cl =>
   obtain ⟨callee,LD,ts⟩:=cl
   cases callee with
   |value g=>cases g<;>simp at ao
   |invoke r m=>simp at ao
   |builtin b=>simp only[]at ao;unfold fY cZ at ao;(repeat' split at ao)<;>simp at ao
  all_goals (first|(simp at ao;done)|skip)
  all_goals ((try unfold jQ at ao);(try unfold gG at ao);(repeat' split at ao)<;>(first|(simp at ao;done)|(simp only[zC]at ao;obtain ⟨_,_,h⟩:=ao;cases h;done)))
 ·cases op
  case binOp =>
   unfold iJ at hc
   (repeat' split at hc)<;>simp at hc
  all_goals (exfalso;have FL:=dt hc;cases FL)
theorem N2 {P:Program} {own:Bool} {o:Oper} {x:fc} (hc:dC P own o=some (.box x)):∃e y,o.op=.box e y/\cO y=x:=by
 obtain ⟨dst,op,type,pos,after,guard⟩:=o
 unfold dC at hc
 split at hc
 ·rename_i QP ao
  simp only[zOi]at hc;subst hc
  cases op<;>simp only[mg]at ao
  case box e y =>
   simp only[zOi,iZ.box.injEq]at ao
   exact ⟨_,_,rfl,ao⟩
  case alloc e =>
   split at ao
   ·simp only[zC,reduceCtorEq,and_false,exists_false]at ao
   ·simp only[zC,reduceCtorEq,and_false,exists_false]at ao
  case call cl =>
   obtain ⟨callee,LD,ts⟩:=cl
   cases callee with
   |value g=>cases g<;>simp at ao
   |invoke r m=>simp at ao
   |builtin b=>simp only[]at ao;unfold fY cZ at ao;(repeat' split at ao)<;>simp at ao
  all_goals (first|(simp at ao;done)|skip)
  all_goals ((try unfold jQ at ao);(try unfold gG at ao);(repeat' split at ao)<;>(first|(simp at ao;done)|(simp only[zC]at ao;obtain ⟨_,_,h⟩:=ao;cases h;done)))
 ·cases op
  case binOp =>
   unfold iJ at hc
   (repeat' split at hc)<;>simp at hc
  all_goals (exfalso;have FL:=dt hc;cases FL)
theorem Hn {P:Program} {own:Bool} {o:Oper} (hc:dC P own o=some .sb):∃t kt et,o.op=.makeMap t none/\P.underlying t=some (.map kt et):=by
 obtain ⟨dst,op,type,pos,after,guard⟩:=o
 unfold dC at hc
 split at hc
 ·rename_i QP ao
  simp only[zOi]at hc;subst hc
  exfalso
  cases op<;>simp only[mg]at ao
  case call cl =>
   obtain ⟨callee,LD,ts⟩:=cl
   cases callee with
   |value g=>cases g<;>simp at ao
   |invoke r m=>simp at ao
   |builtin b=>simp only[]at ao;unfold fY cZ at ao;(repeat' split at ao)<;>simp at ao
  all_goals (first|(simp at ao;done)|skip)
  all_goals ((try unfold jQ at ao);(try unfold gG at ao);(repeat' split at ao)<;>(first|(simp at ao;done)|(simp only[zC]at ao;obtain ⟨_,_,h⟩:=ao;cases h;done)))
 ·cases op
  case binOp =>
   unfold iJ at hc
   (repeat' split at hc)<;>simp at hc
  all_goals (have FL:=dt hc;cases FL)
  exact ⟨_,_,_,rfl,by assumption⟩
def nT (c:Cx) (m:Bool) (es:bN) (p:Place) (o:Obj):Prop:=pL c es p o/\(∀t k rest,es≠[.ty t k]::rest)/\(if m then p.O=1/\p.N=0 else p.O=0)
theorem nT.move {c c':Cx} {m:Bool} {es:bN} {p:Place} {o:Obj} (h:nT c m es p o) (mv:∀x u,aC c x u->aC c' x u):nT c' m es p o:=⟨h.1.move mv,h.2⟩
def uP (p:Place):Value:=if p.O=0 then .pointer (some ⟨p.B,0,none⟩) else .map (some p.B)
theorem Hk {P:Program} {own:Bool} {o:Oper} {co:iZ} {tm:Nat->AV} {a:Act} {c:Cx} {q:Nat} {hp:Heap} {m:Bool} {es:bN} (hc:dC P own o=some co) (hk:M3 co=.a)
  (he:eX tm hp q co=some (vA m q,ab hp q (some es),q+1)) (ht:fD c tm a) :
  ∃ob p,p.B=c.w.heap.size/\iN P o a c.w (uP p) { c.w with heap:=c.w.heap.push ob }/\nT c m es p ob:=by
 have cT:∀{es':bN},ab hp q (some es')=ab hp q (some es)->es'=es:=by
  intro es' h
  have:=congrFun h q
  simpa [ab] using this
 have hm:∀{x:AV},x=vA m q->((∃r,x=.ptr r 0 0)->m=false)/\((∃r,x=.mp r)->m=true):=by
  rintro x rfl
  cases m<;>simp[vA]
 have cells:∀{row:List AV} {cs:Array Value} {e:TypeId},es=[row]->m=false->row.length=cs.size->(∀(k:Nat) (av:AV),row[k]?=some av->∃u,cs[k]?=some u/\aC c av u)->iN P o a c.w (.pointer (some ⟨c.w.heap.size,0,none⟩)) { c.w with heap:=c.w.heap.push (.cells cs e) } ->
   ∃ob p,p.B=c.w.heap.size/\iN P o a c.w (uP p) { c.w with heap:=c.w.heap.push ob }/\nT c m es p ob:=by
  rintro row cs e rfl rfl hl hr bR
  refine ⟨.cells cs e,⟨c.w.heap.size,0,row.length,cs.size,[]⟩,rfl,bR,.inl ⟨wT _,cs,e,(0,0),rfl,rfl,fun o ho=>by simp,fun i l hi => ?_⟩,fun t k rest h => ?_,rfl⟩
  ·cases i with
   |zero =>
    simp at hi;subst hi
    refine ⟨rfl,fun j av hj => ?_⟩
    obtain ⟨u,g1,g2⟩:=hr j av hj
    exact ⟨u,by simpa using g1,g2⟩
   |succ i=>simp at hi
  ·simp only[List.cons.injEq]at h
   obtain ⟨rfl,_⟩:=h
   obtain ⟨u,_,hu⟩:=hr 0 _ rfl
   exact hu.xZ
 cases co<;>simp only[M3,reduceCtorEq]at hk
 ·rename_i z
  simp only[eX,zOi,zPi]at he
  obtain ⟨e,ho,hz⟩:=Ho hc
  obtain ⟨dst,op,type,pos,after,guard⟩:=o
  simp only at ho;subst ho
  obtain ⟨i,zv,hi,nY,oq,rfl⟩:=du hz
  have hr:=tc c oq
  refine cells (cT he.2.1).symm ((hm he.1).1 ⟨_,rfl⟩) (cs:=zv.cells) (e:=e) (by simp) (fun k av hk => ?_) (.inl ?_)
  ·obtain ⟨u,h3,h4⟩:=hr.get hk
   exact ⟨u,by rw[<-getElem?_arr];exact h3,h4⟩
  ·simp[execOp,Instr.alloc,zeroValue,typeInfo,hi,nY,newVar,newRow]
 ·rename_i x
  simp only[eX]at he
  split at he
  ·rename_i cS
   simp only[zOi,zPi]at he
   obtain ⟨e,y,ho,hy⟩:=N2 hc
   subst hy
   obtain ⟨dst,op,type,pos,after,guard⟩:=o
   simp only at ho;subst ho
   have hr:=mS (aD ht y) (fU cS)
   refine cells (cT he.2.1).symm ((hm he.1).1 ⟨_,rfl⟩) (cs:=(a.eval y).cells) (e:=e) (by simpa using hr.1) (fun k av hk => ?_) (.inl ?_)
   ·obtain ⟨u,h3,h4⟩:=hr.get hk
    exact ⟨u,by rw[<-getElem?_arr];exact h3,h4⟩
   ·simp[execOp,Instr.box,newVar,newRow]
  ·cases he
 ·simp only[eX,zOi,zPi]at he
  have h1:=cT he.2.1
  have h2:=(hm he.1).2 ⟨_,rfl⟩
  subst h1;subst h2
  obtain ⟨t,kt,et,ho,hu⟩:=Hn hc
  obtain ⟨dst,op,type,pos,after,guard⟩:=o
  simp only at ho;subst ho
  exact ⟨.map #[] 0,⟨c.w.heap.size,1,0,0,[]⟩,rfl,.inl rfl,.inr (.inl ⟨rfl,#[],0,rfl,⟨rfl,fun i l e h=>by simp at h⟩,fun i e h=>by simp at h,fun i j e e' h=>by simp at h⟩),(fun t k rest h=>by cases h),rfl,rfl⟩
def Ab (R:aQ) (co:aK) (s:St) (v:AV) (r:Rec) (s':St):Prop :=
 (gL s.tm co.guard=some true/\∃hp nx k,eu R co.op s (xj v hp nx k)/\s'=s.put co.dst v hp nx/\r=⟨k,s.hp,hp⟩) \/
 (gL s.tm co.guard=some false/\v=.v undef/\s'=s.put co.dst (.v undef) s.hp s.nx/\r=⟨.p,s.hp,s.hp⟩)
theorem vO {R:aQ}:∀(cl:List aK) (s:St) (bh:List Rec) {K:St->List Rec->Prop},dZ R cl s bh K ->
  ∃(S:Nat->St) (out:Nat->AV) (rs:List Rec),S 0=s/\rs.length=cl.length/\(∀(i:Nat) (co:aK) (r:Rec),cl[i]?=some co->rs[i]?=some r->Ab R co (S i) (out i) r (S (i+1)))/\K (S cl.length) (bh++rs)
 |[],s,bh,K,h=>⟨fun _=>s,fun _=>.v undef,[],rfl,rfl,fun i co r h=>by simp at h,by simpa [dZ] using h⟩
 |o::cl,s,bh,K,h=>by
  have step:∀(v:AV) (r:Rec) (s':St),Ab R o s v r s'->dZ R cl s' (bh++[r]) K ->
    ∃(S:Nat->St) (out:Nat->AV) (rs:List Rec),S 0=s/\rs.length=(o::cl).length/\(∀(i:Nat) (co:aK) (r:Rec),(o::cl)[i]?=some co->rs[i]?=some r->Ab R co (S i) (out i) r (S (i+1)))/\K (S (o::cl).length) (bh++rs):=by
   intro v r s' bU hw
   obtain ⟨S,out,rs,h1,h2,h3,h4⟩:=vO cl s' (bh++[r]) hw
   refine ⟨fun n=>match n with|0=>s|n+1=>S n,fun n=>match n with|0=>v|n+1=>out n,r::rs,rfl,by simp[h2],?_,?_⟩
   ·intro i co r' hi hr
    cases i with
    |zero =>
     simp at hi hr;subst hi;subst hr
     show Ab R o s v r (S 0)
     rw[h1];exact bU
    |succ i=>exact h3 i co r' (by simpa using hi) (by simpa using hr)
   ·simpa using h4
  unfold dZ at h
  split at h
  ·rename_i hw
   obtain ⟨v,hp,nx,k,h1,h2⟩:=Xy h
   exact step v ⟨k,s.hp,hp⟩ _ (.inl ⟨hw,hp,nx,k,h1,rfl,rfl⟩) h2
  ·rename_i hw
   exact step (.v undef) ⟨.p,s.hp,s.hp⟩ _ (.inr ⟨hw,rfl,rfl,rfl⟩) h
  ·exact h.elim
theorem Fo (p:List Nat) (b:Rec):∀(l:List Rec) (i:Nat),cW.one p b l i->∀(k:Nat) (a:Rec),l[k]?=some a->i+k∈p\/gn a b
 |[],i,_,k,a,h=>by simp at h
 |x::r,i,hc,k,a,h=>by
  simp only[cW.one]at hc
  cases k with
  |zero =>
   simp at h;subst h
   rw[wF]
   by_cases hp:p.contains i=true
   ·left;simpa using hp
   ·right;have:=hc.1;rw[if_neg hp]at this;exact this
  |succ k =>
   have:=Fo p b r (i+1) hc.2 k a (by simpa using h)
   rwa [show i+1+k=i+(k+1) by omega]at this
theorem JB:∀(pre:List (List Nat)) (bh done:List Rec) (j:Nat),cW.go pre bh done j->∀(q:Nat) (b:Rec),bh[q]?=some b->∀(i:Nat) (a:Rec),(done++bh)[i]?=some a->i<done.length+q->i∈pre.getD q []\/gn a b
 |pre,[],done,j,_,q,b,hb,_,_,_,_=>by simp at hb
 |[],r::rest,done,j,h,_,_,_,_,_,_,_=>by simp[cW.go]at h
 |p::ps,r::rest,done,j,h,q,b,hb,i,a,ha,hi=>by
  simp only[cW.go]at h
  cases q with
  |zero =>
   simp at hb;subst hb
   have:=Fo p r done 0 h.1 i a (by rw[zR (by omega)]at ha;exact ha)
   simpa using this
  |succ q =>
   have:=JB ps rest (done++[r]) (j+1) h.2 q b (by simpa using hb) i a (by rw[zF];simpa using ha) (by simp;omega)
   simpa using this
theorem rI {pre:List (List Nat)} {bh:List Rec} (h:cW pre bh) {i j:Nat} {a b:Rec} (yF:i<j) (ha:bh[i]?=some a) (hb:bh[j]?=some b):i∈pre.getD j []\/gn a b :=
 JB pre bh [] 0 h.1 j b hb i a (by simpa using ha) (by simpa using yF)
def jw (D:Nat->Bool) (dst:Nat->Option Nat) (out:Nat->AV) (t0:Nat->AV):Nat->Nat->AV
 |0=>t0
 |k+1=>if D k then (match dst k with|some d=>jR (jw D dst out t0 k) d (out k)|none=>jw D dst out t0 k) else jw D dst out t0 k
theorem kU {E:Nat->Bool} {dst:Nat->Option Nat} {out:Nat->AV} {t0:Nat->AV} {t k:Nat} (hd:dst k≠some t):jw E dst out t0 (k+1) t=jw E dst out t0 k t:=by
 simp only[jw]
 split
 ·cases h:dst k with
  |none=>rfl
  |some d =>
   show jR _ d _ t=_
   unfold jR
   rw[if_neg]
   rintro rfl;exact hd h
 ·rfl
theorem kN {D D':Nat->Bool} {dst:Nat->Option Nat} {out:Nat->AV} {t0:Nat->AV} {t:Nat}:∀(k:Nat),(∀j,j<k->dst j=some t->D j=D' j)->jw D dst out t0 k t=jw D' dst out t0 k t
 |0,_=>rfl
 |k+1,h=>by
  have ih:=kN (D:=D) (D':=D') (dst:=dst) (out:=out) (t0:=t0) (t:=t) k (fun j hj hd=>h j (by omega) hd)
  by_cases hd:dst k=some t
  ·simp only[jw,hd,h k (by omega) hd]
   split
   ·simp[jR]
   ·exact ih
  ·rw[kU hd,kU hd];exact ih
theorem AR {dst:Nat->Option Nat} {out:Nat->AV} {t0:Nat->AV} (i:Nat):∀(k:Nat),i<=k->jw (fun j=>decide (j<i)) dst out t0 k=jw (fun _=>true) dst out t0 i
 |0,h=>by
  have:i=0:=by omega
  subst this;rfl
 |k+1,h=>by
  by_cases hi:i=k+1
  ·subst hi
   funext t
   exact kN (k+1) (fun j hj _=>by simp;omega)
  ·have ih:=AR (dst:=dst) (out:=out) (t0:=t0) i k (by omega)
   simp only[jw]
   rw[if_neg (by simp;omega)]
   exact ih
theorem DG {E:Nat->Bool} {dst:Nat->Option Nat} {out:Nat->AV} {t0:Nat->AV} {i d:Nat} (hi:E i=true) (hd:dst i=some d):∀k,i<k->(∀j,i<j->j<k->dst j=some d->E j=false)->jw E dst out t0 k d=out i
 |0,h,_=>by omega
 |k+1,hk,h=>by
  by_cases vZ:i=k
  ·subst vZ
   simp[jw,hi,hd,jR]
  ·have ih:=DG (out:=out) (t0:=t0) hi hd k (by omega) (fun j h1 h2=>h j h1 (by omega))
   by_cases hdk:dst k=some d
   ·simp only[jw,h k (by omega) (by omega) hdk]
    simpa using ih
   ·rw[kU hdk];exact ih
theorem CR {l:Array Bool} {j:Nat} (h:j<l.size):l.getD j true=l.getD j false:=by
 simp[Array.getD,h]
theorem NX {l:Array Bool} {i j:Nat} (h:i<l.size):(l.setIfInBounds i true).getD j false=if j=i then true else l.getD j false:=by
 split
 ·rename_i e;subst e;simp[h]
 ·rename_i e;simp[wQ (fun h=>e h.symm)]
def xc (D:Nat->Bool):Nat->Nat
 |0=>0
 |k+1=>xc D k+if D k then 0 else 1
theorem PV {D D':Nat->Bool} (h:∀j,D j=true->D' j=true):∀k,xc D' k<=xc D k
 |0=>zD _
 |k+1=>by
  have ih:=PV h k
  simp only[xc]
  by_cases hd:D k=true
  ·rw[if_pos hd,if_pos (h k hd)];exact ih
  ·rw[if_neg hd];split<;>omega
theorem PU {D D':Nat->Bool} (h:∀j,D j=true->D' j=true) {i:Nat} (hi:D i=false) (kG:D' i=true):∀k,i<k->xc D' k<xc D k
 |0,h0=>by omega
 |k+1,hk=>by
  simp only[xc]
  by_cases vZ:i=k
  ·subst vZ
   have:=PV h i
   rw[hi,kG];simp;omega
  ·have ih:=PU h hi kG k (by omega)
   by_cases hd:D k=true
   ·rw[if_pos hd,if_pos (h k hd)];omega
   ·rw[if_neg hd];split<;>omega
theorem Fg {D:Nat->Bool}:∀k,xc D k=0->∀j,j<k->D j=true
 |0,_,j,hj=>by omega
 |k+1,h,j,hj=>by
  simp only[xc]at h
  by_cases hd:D k=true
  ·by_cases TP:j=k
   ·subst TP;exact hd
   ·exact Fg k (by omega) j (by omega)
  ·rw[if_neg hd]at h;omega
theorem aC.move {c c':Cx} (hι:∀r p,c.ι r=some p->c'.ι r=some p) (ck:∀B,c.ro B->c'.ro B/\c'.w.heap[B]?=c.w.heap[B]?) {x:AV} {u:Value} (h:aC c x u):aC c' x u:=by
 induction h with
 |v x=>exact .v x
 |str l=>exact .str l
 |ptr h eK=>exact .ptr (hι _ _ h) eK
 |mp h eK=>exact .mp (hι _ _ h) eK
 |it h h' hr hm rq rR e1 e2 e3 e4=>exact .it (hι _ _ h) (hι _ _ h') (hι _ _ hr) hm rq rR e1 e2 e3 e4
 |Gb h hr hm rR e1 hs=>exact .Gb (hι _ _ h) (hι _ _ hr) hm rR e1 hs
 |rp g hr hc hv ih=>exact .rp g (fun h=>(ck _ (hr h)).1) (fun k av h=>by rw[cell?_of_heap (ck _ (hr (ch h))).2];exact hc k av h) ih
 |sl hi hs ha hl dm hN hE eK=>exact .sl (hι _ _ hi) hs ha hl dm hN hE eK
 |nil h=>exact .nil h
 |rs g hlen hl dm eo hr hc hv ih =>
  exact .rs g hlen hl dm eo (fun h=>⟨(ck _ (hr h).1).1,(hr h).2⟩) (fun i j l av h1 h2=>(cell?_of_heap (a:=⟨_,_,none⟩) (ck _ (hr (ch h1)).1).2).trans (hc i j l av h1 h2)) ih
 |agg hl hv ih=>exact .agg hl ih
 |bE hl hv ih=>exact .bE hl ih
 |fn h1 h2 hx hy Qu Qt=>exact .fn h1 h2 Qu Qt
 |Bi h ih=>exact .Bi ih
 |any u=>exact .any u
theorem bf.H5 {c:Cx} {nx:Nat} (h:bf c nx) {B:Nat} (hF:c.F B):¬c.own B:=by
 rintro ⟨r,p,h1,h2,rfl⟩
 cases e:c.hp r with
 |none=>exact h1 e
 |some es=>exact (h.rU r es p e h2).1 hF
theorem bf.more {c:Cx} {nx:Nat} (h:bf c nx) {w':World} (hg:Grow c.w w') {F':Nat->Prop} (hF:∀B,F' B↔c.F B\/(c.w.heap.size<=B/\B<w'.heap.size)) :
  bf ⟨⟨F',c.F.G⟩,c.ι,c.hp,w'⟩ nx/\∀x u,aC c x u->aC ⟨⟨F',c.F.G⟩,c.ι,c.hp,w'⟩ x u:=by
 have ck:∀B,c.ro B->(⟨⟨F',c.F.G⟩,c.ι,c.hp,w'⟩:Cx).ro B:=fun B hB=>⟨zU hB.1 hg.size,hB.2.1,fun h2=>by
  rcases (hF B).1 h2 with h3|h3
  ·exact hB.2.2 h3
  ·have:=hB.1;omega⟩
 have mv:∀x u,aC c x u->aC ⟨⟨F',c.F.G⟩,c.ι,c.hp,w'⟩ x u:=fun x u hv=>hv.move (c:=c) (c':=⟨⟨F',c.F.G⟩,c.ι,c.hp,w'⟩) (fun _ _ h=>h) fun B hB=>⟨ck B hB,hg.ah B hB.1⟩
 refine ⟨⟨h.uK,h.lt,?_,h.inj,fun B hB => ?_,h.ty.to (fun _ _ _ _ h=>h) (fun _ _ h=>h) (fun B cs t fz hB=>⟨cs,by show w'.heap[B]?=_;rw[hg.ah B (zE.1 hB).1];exact hB,rfl⟩) (fun _ _ _ h=>h),h.gl.to rfl ck fun B hB=>hg.ah B hB.1⟩,mv⟩
 ·intro r es p h1 h2
  obtain ⟨h3,o,h4,h5⟩:=h.rU r es p h1 h2
  have az:p.B<c.w.heap.size:=(zE.1 h4).1
  refine ⟨fun h8 => ?_,o,by show w'.heap[p.B]?=_;rw[hg.ah _ az];exact h4,h5.move mv⟩
  rcases (hF p.B).1 h8 with h9|h9
  ·exact h3 h9
  ·omega
 ·rcases (hF B).1 hB with h1|h1
  ·exact zU (h.F B h1) hg.size
  ·exact h1.2
theorem bf.acr {c:Cx} {q:Nat} (h:bf c q) {p:Place} (hp:c.F p.B) {o:Obj} {v9:bN} {m:Bool} (hc:c.w.heap[p.B]?=some o) (vt:nT c m v9 p o) :
  bf ⟨⟨fun B=>c.F B/\B≠p.B,c.F.G⟩,cj c.ι q p,ab c.hp q (some v9),c.w⟩ (q+1)/\∀x u,aC c x u->aC ⟨⟨fun B=>c.F B/\B≠p.B,c.F.G⟩,cj c.ι q p,ab c.hp q (some v9),c.w⟩ x u:=by
 have R3:=h.fresh
 have hfh:=h.uE
 have hι:∀r,r≠q->cj c.ι q p r=c.ι r:=fun r hr=>by simp[cj,hr]
 have xq:cj c.ι q p q=some p:=by simp[cj]
 have nc:∀r,r≠q->ab c.hp q (some v9) r=c.hp r:=fun r hr=>by simp[ab,hr]
 have Ix:ab c.hp q (some v9) q=some v9:=by simp[ab]
 have aaN:=h.H5 hp
 have ck:∀B,c.ro B->(⟨⟨fun B=>c.F B/\B≠p.B,c.F.G⟩,cj c.ι q p,ab c.hp q (some v9),c.w⟩:Cx).ro B:=by
  refine fun B hB=>⟨hB.1,?_,fun h2=>hB.2.2 h2.1⟩
  rintro ⟨r,p',h1,h2,h3⟩
  by_cases GS:r=q
  ·subst GS
   have Al:some p=some p':=by rw[<-xq];exact h2
   cases Al
   rw[h3]at hp
   exact hB.2.2 hp
  ·exact hB.2.1 ⟨r,p',by have:=h1;simp only[nc r GS]at this;exact this,by have:=h2;simp only[hι r GS]at this;exact this,h3⟩
 have mv:∀x u,aC c x u->aC ⟨⟨fun B=>c.F B/\B≠p.B,c.F.G⟩,cj c.ι q p,ab c.hp q (some v9),c.w⟩ x u:=by
  intro x u hv
  refine hv.move (c:=c) (c':=⟨⟨fun B=>c.F B/\B≠p.B,c.F.G⟩,cj c.ι q p,ab c.hp q (some v9),c.w⟩) (fun r p' h1 => ?_) fun B hB=>⟨ck B hB,rfl⟩
  have:r≠q:=by rintro rfl;rw[R3]at h1;cases h1
  show cj _ _ _ r=_
  rw[hι r this];exact h1
 refine ⟨⟨?_,?_,?_,?_,fun B hB=>h.F B hB.1,?_,h.gl.to rfl ck fun _ _=>rfl⟩,mv⟩
 ·intro r hr
  by_cases he:r=q
  ·omega
  ·have:c.hp r≠none:=by simpa only[nc r he] using hr
   have:=h.uK r this;omega
 ·intro r p' h1
  by_cases he:r=q
  ·omega
  ·have:c.ι r=some p':=by simpa only[hι r he] using h1
   have:=h.lt r p' this;omega
 ·intro r es p' h1 h2
  by_cases he:r=q
  ·subst he
   have v8:some v9=some es:=by rw[<-Ix];exact h1
   have Al:some p=some p':=by rw[<-xq];exact h2
   cases v8;cases Al
   exact ⟨fun h3=>h3.2 rfl,o,hc,vt.1.move mv⟩
  ·have g1:c.hp r=some es:=by simpa only[nc r he] using h1
   have g2:c.ι r=some p':=by simpa only[hι r he] using h2
   obtain ⟨h3,o,h4,h5⟩:=h.rU r es p' g1 g2
   exact ⟨fun h8=>h3 h8.1,o,h4,h5.move mv⟩
 ·intro r r' p1 p2 h1 h2 h3 h4 h5
  have other:∀x px,x≠q->c.hp x≠none->c.ι x=some px->px.B≠p.B:=by
   intro x px hx k1 k2 k3
   exact aaN ⟨x,px,k1,k2,k3⟩
  by_cases e1:r=q
  ·by_cases e2:r'=q
   ·rw[e1,e2]
   ·exfalso
    subst e1
    have Se:some p=some p1:=by rw[<-xq];exact h3
    cases Se
    exact other r' p2 e2 (by simpa only[nc r' e2] using h2) (by simpa only[hι r' e2] using h4) h5.symm
  ·by_cases e2:r'=q
   ·exfalso
    subst e2
    have h4':some p=some p2:=by rw[<-xq];exact h4
    cases h4'
    exact other r p1 e1 (by simpa only[nc r e1] using h1) (by simpa only[hι r e1] using h3) h5
   ·exact h.inj r r' p1 p2 (by simpa only[nc r e1] using h1) (by simpa only[nc r' e2] using h2) (by simpa only[hι r e1] using h3) (by simpa only[hι r' e2] using h4) h5
 ·refine h.ty.to (fun r t k rest Nm => ?_) (fun r p' h1 => ?_) (fun B cs t fz hB=>⟨cs,hB,rfl⟩) (fun r _ g1 g2=>by
   have:r≠q:=by rintro rfl;exact g1 R3
   have g2:ab c.hp q (some v9) r≠none:=g2
   rw[nc r this]at g2;exact g2)
  ·by_cases he:r=q
   ·subst he
    have v8:some v9=some ([AV.ty t k]::rest):=by rw[<-Ix];exact Nm
    exact absurd (Option.some.inj v8) (vt.2.1 _ _ _)
   ·simpa only[nc r he] using Nm
  ·have:r≠q:=by rintro rfl;rw[R3]at h1;cases h1
   show cj _ _ _ r=_
   rw[hι r this];exact h1
theorem tX:∀(pre:List (List Nat)) (fl:List (Bool×Bool)) (lF:List Nat) (i0:Nat),iM pre fl lF i0=true->∀(q:Nat) (e:Bool),fl[q]?=some (true,e)->∀p∈pre,i0+q∈p->(∀k∈lF,k∈p)/\∀(k:Nat) (b:Bool),k<q->fl[k]?=some (b,true)->i0+k∈p
 |pre,[],lF,i0,_,q,e,h,_,_,_=>by simp at h
 |pre,(a,e0)::r,lF,i0,vt,q,e,hq,p,hp,hm=>by
  simp only[iM,zM]at vt
  cases q with
  |zero =>
   simp at hq
   obtain ⟨rfl,rfl⟩:=hq
   have h1:=vt.1
   rw[if_pos rfl,zQ]at h1
   have h2:=h1 p hp
   rw[if_pos (by simpa using hm),zQ]at h2
   exact ⟨fun k hk=>by simpa using h2 k hk,fun k b hk=>by omega⟩
  |succ q =>
   have ih:=tX pre r _ (i0+1) vt.2 q e (by simpa using hq) p hp (by rw[show i0+1+q=i0+(q+1) by omega];exact hm)
   refine ⟨fun k hk=>ih.1 k (by split<;>simp[hk]),fun k b hk hb => ?_⟩
   cases k with
   |zero =>
    simp at hb
    obtain ⟨rfl,rfl⟩:=hb
    exact ih.1 i0 (by simp)
   |succ k =>
    have:=ih.2 k b (by omega) (by simpa using hb)
    rwa [show i0+1+k=i0+(k+1) by omega]at this
theorem HE {pre:List (List Nat)} {bh:List Rec} (h:cW pre bh) {i j k:Nat} {r rk:Rec} (hj:bh[j]?=some r) (ha:r.k=.a) (yF:j∈pre.getD i []) (hk:k<j) (Nk:bh[k]?=some rk) (he:rk.k.xx=true):k∈pre.getD i []:=by
 have hi:i<pre.length:=by
  rcases zj i pre.length with h|h
  ·exact h
  ·simp[List.getD,wZ h]at yF
 have mb:pre.getD i []∈pre:=by simp[List.getD,zA hi]
 have:=(tX pre _ [] 0 h.2 j r.k.xx (by simp[hj,ha,Kd.Ik]) _ mb (by simpa using yF)).2 k rk.k.Ik hk (by simp[Nk,he])
 simpa using this
theorem DF {D:Nat->Bool} {dst:Nat->Option Nat} {o1 o2:Nat->AV} {t0:Nat->AV} {m:Nat} (h:∀j,j≠m->o1 j=o2 j) (t:Nat):∀k,jw D dst o1 t0 k t=jw D dst o2 t0 k t\/(jw D dst o1 t0 k t=o1 m/\jw D dst o2 t0 k t=o2 m)
 |0=>.inl rfl
 |k+1=>by
  have ih:=DF (D:=D) (dst:=dst) (t0:=t0) h t k
  by_cases hd:dst k=some t
  ·simp only[jw,hd]
   split
   ·by_cases hk:k=m
    ·subst hk;exact .inr (by simp[jR])
    ·exact .inl (by simp[jR,h k hk])
   ·exact ih
  ·rw[kU hd,kU hd];exact ih
theorem BX {D:Nat->Bool} {dst:Nat->Option Nat} {o1 o2:Nat->AV} {t0:Nat->AV} {t:Nat}:∀(k:Nat),(∀j,j<k->D j=true->dst j=some t->o1 j=o2 j)->jw D dst o1 t0 k t=jw D dst o2 t0 k t
 |0,_=>rfl
 |k+1,h=>by
  have ih:=BX (D:=D) (dst:=dst) (t0:=t0) (t:=t) k (fun j hj=>h j (by omega))
  by_cases hd:dst k=some t
  ·simp only[jw,hd]
   split
   ·rename_i hD;simp[jR,h k (by omega) hD hd]
   ·exact ih
  ·rw[kU hd,kU hd];exact ih
structure SU (c c':Cx):Prop where
 ι:∀r p,c.ι r=some p->c'.ι r=some p
 size:c.w.heap.size<=c'.w.heap.size
 ah:∀B,B<c.w.heap.size->¬c.own B->¬c'.own B/\c'.w.heap[B]?=c.w.heap[B]?
 os:c'.w.os=c.w.os
 tape:c'.w.tape=c.w.tape
 output:c'.w.output=c.w.output
 G:c'.F.G=c.F.G
theorem SU.trans {a b c:Cx} (h:SU a b) (k:Ext b c):SU a c :=
 ⟨fun r p e=>k.ι r p (h.ι r p e),wH h.size k.size,fun B hB ho=>by
  obtain ⟨h1,h2⟩:=h.ah B hB ho
  obtain ⟨h3,h4⟩:=k.ah B (zU hB h.size) h1
  exact ⟨h3,h4.trans h2⟩,k.os.trans h.os,k.tape.trans h.tape,k.output.trans h.output,by rw[k.F];exact h.G⟩
structure PB (c c':Cx) (S:Nat->St) (out:Nat->AV) (j:Nat) (p:Place):Prop where
 row:∃m es,out j=vA m (S j).nx/\(S (j+1)).hp=ab (S j).hp (S j).nx (some es)/\(S (j+1)).nx=(S j).nx+1 /\
  ∃o,c'.w.heap[p.B]?=some o/\nT c' m es p o
 ge:c.w.heap.size<=p.B
theorem PB.to {c c' rJ:Cx} {S:Nat->St} {out:Nat->AV} {j:Nat} {p:Place} (h:PB c c' S out j p) (hw:rJ.w.heap[p.B]?=c'.w.heap[p.B]?) (mv:∀x u,aC c' x u->aC rJ x u):PB c rJ S out j p:=by
 obtain ⟨⟨m,es,h1,h2,h3,o,h4,h5⟩,hg⟩:=h
 exact ⟨⟨m,es,h1,h2,h3,o,by rw[hw];exact h4,h5.move mv⟩,hg⟩
def eL (pd:Nat->Option Place) (out:Nat->AV) (j:Nat):AV:=match pd j with
 |some p=>.v (uP p)
 |none=>out j
structure DI (c:Cx) (S:Nat->St) (rs:List Rec) (n:Nat) (dst:Nat->Option Nat) (out:Nat->AV) (t0:Nat->AV) (nt:Nat) (ay:Array Bool) (c':Cx) (a':Act) (m:Nat) (pd:Nat->Option Place):Prop where
 XW:m<=n
 done:∀j r,rs[j]?=some r->r.k.xx=true->j<m->ay.getD j false=true
 e:∀j r,rs[j]?=some r->r.k=.e->m<=j->ay.getD j false=false
 a:∀j r,rs[j]?=some r->r.k=.a->m<=j->ay.getD j false=true->(pd j).isSome=true
 Ci:∀j p,pd j=some p->m<=j/\(∃r,rs[j]?=some r/\r.k=.a)/\ay.getD j false=true/\PB c c' S out j p/\c'.F p.B
 inj:∀j j' p p',pd j=some p->pd j'=some p'->p.B=p'.B->j=j'
 F:∀B,c'.F B↔c.F B\/∃j p,pd j=some p/\p.B=B
 hp:c'.hp=(S m).hp
 rel:bf c' (S m).nx
 tm:fD c' (jw (fun i=>ay.getD i false) dst (eL pd out) t0 n) a'
 sz:a'.tmps.size=nt
 df:a'.defers=c'.F.G
 ext:SU c c'
section
variable {c:Cx} {S:Nat->St} {rs:List Rec} {n:Nat} {dst:Nat->Option Nat} {out:Nat->AV} {t0:Nat->AV} {nt:Nat} {ay:Array Bool} {c':Cx} {a':Act} {m:Nat} {pd:Nat->Option Place}
theorem DI.skip (h:DI c S rs n dst out t0 nt ay c' a' m pd) (hm:m<n) {r:Rec} (hr:rs[m]?=some r) (hk:r.k.xx=false) (h1:(S (m+1)).hp=(S m).hp) (h2:(S (m+1)).nx=(S m).nx):DI c S rs n dst out t0 nt ay c' a' (m+1) pd:=by
 refine ⟨by omega,fun j r' h3 h4 h5 => ?_,fun j r' h3 h4 h5=>h.e j r' h3 h4 (by omega),fun j r' h3 h4 h5=>h.a j r' h3 h4 (by omega),fun j p h3 => ?_,h.inj,h.F,by rw[h1];exact h.hp,by rw[h2];exact h.rel,h.tm,h.sz,h.df,h.ext⟩
 ·by_cases hjm:j=m
  ·subst hjm;rw[hr,zOi]at h3;subst h3;rw[hk]at h4;cases h4
  ·exact h.done j r' h3 h4 (by omega)
 ·obtain ⟨g1,⟨r',g2,g3⟩,g4⟩:=h.Ci j p h3
  refine ⟨?_,⟨r',g2,g3⟩,g4⟩
  by_cases hjm:j=m
  ·subst hjm;rw[hr,zOi]at g2;subst g2;rw[g3]at hk;cases hk
  ·omega
theorem DI.take (WD:∀B,c.F B->B<c.w.heap.size) (h:DI c S rs n dst out t0 nt ay c' a' m pd) (hm:m<n) {p:Place} (hp:pd m=some p):∃rJ ve,rJ.w=c'.w/\DI c S rs n dst out t0 nt ay rJ a' (m+1) ve:=by
 obtain ⟨_,⟨r,hr,hk⟩,hl,hPB,hF⟩:=h.Ci m p hp
 obtain ⟨mm,v9,e1,e2,e3,o,e4,e5⟩:=hPB.row
 obtain ⟨bP,mv⟩:=h.rel.acr hF e4 e5
 have R3:=h.rel.fresh
 refine ⟨⟨⟨fun B=>c'.F B/\B≠p.B,c'.F.G⟩,cj c'.ι (S m).nx p,ab c'.hp (S m).nx (some v9),c'.w⟩,fun j=>if j=m then none else pd j,rfl,?_⟩
 have RT:∀j p',(if j=m then none else pd j)=some p'->j≠m/\pd j=some p':=by
  intro j p' h1
  split at h1
  ·cases h1
  ·rename_i h2;exact ⟨h2,h1⟩
 refine ⟨by omega,fun j r' h3 h4 h5 => ?_,fun j r' h3 h4 h5=>h.e j r' h3 h4 (by omega),fun j r' h3 h4 h5 h6 => ?_,fun j p' h3 => ?_,fun j j' p1 p2 h3 h4 h5 => ?_,fun B => ?_,?_,?_,?_,h.sz,h.df,?_⟩
 ·by_cases hjm:j=m
  ·subst hjm;exact hl
  ·exact h.done j r' h3 h4 (by omega)
 ·rw[if_neg (by omega)]
  exact h.a j r' h3 h4 (by omega) h6
 ·obtain ⟨h4,h5⟩:=RT j p' h3
  obtain ⟨g1,g2,g3,g4,g5⟩:=h.Ci j p' h5
  refine ⟨by omega,g2,g3,g4.to rfl mv,g5,fun h6=>h4 (h.inj j m p' p h5 hp h6)⟩
 ·exact h.inj j j' p1 p2 (RT j p1 h3).2 (RT j' p2 h4).2 h5
 ·constructor
  ·rintro ⟨h1,h2⟩
   rcases (h.F B).1 h1 with h3|⟨j,p',h3,h4⟩
   ·exact .inl h3
   ·refine .inr ⟨j,p',?_,h4⟩
    rw[if_neg]
    ·exact h3
    ·rintro rfl
     rw[hp,zOi]at h3;subst h3
     exact h2 h4.symm
  ·rintro (h1|⟨j,p',h1,h2⟩)
   ·refine ⟨(h.F B).2 (.inl h1),fun h3 => ?_⟩
    have:=WD B h1
    have:=hPB.ge
    omega
   ·obtain ⟨h4,h5⟩:=RT j p' h1
    exact ⟨(h.F B).2 (.inr ⟨j,p',h5,h2⟩),fun h6=>h4 (h.inj j m p' p h5 hp (by rw[h2,h6]))⟩
 ·show ab _ _ _=_
  rw[e2,h.hp]
 ·rw[e3];exact bP
 ·intro t
  have bt:∀j,j≠m->eL pd out j=eL (fun j=>if j=m then none else pd j) out j:=by
   intro j hj;simp only[eL,if_neg hj]
  rcases DF (D:=fun i=>ay.getD i false) (dst:=dst) (t0:=t0) bt t n with h1|⟨h1,h2⟩
  ·rw[<-h1];exact mv _ _ (h.tm t)
  ·rw[h2]
   have h3:=h.tm t
   rw[h1]at h3
   have h4:eL pd out m=.v (uP p):=by simp only[eL,hp]
   rw[h4]at h3
   have h5:=h3.bZ
   have h6:eL (fun j=>if j=m then none else pd j) out m=vA mm (S m).nx:=by simp only[eL,if_true,e1]
   rw[h6,h5]
   have gf:=e5.2.2
   cases mm with
   |false =>
    have hO:p.O=0:=by simpa using gf
    have:=aC.ptr (c:=⟨⟨fun B=>c'.F B/\B≠p.B,c'.F.G⟩,cj c'.ι (S m).nx p,ab c'.hp (S m).nx (some v9),c'.w⟩) (r:=(S m).nx) (i:=0) (off:=0) (p:=p) (by simp[cj]) (by rw[hO];exact wT _)
    simpa [hO,vA,uP] using this
   |true =>
    have hO:p.O=1/\p.N=0:=by simpa using gf
    have:=aC.mp (c:=⟨⟨fun B=>c'.F B/\B≠p.B,c'.F.G⟩,cj c'.ι (S m).nx p,ab c'.hp (S m).nx (some v9),c'.w⟩) (r:=(S m).nx) (p:=p) (by simp[cj]) (by omega)
    simpa [hO.1,vA,uP] using this
 ·refine ⟨fun r' p' h1 => ?_,h.ext.size,fun B hB ho=>⟨?_,(h.ext.ah B hB ho).2⟩,h.ext.os,h.ext.tape,h.ext.output,h.ext.G⟩
  ·have h2:=h.ext.ι r' p' h1
   have:r'≠(S m).nx:=by rintro rfl;rw[R3]at h2;cases h2
   show cj _ _ _ r'=_
   simp[cj,this,h2]
  ·rintro ⟨r',p',h1,h2,h3⟩
   by_cases GS:r'=(S m).nx
   ·subst GS
    have Al:some p=some p':=by rw[<-h2];simp[cj]
    cases Al
    have:=hPB.ge
    omega
   ·refine (h.ext.ah B hB ho).1 ⟨r',p',?_,?_,h3⟩
    ·simpa [ab,GS] using h1
    ·simpa [cj,GS] using h2
theorem DI.all (WD:∀B,c.F B->B<c.w.heap.size) (hlen:rs.length=n) (bt:∀i r,rs[i]?=some r->r.k.xx=false->(S (i+1)).hp=(S i).hp/\(S (i+1)).nx=(S i).nx) :
  ∀(d m:Nat) (c':Cx) (pd:Nat->Option Place),n-m=d->DI c S rs n dst out t0 nt ay c' a' m pd->∃m' rJ ve,rJ.w=c'.w/\DI c S rs n dst out t0 nt ay rJ a' m' ve/\(m'=n\/∃r,rs[m']?=some r/\r.k.xx=true/\ay.getD m' false=false)
 |0,m,c',pd,hd,h=>⟨m,c',pd,rfl,h,.inl (by have:=h.XW;omega)⟩
 |d+1,m,c',pd,hd,h=>by
  have hm:m<n:=by omega
  have hr:rs[m]?=some rs[m]:=zA (by omega)
  cases hk:(rs[m]'(by omega)).k.xx with
  |false =>
   obtain ⟨g1,g2⟩:=bt m _ hr hk
   exact DI.all WD hlen bt d (m+1) c' pd (by omega) (h.skip hm hr hk g1 g2)
  |true =>
   cases hl:ay.getD m false with
   |false=>exact ⟨m,c',pd,rfl,h,.inr ⟨_,hr,hk,hl⟩⟩
   |true =>
    have G4:(rs[m]'(by omega)).k=.a:=by
     cases s8:(rs[m]'(by omega)).k with
     |a=>rfl
     |e=>have:=h.e m _ hr s8 (zD _);rw[hl]at this;cases this
     |p=>rw[s8]at hk;cases hk
     |r x=>rw[s8]at hk;cases hk
    obtain ⟨p,hp⟩:=wM.1 (h.a m _ hr G4 (zD _) hl)
    obtain ⟨c2,pd2,hw,h2⟩:=h.take WD hm hp
    obtain ⟨m3,c3,pd3,CC,h3,h4⟩:=DI.all WD hlen bt d (m+1) c2 pd2 (by omega) h2
    exact ⟨m3,c3,pd3,CC.trans hw,h3,h4⟩
end
theorem BF {P:Program} (hm:P.follows .mixedOrders=true) {R:aQ} (hR:cY P R):rN P R:=by
 intro nt own id ops cl c s a Q Q' gf vt hs hW hQ
 simp only[zM]at vt
 obtain ⟨RQ,aau⟩:=vt
 obtain ⟨S,out,rs,hS0,Dv,oZ,Bv,hQn⟩:=vO cl s [] hW
 rw[zh]at Bv
 have hn:cl.length=ops.size:=by
  have key:∀(l:List Oper) (i:Nat) (cl:List aK),dp P nt own ops l i=some cl->cl.length=l.length:=by
   intro l
   induction l with
   |nil=>intro i cl h;simp only[dp,zOi]at h;subst h;rfl
   |cons o r ih =>
    intro i cl h
    simp only[dp]at h
    split at h
    ·rename_i co l' h1 h2
     simp only[zOi]at h;subst h
     simp[ih _ _ h2]
    ·simp at h
  simpa using key _ _ _ gf
 have abb:∀(i:Nat) (o:Oper),ops[i]?=some o->∃co,cl[i]?=some co/\mR P nt (own i) ops o=some co:=by
  have key:∀(l:List Oper) (k:Nat) (cl:List aK),dp P nt own ops l k=some cl->∀(i:Nat) (o:Oper),l[i]?=some o->∃co,cl[i]?=some co/\mR P nt (own (k+i)) ops o=some co:=by
   intro l
   induction l with
   |nil=>intro k cl h i o hi;simp at hi
   |cons x r ih =>
    intro k cl h i o hi
    simp only[dp]at h
    split at h
    ·rename_i co l' h1 h2
     simp only[zOi]at h;subst h
     cases i with
     |zero=>simp at hi;subst hi;exact ⟨co,rfl,h1⟩
     |succ i =>
      obtain ⟨QP,h3,h4⟩:=ih (k+1) l' h2 i o (by simpa using hi)
      exact ⟨QP,by simpa using h3,by rw[show k+(i+1)=k+1+i by omega];exact h4⟩
    ·simp at h
  intro i o hi
  obtain ⟨co,h1,h2⟩:=key _ _ _ gf i o (by simpa using hi)
  rw[Nat.zero_add]at h2
  exact ⟨co,h1,h2⟩
 let pre:=xS ops
 let dst:Nat->Option Nat:=fun i=>(cl[i]?).bind (·.dst)
 have Bx:∀(j:Nat) (o:Oper),ops[j]?=some o->∀e∈o.after,Region.binds .any e=true->e.on<j:=by
  intro j o ho e he hb
  have hj:=(zE.1 ho).1
  simp only[HX,zQ,wL]at RQ
  have:=RQ j hj
  simp only[ho,zM,zQ,qA,wh,decide_eq_true_eq]at this
  rcases this.1 e (by simpa using he) with h|h
  ·rw[hb]at h;cases h
  ·exact h
 have o6:∀(j:Nat) (o:Oper),ops[j]?=some o->∀i∈pre.getD j [],i<j/\∃e∈o.after,Region.binds .any e=true/\(e.on=i\/i∈pre.getD e.on []):=by
  intro j o ho i hi
  have hj:=(zE.1 ho).1
  simp only[HX,zQ,wL]at RQ
  have:=RQ j hj
  simp only[ho,zM,zQ,decide_eq_true_eq,List.any_eq_true,qA,beq_iff_eq]at this
  obtain ⟨h1,e,he,hb,h2⟩:=this.2 i hi
  refine ⟨h1,e,by simpa using he,hb,h2.imp (fun h=>h) (fun h=>by simpa using h)⟩
 have GP:∀(i j:Nat) (x y:aK) (d:Nat),i≠j->cl[i]?=some x->cl[j]?=some y->x.dst=some d->(d∈y.looks\/y.dst=some d)->i∈pre.getD j []\/j∈pre.getD i []:=by
  intro i j x y d yF hx hy hd hl
  simp only[BY,zQ,wL]at aau
  have:=aau i (zB.1 hx).1 j (zB.1 hy).1
  simp only[hx,hy,hd,qA,beq_iff_eq,yF,false_or,wh,qI]at this
  rcases this with (h|h)|h
  ·exfalso
   rcases hl with hl|hl
   ·have h1:=h.1;simp[hl]at h1
   ·have h2:=h.2;simp[hl]at h2
  ·left;simpa using h
  ·right;simpa using h
 have ao:∀i,i<ops.size->∃o co Lx g r,ops[i]?=some o/\cl[i]?=some co/\co=⟨o.dst,Lx,g⟩/\dC P (own i) o=some Lx/\rG ops o.guard=some g/\o.dst.all (· < nt)=true/\rs[i]?=some r/\Ab R co (S i) (out i) r (S (i+1)):=by
  intro i hi
  obtain ⟨co,h1,h2⟩:=abb i ops[i] (zL hi)
  unfold mR at h2
  split at h2
  ·rename_i Lx g hc hg
   split at h2
   ·rename_i hd
    simp only[zOi]at h2
    have hr:i<rs.length:=by omega
    exact ⟨ops[i],co,Lx,g,rs[i],zL hi,h1,h2.symm,hc,hg,hd,zA hr,oZ i co _ h1 (zA hr)⟩
   ·simp at h2
  ·simp at h2
 have aa7:∀i o,ops[i]?=some o->dst i=o.dst:=by
  intro i o ho
  have hi:=(zE.1 ho).1
  obtain ⟨o',co,Lx,g,r,h1,h2,h3,_⟩:=ao i hi
  rw[ho,zOi]at h1;subst h1
  simp only[dst,h2,Option.bind_some,h3]
 have abj:∀i,i<=ops.size->(S i).tm=jw (fun _=>true) dst out s.tm i:=by
  intro i
  induction i with
  |zero=>intro _;rw[hS0];rfl
  |succ i ih =>
   intro hi
   obtain ⟨o,co,Lx,g,r,h1,h2,h3,h4,h5,h6,h7,h8⟩:=ao i (by omega)
   have hd:=aa7 i o h1
   have lv:∀(v:AV) (hp:Heap) (nx:Nat),v=out i->((S i).put co.dst v hp nx).tm=jw (fun _=>true) dst out s.tm (i+1):=by
    intro v hp nx hv
    subst hv
    simp only[jw,if_true,hd,h3]
    cases o.dst with
    |none=>simp only[St.put];exact ih (by omega)
    |some d=>simp only[St.put];rw[ih (by omega)]
   rcases h8 with ⟨_,hp,nx,k,_,e,_⟩|⟨_,hv,e,_⟩
   ·rw[e];exact lv _ _ _ rfl
   ·rw[e];exact lv _ _ _ hv.symm
 have aaH:∀i r,rs[i]?=some r->r.hp=(S i).hp/\r.hp'=(S (i+1)).hp/\(r.k.xx=false->(S (i+1)).hp=(S i).hp/\(S (i+1)).nx=(S i).nx):=by
  intro i r hr
  have hi:i<ops.size:=by have:=(zB.1 hr).1;omega
  obtain ⟨o,co,Lx,g,r',h1,h2,h3,h4,h5,h6,h7,h8⟩:=ao i hi
  rw[hr,zOi]at h7;subst h7
  have No:∀(d:Option Nat) (v:AV) (hp:Heap) (nx:Nat),((S i).put d v hp nx).hp=hp/\((S i).put d v hp nx).nx=nx:=by intro d v hp nx;cases d<;>exact ⟨rfl,rfl⟩
  rcases h8 with ⟨_,hp,nx,k,hw,e,rfl⟩|⟨_,hv,e,rfl⟩
  ·rw[e]
   refine ⟨rfl,((No _ _ _ _).1).symm,fun bt => ?_⟩
   rw[(No _ _ _ _).1,(No _ _ _ _).2]
   obtain ⟨m1,m2,m3,m4⟩:=FC (P:=P) hR (s':=S i) hw (fun _ _=>rfl)
   cases k with
   |p=>exact ⟨(m1 rfl).1,(m1 rfl).2.1⟩
   |r x=>exact ⟨(m2 x rfl).1,(m2 x rfl).2.1⟩
   |e=>cases bt
   |a=>cases bt
  ·rw[e]
   exact ⟨rfl,((No _ _ _ _).1).symm,fun _=>⟨(No _ _ _ _).1,(No _ _ _ _).2⟩⟩
 have Bw:∀x d i,i+d<=ops.size->(∀j r,i<=j->j<i+d->rs[j]?=some r->r.k.xx=true->r.hp x=r.hp' x)->(S (i+d)).hp x=(S i).hp x:=by
  intro x d
  induction d with
  |zero=>intro i _ _;rfl
  |succ d ih =>
   intro i hle sJ
   have h1:=ih i (by omega) (fun j r h3 h4=>sJ j r h3 (by omega))
   have az:i+d<rs.length:=by omega
   obtain ⟨g1,g2,h3⟩:=aaH (i+d) _ (zA az)
   cases hk:(rs[i+d]).k.xx with
   |true =>
    have:=sJ (i+d) _ (by omega) (by omega) (zA az) hk
    rw[g1,g2]at this
    exact this.symm.trans h1
   |false =>
    obtain ⟨h4,_⟩:=h3 hk
    rw[show i+(d+1)=i+d+1 by omega,h4];exact h1
 have adU:∀(ay:Array Bool),(∀(j:Nat) (o:Oper),ops[j]?=some o->ay.getD j false=true->∀e∈o.after,Region.binds .any e=true->ay.getD e.on false=true) ->
   ∀(b j:Nat),j<b->j<ops.size->ay.getD j false=true->∀i∈pre.getD j [],ay.getD i false=true:=by
  intro ay NJ b
  induction b with
  |zero=>intro j h;omega
  |succ b ih =>
   intro j hjb hj hD i hi
   have ho:=zL hj
   obtain ⟨_,e,he,hb,h2⟩:=o6 j _ ho i hi
   have h3:=NJ j _ ho hD e he hb
   have h4:=Bx j _ ho e he hb
   rcases h2 with rfl|h2
   ·exact h3
   ·exact ih e.on (by omega) (by omega) h3 i h2
 have afz:∀(ay:Array Bool),ay.size=ops.size->Region.ready .any ops ay=[]->∀(b j:Nat),j<b->j<ops.size->ay.getD j false=true:=by
  intro ay TM hr b
  induction b with
  |zero=>intro j h;omega
  |succ b ih =>
   intro j hjb hj
   have ho:=zL hj
   cases hD:ay.getD j false with
   |true=>rfl
   |false =>
    have:j∈Region.ready .any ops ay:=mem_ready.2 ⟨by rw[CR (by omega)];exact hD,_,ho,fun e he hb=>ih e.on (by have:=Bx j _ ho e he hb;omega) (by have:=Bx j _ ho e he hb;omega)⟩
    rw[hr]at this;cases this
 have WD:∀B,c.F B->B<c.w.heap.size:=hs.rel.F
 have T1:∀{ay:Array Bool} {c':Cx} {a':Act} {m:Nat} {pd:Nat->Option Place},DI c S rs ops.size dst out s.tm nt ay c' a' m pd->∃m' rJ ve,rJ.w=c'.w/\DI c S rs ops.size dst out s.tm nt ay rJ a' m' ve/\(m'=ops.size\/∃r,rs[m']?=some r/\r.k.xx=true/\ay.getD m' false=false) :=
  fun {ay c' a' m pd} h=>DI.all WD (by omega) (fun i r hr hk=>(aaH i r hr).2.2 hk) _ m c' pd rfl h
 have fin:∀(ay:Array Bool) (c':Cx) (a':Act) (m:Nat) (pd:Nat->Option Place),(∀j,j<ops.size->ay.getD j false=true)->DI c S rs ops.size dst out s.tm nt ay c' a' m pd->Q' .normal a' c'.w:=by
  intro ay c0 a' m0 pd0 iU h0
  obtain ⟨m,c',pd,hw,h,EA⟩:=T1 h0
  have hm:m=ops.size:=by
   rcases EA with h1|⟨r,h1,h2,h3⟩
   ·exact h1
   ·have az:=(zB.1 h1).1
    rw[iU m (by omega)]at h3;cases h3
  subst hm
  have RT:∀j,pd j=none:=by
   intro j
   cases hj:pd j with
   |none=>rfl
   |some p =>
    obtain ⟨g1,⟨r,g2,_⟩,_⟩:=h.Ci j p hj
    have:=(zB.1 g2).1
    omega
  have hF:c'.F=c.F:=by
   have hg:=h.ext.G
   have hf:c'.F.F=c.F.F:=by
    funext B
    apply propext
    rw[h.F B]
    constructor
    ·rintro (h1|⟨j,p,h1,_⟩)
     ·exact h1
     ·rw[RT]at h1;cases h1
    ·exact .inl
   cases hA:c'.F with
   |mk F1 G1 =>
    cases hB:c.F with
    |mk F2 G2=>rw[hA,hB]at hf hg;simp only at hf hg;rw[hf,hg]
  rw[<-hw]
  refine hQ (S ops.size) c' a' (by rw[<-hn];exact hQn) ⟨?_,h.sz,h.df,h.hp,h.rel⟩ ⟨hF,h.ext.ι,h.ext.size,h.ext.ah,h.ext.os,h.ext.tape,h.ext.output⟩
  rw[abj ops.size (zD _)]
  have ho:eL pd out=out:=funext fun j=>by simp only[eL,RT]
  have:jw (fun i=>ay.getD i false) dst (eL pd out) s.tm ops.size=jw (fun _=>true) dst out s.tm ops.size:=by rw[ho];exact funext fun t=>kN _ (fun j hj _=>iU j hj)
  rw[<-this];exact h.tm
 have main:∀(iY:Nat) (ay:Array Bool) (c':Cx) (a':Act) (m:Nat) (pd:Nat->Option Place),ay.size=ops.size->xc (fun i=>ay.getD i false) ops.size<=iY ->
   (∀(j:Nat) (o:Oper),ops[j]?=some o->ay.getD j false=true->∀e∈o.after,Region.binds .any e=true->ay.getD e.on false=true) ->
   DI c S rs ops.size dst out s.tm nt ay c' a' m pd->wpAny P .any ops Q' iY ay a' c'.w:=by
  intro iY
  induction iY with
  |zero =>
   intro ay c' a' m pd TM ae1 NJ iF
   have iU:∀j,j<ops.size->ay.getD j false=true:=Fg ops.size (by omega)
   refine ⟨List.eq_nil_iff_forall_not_mem.2 fun j hj => ?_,fin ay c' a' m pd iU iF⟩
   obtain ⟨h1,o,ho,_⟩:=mem_ready.1 hj
   have hj:=(zE.1 ho).1
   rw[CR (by omega),iU j hj]at h1;cases h1
  |succ iY ih =>
   intro ay c0 a' m0 pd0 TM ae1 NJ aa8
   refine ⟨fun hr=>fin ay c0 a' m0 pd0 (fun j hj=>afz ay TM hr (j+1) j (by omega) hj) aa8,?_⟩
   intro i hir
   obtain ⟨m,c',pd,hcw,iF,EA⟩:=T1 aa8
   rw[<-hcw]
   obtain ⟨G5,o,ho,NN⟩:=mem_ready.1 hir
   have hi:=(zE.1 ho).1
   have iR:i<ay.size:=by omega
   rw[CR iR]at G5
   have gf:=adU ay NJ
   have hpi:∀k∈pre.getD i [],ay.getD k false=true:=by
    intro k hk
    obtain ⟨_,e,he,hb,h2⟩:=o6 i o ho k hk
    have h3:=NN e he hb
    rcases h2 with rfl|h2
    ·exact h3
    ·have:=Bx i o ho e he hb
     exact gf (e.on+1) e.on (by omega) (by omega) h3 k h2
   have hip:∀j,j<ops.size->i∈pre.getD j []->ay.getD j false=false:=by
    intro j hj Dx
    cases hD:ay.getD j false with
    |false=>rfl
    |true=>rw[gf (j+1) j (by omega) hj hD i Dx]at G5;cases G5
   obtain ⟨o',co,Lx,g,r,h1,h2,h3,h4,h5,h6,h7,h8⟩:=ao i hi
   rw[ho,zOi]at h1;subst h1
   have WB:=aa7 i o ho
   have NI:∀j,j<ops.size->∃y,cl[j]?=some y/\dst j=y.dst:=by
    intro j hj
    have:j<cl.length:=by omega
    exact ⟨cl[j],zA this,by simp[dst,zA this]⟩
   have hnp:∀j p,pd j=some p->j∉pre.getD i []:=by
    intro j p hp hj
    obtain ⟨g1,⟨rj,g2,g3⟩,g4,_⟩:=iF.Ci j p hp
    have hjn:=(zB.1 g2).1
    rcases EA with hm|⟨rm,k1,k2,k3⟩
    ·omega
    ·have bt:m≠j:=by rintro rfl;rw[g4]at k3;cases k3
     have:=HE Bv g2 g3 hj (by omega) k1 k2
     rw[hpi m this]at k3;cases k3
   have aaJ:pd i=none:=by
    cases hp:pd i with
    |none=>rfl
    |some p=>have:=(iF.Ci i p hp).2.2.1;rw[G5]at this;cases this
   have TN:∀t∈co.looks,(S i).tm t=jw (fun i=>ay.getD i false) dst (eL pd out) s.tm ops.size t:=by
    intro t Qw
    have e1:(S i).tm t=jw (fun i=>ay.getD i false) dst out s.tm ops.size t:=by
     rw[abj i (by omega),<-AR i ops.size (by omega)]
     refine kN _ (fun j hj hd => ?_)
     obtain ⟨y,hy,hyd⟩:=NI j hj
     by_cases oA:j=i
     ·subst oA;rw[G5];simp
     ·rw[hyd]at hd
      rcases GP j i y co t oA hy h2 hd (.inl Qw) with h|h
      ·rw[hpi j h];simp;exact (o6 i o ho j h).1
      ·rw[hip j hj h];simp
       have:=(o6 j _ (zL hj) i h).1
       omega
    rw[e1]
    refine BX _ fun j hj hD hd => ?_
    simp only[eL]
    cases hp:pd j with
    |none=>rfl
    |some p =>
     exfalso
     obtain ⟨y,hy,hyd⟩:=NI j hj
     have oA:j≠i:=by rintro rfl;rw[G5]at hD;cases hD
     rw[hyd]at hd
     rcases GP j i y co t oA hy h2 hd (.inl Qw) with h|h
     ·exact hnp j p hp h
     ·rw[hip j hj h]at hD;cases hD
   have Hg:∀j,(ay.setIfInBounds i true).getD j false=if j=i then true else ay.getD j false:=fun j=>NX iR
   have gw:∀ve:Nat->Option Place,(∀j,j≠i->ve j=pd j)->∀j,j≠i->eL ve out j=eL pd out j:=fun ve h j hj=>by simp only[eL,h j hj]
   have RI:∀(ve:Nat->Option Place) (hp:Heap) (nx:Nat) (s2:St),(∀j,j≠i->ve j=pd j)->s2.tm=jw (fun i=>ay.getD i false) dst (eL pd out) s.tm ops.size->(s2.put o.dst (eL ve out i) hp nx).tm=jw (fun j=>(ay.setIfInBounds i true).getD j false) dst (eL ve out) s.tm ops.size:=by
    intro ve hp nx s2 Ax hs2
    have k7:∀t,jw (fun i=>ay.getD i false) dst (eL pd out) s.tm ops.size t=jw (fun i=>ay.getD i false) dst (eL ve out) s.tm ops.size t:=fun t=>BX _ fun j _ hD _=>(gw ve Ax j (by rintro rfl;rw[G5]at hD;cases hD)).symm
    cases hd:o.dst with
    |none =>
     simp only[St.put,hs2]
     funext t
     rw[k7 t]
     refine kN _ (fun j hj TV => ?_)
     show _=(ay.setIfInBounds i true).getD j false
     rw[Hg j,if_neg]
     rintro rfl;rw[WB,hd]at TV;cases TV
    |some d =>
     simp only[St.put,hs2]
     funext t
     unfold jR
     split
     ·rename_i htd;subst htd
      refine (DG (i:=i) ?_ (by rw[WB,hd]) _ hi ?_).symm
      ·show (ay.setIfInBounds i true).getD i false=true
       rw[Hg];simp
      ·intro j h9 im TV
       show (ay.setIfInBounds i true).getD j false=false
       rw[Hg j,if_neg (by omega)]
       obtain ⟨y,hy,hyd⟩:=NI j im
       rw[hyd]at TV
       rcases GP j i y co t (by omega) hy h2 TV (.inr (by rw[h3];exact hd)) with h|h
       ·have:=(o6 i o ho j h).1;omega
       ·exact hip j im h
     ·rename_i htd
      rw[k7 t]
      refine kN _ (fun j hj TV => ?_)
      show _=(ay.setIfInBounds i true).getD j false
      rw[Hg j,if_neg]
      rintro rfl
      rw[WB,hd]at TV
      exact htd (Option.some.inj TV).symm
   have R6:∀(j:Nat) (o:Oper),ops[j]?=some o->(ay.setIfInBounds i true).getD j false=true->∀e∈o.after,Region.binds .any e=true->(ay.setIfInBounds i true).getD e.on false=true:=by
    intro j o2 ho2 hj e he hb
    rw[Hg]at hj
    split at hj
    ·rename_i oA;subst oA
     rw[ho,zOi]at ho2;subst ho2
     exact getD_set_true (NN e he hb)
    ·exact getD_set_true (NJ j o2 ho2 hj e he hb)
   have Iz:xc (fun j=>(ay.setIfInBounds i true).getD j false) ops.size<=iY:=by
    have:=PU (D:=fun i=>ay.getD i false) (D':=fun j=>(ay.setIfInBounds i true).getD j false) (fun j h=>getD_set_true h) (i:=i) G5 (by show (ay.setIfInBounds i true).getD i false=true;rw[Hg];simp) ops.size hi
    omega
   have RY:(ay.setIfInBounds i true).size=ops.size:=by simpa using TM
   have hsr:SR c' ⟨jw (fun i=>ay.getD i false) dst (eL pd out) s.tm ops.size,(S m).hp,(S m).nx⟩ nt a':=⟨iF.tm,iF.sz,iF.df,iF.hp,iF.rel⟩
   have TT:∀d w,g=some (d,w)->(S i).tm d=jw (fun i=>ay.getD i false) dst (eL pd out) s.tm ops.size d:=by
    intro d w hg
    refine TN d ?_
    rw[h3];simp[aK.looks,hg]
   have Tt:∀t∈Lx.oi,(S i).tm t=jw (fun i=>ay.getD i false) dst (eL pd out) s.tm ops.size t:=by
    intro t h
    refine TN t ?_
    rw[h3];simp[aK.looks,h]
   have GY:eL pd out i=out i:=by simp only[eL,aaJ]
   have hee:∀j rj,j<ops.size->rs[j]?=some rj->¬gn r rj->¬gn rj r->j≠i->((ay.getD j false=true↔j<i)):=by
    intro j rj hj Qx Ey Bp oA
    rcases Nat.lt_or_gt_of_ne oA with h|h
    ·rcases rI Bv h Qx h7 with h|h
     ·exact ⟨fun _=>by omega,fun _=>hpi j h⟩
     ·exact absurd h Bp
    ·rcases rI Bv h h7 Qx with h|h
     ·rw[hip j hj h];simp;omega
     ·exact absurd h Ey
   have next:∀(rJ:Cx) (a2:Act) (m2:Nat) (u:Value),Ext c' rJ->bf rJ (S m2).nx->rJ.hp=(S m2).hp->fD rJ (jw (fun j=>(ay.setIfInBounds i true).getD j false) dst (eL pd out) s.tm ops.size) a2->a2.tmps.size=nt->a2.defers=rJ.F.G->m2<=ops.size ->
     (r.k.xx=false/\m2=m\/r.k=.e/\m=i/\m2=i+1)->DI c S rs ops.size dst out s.tm nt (ay.setIfInBounds i true) rJ a2 m2 pd:=by
    intro rJ a2 m2 u he Dv aeP aej VS aeV Dx lO
    have FL:m<=m2/\∀j rj,rs[j]?=some rj->rj.k.xx=true->j<m2->j<m\/j=i:=by
     rcases lO with ⟨_,rfl⟩|⟨_,rfl,rfl⟩
     ·exact ⟨zD _,fun j rj _ _ h=>.inl h⟩
     ·exact ⟨by omega,fun j rj _ _ h=>by omega⟩
    refine ⟨Dx,fun j rj g1 g2 g3 => ?_,fun j rj g1 g2 g3 => ?_,fun j rj g1 g2 g3 g4 => ?_,fun j p g1 => ?_,iF.inj,fun B=>by rw[he.F];exact iF.F B,aeP,Dv,aej,VS,aeV,iF.ext.trans he⟩
    ·rw[Hg]
     split
     ·rfl
     ·rename_i oA
      rcases FL.2 j rj g1 g2 g3 with h|h
      ·exact iF.done j rj g1 g2 h
      ·exact absurd h oA
    ·rw[Hg,if_neg]
     ·exact iF.e j rj g1 g2 (by omega)
     ·rintro rfl
      rw[h7,zOi]at g1;subst g1
      rcases lO with ⟨h,_⟩|⟨_,_,h⟩
      ·rw[g2]at h;cases h
      ·omega
    ·rw[Hg,if_neg]at g4
     ·exact iF.a j rj g1 g2 (by omega) g4
     ·rintro rfl
      rw[h7,zOi]at g1;subst g1
      rcases lO with ⟨h,_⟩|⟨h,_⟩
      ·rw[g2]at h;cases h
      ·rw[g2]at h;cases h
    ·obtain ⟨k1,k2,k3,k4,k5⟩:=iF.Ci j p g1
     have oA:j≠i:=by rintro rfl;rw[G5]at k3;cases k3
     refine ⟨?_,k2,by rw[Hg,if_neg oA];exact k3,k4.to ?_ (fun x u h=>h.mono he),by rw[he.F];exact k5⟩
     ·rcases lO with ⟨_,rfl⟩|⟨_,h1,rfl⟩
      ·exact k1
      ·omega
     ·exact (he.ah _ (iF.rel.F _ k5) (iF.rel.H5 k5)).2
   unfold wpOp
   rw[ho]
   simp only[]
   rcases h8 with ⟨hw,hp,nx,k,VM,vB,Nk⟩|⟨hw,hv,vB,Nk⟩
   ·
    rw[h3]at hw VM vB
    simp only at hw VM vB
    have mj:=hw
    rw[rX (tm':=jw (fun i=>ay.getD i false) dst (eL pd out) s.tm ops.size) TT]at mj
    rw[if_pos (kT h5 mj iF.tm)]
    refine .inl ?_
    obtain ⟨m1,m2,m3,m4⟩:=FC hR (s':=⟨jw (fun i=>ay.getD i false) dst (eL pd out) s.tm ops.size,(S m).hp,(S m).nx⟩) VM Tt
    have No:∀(d:Option Nat) (v:AV) (hp:Heap) (nx:Nat),((S i).put d v hp nx).hp=hp/\((S i).put d v hp nx).nx=nx:=by intro d v hp nx;cases d<;>exact ⟨rfl,rfl⟩
    have hmi:r.k.xx=true->m<=i:=by
     intro Yb
     rcases zj i m with h|h
     ·rw[iF.done i r h7 Yb h]at G5;cases G5
     ·exact h
    have quiet:∀k2,r.k.xx=false->eu R Lx ⟨jw (fun i=>ay.getD i false) dst (eL pd out) s.tm ops.size,(S m).hp,(S m).nx⟩ (xj (out i) (S m).hp (S m).nx k2)->o.wp P a' c'.w (wpAny P .any ops Q' iY (ay.setIfInBounds i true)) Q':=by
     intro k2 bt X9
     refine uT hR h4 hsr h6 X9 ?_
     rintro v hp' nx' k' rJ u ⟨rfl,rfl,rfl,rfl⟩ _ he hh Nj l8
     have yq:=hsr.put h6 he hh Nj l8
     refine ih _ rJ _ m pd RY Iz R6 (next rJ _ m u he Nj hh ?_ yq.sz yq.df iF.XW (.inl ⟨bt,rfl⟩))
     rw[<-RI pd (S m).hp (S m).nx ⟨jw (fun i=>ay.getD i false) dst (eL pd out) s.tm ops.size,(S m).hp,(S m).nx⟩ (fun _ _=>rfl) rfl,GY]
     exact yq.tm
    cases k with
    |p=>exact quiet .p (by rw[Nk];rfl) (m1 rfl).2.2
    |r x =>
     refine quiet (.r x) (by rw[Nk];rfl) ((m2 x rfl).2.2 ?_)
     have hx:∀j rj,j<ops.size->rs[j]?=some rj->rj.k.xx=true->(j<i/\m<=j\/i<=j/\j<m)->rj.hp x=rj.hp' x:=by
      intro j rj hj Qx G0 lO
      have oA:j≠i:=by
       rintro rfl
       rw[h7,zOi]at Qx;subst Qx
       rw[Nk]at G0;cases G0
      by_cases EM:rj.hp x=rj.hp' x
      ·exact EM
      ·exfalso
       have Ey:¬gn r rj:=by
        rw[Nk];simp only[gn]
        cases s8:rj.k with
        |p=>rw[s8]at G0;cases G0
        |r y=>rw[s8]at G0;cases G0
        |e=>exact EM
        |a=>exact EM
       have Bp:¬gn rj r:=by
        rw[Nk];simp only[gn]
        cases s8:rj.k with
        |p=>rw[s8]at G0;cases G0
        |r y=>rw[s8]at G0;cases G0
        |e=>exact EM
        |a=>exact EM
       have:=hee j rj hj Qx Ey Bp oA
       rcases lO with ⟨h1,h2⟩|⟨h1,h2⟩
       ·have hl:=this.2 h1
        cases s8:rj.k with
        |p=>rw[s8]at G0;cases G0
        |r y=>rw[s8]at G0;cases G0
        |e=>rw[iF.e j rj Qx s8 h2]at hl;cases hl
        |a =>
         obtain ⟨p,hp⟩:=wM.1 (iF.a j rj Qx s8 h2 hl)
         rcases rI Bv h1 Qx h7 with h|h
         ·exact hnp j p hp h
         ·exact Bp h
       ·have:=this.1 (iF.done j rj Qx G0 h2)
        omega
     rcases Nat.le_total i m with hle|hle
     ·have:=Bw x (m-i) i (by have:=iF.XW;omega) (fun j rj g1 g2 g3 g4=>hx j rj (by have:=iF.XW;omega) g3 g4 (.inr ⟨g1,by omega⟩))
      rw[show i+(m-i)=m by omega]at this
      exact this.symm
     ·have:=Bw x (i-m) m (by omega) (fun j rj g1 g2 g3 g4=>hx j rj (by omega) g3 g4 (.inl ⟨by omega,g1⟩))
      rw[show m+(i-m)=i by omega]at this
      exact this
    |e =>
     have Yb:r.k=.e:=by rw[Nk]
     have hle:=hmi (by rw[Yb];rfl)
     have Wi:m=i:=by
      rcases zj m i with h|h
      ·exfalso
       rcases EA with h1|⟨rm,k1,k2,k3⟩
       ·omega
       ·have hc:¬gn rm r:=by
         cases s8:rm.k with
         |p=>rw[s8]at k2;cases k2
         |r y=>rw[s8]at k2;cases k2
         |e=>simp only[gn,s8,Yb];exact not_false
         |a=>simp only[gn,s8,Yb];exact not_false
        rcases rI Bv h k1 h7 with h9|h9
        ·rw[hpi m h9]at k3;cases k3
        ·exact hc h9
      ·omega
     have e1:(S (i+1)).hp=hp:=by rw[vB];exact (No _ _ _ _).1
     have e2:(S (i+1)).nx=nx:=by rw[vB];exact (No _ _ _ _).2
     have X9:=m3 rfl (by rw[Wi]) (by rw[Wi])
     refine uT hR h4 hsr h6 X9 ?_
     rintro v hp' nx' k' rJ u ⟨rfl,rfl,rfl,rfl⟩ _ he hh Nj l8
     have yq:=hsr.put h6 he hh Nj l8
     refine ih _ rJ _ (i+1) pd RY Iz R6 (next rJ _ (i+1) u he (by rw[e2];exact Nj) (by rw[e1];exact hh) ?_ yq.sz yq.df (by omega) (.inr ⟨Yb,Wi,rfl⟩))
     rw[<-RI pd hp' nx' ⟨jw (fun i=>ay.getD i false) dst (eL pd out) s.tm ops.size,(S m).hp,(S m).nx⟩ (fun _ _=>rfl) rfl,GY]
     exact yq.tm
    |a =>
     have GW:r.k=.a:=by rw[Nk]
     have hle:=hmi (by rw[GW];rfl)
     obtain ⟨G3,mm,v9,g1,g2,g3,g4⟩:=m4 rfl
     have e1:(S (i+1)).hp=hp:=by rw[vB];exact (No _ _ _ _).1
     have e2:(S (i+1)).nx=nx:=by rw[vB];exact (No _ _ _ _).2
     have g4':eX (jw (fun i=>ay.getD i false) dst (eL pd out) s.tm ops.size) c'.hp (S m).nx Lx=some (vA mm (S m).nx,ab c'.hp (S m).nx (some v9),(S m).nx+1):=by rw[iF.hp];exact g4
     obtain ⟨ob,p,KY,bR,aeS⟩:=Hk h4 G3 g4' iF.tm
     have EG:Grow c'.w { c'.w with heap:=c'.w.heap.push ob }:=Grow.push _ _
     let N:=c'.w.heap.size
     have hFi:∀B,(c'.F B\/B=N)↔c'.F B\/(c'.w.heap.size<=B/\B<({ c'.w with heap:=c'.w.heap.push ob }:World).heap.size):=by
      intro B
      have:({ c'.w with heap:=c'.w.heap.push ob }:World).heap.size=c'.w.heap.size+1:=by simp
      rw[this]
      constructor
      ·rintro (h|h)
       ·exact .inl h
       ·exact .inr (by show _;omega)
      ·rintro (h|h)
       ·exact .inl h
       ·exact .inr (by show B=c'.w.heap.size;omega)
     obtain ⟨aaG,mv⟩:=iF.rel.more EG (F':=fun B=>c'.F B\/B=N) hFi
     let ve:Nat->Option Place:=fun j=>if j=i then some p else pd j
     have Ax:∀j,j≠i->ve j=pd j:=fun j hj=>by simp only[ve,if_neg hj]
     have GX:ve i=some p:=by simp only[ve,if_true]
     have value:∀{u:Value} {w':World} {K':Act->World->Prop},iN P o a' c'.w u w'->K' (a'.put o.dst u) w'->o.wp P a' c'.w K' Q':=by
      intro u w' K' hr hk
      unfold Oper.wp
      rcases hr with hr|⟨hr,rfl⟩
      ·rw[hr];exact hk
      ·rw[hr];exact hk
     refine value bR ?_
     have ae9:c.w.heap.size<=N:=iF.ext.size
     refine ih _ ⟨⟨fun B=>c'.F B\/B=N,c'.F.G⟩,c'.ι,c'.hp,{ c'.w with heap:=c'.w.heap.push ob }⟩ _ m ve RY Iz R6 ?_
     have aaS:fD ⟨⟨fun B=>c'.F B\/B=N,c'.F.G⟩,c'.ι,c'.hp,{ c'.w with heap:=c'.w.heap.push ob }⟩ (jw (fun j=>(ay.setIfInBounds i true).getD j false) dst (eL ve out) s.tm ops.size) (a'.put o.dst (uP p)):=by
      have Bl:fD ⟨⟨fun B=>c'.F B\/B=N,c'.F.G⟩,c'.ι,c'.hp,{ c'.w with heap:=c'.w.heap.push ob }⟩ (jw (fun i=>ay.getD i false) dst (eL pd out) s.tm ops.size) a':=fun t=>mv _ _ (iF.tm t)
      have:=Bl.put (v:=eL ve out i) (u:=uP p) (by simp only[eL,GX];exact .v _) (d:=o.dst) (by rw[iF.sz];exact h6) ⟨jw (fun i=>ay.getD i false) dst (eL pd out) s.tm ops.size,(S m).hp,(S m).nx⟩ rfl (S m).hp (S m).nx
      rw[RI ve (S m).hp (S m).nx ⟨jw (fun i=>ay.getD i false) dst (eL pd out) s.tm ops.size,(S m).hp,(S m).nx⟩ Ax rfl]at this
      exact this
     refine ⟨iF.XW,fun j rj k1 k2 k3 => ?_,fun j rj k1 k2 k3 => ?_,fun j rj k1 k2 k3 k4 => ?_,fun j q k1 => ?_,fun j j' q q' k1 k2 k3 => ?_,fun B => ?_,iF.hp,aaG,aaS,by rw[D4];exact iF.sz,by rw[put_defers];exact iF.df,?_⟩
     ·rw[Hg]
      split
      ·rfl
      ·exact iF.done j rj k1 k2 k3
     ·rw[Hg,if_neg]
      ·exact iF.e j rj k1 k2 k3
      ·rintro rfl
       rw[h7,zOi]at k1;subst k1
       rw[GW]at k2;cases k2
     ·by_cases oA:j=i
      ·subst oA;rw[GX];rfl
      ·rw[Hg,if_neg oA]at k4
       rw[Ax j oA]
       exact iF.a j rj k1 k2 k3 k4
     ·by_cases oA:j=i
      ·subst oA
       rw[GX,zOi]at k1;subst k1
       refine ⟨hle,⟨r,h7,GW⟩,by rw[Hg,if_pos rfl],⟨⟨mm,v9,g1,by rw[e1,g2],by rw[e2,g3],ob,by rw[KY];simp,aeS.move mv⟩,by rw[KY];exact ae9⟩,.inr KY⟩
      ·rw[Ax j oA]at k1
       obtain ⟨q1,q2,q3,q4,q5⟩:=iF.Ci j q k1
       refine ⟨q1,q2,by rw[Hg,if_neg oA];exact q3,q4.to ?_ mv,.inl q5⟩
       exact EG.ah _ (iF.rel.F _ q5)
     ·have hB:∀j q,j≠i->ve j=some q->q.B≠N:=by
       intro j q hj hq
       rw[Ax j hj]at hq
       have:=iF.rel.F _ (iF.Ci j q hq).2.2.2.2
       show q.B≠c'.w.heap.size
       omega
      by_cases e3:j=i
      ·by_cases e4:j'=i
       ·rw[e3,e4]
       ·exfalso
        rw[e3,GX,zOi]at k1;subst k1
        exact hB j' q' e4 k2 (k3.symm.trans KY)
      ·by_cases e4:j'=i
       ·exfalso
        rw[e4,GX,zOi]at k2;subst k2
        exact hB j q e3 k1 (k3.trans KY)
       ·rw[Ax j e3]at k1;rw[Ax j' e4]at k2
        exact iF.inj j j' q q' k1 k2 k3
     ·show (c'.F B\/B=N)↔_
      rw[iF.F B]
      constructor
      ·rintro ((h|⟨j,q,h,hh⟩)|h)
       ·exact .inl h
       ·have oA:j≠i:=by rintro rfl;rw[aaJ]at h;cases h
        exact .inr ⟨j,q,by rw[Ax j oA];exact h,hh⟩
       ·exact .inr ⟨i,p,GX,KY.trans h.symm⟩
      ·rintro (h|⟨j,q,h,hh⟩)
       ·exact .inl (.inl h)
       ·by_cases oA:j=i
        ·subst oA
         rw[GX,zOi]at h;subst h
         exact .inr (hh.symm.trans KY)
        ·rw[Ax j oA]at h
         exact .inl (.inr ⟨j,q,h,hh⟩)
     ·refine ⟨iF.ext.ι,wH iF.ext.size EG.size,fun B hB sJ => ?_,iF.ext.os,iF.ext.tape,iF.ext.output,iF.ext.G⟩
      obtain ⟨q1,q2⟩:=iF.ext.ah B hB sJ
      exact ⟨q1,(EG.ah B (zU hB iF.ext.size)).trans q2⟩
   ·
    rw[h3]at hw
    simp only at hw
    have mj:=hw
    rw[rX (tm':=jw (fun i=>ay.getD i false) dst (eL pd out) s.tm ops.size) TT]at mj
    have X7:=kT h5 mj iF.tm
    rw[if_neg (by rw[X7];simp)]
    have yq:=hsr.put h6 (Ext.refl c') iF.hp iF.rel (v:=out i) (u:=undef) (by rw[hv];exact .v undef)
    refine ih _ c' _ m pd RY Iz R6 (next c' _ m undef (Ext.refl c') iF.rel iF.hp ?_ yq.sz yq.df iF.XW (.inl ⟨by rw[Nk];rfl,rfl⟩))
    rw[<-RI pd (S m).hp (S m).nx ⟨jw (fun i=>ay.getD i false) dst (eL pd out) s.tm ops.size,(S m).hp,(S m).nx⟩ (fun _ _=>rfl) rfl,GY]
    exact yq.tm
 refine wp_region_any hm ?_
 have EG:Grow c.w { c.w with drawn:=c.w.drawn+1 }:=⟨zD _,fun _ _=>rfl,rfl,rfl,rfl⟩
 have he:=Ext.tt (c:=c) (nx:=s.nx) EG
 have hD0:∀j,(Array.replicate ops.size false).getD j false=false:=by intro j;simp[Array.getD]
 refine main ops.size (Array.replicate ops.size false) { c with w:={ c.w with drawn:=c.w.drawn+1 } } a 0 (fun _=>none) (by simp) ?_ ?_ ⟨by omega,fun j r _ _ h=>by omega,fun j r _ _ _=>hD0 j,fun j r _ _ _ h=>(by rw[hD0]at h;cases h),fun j p h=>(by cases h),fun j j' p p' h=>(by cases h),fun B => ?_,by rw[hS0];exact hs.hp,by rw[hS0];exact hs.rel.grow EG,?_,hs.sz,hs.df,⟨he.ι,he.size,he.ah,he.os,he.tape,he.output,congrArg QX.G he.F⟩⟩
 ·have:∀k,xc (fun i=>(Array.replicate ops.size false).getD i false) k<=k:=by
   intro k
   induction k with
   |zero=>exact zD _
   |succ k ih=>simp only[xc];split<;>omega
  exact this _
 ·intro j o ho h;rw[hD0]at h;cases h
 ·constructor
  ·exact .inl
  ·rintro (h|⟨_,_,h,_⟩)
   ·exact h
   ·cases h
 ·have:jw (fun i=>(Array.replicate ops.size false).getD i false) dst (eL (fun _=>none) out) s.tm ops.size=s.tm:=by
   have:∀k,jw (fun i=>(Array.replicate ops.size false).getD i false) dst (eL (fun _=>none) out) s.tm k=s.tm:=by
    intro k
    induction k with
    |zero=>rfl
    |succ k ih=>simp only[jw];rw[if_neg (by rw[hD0];simp)];exact ih
   exact this _
  rw[this]
  exact hs.tm.mono he
def Plain (sz:Nat) (spare:bN):Prop:=∀l∈spare,l.length=sz/\∀x∈l,∃u,x=AV.v u
def LiftRel (E0:Env) (ok:Nat->Bool):aQ:=fun f args hp nx v hp' nx' k =>
 ok f=true/\k=.e/\nx'=nx+1/\∃(r sz:Nat) (es es':bN) (rest:List AV),args=.sl r sz 0 es.length none::rest/\hp r=some es/\v=.sl nx sz 0 es'.length none/\hp'=ab (ab hp r none) nx (some es') /\
  ∀spare:bN,Plain sz spare->∃aT ar k2 q c2,aZ E0 f (.sl r sz 0 es.length (some (es.length+spare.length))::rest) (ab hp r (some (es++spare))) nx (.sl q sz 0 es'.length c2) aT ar k2 /\
   (∃sp,aT q=some (es'++sp))/\((q=r/\ar=nx/\c2=some (es.length+spare.length))\/(q=nx/\ar=nx+1/\c2=none))/\∀x,x<nx->x≠r->aT x=hp x
theorem GJ {P:Program} {E0:Env} (hE:Ae P E0) (hm:P.follows .mixedOrders=true) (ok:Nat->Bool):cY P (LiftRel E0 ok):=by
 refine ⟨fun f args hp nx v hp' nx' k h=>.inr h.2.1,(fun f args hp nx v hp' nx' h=>nomatch h.2.1),?_⟩
 rintro f args hp nx v hp' nx' k ⟨_,rfl,rfl,r,sz,es,es',rest,rfl,hr,rfl,rfl,key⟩ c cargs hc bP bz
 subst hc
 obtain ⟨u0,BH,rfl⟩:∃u0 BH,cargs=⟨u0::BH⟩:=by
  obtain ⟨q⟩:=cargs
  match q,bz.1 with
  |u0::BH,_=>exact ⟨u0,BH,rfl⟩
 have h0:=bz.2 0 _ u0 rfl rfl
 have Is:r<nx:=bP.uK r (by simp[hr])
 cases h0 with
 | @sl _ _ _ _ n _ p a hι hs ha hl dm hN hE0 FL =>
  obtain ⟨hF,cs,e,fz,hb,eo,CI,aX⟩:=bP.cells hr hι FL
  have hEn:=hE0 rfl
  rw[Nat.zero_add]at hEn
  let spare:bN:=(List.range (n-es.length)).map fun k=>(List.range sz).map fun j=>AV.v ((cs[p.O+(es.length+k)*sz+j]?).getD undef)
  have Bm:spare.length=n-es.length:=by simp[spare]
  have KX:Plain sz spare:=by
   intro l hl
   obtain ⟨k,_,rfl⟩:=wk.1 hl
   refine ⟨by simp,fun x hx => ?_⟩
   obtain ⟨j,_,rfl⟩:=wk.1 hx
   exact ⟨_,rfl⟩
  obtain ⟨aT,ar,k2,q,c2,ae7,⟨sp,hq⟩,lO,Ah⟩:=key spare KX
  have V1:∀(i:Nat) (l:List AV),(es++spare)[i]?=some l->l.length=p.sz/\∀(j:Nat) (av:AV),l[j]?=some av->∃u,cs[p.O+i*p.sz+j]?=some u/\aC c av u:=by
   intro i l hi
   by_cases iR:i<es.length
   ·rw[zR iR]at hi
    exact aX i l hi
   ·rw[za (by omega)]at hi
    have hk:i-es.length<n-es.length:=by
     have:=(zB.1 hi).1
     omega
    have CH:l=(List.range sz).map fun j=>AV.v ((cs[p.O+i*sz+j]?).getD undef):=by
     simp only[spare,zO,List.getElem?_range hk,qP,zOi]at hi
     rw[<-hi,show es.length+(i-es.length)=i by omega]
    subst CH
    refine ⟨by simp[hs],fun j av hj => ?_⟩
    have LR:j<sz:=by have:=(zB.1 hj).1;simpa using this
    simp only[zO,List.getElem?_range LR,qP,zOi]at hj
    subst hj
    have az:p.O+i*sz+j<cs.size:=by
     have h1:(i+1)*sz<=n*sz:=zX _ (by omega)
     rw[ze]at h1
     omega
    rw[hs]
    exact ⟨cs[p.O+i*sz+j],by simp[az],by simp[az];exact .v _⟩
  have RC:c.w.heap=c.w.heap.setIfInBounds p.B (.cells cs e fz):=by
   apply qk
   intro i
   rw[qO]
   by_cases hi:p.B=i
   ·subst hi
    have:=(zE.1 hb).1
    rw[if_pos rfl,if_pos this];exact hb
   ·rw[if_neg hi]
  obtain ⟨yw,vu⟩:=kM bP (es':=es++spare) hr hι hb (w':=c.w) (cs':=cs) RC rfl rfl rfl rfl V1
  have gd:es.length+spare.length=n:=by omega
  have WJ:cu ⟨c.F,c.ι,ab c.hp r (some (es++spare)),c.w⟩ (.sl r sz 0 es.length (some (es.length+spare.length))::rest) (Value.slice (some a) es.length n::BH):=by
   refine ⟨bz.1,fun k av u g1 g2 => ?_⟩
   cases k with
   |zero =>
    simp at g1 g2
    subst g1;subst g2
    exact .sl hι hs ha hl (fun m hm=>by simp only[zOi]at hm;omega) hN (fun h=>by cases h) FL
   |succ k=>exact (bz.2 (k+1) av u g1 g2).mono vu
  have hX:=BQ hE (fun R hR=>BF hm hR) ae7 ⟨c.F,c.ι,ab c.hp r (some (es++spare)),c.w⟩ ⟨Value.slice (some a) es.length n::BH⟩ rfl yw WJ
  refine hX.mono ?_
  rintro e2 w' ⟨u,ι',rfl,_,hx,yy,hv⟩
  have Qz:q<ar:=yy.uK q (by show aT q≠none;rw[hq];simp)
  cases hv with
  | @sl _ _ _ _ n2 _ pq a2 gι gs ga gl afc gN gE gm =>
   have gι:ι' q=some pq:=gι
   have aed:∀p',ι' nx=some p'->p'=pq:=by
    intro p' h
    rcases lO with ⟨_,h2,_⟩|⟨h2,_,_⟩
    ·have:=yy.lt nx p' h;omega
    ·rw[<-h2,gι]at h;cases h;rfl
   let ι3:Nat->Option Place:=cj ι' nx pq
   let kF:Heap:=ab (ab c.hp r none) nx (some es')
   let c3:Cx:=⟨c.F,ι3,kF,w'⟩
   let cB:Cx:=⟨c.F,ι',aT,w'⟩
   have X4:ι3 nx=some pq:=by show cj _ _ _ nx=_;simp[cj]
   have VF:∀x,x≠nx->ι3 x=ι' x:=fun x h=>by show cj _ _ _ x=_;simp[cj,h]
   have h3n:kF nx=some es':=by show ab _ _ _ nx=_;simp[ab]
   have h3r:kF r=none:=by show ab _ _ _ r=_;simp[ab,show ¬r=nx by omega]
   have Yp:∀x,x≠nx->x≠r->kF x=c.hp x:=fun x h1 h2=>by show ab _ _ _ x=_;simp[ab,h1,h2]
   have T5:∀x,x≠nx->kF x≠none->x≠r/\x<nx/\kF x=c.hp x/\aT x=c.hp x:=by
    intro x h1 h2
    have Tq:x≠r:=by rintro rfl;exact h2 h3r
    rw[Yp x h1 Tq]at h2
    have yl:=bP.uK x h2
    exact ⟨Tq,yl,Yp x h1 Tq,Ah x yl Tq⟩
   have mι:∀x p',ι' x=some p'->ι3 x=some p':=by
    intro x p' h
    by_cases yl:x=nx
    ·subst yl;rw[X4,aed p' h]
    ·rw[VF x yl];exact h
   have hq0:cB.hp q≠none:=by show aT q≠none;rw[hq];simp
   have o8:∀B,c3.own B->cB.own B:=by
    rintro B ⟨x,px,g1,g2,g3⟩
    by_cases yl:x=nx
    ·subst yl
     have g2:ι3 x=some px:=g2
     rw[X4]at g2;cases g2
     exact ⟨q,pq,hq0,gι,g3⟩
    ·obtain ⟨m1,m2,m3,m4⟩:=T5 x yl g1
     exact ⟨x,px,by show aT x≠none;rw[m4,<-m3];exact g1,by show ι' x=_;rw[<-VF x yl];exact g2,g3⟩
   have ck:∀B,cB.ro B->c3.ro B:=fun B hB=>⟨hB.1,fun h=>hB.2.1 (o8 B h),hB.2.2⟩
   have mv:∀x u,aC cB x u->aC c3 x u:=fun x u h=>h.move (c':=c3) mι fun B hB=>⟨ck B hB,rfl⟩
   have bm:Ext c c3:=by
    have Tr:=vu.trans hx
    refine ⟨rfl,fun x px h=>mι x px (Tr.ι x px h),Tr.size,fun B hB ho => ?_,Tr.os,Tr.tape,Tr.output⟩
    obtain ⟨g1,g2⟩:=Tr.ah B hB ho
    exact ⟨fun h=>g1 (o8 B h),g2⟩
   obtain ⟨bF,sj,e3,fz3,b1,b2,b3,b4⟩:=yy.cells hq gι gm
   refine ⟨.slice (some a2) es'.length n2,ι3,rfl,(fun h=>nomatch h),bm,⟨?_,?_,?_,?_,yy.F,?_,?_⟩,?_⟩
   ·intro x kE
    have kE:kF x≠none:=kE
    by_cases yl:x=nx
    ·omega
    ·have:=(T5 x yl kE).2.1;omega
   ·intro x px h
    have h:ι3 x=some px:=h
    by_cases yl:x=nx
    ·omega
    ·rw[VF x yl]at h
     have:=yy.lt x px h
     rcases lO with ⟨_,h2,_⟩|⟨_,h2,_⟩<;>omega
   ·intro x ex px g1 g2
    have g1:kF x=some ex:=g1
    have g2:ι3 x=some px:=g2
    by_cases yl:x=nx
    ·subst yl
     rw[h3n]at g1;cases g1
     rw[X4]at g2;cases g2
     refine ⟨bF,_,b1,.inl ⟨gm,sj,e3,fz3,rfl,b2,b3,fun i l hi => ?_⟩⟩
     have CH:(es'++sp)[i]?=some l:=by rw[zR (zB.1 hi).1];exact hi
     obtain ⟨m1,m2⟩:=b4 i l CH
     exact ⟨m1,fun j av hj=>let ⟨u,m3,m4⟩:=m2 j av hj;⟨u,m3,mv _ _ m4⟩⟩
    ·obtain ⟨m1,m2,m3,m4⟩:=T5 x yl (by rw[g1];simp)
     obtain ⟨n1,o,n3,n4⟩:=yy.rU x ex px (by show aT x=_;rw[m4,<-m3];exact g1) (by show ι' x=_;rw[<-VF x yl];exact g2)
     exact ⟨n1,o,n3,n4.move mv⟩
   ·intro x y px py g1 g2 g3 g4 g5
    have g1:kF x≠none:=g1
    have g2:kF y≠none:=g2
    have g3:ι3 x=some px:=g3
    have g4:ι3 y=some py:=g4
    have other:∀z pz,z≠nx->kF z≠none->ι3 z=some pz->pz.B≠pq.B:=by
     intro z pz hz k1 k2 k3
     obtain ⟨m1,m2,m3,m4⟩:=T5 z hz k1
     have:=yy.inj z q pz pq (by show aT z≠none;rw[m4,<-m3];exact k1) hq0 (by show ι' z=_;rw[<-VF z hz];exact k2) gι k3
     rcases lO with ⟨h2,_,_⟩|⟨h2,_,_⟩
     ·exact m1 (this.trans h2)
     ·exact hz (this.trans h2)
    by_cases e1:x=nx
    ·by_cases e2:y=nx
     ·rw[e1,e2]
     ·exfalso
      subst e1
      rw[X4]at g3;cases g3
      exact other y py e2 g2 g4 g5.symm
    ·by_cases e2:y=nx
     ·exfalso
      subst e2
      rw[X4]at g4;cases g4
      exact other x px e1 g1 g3 g5
     ·obtain ⟨m1,m2,m3,m4⟩:=T5 x e1 g1
      obtain ⟨m1',m2',m3',m4'⟩:=T5 y e2 g2
      exact yy.inj x y px py (by show aT x≠none;rw[m4,<-m3];exact g1) (by show aT y≠none;rw[m4',<-m3'];exact g2) (by show ι' x=_;rw[<-VF x e1];exact g3) (by show ι' y=_;rw[<-VF y e2];exact g4) g5
   ·refine AN.to (c:=cB) yy.ty (fun x t k ZF g => ?_) mι (fun B cs t fz hB=>⟨cs,hB,rfl⟩) fun x g1 g2 g3 => ?_
    ·have g:kF x=some ([.ty t k]::ZF):=g
     by_cases yl:x=nx
     ·subst yl
      rw[h3n]at g;cases g
      obtain ⟨_,m2⟩:=b4 0 [.ty t k] (by simp)
      obtain ⟨u,_,m3⟩:=m2 0 (.ty t k) rfl
      exact m3.xZ.elim
     ·obtain ⟨m1,m2,m3,m4⟩:=T5 x yl (by rw[g];simp)
      show aT x=_
      rw[m4,<-m3];exact g
    ·have g2:ι' x≠none:=g2
     have g3:kF x≠none:=g3
     show aT x≠none
     by_cases yl:x=nx
     ·subst yl
      rcases lO with ⟨_,h2,_⟩|⟨h2,_,_⟩
      ·cases hh:ι' x with
       |none=>exact absurd hh g2
       |some p'=>have:=yy.lt x p' hh;omega
      ·rw[<-h2];exact hq0
     ·obtain ⟨m1,m2,m3,m4⟩:=T5 x yl g3
      rw[m4,<-m3];exact g3
   ·exact uW.to (c:=cB) yy.gl rfl ck fun B hB=>rfl
   ·refine .sl (c:=c3) (p:=pq) X4 gs ga gl (fun m hm=>by cases hm) gN (fun _ => ?_) gm
    rcases lO with ⟨h2,_,h4⟩|⟨_,_,h4⟩
    ·have g8:=afc _ h4
     have:ι' r=some p:=(vu.trans hx).ι r p hι
     rw[<-h2,gι]at this
     cases this
     rw[Nat.zero_add,<-g8,gd];exact hEn
    ·exact gE h4
inductive SS where
 |same
 |Rz
 |mkb (t:TypeId)
def pK (k:Nat->Option SS):aQ:=fun f args hp nx v hp' nx' kd =>
 match k f with
  |some .same=>kd=.p/\hp'=hp/\nx'=nx/\args=[v]
  |some .Rz=>kd=.p/\hp'=hp/\nx'=nx/\∃l n,args=[.str l,.v (.int .u8 n)]/\v=.v (.int .i64 (Lib.indexByte l n.toNat.toUInt8))
  |some (.mkb t)=>kd=.e/\nx'=nx+2/\hp'=ab (ab hp nx (some [])) (nx+1) (some [[.ty t 0]])/\∃n:Nat,n<=140737488355328/\args=[.v (.int .i64 n)]/\v=.sl nx 1 0 n none
  |none=>False
structure UB (P:Program) (k:Nat->Option SS):Prop where
 same:∀f,k f=some .same->∃fn,P.funcs[f]?=some fn/\(fn.name == "runtime.NumGoroutine")=false/\fn.body.isNone=true/\Extern.findNext fn=none/\Extern.find fn=some Extern.AbiNoEscape.same
 mkb:∀f t,k f=some (.mkb t)->∃fn ps s,P.funcs[f]?=some fn/\(fn.name == "runtime.NumGoroutine")=false/\fn.body.isNone=true/\Extern.findNext fn=none/\P.underlying s=some (.slice t)/\Extern.find fn=some (Extern.BytealgMakeNoZero.makeNoZero ps #[s])
 Rz:∀f,k f=some .Rz->∃fn,P.funcs[f]?=some fn/\(fn.name == "runtime.NumGoroutine")=false/\fn.body.isNone=true/\Extern.findNext fn=none/\Extern.find fn=some Extern.BytealgIndexByte.indexByte
theorem Li {P:Program} {k:Nat->Option SS} (hk:UB P k):cY P (pK k):=by
 refine ⟨fun f args hp nx v hp' nx' kd h => ?_,fun f args hp nx v hp' nx' h => ?_,?_⟩
 ·unfold pK at h
  split at h
  ·exact .inl h.1
  ·exact .inl h.1
  ·exact .inr h.1
  ·exact h.elim
 ·unfold pK at h
  split at h
  ·rename_i jf;exact ⟨h.2.1,h.2.2.1,fun aT ar=>by unfold pK;rw[jf];exact ⟨rfl,rfl,rfl,h.2.2.2⟩⟩
  ·rename_i jf;exact ⟨h.2.1,h.2.2.1,fun aT ar=>by unfold pK;rw[jf];exact ⟨rfl,rfl,rfl,h.2.2.2⟩⟩
  ·cases h.1
  ·exact h.elim
 intro f args hp nx v hp' nx' kd h c cargs hc bP bz
 unfold pK at h
 split at h
 ·rename_i hkf
  obtain ⟨rfl,rfl,rfl,h⟩:=h
  subst h
  obtain ⟨fn,h1,h2,h3,h4,h5⟩:=hk.same f hkf
  obtain ⟨u,rfl⟩:∃u,cargs = #[u]:=by
   obtain ⟨l⟩:=cargs
   match l,bz.1 with
   |[u],_=>exact ⟨u,rfl⟩
  refine .inr ⟨u,c.w,?_,u,c.ι,rfl,fun _=>⟨rfl,hc.symm,rfl⟩,by rw[<-hc];exact Ext.refl c,by rw[<-hc];exact bP,by rw[<-hc];exact bz.2 0 _ _ rfl rfl⟩
  rw[run_callFunc_extern h1 h2 h3 h4 h5,Lib.run_noEscape];rfl
 ·rename_i hkf
  obtain ⟨rfl,rfl,rfl,l,n,rfl,rfl⟩:=h
  obtain ⟨fn,h1,h2,h3,h4,h5⟩:=hk.Rz f hkf
  obtain ⟨u,u2,rfl⟩:∃u u2,cargs = #[u,u2]:=by
   obtain ⟨q⟩:=cargs
   match q,bz.1 with
   |[u,u2],_=>exact ⟨u,u2,rfl⟩
  have e1:=(bz.2 0 _ u rfl rfl).fL
  have e2:=(bz.2 1 _ u2 rfl rfl).bZ
  subst e1;subst e2
  refine .inr ⟨.int .i64 (Lib.indexByte l n.toNat.toUInt8),c.w,?_,_,c.ι,rfl,fun _=>⟨rfl,hc.symm,rfl⟩,by rw[<-hc];exact Ext.refl c,by rw[<-hc];exact bP,.v _⟩
  rw[run_callFunc_extern h1 h2 h3 h4 h5,Lib.run_indexByteString];rfl
 ·rename_i t hkf
  obtain ⟨rfl,rfl,rfl,n,hn,rfl,rfl⟩:=h
  obtain ⟨fn,ps,st,h1,h2,h3,h4,bU,h5⟩:=hk.mkb f t hkf
  obtain ⟨u,rfl⟩:∃u,cargs = #[u]:=by
   obtain ⟨q⟩:=cargs
   match q,bz.1 with
   |[u],_=>exact ⟨u,rfl⟩
  have e1:=(bz.2 0 _ u rfl rfl).bZ
  subst e1
  obtain ⟨cs,bR,hle,_⟩:=Lib.run_makeNoZero (P:=P) c.w ps st t bU n (by omega)
  obtain ⟨k1,k2⟩:=tl (nx:=nx) bP (w':=c.w.drew.drew.alloc (.cells cs t)) (cs:=cs) (e:=t) (fz:=(0,0)) (es:=[]) (sz:=1) rfl rfl rfl rfl (by intro o h;simp) (by intro i l h;simp at h)
  obtain ⟨k3,k4⟩:=JO (q:=nx) (t:=t) (k:=0) (p:=⟨c.w.heap.size,0,1,cs.size,[]⟩) (cs:=cs) (fz:=(0,0)) k1.up (by omega) k1.fresh (by show cj _ _ _ nx=_;simp[cj]) rfl (by show (c.w.heap.push _)[c.w.heap.size]?=_;simp) (wT _)
  refine .inr ⟨.slice (some ⟨c.w.heap.size,0,none⟩) n cs.size,c.w.drew.drew.alloc (.cells cs t),?_,_,cj c.ι nx ⟨c.w.heap.size,0,1,cs.size,[]⟩,rfl,(fun h=>by cases h),?_,?_,?_⟩
  ·rw[run_callFunc_extern h1 h2 h3 h4 h5,bR];rfl
  ·rw[<-hc];exact k2.trans k4
  ·rw[<-hc];exact k3
  ·exact .sl (p:=⟨c.w.heap.size,0,1,cs.size,[]⟩) (by show cj _ _ _ nx=_;simp[cj]) rfl (by simp) hle (by simp) (by simp) (by simp) (wT _)
 ·exact h.elim
end Go.Ai
