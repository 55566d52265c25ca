/- Plain laws, joined by gen/joinH.py. -/
import Derived.Test.YtfdnjgoegamonaaGreatDoorJB
set_option linter.all false
namespace Go.Proofs.YtfdnjgoegamonaaGreatDoor
open Go Go.Am Go.Sort
set_option maxRecDepth 100000
def sU(x:cj)(n:bE):Bool:=decide (n.cw=x.cw)
theorem f106_eq(l:List bE)(x:cj)(hl:l.length<=4096):f106 l x=some (iF (sU x) l):=by
 unfold f106;rw[fZ l (sU x) (λi _=>(i:Int)) (by simp only[cH];omega)]
 ·simp only[dm,gJ,iF];cases l.findIdx? _<;>simp
 ·intro i y hy;have hi:=(fT.1 hy).1;have n1:((i:Int)).toNat<cU:=by unfold cU;omega
  simp only[dr hy,dt,cJ hy,dm,cX n1,f107,sU];cases decide (y.cw=x.cw)<;>rfl
 ·simp
def tA(i k:Int)(x:cj)(n:bE):bE:=⟨n.cg++[⟨i,k⟩],n.cw,n.cy,kX n.dK x.dK,n.cp,n.cP⟩
def FP(t i k:Int)(l:List bE)(x:cj):List bE:=
 if x.cy=t then(match l.findIdx? (sU x)with
  |some j=>(match l[j]? with
   |some n=>l.set j (tA i k x n)
   |none=>l)
  |none=>l++[tA i k x ⟨[],x.cw,t,0,⟨0,0⟩,0⟩])else l
def oz(t i:Int):Nat->List cj->List bE->List bE
 |_,[],l=>l
 |k,x::r,l=>oz t i (k+1) r (FP t i (k:Int) l x)
def ri(t:Int):Nat->List (List cj)->List bE->List bE
 |_,[],l=>l
 |i,p::r,l=>ri t (i+1) r (oz t (i:Int) 0 p l)
theorem w6(t i:Int): ∀(r:List cj)(k:Nat)(l:List bE),kG (λk l x=>(.inl (FP t i (k:Int) l x):List bE⊕List bE)) (λl=>l) k r l=oz t i k r l
 | [],k,l=>rfl
 |x::r,k,l=>by simp only[kG,oz,w6 t i r]
theorem uY(t:Int): ∀(r:List (List cj))(k:Nat)(l:List bE),kG (λi l p=>(.inl (oz t (i:Int) 0 p l):List bE⊕List bE)) (λl=>l) k r l=ri t k r l
 | [],k,l=>rfl
 |x::r,k,l=>by simp only[kG,ri,uY t r]
def Uz(b:Nat)(l:List bE):Prop:=l.length<=b/\ ∀n∈l,n.cg.length<=b
theorem FQ{t i k:Int}{b:Nat}{l:List bE}{x:cj}(h:Uz b l):Uz (b+1) (FP t i k l x):=by
 obtain⟨h1,h2⟩:=h;unfold FP;split
 ·split
  ·split
   ·rename_i j _ n hn;refine⟨by simp;omega,λm hm=>?_⟩;rcases Ym hm with hm|rfl
    ·have:=h2 m hm;omega
    ·have:=h2 n (gT hn);simp[tA];omega
   ·exact⟨by omega,λm hm=>by have:=h2 m hm;omega⟩
  ·refine⟨by simp;omega,λm hm=>?_⟩;rcases lT.1 hm with hm|hm
   ·have:=h2 m hm;omega
   ·simp at hm;subst hm;simp[tA]
 ·exact⟨by omega,λm hm=>by have:=h2 m hm;omega⟩
theorem Ad{t i:Int}: ∀{p:List cj}{k b:Nat}{l:List bE},Uz b l->Uz (b+p.length) (oz t i k p l)
 | [],k,b,l,h=>h
 |x::r,k,b,l,h=>by
  have:=Ad (t:=t) (i:=i) (p:=r) (k:=k+1) (FQ (t:=t) (i:=i) (k:=(k:Int)) (x:=x) h);simp only[oz,oC];rw[show b+(r.length+1)=b+1+r.length by omega];exact this
theorem f76_eq(cR:List (List cj))(t:Int)(h6:cR.length<=6)(h4: ∀p∈cR,p.length<=400):f76 cR t=some (ri t 0 cR []):=by
 unfold f76;have h:=kH (body:=λ((B7,Js):(List bE×Int))=>bif (decide (Js<(cR.length:Int)))then((ix cR Js).bind λy2=>(cA (σ:=(List bE×Int)) (τ:=(List bE)) (λ((gp,uZ):(List bE×Int))=>bif (decide (uZ<(y2.length:Int)))then((((ix y2 uZ).bind λy4=>bif (decide (y4.cy≠t))then(some gp)else((f106 gp y4).bind λr6=>((bif (decide (r6<0))then(cB (gp.length<cU)<|some ((gp++[(⟨([]:List cK),y4.cw,t,0,(⟨0,0⟩:be),0⟩:bE)]),(gp.length:Int)))else(some (gp,r6))):Option (List bE×Int)).bind λ((nB,Ab):(List bE×Int))=>(ix nB Ab).bind λy9=>cB (Ab.toNat<cU)<|cB (y9.cg.length+1<=bQ)<|some (nB.set Ab.toNat (⟨(y9.cg++([(⟨Js,uZ⟩:cK)]:List cK)),y9.cw,y9.cy,(kX y9.dK y4.dK),y9.cp,y9.cP⟩:bE)))):Option (List bE)).bind λ(tC:(List bE))=>some (.inl (tC,(wr (uZ+1)))))else(some (.inr gp))) cQ (B7,0)).bind λ(HU:(List bE))=>some (.inl (HU,(wr (Js+1)))))else(some (.inr B7)))
  (λa i=>(a,i)) (λi l p=>(.inl (oz t (i:Int) 0 p l):List bE⊕List bE)) (λl=>l) cR (λi l=>Uz (400*i) l) [] (jO (by simp only[cH];omega)) ⟨by simp,by simp⟩ ?_ ?_
 ·rw[h,uY];rfl
 ·intro i l p hp hi;have hp4:=h4 p (gT hp);have hi6:=(fT.1 hp).1;have PE:cH cR:=by simp only[cH];omega
  have oH:cH p:=by simp only[cH];omega
  refine⟨?_,λa' LI=>?_⟩
  ·simp only[dr hp,dt,cJ hp,dm,eT PE hp];have h2:=kH (body:=λ((gp,uZ):(List bE×Int))=>bif (decide (uZ<(p.length:Int)))then((((ix p uZ).bind λy4=>bif (decide (y4.cy≠t))then(some gp)else((f106 gp y4).bind λr6=>((bif (decide (r6<0))then(cB (gp.length<cU)<|some ((gp++[(⟨([]:List cK),y4.cw,t,0,(⟨0,0⟩:be),0⟩:bE)]),(gp.length:Int)))else(some (gp,r6))):Option (List bE×Int)).bind λ((nB,Ab):(List bE×Int))=>(ix nB Ab).bind λy9=>cB (Ab.toNat<cU)<|cB (y9.cg.length+1<=bQ)<|some (nB.set Ab.toNat (⟨(y9.cg++([(⟨(i:Int),uZ⟩:cK)]:List cK)),y9.cw,y9.cy,(kX y9.dK y4.dK),y9.cp,y9.cP⟩:bE)))):Option (List bE)).bind λ(tC:(List bE))=>some (.inl (tC,(wr (uZ+1)))))else(some (.inr gp)))
    (λa i=>(a,i)) (λk l x=>(.inl (FP t (i:Int) (k:Int) l x):List bE⊕List bE)) (λl=>l) p (λk l=>Uz (400*i+k) l) l (jO oH) hi ?_ ?_
   ·rw[w6]at h2;simp only[h2,dm];rfl
   ·intro k l x hx hF;have hk:=(fT.1 hx).1;obtain⟨f1,f2⟩:=hF;refine⟨?_,λa' LI=>?_⟩
    ·simp only[dr hx,dt,cJ hx,dm,eT oH hx,f106_eq l x (by omega)];unfold FP;by_cases c1:x.cy=t
     ·simp only[c1,rz,xb,fq,dD,wz];cases hf:l.findIdx? (sU x)with
      |none=>
       have hid:iF (sU x) l= -1:=by unfold iF;rw[hf]
       have m1:l.length<cU:=by unfold cU;omega
       have g1:(l++[(⟨[],x.cw,t,0,⟨0,0⟩,0⟩:bE)])[l.length]? =some ⟨[],x.cw,t,0,⟨0,0⟩,0⟩:=by simp
       have m2:([]:List cK).length+1<=bQ:=by simp;unfold bQ;omega
       have c2:((-1:Int)<0):=by omega
       simp only[hid,c2,ij,dt,cX m1,dm,cJ g1,oD,cX m2];simp only[BV,List.set_append_right l.length _ (eD _),Pt,List.set_cons_zero];rfl
      |some j=>
       obtain⟨hj,_⟩:=V2.1 hf;have hid:iF (sU x) l=(j:Int):=by unfold iF;rw[hf]
       have g1:l[j]? =some (l[j]'hj):=dR _;have kM:=f2 _ (JN hj);have m1:j<cU:=by unfold cU;omega
       have m2:(l[j]'hj).cg.length+1<=bQ:=by unfold bQ;omega
       have c2: ¬((j:Int)<0):=by omega
       simp only[hid,c2,fq,dD,dm,cJ g1,g1,oD,cX m1,cX m2,BV];rfl
     ·simp only[c1,rz,O4,ij,dt,if_false,dm,BV]
    ·cases LI;have:=FQ (t:=t) (i:=(i:Int)) (k:=(k:Int)) (x:=x) (b:=400*i+k) (l:=l) ⟨f1,f2⟩;exact this
   ·intro a _;simp
  ·cases LI;have hF:Uz (400*i) l:=hi;have:=Ad (t:=t) (i:=(i:Int)) (p:=p) (k:=0) hF;obtain⟨g1,g2⟩:=this;exact⟨by omega,λn hn=>by have:=g2 n hn;omega⟩
 ·intro a _;simp
theorem Ae:gP ⟨[],[],[]⟩:=⟨λi p q h=>by simp at h,by simp,λi a b h=>by simp at h,λi a b h=>by simp at h,by simp,by simp⟩
theorem Lc{c:cq}(h:gP c):c.dz.length<=14:=by
 have key: ∀(i:Nat)x,c.dz[i]? =some x->(i:Int)+1<=x:=by
  intro i
  induction i with
  |zero=>intro p hp;have:=h.oo p (gT hp);omega
  |succ i ih=>
   intro p hp;have hi:=(fT.1 hp).1;have e1:c.dz[i]? =some (c.dz[i]'(by omega)):=dR _;have:=ih _ e1;have:=h.oa i _ p e1 hp;omega
 rcases Ch 14 c.dz.length with hl|hl
 ·have e1:c.dz[14]? =some (c.dz[14]'hl):=dR _;have h1:=key 14 _ e1;have h2:=h.oo _ (gT e1);omega
 ·exact hl
theorem Af: ∀(l:List Int)(e:Int),mC e l=true->(∀(i:Nat)x,l[i]? =some x->e<x/\x<=127)/\ ∀(i j:Nat)x y,i<j->l[i]? =some x->l[j]? =some y->x<y
 | [],e,_=>⟨λi x h=>by simp at h,λi j x y _ h=>by simp at h⟩
 |a::r,e,h=>by
  simp only[mC,fE,qn,JQ,O6]at h;obtain⟨⟨h1,h2⟩,h3⟩:=h;obtain⟨k1,k2⟩:=Af r a h3;refine⟨λi x hx=>?_,λi j x y oI hx hy=>?_⟩
  ·cases i with
   |zero=>simp at hx;subst hx;omega
   |succ i=>have:=k1 i x (by simpa using hx);omega
  ·cases j with
   |zero=>omega
   |succ j=>
    cases i with
    |zero=>simp at hx;subst hx;exact(k1 j y (by simpa using hy)).1
    |succ i=>exact k2 i j x y (by omega) (by simpa using hx) (by simpa using hy)
theorem Ld{s:List Int}(hs:mC 0 s=true){c:cT}(hp:0<=c.cw/\c.cw<=127){i j:Nat}(oI:i<j)(hj:j<=s.length):ku s c i<ku s c j:=by
 obtain⟨k1,k2⟩:=Af s 0 hs;have ej:s[j-1]? =some (s[j-1]'(by omega)):=dR _;have hj1:=k1 _ _ ej;have vj:ku s c j=c.cw+s[j-1]'(by omega):=by
  unfold ku;rw[dY (by omega),ej,Ce,iZ (by omega) (by omega)]
 rw[vj];by_cases hi:i=0
 ·subst hi;unfold ku;rw[dP rfl];omega
 ·have ei:s[i-1]? =some (s[i-1]'(by omega)):=dR _;have hi1:=k1 _ _ ei;have vi:ku s c i=c.cw+s[i-1]'(by omega):=by
   unfold ku;rw[dY hi,ei,Ce,iZ (by omega) (by omega)]
  have:=k2 (i-1) (j-1) _ _ (by omega) ei ej;rw[vi];omega
theorem filter_one{α:Type}{p:α->Bool}: ∀{l:List α},l.Pairwise (λa b=> ¬(p a=true/\p b=true))->(l.filter p).length<=1
 | [],_=>by simp
 |a::r,h=>by
  rw[Gc]at h;cases hp:p a with
  |false=>simp only[Vb,hp];exact filter_one h.2
  |true=>
   have:r.filter p=[]:=by
    rw[ZW];intro b hb hpb;exact h.1 b hb ⟨hp,hpb⟩
   simp[Vb,hp,this]
theorem Oi{s:List Int}(hs:mC 0 s=true){p:Int}{i:Nat}{c:cT}(hp:0<=c.cw/\c.cw<=127){n:Nat}(hn:n<=s.length+1):(mP s p i c n).length<=1:=by
 unfold mP;rw[nE];refine filter_one ?_;have hr:(List.range n).Pairwise (· < ·):=List.pairwise_lt_range;have SO:(List.range n).Pairwise λa b=>a<b/\a<n/\b<n:=by
  rw[D6]at hr |-
  intro a b ha hb KJ;have:=hr a b ha hb KJ;simp at ha hb;simp at this |-
  omega
 refine SO.imp λ{a b}h1 h2=>?_;obtain⟨e1,e2⟩:=h2;simp at e1 e2;have:=Ld hs hp h1.1 (by omega);omega
theorem w7{s:List Int}(hs:mC 0 s=true)(p:Int): ∀(l:List cT)(i:Nat),(∀c∈l,jY s c=0)->(jC s p i l).length<=l.length
 | [],i,_=>by simp[jC]
 |c::r,i,h=>by
  obtain⟨q1,q2,q3,q4,_⟩:=nA (h c (by simp));have h1:=Oi hs (p:=p) (i:=i) ⟨q3,q4⟩ (n:=c.eZ.toNat+1) (by omega);have h2:=w7 hs p r (i+1) λc hc=>h c (by simp[hc]);simp only[jC,lu,oC];omega
theorem w8{s:List Int}{p:Int}: ∀{l:List cT}{i:Nat}{x:be},x∈jC s p i l-> ∃(k:Nat)(c:cT),l[k]? =some c/\x.aY=((i+k+1:Nat):Int)/\0<=x.cO/\x.cO<=(c.eZ.toNat:Int)/\ku s c x.cO.toNat=p
 | [],i,x,h=>by simp[jC]at h
 |c::r,i,x,h=>by
  simp only[jC,lT]at h;rcases h with h|h
  ·unfold mP at h;obtain⟨k,h1,rfl⟩:=kl.1 h;simp at h1;exact⟨0,c,rfl,by simp,by simp,by simp;omega,by simpa using h1.2⟩
  ·obtain⟨k,c',h1,h2,h3⟩:=w8 h;exact⟨k+1,c',by simpa using h1,by rw[h2];congr 1;omega,h3⟩
theorem js{a:bY}{q:Int}{p:be}(h:p∈(fx a q).1):instS a=0/\1<=p.aY/\p.aY<=14/\0<=p.cO/\p.cO<=18/\ ∃c,a.cS[(p.aY-1).toNat]? =some c/\p.cO<=c.eZ/\ku a.cu c p.cO.toNat=q:=by
 unfold fx at h;by_cases hi:instS a=0
 ·obtain⟨h1,h2,_,_,h5⟩:=instS_ok hi;simp only[hi,wz]at h;cases hb:(decide (q<0)||decide (127<q))
  ·rw[hb]at h;simp only[dD]at h;obtain⟨k,c,k1,k2,k3,k4,k5⟩:=w8 h;have hk:=(fT.1 k1).1;have hc:=nA (h5 c (gT k1));refine⟨hi,by omega,by omega,k3,by omega,c,?_,by omega,k5⟩;have:(p.aY-1).toNat=k:=by omega
   rw[this];exact k1
  ·rw[hb]at h;simp at h
 ·simp[hi]at h
theorem HV(a:bY)(q:Int):(fx a q).1.length<=14:=by
 unfold fx;by_cases hi:instS a=0
 ·obtain⟨h1,h2,_,h4,h5⟩:=instS_ok hi;have:=w7 h4 q a.cS 0 h5;simp only[hi,wz];generalize(decide (q<0)||decide (127<q))=b;cases b<;>simp <;>omega
 ·simp[hi]
theorem p9{α:Type}{l:List (List α)}{k:Nat}{p:List α}(h:l[k]? =some p):(l.take (k+1)).flatten=(l.take k).flatten++p:=by rw[dj h];simp
theorem qa{α:Type}(l:List (List α))(k:Nat):(l.take k).flatten.length<=l.flatten.length:=by
 have h:l.flatten=(l.take k).flatten++(l.drop k).flatten:=by rw[<-V4,Lk]
 rw[h,lu];omega
theorem f37_eq(l:List (List df))(hs:cH l)(pI:l.flatten.length<=4000000):f37 l=some l.flatten:=by
 unfold f37;rw[mh (λk=>(((l.take k).flatten.length:Int),(k:Int))) l.length hs (by simp) (r:=(l.flatten.length:Int))]
 ·have DT:f75 (l.flatten.length:Int)=some []:=by unfold f75;rw[dP (by omega)]
  rw[dm,DT,dm];rw[mh (λk=>((l.take k).flatten,(k:Int))) l.length hs (by simp) (r:=l.flatten)]
  ·rfl
  ·intro k hk;have hg:l[k]? =some (l[k]'hk):=dR hk;generalize l[k]'hk=p at hg;have hf:=p9 hg;have ht:=qa l (k+1);rw[hf,lu]at ht;simp only[dr hg,dt,cJ hg,dm,eT hs hg,hf];by_cases he:p=[]
   ·subst he;simp
   ·have hm:(l.take k).flatten.length+p.length<=bQ:=by unfold bQ;omega
    rw[show p.isEmpty=false from by simpa using he];simp only[dD,cB,dP hm,dm]
  ·simp
 ·intro k hk;have hg:l[k]? =some (l[k]'hk):=dR hk;generalize l[k]'hk=p at hg;have hf:=p9 hg;have ht:=qa l (k+1);rw[hf,lu]at ht;have hw:wr (((l.take k).flatten.length:Int)+(p.length:Int))=(((l.take k).flatten.length+p.length:Nat):Int):=by rw[Fk (by omega) (by omega)];omega
  have Ut:decide ((((l.take k).flatten.length+p.length:Nat):Int)<0)=false:=jb (by omega);simp only[dr hg,dt,cJ hg,dm,hw,Ut,dD,eT hs hg,hf,lu]
 ·simp
theorem f38_eq(l:List cT)(h:cH l):f38 l=some l:=by
 unfold f38;by_cases c:l=[]
 ·subst c;simp
 ·have:l.length<=bQ:=by simp only[cH]at h;unfold bQ;omega
  rw[show l.isEmpty=false from by simpa using c];simp[cX this]
theorem f22_eq(l:List Int)(h:cH l):f22 l=some l:=by
 unfold f22;by_cases c:l=[]
 ·subst c;simp
 ·have:l.length<=bQ:=by simp only[cH]at h;unfold bQ;omega
  rw[show l.isEmpty=false from by simpa using c];simp[cX this]
theorem f39_eq(l:List (List cj))(h6:l.length<=6)(h4: ∀p∈l,p.length<=400):f39 l=some (l.map λp=>List.replicate p.length ⟨0,0⟩):=by
 unfold f39;have n1:(0:Int)<=(l.length:Int):=by omega
 have n2:(l.length:Int)<=(bQ:Int):=by unfold bQ;omega
 simp only[cX n1,cX n2];rw[mh (λk=>((l.take k).map λp=>List.replicate p.length (⟨0,0⟩:be),(k:Int))) l.length (by omega) (by simp) (r:=l.map λp=>List.replicate p.length ⟨0,0⟩)]
 ·rfl
 ·intro k hk;have hg:l[k]? =some (l[k]'hk):=dR hk;generalize l[k]'hk=p at hg;have hp:=h4 p (gT hg);have m1:(0:Int)<=(p.length:Int):=by omega
  have m2:(p.length:Int)<=(bQ:Int):=by unfold bQ;omega
  have m3:((l.take k).map λp=>List.replicate p.length (⟨0,0⟩:be)).length<cU:=by simp[cU];omega
  simp only[dr hg,dt,cJ hg,dm,eT (l:=l) (by simp only[cH];omega) hg,f40,cX m1,cX m2,cX m3,oD,dj hg,Cf];rfl
 ·simp
theorem xZ: ∀(p:List cj)(e:Int),KV e p=true->(∀(i:Nat)x,p[i]? =some x->e<=x.cy/\x.cy<x.dK/\x.dK<=262144/\0<=x.cw/\x.cw<=127)/\ ∀(i j:Nat)x y,i<j->p[i]? =some x->p[j]? =some y->x.dK<=y.cy
 | [],e,_=>⟨λi x h=>by simp at h,λi j x y _ h=>by simp at h⟩
 |t::r,e,h=>by
  simp only[KV,fE,qn,N1,om,JQ,O6,ZN,AE]at h;obtain⟨⟨⟨h1,h1'⟩,h2,h3,h4⟩,h5⟩:=h;obtain⟨k1,k2⟩:=xZ r t.dK h5;refine⟨λi x hx=>?_,λi j x y oI hx hy=>?_⟩
  ·cases i with
   |zero=>simp at hx;subst hx;omega
   |succ i=>have:=k1 i x (by simpa using hx);omega
  ·cases j with
   |zero=>omega
   |succ j=>
    cases i with
    |zero=>simp at hx;subst hx;exact(k1 j y (by simpa using hy)).1
    |succ i=>exact k2 i j x y (by omega) (by simpa using hx) (by simpa using hy)
def lg(p:List cj):List Int:=(p.flatMap (fX p)).foldl vZ [0]
theorem Jt(p:List cj):tW (lg p):=(rZ _ [0] (by simp[tW])).1
theorem u0(p:List cj)(y:Int):y∈lg p↔(∃x∈p,y∈fX p x)\/y=0:=by
 unfold lg;rw[(rZ _ [0] (by simp[tW])).2 y];simp
theorem Oj{p:List cj}{x:cj}(hx:x∈p):x.cy∈lg p:=by
 rw[u0];left;refine⟨x,hx,?_⟩;unfold fX;cases ml p x.dK<;>simp
theorem B8{p:List cj}{y:Int}(h:y∈lg p):y=0\/ ∃x∈p,y=x.cy\/y=x.dK:=by
 rw[u0]at h;rcases h with⟨x,hx,h⟩|h
 ·right;refine⟨x,hx,?_⟩;unfold fX at h;cases hq:ml p x.dK<;>rw[hq]at h<;>simp at h
  ·exact h
  ·exact .inl h
 ·exact .inl h
theorem va{l:List Int}(h:tW l){i j:Nat}{a b:Int}(oI:i<j)(ha:l[i]? =some a)(hb:l[j]? =some b):a<b:=by
 unfold tW at h;rw[D6]at h;obtain⟨hi,rfl⟩:=fT.1 ha;obtain⟨hj,rfl⟩:=fT.1 hb;exact h i j hi hj oI
theorem Ol{l:List Int}(h:tW l){i:Nat}{a b y:Int}(ha:l[i]? =some a)(hb:l[i+1]? =some b)(hy:y∈l)(gl:a<y):b<=y:=by
 obtain⟨m,hm,rfl⟩:=ry hy;have em:l[m]? =some l[m]:=dR hm;rcases Gt m (i+1)with h1|h1|h1
 ·rcases Ch m i with h2|h2
  ·have:=va h h2 em ha;omega
  ·have:m=i:=by omega
   subst this;rw[ha]at em;have:=Option.some.inj em;omega
 ·subst h1;rw[hb]at em;have:=Option.some.inj em;omega
 ·have:=va h h1 hb em;omega
theorem QU{p:List cj}:(lg p).length<=2*p.length+1:=by
 have h1:=B3 (p.flatMap (fX p)) [0];have h2:=sq p p;have h1:(lg p).length<=_:=h1;simp only[oC,Ih]at h1;omega
theorem ya: ∀{l:List df},(∀s∈l,s∈ig)->l.length<=lr l
 | [],_=>by simp
 |s::l,h=>by
  have h1:=(jZ s (h s (by simp))).2.1;have h2:=ya (l:=l) λx hx=>h x (by simp[hx]);show l.length+1<=tk s+lr l;omega
abbrev StI:=List be×List Int×List Int×List cz×List bE×List cG×List cT×List Int×List cz×List (List be)×List dG×Int
end Go.Proofs.YtfdnjgoegamonaaGreatDoor
