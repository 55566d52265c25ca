/- Plain laws, joined by gen/joinH.py. -/
import Derived.Test.YtpbahncblggodaaGreatJB
set_option linter.all false
namespace Go.Proofs.YtpbahncblggodaaGreat
open Go Go.Am Go.Sort
set_option maxRecDepth 100000
def sB(x:bP)(n:bx):Bool:=decide (n.bY=x.bY)
theorem f155_eq(l:List bx)(x:bP)(hl:l.length<=4096):f155 l x=some (gG (sB x) l):=by
 unfold f155
 rw[ey l (sB x) (λi _=>(i:Int)) (by simp only[bU];omega)]
 ·simp only[cK,fC,gG]
  cases l.findIdx? _<;>simp
 ·intro i y hy
  have hi:=(fP.1 hy).1
  have n1:((i:Int)).toNat<cT:=by unfold cT;omega
  simp only[cJ hy,cS,cj hy,cK,dg n1,f156,sB]
  cases decide (y.bY=x.bY)<;>rfl
 ·simp
def ta(i k:Int)(x:bP)(n:bx):bx:=⟨n.bO++[⟨i,k⟩],n.bY,n.bW,kM n.dx x.dx,n.bQ,n.de⟩
def EP(t i k:Int)(l:List bx)(x:bP):List bx:=
 if x.bW=t then(match l.findIdx? (sB x)with
  |some j=>(match l[j]? with
   |some n=>l.set j (ta i k x n)
   |none=>l)
  |none=>l++[ta i k x ⟨[],x.bY,t,0,⟨0,0⟩,0⟩])else l
def nI(t i:Int):Nat->List bP->List bx->List bx
 |_,[],l=>l
 |k,x::r,l=>nI t i (k+1) r (EP t i (k:Int) l x)
def qI(t:Int):Nat->List (List bP)->List bx->List bx
 |_,[],l=>l
 |i,p::r,l=>qI t (i+1) r (nI t (i:Int) 0 p l)
theorem wC(t i:Int): ∀(r:List bP)(k:Nat)(l:List bx),jG (λk l x=>(.inl (EP t i (k:Int) l x):List bx⊕List bx)) (λl=>l) k r l=nI t i k r l
 | [],k,l=>rfl
 |x::r,k,l=>by simp only[jG,nI,wC t i r]
theorem uG(t:Int): ∀(r:List (List bP))(k:Nat)(l:List bx),jG (λi l p=>(.inl (nI t (i:Int) 0 p l):List bx⊕List bx)) (λl=>l) k r l=qI t k r l
 | [],k,l=>rfl
 |x::r,k,l=>by simp only[jG,qI,uG t r]
def Ts(b:Nat)(l:List bx):Prop:=l.length<=b/\ ∀n∈l,n.bO.length<=b
theorem EQ{t i k:Int}{b:Nat}{l:List bx}{x:bP}(h:Ts b l):Ts (b+1) (EP t i k l x):=by
 obtain⟨h1,h2⟩:=h
 unfold EP
 split
 ·split
  ·split
   ·rename_i j _ n hn
    refine⟨by simp;omega,λm hm=>?_⟩
    rcases Xv hm with hm|rfl
    ·have:=h2 m hm;omega
    ·have:=h2 n (gz hn)
     simp[ta];omega
   ·exact⟨by omega,λm hm=>by have:=h2 m hm;omega⟩
  ·refine⟨by simp;omega,λm hm=>?_⟩
   rcases lr.1 hm with hm|hm
   ·have:=h2 m hm;omega
   ·simp at hm;subst hm;simp[ta]
 ·exact⟨by omega,λm hm=>by have:=h2 m hm;omega⟩
theorem zg{t i:Int}: ∀{p:List bP}{k b:Nat}{l:List bx},Ts b l->Ts (b+p.length) (nI t i k p l)
 | [],k,b,l,h=>h
 |x::r,k,b,l,h=>by
  have:=zg (t:=t) (i:=i) (p:=r) (k:=k+1) (EQ (t:=t) (i:=i) (k:=(k:Int)) (x:=x) h)
  simp only[nI,oG]
  rw[show b+(r.length+1)=b+1+r.length by omega]
  exact this
theorem f96_eq(cA:List (List bP))(t:Int)(h6:cA.length<=6)(h4: ∀p∈cA,p.length<=400):f96 cA t=some (qI t 0 cA []):=by
 unfold f96
 have h:=jj (body:=λ((BJ,II):(List bx×Int))=>bif (decide (II<(cA.length:Int)))then((ix cA II).bind λy2=>(bZ (σ:=(List bx×Int)) (τ:=(List bx)) (λ((fS,uH):(List bx×Int))=>bif (decide (uH<(y2.length:Int)))then((((ix y2 uH).bind λy4=>bif (decide (y4.bW≠t))then(some fS)else((f155 fS y4).bind λr6=>((bif (decide (r6<0))then(cu (fS.length<cT)<|some ((fS++[(⟨([]:List bX),y4.bY,t,0,(⟨0,0⟩:aW),0⟩:bx)]),(fS.length:Int)))else(some (fS,r6))):Option (List bx×Int)).bind λ((mP,ze):(List bx×Int))=>(ix mP ze).bind λy9=>cu (ze.toNat<cT)<|cu (y9.bO.length+1<=bJ)<|some (mP.set ze.toNat (⟨(y9.bO++([(⟨II,uH⟩:bX)]:List bX)),y9.bY,y9.bW,(kM y9.dx y4.dx),y9.bQ,y9.de⟩:bx)))):Option (List bx)).bind λ(tc:(List bx))=>some (.inl (tc,(wr (uH+1)))))else(some (.inr fS))) cz (BJ,0)).bind λ(GU:(List bx))=>some (.inl (GU,(wr (II+1)))))else(some (.inr BJ)))
  (λa i=>(a,i)) (λi l p=>(.inl (nI t (i:Int) 0 p l):List bx⊕List bx)) (λl=>l) cA (λi l=>Ts (400*i) l) [] (il (by simp only[bU];omega)) ⟨by simp,by simp⟩ ?_ ?_
 ·rw[h,uG]
  rfl
 ·intro i l p hp hi
  have Rn:=h4 p (gz hp)
  have hi6:=(fP.1 hp).1
  have z8:bU cA:=by simp only[bU];omega
  have jN:bU p:=by simp only[bU];omega
  refine⟨?_,λa' K9=>?_⟩
  ·simp only[cJ hp,cS,cj hp,cK,dI z8 hp]
   have h2:=jj (body:=λ((fS,uH):(List bx×Int))=>bif (decide (uH<(p.length:Int)))then((((ix p uH).bind λy4=>bif (decide (y4.bW≠t))then(some fS)else((f155 fS y4).bind λr6=>((bif (decide (r6<0))then(cu (fS.length<cT)<|some ((fS++[(⟨([]:List bX),y4.bY,t,0,(⟨0,0⟩:aW),0⟩:bx)]),(fS.length:Int)))else(some (fS,r6))):Option (List bx×Int)).bind λ((mP,ze):(List bx×Int))=>(ix mP ze).bind λy9=>cu (ze.toNat<cT)<|cu (y9.bO.length+1<=bJ)<|some (mP.set ze.toNat (⟨(y9.bO++([(⟨(i:Int),uH⟩:bX)]:List bX)),y9.bY,y9.bW,(kM y9.dx y4.dx),y9.bQ,y9.de⟩:bx)))):Option (List bx)).bind λ(tc:(List bx))=>some (.inl (tc,(wr (uH+1)))))else(some (.inr fS)))
    (λa i=>(a,i)) (λk l x=>(.inl (EP t (i:Int) (k:Int) l x):List bx⊕List bx)) (λl=>l) p (λk l=>Ts (400*i+k) l) l (il jN) hi ?_ ?_
   ·rw[wC]at h2
    simp only[h2,cK]
    rfl
   ·intro k l x hx hF
    have hk:=(fP.1 hx).1
    obtain⟨f1,f2⟩:=hF
    refine⟨?_,λa' K9=>?_⟩
    ·simp only[cJ hx,cS,cj hx,cK,dI jN hx,f155_eq l x (by omega)]
     unfold EP
     by_cases c1:x.bW=t
     ·simp only[c1,pU,tt,dX,dj,u0]
      cases hf:l.findIdx? (sB x)with
      |none=>
       have jT:gG (sB x) l= -1:=by unfold gG;rw[hf]
       have m1:l.length<cT:=by unfold cT;omega
       have g1:(l++[(⟨[],x.bY,t,0,⟨0,0⟩,0⟩:bx)])[l.length]? =some ⟨[],x.bY,t,0,⟨0,0⟩,0⟩:=by simp
       have m2:([]:List bX).length+1<=bJ:=by simp;unfold bJ;omega
       have c2:((-1:Int)<0):=by omega
       simp only[jT,c2,gp,cS,dg m1,cK,cj g1,oH,dg m2]
       simp only[BK,List.set_append_right l.length _ (eF _),Qs,List.set_cons_zero]
       rfl
      |some j=>
       obtain⟨hj,_⟩:=U9.1 hf
       have jT:gG (sB x) l=(j:Int):=by unfold gG;rw[hf]
       have g1:l[j]? =some (l[j]'hj):=dH _
       have ku:=f2 _ (va hj)
       have m1:j<cT:=by unfold cT;omega
       have m2:(l[j]'hj).bO.length+1<=bJ:=by unfold bJ;omega
       have c2: ¬((j:Int)<0):=by omega
       simp only[jT,c2,dX,dj,cK,cj g1,g1,oH,dg m1,dg m2,BK]
       rfl
     ·simp only[c1,pU,Hw,gp,cS,if_false,cK,BK]
    ·cases K9
     have:=EQ (t:=t) (i:=(i:Int)) (k:=(k:Int)) (x:=x) (b:=400*i+k) (l:=l) ⟨f1,f2⟩
     exact this
   ·intro a _
    simp
  ·cases K9
   have hF:Ts (400*i) l:=hi
   have:=zg (t:=t) (i:=(i:Int)) (p:=p) (k:=0) hF
   obtain⟨g1,g2⟩:=this
   exact⟨by omega,λn hn=>by have:=g2 n hn;omega⟩
 ·intro a _
  simp
theorem f157_nil:f157 []=some []:=by
 unfold f157 f217 f263
 have c1: ¬((20:Int)<=(([]:List bx).length:Int)):=by simp
 have c2: ¬((20:Int)<(([]:List bx).length:Int)):=by simp
 have c3: ¬(wr ((0:Int)+1)<(([]:List bx).length:Int)):=by rw[iL (by omega) (by omega)];simp
 rw[eP (r:=(([]:List bx),(0:Int))) (by simp only[c1,dX,dj]) _ (by unfold cz;omega)]
 simp only[cK]
 rw[eP (r:=([]:List bx)) (by simp only[c3,dX,dj]) _ (by unfold cz;omega)]
 simp only[cK,cu,u0]
 rw[eP (r:=([]:List bx)) (by simp only[c2,dX,dj]) _ (by unfold cz;omega)]
 rfl
theorem f97_nil(d:cP)(t:Int)(hl:bU d.db)(h: ∀n∈d.db,¬t<n.dx):f97 d t=some []:=by
 have key: ∃r,f97 d t=some r/\r=[]:=by
  unfold f97
  refine eK (λk(s:List bx×Int)=>s.2=(k:Int)/\s.1=[]) (λr=>r=[]) d.db.length hl ⟨rfl,rfl⟩ ?_ ?_ ?_
  ·rintro k ⟨s1,s2⟩ hk ⟨e0,e1⟩
   simp only at e0 e1
   subst e0;subst e1
   have x1:d.db[k]? =some (d.db[k]'hk):=dH _
   have c1:=h _ (va hk)
   simp only[cJ x1,cS,cj x1,cK,dI hl x1,c1,dX,dj]
   exact .inl ⟨_,rfl,rfl,rfl⟩
  ·rintro⟨s1,s2⟩ ⟨e0,e1⟩
   simp only at e0 e1
   subst e0;subst e1
   simp only[ky,dX,dj]
   exact⟨_,rfl,rfl⟩
  ·rintro r rfl
   simp only[f157_nil,cK,cu,u0]
   exact⟨_,rfl,rfl⟩
 obtain⟨r,h1,rfl⟩:=key
 exact h1
theorem zh:gn ⟨[],[],[]⟩:=⟨λi p q h=>by simp at h,by simp,λi a b h=>by simp at h,λi a b h=>by simp at h,by simp,by simp⟩
theorem Km{c:bS}(h:gn c):c.di.length<=14:=by
 have key: ∀(i:Nat)x,c.di[i]? =some x->(i:Int)+1<=x:=by
  intro i
  induction i with
  |zero=>intro p hp;have:=h.oo p (gz hp);omega
  |succ i ih=>
   intro p hp
   have hi:=(fP.1 hp).1
   have e1:c.di[i]? =some (c.di[i]'(by omega)):=dH _
   have:=ih _ e1
   have:=h.oa i _ p e1 hp
   omega
 rcases Dp 14 c.di.length with hl|hl
 ·have e1:c.di[14]? =some (c.di[14]'hl):=dH _
  have h1:=key 14 _ e1
  have h2:=h.oo _ (gz e1)
  omega
 ·exact hl
theorem zi: ∀(l:List Int)(e:Int),lh e l=true->(∀(i:Nat)x,l[i]? =some x->e<x/\x<=127)/\ ∀(i j:Nat)x y,i<j->l[i]? =some x->l[j]? =some y->x<y
 | [],e,_=>⟨λi x h=>by simp at h,λi j x y _ h=>by simp at h⟩
 |a::r,e,h=>by
  simp only[lh,fi,p9,Fx,Jj]at h
  obtain⟨⟨h1,h2⟩,h3⟩:=h
  obtain⟨k1,k2⟩:=zi r a h3
  refine⟨λi x hx=>?_,λi j x y oT hx hy=>?_⟩
  ·cases i with
   |zero=>simp at hx;subst hx;omega
   |succ i=>have:=k1 i x (by simpa using hx);omega
  ·cases j with
   |zero=>omega
   |succ j=>
    cases i with
    |zero=>simp at hx;subst hx;exact(k1 j y (by simpa using hy)).1
    |succ i=>exact k2 i j x y (by omega) (by simpa using hx) (by simpa using hy)
theorem Kn{s:List Int}(hs:lh 0 s=true){c:cO}(hp:0<=c.bY/\c.bY<=127){i j:Nat}(oT:i<j)(hj:j<=s.length):jt s c i<jt s c j:=by
 obtain⟨k1,k2⟩:=zi s 0 hs
 have ej:s[j-1]? =some (s[j-1]'(by omega)):=dH _
 have hj1:=k1 _ _ ej
 have vj:jt s c j=c.bY+s[j-1]'(by omega):=by
  unfold jt
  rw[dM (by omega),ej,Ab,iL (by omega) (by omega)]
 rw[vj]
 by_cases hi:i=0
 ·subst hi
  unfold jt
  rw[dD rfl]
  omega
 ·have ei:s[i-1]? =some (s[i-1]'(by omega)):=dH _
  have hi1:=k1 _ _ ei
  have vi:jt s c i=c.bY+s[i-1]'(by omega):=by
   unfold jt
   rw[dM hi,ei,Ab,iL (by omega) (by omega)]
  have:=k2 (i-1) (j-1) _ _ (by omega) ei ej
  rw[vi]
  omega
theorem filter_one{α:Type}{p:α->Bool}: ∀{l:List α},l.Pairwise (λa b=> ¬(p a=true/\p b=true))->(l.filter p).length<=1
 | [],_=>by simp
 |a::r,h=>by
  rw[Dr]at h
  cases hp:p a with
  |false=>simp only[Qv,hp];exact filter_one h.2
  |true=>
   have:r.filter p=[]:=by
    rw[XG]
    intro b hb hpb
    exact h.1 b hb ⟨hp,hpb⟩
   simp[Qv,hp,this]
theorem Ny{s:List Int}(hs:lh 0 s=true){p:Int}{i:Nat}{c:cO}(hp:0<=c.bY/\c.bY<=127){n:Nat}(hn:n<=s.length+1):(kQ s p i c n).length<=1:=by
 unfold kQ
 rw[mB]
 refine filter_one ?_
 have hr:(List.range n).Pairwise (· < ·):=List.pairwise_lt_range
 have R3:(List.range n).Pairwise λa b=>a<b/\a<n/\b<n:=by
  rw[DD]at hr |-
  intro a b ha hb JT
  have:=hr a b ha hb JT
  simp at ha hb
  simp at this |-
  omega
 refine R3.imp λ{a b}h1 h2=>?_
 obtain⟨e1,e2⟩:=h2
 simp at e1 e2
 have:=Kn hs hp h1.1 (by omega)
 omega
theorem wD{s:List Int}(hs:lh 0 s=true)(p:Int): ∀(l:List cO)(i:Nat),(∀c∈l,gO s c=0)->(fw s p i l).length<=l.length
 | [],i,_=>by simp[fw]
 |c::r,i,h=>by
  obtain⟨q1,q2,q3,q4,_⟩:=ka (h c (by simp))
  have h1:=Ny hs (p:=p) (i:=i) ⟨q3,q4⟩ (n:=c.dG.toNat+1) (by omega)
  have h2:=wD hs p r (i+1) λc hc=>h c (by simp[hc])
  simp only[fw,jW,oG]
  omega
theorem wE{s:List Int}{p:Int}: ∀{l:List cO}{i:Nat}{x:aW},x∈fw s p i l-> ∃(k:Nat)(c:cO),l[k]? =some c/\x.bt=((i+k+1:Nat):Int)/\0<=x.cy/\x.cy<=(c.dG.toNat:Int)/\jt s c x.cy.toNat=p
 | [],i,x,h=>by simp[fw]at h
 |c::r,i,x,h=>by
  simp only[fw,lr]at h
  rcases h with h|h
  ·unfold kQ at h
   obtain⟨k,h1,rfl⟩:=jJ.1 h
   simp at h1
   exact⟨0,c,rfl,by simp,by simp,by simp;omega,by simpa using h1.2⟩
  ·obtain⟨k,c',h1,h2,h3⟩:=wE h
   exact⟨k+1,c',by simpa using h1,by rw[h2];congr 1;omega,h3⟩
theorem ie{a:bK}{q:Int}{p:aW}(h:p∈(eD a q).1):instS a=0/\1<=p.bt/\p.bt<=14/\0<=p.cy/\p.cy<=18/\ ∃c,a.ck[(p.bt-1).toNat]? =some c/\p.cy<=c.dG/\jt a.bN c p.cy.toNat=q:=by
 unfold eD at h
 by_cases hi:instS a=0
 ·obtain⟨h1,h2,_,_,h5⟩:=instS_ok hi
  simp only[hi,u0]at h
  cases hb:(decide (q<0)||decide (127<q))
  ·rw[hb]at h
   simp only[dj]at h
   obtain⟨k,c,k1,k2,k3,k4,k5⟩:=wE h
   have hk:=(fP.1 k1).1
   have hc:=ka (h5 c (gz k1))
   refine⟨hi,by omega,by omega,k3,by omega,c,?_,by omega,k5⟩
   have:(p.bt-1).toNat=k:=by omega
   rw[this];exact k1
  ·rw[hb]at h
   simp at h
 ·simp[hi]at h
theorem GV(a:bK)(q:Int):(eD a q).1.length<=14:=by
 unfold eD
 by_cases hi:instS a=0
 ·obtain⟨h1,h2,_,h4,h5⟩:=instS_ok hi
  have:=wD h4 q a.ck 0 h5
  simp only[hi,u0]
  generalize(decide (q<0)||decide (127<q))=b
  cases b<;>simp <;>omega
 ·simp[hi]
theorem py{α:Type}{l:List (List α)}{k:Nat}{p:List α}(h:l[k]? =some p):(l.take (k+1)).flatten=(l.take k).flatten++p:=by rw[cQ h];simp
theorem pz{α:Type}(l:List (List α))(k:Nat):(l.take k).flatten.length<=l.flatten.length:=by
 have h:l.flatten=(l.take k).flatten++(l.drop k).flatten:=by rw[<-Y0,Qt]
 rw[h,jW]
 omega
theorem f43_eq(l:List (List cN))(hs:bU l)(pZ:l.flatten.length<=4000000):f43 l=some l.flatten:=by
 unfold f43
 rw[jf (λk=>(((l.take k).flatten.length:Int),(k:Int))) l.length hs (by simp) (r:=(l.flatten.length:Int))]
 ·have Dj:f95 (l.flatten.length:Int)=some []:=by unfold f95;rw[dD (by omega)]
  rw[cK,Dj,cK]
  rw[jf (λk=>((l.take k).flatten,(k:Int))) l.length hs (by simp) (r:=l.flatten)]
  ·rfl
  ·intro k hk
   have hg:l[k]? =some (l[k]'hk):=dH hk
   generalize l[k]'hk=p at hg
   have hf:=py hg
   have ht:=pz l (k+1)
   rw[hf,jW]at ht
   simp only[cJ hg,cS,cj hg,cK,dI hs hg,hf]
   by_cases he:p=[]
   ·subst he;simp
   ·have hm:(l.take k).flatten.length+p.length<=bJ:=by unfold bJ;omega
    rw[show p.isEmpty=false from by simpa using he]
    simp only[dj,cu,dD hm,cK]
  ·simp
 ·intro k hk
  have hg:l[k]? =some (l[k]'hk):=dH hk
  generalize l[k]'hk=p at hg
  have hf:=py hg
  have ht:=pz l (k+1)
  rw[hf,jW]at ht
  have hw:wr (((l.take k).flatten.length:Int)+(p.length:Int))=(((l.take k).flatten.length+p.length:Nat):Int):=by rw[sY (by omega) (by omega)];omega
  have Tn:decide ((((l.take k).flatten.length+p.length:Nat):Int)<0)=false:=mC (by omega)
  simp only[cJ hg,cS,cj hg,cK,hw,Tn,dj,dI hs hg,hf,jW]
 ·simp
theorem f44_eq(l:List cO)(h:bU l):f44 l=some l:=by
 unfold f44
 by_cases c:l=[]
 ·subst c;simp
 ·have:l.length<=bJ:=by simp only[bU]at h;unfold bJ;omega
  rw[show l.isEmpty=false from by simpa using c];simp[dg this]
theorem f45_eq(l:List Int)(h:bU l):f45 l=some l:=by
 unfold f45
 by_cases c:l=[]
 ·subst c;simp
 ·have:l.length<=bJ:=by simp only[bU]at h;unfold bJ;omega
  rw[show l.isEmpty=false from by simpa using c];simp[dg this]
theorem f46_eq(l:List (List bP))(h6:l.length<=6)(h4: ∀p∈l,p.length<=400):f46 l=some (l.map λp=>List.replicate p.length ⟨0,0⟩):=by
 unfold f46
 have n1:(0:Int)<=(l.length:Int):=by omega
 have n2:(l.length:Int)<=(bJ:Int):=by unfold bJ;omega
 simp only[dg n1,dg n2]
 rw[jf (λk=>((l.take k).map λp=>List.replicate p.length (⟨0,0⟩:aW),(k:Int))) l.length (by omega) (by simp) (r:=l.map λp=>List.replicate p.length ⟨0,0⟩)]
 ·rfl
 ·intro k hk
  have hg:l[k]? =some (l[k]'hk):=dH hk
  generalize l[k]'hk=p at hg
  have hp:=h4 p (gz hg)
  have m1:(0:Int)<=(p.length:Int):=by omega
  have m2:(p.length:Int)<=(bJ:Int):=by unfold bJ;omega
  have m3:((l.take k).map λp=>List.replicate p.length (⟨0,0⟩:aW)).length<cT:=by simp[cT];omega
  simp only[cJ hg,cS,cj hg,cK,dI (l:=l) (by simp only[bU];omega) hg,f47,dg m1,dg m2,dg m3,oH,cQ hg,Dm]
  rfl
 ·simp
theorem xA: ∀(p:List bP)(e:Int),Ax e p=true->(∀(i:Nat)x,p[i]? =some x->e<=x.bW/\x.bW<x.dx/\x.dx<=262144/\0<=x.bY/\x.bY<=127)/\ ∀(i j:Nat)x y,i<j->p[i]? =some x->p[j]? =some y->x.dx<=y.bW
 | [],e,_=>⟨λi x h=>by simp at h,λi j x y _ h=>by simp at h⟩
 |t::r,e,h=>by
  simp only[Ax,fi,p9,wX,om,Fx,Jj,YZ,xL]at h
  obtain⟨⟨⟨h1,h1'⟩,h2,h3,h4⟩,h5⟩:=h
  obtain⟨k1,k2⟩:=xA r t.dx h5
  refine⟨λi x hx=>?_,λi j x y oT hx hy=>?_⟩
  ·cases i with
   |zero=>simp at hx;subst hx;omega
   |succ i=>have:=k1 i x (by simpa using hx);omega
  ·cases j with
   |zero=>omega
   |succ j=>
    cases i with
    |zero=>simp at hx;subst hx;exact(k1 j y (by simpa using hy)).1
    |succ i=>exact k2 i j x y (by omega) (by simpa using hx) (by simpa using hy)
def iU(p:List bP):List Int:=(p.flatMap (eW p)).foldl pn [0]
theorem CS(p:List bP):qF (iU p):=(ow _ [0] (by simp[qF])).1
theorem uI(p:List bP)(y:Int):y∈iU p↔(∃x∈p,y∈eW p x)\/y=0:=by
 unfold iU
 rw[(ow _ [0] (by simp[qF])).2 y]
 simp
theorem Nz{p:List bP}{x:bP}(hx:x∈p):x.bW∈iU p:=by
 rw[uI]
 left
 refine⟨x,hx,?_⟩
 unfold eW
 cases gg p x.dx<;>simp
theorem Ko{p:List bP}{y:Int}(h:y∈iU p):y=0\/ ∃x∈p,y=x.bW\/y=x.dx:=by
 rw[uI]at h
 rcases h with⟨x,hx,h⟩|h
 ·right
  refine⟨x,hx,?_⟩
  unfold eW at h
  cases hq:gg p x.dx<;>rw[hq]at h<;>simp at h
  ·exact h
  ·exact .inl h
 ·exact .inl h
theorem pA{l:List Int}(h:qF l){i j:Nat}{a b:Int}(oT:i<j)(ha:l[i]? =some a)(hb:l[j]? =some b):a<b:=by
 unfold qF at h
 rw[DD]at h
 obtain⟨hi,rfl⟩:=fP.1 ha
 obtain⟨hj,rfl⟩:=fP.1 hb
 exact h i j hi hj oT
theorem NA{l:List Int}(h:qF l){i:Nat}{a b y:Int}(ha:l[i]? =some a)(hb:l[i+1]? =some b)(hy:y∈l)(gq:a<y):b<=y:=by
 obtain⟨m,hm,rfl⟩:=pH hy
 have em:l[m]? =some l[m]:=dH hm
 rcases Jk m (i+1)with h1|h1|h1
 ·rcases Dp m i with h2|h2
  ·have:=pA h h2 em ha;omega
  ·have:m=i:=by omega
   subst this
   rw[ha]at em;have:=Option.some.inj em;omega
 ·subst h1
  rw[hb]at em;have:=Option.some.inj em;omega
 ·have:=pA h h1 hb em;omega
theorem IJ{p:List bP}:(iU p).length<=2*p.length+1:=by
 have h1:=vB (p.flatMap (eW p)) [0]
 have h2:=ot p p
 have h1:(iU p).length<=_:=h1
 simp only[oG,Kz]at h1
 omega
theorem xC: ∀{l:List cN},(∀s∈l,s∈gJ)->l.length<=kR l
 | [],_=>by simp
 |s::l,h=>by
  have h1:=(jM s (h s (by simp))).2.1
  have h2:=xC (l:=l) λx hx=>h x (by simp[hx])
  show l.length+1<=tk s+kR l
  omega
abbrev StI:=List aW×List Int×List Int×List cn×List bx×List cr×List cO×List Int×List cn×List (List aW)×List cU×Int
theorem f10_eq:f10=some true:=by kernel_rfl
theorem f34_ex(l:List (List bP))(hs:bU l): ∃r,f34 l=some r/\r.1.length<=10000:=by
 unfold f34
 rw[f33_eq l hs]
 simp only[cK]
 by_cases h:jr l=0
 ·obtain⟨h6,hp⟩:=jk h
  have h4: ∀p∈l,p.length<=400:=λp AS=>(hp p AS).1
  have hf:=oq 6 h6 h4
  simp only[h,pU,tt,dX,dj,f53_eq l h6 h4,cK]
  refine⟨_,rfl,?_⟩
  have:=(IB l.flatten l.flatten (by omega)).2
  show(sd l.flatten l.flatten).length<=10000
  omega
 ·simp only[pU,h,Hw,gp,cS]
  exact⟨_,rfl,by simp⟩
theorem f9_ex(j:gk)(hs:bU j.cA): ∃b,f9 j=some b/\True:=by
 unfold f9
 rw[f33_eq _ hs,f15_eq]
 refine iw (P1:=λb=>b=false->jr j.cA=0) ?_ ?_
 ·simp only[cK]
  by_cases h:jr j.cA=0
  ·simp only[h,pU,tt,dX,dj]
   exact⟨_,rfl,λ_=>trivial⟩
  ·simp only[pU,h,Hw,gp,cS]
   exact⟨_,rfl,λh=>by cases h⟩
 intro b hb
 cases b
 case true=>exact⟨_,rfl,trivial⟩
 have CQ:=hb rfl
 obtain⟨h6,hp⟩:=jk CQ
 have Rn: ∀p∈j.cA,bU p:=λp AS=>by have:=(hp p AS).1;simp only[bU];omega
 simp only[dj]
 cases decide (4<(j.cA.length:Int))
 case true=>exact⟨_,rfl,trivial⟩
 simp only[dj]
 refine eK (λk(s:Int×Int)=>s.2=(k:Int)) (λ_=>True) j.cA.length hs rfl ?_ ?_ ?_
 ·rintro k ⟨s1,s2⟩ hk e
  simp only at e
  subst e
  have e1:j.cA[k]? =some (j.cA[k]'hk):=dH _
  simp only[cJ e1,cS,cj e1,cK,dI hs e1]
  exact .inl ⟨_,rfl,rfl⟩
 ·rintro⟨s1,s2⟩ e
  simp only at e
  subst e
  simp only[ky,dX,dj]
  exact⟨_,rfl,trivial⟩
 intro n _
 cases decide (24<n)
 case true=>exact⟨_,rfl,trivial⟩
 simp only[dj]
 obtain⟨r,r1,r2⟩:=f34_ex j.cA hs
 have hr:bU r.1:=by simp only[bU];omega
 simp only[r1,cK]
 refine eK (λk(s:Int)=>s=(k:Int)) (λ_=>True) r.1.length hr rfl ?_ ?_ ?_
 ·rintro k s hk rfl
  have e1:r.1[k]? =some (r.1[k]'hk):=dH _
  generalize r.1[k]'hk=t at e1
  simp only[cJ e1,cS,cj e1,dI hr e1]
  have key: ∃z,(bZ (σ:=(Int×Int)) (τ:=Int) (λ((WO,Tt):(Int×Int))=>bif (decide (Tt<(j.cA.length:Int)))then((bZ (σ:=(Int×Int)) (τ:=Int) (λ((GW,zl):(Int×Int))=>(ix j.cA Tt).bind λP3=>bif (decide (zl<(P3.length:Int)))then((((ix P3 zl).bind λKL=>(((some t).bind λy15=>bif (decide (KL.bW=y15))then(bif (decide (-1000<j.shift))then(some (decide (j.shift<1000)))else(some false))else(some false)):Option Bool).bind λ(NB:Bool)=>bif NB then((f35 j.instrument (wr (KL.bY+j.shift))).bind λUN=>some (wr (GW*(kM 1 (UN.1.length:Int)))))else(some GW)):Option Int).bind λ(Tu:Int)=>some (.inl (Tu,(wr (zl+1)))))else(some (.inr GW))) cz (WO,0)).bind λ(WQ:Int)=>some (.inl (WQ,(wr (Tt+1)))))else(some (.inr WO))) cz (1,0))=some z/\True:=by
   refine j7 (λm(s:Int×Int)=>s.2=(m:Int)) (λ_=>True) j.cA.length hs rfl ?_ ?_
   ·rintro m ⟨s1,s2⟩ hm e
    simp only at e
    subst e
    have e2:j.cA[m]? =some (j.cA[m]'hm):=dH _
    have CQ:=Rn _ (va hm)
    generalize j.cA[m]'hm=p at e2 CQ
    simp only[cJ e2,cS,cj e2,cK,dI hs e2]
    have aao: ∃z,(bZ (σ:=(Int×Int)) (τ:=Int) (λ((GW,zl):(Int×Int))=>bif (decide (zl<(p.length:Int)))then((((ix p zl).bind λKL=>((bif (decide (KL.bW=t))then(bif (decide (-1000<j.shift))then(some (decide (j.shift<1000)))else(some false))else(some false)):Option Bool).bind λ(NB:Bool)=>bif NB then((f35 j.instrument (wr (KL.bY+j.shift))).bind λUN=>some (wr (GW*(kM 1 (UN.1.length:Int)))))else(some GW)):Option Int).bind λ(Tu:Int)=>some (.inl (Tu,(wr (zl+1)))))else(some (.inr GW))) cz (s1,0))=some z/\True:=by
     refine j7 (λm(s:Int×Int)=>s.2=(m:Int)) (λ_=>True) p.length CQ rfl ?_ ?_
     ·rintro q ⟨s1,s2⟩ hq e
      simp only at e
      subst e
      have e3:p[q]? =some (p[q]'hq):=dH _
      simp only[cJ e3,cS,cj e3,cK,dI CQ e3,f35_eq]
      cases decide ((p[q]'hq).bW=t)
      ·exact .inl ⟨_,rfl,rfl⟩
      ·cases decide (-1000<j.shift)
       ·exact .inl ⟨_,rfl,rfl⟩
       ·cases decide (j.shift<1000)<;>exact .inl ⟨_,rfl,rfl⟩
     ·rintro⟨s1,s2⟩ e
      simp only at e
      subst e
      simp only[ky,dX,dj]
      exact⟨_,rfl,trivial⟩
    obtain⟨z,z1,_⟩:=aao
    simp only[z1,cK]
    exact .inl ⟨_,rfl,rfl⟩
   ·rintro⟨s1,s2⟩ e
    simp only at e
    subst e
    simp only[ky,dX,dj]
    exact⟨_,rfl,trivial⟩
  obtain⟨z,z1,_⟩:=key
  rw[z1]
  simp only[cK]
  cases decide (300<z)
  ·exact .inl ⟨_,rfl,rfl⟩
  ·exact .inr ⟨_,rfl,trivial⟩
 ·rintro s rfl
  simp only[ky,dX,dj]
  exact⟨_,rfl,trivial⟩
 ·intro o _
  cases o<;>exact⟨_,rfl,trivial⟩
end Go.Proofs.YtpbahncblggodaaGreat
