/- Plain laws, joined by gen/joinH.py. -/
import Derived.Test.YtpbahncblggodaaGreatJA
set_option linter.all false
namespace Go.Proofs.YtpbahncblggodaaGreat
open Go Go.Am
set_option maxRecDepth 100000
theorem gn.len{c:bS}(h:gn c):c.cG.length<=14:=by
 have key: ∀(i:Nat)p,c.cG[i]? =some p->(i:Int)+1<=p.bt:=by
  intro i
  induction i with
  |zero=>intro p hp;have:=h.dc p (gz hp);omega
  |succ i ih=>
   intro p hp
   have hi:=(fP.1 hp).1
   have e1:c.cG[i]? =some (c.cG[i]'(by omega)):=dH _
   have:=ih _ e1
   have:=h.da i _ p e1 hp
   omega
 rcases Dp 14 c.cG.length with hl|hl
 ·have e1:c.cG[14]? =some (c.cG[14]'hl):=dH _
  have h1:=key 14 _ e1
  have h2:=h.dc _ (gz e1)
  omega
 ·exact hl
theorem f16_ex(h:eA)(hh:nG h)(h0:f39 h=some 0)(c:bS)(hc:kb c): ∃r,f16 h c=some r/\(r.2=0->gn c/\f60 h c=some r.1/\r.1.length<=200/\ ∀g∈r.1,Fit h c g)/\
  (gn c-> ∀l,f60 h c=some l->l.length<=200->r=(l,0)):=by
 unfold f16
 rw[h0]
 simp only[cK,pU,tt,dX,dj]
 obtain⟨b,e1,e2⟩:=f59_ex c hc.d hc.h hc.o
 simp only[e1,cK]
 cases b
 ·exact⟨_,rfl,λh=>by simp at h,λh=>by have:=e2.2 h;cases this⟩
 have hr:=e2.1 rfl
 obtain⟨l,e3,e4,e5⟩:=f60_ex h hh c hr.len hc.o
 simp only[p8,dj,e3,cK]
 by_cases c1:200<(l.length:Int)
 ·simp only[c1,gp,cS]
  exact⟨_,rfl,λh=>by simp at h,λ_ l' h1 h2=>by cases h1;omega⟩
 ·simp only[c1,dX,dj]
  exact⟨_,rfl,λ_=>⟨hr,rfl,by show l.length<=200;omega,e5⟩,λ_ l' h1 h2=>by cases h1;rfl⟩
theorem f226_ex(d:cP)(hh:nG d.h)(h0:f39 d.h=some 0)(x:bS)(k:cr)(hc:kb d.dB)(hx:kb x)(hk:bU k.dm)(l:List cr)(hl:bU l)(hf: ∀g∈l,bU g.dm):
  ∃b,f226 l d x k=some b/\(b=true↔ ∃g∈l,Steps d.h d.dB g x k):=by
 have uT:l.length<=4194304:=hl
 unfold f226 f276
 have key: ∃o,bZ (σ:=Int) (τ:=(Unit⊕Int)) (λ(vE:Int)=>bif (decide (vE<(l.length:Int)))then((ix l vE).bind λy2=>(f227 y2 d x k).bind λr3=>bif r3 then(some (.inr (.inr vE)))else(some (.inl (wr (vE+1)))))else(some (.inr (.inl ())))) cz 0=some o/\
   (match o with
    |.inl _=> ¬ ∃g∈l,Steps d.h d.dB g x k
    |.inr z=>0<=z/\ ∃g∈l,Steps d.h d.dB g x k):=by
  refine j7 (λn(s:Int)=>s=(n:Int)/\ ¬ ∃g∈l.take n,Steps d.h d.dB g x k) _ l.length uT ⟨rfl,by simp⟩ ?_ ?_
  ·rintro n s hn ⟨rfl,hi⟩
   have e1:l[n]? =some (l[n]'hn):=dH _
   generalize l[n]'hn=g at e1
   have hm:=gz e1
   obtain⟨r,e2,e3⟩:=f228_ex d.h hh h0 d.dB g x k hc hx (hf g hm) hk
   simp only[cJ e1,cS,cj e1,cK,dI hl e1,f227,e2]
   by_cases c1:r.2=0
   ·simp only[c1,gp,cS]
    exact .inr ⟨_,rfl,by omega,g,hm,e3.1 c1⟩
   ·simp only[c1,dX,dj]
    refine .inl ⟨_,rfl,rfl,?_⟩
    rintro⟨g',kv,hs⟩
    rw[cQ e1,lr]at kv
    rcases kv with kv|kv
    ·exact hi ⟨g',kv,hs⟩
    ·simp at kv;subst kv
     exact c1 (e3.2 hs)
  ·rintro s ⟨rfl,hi⟩
   simp only[ky,dX,dj]
   exact⟨_,rfl,by simpa using hi⟩
 obtain⟨o,k1,k2⟩:=key
 simp only[k1,cK]
 cases o with
 |inl _=>exact⟨false,by simp,by simpa using k2⟩
 |inr z=>exact⟨true,by simp[k2.1],by simpa using k2.2⟩
structure EN (d:cP):Prop where
 hh:nG d.h
 h0:f39 d.h=some 0
 ch:kb d.dB
 po:d.fp.length<=200
 pf: ∀g∈d.fp,bU g.dm
theorem f161_ex(d:cP)(hd:EN d)(x:bS)(hx:kb x): ∃l,f161 d x=some l/\(l.length<=200/\(∀k∈l,Fit d.h x k)/\(l≠[]->gn x/\ ∃L,f60 d.h x=some L/\L.length<=200/\ ∀k∈l,k∈L)/\
  (d.bM.bG.length≠0-> ∀k∈l,∃g∈d.fp,Steps d.h d.dB g x k)/\
  (gn x-> ∀L,f60 d.h x=some L->L.length<=200-> ∀k∈L,(d.bM.bG.length=0\/ ∃g∈d.fp,Steps d.h d.dB g x k)->k∈l)):=by
 unfold f161
 refine iw (f16_ex d.h hd.hh hd.h0 x hx) ?_
 rintro⟨l,e⟩ ⟨h1,h2⟩
 simp only at h1 h2
 by_cases c1:e=0
 ·subst c1
  obtain⟨r1,r2,r3,r4⟩:=h1 rfl
  have WJ:=r1.len
  have r3:l.length<=200:=r3
  simp only[pU,tt,dX,dj]
  by_cases c2:d.bM.bG.length=0
  ·have e:decide ((d.bM.bG.length:Int)=0)=true:=by simp[c2]
   simp only[e,cS]
   refine⟨l,rfl,r3,r4,λ_=>⟨r1,l,r2,r3,λ_ h=>h⟩,λh=>absurd c2 h,λ_ L hL _ k hk _=>?_⟩
   rw[r2]at hL;cases hL;exact hk
  ·have e:decide ((d.bM.bG.length:Int)=0)=false:=mC (by omega)
   simp only[e,dj]
   refine eK (λn(s:List cr×Int)=>s.2=(n:Int)/\s.1.length<=n/\(∀k∈s.1,k∈l)/\(∀k∈s.1,∃g∈d.fp,Steps d.h d.dB g x k)/\ ∀k∈l.take n,(∃g∈d.fp,Steps d.h d.dB g x k)->k∈s.1)
    (λm=>m.length<=l.length/\(∀k∈m,k∈l)/\(∀k∈m,∃g∈d.fp,Steps d.h d.dB g x k)/\ ∀k∈l,(∃g∈d.fp,Steps d.h d.dB g x k)->k∈m) l.length (by omega) ⟨rfl,by simp,by simp,by simp,by simp⟩ ?_ ?_ ?_
   ·rintro n ⟨s1,s2⟩ hn ⟨e0,m1,m2,m3,m4⟩
    simp only at e0 m1 m2 m3 m4
    subst e0
    have e1:l[n]? =some (l[n]'hn):=dH _
    generalize l[n]'hn=k at e1
    have hm:=gz e1
    have hk:bU k.dm:=by have:=(r4 k hm).len;simp only[bU];omega
    obtain⟨b,b1,b2⟩:=f226_ex d hd.hh hd.h0 x k hd.ch hx hk d.fp (by have:=hd.po;simp only[bU];omega) hd.pf
    have n1:s1.length+1<=bJ:=by unfold bJ;omega
    simp only[cJ e1,cS,cj e1,cK,dI (l:=l) (by simp only[bU];omega) e1,b1,dg n1]
    cases b
    ·refine .inl ⟨_,rfl,rfl,by show s1.length<=n+1;omega,m2,m3,λk' lx hs=>?_⟩
     rw[cQ e1,lr]at lx
     rcases lx with lx|lx
     ·exact m4 k' lx hs
     ·simp at lx;subst lx
      have:=b2.2 hs;cases this
    ·refine .inl ⟨_,rfl,rfl,by simp;omega,λk' lx=>?_,λk' lx=>?_,λk' lx hs=>?_⟩
     ·rcases lr.1 lx with lx|lx
      ·exact m2 k' lx
      ·simp at lx;subst lx;exact hm
     ·rcases lr.1 lx with lx|lx
      ·exact m3 k' lx
      ·simp at lx;subst lx;exact b2.1 rfl
     ·rw[cQ e1,lr]at lx
      rcases lx with lx|lx
      ·exact Dn _ (m4 k' lx hs)
      ·exact FA _ lx
   ·rintro⟨s1,s2⟩ ⟨e0,m1,m2,m3,m4⟩
    simp only at e0 m1 m2 m3 m4
    subst e0
    simp only[ky,dX,dj]
    exact⟨_,rfl,m1,m2,m3,λk hk=>m4 k (by simpa using hk)⟩
   ·rintro m ⟨m1,m2,m3,m4⟩
    refine⟨m,rfl,by omega,λk hk=>r4 k (m2 k hk),λ_=>⟨r1,l,r2,r3,m2⟩,λ_=>m3,λ_ L hL _ k hk hs=>?_⟩
    rw[r2]at hL;cases hL
    rcases hs with hs|hs
    ·exact absurd hs c2
    ·exact m4 k hk hs
 ·simp only[pU,c1,Hw,gp,cS]
  refine⟨[],rfl,by simp,by simp,λh=>absurd rfl h,by simp,λhr L hL dA=>?_⟩
  have:=h2 hr L hL dA
  simp at this
  exact absurd this.2 c1
theorem f162_eq(l:List aW)(hs:bU l):f162 l=some (l.map aW.bt):=by
 have nN:l.length<=4194304:=hs
 unfold f162
 have n1:(0:Int)<=(l.length:Int):=by omega
 have n2:(l.length:Int)<=(bJ:Int):=by unfold bJ;omega
 simp only[dg n1,dg n2]
 rw[jf (λk=>((l.take k).map aW.bt,(k:Int))) l.length (by omega) (by simp) (r:=l.map aW.bt)]
 ·rfl
 ·intro k hk
  have e1:l[k]? =some (l[k]'hk):=dH _
  generalize l[k]'hk=p at e1
  have m1:((l.take k).map aW.bt).length+1<=bJ:=by simp;unfold bJ;omega
  simp only[cJ e1,cS,cj e1,cK,dI hs e1,f163,dg m1,cQ e1,Dm]
  rfl
 ·simp
def qG(d:cP)(tie:Bool):bS:=if tie then⟨d.dB.cG,d.dB.cG.map aW.bt,d.dB.di⟩else⟨[],[],[]⟩
theorem wA(d:cP)(hd:kb d.dB)(tie:Bool):kb (qG d tie):=by
 unfold qG
 cases tie
 ·exact⟨by simp[bU],by simp[bU],by simp[bU]⟩
 ·have:=hd.d
  exact⟨hd.d,by simpa[bU]using this,hd.o⟩
theorem f99_ex(d:cP)(hd:EN d)(s:cN)(tie:Bool)(he:d.bM.bG.length<cT): ∃g,f161 d (qG d tie)=some g/\f99 d s tie=some ((qG d tie).cG,(qG d tie).held,(qG d tie).di,d.bM.bG++[⟨false,s,tie,[]⟩],g):=by
 obtain⟨g,h1,_⟩:=f161_ex d hd (qG d tie) (wA d hd.ch tie)
 refine⟨g,h1,?_⟩
 unfold f99
 cases tie
 ·simp only[dj,cK]
  unfold qG at h1 |-
  simp only[YV,if_false]at h1 |-
  simp only[h1,cK,dg he]
 ·simp only[cS,cK,f162_eq _ hd.ch.d]
  unfold qG at h1 |-
  simp only[u0]at h1 |-
  simp only[h1,cK,dg he]
def eY:Nat->Nat->List (List Bool)
 |0,0=>[[]]
 |0,_+1=>[]
 |k+1,0=>(eY k 0).map (false:: ·)
 |k+1,m+1=>(eY k (m+1)).map (false:: ·)++(eY k m).map (true:: ·)
theorem pp: ∀(k m:Nat),k<m->eY k m=[]
 |0,m+1,_=>rfl
 |k+1,m+1,h=>by simp only[eY,pp k (m+1) (by omega),pp k m (by omega)];rfl
def lj(n:Nat):List (List Bool):=(List.range (n+1)).flatMap (eY n)
def pq{R:Type}(B:List Bool->Option (Unit⊕(R⊕Unit))):List (List Bool)->Option (Unit⊕(R⊕Unit))
 | []=>some (.inr (.inr ()))
 |l::r=>match B l with
  |none=>none
  |some (.inr (.inr _))=>pq B r
  |some x=>some x
theorem qH{R:Type}(B:List Bool->Option (Unit⊕(R⊕Unit))): ∀(a b:List (List Bool)),pq B (a++b)=match pq B a with
  |some (.inr (.inr _))=>pq B b
  |x=>x
 | [],b=>rfl
 |l::r,b=>by
  simp only[wI,pq]
  cases B l with
  |none=>rfl
  |some o=>
   rcases o with _|_|_
   ·rfl
   ·rfl
   ·exact qH B r b
theorem eP{σ τ:Type}{body:σ->Option (σ⊕τ)}{s:σ}{r:τ}(h:body s=some (.inr r))(n:Nat)(hn:0<n):bZ body n s=some r:=by
 cases n with
 |zero=>omega
 |succ n=>simp only[bZ,h]
theorem jX{σ τ:Type}{body:σ->Option (σ⊕τ)}{s s':σ}(h:body s=some (.inl s'))(n:Nat):bZ body (n+1) s=bZ body n s':=by simp only[bZ,h]
theorem jV{α:Type}{l:List α}{i:Nat}{x:α}(h:i<l.length):(l.set i x).take (i+1)=l.take i++[x]:=by
 have:(l.set i x)[i]? =some x:=by rw[Xu];simp[h]
 rw[cQ this,Y6 (eF i)]
section
variable (e1:List bx) (e2:cP) (e3 e5:List bx) (e6:bV) (e7:bS) (e8:List cr) (e9:Bool)
def fL{R:Type}(o:Unit⊕((List cr×bS×bV)⊕Unit))(l:List Bool):(List Bool)⊕((List Bool)⊕(bV×bS×List cr×List Bool)):=match o with
 |.inl _=>.inr (.inl l)
 |.inr (.inl r)=>.inr (.inr (r.2.2,r.2.1,r.1,l))
 |.inr (.inr _)=>.inl l
theorem f266r_eq(n:Nat)(hn:n<=4194304): ∀(rem fu i m:Nat)(l:List Bool)(o:Unit⊕((List cr×bS×bV)⊕Unit)),l.length=n->i+rem=n->rem<fu->m<=rem->
  pq (f348 e1 e2 e3 e5 e6 e7 e8 e9 (n:Int)) ((eY rem m).map (l.take i++ ·))=some o->
  ∃l',l'.length=n/\l'.take i=l.take i/\f266r fu (i:Int) (m:Int) (n:Int) e1 e2 e3 e5 e6 e7 e8 e9 l=some (fL (R:=Unit) o l')
 |rem,0,i,m,l,o,hl,hi,hf,hm,hs=>by omega
 |0,fu+1,i,m,l,o,hl,hi,hf,hm,hs=>by
  have B4:m=0:=by omega
  subst B4
  have eZ:i=n:=by omega
  subst eZ
  have gq:l.take i=l:=sG (by omega)
  have c0: ¬((0:Int)<((0:Nat):Int)):=by simp
  simp only[eY,xb,Qu,xa,gq,pq]at hs
  refine⟨l,hl,rfl,?_⟩
  unfold f266r
  simp only[gp,cS,c0,dX,dj]
  cases hB:f348 e1 e2 e3 e5 e6 e7 e8 e9 (i:Int) l with
  |none=>rw[hB]at hs;simp at hs
  |some x=>
   rw[hB]at hs
   rcases x with _|_|_<;>simp at hs<;>subst hs<;>rfl
 |rem+1,fu+1,i,m,l,o,hl,hi,hf,hm,hs=>by
  have c0: ¬((i:Int)=(n:Int)):=by omega
  have w1:wr ((i:Int)+1)=((i+1:Nat):Int):=gH (by omega)
  have w2:wr ((n:Int)-(i:Int))=((rem+1:Nat):Int):=by rw[iL (by omega) (by omega)];omega
  have w3:wr (((rem+1:Nat):Int)-1)=(rem:Int):=by rw[iL (by omega) (by omega)];omega
  have sO:i<l.length:=by omega
  have x0:l[i]? =some (l[i]'sO):=dH _
  have first: ∀o1,pq (f348 e1 e2 e3 e5 e6 e7 e8 e9 (n:Int)) ((eY rem m).map ((l.take i++[false])++ ·))=some o1->m<=rem->
    ∃l',l'.length=n/\l'.take i=l.take i/\f266r fu ((i+1:Nat):Int) (m:Int) (n:Int) e1 e2 e3 e5 e6 e7 e8 e9 (l.set i false)=some (fL (R:=Unit) o1 l'):=λo1 h1 hmr=>by
   obtain⟨l',a1,a2,a3⟩:=f266r_eq n hn rem fu (i+1) m (l.set i false) o1 (by simpa using hl) (by omega) (by omega) hmr (by rw[jV sO];exact h1)
   rw[jV sO]at a2
   refine⟨l',a1,?_,a3⟩
   have:=fA (List.take i) a2
   rw[RM,Oh (by omega),Uk (by simp;omega)]at this
   exact this
  have second: ∀(l2:List Bool)o1 m',m=m'+1->l2.length=n->l2.take i=l.take i->pq (f348 e1 e2 e3 e5 e6 e7 e8 e9 (n:Int)) ((eY rem m').map ((l.take i++[true])++ ·))=some o1->
    ∃l',l'.length=n/\l'.take i=l.take i/\f266r fu ((i+1:Nat):Int) (m':Int) (n:Int) e1 e2 e3 e5 e6 e7 e8 e9 (l2.set i true)=some (fL (R:=Unit) o1 l'):=λl2 o1 m' pM Dw zV h1=>by
   have Nq:i<l2.length:=by omega
   obtain⟨l',a1,a2,a3⟩:=f266r_eq n hn rem fu (i+1) m' (l2.set i true) o1 (by simpa using Dw) (by omega) (by omega) (by omega) (by rw[jV Nq,zV];exact h1)
   rw[jV Nq,zV]at a2
   refine⟨l',a1,?_,a3⟩
   have:=fA (List.take i) a2
   rw[RM,Oh (by omega),Uk (by simp;omega)]at this
   exact this
  unfold f266r
  simp only[c0,dX,dj]
  have hF:cz=(cz-3)+1+1+1:=by unfold cz;omega
  rw[hF]
  generalize Dy:(λ(x:List Bool×Int)=>_:List Bool×Int->Option ((List Bool×Int)⊕((List Bool)⊕((List Bool)⊕((List Bool)⊕(bV×bS×List cr×List Bool))))))=body
  have g0:ix ([false,true]:List Bool) (0:Int)=some false:=rfl
  have g1:ix ([false,true]:List Bool) (1:Int)=some true:=rfl
  have k0:((0:Int)<2):=by omega
  have k1:((1:Int)<2):=by omega
  have k2: ¬((2:Int)<2):=by omega
  have v1:wr ((0:Int)+1)=1:=by rw[iL (by omega) (by omega)];rfl
  have v2:wr ((1:Int)+1)=2:=by rw[iL (by omega) (by omega)];rfl
  have Nr: ¬((m:Int)<0):=by omega
  have hA:rem<m->body (l,0)=some (.inl (l,1)):=λgq=>by
   have c1:((rem:Int)<(m:Int)):=by omega
   rw[<-Dy]
   simp only[k0,gp,cS,g0,cK,dj,Nr,dX,w2,w3,c1,v1,Ac]
  have WK: ∀(o1:Unit⊕((List cr×bS×bV)⊕Unit))l',m<=rem->f266r fu ((i+1:Nat):Int) (m:Int) (n:Int) e1 e2 e3 e5 e6 e7 e8 e9 (l.set i false)=some (fL (R:=Unit) o1 l')->
    body (l,0)=some (match fL (R:=Unit) o1 l' with|.inl q=>.inl (q,1)|.inr z=>.inr (.inr (.inr z))):=λo1 l' eE hc=>by
   have c1: ¬((rem:Int)<(m:Int)):=by omega
   rw[<-Dy]
   simp only[k0,gp,cS,g0,cK,dj,Nr,dX,w2,w3,c1,v1,cj x0,w1,oH,hc]
   rcases o1 with _|_|_<;>rfl
  have hB: ∀l2:List Bool,m=0->body (l2,1)=some (.inl (l2,2)):=λl2 B4=>by
   subst B4
   have c1:wr (((0:Nat):Int)-1)<0:=by rw[iL (by omega) (by omega)];omega
   rw[<-Dy]
   simp only[k1,gp,cS,g1,cK,c1,v2,Ac]
  have hB': ∀(l2:List Bool)(o1:Unit⊕((List cr×bS×bV)⊕Unit))l'(m':Nat),m=m'+1->l2.length=n->f266r fu ((i+1:Nat):Int) (m':Int) (n:Int) e1 e2 e3 e5 e6 e7 e8 e9 (l2.set i true)=some (fL (R:=Unit) o1 l')->
    body (l2,1)=some (match fL (R:=Unit) o1 l' with|.inl q=>.inl (q,2)|.inr z=>.inr (.inr (.inr z))):=λl2 o1 l' m' pM Dw hc=>by
   have c1:wr ((m:Int)-1)=(m':Int):=by rw[iL (by omega) (by omega)];omega
   have c2: ¬((m':Int)<0):=by omega
   have c3: ¬((rem:Int)<(m':Int)):=by omega
   have x2:l2[i]? =some (l2[i]'(by omega)):=dH _
   rw[<-Dy]
   simp only[k1,gp,cS,g1,cK,c1,c2,dX,dj,w2,w3,c3,v2,cj x2,w1,oH,hc]
   rcases o1 with _|_|_<;>rfl
  have hC: ∀l2:List Bool,body (l2,2)=some (.inr (.inl l2)):=λl2=>by
   rw[<-Dy]
   simp only[k2,dX,dj]
  clear Dy
  have Ns: ∀k,(eY rem k).map (λx=>l.take i++false::x)=(eY rem k).map ((l.take i++[false])++ ·):=λk=>by simp
  have Tp: ∀k,(eY rem k).map (λx=>l.take i++true::x)=(eY rem k).map ((l.take i++[true])++ ·):=λk=>by simp
  have rest: ∀(l2:List Bool)(N:Nat)(m':Nat),m=m'+1->l2.length=n->l2.take i=l.take i->pq (f348 e1 e2 e3 e5 e6 e7 e8 e9 (n:Int)) ((eY rem m').map ((l.take i++[true])++ ·))=some o->
    ∃l',l'.length=n/\l'.take i=l.take i/\(bZ body (N+1+1) (l2,1)).bind (Sum.elim (λl1x=>some (.inl l1x)) some)=some (fL (R:=Unit) o l'):=λl2 N m' pM Dw zV h1=>by
   obtain⟨l',a1,a2,a3⟩:=second l2 o m' pM Dw zV h1
   refine⟨l',a1,a2,?_⟩
   have hb:=hB' l2 o l' m' pM Dw a3
   rcases o with _|_|_
   ·rw[eP hb _ (by omega)];rfl
   ·rw[eP hb _ (by omega)];rfl
   ·rw[jX hb,eP (hC l') _ (by omega)];rfl
  cases m with
  |zero=>
   simp only[eY,Jd]at hs
   have hs:pq (f348 e1 e2 e3 e5 e6 e7 e8 e9 (n:Int)) ((eY rem 0).map ((l.take i++[false])++ ·))=some o:=by rw[<-Ns];exact hs
   obtain⟨l',a1,a2,a3⟩:=first o hs (by omega)
   refine⟨l',a1,a2,?_⟩
   have hb:=WK o l' (by omega) a3
   rcases o with _|_|_
   ·rw[eP hb _ (by omega)];rfl
   ·rw[eP hb _ (by omega)];rfl
   ·rw[jX hb,jX (hB l' rfl),eP (hC l') _ (by omega)];rfl
  |succ m'=>
   simp only[eY,Dm,Jd]at hs
   have hs:pq (f348 e1 e2 e3 e5 e6 e7 e8 e9 (n:Int)) ((eY rem (m'+1)).map ((l.take i++[false])++ ·)++(eY rem m').map ((l.take i++[true])++ ·))=some o:=by rw[<-Ns,<-Tp];exact hs
   by_cases eE:m'+1<=rem
   ·rw[qH]at hs
    cases h1:pq (f348 e1 e2 e3 e5 e6 e7 e8 e9 (n:Int)) ((eY rem (m'+1)).map ((l.take i++[false])++ ·))with
    |none=>rw[h1]at hs;simp at hs
    |some o1=>
     rw[h1]at hs
     obtain⟨l',a1,a2,a3⟩:=first o1 h1 eE
     have hb:=WK o1 l' eE a3
     rcases o1 with u|r|u
     ·simp at hs;subst hs
      exact⟨l',a1,a2,by rw[eP hb _ (by omega)];rfl⟩
     ·simp at hs;subst hs
      exact⟨l',a1,a2,by rw[eP hb _ (by omega)];rfl⟩
     ·obtain⟨l2,b1,b2,b3⟩:=rest l' _ m' rfl a1 a2 hs
      exact⟨l2,b1,b2,by rw[jX hb];exact b3⟩
   ·have h0:eY rem (m'+1)=[]:=pp rem (m'+1) (by omega)
    rw[h0]at hs
    simp only[Qu,rN]at hs
    obtain⟨l2,b1,b2,b3⟩:=rest l _ m' rfl hl rfl hs
    exact⟨l2,b1,b2,by rw[jX (hA (by omega))];exact b3⟩
theorem f265_eq(n:Nat)(hn:n<=4194303)(o:Unit⊕((List cr×bS×bV)⊕Unit))(hs:pq (f348 e1 e2 e3 e5 e6 e7 e8 e9 (n:Int)) (lj n)=some o):f265 e1 e2 e3 e5 e6 e7 e8 e9 (n:Int)=some o:=by
 unfold f265
 have n1:(0:Int)<=(n:Int):=by omega
 have n2:(n:Int)<=(bJ:Int):=by unfold bJ;omega
 simp only[dg n1,dg n2,oH]
 have key: ∀(d k N:Nat)(l:List Bool),k+d=n+1->d<N->l.length=n->pq (f348 e1 e2 e3 e5 e6 e7 e8 e9 (n:Int)) ((List.range' k d).flatMap (eY n))=some o->
   (bZ (σ:=(List Bool×Int)) (τ:=(Unit⊕(Unit⊕((List cr×bS×bV)⊕Unit)))) (λ((Kg,wY):(List Bool×Int))=>bif (decide (wY<=(n:Int)))then((f266 0 wY (n:Int) e1 e2 e3 e5 e6 e7 e8 e9 Kg).bind (Sum.elim (λr4a=>some (.inl (r4a,(wr (wY+1))))) (Sum.elim (λTq=>some (.inr (.inr (.inl ())))) λUM=>some (.inr (.inr (.inr (.inl (UM.2.2.1,(⟨UM.2.1.cG,UM.2.1.held,UM.2.1.di⟩:bS),(⟨UM.1.places,UM.1.cut⟩:bV)))))))))else(some (.inr (.inl ())))) N (l,(k:Int))).bind (Sum.elim (λ(_:Unit)=>some (.inr (.inr ()))) some)=some o:=by
  intro d
  induction d with
  |zero=>
   intro k N l hk hN hl h1
   simp only[List.range'_zero,U6,pq]at h1
   cases h1
   have c1: ¬((k:Int)<=(n:Int)):=by omega
   rw[eP (r:=.inl ()) (by simp only[c1,dX,dj]) _ (by omega)]
   rfl
  |succ d ih=>
   intro k N l hk hN hl h1
   have c1:((k:Int)<=(n:Int)):=by omega
   rw[List.range'_succ,FQ,qH]at h1
   cases h2:pq (f348 e1 e2 e3 e5 e6 e7 e8 e9 (n:Int)) (eY n k)with
   |none=>rw[h2]at h1;simp at h1
   |some o1=>
    rw[h2]at h1
    obtain⟨l',a1,_,a3⟩:=f266r_eq e1 e2 e3 e5 e6 e7 e8 e9 n (by omega) n cz 0 k l o1 hl (by omega) (by unfold cz;omega) (by omega) (by simpa using h2)
    have a3:f266 0 (k:Int) (n:Int) e1 e2 e3 e5 e6 e7 e8 e9 l=some (fL (R:=Unit) o1 l'):=a3
    obtain⟨N,rfl⟩: ∃M,N=M+1:=⟨N-1,by omega⟩
    rcases o1 with u|r|u
    ·simp at h1;subst h1
     rw[eP (r:=.inr (.inl ())) (by simp only[c1,gp,cS,a3,cK];rfl) _ (by omega)]
     rfl
    ·simp at h1;subst h1
     rw[eP (r:=.inr (.inr (.inl r))) (by simp only[c1,gp,cS,a3,cK];rfl) _ (by omega)]
     rfl
    ·have w:wr ((k:Int)+1)=((k+1:Nat):Int):=gH (by omega)
     rw[jX (s':=(l',((k+1:Nat):Int))) (by simp only[c1,gp,cS,a3,cK,<-w];rfl)]
     exact ih (k+1) N l' (by omega) (by omega) a1 h1
 have:=key (n+1) 0 cz (List.replicate n false) (by omega) (by unfold cz;omega) (by simp) (by rw[<-YX];exact hs)
 exact this
end
def kG{R:Type}(B:List Bool->Option (R⊕Unit)):List (List Bool)->Option (R⊕Unit)
 | []=>some (.inr ())
 |l::r=>match B l with
  |none=>none
  |some (.inr _)=>kG B r
  |some x=>some x
theorem pu{R:Type}(B:List Bool->Option (R⊕Unit)): ∀(a b:List (List Bool)),kG B (a++b)=match kG B a with
  |some (.inr _)=>kG B b
  |x=>x
 | [],b=>rfl
 |l::r,b=>by
  simp only[wI,kG]
  cases B l with
  |none=>rfl
  |some o=>
   rcases o with _|_
   ·rfl
   ·exact pu B r b
section
variable (e1:List bx) (e2:cP) (e3 e5:List bx) (e6:bV) (e7:bS) (e8:List cr) (e9:Bool) (al:List (List aW)) (e0:Int)
def uF(o:(List cr×bS×bV)⊕Unit)(l:List Bool):(List Bool)⊕(bV×bS×List cr×List Bool):=match o with
 |.inl r=>.inr (r.2.2,r.2.1,r.1,l)
 |.inr _=>.inl l
theorem f266_1r_eq(n:Nat)(hn:n<=4194304): ∀(rem fu i m:Nat)(l:List Bool)(o:(List cr×bS×bV)⊕Unit),l.length=n->i+rem=n->rem<fu->m<=rem->
  kG (f349 e1 e2 e3 e5 e6 e7 e8 e9 al e0 (n:Int)) ((eY rem m).map (l.take i++ ·))=some o->
  ∃l',l'.length=n/\l'.take i=l.take i/\f266_1r fu (i:Int) (m:Int) (n:Int) e1 e2 e3 e5 e6 e7 e8 e9 al e0 l=some (uF o l')
 |rem,0,i,m,l,o,hl,hi,hf,hm,hs=>by omega
 |0,fu+1,i,m,l,o,hl,hi,hf,hm,hs=>by
  have B4:m=0:=by omega
  subst B4
  have eZ:i=n:=by omega
  subst eZ
  have gq:l.take i=l:=sG (by omega)
  have c0: ¬((0:Int)<((0:Nat):Int)):=by simp
  simp only[eY,xb,Qu,xa,gq,kG]at hs
  refine⟨l,hl,rfl,?_⟩
  unfold f266_1r
  simp only[gp,cS,c0,dX,dj]
  cases hB:f349 e1 e2 e3 e5 e6 e7 e8 e9 al e0 (i:Int) l with
  |none=>rw[hB]at hs;simp at hs
  |some x=>
   rw[hB]at hs
   rcases x with _|_<;>simp at hs<;>subst hs<;>rfl
 |rem+1,fu+1,i,m,l,o,hl,hi,hf,hm,hs=>by
  have c0: ¬((i:Int)=(n:Int)):=by omega
  have w1:wr ((i:Int)+1)=((i+1:Nat):Int):=gH (by omega)
  have w2:wr ((n:Int)-(i:Int))=((rem+1:Nat):Int):=by rw[iL (by omega) (by omega)];omega
  have w3:wr (((rem+1:Nat):Int)-1)=(rem:Int):=by rw[iL (by omega) (by omega)];omega
  have sO:i<l.length:=by omega
  have x0:l[i]? =some (l[i]'sO):=dH _
  have first: ∀o1,kG (f349 e1 e2 e3 e5 e6 e7 e8 e9 al e0 (n:Int)) ((eY rem m).map ((l.take i++[false])++ ·))=some o1->m<=rem->
    ∃l',l'.length=n/\l'.take i=l.take i/\f266_1r fu ((i+1:Nat):Int) (m:Int) (n:Int) e1 e2 e3 e5 e6 e7 e8 e9 al e0 (l.set i false)=some (uF o1 l'):=λo1 h1 hmr=>by
   obtain⟨l',a1,a2,a3⟩:=f266_1r_eq n hn rem fu (i+1) m (l.set i false) o1 (by simpa using hl) (by omega) (by omega) hmr (by rw[jV sO];exact h1)
   rw[jV sO]at a2
   refine⟨l',a1,?_,a3⟩
   have:=fA (List.take i) a2
   rw[RM,Oh (by omega),Uk (by simp;omega)]at this
   exact this
  have second: ∀(l2:List Bool)o1 m',m=m'+1->l2.length=n->l2.take i=l.take i->kG (f349 e1 e2 e3 e5 e6 e7 e8 e9 al e0 (n:Int)) ((eY rem m').map ((l.take i++[true])++ ·))=some o1->
    ∃l',l'.length=n/\l'.take i=l.take i/\f266_1r fu ((i+1:Nat):Int) (m':Int) (n:Int) e1 e2 e3 e5 e6 e7 e8 e9 al e0 (l2.set i true)=some (uF o1 l'):=λl2 o1 m' pM Dw zV h1=>by
   have Nq:i<l2.length:=by omega
   obtain⟨l',a1,a2,a3⟩:=f266_1r_eq n hn rem fu (i+1) m' (l2.set i true) o1 (by simpa using Dw) (by omega) (by omega) (by omega) (by rw[jV Nq,zV];exact h1)
   rw[jV Nq,zV]at a2
   refine⟨l',a1,?_,a3⟩
   have:=fA (List.take i) a2
   rw[RM,Oh (by omega),Uk (by simp;omega)]at this
   exact this
  unfold f266_1r
  simp only[c0,dX,dj]
  have hF:cz=(cz-3)+1+1+1:=by unfold cz;omega
  rw[hF]
  generalize Dy:(λ(x:List Bool×Int)=>_:List Bool×Int->Option ((List Bool×Int)⊕((List Bool)⊕((List Bool)⊕(bV×bS×List cr×List Bool)))))=body
  have g0:ix ([false,true]:List Bool) (0:Int)=some false:=rfl
  have g1:ix ([false,true]:List Bool) (1:Int)=some true:=rfl
  have k0:((0:Int)<2):=by omega
  have k1:((1:Int)<2):=by omega
  have k2: ¬((2:Int)<2):=by omega
  have v1:wr ((0:Int)+1)=1:=by rw[iL (by omega) (by omega)];rfl
  have v2:wr ((1:Int)+1)=2:=by rw[iL (by omega) (by omega)];rfl
  have Nr: ¬((m:Int)<0):=by omega
  have hA:rem<m->body (l,0)=some (.inl (l,1)):=λgq=>by
   have c1:((rem:Int)<(m:Int)):=by omega
   rw[<-Dy]
   simp only[k0,gp,cS,g0,cK,dj,Nr,dX,w2,w3,c1,v1,Ac]
  have WK: ∀(o1:(List cr×bS×bV)⊕Unit)l',m<=rem->f266_1r fu ((i+1:Nat):Int) (m:Int) (n:Int) e1 e2 e3 e5 e6 e7 e8 e9 al e0 (l.set i false)=some (uF o1 l')->
    body (l,0)=some (match uF o1 l' with|.inl q=>.inl (q,1)|.inr z=>.inr (.inr (.inr z))):=λo1 l' eE hc=>by
   have c1: ¬((rem:Int)<(m:Int)):=by omega
   rw[<-Dy]
   simp only[k0,gp,cS,g0,cK,dj,Nr,dX,w2,w3,c1,v1,cj x0,w1,oH,hc]
   rcases o1 with _|_<;>rfl
  have hB: ∀l2:List Bool,m=0->body (l2,1)=some (.inl (l2,2)):=λl2 B4=>by
   subst B4
   have c1:wr (((0:Nat):Int)-1)<0:=by rw[iL (by omega) (by omega)];omega
   rw[<-Dy]
   simp only[k1,gp,cS,g1,cK,c1,v2,Ac]
  have hB': ∀(l2:List Bool)(o1:(List cr×bS×bV)⊕Unit)l'(m':Nat),m=m'+1->l2.length=n->f266_1r fu ((i+1:Nat):Int) (m':Int) (n:Int) e1 e2 e3 e5 e6 e7 e8 e9 al e0 (l2.set i true)=some (uF o1 l')->
    body (l2,1)=some (match uF o1 l' with|.inl q=>.inl (q,2)|.inr z=>.inr (.inr (.inr z))):=λl2 o1 l' m' pM Dw hc=>by
   have c1:wr ((m:Int)-1)=(m':Int):=by rw[iL (by omega) (by omega)];omega
   have c2: ¬((m':Int)<0):=by omega
   have c3: ¬((rem:Int)<(m':Int)):=by omega
   have x2:l2[i]? =some (l2[i]'(by omega)):=dH _
   rw[<-Dy]
   simp only[k1,gp,cS,g1,cK,c1,c2,dX,dj,w2,w3,c3,v2,cj x2,w1,oH,hc]
   rcases o1 with _|_<;>rfl
  have hC: ∀l2:List Bool,body (l2,2)=some (.inr (.inl l2)):=λl2=>by
   rw[<-Dy]
   simp only[k2,dX,dj]
  clear Dy
  have Ns: ∀k,(eY rem k).map (λx=>l.take i++false::x)=(eY rem k).map ((l.take i++[false])++ ·):=λk=>by simp
  have Tp: ∀k,(eY rem k).map (λx=>l.take i++true::x)=(eY rem k).map ((l.take i++[true])++ ·):=λk=>by simp
  have rest: ∀(l2:List Bool)(N:Nat)(m':Nat),m=m'+1->l2.length=n->l2.take i=l.take i->kG (f349 e1 e2 e3 e5 e6 e7 e8 e9 al e0 (n:Int)) ((eY rem m').map ((l.take i++[true])++ ·))=some o->
    ∃l',l'.length=n/\l'.take i=l.take i/\(bZ body (N+1+1) (l2,1)).bind (Sum.elim (λl1x=>some (.inl l1x)) some)=some (uF o l'):=λl2 N m' pM Dw zV h1=>by
   obtain⟨l',a1,a2,a3⟩:=second l2 o m' pM Dw zV h1
   refine⟨l',a1,a2,?_⟩
   have hb:=hB' l2 o l' m' pM Dw a3
   rcases o with _|_
   ·rw[eP hb _ (by omega)];rfl
   ·rw[jX hb,eP (hC l') _ (by omega)];rfl
  cases m with
  |zero=>
   simp only[eY,Jd]at hs
   have hs:kG (f349 e1 e2 e3 e5 e6 e7 e8 e9 al e0 (n:Int)) ((eY rem 0).map ((l.take i++[false])++ ·))=some o:=by rw[<-Ns];exact hs
   obtain⟨l',a1,a2,a3⟩:=first o hs (by omega)
   refine⟨l',a1,a2,?_⟩
   have hb:=WK o l' (by omega) a3
   rcases o with _|_
   ·rw[eP hb _ (by omega)];rfl
   ·rw[jX hb,jX (hB l' rfl),eP (hC l') _ (by omega)];rfl
  |succ m'=>
   simp only[eY,Dm,Jd]at hs
   have hs:kG (f349 e1 e2 e3 e5 e6 e7 e8 e9 al e0 (n:Int)) ((eY rem (m'+1)).map ((l.take i++[false])++ ·)++(eY rem m').map ((l.take i++[true])++ ·))=some o:=by rw[<-Ns,<-Tp];exact hs
   by_cases eE:m'+1<=rem
   ·rw[pu]at hs
    cases h1:kG (f349 e1 e2 e3 e5 e6 e7 e8 e9 al e0 (n:Int)) ((eY rem (m'+1)).map ((l.take i++[false])++ ·))with
    |none=>rw[h1]at hs;simp at hs
    |some o1=>
     rw[h1]at hs
     obtain⟨l',a1,a2,a3⟩:=first o1 h1 eE
     have hb:=WK o1 l' eE a3
     rcases o1 with r|u
     ·simp at hs;subst hs
      exact⟨l',a1,a2,by rw[eP hb _ (by omega)];rfl⟩
     ·obtain⟨l2,b1,b2,b3⟩:=rest l' _ m' rfl a1 a2 hs
      exact⟨l2,b1,b2,by rw[jX hb];exact b3⟩
   ·have h0:eY rem (m'+1)=[]:=pp rem (m'+1) (by omega)
    rw[h0]at hs
    simp only[Qu,rN]at hs
    obtain⟨l2,b1,b2,b3⟩:=rest l _ m' rfl hl rfl hs
    exact⟨l2,b1,b2,by rw[jX (hA (by omega))];exact b3⟩
theorem f265_1_eq(n:Nat)(hn:n<=4194303)(o:(List cr×bS×bV)⊕Unit)(hs:kG (f349 e1 e2 e3 e5 e6 e7 e8 e9 al e0 (n:Int)) (lj n)=some o):f265_1 e1 e2 e3 e5 e6 e7 e8 e9 al e0 (n:Int)=some o:=by
 unfold f265_1
 have n1:(0:Int)<=(n:Int):=by omega
 have n2:(n:Int)<=(bJ:Int):=by unfold bJ;omega
 simp only[dg n1,dg n2,oH]
 have key: ∀(d k N:Nat)(l:List Bool),k+d=n+1->d<N->l.length=n->kG (f349 e1 e2 e3 e5 e6 e7 e8 e9 al e0 (n:Int)) ((List.range' k d).flatMap (eY n))=some o->
   (bZ (σ:=(List Bool×Int)) (τ:=(Unit⊕((List cr×bS×bV)⊕Unit))) (λ((Kh,wY):(List Bool×Int))=>bif (decide (wY<=(n:Int)))then((f266_1 0 wY (n:Int) e1 e2 e3 e5 e6 e7 e8 e9 al e0 Kh).bind (Sum.elim (λr4a=>some (.inl (r4a,(wr (wY+1))))) λTq=>some (.inr (.inr (.inl (Tq.2.2.1,(⟨Tq.2.1.cG,Tq.2.1.held,Tq.2.1.di⟩:bS),(⟨Tq.1.places,Tq.1.cut⟩:bV)))))))else(some (.inr (.inl ())))) N (l,(k:Int))).bind (Sum.elim (λ(_:Unit)=>some (.inr ())) some)=some o:=by
  intro d
  induction d with
  |zero=>
   intro k N l hk hN hl h1
   simp only[List.range'_zero,U6,kG]at h1
   cases h1
   have c1: ¬((k:Int)<=(n:Int)):=by omega
   rw[eP (r:=.inl ()) (by simp only[c1,dX,dj]) _ (by omega)]
   rfl
  |succ d ih=>
   intro k N l hk hN hl h1
   have c1:((k:Int)<=(n:Int)):=by omega
   rw[List.range'_succ,FQ,pu]at h1
   cases h2:kG (f349 e1 e2 e3 e5 e6 e7 e8 e9 al e0 (n:Int)) (eY n k)with
   |none=>rw[h2]at h1;simp at h1
   |some o1=>
    rw[h2]at h1
    obtain⟨l',a1,_,a3⟩:=f266_1r_eq e1 e2 e3 e5 e6 e7 e8 e9 al e0 n (by omega) n cz 0 k l o1 hl (by omega) (by unfold cz;omega) (by omega) (by simpa using h2)
    have a3:f266_1 0 (k:Int) (n:Int) e1 e2 e3 e5 e6 e7 e8 e9 al e0 l=some (uF o1 l'):=a3
    obtain⟨N,rfl⟩: ∃M,N=M+1:=⟨N-1,by omega⟩
    rcases o1 with r|u
    ·simp at h1;subst h1
     rw[eP (r:=.inr (.inl r)) (by simp only[c1,gp,cS,a3,cK];rfl) _ (by omega)]
     rfl
    ·have w:wr ((k:Int)+1)=((k+1:Nat):Int):=gH (by omega)
     rw[jX (s':=(l',((k+1:Nat):Int))) (by simp only[c1,gp,cS,a3,cK,<-w];rfl)]
     exact ih (k+1) N l' (by omega) (by omega) a1 h1
 have:=key (n+1) 0 cz (List.replicate n false) (by omega) (by unfold cz;omega) (by simp) (by rw[<-YX];exact hs)
 exact this
end
def pX(a b:Int):Int:=if a<b then -1 else if b<a then 1 else 0
theorem f104_eq(a b:Int):f104 a b=some (pX a b):=by
 unfold f104 f177 pX
 simp only[pU,tt,dX,cK,dj]
 by_cases h1:a<b
 ·simp[h1]
 ·by_cases h2:b<a
  ·simp[h1,h2]
  ·simp[h1,h2]
theorem f103_eq(l:List Int)(hs:bU l):f103 l=some ((l.find? λx=>decide (x≠0)).getD 0):=by
 unfold f103
 rw[ey l (λx=>decide (x≠0)) (λ_ x=>x) hs,li]
 ·cases l.find? _<;>rfl
 ·intro i y hy
  simp only[cJ hy,cS,cj hy,cK]
  cases decide (y≠0)<;>rfl
 ·simp
def Tr(l:List aW):Int:=l.foldl (λn p=>wr (n+p.cy)) 0
theorem f271_eq(l:List aW)(hs:bU l):f271 l=some (Tr l):=by
 unfold f271
 have h:=jj (body:=λ((WL,Ki):(Int×Int))=>bif (decide (Ki<(l.length:Int)))then((ix l Ki).bind λy2=>some (.inl ((wr (WL+y2.cy)),(wr (Ki+1)))))else(some (.inr WL)))
  (λa i=>(a,i)) (λ_ a(p:aW)=>(.inl (wr (a+p.cy)):Int⊕Int)) (λa=>a) l (λ_ _=>True) 0 (il hs) trivial
  (λi a y hy _=>⟨by simp only[cJ hy,cS,cj hy,cK,dI hs hy];rfl,λ_ _=>trivial⟩) (λa _=>by simp)
 rw[h,BF]
 rfl
theorem f272_ex(a b:List aW)(ha:bU a)(hb:bU b): ∃r,f272 a b=some r/\True:=by
 have K9:a.length<=4194304:=ha
 unfold f272
 refine eK (λk(s:Int)=>s=(k:Int)) (λ_=>True) a.length K9 rfl ?_ ?_ ?_
 ·rintro k s hk rfl
  have e1:a[k]? =some (a[k]'hk):=dH _
  simp only[cJ e1,cS,cj e1,cK,dI ha e1]
  by_cases c1:(b.length:Int)<=(k:Int)
  ·simp only[c1,gp,cS]
   exact .inr ⟨_,rfl,trivial⟩
  ·have e2:b[k]? =some (b[k]'(by omega)):=dH _
   simp only[c1,dX,dj,cj e2,cK,f273,f104_eq]
   cases decide (pX (a[k]'hk).bt (b[k]'(by omega)).bt≠0)
   ·exact .inl ⟨_,rfl,rfl⟩
   ·exact .inr ⟨_,rfl,trivial⟩
 ·rintro s rfl
  simp only[ky,dX,dj]
  exact⟨_,rfl,trivial⟩
 ·intro o _
  cases o with
  |inr z=>exact⟨z,rfl,trivial⟩
  |inl _=>
   simp only[Ac]
   cases decide ((a.length:Int)<(b.length:Int))<;>exact⟨_,rfl,trivial⟩
theorem f270_ex(a b:List aW)(ha:bU a)(hb:bU b): ∃r,f270 a b=some r/\True:=by
 unfold f270
 obtain⟨r,e,_⟩:=f272_ex a b ha hb
 simp only[f271_eq a ha,f271_eq b hb,f104_eq,e,cK,f103_eq _ (show bU [_,_]by simp[bU])]
 exact⟨_,rfl,trivial⟩
def ways(a:bK)(s:Int):List bx->List Bool->List aW->List (List aW)
 |n::ns,b::bs,pre=>bif b then ways a s ns bs (pre++[⟨0,0⟩])else bif decide ((eD a (wr (n.bY+s))).2≠0)then []else
  ((eD a (wr (n.bY+s))).1.filter λp=>!(pre.any (lM p.bt))).flatMap λp=>ways a s ns bs (pre++[p])
 |_,_,pre=>[pre]
theorem f268_eq(l:List aW)(h:bU l):f268 l=some l:=by
 unfold f268
 by_cases c:l=[]
 ·subst c;simp
 ·have:l.length<=bJ:=by simp only[bU]at h;unfold bJ;omega
  rw[show l.isEmpty=false from by simpa using c];simp[dg this]
theorem AD(a:bK)(p:Int):(eD a p).1.length<=300:=by
 unfold eD
 by_cases h:instS a=0
 ·obtain⟨h1,h2,_,_,h5⟩:=instS_ok h
  have:=qE a.bN p a.ck 0 (λc hc=>by
   obtain⟨q1,q2,_⟩:=ka (h5 c hc)
   omega)
  simp only[h,u0,pU,tt,if_false]
  generalize(decide (p<0)||decide (127<p))=b
  cases b<;>simp <;>omega
 ·simp[h]
theorem f267_eq(a:bK)(s:Int)(ct:List bx)(drop:List Bool)(hn:ct.length<=4000)(hd:drop.length=ct.length): ∀(rem fu i:Nat)(all:List (List aW))(l:List aW),l.length=ct.length->i+rem=ct.length->rem<fu->
  all.length+(ways a s (ct.drop i) (drop.drop i) (l.take i)).length<=4000000->
  ∃l',l'.length=l.length/\l'.take i=l.take i/\f267r fu (i:Int) ct all l drop a s=some (all++ways a s (ct.drop i) (drop.drop i) (l.take i),l')
 |rem,0,i,all,l,hl,hi,hf,hb=>by omega
 |0,fu+1,i,all,l,hl,hi,hf,hb=>by
  have eZ:i=ct.length:=by omega
  subst eZ
  have h1:ct.drop ct.length=[]:=by simp
  have h2:l.take ct.length=l:=sG (by omega)
  rw[h1,h2]at hb |-
  simp only[ways,oG,Kz]at hb |-
  have m1:all.length+1<=bJ:=by unfold bJ;omega
  refine⟨l,rfl,h2,?_⟩
  unfold f267r
  simp only[gp,cS,f268_eq l (by simp only[bU];omega),cK,dg m1]
 |rem+1,fu+1,i,all,l,hl,hi,hf,hb=>by
  have sO:i<ct.length:=by omega
  have x1:ct[i]? =some (ct[i]'sO):=dH _
  have x2:drop[i]? =some (drop[i]'(by omega)):=dH _
  have x3:l[i]? =some (l[i]'(by omega)):=dH _
  have d1:ct.drop i=ct[i]'sO::ct.drop (i+1):=YY sO
  have d2:drop.drop i=drop[i]'(by omega)::drop.drop (i+1):=YY (by omega)
  have c0: ¬((i:Int)=(ct.length:Int)):=by omega
  have w1:wr ((i:Int)+1)=((i+1:Nat):Int):=gH (by omega)
  have m0:i<cT:=by unfold cT;omega
  rw[d1,d2]at hb |-
  generalize ct[i]'sO=y at x1 hb |-
  unfold f267r
  simp only[c0,dX,dj,cj x3,cj x2,cK,w1,oH]
  generalize drop[i]'(by omega)=b at x2 hb |-
  cases b with
  |true=>
   simp only[ways,cS]at hb |-
   have ht:(l.set i ⟨0,0⟩).take (i+1)=l.take i++[⟨0,0⟩]:=jV (by omega)
   obtain⟨l',a1,a2,a3⟩:=f267_eq a s ct drop hn hd rem fu (i+1) all (l.set i ⟨0,0⟩) (by simpa using hl) (by omega) (by omega) (by rw[ht];exact hb)
   rw[ht]at a2 a3
   refine⟨l',by simpa using a1,?_,by simp only[a3,cK]⟩
   have:=fA (List.take i) a2
   rw[RM,Oh (by omega),Uk (by simp;omega)]at this
   exact this
  |false=>
   simp only[ways,dj]at hb |-
   simp only[cj x1,cK,dg m0,f124_eq]
   have CQ:=AD a (wr (y.bY+s))
   generalize hP:eD a (wr (y.bY+s))=P at hb CQ |-
   obtain⟨P,e⟩:=P
   simp only at hb CQ |-
   by_cases he:e=0
   ·subst he
    simp only[pU,tt,dX,dj]at hb |-
    have aal:(l.set i ⟨0,0⟩).take i=l.take i:=by rw[Y6 (eF i)]
    have hW:=λk=>(Qt k P).symm
    let W:=λ(Q:List aW)=>(Q.filter λp=>!((l.take i).any (lM p.bt))).flatMap λp=>ways a s (ct.drop (i+1)) (drop.drop (i+1)) (l.take i++[p])
    have aam: ∀k,(W (P.take k)).length<=(W P).length:=λk=>by
     have:W P=W (P.take k)++W (P.drop k):=by
      show W P=_
      rw[<-XF,<-Dq,Qt]
     rw[this,jW];omega
    have hb:all.length+(W P).length<=4000000:=hb
    have key:=j7 (body:=λ((ln,vF,Nt):(List aW×List (List aW)×Int))=>bif (decide (Nt<(P.length:Int)))then((((ix P Nt).bind λUK=>cu (0<=(i:Int))<|cu (i<=ln.length)<|cu (0+i<=ln.length)<|(f223 (ln.take i) UK.bt).bind λr17=>bif (!r17)then((ix ln (i:Int)).bind λy19=>(f267r fu ((i+1:Nat):Int) ct vF (ln.set i UK) drop a s).bind λr20=>some (r20.2,r20.1))else(some (ln,vF))):Option (List aW×List (List aW))).bind λ((Kj,Kk):(List aW×List (List aW)))=>some (.inl (Kj,Kk,(wr (Nt+1)))))else(some (.inr (vF,ln))))
     (λk(st:List aW×List (List aW)×Int)=>st.2.2=(k:Int)/\st.1.length=l.length/\st.1.take i=l.take i/\st.2.1=all++W (P.take k)) (λr=>r.1=all++W P/\r.2.length=l.length/\r.2.take i=l.take i) P.length (s0:=(l.set i ⟨0,0⟩,all,0)) (by omega) ⟨rfl,by simp,aal,by simp[W]⟩ ?_ ?_
    ·obtain⟨⟨r1,r2⟩,k1,k2,k3,k4⟩:=key
     simp only at k2 k3 k4
     refine⟨r2,k3,k4,?_⟩
     simp only[k1,cK,k2]
     rfl
    ·rintro k ⟨q1,q2,q3⟩ hk ⟨e1,e2,e3,e4⟩
     simp only at e1 e2 e3 e4
     subst e1;subst e4
     have g1:P[k]? =some (P[k]'hk):=dH _
     generalize P[k]'hk=p at g1
     have hsP:bU P:=by simp only[bU];omega
     have n1:(0:Int)<=(i:Int):=by omega
     have n2:i<=q1.length:=by omega
     have n3:0+i<=q1.length:=by omega
     have g3:q1[i]? =some (q1[i]'(by omega)):=dH _
     have hW1:W (P.take (k+1))=W (P.take k)++W [p]:=by
      show W _=_
      rw[cQ g1,<-XF,<-Dq]
     simp only[cJ g1,cS,cj g1,cK,dI hsP g1,dg n1,dg n2,dg n3,e3,f223_eq _ _ (show bU (l.take i)by simp only[bU,DB];omega)]
     cases hA:(l.take i).any (lM p.bt)
     ·have Yp:W [p]=ways a s (ct.drop (i+1)) (drop.drop (i+1)) (l.take i++[p]):=by
       show List.flatMap _ (List.filter _ [p])=_
       simp[hA]
      have ht:(q1.set i p).take (i+1)=l.take i++[p]:=by rw[jV (by omega),e3]
      have eE:=aam (k+1)
      rw[hW1,jW,Yp]at eE
      obtain⟨l',a1,a2,a3⟩:=f267_eq a s ct drop hn hd rem fu (i+1) (all++W (P.take k)) (q1.set i p) (by simp;omega) (by omega) (by omega) (by rw[ht,jW];omega)
      rw[ht]at a2 a3
      simp only[Hz,cS,cj g3,cK,a3]
      refine .inl ⟨_,rfl,rfl,?_,?_,?_⟩
      ·show l'.length=l.length;rw[a1];simp[e2]
      ·have:=fA (List.take i) a2
       rw[RM,Oh (by omega),Uk (by simp;omega)]at this
       exact this
      ·show _=all++W (P.take (k+1))
       rw[hW1,Yp,DC]
     ·have Yp:W [p]=[]:=by
       show List.flatMap _ (List.filter _ [p])=_
       simp[hA]
      simp only[p8,dj,cK]
      refine .inl ⟨_,rfl,rfl,e2,e3,?_⟩
      show _=all++W (P.take (k+1))
      rw[hW1,Yp,xa]
    ·rintro⟨q1,q2,q3⟩ ⟨e1,e2,e3,e4⟩
     simp only at e1 e2 e3 e4
     subst e1;subst e4
     simp only[ky,dX,dj]
     exact⟨_,rfl,by simp,e2,e3⟩
   ·simp only[pU,he,Hw,gp,cS,xa]at hb |-
    exact⟨l.set i ⟨0,0⟩,by simp,by rw[Y6 (eF i)],rfl⟩
theorem f220_ex(a:bK)(s:Int)(ct:List bx)(drop:List Bool)(hn:ct.length<=4000)(hd:drop.length=ct.length)(hw:(ways a s ct drop []).length<=4000000)
  (WM: ∃r,f269 (ways a s ct drop [])=some r/\r.Perm (ways a s ct drop [])): ∃r,f220 a ct drop s=some r/\r.Perm (ways a s ct drop []):=by
 unfold f220
 have n1:(0:Int)<=(ct.length:Int):=by omega
 have n2:(ct.length:Int)<=(bJ:Int):=by unfold bJ;omega
 obtain⟨l',_,_,h3⟩:=f267_eq a s ct drop hn hd ct.length cz 0 [] (List.replicate ct.length ⟨0,0⟩) (by simp) (by omega) (by unfold cz;omega) (by simpa using hw)
 have h3:f267 0 ct [] (List.replicate ct.length ⟨0,0⟩) drop a s=some ([]++ways a s (ct.drop 0) (drop.drop 0) ((List.replicate ct.length (⟨0,0⟩:aW)).take 0),l'):=h3
 simp only[XC,RL,rN]at h3
 obtain⟨r,h4,h5⟩:=WM
 simp only[dg n1,dg n2,oH,h3,cK,h4,dg h5.length_eq]
 exact⟨r,rfl,h5⟩
open Go.Sort
theorem Nu(a b:Int):decide (pX a b<0)=decide (a<b):=by
 unfold pX
 by_cases h1:a<b
 ·simp[h1]
 ·by_cases h2:b<a<;>simp[h1,h2]
theorem Nv{α:Type}{k:α->Int}{fg:α->α->Option Int}{x y:α}(h:fg x y=some (pX (k x) (k y))):fJ fg x y=decide (k x<k y):=by
 unfold fJ
 rw[h]
 exact Nu _ _
theorem BG{α:Type}[DecidableEq α](k:α->Int)(fg:α->α->Option Int)(l:List α)(hg: ∀x∈l,∀y∈l,fg x y=some (pX (k x) (k y)))(hs:bU l)(hd: ∀x∈l,∀y∈l,k x=k y->x=y):
  ∃r,sA fg l=some r/\r.Perm l/\r.Pairwise λx y=>k x<=k y:=by
 have gq: ∀x∈l,∀y∈l,fJ fg x y=decide (k x<k y):=λx hx y hy=>Nv (hg x hx y hy)
 obtain⟨r,h1,h2,h3⟩:=Nw (fg:=fg) (l:=l) ⟨hs,λx hx y hy=>by rw[hg x hx y hy];rfl,λx hx=>by rw[gq x hx x hx];simp,
  λx hx y hy z hz a b=>by rw[gq x hx y hy]at a;rw[gq y hy z hz]at b;rw[gq x hx z hz];simp at *;omega,
  λx hx y hy z hz a b=>by rw[gq x hx y hy]at a;rw[gq y hy z hz]at b;rw[gq x hx z hz];simp at *;omega,
  λx hx y hy a b=>by rw[gq x hx y hy]at a;rw[gq y hy x hx]at b;simp at a b;exact hd x hx y hy (by omega)⟩
 refine⟨r,h1,h2,?_⟩
 rw[DD]at h3 |-
 intro i j hi hj oT
 have:=h3 i j hi hj oT
 rw[gq _ (h2.mem_iff.1 (va hj)) _ (h2.mem_iff.1 (va hi))]at this
 simp at this
 omega
theorem BH{α:Type}[DecidableEq α](k:α->Int)(fg:α->α->Option Int)(hg: ∀x y,fg x y=some (pX (k x) (k y)))(l:List α)(hs:bU l)(hd: ∀x∈l,∀y∈l,k x=k y->x=y):
 ∃r,sA fg l=some r/\r.Perm l/\r.Pairwise λx y=>k x<=k y:=BG k fg l (λx _ y _=>hg x y) hs hd
theorem f225_eq(p q:aW):f225 p q=some (pX p.bt q.bt):=by unfold f225;rw[f104_eq];rfl
theorem f166_eq(p q:cW):f166 p q=some (pX p.bt q.bt):=by unfold f166;rw[f104_eq];rfl
theorem f90_eq(l:List Int)(h:bU l):f90 l=some (kr l):=by
 unfold f90;rw[dD h]
def lq(e:Int)(pl:List aW)(x:bx×Bool):Bool:=
 !(x.2&&decide (x.1.bQ.cy=0)&&!(pl.any (lM x.1.bQ.bt)))&&(!(!x.2&&pl.any (lM x.1.bQ.bt))&&!(!x.2&&decide (0<x.1.bQ.cy)&&decide (15<wr (e-x.1.de))))
theorem BI{α β:Type}{l:List α}{m:List β}{k:Nat}{a:α}{b:β}(h1:l[k]? =some a)(h2:m[k]? =some b):(l.zip m)[k]? =some (a,b):=Y7.2 ⟨h1,h2⟩
theorem f222_eq(d:cP)(c:bV)(dW:List bx)(hl:c.cut.length=dW.length)(hs:bU dW)(hp:bU c.places):f222 d c dW=some ((dW.zip c.cut).all (lq (d.bM.bG.length:Int) c.places)):=by
 have nN:dW.length<=4194304:=hs
 have key: ∃o,f222 d c dW=some o/\o=(dW.zip c.cut).all (lq (d.bM.bG.length:Int) c.places):=by
  unfold f222
  refine eK (λk(s:Int)=>s=(k:Int)/\((dW.zip c.cut).take k).all (lq (d.bM.bG.length:Int) c.places)=true) (λo=>match o with
   |.inl _=>(dW.zip c.cut).all (lq (d.bM.bG.length:Int) c.places)=true
   |.inr b=>b=false/\(dW.zip c.cut).all (lq (d.bM.bG.length:Int) c.places)=false) dW.length nN ⟨rfl,by simp⟩ ?_ ?_ ?_
  ·rintro k s hk ⟨rfl,hi⟩
   have e1:dW[k]? =some (dW[k]'hk):=dH _
   have e2:c.cut[k]? =some (c.cut[k]'(by omega)):=dH _
   generalize dW[k]'hk=n at e1
   generalize c.cut[k]'(by omega)=b at e2
   have e3:=BI e1 e2
   have hT:lq (d.bM.bG.length:Int) c.places (n,b)=false->(dW.zip c.cut).all (lq (d.bM.bG.length:Int) c.places)=false:=λh=>by
    rw[Y8]
    exact⟨(n,b),gz e3,by rw[h];simp⟩
   have hN:lq (d.bM.bG.length:Int) c.places (n,b)=true->((dW.zip c.cut).take (k+1)).all (lq (d.bM.bG.length:Int) c.places)=true:=λh=>by
    rw[cQ e3,List.all_append,hi]
    simp[h]
   simp only[cJ e1,cS,cj e1,cj e2,cK,dI hs e1,f223_eq _ _ hp]
   unfold lq at hT hN
   simp only at hT hN
   generalize c.places.any (lM n.bQ.bt)=t at hT hN |-
   generalize decide (n.bQ.cy=0)=z at hT hN |-
   generalize decide (0<n.bQ.cy)=z2 at hT hN |-
   generalize decide (15<wr ((d.bM.bG.length:Int)-n.de))=z3 at hT hN |-
   cases b<;>cases t<;>cases z<;>cases z2<;>cases z3<;>first|exact .inl ⟨_,rfl,rfl,hN rfl⟩|exact .inr ⟨_,rfl,rfl,hT rfl⟩
  ·rintro s ⟨rfl,hi⟩
   simp only[ky,dX,dj]
   refine⟨_,rfl,?_⟩
   rw[sG (by simp;omega)]at hi
   exact hi
  ·intro o ho
   cases o with
   |inl _=>exact⟨true,rfl,ho.symm⟩
   |inr b=>obtain⟨rfl,h⟩:=ho;exact⟨false,rfl,h.symm⟩
 obtain⟨o,h1,h2⟩:=key
 rw[h1,h2]
def l7(x:bx×Bool):Bool:=!x.2&&decide (0<x.1.bQ.cy)
def ni(dW:List bx)(cut:List Bool):List bx:=((dW.zip cut).filter l7).map (·.1)
def oz(c:bV)(dW:List bx):List aW:=(ni dW c.cut).map (·.bQ)++c.places.filter λp=>decide (0<p.cy)
def wB(d:cP)(c:bV):List Int:=(c.places.filter λp=>!decide (0<p.cy)&&decide (0<p.bt)).map (·.bt)++d.dB.di.filter λx=>!(c.places.any (lM x))
theorem f160_ex(d:cP)(hd:kb d.dB)(c:bV)(dW:List bx)(hl:c.cut.length=dW.length)(hs:dW.length<=100000)(hp:c.places.length<=100000)(ho:d.dB.di.length<=100000)
  (WN: ∀x∈oz c dW,∀y∈oz c dW,x.bt=y.bt->x=y):
  ∃x,f160 d c dW=some x/\(x.cG.Perm (oz c dW)/\(x.cG.Pairwise λp q=>p.bt<=q.bt)/\x.held=kr ((ni dW c.cut).map (·.bQ.bt))/\x.di=kr (wB d c)):=by
 unfold f160
 refine eK (λk(s:List aW×List Int×Int)=>s.2.2=(k:Int)/\s.1=((((dW.zip c.cut).take k).filter l7).map (·.1)).map (·.bQ)/\s.2.1=((((dW.zip c.cut).take k).filter l7).map (·.1)).map (·.bQ.bt))
  (λr=>r.1=(ni dW c.cut).map (·.bQ)/\r.2=(ni dW c.cut).map (·.bQ.bt)) dW.length (by omega) ⟨rfl,by simp,by simp⟩ ?_ ?_ ?_
 ·rintro k ⟨s1,s2,s3⟩ hk ⟨e0,e1,e2⟩
  simp only at e0 e1 e2
  subst e0;subst e1;subst e2
  have x1:dW[k]? =some (dW[k]'hk):=dH _
  have x2:c.cut[k]? =some (c.cut[k]'(by omega)):=dH _
  generalize dW[k]'hk=n at x1
  generalize c.cut[k]'(by omega)=b at x2
  have x3:=BI x1 x2
  have dA:(((dW.zip c.cut).take k).filter l7).length<=k:=by
   have:=sq l7 ((dW.zip c.cut).take k)
   simp only[DB]at this
   omega
  have m1:((((dW.zip c.cut).take k).filter l7).map (·.1)).length+1<=bJ:=by simp only[mB];unfold bJ;omega
  have m2:(((((dW.zip c.cut).take k).filter l7).map (·.1)).map λx:bx=>x.bQ).length+1<=bJ:=by simp only[mB];unfold bJ;omega
  have m3:(((((dW.zip c.cut).take k).filter l7).map (·.1)).map λx:bx=>x.bQ.bt).length+1<=bJ:=by simp only[mB];unfold bJ;omega
  simp only[cJ x1,cS,cj x1,cj x2,cK,dI (l:=dW) (by simp only[bU];omega) x1,dg m2,dg m3]
  have hf:l7 (n,b)=(!b&&decide (0<n.bQ.cy)):=rfl
  have ht:((dW.zip c.cut).take (k+1)).filter l7=((dW.zip c.cut).take k).filter l7++(bif l7 (n,b)then [(n,b)]else []):=by
   rw[cQ x3,Dq]
   cases hq:l7 (n,b)<;>simp[hq]
  cases b
  ·simp only[Hz,cS,cK]
   cases hz:decide (0<n.bQ.cy)
   ·simp only[dj,cK]
    refine .inl ⟨_,rfl,rfl,?_,?_⟩<;>rw[ht,hf,hz]<;>simp
   ·simp only[cS,cK]
    refine .inl ⟨_,rfl,rfl,?_,?_⟩<;>rw[ht,hf,hz]<;>simp
  ·simp only[p8,dj,cK]
   refine .inl ⟨_,rfl,rfl,?_,?_⟩<;>rw[ht,hf]<;>simp
 ·rintro⟨s1,s2,s3⟩ ⟨e0,e1,e2⟩
  simp only at e0 e1 e2
  subst e0;subst e1;subst e2
  simp only[ky,dX,dj]
  have ht:(dW.zip c.cut).take dW.length=dW.zip c.cut:=sG (by simp;omega)
  refine⟨_,rfl,?_,?_⟩<;>rw[ht]<;>rfl
 rintro⟨D1,H1⟩ ⟨e1,e2⟩
 simp only at e1 e2
 subst e1;subst e2
 have hk1:(ni dW c.cut).length<=100000:=by
  unfold ni
  have:=sq l7 (dW.zip c.cut)
  simp only[List.length_zip,mB]at this |-
  omega
 refine eK (λk(s:List aW×List Int×Int)=>s.2.2=(k:Int)/\s.1=(ni dW c.cut).map (·.bQ)++(c.places.take k).filter (λp=>decide (0<p.cy))/\s.2.1=((c.places.take k).filter λp=>!decide (0<p.cy)&&decide (0<p.bt)).map (·.bt))
  (λr=>r.1=oz c dW/\r.2=(c.places.filter λp=>!decide (0<p.cy)&&decide (0<p.bt)).map (·.bt)) c.places.length (by omega) ⟨rfl,by simp,by simp⟩ ?_ ?_ ?_
 ·rintro k ⟨s1,s2,s3⟩ hk ⟨e0,e1,e2⟩
  simp only at e0 e1 e2
  subst e0;subst e1;subst e2
  have x1:c.places[k]? =some (c.places[k]'hk):=dH _
  generalize c.places[k]'hk=p at x1
  have l1:=sq (λp:aW=>decide (0<p.cy)) (c.places.take k)
  have l2:=sq (λp:aW=>!decide (0<p.cy)&&decide (0<p.bt)) (c.places.take k)
  simp only[DB]at l1 l2
  have m1:((ni dW c.cut).map (λx:bx=>x.bQ)++(c.places.take k).filter (λp=>decide (0<p.cy))).length+1<=bJ:=by simp only[jW,mB];unfold bJ;omega
  have m2:(((c.places.take k).filter λp=>!decide (0<p.cy)&&decide (0<p.bt)).map (λx:aW=>x.bt)).length+1<=bJ:=by simp only[mB];unfold bJ;omega
  simp only[cJ x1,cS,cj x1,cK,dI (l:=c.places) (by simp only[bU];omega) x1,dg m1,dg m2]
  have ht1:(c.places.take (k+1)).filter (λp=>decide (0<p.cy))=(c.places.take k).filter (λp=>decide (0<p.cy))++(bif decide (0<p.cy)then [p]else []):=by
   rw[cQ x1,Dq]
   cases hq:decide (0<p.cy)<;>simp at hq<;>simp[hq]
  have zV:(c.places.take (k+1)).filter (λp=>!decide (0<p.cy)&&decide (0<p.bt))=(c.places.take k).filter (λp=>!decide (0<p.cy)&&decide (0<p.bt))++(bif (!decide (0<p.cy)&&decide (0<p.bt))then [p]else []):=by
   rw[cQ x1,Dq]
   cases hq:(!decide (0<p.cy)&&decide (0<p.bt))<;>simp[Qv,hq]
  cases hz:decide (0<p.cy)
  ·cases Gl:decide (0<p.bt)
   ·simp only[dj,cK]
    refine .inl ⟨_,rfl,rfl,?_,?_⟩
    ·show _=_++List.filter _ (List.take (k+1) _);rw[ht1,hz];simp
    ·show _=List.map _ (List.filter _ (List.take (k+1) _));rw[zV,hz,Gl];simp
   ·simp only[dj,cS,cK]
    refine .inl ⟨_,rfl,rfl,?_,?_⟩
    ·show _=_++List.filter _ (List.take (k+1) _);rw[ht1,hz];simp
    ·show _=List.map _ (List.filter _ (List.take (k+1) _));rw[zV,hz,Gl];simp
  ·simp only[cS,cK]
   refine .inl ⟨_,rfl,rfl,?_,?_⟩
   ·show _=_++List.filter _ (List.take (k+1) _);rw[ht1,hz];simp
   ·show _=List.map _ (List.filter _ (List.take (k+1) _));rw[zV,hz];simp
 ·rintro⟨s1,s2,s3⟩ ⟨e0,e1,e2⟩
  simp only at e0 e1 e2
  subst e0;subst e1;subst e2
  simp only[ky,dX,dj]
  refine⟨_,rfl,?_,?_⟩<;>rw[AL]<;>rfl
 rintro⟨D2,O2⟩ ⟨e1,e2⟩
 simp only at e1 e2
 subst e1;subst e2
 have l2:=sq (λp:aW=>!decide (0<p.cy)&&decide (0<p.bt)) c.places
 refine eK (λk(s:List Int×Int)=>s.2=(k:Int)/\s.1=(c.places.filter λp=>!decide (0<p.cy)&&decide (0<p.bt)).map (·.bt)++(d.dB.di.take k).filter λx=>!(c.places.any (lM x))) (λr=>r=wB d c) d.dB.di.length (by omega) ⟨rfl,by simp⟩ ?_ ?_ ?_
 ·rintro k ⟨s1,s2⟩ hk ⟨e0,e1⟩
  simp only at e0 e1
  subst e0;subst e1
  have x1:d.dB.di[k]? =some (d.dB.di[k]'hk):=dH _
  generalize d.dB.di[k]'hk=x at x1
  have l3:=sq (λx:Int=>!(c.places.any (lM x))) (d.dB.di.take k)
  simp only[DB]at l3
  have m1:((c.places.filter λp=>!decide (0<p.cy)&&decide (0<p.bt)).map (λx:aW=>x.bt)++(d.dB.di.take k).filter λx=>!(c.places.any (lM x))).length+1<=bJ:=by
   simp only[jW,mB];unfold bJ;omega
  simp only[cJ x1,cS,cj x1,cK,dI (l:=d.dB.di) (by simp only[bU];omega) x1,f223_eq c.places x (by simp only[bU];omega),dg m1]
  have ht:(d.dB.di.take (k+1)).filter (λx=>!(c.places.any (lM x)))=(d.dB.di.take k).filter (λx=>!(c.places.any (lM x)))++(bif !(c.places.any (lM x))then [x]else []):=by
   rw[cQ x1,Dq]
   cases hq:(!(c.places.any (lM x)))<;>simp[Qv,hq]
  cases hz:c.places.any (lM x)
  ·refine .inl ⟨_,rfl,rfl,?_⟩
   show _=_++List.filter _ (List.take (k+1) _);rw[ht,hz];simp
  ·refine .inl ⟨_,rfl,rfl,?_⟩
   show _=_++List.filter _ (List.take (k+1) _);rw[ht,hz];simp
 ·rintro⟨s1,s2⟩ ⟨e0,e1⟩
  simp only at e0 e1
  subst e0;subst e1
  simp only[ky,dX,dj]
  refine⟨_,rfl,?_⟩
  rw[AL];rfl
 rintro O3 rfl
 have hD:(oz c dW).length<=300000:=by
  unfold oz
  have:=sq (λp:aW=>decide (0<p.cy)) c.places
  simp only[jW,mB];omega
 have hO:(wB d c).length<=300000:=by
  unfold wB
  have:=sq (λx:Int=>!(c.places.any (lM x))) d.dB.di
  simp only[jW,mB];omega
 obtain⟨r,h1,h2,h3⟩:=BH aW.bt f225 f225_eq (oz c dW) (by simp only[bU];omega) WN
 have s1:bU ((ni dW c.cut).map λx:bx=>x.bQ.bt):=by simp only[bU,mB];omega
 have s2:bU (wB d c):=by simp only[bU];omega
 have l4:=ou ((ni dW c.cut).map λx:bx=>x.bQ.bt)
 have l5:=ou (wB d c)
 unfold f224
 simp only[h1,cK,dg h2.length_eq,f90_eq _ s1,dg l4,f90_eq _ s2,dg l5]
 exact⟨_,rfl,h2,h3,rfl,rfl⟩
theorem f221_eq(l:List Bool)(h:bU l):f221 l=some l:=by
 unfold f221
 by_cases c:l=[]
 ·subst c;simp
 ·have:l.length<=bJ:=by simp only[bU]at h;unfold bJ;omega
  rw[show l.isEmpty=false from by simpa using c];simp[dg this]
structure l8 (d:cP) (dW:List bx) (c:bV) (x:bS) (g:List cr):Prop where
 ten:(dW.zip c.cut).all (lq (d.bM.bG.length:Int) c.places)=true
 cho:f160 d c dW=some x
 rea:f161 d x=some g
structure IG (d:cP) (dW:List bx) (c:bV):Prop where
 cut:c.cut.length=dW.length
 pl:c.places.length<=100000
 DP:(dW.zip c.cut).all (lq (d.bM.bG.length:Int) c.places)=true-> ∀x∈oz c dW,∀y∈oz c dW,x.bt=y.bt->x=y
theorem f160_small(d:cP)(c:bV)(dW:List bx)(hs:dW.length<=100000)(hp:c.places.length<=100000)(ho:d.dB.di.length<=100000){x:bS}
  (h:x.cG.Perm (oz c dW)/\(x.cG.Pairwise λp q=>p.bt<=q.bt)/\x.held=kr ((ni dW c.cut).map (·.bQ.bt))/\x.di=kr (wB d c)):kb x:=by
 have hk1:(ni dW c.cut).length<=100000:=by
  unfold ni
  have:=sq l7 (dW.zip c.cut)
  simp only[List.length_zip,mB]at this |-
  omega
 obtain⟨h1,_,h3,h4⟩:=h
 refine⟨?_,?_,?_⟩
 ·have:=h1.length_eq
  unfold oz at this
  have l1:=sq (λp:aW=>decide (0<p.cy)) c.places
  simp only[jW,mB]at this
  simp only[bU];omega
 ·simp only[bU,h3,ou,mB];omega
 ·have l1:=sq (λx:Int=>!(c.places.any (lM x))) d.dB.di
  have l2:=sq (λp:aW=>!decide (0<p.cy)&&decide (0<p.bt)) c.places
  simp only[bU,h4,ou,wB,jW,mB];omega
theorem EO {R : Type} (B : List Bool → Option (R ⊕ Unit)) (F : List Bool → R → Prop) (N : List Bool → Prop) : ∀ L : List (List Bool), (∀ l ∈ L, ∃ o, B l = some o ∧ (match o with | .inl r => F l r | .inr _ => N l)) →
    ∃ o, kG B L = some o ∧ (match o with | .inl r => ∃ l ∈ L, F l r | .inr _ => ∀ l ∈ L, N l)
  | [], _ => ⟨_, rfl, by simp⟩
  | l :: L, h => by
    obtain ⟨o, h1, h2⟩ := h l (by simp)
    simp only [kG, h1]
    cases o with
    | inl r => exact ⟨_, rfl, l, by simp, h2⟩
    | inr _ =>
      obtain ⟨o, h3, h4⟩ := EO B F N L fun l hl => h l (by simp [hl])
      refine ⟨o, h3, ?_⟩
      cases o with
      | inl r => obtain ⟨l', a, b⟩ := h4; exact ⟨l', by simp [a], b⟩
      | inr _ => intro l' uT; simp at uT; rcases uT with rfl | uT
                 · exact h2
                 · exact h4 l' uT
theorem rB: ∀(k m:Nat)l,l∈eY k m->l.length=k
 |0,0,l,h=>by simp[eY]at h;subst h;rfl
 |0,m+1,l,h=>by simp[eY]at h
 |k+1,0,l,h=>by
  simp[eY]at h
  obtain⟨x,h1,rfl⟩:=h
  simp[rB k 0 x h1]
 |k+1,m+1,l,h=>by
  simp[eY]at h
  rcases h with⟨x,h1,rfl⟩|⟨x,h1,rfl⟩
  ·simp[rB k (m+1) x h1]
  ·simp[rB k m x h1]
theorem px{n:Nat}{l:List Bool}(h:l∈lj n):l.length=n:=by
 unfold lj at h
 obtain⟨m,_,h2⟩:=sF.1 h
 exact rB n m l h2
theorem IH{R:Type}(B:List Bool->Option (Unit⊕(R⊕Unit)))(F:List Bool->R->Prop)(N S:List Bool->Prop): ∀L:List (List Bool),(∀l∈L,∃o,B l=some o/\(match o with|.inl _=>S l|.inr (.inl r)=>F l r|.inr (.inr _)=>N l))->
  ∃o,pq B L=some o/\(match o with
   |.inl _=> ∃a l b,L=a++l::b/\S l/\ ∀x∈a,N x
   |.inr (.inl r)=> ∃l∈L,F l r
   |.inr (.inr _)=> ∀l∈L,N l)
 | [],_=>⟨_,rfl,by simp⟩
 |l::L,h=>by
  obtain⟨o,h1,h2⟩:=h l (by simp)
  simp only[pq,h1]
  rcases o with u|r|u
  ·exact⟨_,rfl,[],l,L,rfl,h2,by simp⟩
  ·exact⟨_,rfl,l,by simp,h2⟩
  ·obtain⟨o,h3,h4⟩:=IH B F N S L λl hl=>h l (by simp[hl])
   refine⟨o,h3,?_⟩
   rcases o with u|r|u
   ·obtain⟨a,x,b,k1,k2,k3⟩:=h4
    refine⟨l::a,x,b,by rw[k1];rfl,k2,λy hy=>?_⟩
    simp at hy
    rcases hy with rfl|hy
    ·exact h2
    ·exact k3 y hy
   ·obtain⟨l',a,b⟩:=h4;exact⟨l',by simp[a],b⟩
   ·intro l' uT;simp at uT;rcases uT with rfl|uT
    ·exact h2
    ·exact h4 l' uT
section
variable (d:cP) (hd:EN d) (dW:List bx) (hu:dW.length<=100000) (ho:d.dB.di.length<=100000) (e6:bV) (e7:bS) (e8:List cr) (e9:Bool) (ct:List bx)
include hd hu ho
theorem f350_ex(c:bV)(hc:IG d dW c)(ht:(dW.zip c.cut).all (lq (d.bM.bG.length:Int) c.places)=true): ∃o,f350 d dW e6 e7 e8 e9 ct dW c=some o/\(match o with
  |.inl r=>l8 d dW c r.2 r.1/\r.1≠[]
  |.inr _=> ∃x,l8 d dW c x []):=by
 unfold f350
 obtain⟨x,h1,h2⟩:=f160_ex d hd.ch c dW hc.cut hu hc.pl ho (hc.DP ht)
 obtain⟨g,h3,_⟩:=f161_ex d hd x (f160_small d c dW hu hc.pl ho h2)
 simp only[h1,cK,h3]
 by_cases hg:g=[]
 ·subst hg
  exact⟨_,rfl,x,ht,h1,h3⟩
 ·have c1:(0:Int)<(g.length:Int):=by
   have:=RO.2 hg;omega
  simp only[c1,gp,cS]
  exact⟨_,rfl,⟨ht,h1,h3⟩,hg⟩
theorem f349_ex(al:List (List aW))(Kl:bU al)(cut:List Bool)(GS:cut.length=dW.length)(hc: ∀pl∈al,IG d dW ⟨pl,cut⟩)(e0 e31:Int): ∃o,f349 ct d dW dW e6 e7 e8 e9 al e0 e31 cut=some o/\(match o with
  |.inl r=>r.2.2.places∈al/\r.2.2.cut=cut/\l8 d dW r.2.2 r.2.1 r.1/\r.1≠[]
  |.inr _=> ∀pl∈al,(dW.zip cut).all (lq (d.bM.bG.length:Int) pl)=true-> ∃x,l8 d dW ⟨pl,cut⟩ x []):=by
 have aan:al.length<=4194304:=Kl
 unfold f349
 refine eK (λk(s:Int)=>s=(k:Int)/\ ∀pl∈al.take k,(dW.zip cut).all (lq (d.bM.bG.length:Int) pl)=true-> ∃x,l8 d dW ⟨pl,cut⟩ x []) (λo=>match o with
  |.inl _=> ∀pl∈al,(dW.zip cut).all (lq (d.bM.bG.length:Int) pl)=true-> ∃x,l8 d dW ⟨pl,cut⟩ x []
  |.inr (.inl r)=>r.2.2.places∈al/\r.2.2.cut=cut/\l8 d dW r.2.2 r.2.1 r.1/\r.1≠[]
  |.inr (.inr _)=>False) al.length aan ⟨rfl,by simp⟩ ?_ ?_ ?_
 ·rintro k s hk ⟨rfl,hi⟩
  have e1:al[k]? =some (al[k]'hk):=dH _
  generalize al[k]'hk=pl at e1
  have hm:=gz e1
  have Dj:=hc pl hm
  have v8:=Dj.pl
  simp only at v8
  simp only[cJ e1,cS,cj e1,cK,dI Kl e1,f221_eq cut (by simp only[bU];omega),f222_eq d ⟨pl,cut⟩ dW GS (by simp only[bU];omega) (by simp only[bU];omega)]
  cases ht:(dW.zip cut).all (lq (d.bM.bG.length:Int) pl)
  ·refine .inl ⟨_,rfl,rfl,λp hp h=>?_⟩
   rw[cQ e1,lr]at hp
   rcases hp with hp|hp
   ·exact hi p hp h
   ·simp at hp;subst hp
    rw[ht]at h;cases h
  ·obtain⟨o,h1,h2⟩:=f350_ex d hd dW hu ho e6 e7 e8 e9 ct ⟨pl,cut⟩ Dj ht
   simp only[cS,h1,cK]
   cases o with
   |inl r=>exact .inr ⟨_,rfl,hm,rfl,h2.1,h2.2⟩
   |inr _=>
    refine .inl ⟨_,rfl,rfl,λp hp h=>?_⟩
    rw[cQ e1,lr]at hp
    rcases hp with hp|hp
    ·exact hi p hp h
    ·simp at hp;subst hp
     exact h2
 ·rintro s ⟨rfl,hi⟩
  simp only[ky,dX,dj]
  exact⟨_,rfl,λp hp=>hi p (by simpa using hp)⟩
 ·intro o h
  rcases o with u|r|u
  ·exact⟨_,rfl,h⟩
  ·exact⟨_,rfl,h⟩
  ·exact h.elim
theorem f348_ex(drop:List Bool)(pZ:ct.length<=4000)(FL:drop.length=ct.length)(hun:dW.length<=4194303)(e0:Int)(al:List (List aW))(Kl:f220 d.kx ct drop d.shift=some al)(AA:bU al)(hc: ∀cut,cut.length=dW.length-> ∀pl∈al,IG d dW ⟨pl,cut⟩):
  ∃o,f348 ct d dW dW e6 e7 e8 e9 e0 drop=some o/\(match o with
  |.inl _=>drop.all (λb=>b)=true
  |.inr (.inl r)=>(drop.all λb=>b)=false/\r.2.2.places∈al/\r.2.2.cut.length=dW.length/\l8 d dW r.2.2 r.2.1 r.1/\r.1≠[]
  |.inr (.inr _)=> ∀pl∈al,∀cut∈lj dW.length,(dW.zip cut).all (lq (d.bM.bG.length:Int) pl)=true-> ∃x,l8 d dW ⟨pl,cut⟩ x []):=by
 have hD:f69 drop false=some (drop.any λb=>!b):=by
  unfold f69 f134
  rw[ey drop (λb=>!b) (λi _=>(i:Int)) (by simp only[bU];omega)]
  ·simp only[cK,fC]
   rw[<-gb]
   unfold gG
   cases drop.findIdx? _<;>simp
  ·intro i y hy
   simp only[cJ hy,cS,cj hy,cK]
   cases y<;>rfl
  ·simp
 unfold f348
 simp only[hD,cK]
 cases hz:drop.any λb=>!b
 ·refine⟨_,rfl,?_⟩
  simp only[KA,pT]at hz |-
  intro b hb
  have:=hz b hb
  simpa using this
 ·simp only[p8,dj,Kl,cK,f219]
  obtain⟨o,h1,h2⟩:=EO (f349 ct d dW dW e6 e7 e8 e9 al e0 (dW.length:Int)) (λl r=>r.2.2.places∈al/\r.2.2.cut=l/\l8 d dW r.2.2 r.2.1 r.1/\r.1≠[])
   (λl=> ∀pl∈al,(dW.zip l).all (lq (d.bM.bG.length:Int) pl)=true-> ∃x,l8 d dW ⟨pl,l⟩ x []) (lj dW.length) λl hl=>by
    have P4:=px hl
    obtain⟨o,a1,a2⟩:=f349_ex d hd dW hu ho e6 e7 e8 e9 ct al AA l P4 (hc l P4) e0 (dW.length:Int)
    refine⟨o,a1,?_⟩
    rcases o with r|u
    ·exact a2
    ·exact a2
  have h3:=f265_1_eq ct d dW dW e6 e7 e8 e9 al e0 dW.length hun o h1
  simp only[h3,cK]
  cases o with
  |inl r=>
   obtain⟨l,k1,k2,k3,k4⟩:=h2
   refine⟨_,rfl,?_,k2,by rw[k3];exact px k1,k4⟩
   rw[Y8]
   obtain⟨b,hb,hn⟩:=vV.1 hz
   exact⟨b,hb,by simpa using hn⟩
  |inr _=>exact⟨_,rfl,λpl hp cut GS=>h2 cut GS pl hp⟩
end
theorem f98_ex(d:cP)(hd:EN d)(ct dW:List bx)(hu:dW.length<=100000)(ho:d.dB.di.length<=100000)(pZ:ct.length<=4000)(al:List Bool->List (List aW))
  (Kl: ∀drop,drop.length=ct.length->f220 d.kx ct drop d.shift=some (al drop)/\bU (al drop)/\ ∀cut,cut.length=dW.length-> ∀pl∈al drop,IG d dW ⟨pl,cut⟩):
  ∃r,f98 d ct dW=some r/\(if r.2.2.2 then(∃drop∈lj ct.length,(drop.all λb=>b)=false/\r.1.places∈al drop)/\r.1.cut.length=dW.length/\l8 d dW r.1 r.2.1 r.2.2.1/\r.2.2.1≠[]
   else(∃a l b,lj ct.length=a++l::b/\(l.all λb=>b)=true/\ ∀drop∈a,∀pl∈al drop,∀cut∈lj dW.length,(dW.zip cut).all (lq (d.bM.bG.length:Int) pl)=true-> ∃x,l8 d dW ⟨pl,cut⟩ x [])\/
    ∀drop∈lj ct.length,∀pl∈al drop,∀cut∈lj dW.length,(dW.zip cut).all (lq (d.bM.bG.length:Int) pl)=true-> ∃x,l8 d dW ⟨pl,cut⟩ x []):=by
 obtain⟨o,h1,h2⟩:=IH (f348 ct d dW dW ⟨[],[]⟩ ⟨[],[],[]⟩ [] false (ct.length:Int)) (λl r=>(l.all λb=>b)=false/\r.2.2.places∈al l/\r.2.2.cut.length=dW.length/\l8 d dW r.2.2 r.2.1 r.1/\r.1≠[])
  (λl=> ∀pl∈al l,∀cut∈lj dW.length,(dW.zip cut).all (lq (d.bM.bG.length:Int) pl)=true-> ∃x,l8 d dW ⟨pl,cut⟩ x []) (λl=>(l.all λb=>b)=true) (lj ct.length) λl hl=>by
   have P4:=px hl
   obtain⟨k1,k2,k3⟩:=Kl l P4
   obtain⟨o,a1,a2⟩:=f348_ex d hd dW hu ho ⟨[],[]⟩ ⟨[],[],[]⟩ [] false ct l pZ P4 (by omega) (ct.length:Int) (al l) k1 k2 k3
   refine⟨o,a1,?_⟩
   rcases o with u|r|u
   ·exact a2
   ·exact a2
   ·exact a2
 have h3:=f265_eq ct d dW dW ⟨[],[]⟩ ⟨[],[],[]⟩ [] false ct.length (by omega) o h1
 unfold f98 f218
 simp only[f219,f159,cK,h3]
 rcases o with u|r|u
 ·rw[eP (r:=((⟨[],[]⟩:bV),(⟨[],[],[]⟩:bS),([]:List cr),false)) rfl _ (by unfold cz;omega)]
  exact⟨_,rfl,.inl h2⟩
 ·obtain⟨l,k1,k2⟩:=h2
  rw[eP (r:=(r.2.2,r.2.1,r.1,true)) rfl _ (by unfold cz;omega)]
  exact⟨_,rfl,⟨l,k1,k2.1,k2.2.1⟩,k2.2.2⟩
 ·rw[eP (r:=((⟨[],[]⟩:bV),(⟨[],[],[]⟩:bS),([]:List cr),false)) rfl _ (by unfold cz;omega)]
  exact⟨_,rfl,.inr h2⟩
end Go.Proofs.YtpbahncblggodaaGreat
