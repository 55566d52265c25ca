/- Plain laws, joined by gen/joinH.py. -/
import Derived.Test.YtfdnjgoegamonaaGreatDoorJA
set_option linter.all false
namespace Go.Proofs.YtfdnjgoegamonaaGreatDoor
open Go Go.Am
set_option maxRecDepth 100000
theorem gP.len{c:cq}(h:gP c):c.cV.length<=14:=by
 have key: ∀(i:Nat)p,c.cV[i]? =some p->(i:Int)+1<=p.aY:=by
  intro i
  induction i with
  |zero=>intro p hp;have:=h.dc p (gT hp);omega
  |succ i ih=>
   intro p hp;have hi:=(fT.1 hp).1;have e1:c.cV[i]? =some (c.cV[i]'(by omega)):=dR _;have:=ih _ e1;have:=h.da i _ p e1 hp;omega
 rcases Ch 14 c.cV.length with hl|hl
 ·have e1:c.cV[14]? =some (c.cV[14]'hl):=dR _;have h1:=key 14 _ e1;have h2:=h.dc _ (gT e1);omega
 ·exact hl
theorem f162_ex(h:eM)(hh:ou h)(h0:f33 h=some 0)(c:cq)(hc:kv c): ∃r,f162 h c=some r/\(r.2=0->gP c/\f210 h c=some r.1/\r.1.length<=200/\ ∀g∈r.1,Fit h c g)/\
  (gP c-> ∀l,f210 h c=some l->l.length<=200->r=(l,0)):=by
 unfold f162;rw[h0];simp only[dm,rz,xb,fq,dD];obtain⟨b,e1,e2⟩:=f209_ex c hc.d hc.h hc.o;simp only[e1,dm];cases b
 ·exact⟨_,rfl,λh=>by simp at h,λh=>by have:=e2.2 h;cases this⟩
 have hr:=e2.1 rfl;obtain⟨l,e3,e4,e5⟩:=f210_ex h hh c hr.len hc.o;simp only[qc,dD,e3,dm];by_cases c1:200<(l.length:Int)
 ·simp only[c1,ij,dt];exact⟨_,rfl,λh=>by simp at h,λ_ l' h1 h2=>by cases h1;omega⟩
 ·simp only[c1,fq,dD];exact⟨_,rfl,λ_=>⟨hr,rfl,by show l.length<=200;omega,e5⟩,λ_ l' h1 h2=>by cases h1;rfl⟩
theorem f163_ex(d:dl)(hh:ou d.h)(h0:f33 d.h=some 0)(x:cq)(k:cG)(hc:kv d.dM)(hx:kv x)(hk:cH k.dC)(l:List cG)(hl:cH l)(hf: ∀g∈l,cH g.dC):
  ∃b,f163 l d x k=some b/\(b=true↔ ∃g∈l,Steps d.h d.dM g x k):=by
 have vr:l.length<=4194304:=hl;unfold f163 f211;have key: ∃o,cA (σ:=Int) (τ:=(Unit⊕Int)) (λ(wg:Int)=>bif (decide (wg<(l.length:Int)))then((ix l wg).bind λy2=>(f164 y2 d x k).bind λr3=>bif r3 then(some (.inr (.inr wg)))else(some (.inl (wr (wg+1)))))else(some (.inr (.inl ())))) cQ 0=some o/\
   (match o with
    |.inl _=> ¬ ∃g∈l,Steps d.h d.dM g x k
    |.inr z=>0<=z/\ ∃g∈l,Steps d.h d.dM g x k):=by
  refine jQ (λn(s:Int)=>s=(n:Int)/\ ¬ ∃g∈l.take n,Steps d.h d.dM g x k) _ l.length vr ⟨rfl,by simp⟩ ?_ ?_
  ·rintro n s hn ⟨rfl,hi⟩;have e1:l[n]? =some (l[n]'hn):=dR _;generalize l[n]'hn=g at e1;have hm:=gT e1;obtain⟨r,e2,e3⟩:=f165_ex d.h hh h0 d.dM g x k hc hx (hf g hm) hk;simp only[dr e1,dt,cJ e1,dm,eT hl e1,f164,e2];by_cases c1:r.2=0
   ·simp only[c1,ij,dt];exact .inr ⟨_,rfl,by omega,g,hm,e3.1 c1⟩
   ·simp only[c1,fq,dD];refine .inl ⟨_,rfl,rfl,?_⟩;rintro⟨g',kN,hs⟩;rw[dj e1,lT]at kN;rcases kN with kN|kN
    ·exact hi ⟨g',kN,hs⟩
    ·simp at kN;subst kN;exact c1 (e3.2 hs)
  ·rintro s ⟨rfl,hi⟩;simp only[oF,fq,dD];exact⟨_,rfl,by simpa using hi⟩
 obtain⟨o,k1,k2⟩:=key;simp only[k1,dm];cases o with
 |inl _=>exact⟨false,by simp,by simpa using k2⟩
 |inr z=>exact⟨true,by simp[k2.1],by simpa using k2.2⟩
structure FN (d:dl):Prop where
 hh:ou d.h
 h0:f33 d.h=some 0
 ch:kv d.dM
 po:d.fI.length<=200
 pf: ∀g∈d.fI,cH g.dC
theorem f112_ex(d:dl)(hd:FN d)(x:cq)(hx:kv x): ∃l,f112 d x=some l/\(l.length<=200/\(∀k∈l,Fit d.h x k)/\(l≠[]->gP x/\ ∃L,f210 d.h x=some L/\L.length<=200/\ ∀k∈l,k∈L)/\
  (d.ck.bP.length≠0-> ∀k∈l,∃g∈d.fI,Steps d.h d.dM g x k)/\
  (gP x-> ∀L,f210 d.h x=some L->L.length<=200-> ∀k∈L,(d.ck.bP.length=0\/ ∃g∈d.fI,Steps d.h d.dM g x k)->k∈l)):=by
 unfold f112;refine fR (f162_ex d.h hd.hh hd.h0 x hx) ?_;rintro⟨l,e⟩ ⟨h1,h2⟩;simp only at h1 h2;by_cases c1:e=0
 ·subst c1;obtain⟨r1,r2,r3,r4⟩:=h1 rfl;have XE:=r1.len;have r3:l.length<=200:=r3;simp only[rz,xb,fq,dD];by_cases c2:d.ck.bP.length=0
  ·have e:decide ((d.ck.bP.length:Int)=0)=true:=by simp[c2]
   simp only[e,dt];refine⟨l,rfl,r3,r4,λ_=>⟨r1,l,r2,r3,λ_ h=>h⟩,λh=>absurd c2 h,λ_ L hL _ k hk _=>?_⟩;rw[r2]at hL;cases hL;exact hk
  ·have e:decide ((d.ck.bP.length:Int)=0)=false:=jb (by omega);simp only[e,dD];refine fc (λn(s:List cG×Int)=>s.2=(n:Int)/\s.1.length<=n/\(∀k∈s.1,k∈l)/\(∀k∈s.1,∃g∈d.fI,Steps d.h d.dM g x k)/\ ∀k∈l.take n,(∃g∈d.fI,Steps d.h d.dM g x k)->k∈s.1)
    (λm=>m.length<=l.length/\(∀k∈m,k∈l)/\(∀k∈m,∃g∈d.fI,Steps d.h d.dM g x k)/\ ∀k∈l,(∃g∈d.fI,Steps d.h d.dM g x k)->k∈m) l.length (by omega) ⟨rfl,by simp,by simp,by simp,by simp⟩ ?_ ?_ ?_
   ·rintro n ⟨s1,s2⟩ hn ⟨e0,m1,m2,m3,m4⟩;simp only at e0 m1 m2 m3 m4;subst e0;have e1:l[n]? =some (l[n]'hn):=dR _;generalize l[n]'hn=k at e1;have hm:=gT e1;have hk:cH k.dC:=by have:=(r4 k hm).len;simp only[cH];omega
    obtain⟨b,b1,b2⟩:=f163_ex d hd.hh hd.h0 x k hd.ch hx hk d.fI (by have:=hd.po;simp only[cH];omega) hd.pf;have n1:s1.length+1<=bQ:=by unfold bQ;omega
    simp only[dr e1,dt,cJ e1,dm,eT (l:=l) (by simp only[cH];omega) e1,b1,cX n1];cases b
    ·refine .inl ⟨_,rfl,rfl,by show s1.length<=n+1;omega,m2,m3,λk' ky hs=>?_⟩;rw[dj e1,lT]at ky;rcases ky with ky|ky
     ·exact m4 k' ky hs
     ·simp at ky;subst ky;have:=b2.2 hs;cases this
    ·refine .inl ⟨_,rfl,rfl,by simp;omega,λk' ky=>?_,λk' ky=>?_,λk' ky hs=>?_⟩
     ·rcases lT.1 ky with ky|ky
      ·exact m2 k' ky
      ·simp at ky;subst ky;exact hm
     ·rcases lT.1 ky with ky|ky
      ·exact m3 k' ky
      ·simp at ky;subst ky;exact b2.1 rfl
     ·rw[dj e1,lT]at ky;rcases ky with ky|ky
      ·exact DQ _ (m4 k' ky hs)
      ·exact Ga _ ky
   ·rintro⟨s1,s2⟩ ⟨e0,m1,m2,m3,m4⟩;simp only at e0 m1 m2 m3 m4;subst e0;simp only[oF,fq,dD];exact⟨_,rfl,m1,m2,m3,λk hk=>m4 k (by simpa using hk)⟩
   ·rintro m ⟨m1,m2,m3,m4⟩;refine⟨m,rfl,by omega,λk hk=>r4 k (m2 k hk),λ_=>⟨r1,l,r2,r3,m2⟩,λ_=>m3,λ_ L hL _ k hk hs=>?_⟩;rw[r2]at hL;cases hL;rcases hs with hs|hs
    ·exact absurd hs c2
    ·exact m4 k hk hs
 ·simp only[rz,c1,O4,ij,dt];refine⟨[],rfl,by simp,by simp,λh=>absurd rfl h,by simp,λhr L hL dJ=>?_⟩;have:=h2 hr L hL dJ;simp at this;exact absurd this.2 c1
theorem f113_eq(l:List be)(hs:cH l):f113 l=some (l.map be.aY):=by
 have nZ:l.length<=4194304:=hs;unfold f113;have n1:(0:Int)<=(l.length:Int):=by omega
 have n2:(l.length:Int)<=(bQ:Int):=by unfold bQ;omega
 simp only[cX n1,cX n2];rw[mh (λk=>((l.take k).map be.aY,(k:Int))) l.length (by omega) (by simp) (r:=l.map be.aY)]
 ·rfl
 ·intro k hk;have e1:l[k]? =some (l[k]'hk):=dR _;generalize l[k]'hk=p at e1;have m1:((l.take k).map be.aY).length+1<=bQ:=by simp;unfold bQ;omega
  simp only[dr e1,dt,cJ e1,dm,eT hs e1,f114,cX m1,dj e1,Cf];rfl
 ·simp
def qZ(d:dl)(tie:Bool):cq:=if tie then⟨d.dM.cV,d.dM.cV.map be.aY,d.dM.dz⟩else⟨[],[],[]⟩
theorem wY(d:dl)(hd:kv d.dM)(tie:Bool):kv (qZ d tie):=by
 unfold qZ;cases tie
 ·exact⟨by simp[cH],by simp[cH],by simp[cH]⟩
 ·have:=hd.d;exact⟨hd.d,by simpa[cH]using this,hd.o⟩
theorem f79_ex(d:dl)(hd:FN d)(s:df)(tie:Bool)(he:d.ck.bP.length<cU): ∃g,f112 d (qZ d tie)=some g/\f79 d s tie=some ((qZ d tie).cV,(qZ d tie).held,(qZ d tie).dz,d.ck.bP++[⟨false,s,tie,[]⟩],g):=by
 obtain⟨g,h1,_⟩:=f112_ex d hd (qZ d tie) (wY d hd.ch tie);refine⟨g,h1,?_⟩;unfold f79;cases tie
 ·simp only[dD,dm];unfold qZ at h1 |-
  simp only[ZJ,if_false]at h1 |-
  simp only[h1,dm,cX he]
 ·simp only[dt,dm,f113_eq _ hd.ch.d];unfold qZ at h1 |-
  simp only[wz]at h1 |-
  simp only[h1,dm,cX he]
def fA:Nat->Nat->List (List Bool)
 |0,0=>[[]]
 |0,_+1=>[]
 |k+1,0=>(fA k 0).map (false:: ·)
 |k+1,m+1=>(fA k (m+1)).map (false:: ·)++(fA k m).map (true:: ·)
theorem pX: ∀(k m:Nat),k<m->fA k m=[]
 |0,m+1,_=>rfl
 |k+1,m+1,h=>by simp only[fA,pX k (m+1) (by omega),pX k m (by omega)];rfl
def lI(n:Nat):List (List Bool):=(List.range (n+1)).flatMap (fA n)
def pY{R:Type}(B:List Bool->Option (Unit⊕(R⊕Unit))):List (List Bool)->Option (Unit⊕(R⊕Unit))
 | []=>some (.inr (.inr ()))
 |l::r=>match B l with
  |none=>none
  |some (.inr (.inr _))=>pY B r
  |some x=>some x
theorem re{R:Type}(B:List Bool->Option (Unit⊕(R⊕Unit))): ∀(a b:List (List Bool)),pY B (a++b)=match pY B a with
  |some (.inr (.inr _))=>pY B b
  |x=>x
 | [],b=>rfl
 |l::r,b=>by
  simp only[yh,pY];cases B l with
  |none=>rfl
  |some o=>
   rcases o with _|_|_
   ·rfl
   ·rfl
   ·exact re B r b
theorem fJ{σ τ:Type}{body:σ->Option (σ⊕τ)}{s:σ}{r:τ}(h:body s=some (.inr r))(n:Nat)(hn:0<n):cA body n s=some r:=by
 cases n with
 |zero=>omega
 |succ n=>simp only[cA,h]
theorem ki{σ τ:Type}{body:σ->Option (σ⊕τ)}{s s':σ}(h:body s=some (.inl s'))(n:Nat):cA body (n+1) s=cA body n s':=by simp only[cA,h]
theorem kg{α:Type}{l:List α}{i:Nat}{x:α}(h:i<l.length):(l.set i x).take (i+1)=l.take i++[x]:=by
 have:(l.set i x)[i]? =some x:=by rw[Yl];simp[h]
 rw[dj this,ZT (eD i)]
section
variable (e1:List bE) (e2:dl) (e3 e5:List bE) (e6:ct) (e7:cq) (e8:List cG) (e9:Bool)
def gb{R:Type}(o:Unit⊕((List cG×cq×ct)⊕Unit))(l:List Bool):(List Bool)⊕((List Bool)⊕(ct×cq×List cG×List Bool)):=match o with
 |.inl _=>.inr (.inl l)
 |.inr (.inl r)=>.inr (.inr (r.2.2,r.2.1,r.1,l))
 |.inr (.inr _)=>.inl l
theorem f196r_eq(n:Nat)(hn:n<=4194304): ∀(rem fu i m:Nat)(l:List Bool)(o:Unit⊕((List cG×cq×ct)⊕Unit)),l.length=n->i+rem=n->rem<fu->m<=rem->
  pY (f294 e1 e2 e3 e5 e6 e7 e8 e9 (n:Int)) ((fA rem m).map (l.take i++ ·))=some o->
  ∃l',l'.length=n/\l'.take i=l.take i/\f196r fu (i:Int) (m:Int) (n:Int) e1 e2 e3 e5 e6 e7 e8 e9 l=some (gb (R:=Unit) o l')
 |rem,0,i,m,l,o,hl,hi,hf,hm,hs=>by omega
 |0,fu+1,i,m,l,o,hl,hi,hf,hm,hs=>by
  have Cu:m=0:=by omega
  subst Cu;have fB:i=n:=by omega
  subst fB;have gl:l.take i=l:=tP (by omega);have c0: ¬((0:Int)<((0:Nat):Int)):=by simp
  simp only[fA,wy,Pv,xD,gl,pY]at hs;refine⟨l,hl,rfl,?_⟩;unfold f196r;simp only[ij,dt,c0,fq,dD];cases hB:f294 e1 e2 e3 e5 e6 e7 e8 e9 (i:Int) l with
  |none=>rw[hB]at hs;simp at hs
  |some x=>
   rw[hB]at hs;rcases x with _|_|_<;>simp at hs<;>subst hs<;>rfl
 |rem+1,fu+1,i,m,l,o,hl,hi,hf,hm,hs=>by
  have c0: ¬((i:Int)=(n:Int)):=by omega
  have w1:wr ((i:Int)+1)=((i+1:Nat):Int):=fH (by omega);have w2:wr ((n:Int)-(i:Int))=((rem+1:Nat):Int):=by rw[iZ (by omega) (by omega)];omega
  have w3:wr (((rem+1:Nat):Int)-1)=(rem:Int):=by rw[iZ (by omega) (by omega)];omega
  have vo:i<l.length:=by omega
  have x0:l[i]? =some (l[i]'vo):=dR _;have first: ∀o1,pY (f294 e1 e2 e3 e5 e6 e7 e8 e9 (n:Int)) ((fA rem m).map ((l.take i++[false])++ ·))=some o1->m<=rem->
    ∃l',l'.length=n/\l'.take i=l.take i/\f196r fu ((i+1:Nat):Int) (m:Int) (n:Int) e1 e2 e3 e5 e6 e7 e8 e9 (l.set i false)=some (gb (R:=Unit) o1 l'):=λo1 h1 hmr=>by
   obtain⟨l',a1,a2,a3⟩:=f196r_eq n hn rem fu (i+1) m (l.set i false) o1 (by simpa using hl) (by omega) (by omega) hmr (by rw[kg vo];exact h1);rw[kg vo]at a2;refine⟨l',a1,?_,a3⟩;have:=fC (List.take i) a2;rw[Sw,O1 (by omega),Vg (by simp;omega)]at this;exact this
  have second: ∀(l2:List Bool)o1 m',m=m'+1->l2.length=n->l2.take i=l.take i->pY (f294 e1 e2 e3 e5 e6 e7 e8 e9 (n:Int)) ((fA rem m').map ((l.take i++[true])++ ·))=some o1->
    ∃l',l'.length=n/\l'.take i=l.take i/\f196r fu ((i+1:Nat):Int) (m':Int) (n:Int) e1 e2 e3 e5 e6 e7 e8 e9 (l2.set i true)=some (gb (R:=Unit) o1 l'):=λl2 o1 m' oG D0 AG h1=>by
   have Oa:i<l2.length:=by omega
   obtain⟨l',a1,a2,a3⟩:=f196r_eq n hn rem fu (i+1) m' (l2.set i true) o1 (by simpa using D0) (by omega) (by omega) (by omega) (by rw[kg Oa,AG];exact h1);rw[kg Oa,AG]at a2;refine⟨l',a1,?_,a3⟩;have:=fC (List.take i) a2;rw[Sw,O1 (by omega),Vg (by simp;omega)]at this;exact this
  unfold f196r;simp only[c0,fq,dD];have hF:cQ=(cQ-3)+1+1+1:=by unfold cQ;omega
  rw[hF];generalize Du:(λ(x:List Bool×Int)=>_:List Bool×Int->Option ((List Bool×Int)⊕((List Bool)⊕((List Bool)⊕((List Bool)⊕(ct×cq×List cG×List Bool))))))=body;have g0:ix ([false,true]:List Bool) (0:Int)=some false:=rfl;have g1:ix ([false,true]:List Bool) (1:Int)=some true:=rfl;have k0:((0:Int)<2):=by omega
  have k1:((1:Int)<2):=by omega
  have k2: ¬((2:Int)<2):=by omega
  have v1:wr ((0:Int)+1)=1:=by rw[iZ (by omega) (by omega)];rfl
  have v2:wr ((1:Int)+1)=2:=by rw[iZ (by omega) (by omega)];rfl
  have Ob: ¬((m:Int)<0):=by omega
  have hA:rem<m->body (l,0)=some (.inl (l,1)):=λgl=>by
   have c1:((rem:Int)<(m:Int)):=by omega
   rw[<-Du];simp only[k0,ij,dt,g0,dm,dD,Ob,fq,w2,w3,c1,v1,vn]
  have XF: ∀(o1:Unit⊕((List cG×cq×ct)⊕Unit))l',m<=rem->f196r fu ((i+1:Nat):Int) (m:Int) (n:Int) e1 e2 e3 e5 e6 e7 e8 e9 (l.set i false)=some (gb (R:=Unit) o1 l')->
    body (l,0)=some (match gb (R:=Unit) o1 l' with|.inl q=>.inl (q,1)|.inr z=>.inr (.inr (.inr z))):=λo1 l' eP hc=>by
   have c1: ¬((rem:Int)<(m:Int)):=by omega
   rw[<-Du];simp only[k0,ij,dt,g0,dm,dD,Ob,fq,w2,w3,c1,v1,cJ x0,w1,oD,hc];rcases o1 with _|_|_<;>rfl
  have hB: ∀l2:List Bool,m=0->body (l2,1)=some (.inl (l2,2)):=λl2 Cu=>by
   subst Cu;have c1:wr (((0:Nat):Int)-1)<0:=by rw[iZ (by omega) (by omega)];omega
   rw[<-Du];simp only[k1,ij,dt,g1,dm,c1,v2,vn]
  have hB': ∀(l2:List Bool)(o1:Unit⊕((List cG×cq×ct)⊕Unit))l'(m':Nat),m=m'+1->l2.length=n->f196r fu ((i+1:Nat):Int) (m':Int) (n:Int) e1 e2 e3 e5 e6 e7 e8 e9 (l2.set i true)=some (gb (R:=Unit) o1 l')->
    body (l2,1)=some (match gb (R:=Unit) o1 l' with|.inl q=>.inl (q,2)|.inr z=>.inr (.inr (.inr z))):=λl2 o1 l' m' oG D0 hc=>by
   have c1:wr ((m:Int)-1)=(m':Int):=by rw[iZ (by omega) (by omega)];omega
   have c2: ¬((m':Int)<0):=by omega
   have c3: ¬((rem:Int)<(m':Int)):=by omega
   have x2:l2[i]? =some (l2[i]'(by omega)):=dR _;rw[<-Du];simp only[k1,ij,dt,g1,dm,c1,c2,fq,dD,w2,w3,c3,v2,cJ x2,w1,oD,hc];rcases o1 with _|_|_<;>rfl
  have hC: ∀l2:List Bool,body (l2,2)=some (.inr (.inl l2)):=λl2=>by
   rw[<-Du];simp only[k2,fq,dD]
  clear Du;have Od: ∀k,(fA rem k).map (λx=>l.take i++false::x)=(fA rem k).map ((l.take i++[false])++ ·):=λk=>by simp
  have Uw: ∀k,(fA rem k).map (λx=>l.take i++true::x)=(fA rem k).map ((l.take i++[true])++ ·):=λk=>by simp
  have rest: ∀(l2:List Bool)(N:Nat)(m':Nat),m=m'+1->l2.length=n->l2.take i=l.take i->pY (f294 e1 e2 e3 e5 e6 e7 e8 e9 (n:Int)) ((fA rem m').map ((l.take i++[true])++ ·))=some o->
    ∃l',l'.length=n/\l'.take i=l.take i/\(cA body (N+1+1) (l2,1)).bind (Sum.elim (λl1x=>some (.inl l1x)) some)=some (gb (R:=Unit) o l'):=λl2 N m' oG D0 AG h1=>by
   obtain⟨l',a1,a2,a3⟩:=second l2 o m' oG D0 AG h1;refine⟨l',a1,a2,?_⟩;have hb:=hB' l2 o l' m' oG D0 a3;rcases o with _|_|_
   ·rw[fJ hb _ (by omega)];rfl
   ·rw[fJ hb _ (by omega)];rfl
   ·rw[ki hb,fJ (hC l') _ (by omega)];rfl
  cases m with
  |zero=>
   simp only[fA,JR]at hs;have hs:pY (f294 e1 e2 e3 e5 e6 e7 e8 e9 (n:Int)) ((fA rem 0).map ((l.take i++[false])++ ·))=some o:=by rw[<-Od];exact hs
   obtain⟨l',a1,a2,a3⟩:=first o hs (by omega)
   refine⟨l',a1,a2,?_⟩;have hb:=XF o l' (by omega) a3;rcases o with _|_|_
   ·rw[fJ hb _ (by omega)];rfl
   ·rw[fJ hb _ (by omega)];rfl
   ·rw[ki hb,ki (hB l' rfl),fJ (hC l') _ (by omega)];rfl
  |succ m'=>
   simp only[fA,Cf,JR]at hs;have hs:pY (f294 e1 e2 e3 e5 e6 e7 e8 e9 (n:Int)) ((fA rem (m'+1)).map ((l.take i++[false])++ ·)++(fA rem m').map ((l.take i++[true])++ ·))=some o:=by rw[<-Od,<-Uw];exact hs
   by_cases eP:m'+1<=rem
   ·rw[re]at hs;cases h1:pY (f294 e1 e2 e3 e5 e6 e7 e8 e9 (n:Int)) ((fA rem (m'+1)).map ((l.take i++[false])++ ·))with
    |none=>rw[h1]at hs;simp at hs
    |some o1=>
     rw[h1]at hs;obtain⟨l',a1,a2,a3⟩:=first o1 h1 eP
     have hb:=XF o1 l' eP a3;rcases o1 with u|r|u
     ·simp at hs;subst hs;exact⟨l',a1,a2,by rw[fJ hb _ (by omega)];rfl⟩
     ·simp at hs;subst hs;exact⟨l',a1,a2,by rw[fJ hb _ (by omega)];rfl⟩
     ·obtain⟨l2,b1,b2,b3⟩:=rest l' _ m' rfl a1 a2 hs;exact⟨l2,b1,b2,by rw[ki hb];exact b3⟩
   ·have h0:fA rem (m'+1)=[]:=pX rem (m'+1) (by omega);rw[h0]at hs;simp only[Pv,sA]at hs;obtain⟨l2,b1,b2,b3⟩:=rest l _ m' rfl hl rfl hs;exact⟨l2,b1,b2,by rw[ki (hA (by omega))];exact b3⟩
theorem f195_eq(n:Nat)(hn:n<=4194303)(o:Unit⊕((List cG×cq×ct)⊕Unit))(hs:pY (f294 e1 e2 e3 e5 e6 e7 e8 e9 (n:Int)) (lI n)=some o):f195 e1 e2 e3 e5 e6 e7 e8 e9 (n:Int)=some o:=by
 unfold f195;have n1:(0:Int)<=(n:Int):=by omega
 have n2:(n:Int)<=(bQ:Int):=by unfold bQ;omega
 simp only[cX n1,cX n2,oD];have key: ∀(d k N:Nat)(l:List Bool),k+d=n+1->d<N->l.length=n->pY (f294 e1 e2 e3 e5 e6 e7 e8 e9 (n:Int)) ((List.range' k d).flatMap (fA n))=some o->
   (cA (σ:=(List Bool×Int)) (τ:=(Unit⊕(Unit⊕((List cG×cq×ct)⊕Unit)))) (λ((K7,HS):(List Bool×Int))=>bif (decide (HS<=(n:Int)))then((f196 0 HS (n:Int) e1 e2 e3 e5 e6 e7 e8 e9 K7).bind (Sum.elim (λr4a=>some (.inl (r4a,(wr (HS+1))))) (Sum.elim (λUx=>some (.inr (.inr (.inl ())))) λVN=>some (.inr (.inr (.inr (.inl (VN.2.2.1,(⟨VN.2.1.cV,VN.2.1.held,VN.2.1.dz⟩:cq),(⟨VN.1.places,VN.1.cut⟩:ct)))))))))else(some (.inr (.inl ())))) N (l,(k:Int))).bind (Sum.elim (λ(_:Unit)=>some (.inr (.inr ()))) some)=some o:=by
  intro d
  induction d with
  |zero=>
   intro k N l hk hN hl h1;simp only[List.range'_zero,V1,pY]at h1;cases h1;have c1: ¬((k:Int)<=(n:Int)):=by omega
   rw[fJ (r:=.inl ()) (by simp only[c1,fq,dD]) _ (by omega)];rfl
  |succ d ih=>
   intro k N l hk hN hl h1;have c1:((k:Int)<=(n:Int)):=by omega
   rw[List.range'_succ,F6,re]at h1;cases h2:pY (f294 e1 e2 e3 e5 e6 e7 e8 e9 (n:Int)) (fA n k)with
   |none=>rw[h2]at h1;simp at h1
   |some o1=>
    rw[h2]at h1;obtain⟨l',a1,_,a3⟩:=f196r_eq e1 e2 e3 e5 e6 e7 e8 e9 n (by omega) n cQ 0 k l o1 hl (by omega) (by unfold cQ;omega) (by omega) (by simpa using h2);have a3:f196 0 (k:Int) (n:Int) e1 e2 e3 e5 e6 e7 e8 e9 l=some (gb (R:=Unit) o1 l'):=a3;obtain⟨N,rfl⟩: ∃M,N=M+1:=⟨N-1,by omega⟩;rcases o1 with u|r|u
    ·simp at h1;subst h1;rw[fJ (r:=.inr (.inl ())) (by simp only[c1,ij,dt,a3,dm];rfl) _ (by omega)];rfl
    ·simp at h1;subst h1;rw[fJ (r:=.inr (.inr (.inl r))) (by simp only[c1,ij,dt,a3,dm];rfl) _ (by omega)];rfl
    ·have w:wr ((k:Int)+1)=((k+1:Nat):Int):=fH (by omega);rw[ki (s':=(l',((k+1:Nat):Int))) (by simp only[c1,ij,dt,a3,dm,<-w];rfl)];exact ih (k+1) N l' (by omega) (by omega) a1 h1
 have:=key (n+1) 0 cQ (List.replicate n false) (by omega) (by unfold cQ;omega) (by simp) (by rw[<-ZM];exact hs);exact this
end
def k9{R:Type}(B:List Bool->Option (R⊕Unit)):List (List Bool)->Option (R⊕Unit)
 | []=>some (.inr ())
 |l::r=>match B l with
  |none=>none
  |some (.inr _)=>k9 B r
  |some x=>some x
theorem pZ{R:Type}(B:List Bool->Option (R⊕Unit)): ∀(a b:List (List Bool)),k9 B (a++b)=match k9 B a with
  |some (.inr _)=>k9 B b
  |x=>x
 | [],b=>rfl
 |l::r,b=>by
  simp only[yh,k9];cases B l with
  |none=>rfl
  |some o=>
   rcases o with _|_
   ·rfl
   ·exact pZ B r b
section
variable (e1:List bE) (e2:dl) (e3 e5:List bE) (e6:ct) (e7:cq) (e8:List cG) (e9:Bool) (al:List (List be)) (e0:Int)
def uX(o:(List cG×cq×ct)⊕Unit)(l:List Bool):(List Bool)⊕(ct×cq×List cG×List Bool):=match o with
 |.inl r=>.inr (r.2.2,r.2.1,r.1,l)
 |.inr _=>.inl l
theorem f196_1r_eq(n:Nat)(hn:n<=4194304): ∀(rem fu i m:Nat)(l:List Bool)(o:(List cG×cq×ct)⊕Unit),l.length=n->i+rem=n->rem<fu->m<=rem->
  k9 (f295 e1 e2 e3 e5 e6 e7 e8 e9 al e0 (n:Int)) ((fA rem m).map (l.take i++ ·))=some o->
  ∃l',l'.length=n/\l'.take i=l.take i/\f196_1r fu (i:Int) (m:Int) (n:Int) e1 e2 e3 e5 e6 e7 e8 e9 al e0 l=some (uX o l')
 |rem,0,i,m,l,o,hl,hi,hf,hm,hs=>by omega
 |0,fu+1,i,m,l,o,hl,hi,hf,hm,hs=>by
  have Cu:m=0:=by omega
  subst Cu;have fB:i=n:=by omega
  subst fB;have gl:l.take i=l:=tP (by omega);have c0: ¬((0:Int)<((0:Nat):Int)):=by simp
  simp only[fA,wy,Pv,xD,gl,k9]at hs;refine⟨l,hl,rfl,?_⟩;unfold f196_1r;simp only[ij,dt,c0,fq,dD];cases hB:f295 e1 e2 e3 e5 e6 e7 e8 e9 al e0 (i:Int) l with
  |none=>rw[hB]at hs;simp at hs
  |some x=>
   rw[hB]at hs;rcases x with _|_<;>simp at hs<;>subst hs<;>rfl
 |rem+1,fu+1,i,m,l,o,hl,hi,hf,hm,hs=>by
  have c0: ¬((i:Int)=(n:Int)):=by omega
  have w1:wr ((i:Int)+1)=((i+1:Nat):Int):=fH (by omega);have w2:wr ((n:Int)-(i:Int))=((rem+1:Nat):Int):=by rw[iZ (by omega) (by omega)];omega
  have w3:wr (((rem+1:Nat):Int)-1)=(rem:Int):=by rw[iZ (by omega) (by omega)];omega
  have vo:i<l.length:=by omega
  have x0:l[i]? =some (l[i]'vo):=dR _;have first: ∀o1,k9 (f295 e1 e2 e3 e5 e6 e7 e8 e9 al e0 (n:Int)) ((fA rem m).map ((l.take i++[false])++ ·))=some o1->m<=rem->
    ∃l',l'.length=n/\l'.take i=l.take i/\f196_1r fu ((i+1:Nat):Int) (m:Int) (n:Int) e1 e2 e3 e5 e6 e7 e8 e9 al e0 (l.set i false)=some (uX o1 l'):=λo1 h1 hmr=>by
   obtain⟨l',a1,a2,a3⟩:=f196_1r_eq n hn rem fu (i+1) m (l.set i false) o1 (by simpa using hl) (by omega) (by omega) hmr (by rw[kg vo];exact h1);rw[kg vo]at a2;refine⟨l',a1,?_,a3⟩;have:=fC (List.take i) a2;rw[Sw,O1 (by omega),Vg (by simp;omega)]at this;exact this
  have second: ∀(l2:List Bool)o1 m',m=m'+1->l2.length=n->l2.take i=l.take i->k9 (f295 e1 e2 e3 e5 e6 e7 e8 e9 al e0 (n:Int)) ((fA rem m').map ((l.take i++[true])++ ·))=some o1->
    ∃l',l'.length=n/\l'.take i=l.take i/\f196_1r fu ((i+1:Nat):Int) (m':Int) (n:Int) e1 e2 e3 e5 e6 e7 e8 e9 al e0 (l2.set i true)=some (uX o1 l'):=λl2 o1 m' oG D0 AG h1=>by
   have Oa:i<l2.length:=by omega
   obtain⟨l',a1,a2,a3⟩:=f196_1r_eq n hn rem fu (i+1) m' (l2.set i true) o1 (by simpa using D0) (by omega) (by omega) (by omega) (by rw[kg Oa,AG];exact h1);rw[kg Oa,AG]at a2;refine⟨l',a1,?_,a3⟩;have:=fC (List.take i) a2;rw[Sw,O1 (by omega),Vg (by simp;omega)]at this;exact this
  unfold f196_1r;simp only[c0,fq,dD];have hF:cQ=(cQ-3)+1+1+1:=by unfold cQ;omega
  rw[hF];generalize Du:(λ(x:List Bool×Int)=>_:List Bool×Int->Option ((List Bool×Int)⊕((List Bool)⊕((List Bool)⊕(ct×cq×List cG×List Bool)))))=body;have g0:ix ([false,true]:List Bool) (0:Int)=some false:=rfl;have g1:ix ([false,true]:List Bool) (1:Int)=some true:=rfl;have k0:((0:Int)<2):=by omega
  have k1:((1:Int)<2):=by omega
  have k2: ¬((2:Int)<2):=by omega
  have v1:wr ((0:Int)+1)=1:=by rw[iZ (by omega) (by omega)];rfl
  have v2:wr ((1:Int)+1)=2:=by rw[iZ (by omega) (by omega)];rfl
  have Ob: ¬((m:Int)<0):=by omega
  have hA:rem<m->body (l,0)=some (.inl (l,1)):=λgl=>by
   have c1:((rem:Int)<(m:Int)):=by omega
   rw[<-Du];simp only[k0,ij,dt,g0,dm,dD,Ob,fq,w2,w3,c1,v1,vn]
  have XF: ∀(o1:(List cG×cq×ct)⊕Unit)l',m<=rem->f196_1r fu ((i+1:Nat):Int) (m:Int) (n:Int) e1 e2 e3 e5 e6 e7 e8 e9 al e0 (l.set i false)=some (uX o1 l')->
    body (l,0)=some (match uX o1 l' with|.inl q=>.inl (q,1)|.inr z=>.inr (.inr (.inr z))):=λo1 l' eP hc=>by
   have c1: ¬((rem:Int)<(m:Int)):=by omega
   rw[<-Du];simp only[k0,ij,dt,g0,dm,dD,Ob,fq,w2,w3,c1,v1,cJ x0,w1,oD,hc];rcases o1 with _|_<;>rfl
  have hB: ∀l2:List Bool,m=0->body (l2,1)=some (.inl (l2,2)):=λl2 Cu=>by
   subst Cu;have c1:wr (((0:Nat):Int)-1)<0:=by rw[iZ (by omega) (by omega)];omega
   rw[<-Du];simp only[k1,ij,dt,g1,dm,c1,v2,vn]
  have hB': ∀(l2:List Bool)(o1:(List cG×cq×ct)⊕Unit)l'(m':Nat),m=m'+1->l2.length=n->f196_1r fu ((i+1:Nat):Int) (m':Int) (n:Int) e1 e2 e3 e5 e6 e7 e8 e9 al e0 (l2.set i true)=some (uX o1 l')->
    body (l2,1)=some (match uX o1 l' with|.inl q=>.inl (q,2)|.inr z=>.inr (.inr (.inr z))):=λl2 o1 l' m' oG D0 hc=>by
   have c1:wr ((m:Int)-1)=(m':Int):=by rw[iZ (by omega) (by omega)];omega
   have c2: ¬((m':Int)<0):=by omega
   have c3: ¬((rem:Int)<(m':Int)):=by omega
   have x2:l2[i]? =some (l2[i]'(by omega)):=dR _;rw[<-Du];simp only[k1,ij,dt,g1,dm,c1,c2,fq,dD,w2,w3,c3,v2,cJ x2,w1,oD,hc];rcases o1 with _|_<;>rfl
  have hC: ∀l2:List Bool,body (l2,2)=some (.inr (.inl l2)):=λl2=>by
   rw[<-Du];simp only[k2,fq,dD]
  clear Du;have Od: ∀k,(fA rem k).map (λx=>l.take i++false::x)=(fA rem k).map ((l.take i++[false])++ ·):=λk=>by simp
  have Uw: ∀k,(fA rem k).map (λx=>l.take i++true::x)=(fA rem k).map ((l.take i++[true])++ ·):=λk=>by simp
  have rest: ∀(l2:List Bool)(N:Nat)(m':Nat),m=m'+1->l2.length=n->l2.take i=l.take i->k9 (f295 e1 e2 e3 e5 e6 e7 e8 e9 al e0 (n:Int)) ((fA rem m').map ((l.take i++[true])++ ·))=some o->
    ∃l',l'.length=n/\l'.take i=l.take i/\(cA body (N+1+1) (l2,1)).bind (Sum.elim (λl1x=>some (.inl l1x)) some)=some (uX o l'):=λl2 N m' oG D0 AG h1=>by
   obtain⟨l',a1,a2,a3⟩:=second l2 o m' oG D0 AG h1;refine⟨l',a1,a2,?_⟩;have hb:=hB' l2 o l' m' oG D0 a3;rcases o with _|_
   ·rw[fJ hb _ (by omega)];rfl
   ·rw[ki hb,fJ (hC l') _ (by omega)];rfl
  cases m with
  |zero=>
   simp only[fA,JR]at hs;have hs:k9 (f295 e1 e2 e3 e5 e6 e7 e8 e9 al e0 (n:Int)) ((fA rem 0).map ((l.take i++[false])++ ·))=some o:=by rw[<-Od];exact hs
   obtain⟨l',a1,a2,a3⟩:=first o hs (by omega)
   refine⟨l',a1,a2,?_⟩;have hb:=XF o l' (by omega) a3;rcases o with _|_
   ·rw[fJ hb _ (by omega)];rfl
   ·rw[ki hb,ki (hB l' rfl),fJ (hC l') _ (by omega)];rfl
  |succ m'=>
   simp only[fA,Cf,JR]at hs;have hs:k9 (f295 e1 e2 e3 e5 e6 e7 e8 e9 al e0 (n:Int)) ((fA rem (m'+1)).map ((l.take i++[false])++ ·)++(fA rem m').map ((l.take i++[true])++ ·))=some o:=by rw[<-Od,<-Uw];exact hs
   by_cases eP:m'+1<=rem
   ·rw[pZ]at hs;cases h1:k9 (f295 e1 e2 e3 e5 e6 e7 e8 e9 al e0 (n:Int)) ((fA rem (m'+1)).map ((l.take i++[false])++ ·))with
    |none=>rw[h1]at hs;simp at hs
    |some o1=>
     rw[h1]at hs;obtain⟨l',a1,a2,a3⟩:=first o1 h1 eP
     have hb:=XF o1 l' eP a3;rcases o1 with r|u
     ·simp at hs;subst hs;exact⟨l',a1,a2,by rw[fJ hb _ (by omega)];rfl⟩
     ·obtain⟨l2,b1,b2,b3⟩:=rest l' _ m' rfl a1 a2 hs;exact⟨l2,b1,b2,by rw[ki hb];exact b3⟩
   ·have h0:fA rem (m'+1)=[]:=pX rem (m'+1) (by omega);rw[h0]at hs;simp only[Pv,sA]at hs;obtain⟨l2,b1,b2,b3⟩:=rest l _ m' rfl hl rfl hs;exact⟨l2,b1,b2,by rw[ki (hA (by omega))];exact b3⟩
theorem f195_1_eq(n:Nat)(hn:n<=4194303)(o:(List cG×cq×ct)⊕Unit)(hs:k9 (f295 e1 e2 e3 e5 e6 e7 e8 e9 al e0 (n:Int)) (lI n)=some o):f195_1 e1 e2 e3 e5 e6 e7 e8 e9 al e0 (n:Int)=some o:=by
 unfold f195_1;have n1:(0:Int)<=(n:Int):=by omega
 have n2:(n:Int)<=(bQ:Int):=by unfold bQ;omega
 simp only[cX n1,cX n2,oD];have key: ∀(d k N:Nat)(l:List Bool),k+d=n+1->d<N->l.length=n->k9 (f295 e1 e2 e3 e5 e6 e7 e8 e9 al e0 (n:Int)) ((List.range' k d).flatMap (fA n))=some o->
   (cA (σ:=(List Bool×Int)) (τ:=(Unit⊕((List cG×cq×ct)⊕Unit))) (λ((K8,HS):(List Bool×Int))=>bif (decide (HS<=(n:Int)))then((f196_1 0 HS (n:Int) e1 e2 e3 e5 e6 e7 e8 e9 al e0 K8).bind (Sum.elim (λr4a=>some (.inl (r4a,(wr (HS+1))))) λUx=>some (.inr (.inr (.inl (Ux.2.2.1,(⟨Ux.2.1.cV,Ux.2.1.held,Ux.2.1.dz⟩:cq),(⟨Ux.1.places,Ux.1.cut⟩:ct)))))))else(some (.inr (.inl ())))) N (l,(k:Int))).bind (Sum.elim (λ(_:Unit)=>some (.inr ())) some)=some o:=by
  intro d
  induction d with
  |zero=>
   intro k N l hk hN hl h1;simp only[List.range'_zero,V1,k9]at h1;cases h1;have c1: ¬((k:Int)<=(n:Int)):=by omega
   rw[fJ (r:=.inl ()) (by simp only[c1,fq,dD]) _ (by omega)];rfl
  |succ d ih=>
   intro k N l hk hN hl h1;have c1:((k:Int)<=(n:Int)):=by omega
   rw[List.range'_succ,F6,pZ]at h1;cases h2:k9 (f295 e1 e2 e3 e5 e6 e7 e8 e9 al e0 (n:Int)) (fA n k)with
   |none=>rw[h2]at h1;simp at h1
   |some o1=>
    rw[h2]at h1;obtain⟨l',a1,_,a3⟩:=f196_1r_eq e1 e2 e3 e5 e6 e7 e8 e9 al e0 n (by omega) n cQ 0 k l o1 hl (by omega) (by unfold cQ;omega) (by omega) (by simpa using h2);have a3:f196_1 0 (k:Int) (n:Int) e1 e2 e3 e5 e6 e7 e8 e9 al e0 l=some (uX o1 l'):=a3;obtain⟨N,rfl⟩: ∃M,N=M+1:=⟨N-1,by omega⟩;rcases o1 with r|u
    ·simp at h1;subst h1;rw[fJ (r:=.inr (.inl r)) (by simp only[c1,ij,dt,a3,dm];rfl) _ (by omega)];rfl
    ·have w:wr ((k:Int)+1)=((k+1:Nat):Int):=fH (by omega);rw[ki (s':=(l',((k+1:Nat):Int))) (by simp only[c1,ij,dt,a3,dm,<-w];rfl)];exact ih (k+1) N l' (by omega) (by omega) a1 h1
 have:=key (n+1) 0 cQ (List.replicate n false) (by omega) (by unfold cQ;omega) (by simp) (by rw[<-ZM];exact hs);exact this
end
def rh(a b:Int):Int:=if a<b then -1 else if b<a then 1 else 0
theorem f84_eq(a b:Int):f84 a b=some (rh a b):=by
 unfold f84 f129 rh;simp only[rz,xb,fq,dm,dD];by_cases h1:a<b
 ·simp[h1]
 ·by_cases h2:b<a
  ·simp[h1,h2]
  ·simp[h1,h2]
theorem f83_eq(l:List Int)(hs:cH l):f83 l=some ((l.find? λx=>decide (x≠0)).getD 0):=by
 unfold f83;rw[fZ l (λx=>decide (x≠0)) (λ_ x=>x) hs,tx]
 ·cases l.find? _<;>rfl
 ·intro i y hy;simp only[dr hy,dt,cJ hy,dm];cases decide (y≠0)<;>rfl
 ·simp
def Uy(l:List be):Int:=l.foldl (λn p=>wr (n+p.cO)) 0
theorem f203_eq(l:List be)(hs:cH l):f203 l=some (Uy l):=by
 unfold f203;have h:=kH (body:=λ((XG,K9):(Int×Int))=>bif (decide (K9<(l.length:Int)))then((ix l K9).bind λy2=>some (.inl ((wr (XG+y2.cO)),(wr (K9+1)))))else(some (.inr XG)))
  (λa i=>(a,i)) (λ_ a(p:be)=>(.inl (wr (a+p.cO)):Int⊕Int)) (λa=>a) l (λ_ _=>True) 0 (jO hs) trivial
  (λi a y hy _=>⟨by simp only[dr hy,dt,cJ hy,dm,eT hs hy];rfl,λ_ _=>trivial⟩) (λa _=>by simp)
 rw[h,vX];rfl
theorem f204_ex(a b:List be)(ha:cH a)(hb:cH b): ∃r,f204 a b=some r/\True:=by
 have LI:a.length<=4194304:=ha;unfold f204;refine fc (λk(s:Int)=>s=(k:Int)) (λ_=>True) a.length LI rfl ?_ ?_ ?_
 ·rintro k s hk rfl;have e1:a[k]? =some (a[k]'hk):=dR _;simp only[dr e1,dt,cJ e1,dm,eT ha e1];by_cases c1:(b.length:Int)<=(k:Int)
  ·simp only[c1,ij,dt];exact .inr ⟨_,rfl,trivial⟩
  ·have e2:b[k]? =some (b[k]'(by omega)):=dR _;simp only[c1,fq,dD,cJ e2,dm,f205,f84_eq];cases decide (rh (a[k]'hk).aY (b[k]'(by omega)).aY≠0)
   ·exact .inl ⟨_,rfl,rfl⟩
   ·exact .inr ⟨_,rfl,trivial⟩
 ·rintro s rfl;simp only[oF,fq,dD];exact⟨_,rfl,trivial⟩
 ·intro o _;cases o with
  |inr z=>exact⟨z,rfl,trivial⟩
  |inl _=>
   simp only[vn];cases decide ((a.length:Int)<(b.length:Int))<;>exact⟨_,rfl,trivial⟩
theorem f202_ex(a b:List be)(ha:cH a)(hb:cH b): ∃r,f202 a b=some r/\True:=by
 unfold f202;obtain⟨r,e,_⟩:=f204_ex a b ha hb;simp only[f203_eq a ha,f203_eq b hb,f84_eq,e,dm,f83_eq _ (show cH [_,_]by simp[cH])];exact⟨_,rfl,trivial⟩
def ways(a:bY)(s:Int):List bE->List Bool->List be->List (List be)
 |n::ns,b::bs,pre=>bif b then ways a s ns bs (pre++[⟨0,0⟩])else bif decide ((fx a (wr (n.cw+s))).2≠0)then []else
  ((fx a (wr (n.cw+s))).1.filter λp=>!(pre.any (mn p.aY))).flatMap λp=>ways a s ns bs (pre++[p])
 |_,_,pre=>[pre]
theorem f199_eq(l:List be)(h:cH l):f199 l=some l:=by
 unfold f199;by_cases c:l=[]
 ·subst c;simp
 ·have:l.length<=bQ:=by simp only[cH]at h;unfold bQ;omega
  rw[show l.isEmpty=false from by simpa using c];simp[cX this]
theorem Bm(a:bY)(p:Int):(fx a p).1.length<=300:=by
 unfold fx;by_cases h:instS a=0
 ·obtain⟨h1,h2,_,_,h5⟩:=instS_ok h;have:=wX a.cu p a.cS 0 (λc hc=>by
   obtain⟨q1,q2,_⟩:=nA (h5 c hc);omega)
  simp only[h,wz,rz,xb,if_false];generalize(decide (p<0)||decide (127<p))=b;cases b<;>simp <;>omega
 ·simp[h]
theorem f198_eq(a:bY)(s:Int)(cE:List bE)(drop:List Bool)(hn:cE.length<=4000)(hd:drop.length=cE.length): ∀(rem fu i:Nat)(all:List (List be))(l:List be),l.length=cE.length->i+rem=cE.length->rem<fu->
  all.length+(ways a s (cE.drop i) (drop.drop i) (l.take i)).length<=4000000->
  ∃l',l'.length=l.length/\l'.take i=l.take i/\f198r fu (i:Int) cE all l drop a s=some (all++ways a s (cE.drop i) (drop.drop i) (l.take i),l')
 |rem,0,i,all,l,hl,hi,hf,hb=>by omega
 |0,fu+1,i,all,l,hl,hi,hf,hb=>by
  have fB:i=cE.length:=by omega
  subst fB;have h1:cE.drop cE.length=[]:=by simp
  have h2:l.take cE.length=l:=tP (by omega);rw[h1,h2]at hb |-
  simp only[ways,oC,Ih]at hb |-
  have m1:all.length+1<=bQ:=by unfold bQ;omega
  refine⟨l,rfl,h2,?_⟩;unfold f198r;simp only[ij,dt,f199_eq l (by simp only[cH];omega),dm,cX m1]
 |rem+1,fu+1,i,all,l,hl,hi,hf,hb=>by
  have vo:i<cE.length:=by omega
  have x1:cE[i]? =some (cE[i]'vo):=dR _;have x2:drop[i]? =some (drop[i]'(by omega)):=dR _;have x3:l[i]? =some (l[i]'(by omega)):=dR _;have d1:cE.drop i=cE[i]'vo::cE.drop (i+1):=ZO vo;have d2:drop.drop i=drop[i]'(by omega)::drop.drop (i+1):=ZO (by omega);have c0: ¬((i:Int)=(cE.length:Int)):=by omega
  have w1:wr ((i:Int)+1)=((i+1:Nat):Int):=fH (by omega);have m0:i<cU:=by unfold cU;omega
  rw[d1,d2]at hb |-
  generalize cE[i]'vo=y at x1 hb |-
  unfold f198r;simp only[c0,fq,dD,cJ x3,cJ x2,dm,w1,oD];generalize drop[i]'(by omega)=b at x2 hb |-
  cases b with
  |true=>
   simp only[ways,dt]at hb |-
   have ht:(l.set i ⟨0,0⟩).take (i+1)=l.take i++[⟨0,0⟩]:=kg (by omega);obtain⟨l',a1,a2,a3⟩:=f198_eq a s cE drop hn hd rem fu (i+1) all (l.set i ⟨0,0⟩) (by simpa using hl) (by omega) (by omega) (by rw[ht];exact hb);rw[ht]at a2 a3;refine⟨l',by simpa using a1,?_,by simp only[a3,dm]⟩;have:=fC (List.take i) a2;rw[Sw,O1 (by omega),Vg (by simp;omega)]at this;exact this
  |false=>
   simp only[ways,dD]at hb |-
   simp only[cJ x1,dm,cX m0,f200_eq];have Sb:=Bm a (wr (y.cw+s));generalize hP:fx a (wr (y.cw+s))=P at hb Sb |-
   obtain⟨P,e⟩:=P;simp only at hb Sb |-
   by_cases he:e=0
   ·subst he;simp only[rz,xb,fq,dD]at hb |-
    have aaO:(l.set i ⟨0,0⟩).take i=l.take i:=by rw[ZT (eD i)]
    have hW:=λk=>(Lk k P).symm;let W:=λ(Q:List be)=>(Q.filter λp=>!((l.take i).any (mn p.aY))).flatMap λp=>ways a s (cE.drop (i+1)) (drop.drop (i+1)) (l.take i++[p]);have aaP: ∀k,(W (P.take k)).length<=(W P).length:=λk=>by
     have:W P=W (P.take k)++W (P.drop k):=by
      show W P=_;rw[<-ZS,<-Gd,Lk]
     rw[this,lu];omega
    have hb:all.length+(W P).length<=4000000:=hb;have key:=jQ (body:=λ((lJ,wi,Oe):(List be×List (List be)×Int))=>bif (decide (Oe<(P.length:Int)))then((((ix P Oe).bind λVK=>cB (0<=(i:Int))<|cB (i<=lJ.length)<|cB (0+i<=lJ.length)<|(f159 (lJ.take i) VK.aY).bind λr17=>bif (!r17)then((ix lJ (i:Int)).bind λy19=>(f198r fu ((i+1:Nat):Int) cE wi (lJ.set i VK) drop a s).bind λr20=>some (r20.2,r20.1))else(some (lJ,wi))):Option (List be×List (List be))).bind λ((La,Lb):(List be×List (List be)))=>some (.inl (La,Lb,(wr (Oe+1)))))else(some (.inr (wi,lJ))))
     (λk(st:List be×List (List be)×Int)=>st.2.2=(k:Int)/\st.1.length=l.length/\st.1.take i=l.take i/\st.2.1=all++W (P.take k)) (λr=>r.1=all++W P/\r.2.length=l.length/\r.2.take i=l.take i) P.length (s0:=(l.set i ⟨0,0⟩,all,0)) (by omega) ⟨rfl,by simp,aaO,by simp[W]⟩ ?_ ?_
    ·obtain⟨⟨r1,r2⟩,k1,k2,k3,k4⟩:=key;simp only at k2 k3 k4;refine⟨r2,k3,k4,?_⟩;simp only[k1,dm,k2];rfl
    ·rintro k ⟨q1,q2,q3⟩ hk ⟨e1,e2,e3,e4⟩;simp only at e1 e2 e3 e4;subst e1;subst e4;have g1:P[k]? =some (P[k]'hk):=dR _;generalize P[k]'hk=p at g1;have hsP:cH P:=by simp only[cH];omega
     have n1:(0:Int)<=(i:Int):=by omega
     have n2:i<=q1.length:=by omega
     have n3:0+i<=q1.length:=by omega
     have g3:q1[i]? =some (q1[i]'(by omega)):=dR _;have hW1:W (P.take (k+1))=W (P.take k)++W [p]:=by
      show W _=_;rw[dj g1,<-ZS,<-Gd]
     simp only[dr g1,dt,cJ g1,dm,eT hsP g1,cX n1,cX n2,cX n3,e3,f159_eq _ _ (show cH (l.take i)by simp only[cH,F7];omega)];cases hA:(l.take i).any (mn p.aY)
     ·have Zs:W [p]=ways a s (cE.drop (i+1)) (drop.drop (i+1)) (l.take i++[p]):=by
       show List.flatMap _ (List.filter _ [p])=_;simp[hA]
      have ht:(q1.set i p).take (i+1)=l.take i++[p]:=by rw[kg (by omega),e3]
      have eP:=aaP (k+1);rw[hW1,lu,Zs]at eP;obtain⟨l',a1,a2,a3⟩:=f198_eq a s cE drop hn hd rem fu (i+1) (all++W (P.take k)) (q1.set i p) (by simp;omega) (by omega) (by omega) (by rw[ht,lu];omega);rw[ht]at a2 a3;simp only[Lz,dt,cJ g3,dm,a3];refine .inl ⟨_,rfl,rfl,?_,?_,?_⟩
      ·show l'.length=l.length;rw[a1];simp[e2]
      ·have:=fC (List.take i) a2;rw[Sw,O1 (by omega),Vg (by simp;omega)]at this;exact this
      ·show _=all++W (P.take (k+1));rw[hW1,Zs,Ig]
     ·have Zs:W [p]=[]:=by
       show List.flatMap _ (List.filter _ [p])=_;simp[hA]
      simp only[qc,dD,dm];refine .inl ⟨_,rfl,rfl,e2,e3,?_⟩;show _=all++W (P.take (k+1));rw[hW1,Zs,xD]
    ·rintro⟨q1,q2,q3⟩ ⟨e1,e2,e3,e4⟩;simp only at e1 e2 e3 e4;subst e1;subst e4;simp only[oF,fq,dD];exact⟨_,rfl,by simp,e2,e3⟩
   ·simp only[rz,he,O4,ij,dt,xD]at hb |-
    exact⟨l.set i ⟨0,0⟩,by simp,by rw[ZT (eD i)],rfl⟩
theorem f156_ex(a:bY)(s:Int)(cE:List bE)(drop:List Bool)(hn:cE.length<=4000)(hd:drop.length=cE.length)(hw:(ways a s cE drop []).length<=4000000)
  (XH: ∃r,f201 (ways a s cE drop [])=some r/\r.Perm (ways a s cE drop [])): ∃r,f156 a cE drop s=some r/\r.Perm (ways a s cE drop []):=by
 unfold f156;have n1:(0:Int)<=(cE.length:Int):=by omega
 have n2:(cE.length:Int)<=(bQ:Int):=by unfold bQ;omega
 obtain⟨l',_,_,h3⟩:=f198_eq a s cE drop hn hd cE.length cQ 0 [] (List.replicate cE.length ⟨0,0⟩) (by simp) (by omega) (by unfold cQ;omega) (by simpa using hw);have h3:f198 0 cE [] (List.replicate cE.length ⟨0,0⟩) drop a s=some ([]++ways a s (cE.drop 0) (drop.drop 0) ((List.replicate cE.length (⟨0,0⟩:be)).take 0),l'):=h3;simp only[VZ,Re,sA]at h3;obtain⟨r,h4,h5⟩:=XH;simp only[cX n1,cX n2,oD,h3,dm,h4,cX h5.length_eq];exact⟨r,rfl,h5⟩
open Go.Sort
theorem Of(a b:Int):decide (rh a b<0)=decide (a<b):=by
 unfold rh;by_cases h1:a<b
 ·simp[h1]
 ·by_cases h2:b<a<;>simp[h1,h2]
theorem Og{α:Type}{k:α->Int}{fg:α->α->Option Int}{x y:α}(h:fg x y=some (rh (k x) (k y))):fW fg x y=decide (k x<k y):=by
 unfold fW;rw[h];exact Of _ _
theorem B4{α:Type}[DecidableEq α](k:α->Int)(fg:α->α->Option Int)(l:List α)(hg: ∀x∈l,∀y∈l,fg x y=some (rh (k x) (k y)))(hs:cH l)(hd: ∀x∈l,∀y∈l,k x=k y->x=y):
  ∃r,sR fg l=some r/\r.Perm l/\r.Pairwise λx y=>k x<=k y:=by
 have gl: ∀x∈l,∀y∈l,fW fg x y=decide (k x<k y):=λx hx y hy=>Og (hg x hx y hy);obtain⟨r,h1,h2,h3⟩:=NS (fg:=fg) (l:=l) ⟨hs,λx hx y hy=>by rw[hg x hx y hy];rfl,λx hx=>by rw[gl x hx x hx];simp,
  λx hx y hy z hz a b=>by rw[gl x hx y hy]at a;rw[gl y hy z hz]at b;rw[gl x hx z hz];simp at *;omega,
  λx hx y hy z hz a b=>by rw[gl x hx y hy]at a;rw[gl y hy z hz]at b;rw[gl x hx z hz];simp at *;omega,
  λx hx y hy a b=>by rw[gl x hx y hy]at a;rw[gl y hy x hx]at b;simp at a b;exact hd x hx y hy (by omega)⟩
 refine⟨r,h1,h2,?_⟩;rw[D6]at h3 |-
 intro i j hi hj oI;have:=h3 i j hi hj oI;rw[gl _ (h2.mem_iff.1 (JN hj)) _ (h2.mem_iff.1 (JN hi))]at this;simp at this;omega
theorem B5{α:Type}[DecidableEq α](k:α->Int)(fg:α->α->Option Int)(hg: ∀x y,fg x y=some (rh (k x) (k y)))(l:List α)(hs:cH l)(hd: ∀x∈l,∀y∈l,k x=k y->x=y):
 ∃r,sR fg l=some r/\r.Perm l/\r.Pairwise λx y=>k x<=k y:=B4 k fg l (λx _ y _=>hg x y) hs hd
theorem f161_eq(p q:be):f161 p q=some (rh p.aY q.aY):=by unfold f161;rw[f84_eq];rfl
theorem f118_eq(p q:dw):f118 p q=some (rh p.aY q.aY):=by unfold f118;rw[f84_eq];rfl
theorem f71_eq(l:List Int)(h:cH l):f71 l=some (kI l):=by
 unfold f71;rw[dP h]
def lK(e:Int)(pl:List be)(x:bE×Bool):Bool:=
 !(x.2&&decide (x.1.cp.cO=0)&&!(pl.any (mn x.1.cp.aY)))&&(!(!x.2&&pl.any (mn x.1.cp.aY))&&!(!x.2&&decide (0<x.1.cp.cO)&&decide (15<wr (e-x.1.cP))))
theorem B6{α β:Type}{l:List α}{m:List β}{k:Nat}{a:α}{b:β}(h1:l[k]? =some a)(h2:m[k]? =some b):(l.zip m)[k]? =some (a,b):=ZU.2 ⟨h1,h2⟩
theorem f158_eq(d:dl)(c:ct)(ep:List bE)(hl:c.cut.length=ep.length)(hs:cH ep)(hp:cH c.places):f158 d c ep=some ((ep.zip c.cut).all (lK (d.ck.bP.length:Int) c.places)):=by
 have nZ:ep.length<=4194304:=hs;have key: ∃o,f158 d c ep=some o/\o=(ep.zip c.cut).all (lK (d.ck.bP.length:Int) c.places):=by
  unfold f158;refine fc (λk(s:Int)=>s=(k:Int)/\((ep.zip c.cut).take k).all (lK (d.ck.bP.length:Int) c.places)=true) (λo=>match o with
   |.inl _=>(ep.zip c.cut).all (lK (d.ck.bP.length:Int) c.places)=true
   |.inr b=>b=false/\(ep.zip c.cut).all (lK (d.ck.bP.length:Int) c.places)=false) ep.length nZ ⟨rfl,by simp⟩ ?_ ?_ ?_
  ·rintro k s hk ⟨rfl,hi⟩;have e1:ep[k]? =some (ep[k]'hk):=dR _;have e2:c.cut[k]? =some (c.cut[k]'(by omega)):=dR _;generalize ep[k]'hk=n at e1;generalize c.cut[k]'(by omega)=b at e2;have e3:=B6 e1 e2;have hT:lK (d.ck.bP.length:Int) c.places (n,b)=false->(ep.zip c.cut).all (lK (d.ck.bP.length:Int) c.places)=false:=λh=>by
    rw[ZV];exact⟨(n,b),gT e3,by rw[h];simp⟩
   have hN:lK (d.ck.bP.length:Int) c.places (n,b)=true->((ep.zip c.cut).take (k+1)).all (lK (d.ck.bP.length:Int) c.places)=true:=λh=>by
    rw[dj e3,List.all_append,hi];simp[h]
   simp only[dr e1,dt,cJ e1,cJ e2,dm,eT hs e1,f159_eq _ _ hp];unfold lK at hT hN;simp only at hT hN;generalize c.places.any (mn n.cp.aY)=t at hT hN |-
   generalize decide (n.cp.cO=0)=z at hT hN |-
   generalize decide (0<n.cp.cO)=z2 at hT hN |-
   generalize decide (15<wr ((d.ck.bP.length:Int)-n.cP))=z3 at hT hN |-
   cases b<;>cases t<;>cases z<;>cases z2<;>cases z3<;>first|exact .inl ⟨_,rfl,rfl,hN rfl⟩|exact .inr ⟨_,rfl,rfl,hT rfl⟩
  ·rintro s ⟨rfl,hi⟩;simp only[oF,fq,dD];refine⟨_,rfl,?_⟩;rw[tP (by simp;omega)]at hi;exact hi
  ·intro o ho;cases o with
   |inl _=>exact⟨true,rfl,ho.symm⟩
   |inr b=>obtain⟨rfl,h⟩:=ho;exact⟨false,rfl,h.symm⟩
 obtain⟨o,h1,h2⟩:=key;rw[h1,h2]
def mI(x:bE×Bool):Bool:=!x.2&&decide (0<x.1.cp.cO)
def nR(ep:List bE)(cut:List Bool):List bE:=((ep.zip cut).filter mI).map (·.1)
def pg(c:ct)(ep:List bE):List be:=(nR ep c.cut).map (·.cp)++c.places.filter λp=>decide (0<p.cO)
def wZ(d:dl)(c:ct):List Int:=(c.places.filter λp=>!decide (0<p.cO)&&decide (0<p.aY)).map (·.aY)++d.dM.dz.filter λx=>!(c.places.any (mn x))
theorem f111_ex(d:dl)(hd:kv d.dM)(c:ct)(ep:List bE)(hl:c.cut.length=ep.length)(hs:ep.length<=100000)(hp:c.places.length<=100000)(ho:d.dM.dz.length<=100000)
  (XI: ∀x∈pg c ep,∀y∈pg c ep,x.aY=y.aY->x=y):
  ∃x,f111 d c ep=some x/\(x.cV.Perm (pg c ep)/\(x.cV.Pairwise λp q=>p.aY<=q.aY)/\x.held=kI ((nR ep c.cut).map (·.cp.aY))/\x.dz=kI (wZ d c)):=by
 unfold f111;refine fc (λk(s:List be×List Int×Int)=>s.2.2=(k:Int)/\s.1=((((ep.zip c.cut).take k).filter mI).map (·.1)).map (·.cp)/\s.2.1=((((ep.zip c.cut).take k).filter mI).map (·.1)).map (·.cp.aY))
  (λr=>r.1=(nR ep c.cut).map (·.cp)/\r.2=(nR ep c.cut).map (·.cp.aY)) ep.length (by omega) ⟨rfl,by simp,by simp⟩ ?_ ?_ ?_
 ·rintro k ⟨s1,s2,s3⟩ hk ⟨e0,e1,e2⟩;simp only at e0 e1 e2;subst e0;subst e1;subst e2;have x1:ep[k]? =some (ep[k]'hk):=dR _;have x2:c.cut[k]? =some (c.cut[k]'(by omega)):=dR _;generalize ep[k]'hk=n at x1;generalize c.cut[k]'(by omega)=b at x2;have x3:=B6 x1 x2;have dJ:(((ep.zip c.cut).take k).filter mI).length<=k:=by
   have:=tQ mI ((ep.zip c.cut).take k);simp only[F7]at this;omega
  have m1:((((ep.zip c.cut).take k).filter mI).map (·.1)).length+1<=bQ:=by simp only[nE];unfold bQ;omega
  have m2:(((((ep.zip c.cut).take k).filter mI).map (·.1)).map λx:bE=>x.cp).length+1<=bQ:=by simp only[nE];unfold bQ;omega
  have m3:(((((ep.zip c.cut).take k).filter mI).map (·.1)).map λx:bE=>x.cp.aY).length+1<=bQ:=by simp only[nE];unfold bQ;omega
  simp only[dr x1,dt,cJ x1,cJ x2,dm,eT (l:=ep) (by simp only[cH];omega) x1,cX m2,cX m3];have hf:mI (n,b)=(!b&&decide (0<n.cp.cO)):=rfl;have ht:((ep.zip c.cut).take (k+1)).filter mI=((ep.zip c.cut).take k).filter mI++(bif mI (n,b)then [(n,b)]else []):=by
   rw[dj x3,Gd];cases hq:mI (n,b)<;>simp[hq]
  cases b
  ·simp only[Lz,dt,dm];cases hz:decide (0<n.cp.cO)
   ·simp only[dD,dm];refine .inl ⟨_,rfl,rfl,?_,?_⟩<;>rw[ht,hf,hz]<;>simp
   ·simp only[dt,dm];refine .inl ⟨_,rfl,rfl,?_,?_⟩<;>rw[ht,hf,hz]<;>simp
  ·simp only[qc,dD,dm];refine .inl ⟨_,rfl,rfl,?_,?_⟩<;>rw[ht,hf]<;>simp
 ·rintro⟨s1,s2,s3⟩ ⟨e0,e1,e2⟩;simp only at e0 e1 e2;subst e0;subst e1;subst e2;simp only[oF,fq,dD];have ht:(ep.zip c.cut).take ep.length=ep.zip c.cut:=tP (by simp;omega);refine⟨_,rfl,?_,?_⟩<;>rw[ht]<;>rfl
 rintro⟨D1,H1⟩ ⟨e1,e2⟩;simp only at e1 e2;subst e1;subst e2;have XD:(nR ep c.cut).length<=100000:=by
  unfold nR;have:=tQ mI (ep.zip c.cut);simp only[List.length_zip,nE]at this |-
  omega
 refine fc (λk(s:List be×List Int×Int)=>s.2.2=(k:Int)/\s.1=(nR ep c.cut).map (·.cp)++(c.places.take k).filter (λp=>decide (0<p.cO))/\s.2.1=((c.places.take k).filter λp=>!decide (0<p.cO)&&decide (0<p.aY)).map (·.aY))
  (λr=>r.1=pg c ep/\r.2=(c.places.filter λp=>!decide (0<p.cO)&&decide (0<p.aY)).map (·.aY)) c.places.length (by omega) ⟨rfl,by simp,by simp⟩ ?_ ?_ ?_
 ·rintro k ⟨s1,s2,s3⟩ hk ⟨e0,e1,e2⟩;simp only at e0 e1 e2;subst e0;subst e1;subst e2;have x1:c.places[k]? =some (c.places[k]'hk):=dR _;generalize c.places[k]'hk=p at x1;have l1:=tQ (λp:be=>decide (0<p.cO)) (c.places.take k);have l2:=tQ (λp:be=>!decide (0<p.cO)&&decide (0<p.aY)) (c.places.take k);simp only[F7]at l1 l2;have m1:((nR ep c.cut).map (λx:bE=>x.cp)++(c.places.take k).filter (λp=>decide (0<p.cO))).length+1<=bQ:=by simp only[lu,nE];unfold bQ;omega
  have m2:(((c.places.take k).filter λp=>!decide (0<p.cO)&&decide (0<p.aY)).map (λx:be=>x.aY)).length+1<=bQ:=by simp only[nE];unfold bQ;omega
  simp only[dr x1,dt,cJ x1,dm,eT (l:=c.places) (by simp only[cH];omega) x1,cX m1,cX m2];have XJ:(c.places.take (k+1)).filter (λp=>decide (0<p.cO))=(c.places.take k).filter (λp=>decide (0<p.cO))++(bif decide (0<p.cO)then [p]else []):=by
   rw[dj x1,Gd];cases hq:decide (0<p.cO)<;>simp at hq<;>simp[hq]
  have AG:(c.places.take (k+1)).filter (λp=>!decide (0<p.cO)&&decide (0<p.aY))=(c.places.take k).filter (λp=>!decide (0<p.cO)&&decide (0<p.aY))++(bif (!decide (0<p.cO)&&decide (0<p.aY))then [p]else []):=by
   rw[dj x1,Gd];cases hq:(!decide (0<p.cO)&&decide (0<p.aY))<;>simp[Vb,hq]
  cases hz:decide (0<p.cO)
  ·cases DV:decide (0<p.aY)
   ·simp only[dD,dm];refine .inl ⟨_,rfl,rfl,?_,?_⟩
    ·show _=_++List.filter _ (List.take (k+1) _);rw[XJ,hz];simp
    ·show _=List.map _ (List.filter _ (List.take (k+1) _));rw[AG,hz,DV];simp
   ·simp only[dD,dt,dm];refine .inl ⟨_,rfl,rfl,?_,?_⟩
    ·show _=_++List.filter _ (List.take (k+1) _);rw[XJ,hz];simp
    ·show _=List.map _ (List.filter _ (List.take (k+1) _));rw[AG,hz,DV];simp
  ·simp only[dt,dm];refine .inl ⟨_,rfl,rfl,?_,?_⟩
   ·show _=_++List.filter _ (List.take (k+1) _);rw[XJ,hz];simp
   ·show _=List.map _ (List.filter _ (List.take (k+1) _));rw[AG,hz];simp
 ·rintro⟨s1,s2,s3⟩ ⟨e0,e1,e2⟩;simp only at e0 e1 e2;subst e0;subst e1;subst e2;simp only[oF,fq,dD];refine⟨_,rfl,?_,?_⟩<;>rw[AN]<;>rfl
 rintro⟨D2,O2⟩ ⟨e1,e2⟩;simp only at e1 e2;subst e1;subst e2;have l2:=tQ (λp:be=>!decide (0<p.cO)&&decide (0<p.aY)) c.places;refine fc (λk(s:List Int×Int)=>s.2=(k:Int)/\s.1=(c.places.filter λp=>!decide (0<p.cO)&&decide (0<p.aY)).map (·.aY)++(d.dM.dz.take k).filter λx=>!(c.places.any (mn x))) (λr=>r=wZ d c) d.dM.dz.length (by omega) ⟨rfl,by simp⟩ ?_ ?_ ?_
 ·rintro k ⟨s1,s2⟩ hk ⟨e0,e1⟩;simp only at e0 e1;subst e0;subst e1;have x1:d.dM.dz[k]? =some (d.dM.dz[k]'hk):=dR _;generalize d.dM.dz[k]'hk=x at x1;have l3:=tQ (λx:Int=>!(c.places.any (mn x))) (d.dM.dz.take k);simp only[F7]at l3;have m1:((c.places.filter λp=>!decide (0<p.cO)&&decide (0<p.aY)).map (λx:be=>x.aY)++(d.dM.dz.take k).filter λx=>!(c.places.any (mn x))).length+1<=bQ:=by
   simp only[lu,nE];unfold bQ;omega
  simp only[dr x1,dt,cJ x1,dm,eT (l:=d.dM.dz) (by simp only[cH];omega) x1,f159_eq c.places x (by simp only[cH];omega),cX m1];have ht:(d.dM.dz.take (k+1)).filter (λx=>!(c.places.any (mn x)))=(d.dM.dz.take k).filter (λx=>!(c.places.any (mn x)))++(bif !(c.places.any (mn x))then [x]else []):=by
   rw[dj x1,Gd];cases hq:(!(c.places.any (mn x)))<;>simp[Vb,hq]
  cases hz:c.places.any (mn x)
  ·refine .inl ⟨_,rfl,rfl,?_⟩;show _=_++List.filter _ (List.take (k+1) _);rw[ht,hz];simp
  ·refine .inl ⟨_,rfl,rfl,?_⟩;show _=_++List.filter _ (List.take (k+1) _);rw[ht,hz];simp
 ·rintro⟨s1,s2⟩ ⟨e0,e1⟩;simp only at e0 e1;subst e0;subst e1;simp only[oF,fq,dD];refine⟨_,rfl,?_⟩;rw[AN];rfl
 rintro O3 rfl;have hD:(pg c ep).length<=300000:=by
  unfold pg;have:=tQ (λp:be=>decide (0<p.cO)) c.places;simp only[lu,nE];omega
 have hO:(wZ d c).length<=300000:=by
  unfold wZ;have:=tQ (λx:Int=>!(c.places.any (mn x))) d.dM.dz;simp only[lu,nE];omega
 obtain⟨r,h1,h2,h3⟩:=B5 be.aY f161 f161_eq (pg c ep) (by simp only[cH];omega) XI;have s1:cH ((nR ep c.cut).map λx:bE=>x.cp.aY):=by simp only[cH,nE];omega
 have s2:cH (wZ d c):=by simp only[cH];omega
 have l4:=oY ((nR ep c.cut).map λx:bE=>x.cp.aY);have l5:=oY (wZ d c);unfold f160;simp only[h1,dm,cX h2.length_eq,f71_eq _ s1,cX l4,f71_eq _ s2,cX l5];exact⟨_,rfl,h2,h3,rfl,rfl⟩
theorem f157_eq(l:List Bool)(h:cH l):f157 l=some l:=by
 unfold f157;by_cases c:l=[]
 ·subst c;simp
 ·have:l.length<=bQ:=by simp only[cH]at h;unfold bQ;omega
  rw[show l.isEmpty=false from by simpa using c];simp[cX this]
structure mJ (d:dl) (ep:List bE) (c:ct) (x:cq) (g:List cG):Prop where
 ten:(ep.zip c.cut).all (lK (d.ck.bP.length:Int) c.places)=true
 cho:f111 d c ep=some x
 rea:f112 d x=some g
structure Jq (d:dl) (ep:List bE) (c:ct):Prop where
 cut:c.cut.length=ep.length
 pl:c.places.length<=100000
 Em:(ep.zip c.cut).all (lK (d.ck.bP.length:Int) c.places)=true-> ∀x∈pg c ep,∀y∈pg c ep,x.aY=y.aY->x=y
theorem f111_small(d:dl)(c:ct)(ep:List bE)(hs:ep.length<=100000)(hp:c.places.length<=100000)(ho:d.dM.dz.length<=100000){x:cq}
  (h:x.cV.Perm (pg c ep)/\(x.cV.Pairwise λp q=>p.aY<=q.aY)/\x.held=kI ((nR ep c.cut).map (·.cp.aY))/\x.dz=kI (wZ d c)):kv x:=by
 have XD:(nR ep c.cut).length<=100000:=by
  unfold nR;have:=tQ mI (ep.zip c.cut);simp only[List.length_zip,nE]at this |-
  omega
 obtain⟨h1,_,h3,h4⟩:=h;refine⟨?_,?_,?_⟩
 ·have:=h1.length_eq;unfold pg at this;have l1:=tQ (λp:be=>decide (0<p.cO)) c.places;simp only[lu,nE]at this;simp only[cH];omega
 ·simp only[cH,h3,oY,nE];omega
 ·have l1:=tQ (λx:Int=>!(c.places.any (mn x))) d.dM.dz;have l2:=tQ (λp:be=>!decide (0<p.cO)&&decide (0<p.aY)) c.places;simp only[cH,h4,oY,wZ,lu,nE];omega
theorem FO {R : Type} (B : List Bool → Option (R ⊕ Unit)) (F : List Bool → R → Prop) (N : List Bool → Prop) : ∀ L : List (List Bool), (∀ l ∈ L, ∃ o, B l = some o ∧ (match o with | .inl r => F l r | .inr _ => N l)) →
    ∃ o, k9 B L = some o ∧ (match o with | .inl r => ∃ l ∈ L, F l r | .inr _ => ∀ l ∈ L, N l)
  | [], _ => ⟨_, rfl, by simp⟩
  | l :: L, h => by
    obtain ⟨o, h1, h2⟩ := h l (by simp);simp only [k9, h1];cases o with
    | inl r => exact ⟨_, rfl, l, by simp, h2⟩
    | inr _ =>
      obtain ⟨o, h3, h4⟩ := FO B F N L fun l hl => h l (by simp [hl]);refine ⟨o, h3, ?_⟩;cases o with
      | inl r => obtain ⟨l', a, b⟩ := h4; exact ⟨l', by simp [a], b⟩
      | inr _ => intro l' vr; simp at vr; rcases vr with rfl | vr
                 · exact h2
                 · exact h4 l' vr
theorem sr: ∀(k m:Nat)l,l∈fA k m->l.length=k
 |0,0,l,h=>by simp[fA]at h;subst h;rfl
 |0,m+1,l,h=>by simp[fA]at h
 |k+1,0,l,h=>by
  simp[fA]at h;obtain⟨x,h1,rfl⟩:=h;simp[sr k 0 x h1]
 |k+1,m+1,l,h=>by
  simp[fA]at h;rcases h with⟨x,h1,rfl⟩|⟨x,h1,rfl⟩
  ·simp[sr k (m+1) x h1]
  ·simp[sr k m x h1]
theorem p8{n:Nat}{l:List Bool}(h:l∈lI n):l.length=n:=by
 unfold lI at h;obtain⟨m,_,h2⟩:=tK.1 h;exact sr n m l h2
theorem Jr{R:Type}(B:List Bool->Option (Unit⊕(R⊕Unit)))(F:List Bool->R->Prop)(N S:List Bool->Prop): ∀L:List (List Bool),(∀l∈L,∃o,B l=some o/\(match o with|.inl _=>S l|.inr (.inl r)=>F l r|.inr (.inr _)=>N l))->
  ∃o,pY B L=some o/\(match o with
   |.inl _=> ∃a l b,L=a++l::b/\S l/\ ∀x∈a,N x
   |.inr (.inl r)=> ∃l∈L,F l r
   |.inr (.inr _)=> ∀l∈L,N l)
 | [],_=>⟨_,rfl,by simp⟩
 |l::L,h=>by
  obtain⟨o,h1,h2⟩:=h l (by simp);simp only[pY,h1];rcases o with u|r|u
  ·exact⟨_,rfl,[],l,L,rfl,h2,by simp⟩
  ·exact⟨_,rfl,l,by simp,h2⟩
  ·obtain⟨o,h3,h4⟩:=Jr B F N S L λl hl=>h l (by simp[hl]);refine⟨o,h3,?_⟩;rcases o with u|r|u
   ·obtain⟨a,x,b,k1,k2,k3⟩:=h4;refine⟨l::a,x,b,by rw[k1];rfl,k2,λy hy=>?_⟩;simp at hy;rcases hy with rfl|hy
    ·exact h2
    ·exact k3 y hy
   ·obtain⟨l',a,b⟩:=h4;exact⟨l',by simp[a],b⟩
   ·intro l' vr;simp at vr;rcases vr with rfl|vr
    ·exact h2
    ·exact h4 l' vr
section
variable (d:dl) (hd:FN d) (ep:List bE) (hu:ep.length<=100000) (ho:d.dM.dz.length<=100000) (e6:ct) (e7:cq) (e8:List cG) (e9:Bool) (cE:List bE)
include hd hu ho
theorem f296_ex(c:ct)(hc:Jq d ep c)(ht:(ep.zip c.cut).all (lK (d.ck.bP.length:Int) c.places)=true): ∃o,f296 d ep e6 e7 e8 e9 cE ep c=some o/\(match o with
  |.inl r=>mJ d ep c r.2 r.1/\r.1≠[]
  |.inr _=> ∃x,mJ d ep c x []):=by
 unfold f296;obtain⟨x,h1,h2⟩:=f111_ex d hd.ch c ep hc.cut hu hc.pl ho (hc.Em ht);obtain⟨g,h3,_⟩:=f112_ex d hd x (f111_small d c ep hu hc.pl ho h2);simp only[h1,dm,h3];by_cases hg:g=[]
 ·subst hg;exact⟨_,rfl,x,ht,h1,h3⟩
 ·have c1:(0:Int)<(g.length:Int):=by
   have:=Pu.2 hg;omega
  simp only[c1,ij,dt];exact⟨_,rfl,⟨ht,h1,h3⟩,hg⟩
theorem f295_ex(al:List (List be))(Gn:cH al)(cut:List Bool)(Oh:cut.length=ep.length)(hc: ∀pl∈al,Jq d ep ⟨pl,cut⟩)(e0 e31:Int): ∃o,f295 cE d ep ep e6 e7 e8 e9 al e0 e31 cut=some o/\(match o with
  |.inl r=>r.2.2.places∈al/\r.2.2.cut=cut/\mJ d ep r.2.2 r.2.1 r.1/\r.1≠[]
  |.inr _=> ∀pl∈al,(ep.zip cut).all (lK (d.ck.bP.length:Int) pl)=true-> ∃x,mJ d ep ⟨pl,cut⟩ x []):=by
 have aaQ:al.length<=4194304:=Gn;unfold f295;refine fc (λk(s:Int)=>s=(k:Int)/\ ∀pl∈al.take k,(ep.zip cut).all (lK (d.ck.bP.length:Int) pl)=true-> ∃x,mJ d ep ⟨pl,cut⟩ x []) (λo=>match o with
  |.inl _=> ∀pl∈al,(ep.zip cut).all (lK (d.ck.bP.length:Int) pl)=true-> ∃x,mJ d ep ⟨pl,cut⟩ x []
  |.inr (.inl r)=>r.2.2.places∈al/\r.2.2.cut=cut/\mJ d ep r.2.2 r.2.1 r.1/\r.1≠[]
  |.inr (.inr _)=>False) al.length aaQ ⟨rfl,by simp⟩ ?_ ?_ ?_
 ·rintro k s hk ⟨rfl,hi⟩;have e1:al[k]? =some (al[k]'hk):=dR _;generalize al[k]'hk=pl at e1;have hm:=gT e1;have DT:=hc pl hm;have Cv:=DT.pl;simp only at Cv;simp only[dr e1,dt,cJ e1,dm,eT Gn e1,f157_eq cut (by simp only[cH];omega),f158_eq d ⟨pl,cut⟩ ep Oh (by simp only[cH];omega) (by simp only[cH];omega)];cases ht:(ep.zip cut).all (lK (d.ck.bP.length:Int) pl)
  ·refine .inl ⟨_,rfl,rfl,λp hp h=>?_⟩;rw[dj e1,lT]at hp;rcases hp with hp|hp
   ·exact hi p hp h
   ·simp at hp;subst hp;rw[ht]at h;cases h
  ·obtain⟨o,h1,h2⟩:=f296_ex d hd ep hu ho e6 e7 e8 e9 cE ⟨pl,cut⟩ DT ht;simp only[dt,h1,dm];cases o with
   |inl r=>exact .inr ⟨_,rfl,hm,rfl,h2.1,h2.2⟩
   |inr _=>
    refine .inl ⟨_,rfl,rfl,λp hp h=>?_⟩;rw[dj e1,lT]at hp;rcases hp with hp|hp
    ·exact hi p hp h
    ·simp at hp;subst hp;exact h2
 ·rintro s ⟨rfl,hi⟩;simp only[oF,fq,dD];exact⟨_,rfl,λp hp=>hi p (by simpa using hp)⟩
 ·intro o h;rcases o with u|r|u
  ·exact⟨_,rfl,h⟩
  ·exact⟨_,rfl,h⟩
  ·exact h.elim
theorem f294_ex(drop:List Bool)(pI:cE.length<=4000)(Gp:drop.length=cE.length)(hun:ep.length<=4194303)(e0:Int)(al:List (List be))(Gn:f156 d.kQ cE drop d.shift=some al)(Pr:cH al)(hc: ∀cut,cut.length=ep.length-> ∀pl∈al,Jq d ep ⟨pl,cut⟩):
  ∃o,f294 cE d ep ep e6 e7 e8 e9 e0 drop=some o/\(match o with
  |.inl _=>drop.all (λb=>b)=true
  |.inr (.inl r)=>(drop.all λb=>b)=false/\r.2.2.places∈al/\r.2.2.cut.length=ep.length/\mJ d ep r.2.2 r.2.1 r.1/\r.1≠[]
  |.inr (.inr _)=> ∀pl∈al,∀cut∈lI ep.length,(ep.zip cut).all (lK (d.ck.bP.length:Int) pl)=true-> ∃x,mJ d ep ⟨pl,cut⟩ x []):=by
 have hD:f155 drop false=some (drop.any λb=>!b):=by
  unfold f155 f197;rw[fZ drop (λb=>!b) (λi _=>(i:Int)) (by simp only[cH];omega)]
  ·simp only[dm,gJ];rw[<-gz];unfold iF;cases drop.findIdx? _<;>simp
  ·intro i y hy;simp only[dr hy,dt,cJ hy,dm];cases y<;>rfl
  ·simp
 unfold f294;simp only[hD,dm];cases hz:drop.any λb=>!b
 ·refine⟨_,rfl,?_⟩;simp only[Vf,pA]at hz |-
  intro b hb;have:=hz b hb;simpa using this
 ·simp only[qc,dD,Gn,dm,f154];obtain⟨o,h1,h2⟩:=FO (f295 cE d ep ep e6 e7 e8 e9 al e0 (ep.length:Int)) (λl r=>r.2.2.places∈al/\r.2.2.cut=l/\mJ d ep r.2.2 r.2.1 r.1/\r.1≠[])
   (λl=> ∀pl∈al,(ep.zip l).all (lK (d.ck.bP.length:Int) pl)=true-> ∃x,mJ d ep ⟨pl,l⟩ x []) (lI ep.length) λl hl=>by
    have XK:=p8 hl;obtain⟨o,a1,a2⟩:=f295_ex d hd ep hu ho e6 e7 e8 e9 cE al Pr l XK (hc l XK) e0 (ep.length:Int);refine⟨o,a1,?_⟩;rcases o with r|u
    ·exact a2
    ·exact a2
  have h3:=f195_1_eq cE d ep ep e6 e7 e8 e9 al e0 ep.length hun o h1;simp only[h3,dm];cases o with
  |inl r=>
   obtain⟨l,k1,k2,k3,k4⟩:=h2;refine⟨_,rfl,?_,k2,by rw[k3];exact p8 k1,k4⟩;rw[ZV];obtain⟨b,hb,hn⟩:=AO.1 hz;exact⟨b,hb,by simpa using hn⟩
  |inr _=>exact⟨_,rfl,λpl hp cut Oh=>h2 cut Oh pl hp⟩
end
theorem f78_ex(d:dl)(hd:FN d)(cE ep:List bE)(hu:ep.length<=100000)(ho:d.dM.dz.length<=100000)(pI:cE.length<=4000)(al:List Bool->List (List be))
  (Gn: ∀drop,drop.length=cE.length->f156 d.kQ cE drop d.shift=some (al drop)/\cH (al drop)/\ ∀cut,cut.length=ep.length-> ∀pl∈al drop,Jq d ep ⟨pl,cut⟩):
  ∃r,f78 d cE ep=some r/\(if r.2.2.2 then(∃drop∈lI cE.length,(drop.all λb=>b)=false/\r.1.places∈al drop)/\r.1.cut.length=ep.length/\mJ d ep r.1 r.2.1 r.2.2.1/\r.2.2.1≠[]
   else(∃a l b,lI cE.length=a++l::b/\(l.all λb=>b)=true/\ ∀drop∈a,∀pl∈al drop,∀cut∈lI ep.length,(ep.zip cut).all (lK (d.ck.bP.length:Int) pl)=true-> ∃x,mJ d ep ⟨pl,cut⟩ x [])\/
    ∀drop∈lI cE.length,∀pl∈al drop,∀cut∈lI ep.length,(ep.zip cut).all (lK (d.ck.bP.length:Int) pl)=true-> ∃x,mJ d ep ⟨pl,cut⟩ x []):=by
 obtain⟨o,h1,h2⟩:=Jr (f294 cE d ep ep ⟨[],[]⟩ ⟨[],[],[]⟩ [] false (cE.length:Int)) (λl r=>(l.all λb=>b)=false/\r.2.2.places∈al l/\r.2.2.cut.length=ep.length/\mJ d ep r.2.2 r.2.1 r.1/\r.1≠[])
  (λl=> ∀pl∈al l,∀cut∈lI ep.length,(ep.zip cut).all (lK (d.ck.bP.length:Int) pl)=true-> ∃x,mJ d ep ⟨pl,cut⟩ x []) (λl=>(l.all λb=>b)=true) (lI cE.length) λl hl=>by
   have XK:=p8 hl;obtain⟨k1,k2,k3⟩:=Gn l XK;obtain⟨o,a1,a2⟩:=f294_ex d hd ep hu ho ⟨[],[]⟩ ⟨[],[],[]⟩ [] false cE l pI XK (by omega) (cE.length:Int) (al l) k1 k2 k3;refine⟨o,a1,?_⟩;rcases o with u|r|u
   ·exact a2
   ·exact a2
   ·exact a2
 have h3:=f195_eq cE d ep ep ⟨[],[]⟩ ⟨[],[],[]⟩ [] false cE.length (by omega) o h1;unfold f78 f153;simp only[f154,f110,dm,h3];rcases o with u|r|u
 ·rw[fJ (r:=((⟨[],[]⟩:ct),(⟨[],[],[]⟩:cq),([]:List cG),false)) rfl _ (by unfold cQ;omega)];exact⟨_,rfl,.inl h2⟩
 ·obtain⟨l,k1,k2⟩:=h2;rw[fJ (r:=(r.2.2,r.2.1,r.1,true)) rfl _ (by unfold cQ;omega)];exact⟨_,rfl,⟨l,k1,k2.1,k2.2.1⟩,k2.2.2⟩
 ·rw[fJ (r:=((⟨[],[]⟩:ct),(⟨[],[],[]⟩:cq),([]:List cG),false)) rfl _ (by unfold cQ;omega)];exact⟨_,rfl,.inr h2⟩
end Go.Proofs.YtfdnjgoegamonaaGreatDoor
