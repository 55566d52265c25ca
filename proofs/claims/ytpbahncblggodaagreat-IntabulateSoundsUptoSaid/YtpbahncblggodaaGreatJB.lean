/- Plain laws, joined by gen/joinH.py. -/
import Derived.Test.YtpbahncblggodaaGreatJA
set_option linter.all false
namespace Go.Proofs.YtpbahncblggodaaGreat
open Go Go.Am
set_option maxRecDepth 100000
theorem ga.len{c:bR}(h:ga c):c.cD.length<=14:=by
 have key: ∀(i:Nat)p,c.cD[i]? =some p->(i:Int)+1<=p.bc:=by
  intro i
  induction i with
  |zero=>intro p hp;have:=h.dc p (gx hp);omega
  |succ i ih=>
   intro p hp
   have hi:=(fM.1 hp).1
   have e1:c.cD[i]? =some (c.cD[i]'(by omega)):=dC _
   have:=ih _ e1
   have:=h.da i _ p e1 hp
   omega
 rcases EI 14 c.cD.length with hl|hl
 ·have e1:c.cD[14]? =some (c.cD[14]'hl):=dC _
  have h1:=key 14 _ e1
  have h2:=h.dc _ (gx e1)
  omega
 ·exact hl
theorem f16_ex(h:ee)(hh:ni h)(h0:f39 h=some 0)(c:bR)(hc:jM c): ∃r,f16 h c=some r/\(r.2=0->ga c/\f60 h c=some r.1/\r.1.length<=200/\ ∀g∈r.1,Fit h c g)/\
  (ga c-> ∀l,f60 h c=some l->l.length<=200->r=(l,0)):=by
 unfold f16
 rw[h0]
 simp only[cH,ne_eq,not_true_eq_false,decide_false,cond_false]
 obtain⟨b,e1,e2⟩:=f59_ex c hc.d hc.h hc.o
 simp only[e1,cH]
 cases b
 ·exact⟨_,rfl,λh=>by simp at h,λh=>by have:=e2.2 h;cases this⟩
 have hr:=e2.1 rfl
 obtain⟨l,e3,e4,e5⟩:=f60_ex h hh c hr.len hc.o
 simp only[oe,cond_false,e3,cH]
 by_cases c1:200<(l.length:Int)
 ·simp only[c1,decide_true,cond_true]
  exact⟨_,rfl,λh=>by simp at h,λ_ l' h1 h2=>by cases h1;omega⟩
 ·simp only[c1,decide_false,cond_false]
  exact⟨_,rfl,λ_=>⟨hr,rfl,by show l.length<=200;omega,e5⟩,λ_ l' h1 h2=>by cases h1;rfl⟩
theorem f226_ex(d:cM)(hh:ni d.h)(h0:f39 d.h=some 0)(x:bR)(k:cp)(hc:jM d.dw)(hx:jM x)(hk:bT k.dg)(l:List cp)(hl:bT l)(hf: ∀g∈l,bT g.dg):
  ∃b,f226 l d x k=some b/\(b=true↔ ∃g∈l,Steps d.h d.dw g x k):=by
 have uv:l.length<=4194304:=hl
 unfold f226 f276
 have key: ∃o,bY (σ:=Int) (τ:=(Unit⊕Int)) (λ(va:Int)=>bif (decide (va<(l.length:Int)))then((ix l va).bind λy2=>(f227 y2 d x k).bind λr3=>bif r3 then(some (.inr (.inr va)))else(some (.inl (wr (va+1)))))else(some (.inr (.inl ())))) cy 0=some o/\
   (match o with
    |.inl _=> ¬ ∃g∈l,Steps d.h d.dw g x k
    |.inr z=>0<=z/\ ∃g∈l,Steps d.h d.dw g x k):=by
  refine jJ (λn(s:Int)=>s=(n:Int)/\ ¬ ∃g∈l.take n,Steps d.h d.dw g x k) _ l.length uv ⟨rfl,by simp⟩ ?_ ?_
  ·rintro n s hn ⟨rfl,hi⟩
   have e1:l[n]? =some (l[n]'hn):=dC _
   generalize l[n]'hn=g at e1
   have hm:=gx e1
   obtain⟨r,e2,e3⟩:=f228_ex d.h hh h0 d.dw g x k hc hx (hf g hm) hk
   simp only[cJ e1,cond_true,b9 e1,cH,dB hl e1,f227,e2]
   by_cases c1:r.2=0
   ·simp only[c1,decide_true,cond_true]
    exact .inr ⟨_,rfl,by omega,g,hm,e3.1 c1⟩
   ·simp only[c1,decide_false,cond_false]
    refine .inl ⟨_,rfl,rfl,?_⟩
    rintro⟨g',j0,hs⟩
    rw[cN e1,la]at j0
    rcases j0 with j0|j0
    ·exact hi ⟨g',j0,hs⟩
    ·simp at j0;subst j0
     exact c1 (e3.2 hs)
  ·rintro s ⟨rfl,hi⟩
   simp only[kF,decide_false,cond_false]
   exact⟨_,rfl,by simpa using hi⟩
 obtain⟨o,k1,k2⟩:=key
 simp only[k1,cH]
 cases o with
 |inl _=>exact⟨false,by simp,by simpa using k2⟩
 |inr z=>exact⟨true,by simp[k2.1],by simpa using k2.2⟩
structure D4 (d:cM):Prop where
 hh:ni d.h
 h0:f39 d.h=some 0
 ch:jM d.dw
 po:d.eY.length<=200
 pf: ∀g∈d.eY,bT g.dg
theorem f161_ex(d:cM)(hd:D4 d)(x:bR)(hx:jM x): ∃l,f161 d x=some l/\(l.length<=200/\(∀k∈l,Fit d.h x k)/\(l≠[]->ga x/\ ∃L,f60 d.h x=some L/\L.length<=200/\ ∀k∈l,k∈L)/\
  (d.bM.bG.length≠0-> ∀k∈l,∃g∈d.eY,Steps d.h d.dw g x k)/\
  (ga x-> ∀L,f60 d.h x=some L->L.length<=200-> ∀k∈L,(d.bM.bG.length=0\/ ∃g∈d.eY,Steps d.h d.dw g x k)->k∈l)):=by
 unfold f161
 refine gY (f16_ex d.h hd.hh hd.h0 x hx) ?_
 rintro⟨l,e⟩ ⟨h1,h2⟩
 simp only at h1 h2
 by_cases c1:e=0
 ·subst c1
  obtain⟨r1,r2,r3,r4⟩:=h1 rfl
  have VR:=r1.len
  have r3:l.length<=200:=r3
  simp only[ne_eq,not_true_eq_false,decide_false,cond_false]
  by_cases c2:d.bM.bG.length=0
  ·have e:decide ((d.bM.bG.length:Int)=0)=true:=by simp[c2]
   simp only[e,cond_true]
   refine⟨l,rfl,r3,r4,λ_=>⟨r1,l,r2,r3,λ_ h=>h⟩,λh=>absurd c2 h,λ_ L hL _ k hk _=>?_⟩
   rw[r2]at hL;cases hL;exact hk
  ·have e:decide ((d.bM.bG.length:Int)=0)=false:=decide_eq_false (by omega)
   simp only[e,cond_false]
   refine eO (λn(s:List cp×Int)=>s.2=(n:Int)/\s.1.length<=n/\(∀k∈s.1,k∈l)/\(∀k∈s.1,∃g∈d.eY,Steps d.h d.dw g x k)/\ ∀k∈l.take n,(∃g∈d.eY,Steps d.h d.dw g x k)->k∈s.1)
    (λm=>m.length<=l.length/\(∀k∈m,k∈l)/\(∀k∈m,∃g∈d.eY,Steps d.h d.dw g x k)/\ ∀k∈l,(∃g∈d.eY,Steps d.h d.dw g x k)->k∈m) l.length (by omega) ⟨rfl,by simp,by simp,by simp,by simp⟩ ?_ ?_ ?_
   ·rintro n ⟨s1,s2⟩ hn ⟨e0,m1,m2,m3,m4⟩
    simp only at e0 m1 m2 m3 m4
    subst e0
    have e1:l[n]? =some (l[n]'hn):=dC _
    generalize l[n]'hn=k at e1
    have hm:=gx e1
    have hk:bT k.dg:=by have:=(r4 k hm).len;simp only[bT];omega
    obtain⟨b,b1,b2⟩:=f226_ex d hd.hh hd.h0 x k hd.ch hx hk d.eY (by have:=hd.po;simp only[bT];omega) hd.pf
    have n1:s1.length+1<=bJ:=by unfold bJ;omega
    simp only[cJ e1,cond_true,b9 e1,cH,dB (l:=l) (by simp only[bT];omega) e1,b1,de n1]
    cases b
    ·refine .inl ⟨_,rfl,rfl,by show s1.length<=n+1;omega,m2,m3,λk' kX hs=>?_⟩
     rw[cN e1,la]at kX
     rcases kX with kX|kX
     ·exact m4 k' kX hs
     ·simp at kX;subst kX
      have:=b2.2 hs;cases this
    ·refine .inl ⟨_,rfl,rfl,by simp;omega,λk' kX=>?_,λk' kX=>?_,λk' kX hs=>?_⟩
     ·rcases la.1 kX with kX|kX
      ·exact m2 k' kX
      ·simp at kX;subst kX;exact hm
     ·rcases la.1 kX with kX|kX
      ·exact m3 k' kX
      ·simp at kX;subst kX;exact b2.1 rfl
     ·rw[cN e1,la]at kX
      rcases kX with kX|kX
      ·exact CF _ (m4 k' kX hs)
      ·exact EK _ kX
   ·rintro⟨s1,s2⟩ ⟨e0,m1,m2,m3,m4⟩
    simp only at e0 m1 m2 m3 m4
    subst e0
    simp only[kF,decide_false,cond_false]
    exact⟨_,rfl,m1,m2,m3,λk hk=>m4 k (by simpa using hk)⟩
   ·rintro m ⟨m1,m2,m3,m4⟩
    refine⟨m,rfl,by omega,λk hk=>r4 k (m2 k hk),λ_=>⟨r1,l,r2,r3,m2⟩,λ_=>m3,λ_ L hL _ k hk hs=>?_⟩
    rw[r2]at hL;cases hL
    rcases hs with hs|hs
    ·exact absurd hs c2
    ·exact m4 k hk hs
 ·simp only[ne_eq,c1,not_false_eq_true,decide_true,cond_true]
  refine⟨[],rfl,by simp,by simp,λh=>absurd rfl h,by simp,λhr L hL dt=>?_⟩
  have:=h2 hr L hL dt
  simp at this
  exact absurd this.2 c1
theorem f162_eq(l:List bn)(hs:bT l):f162 l=some (l.map bn.bc):=by
 have nu:l.length<=4194304:=hs
 unfold f162
 have n1:(0:Int)<=(l.length:Int):=by omega
 have n2:(l.length:Int)<=(bJ:Int):=by unfold bJ;omega
 simp only[de n1,de n2]
 rw[iS (λk=>((l.take k).map bn.bc,(k:Int))) l.length (by omega) (by simp) (r:=l.map bn.bc)]
 ·rfl
 ·intro k hk
  have e1:l[k]? =some (l[k]'hk):=dC _
  generalize l[k]'hk=p at e1
  have m1:((l.take k).map bn.bc).length+1<=bJ:=by simp;unfold bJ;omega
  simp only[cJ e1,cond_true,b9 e1,cH,dB hs e1,f163,de m1,cN e1,CE]
  rfl
 ·simp
def qg(d:cM)(tie:Bool):bR:=if tie then⟨d.dw.cD,d.dw.cD.map bn.bc,d.dw.db⟩else⟨[],[],[]⟩
theorem vK(d:cM)(hd:jM d.dw)(tie:Bool):jM (qg d tie):=by
 unfold qg
 cases tie
 ·exact⟨by simp[bT],by simp[bT],by simp[bT]⟩
 ·have:=hd.d
  exact⟨hd.d,by simpa[bT]using this,hd.o⟩
theorem f99_ex(d:cM)(hd:D4 d)(s:cI)(tie:Bool)(he:d.bM.bG.length<cO): ∃g,f161 d (qg d tie)=some g/\f99 d s tie=some ((qg d tie).cD,(qg d tie).held,(qg d tie).db,d.bM.bG++[⟨false,s,tie,[]⟩],g):=by
 obtain⟨g,h1,_⟩:=f161_ex d hd (qg d tie) (vK d hd.ch tie)
 refine⟨g,h1,?_⟩
 unfold f99
 cases tie
 ·simp only[cond_false,cH]
  unfold qg at h1 |-
  simp only[X4,if_false]at h1 |-
  simp only[h1,cH,de he]
 ·simp only[cond_true,cH,f162_eq _ hd.ch.d]
  unfold qg at h1 |-
  simp only[if_true]at h1 |-
  simp only[h1,cH,de he]
end Go.Proofs.YtpbahncblggodaaGreat
set_option linter.all false
namespace Go.Proofs.YtpbahncblggodaaGreat
open Go Go.Am
set_option maxRecDepth 100000
def eN:Nat->Nat->List (List Bool)
 |0,0=>[[]]
 |0,_+1=>[]
 |k+1,0=>(eN k 0).map (false:: ·)
 |k+1,m+1=>(eN k (m+1)).map (false:: ·)++(eN k m).map (true:: ·)
theorem oN: ∀(k m:Nat),k<m->eN k m=[]
 |0,m+1,_=>rfl
 |k+1,m+1,h=>by simp only[eN,oN k (m+1) (by omega),oN k m (by omega)];rfl
def kS(n:Nat):List (List Bool):=(List.range (n+1)).flatMap (eN n)
def oO{R:Type}(B:List Bool->Option (Unit⊕(R⊕Unit))):List (List Bool)->Option (Unit⊕(R⊕Unit))
 | []=>some (.inr (.inr ()))
 |l::r=>match B l with
  |none=>none
  |some (.inr (.inr _))=>oO B r
  |some x=>some x
theorem qh{R:Type}(B:List Bool->Option (Unit⊕(R⊕Unit))): ∀(a b:List (List Bool)),oO B (a++b)=match oO B a with
  |some (.inr (.inr _))=>oO B b
  |x=>x
 | [],b=>rfl
 |l::r,b=>by
  simp only[vT,oO]
  cases B l with
  |none=>rfl
  |some o=>
   rcases o with _|_|_
   ·rfl
   ·rfl
   ·exact qh B r b
theorem eE{σ τ:Type}{body:σ->Option (σ⊕τ)}{s:σ}{r:τ}(h:body s=some (.inr r))(n:Nat)(hn:0<n):bY body n s=some r:=by
 cases n with
 |zero=>omega
 |succ n=>simp only[bY,h]
theorem jF{σ τ:Type}{body:σ->Option (σ⊕τ)}{s s':σ}(h:body s=some (.inl s'))(n:Nat):bY body (n+1) s=bY body n s':=by simp only[bY,h]
theorem jE{α:Type}{l:List α}{i:Nat}{x:α}(h:i<l.length):(l.set i x).take (i+1)=l.take i++[x]:=by
 have:(l.set i x)[i]? =some x:=by rw[WG];simp[h]
 rw[cN this,Yh (eu i)]
section
variable (e1:List bF) (e2:cM) (e3 e5:List bF) (e6:bU) (e7:bR) (e8:List cp) (e9:Bool)
def fC{R:Type}(o:Unit⊕((List cp×bR×bU)⊕Unit))(l:List Bool):(List Bool)⊕((List Bool)⊕(bU×bR×List cp×List Bool)):=match o with
 |.inl _=>.inr (.inl l)
 |.inr (.inl r)=>.inr (.inr (r.2.2,r.2.1,r.1,l))
 |.inr (.inr _)=>.inl l
theorem f266r_eq(n:Nat)(hn:n<=4194304): ∀(rem fu i m:Nat)(l:List Bool)(o:Unit⊕((List cp×bR×bU)⊕Unit)),l.length=n->i+rem=n->rem<fu->m<=rem->
  oO (f348 e1 e2 e3 e5 e6 e7 e8 e9 (n:Int)) ((eN rem m).map (l.take i++ ·))=some o->
  ∃l',l'.length=n/\l'.take i=l.take i/\f266r fu (i:Int) (m:Int) (n:Int) e1 e2 e3 e5 e6 e7 e8 e9 l=some (fC (R:=Unit) o l')
 |rem,0,i,m,l,o,hl,hi,hf,hm,hs=>by omega
 |0,fu+1,i,m,l,o,hl,hi,hf,hm,hs=>by
  have Bo:m=0:=by omega
  subst Bo
  have eP:i=n:=by omega
  subst eP
  have gh:l.take i=l:=rP (by omega)
  have c0: ¬((0:Int)<((0:Nat):Int)):=by simp
  simp only[eN,wy,PK,wx,gh,oO]at hs
  refine⟨l,hl,rfl,?_⟩
  unfold f266r
  simp only[decide_true,cond_true,c0,decide_false,cond_false]
  cases hB:f348 e1 e2 e3 e5 e6 e7 e8 e9 (i:Int) l with
  |none=>rw[hB]at hs;simp at hs
  |some x=>
   rw[hB]at hs
   rcases x with _|_|_<;>simp at hs<;>subst hs<;>rfl
 |rem+1,fu+1,i,m,l,o,hl,hi,hf,hm,hs=>by
  have c0: ¬((i:Int)=(n:Int)):=by omega
  have w1:wr ((i:Int)+1)=((i+1:Nat):Int):=gP (by omega)
  have w2:wr ((n:Int)-(i:Int))=((rem+1:Nat):Int):=by rw[jd (by omega) (by omega)];omega
  have w3:wr (((rem+1:Nat):Int)-1)=(rem:Int):=by rw[jd (by omega) (by omega)];omega
  have rX:i<l.length:=by omega
  have x0:l[i]? =some (l[i]'rX):=dC _
  have first: ∀o1,oO (f348 e1 e2 e3 e5 e6 e7 e8 e9 (n:Int)) ((eN rem m).map ((l.take i++[false])++ ·))=some o1->m<=rem->
    ∃l',l'.length=n/\l'.take i=l.take i/\f266r fu ((i+1:Nat):Int) (m:Int) (n:Int) e1 e2 e3 e5 e6 e7 e8 e9 (l.set i false)=some (fC (R:=Unit) o1 l'):=λo1 h1 ZO=>by
   obtain⟨l',a1,a2,a3⟩:=f266r_eq n hn rem fu (i+1) m (l.set i false) o1 (by simpa using hl) (by omega) (by omega) ZO (by rw[jE rX];exact h1)
   rw[jE rX]at a2
   refine⟨l',a1,?_,a3⟩
   have:=congrArg (List.take i) a2
   rw[QS,Nv (by omega),Tl (by simp;omega)]at this
   exact this
  have second: ∀(l2:List Bool)o1 m',m=m'+1->l2.length=n->l2.take i=l.take i->oO (f348 e1 e2 e3 e5 e6 e7 e8 e9 (n:Int)) ((eN rem m').map ((l.take i++[true])++ ·))=some o1->
    ∃l',l'.length=n/\l'.take i=l.take i/\f266r fu ((i+1:Nat):Int) (m':Int) (n:Int) e1 e2 e3 e5 e6 e7 e8 e9 (l2.set i true)=some (fC (R:=Unit) o1 l'):=λl2 o1 m' nr CO zg h1=>by
   have Mx:i<l2.length:=by omega
   obtain⟨l',a1,a2,a3⟩:=f266r_eq n hn rem fu (i+1) m' (l2.set i true) o1 (by simpa using CO) (by omega) (by omega) (by omega) (by rw[jE Mx,zg];exact h1)
   rw[jE Mx,zg]at a2
   refine⟨l',a1,?_,a3⟩
   have:=congrArg (List.take i) a2
   rw[QS,Nv (by omega),Tl (by simp;omega)]at this
   exact this
  unfold f266r
  simp only[c0,decide_false,cond_false]
  have hF:cy=(cy-3)+1+1+1:=by unfold cy;omega
  rw[hF]
  generalize CP:(λ(x:List Bool×Int)=>_:List Bool×Int->Option ((List Bool×Int)⊕((List Bool)⊕((List Bool)⊕((List Bool)⊕(bU×bR×List cp×List Bool))))))=body
  have g0:ix ([false,true]:List Bool) (0:Int)=some false:=rfl
  have g1:ix ([false,true]:List Bool) (1:Int)=some true:=rfl
  have k0:((0:Int)<2):=by omega
  have k1:((1:Int)<2):=by omega
  have k2: ¬((2:Int)<2):=by omega
  have v1:wr ((0:Int)+1)=1:=by rw[jd (by omega) (by omega)];rfl
  have v2:wr ((1:Int)+1)=2:=by rw[jd (by omega) (by omega)];rfl
  have My: ¬((m:Int)<0):=by omega
  have hA:rem<m->body (l,0)=some (.inl (l,1)):=λgh=>by
   have c1:((rem:Int)<(m:Int)):=by omega
   rw[<-CP]
   simp only[k0,decide_true,cond_true,g0,cH,cond_false,My,decide_false,w2,w3,c1,v1,vp]
  have VS: ∀(o1:Unit⊕((List cp×bR×bU)⊕Unit))l',m<=rem->f266r fu ((i+1:Nat):Int) (m:Int) (n:Int) e1 e2 e3 e5 e6 e7 e8 e9 (l.set i false)=some (fC (R:=Unit) o1 l')->
    body (l,0)=some (match fC (R:=Unit) o1 l' with|.inl q=>.inl (q,1)|.inr z=>.inr (.inr (.inr z))):=λo1 l' ep hc=>by
   have c1: ¬((rem:Int)<(m:Int)):=by omega
   rw[<-CP]
   simp only[k0,decide_true,cond_true,g0,cH,cond_false,My,decide_false,w2,w3,c1,v1,b9 x0,w1,nv,hc]
   rcases o1 with _|_|_<;>rfl
  have hB: ∀l2:List Bool,m=0->body (l2,1)=some (.inl (l2,2)):=λl2 Bo=>by
   subst Bo
   have c1:wr (((0:Nat):Int)-1)<0:=by rw[jd (by omega) (by omega)];omega
   rw[<-CP]
   simp only[k1,decide_true,cond_true,g1,cH,c1,v2,vp]
  have ZP: ∀(l2:List Bool)(o1:Unit⊕((List cp×bR×bU)⊕Unit))l'(m':Nat),m=m'+1->l2.length=n->f266r fu ((i+1:Nat):Int) (m':Int) (n:Int) e1 e2 e3 e5 e6 e7 e8 e9 (l2.set i true)=some (fC (R:=Unit) o1 l')->
    body (l2,1)=some (match fC (R:=Unit) o1 l' with|.inl q=>.inl (q,2)|.inr z=>.inr (.inr (.inr z))):=λl2 o1 l' m' nr CO hc=>by
   have c1:wr ((m:Int)-1)=(m':Int):=by rw[jd (by omega) (by omega)];omega
   have c2: ¬((m':Int)<0):=by omega
   have c3: ¬((rem:Int)<(m':Int)):=by omega
   have x2:l2[i]? =some (l2[i]'(by omega)):=dC _
   rw[<-CP]
   simp only[k1,decide_true,cond_true,g1,cH,c1,c2,decide_false,cond_false,w2,w3,c3,v2,b9 x2,w1,nv,hc]
   rcases o1 with _|_|_<;>rfl
  have hC: ∀l2:List Bool,body (l2,2)=some (.inr (.inl l2)):=λl2=>by
   rw[<-CP]
   simp only[k2,decide_false,cond_false]
  clear CP
  have Mz: ∀k,(eN rem k).map (λx=>l.take i++false::x)=(eN rem k).map ((l.take i++[false])++ ·):=λk=>by simp
  have Sr: ∀k,(eN rem k).map (λx=>l.take i++true::x)=(eN rem k).map ((l.take i++[true])++ ·):=λk=>by simp
  have rest: ∀(l2:List Bool)(N:Nat)(m':Nat),m=m'+1->l2.length=n->l2.take i=l.take i->oO (f348 e1 e2 e3 e5 e6 e7 e8 e9 (n:Int)) ((eN rem m').map ((l.take i++[true])++ ·))=some o->
    ∃l',l'.length=n/\l'.take i=l.take i/\(bY body (N+1+1) (l2,1)).bind (Sum.elim (λZQ=>some (.inl ZQ)) some)=some (fC (R:=Unit) o l'):=λl2 N m' nr CO zg h1=>by
   obtain⟨l',a1,a2,a3⟩:=second l2 o m' nr CO zg h1
   refine⟨l',a1,a2,?_⟩
   have hb:=ZP l2 o l' m' nr CO a3
   rcases o with _|_|_
   ·rw[eE hb _ (by omega)];rfl
   ·rw[eE hb _ (by omega)];rfl
   ·rw[jF hb,eE (hC l') _ (by omega)];rfl
  cases m with
  |zero=>
   simp only[eN,Is]at hs
   have hs:oO (f348 e1 e2 e3 e5 e6 e7 e8 e9 (n:Int)) ((eN rem 0).map ((l.take i++[false])++ ·))=some o:=by rw[<-Mz];exact hs
   obtain⟨l',a1,a2,a3⟩:=first o hs (by omega)
   refine⟨l',a1,a2,?_⟩
   have hb:=VS o l' (by omega) a3
   rcases o with _|_|_
   ·rw[eE hb _ (by omega)];rfl
   ·rw[eE hb _ (by omega)];rfl
   ·rw[jF hb,jF (hB l' rfl),eE (hC l') _ (by omega)];rfl
  |succ m'=>
   simp only[eN,CE,Is]at hs
   have hs:oO (f348 e1 e2 e3 e5 e6 e7 e8 e9 (n:Int)) ((eN rem (m'+1)).map ((l.take i++[false])++ ·)++(eN rem m').map ((l.take i++[true])++ ·))=some o:=by rw[<-Mz,<-Sr];exact hs
   by_cases ep:m'+1<=rem
   ·rw[qh]at hs
    cases h1:oO (f348 e1 e2 e3 e5 e6 e7 e8 e9 (n:Int)) ((eN rem (m'+1)).map ((l.take i++[false])++ ·))with
    |none=>rw[h1]at hs;simp at hs
    |some o1=>
     rw[h1]at hs
     obtain⟨l',a1,a2,a3⟩:=first o1 h1 ep
     have hb:=VS o1 l' ep a3
     rcases o1 with u|r|u
     ·simp at hs;subst hs
      exact⟨l',a1,a2,by rw[eE hb _ (by omega)];rfl⟩
     ·simp at hs;subst hs
      exact⟨l',a1,a2,by rw[eE hb _ (by omega)];rfl⟩
     ·obtain⟨l2,b1,b2,b3⟩:=rest l' _ m' rfl a1 a2 hs
      exact⟨l2,b1,b2,by rw[jF hb];exact b3⟩
   ·have h0:eN rem (m'+1)=[]:=oN rem (m'+1) (by omega)
    rw[h0]at hs
    simp only[PK,qY]at hs
    obtain⟨l2,b1,b2,b3⟩:=rest l _ m' rfl hl rfl hs
    exact⟨l2,b1,b2,by rw[jF (hA (by omega))];exact b3⟩
theorem f265_eq(n:Nat)(hn:n<=4194303)(o:Unit⊕((List cp×bR×bU)⊕Unit))(hs:oO (f348 e1 e2 e3 e5 e6 e7 e8 e9 (n:Int)) (kS n)=some o):f265 e1 e2 e3 e5 e6 e7 e8 e9 (n:Int)=some o:=by
 unfold f265
 have n1:(0:Int)<=(n:Int):=by omega
 have n2:(n:Int)<=(bJ:Int):=by unfold bJ;omega
 simp only[de n1,de n2,nv]
 have key: ∀(d k N:Nat)(l:List Bool),k+d=n+1->d<N->l.length=n->oO (f348 e1 e2 e3 e5 e6 e7 e8 e9 (n:Int)) ((List.range' k d).flatMap (eN n))=some o->
   (bY (σ:=(List Bool×Int)) (τ:=(Unit⊕(Unit⊕((List cp×bR×bU)⊕Unit)))) (λ((Jy,wk):(List Bool×Int))=>bif (decide (wk<=(n:Int)))then((f266 0 wk (n:Int) e1 e2 e3 e5 e6 e7 e8 e9 Jy).bind (Sum.elim (λZR=>some (.inl (ZR,(wr (wk+1))))) (Sum.elim (λSs=>some (.inr (.inr (.inl ())))) λTU=>some (.inr (.inr (.inr (.inl (TU.2.2.1,(⟨TU.2.1.cD,TU.2.1.held,TU.2.1.db⟩:bR),(⟨TU.1.places,TU.1.cut⟩:bU)))))))))else(some (.inr (.inl ())))) N (l,(k:Int))).bind (Sum.elim (λ(_:Unit)=>some (.inr (.inr ()))) some)=some o:=by
  intro d
  induction d with
  |zero=>
   intro k N l hk hN hl h1
   simp only[List.range'_zero,Ug,oO]at h1
   cases h1
   have c1: ¬((k:Int)<=(n:Int)):=by omega
   rw[eE (r:=.inl ()) (by simp only[c1,decide_false,cond_false]) _ (by omega)]
   rfl
  |succ d ih=>
   intro k N l hk hN hl h1
   have c1:((k:Int)<=(n:Int)):=by omega
   rw[List.range'_succ,E5,qh]at h1
   cases h2:oO (f348 e1 e2 e3 e5 e6 e7 e8 e9 (n:Int)) (eN n k)with
   |none=>rw[h2]at h1;simp at h1
   |some o1=>
    rw[h2]at h1
    obtain⟨l',a1,_,a3⟩:=f266r_eq e1 e2 e3 e5 e6 e7 e8 e9 n (by omega) n cy 0 k l o1 hl (by omega) (by unfold cy;omega) (by omega) (by simpa using h2)
    have a3:f266 0 (k:Int) (n:Int) e1 e2 e3 e5 e6 e7 e8 e9 l=some (fC (R:=Unit) o1 l'):=a3
    obtain⟨N,rfl⟩: ∃M,N=M+1:=⟨N-1,by omega⟩
    rcases o1 with u|r|u
    ·simp at h1;subst h1
     rw[eE (r:=.inr (.inl ())) (by simp only[c1,decide_true,cond_true,a3,cH];rfl) _ (by omega)]
     rfl
    ·simp at h1;subst h1
     rw[eE (r:=.inr (.inr (.inl r))) (by simp only[c1,decide_true,cond_true,a3,cH];rfl) _ (by omega)]
     rfl
    ·have w:wr ((k:Int)+1)=((k+1:Nat):Int):=gP (by omega)
     rw[jF (s':=(l',((k+1:Nat):Int))) (by simp only[c1,decide_true,cond_true,a3,cH,<-w];rfl)]
     exact ih (k+1) N l' (by omega) (by omega) a1 h1
 have:=key (n+1) 0 cy (List.replicate n false) (by omega) (by unfold cy;omega) (by simp) (by rw[<-X7];exact hs)
 exact this
end
end Go.Proofs.YtpbahncblggodaaGreat
set_option linter.all false
namespace Go.Proofs.YtpbahncblggodaaGreat
open Go Go.Am
set_option maxRecDepth 100000
def kq{R:Type}(B:List Bool->Option (R⊕Unit)):List (List Bool)->Option (R⊕Unit)
 | []=>some (.inr ())
 |l::r=>match B l with
  |none=>none
  |some (.inr _)=>kq B r
  |some x=>some x
theorem oP{R:Type}(B:List Bool->Option (R⊕Unit)): ∀(a b:List (List Bool)),kq B (a++b)=match kq B a with
  |some (.inr _)=>kq B b
  |x=>x
 | [],b=>rfl
 |l::r,b=>by
  simp only[vT,kq]
  cases B l with
  |none=>rfl
  |some o=>
   rcases o with _|_
   ·rfl
   ·exact oP B r b
section
variable (e1:List bF) (e2:cM) (e3 e5:List bF) (e6:bU) (e7:bR) (e8:List cp) (e9:Bool) (al:List (List bn)) (e0:Int)
def ub(o:(List cp×bR×bU)⊕Unit)(l:List Bool):(List Bool)⊕(bU×bR×List cp×List Bool):=match o with
 |.inl r=>.inr (r.2.2,r.2.1,r.1,l)
 |.inr _=>.inl l
theorem f266_1r_eq(n:Nat)(hn:n<=4194304): ∀(rem fu i m:Nat)(l:List Bool)(o:(List cp×bR×bU)⊕Unit),l.length=n->i+rem=n->rem<fu->m<=rem->
  kq (f349 e1 e2 e3 e5 e6 e7 e8 e9 al e0 (n:Int)) ((eN rem m).map (l.take i++ ·))=some o->
  ∃l',l'.length=n/\l'.take i=l.take i/\f266_1r fu (i:Int) (m:Int) (n:Int) e1 e2 e3 e5 e6 e7 e8 e9 al e0 l=some (ub o l')
 |rem,0,i,m,l,o,hl,hi,hf,hm,hs=>by omega
 |0,fu+1,i,m,l,o,hl,hi,hf,hm,hs=>by
  have Bo:m=0:=by omega
  subst Bo
  have eP:i=n:=by omega
  subst eP
  have gh:l.take i=l:=rP (by omega)
  have c0: ¬((0:Int)<((0:Nat):Int)):=by simp
  simp only[eN,wy,PK,wx,gh,kq]at hs
  refine⟨l,hl,rfl,?_⟩
  unfold f266_1r
  simp only[decide_true,cond_true,c0,decide_false,cond_false]
  cases hB:f349 e1 e2 e3 e5 e6 e7 e8 e9 al e0 (i:Int) l with
  |none=>rw[hB]at hs;simp at hs
  |some x=>
   rw[hB]at hs
   rcases x with _|_<;>simp at hs<;>subst hs<;>rfl
 |rem+1,fu+1,i,m,l,o,hl,hi,hf,hm,hs=>by
  have c0: ¬((i:Int)=(n:Int)):=by omega
  have w1:wr ((i:Int)+1)=((i+1:Nat):Int):=gP (by omega)
  have w2:wr ((n:Int)-(i:Int))=((rem+1:Nat):Int):=by rw[jd (by omega) (by omega)];omega
  have w3:wr (((rem+1:Nat):Int)-1)=(rem:Int):=by rw[jd (by omega) (by omega)];omega
  have rX:i<l.length:=by omega
  have x0:l[i]? =some (l[i]'rX):=dC _
  have first: ∀o1,kq (f349 e1 e2 e3 e5 e6 e7 e8 e9 al e0 (n:Int)) ((eN rem m).map ((l.take i++[false])++ ·))=some o1->m<=rem->
    ∃l',l'.length=n/\l'.take i=l.take i/\f266_1r fu ((i+1:Nat):Int) (m:Int) (n:Int) e1 e2 e3 e5 e6 e7 e8 e9 al e0 (l.set i false)=some (ub o1 l'):=λo1 h1 ZO=>by
   obtain⟨l',a1,a2,a3⟩:=f266_1r_eq n hn rem fu (i+1) m (l.set i false) o1 (by simpa using hl) (by omega) (by omega) ZO (by rw[jE rX];exact h1)
   rw[jE rX]at a2
   refine⟨l',a1,?_,a3⟩
   have:=congrArg (List.take i) a2
   rw[QS,Nv (by omega),Tl (by simp;omega)]at this
   exact this
  have second: ∀(l2:List Bool)o1 m',m=m'+1->l2.length=n->l2.take i=l.take i->kq (f349 e1 e2 e3 e5 e6 e7 e8 e9 al e0 (n:Int)) ((eN rem m').map ((l.take i++[true])++ ·))=some o1->
    ∃l',l'.length=n/\l'.take i=l.take i/\f266_1r fu ((i+1:Nat):Int) (m':Int) (n:Int) e1 e2 e3 e5 e6 e7 e8 e9 al e0 (l2.set i true)=some (ub o1 l'):=λl2 o1 m' nr CO zg h1=>by
   have Mx:i<l2.length:=by omega
   obtain⟨l',a1,a2,a3⟩:=f266_1r_eq n hn rem fu (i+1) m' (l2.set i true) o1 (by simpa using CO) (by omega) (by omega) (by omega) (by rw[jE Mx,zg];exact h1)
   rw[jE Mx,zg]at a2
   refine⟨l',a1,?_,a3⟩
   have:=congrArg (List.take i) a2
   rw[QS,Nv (by omega),Tl (by simp;omega)]at this
   exact this
  unfold f266_1r
  simp only[c0,decide_false,cond_false]
  have hF:cy=(cy-3)+1+1+1:=by unfold cy;omega
  rw[hF]
  generalize CP:(λ(x:List Bool×Int)=>_:List Bool×Int->Option ((List Bool×Int)⊕((List Bool)⊕((List Bool)⊕(bU×bR×List cp×List Bool)))))=body
  have g0:ix ([false,true]:List Bool) (0:Int)=some false:=rfl
  have g1:ix ([false,true]:List Bool) (1:Int)=some true:=rfl
  have k0:((0:Int)<2):=by omega
  have k1:((1:Int)<2):=by omega
  have k2: ¬((2:Int)<2):=by omega
  have v1:wr ((0:Int)+1)=1:=by rw[jd (by omega) (by omega)];rfl
  have v2:wr ((1:Int)+1)=2:=by rw[jd (by omega) (by omega)];rfl
  have My: ¬((m:Int)<0):=by omega
  have hA:rem<m->body (l,0)=some (.inl (l,1)):=λgh=>by
   have c1:((rem:Int)<(m:Int)):=by omega
   rw[<-CP]
   simp only[k0,decide_true,cond_true,g0,cH,cond_false,My,decide_false,w2,w3,c1,v1,vp]
  have VS: ∀(o1:(List cp×bR×bU)⊕Unit)l',m<=rem->f266_1r fu ((i+1:Nat):Int) (m:Int) (n:Int) e1 e2 e3 e5 e6 e7 e8 e9 al e0 (l.set i false)=some (ub o1 l')->
    body (l,0)=some (match ub o1 l' with|.inl q=>.inl (q,1)|.inr z=>.inr (.inr (.inr z))):=λo1 l' ep hc=>by
   have c1: ¬((rem:Int)<(m:Int)):=by omega
   rw[<-CP]
   simp only[k0,decide_true,cond_true,g0,cH,cond_false,My,decide_false,w2,w3,c1,v1,b9 x0,w1,nv,hc]
   rcases o1 with _|_<;>rfl
  have hB: ∀l2:List Bool,m=0->body (l2,1)=some (.inl (l2,2)):=λl2 Bo=>by
   subst Bo
   have c1:wr (((0:Nat):Int)-1)<0:=by rw[jd (by omega) (by omega)];omega
   rw[<-CP]
   simp only[k1,decide_true,cond_true,g1,cH,c1,v2,vp]
  have ZP: ∀(l2:List Bool)(o1:(List cp×bR×bU)⊕Unit)l'(m':Nat),m=m'+1->l2.length=n->f266_1r fu ((i+1:Nat):Int) (m':Int) (n:Int) e1 e2 e3 e5 e6 e7 e8 e9 al e0 (l2.set i true)=some (ub o1 l')->
    body (l2,1)=some (match ub o1 l' with|.inl q=>.inl (q,2)|.inr z=>.inr (.inr (.inr z))):=λl2 o1 l' m' nr CO hc=>by
   have c1:wr ((m:Int)-1)=(m':Int):=by rw[jd (by omega) (by omega)];omega
   have c2: ¬((m':Int)<0):=by omega
   have c3: ¬((rem:Int)<(m':Int)):=by omega
   have x2:l2[i]? =some (l2[i]'(by omega)):=dC _
   rw[<-CP]
   simp only[k1,decide_true,cond_true,g1,cH,c1,c2,decide_false,cond_false,w2,w3,c3,v2,b9 x2,w1,nv,hc]
   rcases o1 with _|_<;>rfl
  have hC: ∀l2:List Bool,body (l2,2)=some (.inr (.inl l2)):=λl2=>by
   rw[<-CP]
   simp only[k2,decide_false,cond_false]
  clear CP
  have Mz: ∀k,(eN rem k).map (λx=>l.take i++false::x)=(eN rem k).map ((l.take i++[false])++ ·):=λk=>by simp
  have Sr: ∀k,(eN rem k).map (λx=>l.take i++true::x)=(eN rem k).map ((l.take i++[true])++ ·):=λk=>by simp
  have rest: ∀(l2:List Bool)(N:Nat)(m':Nat),m=m'+1->l2.length=n->l2.take i=l.take i->kq (f349 e1 e2 e3 e5 e6 e7 e8 e9 al e0 (n:Int)) ((eN rem m').map ((l.take i++[true])++ ·))=some o->
    ∃l',l'.length=n/\l'.take i=l.take i/\(bY body (N+1+1) (l2,1)).bind (Sum.elim (λZQ=>some (.inl ZQ)) some)=some (ub o l'):=λl2 N m' nr CO zg h1=>by
   obtain⟨l',a1,a2,a3⟩:=second l2 o m' nr CO zg h1
   refine⟨l',a1,a2,?_⟩
   have hb:=ZP l2 o l' m' nr CO a3
   rcases o with _|_
   ·rw[eE hb _ (by omega)];rfl
   ·rw[jF hb,eE (hC l') _ (by omega)];rfl
  cases m with
  |zero=>
   simp only[eN,Is]at hs
   have hs:kq (f349 e1 e2 e3 e5 e6 e7 e8 e9 al e0 (n:Int)) ((eN rem 0).map ((l.take i++[false])++ ·))=some o:=by rw[<-Mz];exact hs
   obtain⟨l',a1,a2,a3⟩:=first o hs (by omega)
   refine⟨l',a1,a2,?_⟩
   have hb:=VS o l' (by omega) a3
   rcases o with _|_
   ·rw[eE hb _ (by omega)];rfl
   ·rw[jF hb,jF (hB l' rfl),eE (hC l') _ (by omega)];rfl
  |succ m'=>
   simp only[eN,CE,Is]at hs
   have hs:kq (f349 e1 e2 e3 e5 e6 e7 e8 e9 al e0 (n:Int)) ((eN rem (m'+1)).map ((l.take i++[false])++ ·)++(eN rem m').map ((l.take i++[true])++ ·))=some o:=by rw[<-Mz,<-Sr];exact hs
   by_cases ep:m'+1<=rem
   ·rw[oP]at hs
    cases h1:kq (f349 e1 e2 e3 e5 e6 e7 e8 e9 al e0 (n:Int)) ((eN rem (m'+1)).map ((l.take i++[false])++ ·))with
    |none=>rw[h1]at hs;simp at hs
    |some o1=>
     rw[h1]at hs
     obtain⟨l',a1,a2,a3⟩:=first o1 h1 ep
     have hb:=VS o1 l' ep a3
     rcases o1 with r|u
     ·simp at hs;subst hs
      exact⟨l',a1,a2,by rw[eE hb _ (by omega)];rfl⟩
     ·obtain⟨l2,b1,b2,b3⟩:=rest l' _ m' rfl a1 a2 hs
      exact⟨l2,b1,b2,by rw[jF hb];exact b3⟩
   ·have h0:eN rem (m'+1)=[]:=oN rem (m'+1) (by omega)
    rw[h0]at hs
    simp only[PK,qY]at hs
    obtain⟨l2,b1,b2,b3⟩:=rest l _ m' rfl hl rfl hs
    exact⟨l2,b1,b2,by rw[jF (hA (by omega))];exact b3⟩
theorem f265_1_eq(n:Nat)(hn:n<=4194303)(o:(List cp×bR×bU)⊕Unit)(hs:kq (f349 e1 e2 e3 e5 e6 e7 e8 e9 al e0 (n:Int)) (kS n)=some o):f265_1 e1 e2 e3 e5 e6 e7 e8 e9 al e0 (n:Int)=some o:=by
 unfold f265_1
 have n1:(0:Int)<=(n:Int):=by omega
 have n2:(n:Int)<=(bJ:Int):=by unfold bJ;omega
 simp only[de n1,de n2,nv]
 have key: ∀(d k N:Nat)(l:List Bool),k+d=n+1->d<N->l.length=n->kq (f349 e1 e2 e3 e5 e6 e7 e8 e9 al e0 (n:Int)) ((List.range' k d).flatMap (eN n))=some o->
   (bY (σ:=(List Bool×Int)) (τ:=(Unit⊕((List cp×bR×bU)⊕Unit))) (λ((Jz,wk):(List Bool×Int))=>bif (decide (wk<=(n:Int)))then((f266_1 0 wk (n:Int) e1 e2 e3 e5 e6 e7 e8 e9 al e0 Jz).bind (Sum.elim (λZR=>some (.inl (ZR,(wr (wk+1))))) λSs=>some (.inr (.inr (.inl (Ss.2.2.1,(⟨Ss.2.1.cD,Ss.2.1.held,Ss.2.1.db⟩:bR),(⟨Ss.1.places,Ss.1.cut⟩:bU)))))))else(some (.inr (.inl ())))) N (l,(k:Int))).bind (Sum.elim (λ(_:Unit)=>some (.inr ())) some)=some o:=by
  intro d
  induction d with
  |zero=>
   intro k N l hk hN hl h1
   simp only[List.range'_zero,Ug,kq]at h1
   cases h1
   have c1: ¬((k:Int)<=(n:Int)):=by omega
   rw[eE (r:=.inl ()) (by simp only[c1,decide_false,cond_false]) _ (by omega)]
   rfl
  |succ d ih=>
   intro k N l hk hN hl h1
   have c1:((k:Int)<=(n:Int)):=by omega
   rw[List.range'_succ,E5,oP]at h1
   cases h2:kq (f349 e1 e2 e3 e5 e6 e7 e8 e9 al e0 (n:Int)) (eN n k)with
   |none=>rw[h2]at h1;simp at h1
   |some o1=>
    rw[h2]at h1
    obtain⟨l',a1,_,a3⟩:=f266_1r_eq e1 e2 e3 e5 e6 e7 e8 e9 al e0 n (by omega) n cy 0 k l o1 hl (by omega) (by unfold cy;omega) (by omega) (by simpa using h2)
    have a3:f266_1 0 (k:Int) (n:Int) e1 e2 e3 e5 e6 e7 e8 e9 al e0 l=some (ub o1 l'):=a3
    obtain⟨N,rfl⟩: ∃M,N=M+1:=⟨N-1,by omega⟩
    rcases o1 with r|u
    ·simp at h1;subst h1
     rw[eE (r:=.inr (.inl r)) (by simp only[c1,decide_true,cond_true,a3,cH];rfl) _ (by omega)]
     rfl
    ·have w:wr ((k:Int)+1)=((k+1:Nat):Int):=gP (by omega)
     rw[jF (s':=(l',((k+1:Nat):Int))) (by simp only[c1,decide_true,cond_true,a3,cH,<-w];rfl)]
     exact ih (k+1) N l' (by omega) (by omega) a1 h1
 have:=key (n+1) 0 cy (List.replicate n false) (by omega) (by unfold cy;omega) (by simp) (by rw[<-X7];exact hs)
 exact this
end
end Go.Proofs.YtpbahncblggodaaGreat
set_option linter.all false
namespace Go.Proofs.YtpbahncblggodaaGreat
open Go Go.Am
set_option maxRecDepth 100000
def pu(a b:Int):Int:=if a<b then -1 else if b<a then 1 else 0
theorem f104_eq(a b:Int):f104 a b=some (pu a b):=by
 unfold f104 f177 pu
 simp only[ne_eq,not_true_eq_false,decide_false,cH,cond_false]
 by_cases h1:a<b
 ·simp[h1]
 ·by_cases h2:b<a
  ·simp[h1,h2]
  ·simp[h1,h2]
theorem f103_eq(l:List Int)(hs:bT l):f103 l=some ((l.find? λx=>decide (x≠0)).getD 0):=by
 unfold f103
 rw[dP l (λx=>decide (x≠0)) (λ_ x=>x) hs,jK]
 ·cases l.find? _<;>rfl
 ·intro i y hy
  simp only[cJ hy,cond_true,b9 hy,cH]
  cases decide (y≠0)<;>rfl
 ·simp
def Su(l:List bn):Int:=l.foldl (λn p=>wr (n+p.ct)) 0
theorem f271_eq(l:List bn)(hs:bT l):f271 l=some (Su l):=by
 unfold f271
 have h:=iW (body:=λ((VT,JA):(Int×Int))=>bif (decide (JA<(l.length:Int)))then((ix l JA).bind λy2=>some (.inl ((wr (VT+y2.ct)),(wr (JA+1)))))else(some (.inr VT)))
  (λa i=>(a,i)) (λ_ a(p:bn)=>(.inl (wr (a+p.ct)):Int⊕Int)) (λa=>a) l (λ_ _=>True) 0 (gT hs) trivial
  (λi a y hy _=>⟨by simp only[cJ hy,cond_true,b9 hy,cH,dB hs hy];rfl,λ_ _=>trivial⟩) (λa _=>by simp)
 rw[h,AL]
 rfl
theorem f272_ex(a b:List bn)(ha:bT a)(hb:bT b): ∃r,f272 a b=some r/\True:=by
 have Kg:a.length<=4194304:=ha
 unfold f272
 refine eO (λk(s:Int)=>s=(k:Int)) (λ_=>True) a.length Kg rfl ?_ ?_ ?_
 ·rintro k s hk rfl
  have e1:a[k]? =some (a[k]'hk):=dC _
  simp only[cJ e1,cond_true,b9 e1,cH,dB ha e1]
  by_cases c1:(b.length:Int)<=(k:Int)
  ·simp only[c1,decide_true,cond_true]
   exact .inr ⟨_,rfl,trivial⟩
  ·have e2:b[k]? =some (b[k]'(by omega)):=dC _
   simp only[c1,decide_false,cond_false,b9 e2,cH,f273,f104_eq]
   cases decide (pu (a[k]'hk).bc (b[k]'(by omega)).bc≠0)
   ·exact .inl ⟨_,rfl,rfl⟩
   ·exact .inr ⟨_,rfl,trivial⟩
 ·rintro s rfl
  simp only[kF,decide_false,cond_false]
  exact⟨_,rfl,trivial⟩
 ·intro o _
  cases o with
  |inr z=>exact⟨z,rfl,trivial⟩
  |inl _=>
   simp only[vp]
   cases decide ((a.length:Int)<(b.length:Int))<;>exact⟨_,rfl,trivial⟩
theorem f270_ex(a b:List bn)(ha:bT a)(hb:bT b): ∃r,f270 a b=some r/\True:=by
 unfold f270
 obtain⟨r,e,_⟩:=f272_ex a b ha hb
 simp only[f271_eq a ha,f271_eq b hb,f104_eq,e,cH,f103_eq _ (show bT [_,_]by simp[bT])]
 exact⟨_,rfl,trivial⟩
def ways(a:bK)(s:Int):List bF->List Bool->List bn->List (List bn)
 |n::ns,b::bs,pre=>bif b then ways a s ns bs (pre++[⟨0,0⟩])else bif decide ((eD a (wr (n.bW+s))).2≠0)then []else
  ((eD a (wr (n.bW+s))).1.filter λp=>!(pre.any (lq p.bc))).flatMap λp=>ways a s ns bs (pre++[p])
 |_,_,pre=>[pre]
theorem f268_eq(l:List bn)(h:bT l):f268 l=some l:=by
 unfold f268
 by_cases c:l=[]
 ·subst c;simp
 ·have:l.length<=bJ:=by simp only[bT]at h;unfold bJ;omega
  rw[show l.isEmpty=false from by simpa using c];simp[de this]
theorem zR(a:bK)(p:Int):(eD a p).1.length<=300:=by
 unfold eD
 by_cases h:instS a=0
 ·obtain⟨h1,h2,_,_,h5⟩:=instS_ok h
  have:=qd a.bN p a.cj 0 (λc hc=>by
   obtain⟨q1,q2,_⟩:=jL (h5 c hc)
   omega)
  simp only[h,if_true,ne_eq,not_true_eq_false,if_false]
  generalize(decide (p<0)||decide (127<p))=b
  cases b<;>simp <;>omega
 ·simp[h]
theorem f267_eq(a:bK)(s:Int)(cq:List bF)(drop:List Bool)(hn:cq.length<=4000)(hd:drop.length=cq.length): ∀(rem fu i:Nat)(all:List (List bn))(l:List bn),l.length=cq.length->i+rem=cq.length->rem<fu->
  all.length+(ways a s (cq.drop i) (drop.drop i) (l.take i)).length<=4000000->
  ∃l',l'.length=l.length/\l'.take i=l.take i/\f267r fu (i:Int) cq all l drop a s=some (all++ways a s (cq.drop i) (drop.drop i) (l.take i),l')
 |rem,0,i,all,l,hl,hi,hf,hb=>by omega
 |0,fu+1,i,all,l,hl,hi,hf,hb=>by
  have eP:i=cq.length:=by omega
  subst eP
  have h1:cq.drop cq.length=[]:=by simp
  have h2:l.take cq.length=l:=rP (by omega)
  rw[h1,h2]at hb |-
  simp only[ways,oc,JQ]at hb |-
  have m1:all.length+1<=bJ:=by unfold bJ;omega
  refine⟨l,rfl,h2,?_⟩
  unfold f267r
  simp only[decide_true,cond_true,f268_eq l (by simp only[bT];omega),cH,de m1]
 |rem+1,fu+1,i,all,l,hl,hi,hf,hb=>by
  have rX:i<cq.length:=by omega
  have x1:cq[i]? =some (cq[i]'rX):=dC _
  have x2:drop[i]? =some (drop[i]'(by omega)):=dC _
  have x3:l[i]? =some (l[i]'(by omega)):=dC _
  have d1:cq.drop i=cq[i]'rX::cq.drop (i+1):=X8 rX
  have d2:drop.drop i=drop[i]'(by omega)::drop.drop (i+1):=X8 (by omega)
  have c0: ¬((i:Int)=(cq.length:Int)):=by omega
  have w1:wr ((i:Int)+1)=((i+1:Nat):Int):=gP (by omega)
  have m0:i<cO:=by unfold cO;omega
  rw[d1,d2]at hb |-
  generalize cq[i]'rX=y at x1 hb |-
  unfold f267r
  simp only[c0,decide_false,cond_false,b9 x3,b9 x2,cH,w1,nv]
  generalize drop[i]'(by omega)=b at x2 hb |-
  cases b with
  |true=>
   simp only[ways,cond_true]at hb |-
   have ht:(l.set i ⟨0,0⟩).take (i+1)=l.take i++[⟨0,0⟩]:=jE (by omega)
   obtain⟨l',a1,a2,a3⟩:=f267_eq a s cq drop hn hd rem fu (i+1) all (l.set i ⟨0,0⟩) (by simpa using hl) (by omega) (by omega) (by rw[ht];exact hb)
   rw[ht]at a2 a3
   refine⟨l',by simpa using a1,?_,by simp only[a3,cH]⟩
   have:=congrArg (List.take i) a2
   rw[QS,Nv (by omega),Tl (by simp;omega)]at this
   exact this
  |false=>
   simp only[ways,cond_false]at hb |-
   simp only[b9 x1,cH,de m0,f124_eq]
   have DS:=zR a (wr (y.bW+s))
   generalize hP:eD a (wr (y.bW+s))=P at hb DS |-
   obtain⟨P,e⟩:=P
   simp only at hb DS |-
   by_cases he:e=0
   ·subst he
    simp only[ne_eq,not_true_eq_false,decide_false,cond_false]at hb |-
    have ZS:(l.set i ⟨0,0⟩).take i=l.take i:=by rw[Yh (eu i)]
    have hW:=λk=>(PJ k P).symm
    let W:=λ(Q:List bn)=>(Q.filter λp=>!((l.take i).any (lq p.bc))).flatMap λp=>ways a s (cq.drop (i+1)) (drop.drop (i+1)) (l.take i++[p])
    have ZT: ∀k,(W (P.take k)).length<=(W P).length:=λk=>by
     have:W P=W (P.take k)++W (P.drop k):=by
      show W P=_
      rw[<-WQ,<-EL,PJ]
     rw[this,kc];omega
    have hb:all.length+(W P).length<=4000000:=hb
    have key:=jJ (body:=λ((kT,vb,MA):(List bn×List (List bn)×Int))=>bif (decide (MA<(P.length:Int)))then((((ix P MA).bind λTP=>cr (0<=(i:Int))<|cr (i<=kT.length)<|cr (0+i<=kT.length)<|(f223 (kT.take i) TP.bc).bind λr17=>bif (!r17)then((ix kT (i:Int)).bind λy19=>(f267r fu ((i+1:Nat):Int) cq vb (kT.set i TP) drop a s).bind λr20=>some (r20.2,r20.1))else(some (kT,vb))):Option (List bn×List (List bn))).bind λ((JB,JC):(List bn×List (List bn)))=>some (.inl (JB,JC,(wr (MA+1)))))else(some (.inr (vb,kT))))
     (λk(st:List bn×List (List bn)×Int)=>st.2.2=(k:Int)/\st.1.length=l.length/\st.1.take i=l.take i/\st.2.1=all++W (P.take k)) (λr=>r.1=all++W P/\r.2.length=l.length/\r.2.take i=l.take i) P.length (s0:=(l.set i ⟨0,0⟩,all,0)) (by omega) ⟨rfl,by simp,ZS,by simp[W]⟩ ?_ ?_
    ·obtain⟨⟨r1,r2⟩,k1,k2,k3,k4⟩:=key
     simp only at k2 k3 k4
     refine⟨r2,k3,k4,?_⟩
     simp only[k1,cH,k2]
     rfl
    ·rintro k ⟨q1,q2,q3⟩ hk ⟨e1,e2,e3,e4⟩
     simp only at e1 e2 e3 e4
     subst e1;subst e4
     have g1:P[k]? =some (P[k]'hk):=dC _
     generalize P[k]'hk=p at g1
     have hsP:bT P:=by simp only[bT];omega
     have n1:(0:Int)<=(i:Int):=by omega
     have n2:i<=q1.length:=by omega
     have n3:0+i<=q1.length:=by omega
     have g3:q1[i]? =some (q1[i]'(by omega)):=dC _
     have ZU:W (P.take (k+1))=W (P.take k)++W [p]:=by
      show W _=_
      rw[cN g1,<-WQ,<-EL]
     simp only[cJ g1,cond_true,b9 g1,cH,dB hsP g1,de n1,de n2,de n3,e3,f223_eq _ _ (show bT (l.take i)by simp only[bT,CS];omega)]
     cases hA:(l.take i).any (lq p.bc)
     ·have XA:W [p]=ways a s (cq.drop (i+1)) (drop.drop (i+1)) (l.take i++[p]):=by
       show List.flatMap _ (List.filter _ [p])=_
       simp[hA]
      have ht:(q1.set i p).take (i+1)=l.take i++[p]:=by rw[jE (by omega),e3]
      have ep:=ZT (k+1)
      rw[ZU,kc,XA]at ep
      obtain⟨l',a1,a2,a3⟩:=f267_eq a s cq drop hn hd rem fu (i+1) (all++W (P.take k)) (q1.set i p) (by simp;omega) (by omega) (by omega) (by rw[ht,kc];omega)
      rw[ht]at a2 a3
      simp only[E7,cond_true,b9 g3,cH,a3]
      refine .inl ⟨_,rfl,rfl,?_,?_,?_⟩
      ·show l'.length=l.length;rw[a1];simp[e2]
      ·have:=congrArg (List.take i) a2
       rw[QS,Nv (by omega),Tl (by simp;omega)]at this
       exact this
      ·show _=all++W (P.take (k+1))
       rw[ZU,XA,CT]
     ·have XA:W [p]=[]:=by
       show List.flatMap _ (List.filter _ [p])=_
       simp[hA]
      simp only[oe,cond_false,cH]
      refine .inl ⟨_,rfl,rfl,e2,e3,?_⟩
      show _=all++W (P.take (k+1))
      rw[ZU,XA,wx]
    ·rintro⟨q1,q2,q3⟩ ⟨e1,e2,e3,e4⟩
     simp only at e1 e2 e3 e4
     subst e1;subst e4
     simp only[kF,decide_false,cond_false]
     exact⟨_,rfl,by simp,e2,e3⟩
   ·simp only[ne_eq,he,not_false_eq_true,decide_true,cond_true,wx]at hb |-
    exact⟨l.set i ⟨0,0⟩,by simp,by rw[Yh (eu i)],rfl⟩
theorem f220_ex(a:bK)(s:Int)(cq:List bF)(drop:List Bool)(hn:cq.length<=4000)(hd:drop.length=cq.length)(hw:(ways a s cq drop []).length<=4000000)
  (VU: ∃r,f269 (ways a s cq drop [])=some r/\r.Perm (ways a s cq drop [])): ∃r,f220 a cq drop s=some r/\r.Perm (ways a s cq drop []):=by
 unfold f220
 have n1:(0:Int)<=(cq.length:Int):=by omega
 have n2:(cq.length:Int)<=(bJ:Int):=by unfold bJ;omega
 obtain⟨l',_,_,h3⟩:=f267_eq a s cq drop hn hd cq.length cy 0 [] (List.replicate cq.length ⟨0,0⟩) (by simp) (by omega) (by unfold cy;omega) (by simpa using hw)
 have h3:f267 0 cq [] (List.replicate cq.length ⟨0,0⟩) drop a s=some ([]++ways a s (cq.drop 0) (drop.drop 0) ((List.replicate cq.length (⟨0,0⟩:bn)).take 0),l'):=h3
 simp only[WN,QR,qY]at h3
 obtain⟨r,h4,h5⟩:=VU
 simp only[de n1,de n2,nv,h3,cH,h4,de h5.length_eq]
 exact⟨r,rfl,h5⟩
end Go.Proofs.YtpbahncblggodaaGreat
set_option linter.all false
namespace Go.Proofs.YtpbahncblggodaaGreat
open Go Go.Am Go.Sort
set_option maxRecDepth 100000
theorem MB(a b:Int):decide (pu a b<0)=decide (a<b):=by
 unfold pu
 by_cases h1:a<b
 ·simp[h1]
 ·by_cases h2:b<a<;>simp[h1,h2]
theorem MC{α:Type}{k:α->Int}{fg:α->α->Option Int}{x y:α}(h:fg x y=some (pu (k x) (k y))):fy fg x y=decide (k x<k y):=by
 unfold fy
 rw[h]
 exact MB _ _
theorem AM{α:Type}[DecidableEq α](k:α->Int)(fg:α->α->Option Int)(l:List α)(hg: ∀x∈l,∀y∈l,fg x y=some (pu (k x) (k y)))(hs:bT l)(hd: ∀x∈l,∀y∈l,k x=k y->x=y):
  ∃r,rL fg l=some r/\r.Perm l/\r.Pairwise λx y=>k x<=k y:=by
 have gh: ∀x∈l,∀y∈l,fy fg x y=decide (k x<k y):=λx hx y hy=>MC (hg x hx y hy)
 obtain⟨r,h1,h2,h3⟩:=MD (fg:=fg) (l:=l) ⟨hs,λx hx y hy=>by rw[hg x hx y hy];rfl,λx hx=>by rw[gh x hx x hx];simp,
  λx hx y hy z hz a b=>by rw[gh x hx y hy]at a;rw[gh y hy z hz]at b;rw[gh x hx z hz];simp at *;omega,
  λx hx y hy z hz a b=>by rw[gh x hx y hy]at a;rw[gh y hy z hz]at b;rw[gh x hx z hz];simp at *;omega,
  λx hx y hy a b=>by rw[gh x hx y hy]at a;rw[gh y hy x hx]at b;simp at a b;exact hd x hx y hy (by omega)⟩
 refine⟨r,h1,h2,?_⟩
 rw[EN]at h3 |-
 intro i j hi hj pz
 have:=h3 i j hi hj pz
 rw[gh _ (h2.mem_iff.1 (zo hj)) _ (h2.mem_iff.1 (zo hi))]at this
 simp at this
 omega
theorem AN{α:Type}[DecidableEq α](k:α->Int)(fg:α->α->Option Int)(hg: ∀x y,fg x y=some (pu (k x) (k y)))(l:List α)(hs:bT l)(hd: ∀x∈l,∀y∈l,k x=k y->x=y):
 ∃r,rL fg l=some r/\r.Perm l/\r.Pairwise λx y=>k x<=k y:=AM k fg l (λx _ y _=>hg x y) hs hd
theorem f225_eq(p q:bn):f225 p q=some (pu p.bc q.bc):=by unfold f225;rw[f104_eq];rfl
theorem f166_eq(p q:cT):f166 p q=some (pu p.bc q.bc):=by unfold f166;rw[f104_eq];rfl
theorem f90_eq(l:List Int)(h:bT l):f90 l=some (jX l):=by
 unfold f90;rw[if_pos h]
def kU(e:Int)(pl:List bn)(x:bF×Bool):Bool:=
 !(x.2&&decide (x.1.bP.ct=0)&&!(pl.any (lq x.1.bP.bc)))&&(!(!x.2&&pl.any (lq x.1.bP.bc))&&!(!x.2&&decide (0<x.1.bP.ct)&&decide (15<wr (e-x.1.cW))))
theorem AO{α β:Type}{l:List α}{m:List β}{k:Nat}{a:α}{b:β}(h1:l[k]? =some a)(h2:m[k]? =some b):(l.zip m)[k]? =some (a,b):=Yi.2 ⟨h1,h2⟩
theorem f222_eq(d:cM)(c:bU)(dN:List bF)(hl:c.cut.length=dN.length)(hs:bT dN)(hp:bT c.places):f222 d c dN=some ((dN.zip c.cut).all (kU (d.bM.bG.length:Int) c.places)):=by
 have nu:dN.length<=4194304:=hs
 have key: ∃o,f222 d c dN=some o/\o=(dN.zip c.cut).all (kU (d.bM.bG.length:Int) c.places):=by
  unfold f222
  refine eO (λk(s:Int)=>s=(k:Int)/\((dN.zip c.cut).take k).all (kU (d.bM.bG.length:Int) c.places)=true) (λo=>match o with
   |.inl _=>(dN.zip c.cut).all (kU (d.bM.bG.length:Int) c.places)=true
   |.inr b=>b=false/\(dN.zip c.cut).all (kU (d.bM.bG.length:Int) c.places)=false) dN.length nu ⟨rfl,by simp⟩ ?_ ?_ ?_
  ·rintro k s hk ⟨rfl,hi⟩
   have e1:dN[k]? =some (dN[k]'hk):=dC _
   have e2:c.cut[k]? =some (c.cut[k]'(by omega)):=dC _
   generalize dN[k]'hk=n at e1
   generalize c.cut[k]'(by omega)=b at e2
   have e3:=AO e1 e2
   have hT:kU (d.bM.bG.length:Int) c.places (n,b)=false->(dN.zip c.cut).all (kU (d.bM.bG.length:Int) c.places)=false:=λh=>by
    rw[Yj]
    exact⟨(n,b),gx e3,by rw[h];simp⟩
   have hN:kU (d.bM.bG.length:Int) c.places (n,b)=true->((dN.zip c.cut).take (k+1)).all (kU (d.bM.bG.length:Int) c.places)=true:=λh=>by
    rw[cN e3,List.all_append,hi]
    simp[h]
   simp only[cJ e1,cond_true,b9 e1,b9 e2,cH,dB hs e1,f223_eq _ _ hp]
   unfold kU at hT hN
   simp only at hT hN
   generalize c.places.any (lq n.bP.bc)=t at hT hN |-
   generalize decide (n.bP.ct=0)=z at hT hN |-
   generalize decide (0<n.bP.ct)=z2 at hT hN |-
   generalize decide (15<wr ((d.bM.bG.length:Int)-n.cW))=z3 at hT hN |-
   cases b<;>cases t<;>cases z<;>cases z2<;>cases z3<;>first|exact .inl ⟨_,rfl,rfl,hN rfl⟩|exact .inr ⟨_,rfl,rfl,hT rfl⟩
  ·rintro s ⟨rfl,hi⟩
   simp only[kF,decide_false,cond_false]
   refine⟨_,rfl,?_⟩
   rw[rP (by simp;omega)]at hi
   exact hi
  ·intro o ho
   cases o with
   |inl _=>exact⟨true,rfl,ho.symm⟩
   |inr b=>obtain⟨rfl,h⟩:=ho;exact⟨false,rfl,h.symm⟩
 obtain⟨o,h1,h2⟩:=key
 rw[h1,h2]
def lK(x:bF×Bool):Bool:=!x.2&&decide (0<x.1.bP.ct)
def mM(dN:List bF)(cut:List Bool):List bF:=((dN.zip cut).filter lK).map (·.1)
def nR(c:bU)(dN:List bF):List bn:=(mM dN c.cut).map (·.bP)++c.places.filter λp=>decide (0<p.ct)
def vL(d:cM)(c:bU):List Int:=(c.places.filter λp=>!decide (0<p.ct)&&decide (0<p.bc)).map (·.bc)++d.dw.db.filter λx=>!(c.places.any (lq x))
theorem f160_ex(d:cM)(hd:jM d.dw)(c:bU)(dN:List bF)(hl:c.cut.length=dN.length)(hs:dN.length<=100000)(hp:c.places.length<=100000)(ho:d.dw.db.length<=100000)
  (VV: ∀x∈nR c dN,∀y∈nR c dN,x.bc=y.bc->x=y):
  ∃x,f160 d c dN=some x/\(x.cD.Perm (nR c dN)/\(x.cD.Pairwise λp q=>p.bc<=q.bc)/\x.held=jX ((mM dN c.cut).map (·.bP.bc))/\x.db=jX (vL d c)):=by
 unfold f160
 refine eO (λk(s:List bn×List Int×Int)=>s.2.2=(k:Int)/\s.1=((((dN.zip c.cut).take k).filter lK).map (·.1)).map (·.bP)/\s.2.1=((((dN.zip c.cut).take k).filter lK).map (·.1)).map (·.bP.bc))
  (λr=>r.1=(mM dN c.cut).map (·.bP)/\r.2=(mM dN c.cut).map (·.bP.bc)) dN.length (by omega) ⟨rfl,by simp,by simp⟩ ?_ ?_ ?_
 ·rintro k ⟨s1,s2,s3⟩ hk ⟨e0,e1,e2⟩
  simp only at e0 e1 e2
  subst e0;subst e1;subst e2
  have x1:dN[k]? =some (dN[k]'hk):=dC _
  have x2:c.cut[k]? =some (c.cut[k]'(by omega)):=dC _
  generalize dN[k]'hk=n at x1
  generalize c.cut[k]'(by omega)=b at x2
  have x3:=AO x1 x2
  have dt:(((dN.zip c.cut).take k).filter lK).length<=k:=by
   have:=sM lK ((dN.zip c.cut).take k)
   simp only[CS]at this
   omega
  have m1:((((dN.zip c.cut).take k).filter lK).map (·.1)).length+1<=bJ:=by simp only[mA];unfold bJ;omega
  have m2:(((((dN.zip c.cut).take k).filter lK).map (·.1)).map λx:bF=>x.bP).length+1<=bJ:=by simp only[mA];unfold bJ;omega
  have m3:(((((dN.zip c.cut).take k).filter lK).map (·.1)).map λx:bF=>x.bP.bc).length+1<=bJ:=by simp only[mA];unfold bJ;omega
  simp only[cJ x1,cond_true,b9 x1,b9 x2,cH,dB (l:=dN) (by simp only[bT];omega) x1,de m2,de m3]
  have hf:lK (n,b)=(!b&&decide (0<n.bP.ct)):=rfl
  have ht:((dN.zip c.cut).take (k+1)).filter lK=((dN.zip c.cut).take k).filter lK++(bif lK (n,b)then [(n,b)]else []):=by
   rw[cN x3,EL]
   cases hq:lK (n,b)<;>simp[hq]
  cases b
  ·simp only[E7,cond_true,cH]
   cases hz:decide (0<n.bP.ct)
   ·simp only[cond_false,cH]
    refine .inl ⟨_,rfl,rfl,?_,?_⟩<;>rw[ht,hf,hz]<;>simp
   ·simp only[cond_true,cH]
    refine .inl ⟨_,rfl,rfl,?_,?_⟩<;>rw[ht,hf,hz]<;>simp
  ·simp only[oe,cond_false,cH]
   refine .inl ⟨_,rfl,rfl,?_,?_⟩<;>rw[ht,hf]<;>simp
 ·rintro⟨s1,s2,s3⟩ ⟨e0,e1,e2⟩
  simp only at e0 e1 e2
  subst e0;subst e1;subst e2
  simp only[kF,decide_false,cond_false]
  have ht:(dN.zip c.cut).take dN.length=dN.zip c.cut:=rP (by simp;omega)
  refine⟨_,rfl,?_,?_⟩<;>rw[ht]<;>rfl
 rintro⟨D1,H1⟩ ⟨e1,e2⟩
 simp only at e1 e2
 subst e1;subst e2
 have ZK:(mM dN c.cut).length<=100000:=by
  unfold mM
  have:=sM lK (dN.zip c.cut)
  simp only[List.length_zip,mA]at this |-
  omega
 refine eO (λk(s:List bn×List Int×Int)=>s.2.2=(k:Int)/\s.1=(mM dN c.cut).map (·.bP)++(c.places.take k).filter (λp=>decide (0<p.ct))/\s.2.1=((c.places.take k).filter λp=>!decide (0<p.ct)&&decide (0<p.bc)).map (·.bc))
  (λr=>r.1=nR c dN/\r.2=(c.places.filter λp=>!decide (0<p.ct)&&decide (0<p.bc)).map (·.bc)) c.places.length (by omega) ⟨rfl,by simp,by simp⟩ ?_ ?_ ?_
 ·rintro k ⟨s1,s2,s3⟩ hk ⟨e0,e1,e2⟩
  simp only at e0 e1 e2
  subst e0;subst e1;subst e2
  have x1:c.places[k]? =some (c.places[k]'hk):=dC _
  generalize c.places[k]'hk=p at x1
  have l1:=sM (λp:bn=>decide (0<p.ct)) (c.places.take k)
  have l2:=sM (λp:bn=>!decide (0<p.ct)&&decide (0<p.bc)) (c.places.take k)
  simp only[CS]at l1 l2
  have m1:((mM dN c.cut).map (λx:bF=>x.bP)++(c.places.take k).filter (λp=>decide (0<p.ct))).length+1<=bJ:=by simp only[kc,mA];unfold bJ;omega
  have m2:(((c.places.take k).filter λp=>!decide (0<p.ct)&&decide (0<p.bc)).map (λx:bn=>x.bc)).length+1<=bJ:=by simp only[mA];unfold bJ;omega
  simp only[cJ x1,cond_true,b9 x1,cH,dB (l:=c.places) (by simp only[bT];omega) x1,de m1,de m2]
  have ZV:(c.places.take (k+1)).filter (λp=>decide (0<p.ct))=(c.places.take k).filter (λp=>decide (0<p.ct))++(bif decide (0<p.ct)then [p]else []):=by
   rw[cN x1,EL]
   cases hq:decide (0<p.ct)<;>simp at hq<;>simp[hq]
  have zg:(c.places.take (k+1)).filter (λp=>!decide (0<p.ct)&&decide (0<p.bc))=(c.places.take k).filter (λp=>!decide (0<p.ct)&&decide (0<p.bc))++(bif (!decide (0<p.ct)&&decide (0<p.bc))then [p]else []):=by
   rw[cN x1,EL]
   cases hq:(!decide (0<p.ct)&&decide (0<p.bc))<;>simp[Th,hq]
  cases hz:decide (0<p.ct)
  ·cases FC:decide (0<p.bc)
   ·simp only[cond_false,cH]
    refine .inl ⟨_,rfl,rfl,?_,?_⟩
    ·show _=_++List.filter _ (List.take (k+1) _);rw[ZV,hz];simp
    ·show _=List.map _ (List.filter _ (List.take (k+1) _));rw[zg,hz,FC];simp
   ·simp only[cond_false,cond_true,cH]
    refine .inl ⟨_,rfl,rfl,?_,?_⟩
    ·show _=_++List.filter _ (List.take (k+1) _);rw[ZV,hz];simp
    ·show _=List.map _ (List.filter _ (List.take (k+1) _));rw[zg,hz,FC];simp
  ·simp only[cond_true,cH]
   refine .inl ⟨_,rfl,rfl,?_,?_⟩
   ·show _=_++List.filter _ (List.take (k+1) _);rw[ZV,hz];simp
   ·show _=List.map _ (List.filter _ (List.take (k+1) _));rw[zg,hz];simp
 ·rintro⟨s1,s2,s3⟩ ⟨e0,e1,e2⟩
  simp only at e0 e1 e2
  subst e0;subst e1;subst e2
  simp only[kF,decide_false,cond_false]
  refine⟨_,rfl,?_,?_⟩<;>rw[Bb]<;>rfl
 rintro⟨D2,O2⟩ ⟨e1,e2⟩
 simp only at e1 e2
 subst e1;subst e2
 have l2:=sM (λp:bn=>!decide (0<p.ct)&&decide (0<p.bc)) c.places
 refine eO (λk(s:List Int×Int)=>s.2=(k:Int)/\s.1=(c.places.filter λp=>!decide (0<p.ct)&&decide (0<p.bc)).map (·.bc)++(d.dw.db.take k).filter λx=>!(c.places.any (lq x))) (λr=>r=vL d c) d.dw.db.length (by omega) ⟨rfl,by simp⟩ ?_ ?_ ?_
 ·rintro k ⟨s1,s2⟩ hk ⟨e0,e1⟩
  simp only at e0 e1
  subst e0;subst e1
  have x1:d.dw.db[k]? =some (d.dw.db[k]'hk):=dC _
  generalize d.dw.db[k]'hk=x at x1
  have l3:=sM (λx:Int=>!(c.places.any (lq x))) (d.dw.db.take k)
  simp only[CS]at l3
  have m1:((c.places.filter λp=>!decide (0<p.ct)&&decide (0<p.bc)).map (λx:bn=>x.bc)++(d.dw.db.take k).filter λx=>!(c.places.any (lq x))).length+1<=bJ:=by
   simp only[kc,mA];unfold bJ;omega
  simp only[cJ x1,cond_true,b9 x1,cH,dB (l:=d.dw.db) (by simp only[bT];omega) x1,f223_eq c.places x (by simp only[bT];omega),de m1]
  have ht:(d.dw.db.take (k+1)).filter (λx=>!(c.places.any (lq x)))=(d.dw.db.take k).filter (λx=>!(c.places.any (lq x)))++(bif !(c.places.any (lq x))then [x]else []):=by
   rw[cN x1,EL]
   cases hq:(!(c.places.any (lq x)))<;>simp[Th,hq]
  cases hz:c.places.any (lq x)
  ·refine .inl ⟨_,rfl,rfl,?_⟩
   show _=_++List.filter _ (List.take (k+1) _);rw[ht,hz];simp
  ·refine .inl ⟨_,rfl,rfl,?_⟩
   show _=_++List.filter _ (List.take (k+1) _);rw[ht,hz];simp
 ·rintro⟨s1,s2⟩ ⟨e0,e1⟩
  simp only at e0 e1
  subst e0;subst e1
  simp only[kF,decide_false,cond_false]
  refine⟨_,rfl,?_⟩
  rw[Bb];rfl
 rintro O3 rfl
 have hD:(nR c dN).length<=300000:=by
  unfold nR
  have:=sM (λp:bn=>decide (0<p.ct)) c.places
  simp only[kc,mA];omega
 have hO:(vL d c).length<=300000:=by
  unfold vL
  have:=sM (λx:Int=>!(c.places.any (lq x))) d.dw.db
  simp only[kc,mA];omega
 obtain⟨r,h1,h2,h3⟩:=AN bn.bc f225 f225_eq (nR c dN) (by simp only[bT];omega) VV
 have s1:bT ((mM dN c.cut).map λx:bF=>x.bP.bc):=by simp only[bT,mA];omega
 have s2:bT (vL d c):=by simp only[bT];omega
 have l4:=nP ((mM dN c.cut).map λx:bF=>x.bP.bc)
 have l5:=nP (vL d c)
 unfold f224
 simp only[h1,cH,de h2.length_eq,f90_eq _ s1,de l4,f90_eq _ s2,de l5]
 exact⟨_,rfl,h2,h3,rfl,rfl⟩
end Go.Proofs.YtpbahncblggodaaGreat
set_option linter.all false
namespace Go.Proofs.YtpbahncblggodaaGreat
open Go Go.Am Go.Sort
set_option maxRecDepth 100000
theorem f221_eq(l:List Bool)(h:bT l):f221 l=some l:=by
 unfold f221
 by_cases c:l=[]
 ·subst c;simp
 ·have:l.length<=bJ:=by simp only[bT]at h;unfold bJ;omega
  rw[show l.isEmpty=false from by simpa using c];simp[de this]
structure lM (d:cM) (dN:List bF) (c:bU) (x:bR) (g:List cp):Prop where
 ten:(dN.zip c.cut).all (kU (d.bM.bG.length:Int) c.places)=true
 cho:f160 d c dN=some x
 rea:f161 d x=some g
structure HS (d:cM) (dN:List bF) (c:bU):Prop where
 cut:c.cut.length=dN.length
 pl:c.places.length<=100000
 C4:(dN.zip c.cut).all (kU (d.bM.bG.length:Int) c.places)=true-> ∀x∈nR c dN,∀y∈nR c dN,x.bc=y.bc->x=y
theorem f160_small(d:cM)(c:bU)(dN:List bF)(hs:dN.length<=100000)(hp:c.places.length<=100000)(ho:d.dw.db.length<=100000){x:bR}
  (h:x.cD.Perm (nR c dN)/\(x.cD.Pairwise λp q=>p.bc<=q.bc)/\x.held=jX ((mM dN c.cut).map (·.bP.bc))/\x.db=jX (vL d c)):jM x:=by
 have ZK:(mM dN c.cut).length<=100000:=by
  unfold mM
  have:=sM lK (dN.zip c.cut)
  simp only[List.length_zip,mA]at this |-
  omega
 obtain⟨h1,_,h3,h4⟩:=h
 refine⟨?_,?_,?_⟩
 ·have:=h1.length_eq
  unfold nR at this
  have l1:=sM (λp:bn=>decide (0<p.ct)) c.places
  simp only[kc,mA]at this
  simp only[bT];omega
 ·simp only[bT,h3,nP,mA];omega
 ·have l1:=sM (λx:Int=>!(c.places.any (lq x))) d.dw.db
  have l2:=sM (λp:bn=>!decide (0<p.ct)&&decide (0<p.bc)) c.places
  simp only[bT,h4,nP,vL,kc,mA];omega
theorem D5 {R : Type} (B : List Bool → Option (R ⊕ Unit)) (F : List Bool → R → Prop) (N : List Bool → Prop) : ∀ L : List (List Bool), (∀ l ∈ L, ∃ o, B l = some o ∧ (match o with | .inl r => F l r | .inr _ => N l)) →
    ∃ o, kq B L = some o ∧ (match o with | .inl r => ∃ l ∈ L, F l r | .inr _ => ∀ l ∈ L, N l)
  | [], _ => ⟨_, rfl, by simp⟩
  | l :: L, h => by
    obtain ⟨o, h1, h2⟩ := h l (by simp)
    simp only [kq, h1]
    cases o with
    | inl r => exact ⟨_, rfl, l, by simp, h2⟩
    | inr _ =>
      obtain ⟨o, h3, h4⟩ := D5 B F N L fun l hl => h l (by simp [hl])
      refine ⟨o, h3, ?_⟩
      cases o with
      | inl r => obtain ⟨l', a, b⟩ := h4; exact ⟨l', by simp [a], b⟩
      | inr _ => intro l' uv; simp at uv; rcases uv with rfl | uv
                 · exact h2
                 · exact h4 l' uv
theorem qN: ∀(k m:Nat)l,l∈eN k m->l.length=k
 |0,0,l,h=>by simp[eN]at h;subst h;rfl
 |0,m+1,l,h=>by simp[eN]at h
 |k+1,0,l,h=>by
  simp[eN]at h
  obtain⟨x,h1,rfl⟩:=h
  simp[qN k 0 x h1]
 |k+1,m+1,l,h=>by
  simp[eN]at h
  rcases h with⟨x,h1,rfl⟩|⟨x,h1,rfl⟩
  ·simp[qN k (m+1) x h1]
  ·simp[qN k m x h1]
theorem oQ{n:Nat}{l:List Bool}(h:l∈kS n):l.length=n:=by
 unfold kS at h
 obtain⟨m,_,h2⟩:=sL.1 h
 exact qN n m l h2
theorem HU{R:Type}(B:List Bool->Option (Unit⊕(R⊕Unit)))(F:List Bool->R->Prop)(N S:List Bool->Prop): ∀L:List (List Bool),(∀l∈L,∃o,B l=some o/\(match o with|.inl _=>S l|.inr (.inl r)=>F l r|.inr (.inr _)=>N l))->
  ∃o,oO B L=some o/\(match o with
   |.inl _=> ∃a l b,L=a++l::b/\S l/\ ∀x∈a,N x
   |.inr (.inl r)=> ∃l∈L,F l r
   |.inr (.inr _)=> ∀l∈L,N l)
 | [],_=>⟨_,rfl,by simp⟩
 |l::L,h=>by
  obtain⟨o,h1,h2⟩:=h l (by simp)
  simp only[oO,h1]
  rcases o with u|r|u
  ·exact⟨_,rfl,[],l,L,rfl,h2,by simp⟩
  ·exact⟨_,rfl,l,by simp,h2⟩
  ·obtain⟨o,h3,h4⟩:=HU B F N S L λl hl=>h l (by simp[hl])
   refine⟨o,h3,?_⟩
   rcases o with u|r|u
   ·obtain⟨a,x,b,k1,k2,k3⟩:=h4
    refine⟨l::a,x,b,by rw[k1];rfl,k2,λy hy=>?_⟩
    simp at hy
    rcases hy with rfl|hy
    ·exact h2
    ·exact k3 y hy
   ·obtain⟨l',a,b⟩:=h4;exact⟨l',by simp[a],b⟩
   ·intro l' uv;simp at uv;rcases uv with rfl|uv
    ·exact h2
    ·exact h4 l' uv
section
variable (d:cM) (hd:D4 d) (dN:List bF) (hu:dN.length<=100000) (ho:d.dw.db.length<=100000) (e6:bU) (e7:bR) (e8:List cp) (e9:Bool) (cq:List bF)
include hd hu ho
theorem f350_ex(c:bU)(hc:HS d dN c)(ht:(dN.zip c.cut).all (kU (d.bM.bG.length:Int) c.places)=true): ∃o,f350 d dN e6 e7 e8 e9 cq dN c=some o/\(match o with
  |.inl r=>lM d dN c r.2 r.1/\r.1≠[]
  |.inr _=> ∃x,lM d dN c x []):=by
 unfold f350
 obtain⟨x,h1,h2⟩:=f160_ex d hd.ch c dN hc.cut hu hc.pl ho (hc.C4 ht)
 obtain⟨g,h3,_⟩:=f161_ex d hd x (f160_small d c dN hu hc.pl ho h2)
 simp only[h1,cH,h3]
 by_cases hg:g=[]
 ·subst hg
  exact⟨_,rfl,x,ht,h1,h3⟩
 ·have c1:(0:Int)<(g.length:Int):=by
   have:=QU.2 hg;omega
  simp only[c1,decide_true,cond_true]
  exact⟨_,rfl,⟨ht,h1,h3⟩,hg⟩
theorem f349_ex(al:List (List bn))(J1:bT al)(cut:List Bool)(ME:cut.length=dN.length)(hc: ∀pl∈al,HS d dN ⟨pl,cut⟩)(e0 e31:Int): ∃o,f349 cq d dN dN e6 e7 e8 e9 al e0 e31 cut=some o/\(match o with
  |.inl r=>r.2.2.places∈al/\r.2.2.cut=cut/\lM d dN r.2.2 r.2.1 r.1/\r.1≠[]
  |.inr _=> ∀pl∈al,(dN.zip cut).all (kU (d.bM.bG.length:Int) pl)=true-> ∃x,lM d dN ⟨pl,cut⟩ x []):=by
 have ZW:al.length<=4194304:=J1
 unfold f349
 refine eO (λk(s:Int)=>s=(k:Int)/\ ∀pl∈al.take k,(dN.zip cut).all (kU (d.bM.bG.length:Int) pl)=true-> ∃x,lM d dN ⟨pl,cut⟩ x []) (λo=>match o with
  |.inl _=> ∀pl∈al,(dN.zip cut).all (kU (d.bM.bG.length:Int) pl)=true-> ∃x,lM d dN ⟨pl,cut⟩ x []
  |.inr (.inl r)=>r.2.2.places∈al/\r.2.2.cut=cut/\lM d dN r.2.2 r.2.1 r.1/\r.1≠[]
  |.inr (.inr _)=>False) al.length ZW ⟨rfl,by simp⟩ ?_ ?_ ?_
 ·rintro k s hk ⟨rfl,hi⟩
  have e1:al[k]? =some (al[k]'hk):=dC _
  generalize al[k]'hk=pl at e1
  have hm:=gx e1
  have CB:=hc pl hm
  have sO:=CB.pl
  simp only at sO
  simp only[cJ e1,cond_true,b9 e1,cH,dB J1 e1,f221_eq cut (by simp only[bT];omega),f222_eq d ⟨pl,cut⟩ dN ME (by simp only[bT];omega) (by simp only[bT];omega)]
  cases ht:(dN.zip cut).all (kU (d.bM.bG.length:Int) pl)
  ·refine .inl ⟨_,rfl,rfl,λp hp h=>?_⟩
   rw[cN e1,la]at hp
   rcases hp with hp|hp
   ·exact hi p hp h
   ·simp at hp;subst hp
    rw[ht]at h;cases h
  ·obtain⟨o,h1,h2⟩:=f350_ex d hd dN hu ho e6 e7 e8 e9 cq ⟨pl,cut⟩ CB ht
   simp only[cond_true,h1,cH]
   cases o with
   |inl r=>exact .inr ⟨_,rfl,hm,rfl,h2.1,h2.2⟩
   |inr _=>
    refine .inl ⟨_,rfl,rfl,λp hp h=>?_⟩
    rw[cN e1,la]at hp
    rcases hp with hp|hp
    ·exact hi p hp h
    ·simp at hp;subst hp
     exact h2
 ·rintro s ⟨rfl,hi⟩
  simp only[kF,decide_false,cond_false]
  exact⟨_,rfl,λp hp=>hi p (by simpa using hp)⟩
 ·intro o h
  rcases o with u|r|u
  ·exact⟨_,rfl,h⟩
  ·exact⟨_,rfl,h⟩
  ·exact h.elim
theorem f348_ex(drop:List Bool)(pB:cq.length<=4000)(EW:drop.length=cq.length)(hun:dN.length<=4194303)(e0:Int)(al:List (List bn))(J1:f220 d.ka cq drop d.shift=some al)(zO:bT al)(hc: ∀cut,cut.length=dN.length-> ∀pl∈al,HS d dN ⟨pl,cut⟩):
  ∃o,f348 cq d dN dN e6 e7 e8 e9 e0 drop=some o/\(match o with
  |.inl _=>drop.all (λb=>b)=true
  |.inr (.inl r)=>(drop.all λb=>b)=false/\r.2.2.places∈al/\r.2.2.cut.length=dN.length/\lM d dN r.2.2 r.2.1 r.1/\r.1≠[]
  |.inr (.inr _)=> ∀pl∈al,∀cut∈kS dN.length,(dN.zip cut).all (kU (d.bM.bG.length:Int) pl)=true-> ∃x,lM d dN ⟨pl,cut⟩ x []):=by
 have hD:f69 drop false=some (drop.any λb=>!b):=by
  unfold f69 f134
  rw[dP drop (λb=>!b) (λi _=>(i:Int)) (by simp only[bT];omega)]
  ·simp only[cH,fi]
   rw[<-fT]
   unfold gu
   cases drop.findIdx? _<;>simp
  ·intro i y hy
   simp only[cJ hy,cond_true,b9 hy,cH]
   cases y<;>rfl
  ·simp
 unfold f348
 simp only[hD,cH]
 cases hz:drop.any λb=>!b
 ·refine⟨_,rfl,?_⟩
  simp only[Ny,py]at hz |-
  intro b hb
  have:=hz b hb
  simpa using this
 ·simp only[oe,cond_false,J1,cH,f219]
  obtain⟨o,h1,h2⟩:=D5 (f349 cq d dN dN e6 e7 e8 e9 al e0 (dN.length:Int)) (λl r=>r.2.2.places∈al/\r.2.2.cut=l/\lM d dN r.2.2 r.2.1 r.1/\r.1≠[])
   (λl=> ∀pl∈al,(dN.zip l).all (kU (d.bM.bG.length:Int) pl)=true-> ∃x,lM d dN ⟨pl,l⟩ x []) (kS dN.length) λl hl=>by
    have Ph:=oQ hl
    obtain⟨o,a1,a2⟩:=f349_ex d hd dN hu ho e6 e7 e8 e9 cq al zO l Ph (hc l Ph) e0 (dN.length:Int)
    refine⟨o,a1,?_⟩
    rcases o with r|u
    ·exact a2
    ·exact a2
  have h3:=f265_1_eq cq d dN dN e6 e7 e8 e9 al e0 dN.length hun o h1
  simp only[h3,cH]
  cases o with
  |inl r=>
   obtain⟨l,k1,k2,k3,k4⟩:=h2
   refine⟨_,rfl,?_,k2,by rw[k3];exact oQ k1,k4⟩
   rw[Yj]
   obtain⟨b,hb,hn⟩:=w9.1 hz
   exact⟨b,hb,by simpa using hn⟩
  |inr _=>exact⟨_,rfl,λpl hp cut ME=>h2 cut ME pl hp⟩
end
theorem f98_ex(d:cM)(hd:D4 d)(cq dN:List bF)(hu:dN.length<=100000)(ho:d.dw.db.length<=100000)(pB:cq.length<=4000)(al:List Bool->List (List bn))
  (J1: ∀drop,drop.length=cq.length->f220 d.ka cq drop d.shift=some (al drop)/\bT (al drop)/\ ∀cut,cut.length=dN.length-> ∀pl∈al drop,HS d dN ⟨pl,cut⟩):
  ∃r,f98 d cq dN=some r/\(if r.2.2.2 then(∃drop∈kS cq.length,(drop.all λb=>b)=false/\r.1.places∈al drop)/\r.1.cut.length=dN.length/\lM d dN r.1 r.2.1 r.2.2.1/\r.2.2.1≠[]
   else(∃a l b,kS cq.length=a++l::b/\(l.all λb=>b)=true/\ ∀drop∈a,∀pl∈al drop,∀cut∈kS dN.length,(dN.zip cut).all (kU (d.bM.bG.length:Int) pl)=true-> ∃x,lM d dN ⟨pl,cut⟩ x [])\/
    ∀drop∈kS cq.length,∀pl∈al drop,∀cut∈kS dN.length,(dN.zip cut).all (kU (d.bM.bG.length:Int) pl)=true-> ∃x,lM d dN ⟨pl,cut⟩ x []):=by
 obtain⟨o,h1,h2⟩:=HU (f348 cq d dN dN ⟨[],[]⟩ ⟨[],[],[]⟩ [] false (cq.length:Int)) (λl r=>(l.all λb=>b)=false/\r.2.2.places∈al l/\r.2.2.cut.length=dN.length/\lM d dN r.2.2 r.2.1 r.1/\r.1≠[])
  (λl=> ∀pl∈al l,∀cut∈kS dN.length,(dN.zip cut).all (kU (d.bM.bG.length:Int) pl)=true-> ∃x,lM d dN ⟨pl,cut⟩ x []) (λl=>(l.all λb=>b)=true) (kS cq.length) λl hl=>by
   have Ph:=oQ hl
   obtain⟨k1,k2,k3⟩:=J1 l Ph
   obtain⟨o,a1,a2⟩:=f348_ex d hd dN hu ho ⟨[],[]⟩ ⟨[],[],[]⟩ [] false cq l pB Ph (by omega) (cq.length:Int) (al l) k1 k2 k3
   refine⟨o,a1,?_⟩
   rcases o with u|r|u
   ·exact a2
   ·exact a2
   ·exact a2
 have h3:=f265_eq cq d dN dN ⟨[],[]⟩ ⟨[],[],[]⟩ [] false cq.length (by omega) o h1
 unfold f98 f218
 simp only[f219,f159,cH,h3]
 rcases o with u|r|u
 ·rw[eE (r:=((⟨[],[]⟩:bU),(⟨[],[],[]⟩:bR),([]:List cp),false)) rfl _ (by unfold cy;omega)]
  exact⟨_,rfl,.inl h2⟩
 ·obtain⟨l,k1,k2⟩:=h2
  rw[eE (r:=(r.2.2,r.2.1,r.1,true)) rfl _ (by unfold cy;omega)]
  exact⟨_,rfl,⟨l,k1,k2.1,k2.2.1⟩,k2.2.2⟩
 ·rw[eE (r:=((⟨[],[]⟩:bU),(⟨[],[],[]⟩:bR),([]:List cp),false)) rfl _ (by unfold cy;omega)]
  exact⟨_,rfl,.inr h2⟩
end Go.Proofs.YtpbahncblggodaaGreat
