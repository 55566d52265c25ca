/- Plain laws, joined by gen/joinH.py. -/
import Derived.Test.YtgpciecmgoppiaaGreatJA
set_option linter.all false
namespace Go.Proofs.YtgpciecmgoppiaaGreat
open Go Go.Am
set_option maxRecDepth 100000
theorem gy.len{c:bK}(h:gy c):c.cA.length<=14:=by
 have key: ∀(i:Nat)p,c.cA[i]? =some p->(i:Int)+1<=p.aW:=by
  intro i
  induction i with
  |zero=>intro p hp;have:=h.dc p (gN hp);omega
  |succ i ih=>
   intro p hp;have hi:=(lf.1 hp).1;have e1:c.cA[i]? =some (c.cA[i]'(by omega)):=dF _;have:=ih _ e1;have:=h.da i _ p e1 hp;omega
 rcases J4 14 c.cA.length with hl|hl
 ·have e1:c.cA[14]? =some (c.cA[14]'hl):=dF _;have h1:=key 14 _ e1;have h2:=h.dc _ (gN e1);omega
 ·exact hl
theorem f224_ex(h:eE)(hh:od h)(h0:f59 h=some 0)(c:bK)(hc:kt c): ∃r,f224 h c=some r/\(r.2=0->gy c/\f279 h c=some r.1/\r.1.length<=200/\ ∀g∈r.1,Fit h c g)/\
  (gy c-> ∀l,f279 h c=some l->l.length<=200->r=(l,0)):=by
 unfold f224;rw[h0];simp only[cN,qd,qe,fZ,dv];obtain⟨b,e1,e2⟩:=f278_ex c hc.d hc.h hc.o;simp only[e1,cN];cases b
 ·simp_all
 have hr:=e2.1 rfl;obtain⟨l,e3,e4,e5⟩:=f279_ex h hh c hr.len hc.o;simp only[pV,dv,e3,cN];by_cases c1:200<(l.length:Int)
 ·simp only[c1,ju,cP]
  grind
 ·simp only[c1,fZ,dv];exact⟨_,rfl,λ_=>⟨hr,rfl,by grind,e5⟩,λ_ l' h1 h2=>by cases h1;rfl⟩
theorem f225_ex(d:cM)(hh:od d.h)(h0:f59 d.h=some 0)(x:bK)(k:b9)(hc:kt d.dz)(hx:kt x)(hk:ck k.di)(l:List b9)(hl:ck l)(hf: ∀g∈l,ck g.di):
  ∃b,f225 l d x k=some b/\(b=true↔ ∃g∈l,Steps d.h d.dz g x k):=by
 have Gb:l.length<=4194304:=hl;unfold f225 f280;have key: ∃o,bO (σ:=Int) (τ:=(Unit⊕Int)) (λ(vX:Int)=>bif (decide (vX<(l.length:Int)))then((ix l vX).bind λy2=>(f226 y2 d x k).bind λr3=>bif r3 then(some (.inr (.inr vX)))else(some (.inl (wr (vX+1)))))else(some (.inr (.inl ())))) cr 0=some o/\
   (match o with
    |.inl _=> ¬ ∃g∈l,Steps d.h d.dz g x k
    |.inr z=>0<=z/\ ∃g∈l,Steps d.h d.dz g x k):=by
  refine jt (λn(s:Int)=>s=(n:Int)/\ ¬ ∃g∈l.take n,Steps d.h d.dz g x k) _ l.length Gb ⟨rfl,by simp⟩ ?_ ?_
  ·rintro n s hn ⟨rfl,hi⟩;have e1:l[n]? =some (l[n]'hn):=dF _;generalize l[n]'hn=g at e1;have hm:=gN e1;obtain⟨r,e2,e3⟩:=f227_ex d.h hh h0 d.dz g x k hc hx (hf g hm) hk;simp only[cy e1,cP,bT e1,cN,dp hl e1,f226,e2];by_cases c1:r.2=0
   ·simp only[c1,ju,cP]
    grind
   simp_all[cz]
  simp_all
 obtain⟨o,k1,k2⟩:=key;simp only[k1,cN];cases o with
 |inl _=>simp_all
 |inr z=>simp_all
structure FF (d:cM):Prop where
 hh:od d.h
 h0:f59 d.h=some 0
 ch:kt d.dz
 po:d.fx.length<=200
 pf: ∀g∈d.fx,ck g.di
theorem f172_ex(d:cM)(hd:FF d)(x:bK)(hx:kt x): ∃l,f172 d x=some l/\(l.length<=200/\(∀k∈l,Fit d.h x k)/\(l≠[]->gy x/\ ∃L,f279 d.h x=some L/\L.length<=200/\ ∀k∈l,k∈L)/\
  (d.bE.aY.length≠0-> ∀k∈l,∃g∈d.fx,Steps d.h d.dz g x k)/\
  (gy x-> ∀L,f279 d.h x=some L->L.length<=200-> ∀k∈L,(d.bE.aY.length=0\/ ∃g∈d.fx,Steps d.h d.dz g x k)->k∈l)):=by
 unfold f172;refine iF (f224_ex d.h hd.hh hd.h0 x hx) ?_;rintro⟨l,e⟩ ⟨h1,h2⟩;simp only at h1 h2;by_cases c1:e=0
 ·subst c1;obtain⟨r1,r2,r3,r4⟩:=h1 rfl;have Z2:=r1.len;have r3:l.length<=200:=r3;simp only[qd,qe,fZ,dv];by_cases c2:d.bE.aY.length=0
  ·grind
  ·have e:decide ((d.bE.aY.length:Int)=0)=false:=qf (by omega);simp only[e,dv];refine eF (λn(s:List b9×Int)=>s.2=(n:Int)/\s.1.length<=n/\(∀k∈s.1,k∈l)/\(∀k∈s.1,∃g∈d.fx,Steps d.h d.dz g x k)/\ ∀k∈l.take n,(∃g∈d.fx,Steps d.h d.dz g x k)->k∈s.1)
    (λm=>m.length<=l.length/\(∀k∈m,k∈l)/\(∀k∈m,∃g∈d.fx,Steps d.h d.dz g x k)/\ ∀k∈l,(∃g∈d.fx,Steps d.h d.dz g x k)->k∈m) l.length (by omega) ⟨rfl,by simp,by simp,by simp,by simp⟩ ?_ ?_ ?_
   ·rintro n ⟨s1,s2⟩ hn ⟨e0,m1,m2,m3,m4⟩;simp only at e0 m1 m2 m3 m4;subst e0;have e1:l[n]? =some (l[n]'hn):=dF _;generalize l[n]'hn=k at e1;have hm:=gN e1;have hk:ck k.di:=by have:=(r4 k hm).len;grind
    obtain⟨b,b1,b2⟩:=f225_ex d hd.hh hd.h0 x k hd.ch hx hk d.fx (by have:=hd.po;grind) hd.pf;have n1:s1.length+1<=bc:=by unfold bc;omega
    simp only[cy e1,cP,bT e1,cN,dp (l:=l) (by grind) e1,b1,cQ n1];cases b
    ·refine .inl ⟨_,rfl,rfl,by grind,m2,m3,λk' ye hs=>?_⟩;rw[cz e1,oq]at ye
     grind
    grind [cz]
   all_goals grind
 grind
theorem f173_eq(l:List aQ)(hs:ck l):f173 l=some (l.map aQ.aW):=by
 have vx:l.length<=4194304:=hs;unfold f173;have n1:(0:Int)<=(l.length:Int):=by omega
 have n2:(l.length:Int)<=(bc:Int):=by unfold bc;omega
 simp only[cQ n1,cQ n2];rw[jj (λk=>((l.take k).map aQ.aW,(k:Int))) l.length (by omega) (by simp) (r:=l.map aQ.aW)]
 ·rfl
 ·intro k hk;have e1:l[k]? =some (l[k]'hk):=dF _;generalize l[k]'hk=p at e1;have m1:((l.take k).map aQ.aW).length+1<=bc:=by grind
  simp only[cy e1,cP,bT e1,cN,dp hs e1,f174,cQ m1,cz e1,F4];rfl
 ·simp
def qR(d:cM)(tie:Bool):bK:=if tie then⟨d.dz.cA,d.dz.cA.map aQ.aW,d.dz.cY⟩else⟨[],[],[]⟩
theorem wO(d:cM)(hd:kt d.dz)(tie:Bool):kt (qR d tie):=by
 unfold qR;cases tie
 ·exact⟨by simp[ck],by simp[ck],by simp[ck]⟩
 ·have:=hd.d;exact⟨hd.d,by grind,hd.o⟩
theorem f122_ex(d:cM)(hd:FF d)(s:cB)(tie:Bool)(he:d.bE.aY.length<cO): ∃g,f172 d (qR d tie)=some g/\f122 d s tie=some ((qR d tie).cA,(qR d tie).held,(qR d tie).cY,d.bE.aY++[⟨false,s,tie,[]⟩],g):=by
 obtain⟨g,h1,_⟩:=f172_ex d hd (qR d tie) (wO d hd.ch tie);refine⟨g,h1,?_⟩;unfold f122;cases tie
 ·simp only[dv,cN];unfold qR at h1 |-
  simp_all[cQ]
 ·simp only[cP,cN,f173_eq _ hd.ch.d];unfold qR at h1 |-
  simp_all[cQ]
def eW:Nat->Nat->List (List Bool)
 |0,0=>[[]]
 |0,_+1=>[]
 |k+1,0=>(eW k 0).map (false:: ·)
 |k+1,m+1=>(eW k (m+1)).map (false:: ·)++(eW k m).map (true:: ·)
theorem pC: ∀(k m:Nat),k<m->eW k m=[]
 |0,m+1,_=>rfl
 |k+1,m+1,h=>by simp only[eW,pC k (m+1) (by omega),pC k m (by omega)];rfl
def lM(n:Nat):List (List Bool):=(List.range (n+1)).flatMap (eW n)
def pD{R:Type}(B:List Bool->Option (Unit⊕(R⊕Unit))):List (List Bool)->Option (Unit⊕(R⊕Unit))
 | []=>some (.inr (.inr ()))
 |l::r=>match B l with
  |none=>none
  |some (.inr (.inr _))=>pD B r
  |some x=>some x
theorem qS{R:Type}(B:List Bool->Option (Unit⊕(R⊕Unit))): ∀(a b:List (List Bool)),pD B (a++b)=match pD B a with
  |some (.inr (.inr _))=>pD B b
  |x=>x
 | [],b=>rfl
 |l::r,b=>by
  simp only[Al,pD];cases B l with
  |none=>rfl
  |some o=>
   rcases o with _|_|_
   ·rfl
   ·rfl
   ·exact qS B r b
theorem fy{σ τ:Type}{body:σ->Option (σ⊕τ)}{s:σ}{r:τ}(h:body s=some (.inr r))(n:Nat)(hn:0<n):bO body n s=some r:=by
 cases n with
 |zero=>omega
 |succ n=>simp only[bO,h]
theorem ke{σ τ:Type}{body:σ->Option (σ⊕τ)}{s s':σ}(h:body s=some (.inl s'))(n:Nat):bO body (n+1) s=bO body n s':=by simp only[bO,h]
theorem kb{α:Type}{l:List α}{i:Nat}{x:α}(h:i<l.length):(l.set i x).take (i+1)=l.take i++[x]:=by
 simp_all[cz,zD5]
section
variable (e1:List aX) (e2:cM) (e3 e5:List aX) (e6:bR) (e7:bK) (e8:List b9) (e9:Bool)
def fV{R:Type}(o:Unit⊕((List b9×bK×bR)⊕Unit))(l:List Bool):(List Bool)⊕((List Bool)⊕(bR×bK×List b9×List Bool)):=match o with
 |.inl _=>.inr (.inl l)
 |.inr (.inl r)=>.inr (.inr (r.2.2,r.2.1,r.1,l))
 |.inr (.inr _)=>.inl l
theorem f266r_eq(n:Nat)(hn:n<=4194304): ∀(rem fu i m:Nat)(l:List Bool)(o:Unit⊕((List b9×bK×bR)⊕Unit)),l.length=n->i+rem=n->rem<fu->m<=rem->
  pD (f371 e1 e2 e3 e5 e6 e7 e8 e9 (n:Int)) ((eW rem m).map (l.take i++ ·))=some o->
  ∃l',l'.length=n/\l'.take i=l.take i/\f266r fu (i:Int) (m:Int) (n:Int) e1 e2 e3 e5 e6 e7 e8 e9 l=some (fV (R:=Unit) o l')
 |rem,0,i,m,l,o,hl,hi,hf,hm,hs=>by omega
 |0,fu+1,i,m,l,o,hl,hi,hf,hm,hs=>by
  have B9:m=0:=by omega
  subst B9;have ga:i=n:=by omega
  subst ga;have kc:l.take i=l:=sq (by omega);have c0: ¬((0:Int)<((0:Nat):Int)):=by simp
  simp only[eW,Aj,Ta,wV,kc,pD]at hs;refine⟨l,hl,rfl,?_⟩;unfold f266r;simp only[ju,cP,c0,fZ,dv];cases hB:f371 e1 e2 e3 e5 e6 e7 e8 e9 (i:Int) l with
  |none=>grind
  |some x=>
   rw[hB]at hs;rcases x with _|_|_<;>simp at hs<;>subst hs<;>rfl
 |rem+1,fu+1,i,m,l,o,hl,hi,hf,hm,hs=>by
  have c0: ¬((i:Int)=(n:Int)):=by omega
  have w1:wr ((i:Int)+1)=((i+1:Nat):Int):=iz (by omega);have w2:wr ((n:Int)-(i:Int))=((rem+1:Nat):Int):=by grind [jx]
  have w3:wr (((rem+1:Nat):Int)-1)=(rem:Int):=by grind [jx]
  have wx:i<l.length:=by omega
  have x0:l[i]? =some (l[i]'wx):=dF _;have first: ∀o1,pD (f371 e1 e2 e3 e5 e6 e7 e8 e9 (n:Int)) ((eW rem m).map ((l.take i++[false])++ ·))=some o1->m<=rem->
    ∃l',l'.length=n/\l'.take i=l.take i/\f266r fu ((i+1:Nat):Int) (m:Int) (n:Int) e1 e2 e3 e5 e6 e7 e8 e9 (l.set i false)=some (fV (R:=Unit) o1 l'):=λo1 h1 hmr=>by
   obtain⟨l',a1,a2,a3⟩:=f266r_eq n hn rem fu (i+1) m (l.set i false) o1 (by grind) (by omega) (by omega) hmr (by grind [kb]);rw[kb wx]at a2;refine⟨l',a1,?_,a3⟩;have:=fL (List.take i) a2
   grind
  have second: ∀(l2:List Bool)o1 m',m=m'+1->l2.length=n->l2.take i=l.take i->pD (f371 e1 e2 e3 e5 e6 e7 e8 e9 (n:Int)) ((eW rem m').map ((l.take i++[true])++ ·))=some o1->
    ∃l',l'.length=n/\l'.take i=l.take i/\f266r fu ((i+1:Nat):Int) (m':Int) (n:Int) e1 e2 e3 e5 e6 e7 e8 e9 (l2.set i true)=some (fV (R:=Unit) o1 l'):=λl2 o1 m' ve HR Gq h1=>by
   have U6:i<l2.length:=by omega
   obtain⟨l',a1,a2,a3⟩:=f266r_eq n hn rem fu (i+1) m' (l2.set i true) o1 (by grind) (by omega) (by omega) (by omega) (by grind [kb]);rw[kb U6,Gq]at a2;refine⟨l',a1,?_,a3⟩;have:=fL (List.take i) a2
   grind
  unfold f266r;simp only[c0,fZ,dv];have hF:cr=(cr-3)+1+1+1:=by rfl
  rw[hF];generalize Jy:(λ(x:List Bool×Int)=>_:List Bool×Int->Option ((List Bool×Int)⊕((List Bool)⊕((List Bool)⊕((List Bool)⊕(bR×bK×List b9×List Bool))))))=body;have g0:ix ([false,true]:List Bool) (0:Int)=some false:=rfl;have g1:ix ([false,true]:List Bool) (1:Int)=some true:=rfl;have k0:((0:Int)<2):=by omega
  have k1:((1:Int)<2):=by omega
  have k2: ¬((2:Int)<2):=by omega
  have v1:wr ((0:Int)+1)=1:=by rfl
  have v2:wr ((1:Int)+1)=2:=by rfl
  have U7: ¬((m:Int)<0):=by omega
  have hA:rem<m->body (l,0)=some (.inl (l,1)):=λkc=>by
   have c1:((rem:Int)<(m:Int)):=by omega
   rw[<-Jy];simp_all
  have X4: ∀(o1:Unit⊕((List b9×bK×bR)⊕Unit))l',m<=rem->f266r fu ((i+1:Nat):Int) (m:Int) (n:Int) e1 e2 e3 e5 e6 e7 e8 e9 (l.set i false)=some (fV (R:=Unit) o1 l')->
    body (l,0)=some (match fV (R:=Unit) o1 l' with|.inl q=>.inl (q,1)|.inr z=>.inr (.inr (.inr z))):=λo1 l' eR hc=>by
   have c1: ¬((rem:Int)<(m:Int)):=by omega
   rw[<-Jy];simp only[k0,ju,cP,g0,cN,dv,U7,fZ,w2,w3,c1,v1,bT x0,w1,wb,hc];rcases o1 with _|_|_<;>rfl
  have hB: ∀l2:List Bool,m=0->body (l2,1)=some (.inl (l2,2)):=λl2 B9=>by
   subst B9;have c1:wr (((0:Nat):Int)-1)<0:=by grind [jx]
   grind
  have hB': ∀(l2:List Bool)(o1:Unit⊕((List b9×bK×bR)⊕Unit))l'(m':Nat),m=m'+1->l2.length=n->f266r fu ((i+1:Nat):Int) (m':Int) (n:Int) e1 e2 e3 e5 e6 e7 e8 e9 (l2.set i true)=some (fV (R:=Unit) o1 l')->
    body (l2,1)=some (match fV (R:=Unit) o1 l' with|.inl q=>.inl (q,2)|.inr z=>.inr (.inr (.inr z))):=λl2 o1 l' m' ve HR hc=>by
   have c1:wr ((m:Int)-1)=(m':Int):=by grind [jx]
   have c2: ¬((m':Int)<0):=by omega
   have c3: ¬((rem:Int)<(m':Int)):=by omega
   have x2:l2[i]? =some (l2[i]'(by omega)):=dF _;rw[<-Jy];simp only[k1,ju,cP,g1,cN,c1,c2,fZ,dv,w2,w3,c3,v2,bT x2,w1,wb,hc];rcases o1 with _|_|_<;>rfl
  have hC: ∀l2:List Bool,body (l2,2)=some (.inr (.inl l2)):=λl2=>by
   grind
  clear Jy;have OM: ∀k,(eW rem k).map (λx=>l.take i++false::x)=(eW rem k).map ((l.take i++[false])++ ·):=λk=>by simp
  have U8: ∀k,(eW rem k).map (λx=>l.take i++true::x)=(eW rem k).map ((l.take i++[true])++ ·):=λk=>by simp
  have rest: ∀(l2:List Bool)(N:Nat)(m':Nat),m=m'+1->l2.length=n->l2.take i=l.take i->pD (f371 e1 e2 e3 e5 e6 e7 e8 e9 (n:Int)) ((eW rem m').map ((l.take i++[true])++ ·))=some o->
    ∃l',l'.length=n/\l'.take i=l.take i/\(bO body (N+1+1) (l2,1)).bind (Sum.elim (λl1x=>some (.inl l1x)) some)=some (fV (R:=Unit) o l'):=λl2 N m' ve HR Gq h1=>by
   obtain⟨l',a1,a2,a3⟩:=second l2 o m' ve HR Gq h1;refine⟨l',a1,a2,?_⟩;have hb:=hB' l2 o l' m' ve HR a3;rcases o with _|_|_
   ·rw[fy hb _ (by omega)];rfl
   ·rw[fy hb _ (by omega)];rfl
   ·rw[ke hb,fy (hC l') _ (by omega)];rfl
  cases m with
  |zero=>
   simp only[eW,L1]at hs;have hs:pD (f371 e1 e2 e3 e5 e6 e7 e8 e9 (n:Int)) ((eW rem 0).map ((l.take i++[false])++ ·))=some o:=by rw[<-OM];exact hs
   obtain⟨l',a1,a2,a3⟩:=first o hs (by omega)
   refine⟨l',a1,a2,?_⟩;have hb:=X4 o l' (by omega) a3;rcases o with _|_|_
   ·rw[fy hb _ (by omega)];rfl
   ·rw[fy hb _ (by omega)];rfl
   ·rw[ke hb,ke (hB l' rfl),fy (hC l') _ (by omega)];rfl
  |succ m'=>
   simp only[eW,F4,L1]at hs;have hs:pD (f371 e1 e2 e3 e5 e6 e7 e8 e9 (n:Int)) ((eW rem (m'+1)).map ((l.take i++[false])++ ·)++(eW rem m').map ((l.take i++[true])++ ·))=some o:=by rw[<-OM,<-U8];exact hs
   by_cases eR:m'+1<=rem
   ·rw[qS]at hs;cases h1:pD (f371 e1 e2 e3 e5 e6 e7 e8 e9 (n:Int)) ((eW rem (m'+1)).map ((l.take i++[false])++ ·))with
    |none=>grind
    |some o1=>
     rw[h1]at hs;obtain⟨l',a1,a2,a3⟩:=first o1 h1 eR
     have hb:=X4 o1 l' eR a3;rcases o1 with u|r|u
     ·simp at hs;subst hs;exact⟨l',a1,a2,by rw[fy hb _ (by omega)];rfl⟩
     ·simp at hs;subst hs;exact⟨l',a1,a2,by rw[fy hb _ (by omega)];rfl⟩
     ·obtain⟨l2,b1,b2,b3⟩:=rest l' _ m' rfl a1 a2 hs;exact⟨l2,b1,b2,by rw[ke hb];exact b3⟩
   ·have h0:eW rem (m'+1)=[]:=pC rem (m'+1) (by omega);rw[h0]at hs;simp only[Ta,xm]at hs;obtain⟨l2,b1,b2,b3⟩:=rest l _ m' rfl hl rfl hs;exact⟨l2,b1,b2,by rw[ke (hA (by omega))];exact b3⟩
theorem f265_eq(n:Nat)(hn:n<=4194303)(o:Unit⊕((List b9×bK×bR)⊕Unit))(hs:pD (f371 e1 e2 e3 e5 e6 e7 e8 e9 (n:Int)) (lM n)=some o):f265 e1 e2 e3 e5 e6 e7 e8 e9 (n:Int)=some o:=by
 unfold f265;have n1:(0:Int)<=(n:Int):=by omega
 have n2:(n:Int)<=(bc:Int):=by unfold bc;omega
 simp only[cQ n1,cQ n2,wb];have key: ∀(d k N:Nat)(l:List Bool),k+d=n+1->d<N->l.length=n->pD (f371 e1 e2 e3 e5 e6 e7 e8 e9 (n:Int)) ((List.range' k d).flatMap (eW n))=some o->
   (bO (σ:=(List Bool×Int)) (τ:=(Unit⊕(Unit⊕((List b9×bK×bR)⊕Unit)))) (λ((Lt,xi):(List Bool×Int))=>bif (decide (xi<=(n:Int)))then((f266 0 xi (n:Int) e1 e2 e3 e5 e6 e7 e8 e9 Lt).bind (Sum.elim (λr4a=>some (.inl (r4a,(wr (xi+1))))) (Sum.elim (λU9=>some (.inr (.inr (.inl ())))) λWi=>some (.inr (.inr (.inr (.inl (Wi.2.2.1,(⟨Wi.2.1.cA,Wi.2.1.held,Wi.2.1.cY⟩:bK),(⟨Wi.1.places,Wi.1.cut⟩:bR)))))))))else(some (.inr (.inl ())))) N (l,(k:Int))).bind (Sum.elim (λ(_:Unit)=>some (.inr (.inr ()))) some)=some o:=by
  intro d
  induction d with
  |zero=>
   intro k N l hk hN hl h1;simp only[List.range'_zero,PY,pD]at h1;cases h1;have c1: ¬((k:Int)<=(n:Int)):=by omega
   rw[fy (r:=.inl ()) (by grind) _ (by omega)];rfl
  |succ d ih=>
   intro k N l hk hN hl h1;have c1:((k:Int)<=(n:Int)):=by omega
   rw[List.range'_succ,F1,qS]at h1;cases h2:pD (f371 e1 e2 e3 e5 e6 e7 e8 e9 (n:Int)) (eW n k)with
   |none=>grind
   |some o1=>
    rw[h2]at h1;obtain⟨l',a1,_,a3⟩:=f266r_eq e1 e2 e3 e5 e6 e7 e8 e9 n (by omega) n cr 0 k l o1 hl (by omega) (by grind) (by omega) (by simpa using h2);have a3:f266 0 (k:Int) (n:Int) e1 e2 e3 e5 e6 e7 e8 e9 l=some (fV (R:=Unit) o1 l'):=a3;obtain⟨N,rfl⟩: ∃M,N=M+1:=⟨N-1,by omega⟩;rcases o1 with u|r|u
    ·simp at h1;subst h1;rw[fy (r:=.inr (.inl ())) (by simp only[c1,ju,cP,a3,cN];rfl) _ (by omega)];rfl
    ·simp at h1;subst h1;rw[fy (r:=.inr (.inr (.inl r))) (by simp only[c1,ju,cP,a3,cN];rfl) _ (by omega)];rfl
    ·have w:wr ((k:Int)+1)=((k+1:Nat):Int):=iz (by omega);rw[ke (s':=(l',((k+1:Nat):Int))) (by simp only[c1,ju,cP,a3,cN,<-w];rfl)]
     grind
 have:=key (n+1) 0 cr (List.replicate n false) (by omega) (by grind) (by simp) (by rw[<-zD3];exact hs);exact this
end
def kZ{R:Type}(B:List Bool->Option (R⊕Unit)):List (List Bool)->Option (R⊕Unit)
 | []=>some (.inr ())
 |l::r=>match B l with
  |none=>none
  |some (.inr _)=>kZ B r
  |some x=>some x
theorem pE{R:Type}(B:List Bool->Option (R⊕Unit)): ∀(a b:List (List Bool)),kZ B (a++b)=match kZ B a with
  |some (.inr _)=>kZ B b
  |x=>x
 | [],b=>rfl
 |l::r,b=>by
  simp only[Al,kZ];cases B l with
  |none=>rfl
  |some o=>
   rcases o with _|_
   ·rfl
   ·exact pE B r b
section
variable (e1:List aX) (e2:cM) (e3 e5:List aX) (e6:bR) (e7:bK) (e8:List b9) (e9:Bool) (al:List (List aQ)) (e0:Int)
def uP(o:(List b9×bK×bR)⊕Unit)(l:List Bool):(List Bool)⊕(bR×bK×List b9×List Bool):=match o with
 |.inl r=>.inr (r.2.2,r.2.1,r.1,l)
 |.inr _=>.inl l
theorem f266_1r_eq(n:Nat)(hn:n<=4194304): ∀(rem fu i m:Nat)(l:List Bool)(o:(List b9×bK×bR)⊕Unit),l.length=n->i+rem=n->rem<fu->m<=rem->
  kZ (f372 e1 e2 e3 e5 e6 e7 e8 e9 al e0 (n:Int)) ((eW rem m).map (l.take i++ ·))=some o->
  ∃l',l'.length=n/\l'.take i=l.take i/\f266_1r fu (i:Int) (m:Int) (n:Int) e1 e2 e3 e5 e6 e7 e8 e9 al e0 l=some (uP o l')
 |rem,0,i,m,l,o,hl,hi,hf,hm,hs=>by omega
 |0,fu+1,i,m,l,o,hl,hi,hf,hm,hs=>by
  have B9:m=0:=by omega
  subst B9;have ga:i=n:=by omega
  subst ga;have kc:l.take i=l:=sq (by omega);have c0: ¬((0:Int)<((0:Nat):Int)):=by simp
  simp only[eW,Aj,Ta,wV,kc,kZ]at hs;refine⟨l,hl,rfl,?_⟩;unfold f266_1r;simp only[ju,cP,c0,fZ,dv];cases hB:f372 e1 e2 e3 e5 e6 e7 e8 e9 al e0 (i:Int) l with
  |none=>grind
  |some x=>
   rw[hB]at hs;rcases x with _|_<;>simp at hs<;>subst hs<;>rfl
 |rem+1,fu+1,i,m,l,o,hl,hi,hf,hm,hs=>by
  have c0: ¬((i:Int)=(n:Int)):=by omega
  have w1:wr ((i:Int)+1)=((i+1:Nat):Int):=iz (by omega);have w2:wr ((n:Int)-(i:Int))=((rem+1:Nat):Int):=by grind [jx]
  have w3:wr (((rem+1:Nat):Int)-1)=(rem:Int):=by grind [jx]
  have wx:i<l.length:=by omega
  have x0:l[i]? =some (l[i]'wx):=dF _;have first: ∀o1,kZ (f372 e1 e2 e3 e5 e6 e7 e8 e9 al e0 (n:Int)) ((eW rem m).map ((l.take i++[false])++ ·))=some o1->m<=rem->
    ∃l',l'.length=n/\l'.take i=l.take i/\f266_1r fu ((i+1:Nat):Int) (m:Int) (n:Int) e1 e2 e3 e5 e6 e7 e8 e9 al e0 (l.set i false)=some (uP o1 l'):=λo1 h1 hmr=>by
   obtain⟨l',a1,a2,a3⟩:=f266_1r_eq n hn rem fu (i+1) m (l.set i false) o1 (by grind) (by omega) (by omega) hmr (by grind [kb]);rw[kb wx]at a2;refine⟨l',a1,?_,a3⟩;have:=fL (List.take i) a2
   grind
  have second: ∀(l2:List Bool)o1 m',m=m'+1->l2.length=n->l2.take i=l.take i->kZ (f372 e1 e2 e3 e5 e6 e7 e8 e9 al e0 (n:Int)) ((eW rem m').map ((l.take i++[true])++ ·))=some o1->
    ∃l',l'.length=n/\l'.take i=l.take i/\f266_1r fu ((i+1:Nat):Int) (m':Int) (n:Int) e1 e2 e3 e5 e6 e7 e8 e9 al e0 (l2.set i true)=some (uP o1 l'):=λl2 o1 m' ve HR Gq h1=>by
   have U6:i<l2.length:=by omega
   obtain⟨l',a1,a2,a3⟩:=f266_1r_eq n hn rem fu (i+1) m' (l2.set i true) o1 (by grind) (by omega) (by omega) (by omega) (by grind [kb]);rw[kb U6,Gq]at a2;refine⟨l',a1,?_,a3⟩;have:=fL (List.take i) a2
   grind
  unfold f266_1r;simp only[c0,fZ,dv];have hF:cr=(cr-3)+1+1+1:=by rfl
  rw[hF];generalize Jy:(λ(x:List Bool×Int)=>_:List Bool×Int->Option ((List Bool×Int)⊕((List Bool)⊕((List Bool)⊕(bR×bK×List b9×List Bool)))))=body;have g0:ix ([false,true]:List Bool) (0:Int)=some false:=rfl;have g1:ix ([false,true]:List Bool) (1:Int)=some true:=rfl;have k0:((0:Int)<2):=by omega
  have k1:((1:Int)<2):=by omega
  have k2: ¬((2:Int)<2):=by omega
  have v1:wr ((0:Int)+1)=1:=by rfl
  have v2:wr ((1:Int)+1)=2:=by rfl
  have U7: ¬((m:Int)<0):=by omega
  have hA:rem<m->body (l,0)=some (.inl (l,1)):=λkc=>by
   have c1:((rem:Int)<(m:Int)):=by omega
   rw[<-Jy];simp_all
  have X4: ∀(o1:(List b9×bK×bR)⊕Unit)l',m<=rem->f266_1r fu ((i+1:Nat):Int) (m:Int) (n:Int) e1 e2 e3 e5 e6 e7 e8 e9 al e0 (l.set i false)=some (uP o1 l')->
    body (l,0)=some (match uP o1 l' with|.inl q=>.inl (q,1)|.inr z=>.inr (.inr (.inr z))):=λo1 l' eR hc=>by
   have c1: ¬((rem:Int)<(m:Int)):=by omega
   rw[<-Jy];simp only[k0,ju,cP,g0,cN,dv,U7,fZ,w2,w3,c1,v1,bT x0,w1,wb,hc];rcases o1 with _|_<;>rfl
  have hB: ∀l2:List Bool,m=0->body (l2,1)=some (.inl (l2,2)):=λl2 B9=>by
   subst B9;have c1:wr (((0:Nat):Int)-1)<0:=by grind [jx]
   grind
  have hB': ∀(l2:List Bool)(o1:(List b9×bK×bR)⊕Unit)l'(m':Nat),m=m'+1->l2.length=n->f266_1r fu ((i+1:Nat):Int) (m':Int) (n:Int) e1 e2 e3 e5 e6 e7 e8 e9 al e0 (l2.set i true)=some (uP o1 l')->
    body (l2,1)=some (match uP o1 l' with|.inl q=>.inl (q,2)|.inr z=>.inr (.inr (.inr z))):=λl2 o1 l' m' ve HR hc=>by
   have c1:wr ((m:Int)-1)=(m':Int):=by grind [jx]
   have c2: ¬((m':Int)<0):=by omega
   have c3: ¬((rem:Int)<(m':Int)):=by omega
   have x2:l2[i]? =some (l2[i]'(by omega)):=dF _;rw[<-Jy];simp only[k1,ju,cP,g1,cN,c1,c2,fZ,dv,w2,w3,c3,v2,bT x2,w1,wb,hc];rcases o1 with _|_<;>rfl
  have hC: ∀l2:List Bool,body (l2,2)=some (.inr (.inl l2)):=λl2=>by
   grind
  clear Jy;have OM: ∀k,(eW rem k).map (λx=>l.take i++false::x)=(eW rem k).map ((l.take i++[false])++ ·):=λk=>by simp
  have U8: ∀k,(eW rem k).map (λx=>l.take i++true::x)=(eW rem k).map ((l.take i++[true])++ ·):=λk=>by simp
  have rest: ∀(l2:List Bool)(N:Nat)(m':Nat),m=m'+1->l2.length=n->l2.take i=l.take i->kZ (f372 e1 e2 e3 e5 e6 e7 e8 e9 al e0 (n:Int)) ((eW rem m').map ((l.take i++[true])++ ·))=some o->
    ∃l',l'.length=n/\l'.take i=l.take i/\(bO body (N+1+1) (l2,1)).bind (Sum.elim (λl1x=>some (.inl l1x)) some)=some (uP o l'):=λl2 N m' ve HR Gq h1=>by
   obtain⟨l',a1,a2,a3⟩:=second l2 o m' ve HR Gq h1;refine⟨l',a1,a2,?_⟩;have hb:=hB' l2 o l' m' ve HR a3;rcases o with _|_
   ·rw[fy hb _ (by omega)];rfl
   ·rw[ke hb,fy (hC l') _ (by omega)];rfl
  cases m with
  |zero=>
   simp only[eW,L1]at hs;have hs:kZ (f372 e1 e2 e3 e5 e6 e7 e8 e9 al e0 (n:Int)) ((eW rem 0).map ((l.take i++[false])++ ·))=some o:=by rw[<-OM];exact hs
   obtain⟨l',a1,a2,a3⟩:=first o hs (by omega)
   refine⟨l',a1,a2,?_⟩;have hb:=X4 o l' (by omega) a3;rcases o with _|_
   ·rw[fy hb _ (by omega)];rfl
   ·rw[ke hb,ke (hB l' rfl),fy (hC l') _ (by omega)];rfl
  |succ m'=>
   simp only[eW,F4,L1]at hs;have hs:kZ (f372 e1 e2 e3 e5 e6 e7 e8 e9 al e0 (n:Int)) ((eW rem (m'+1)).map ((l.take i++[false])++ ·)++(eW rem m').map ((l.take i++[true])++ ·))=some o:=by rw[<-OM,<-U8];exact hs
   by_cases eR:m'+1<=rem
   ·rw[pE]at hs;cases h1:kZ (f372 e1 e2 e3 e5 e6 e7 e8 e9 al e0 (n:Int)) ((eW rem (m'+1)).map ((l.take i++[false])++ ·))with
    |none=>grind
    |some o1=>
     rw[h1]at hs;obtain⟨l',a1,a2,a3⟩:=first o1 h1 eR
     have hb:=X4 o1 l' eR a3;rcases o1 with r|u
     ·simp at hs;subst hs;exact⟨l',a1,a2,by rw[fy hb _ (by omega)];rfl⟩
     ·obtain⟨l2,b1,b2,b3⟩:=rest l' _ m' rfl a1 a2 hs;exact⟨l2,b1,b2,by rw[ke hb];exact b3⟩
   ·have h0:eW rem (m'+1)=[]:=pC rem (m'+1) (by omega);rw[h0]at hs;simp only[Ta,xm]at hs;obtain⟨l2,b1,b2,b3⟩:=rest l _ m' rfl hl rfl hs;exact⟨l2,b1,b2,by rw[ke (hA (by omega))];exact b3⟩
theorem f265_1_eq(n:Nat)(hn:n<=4194303)(o:(List b9×bK×bR)⊕Unit)(hs:kZ (f372 e1 e2 e3 e5 e6 e7 e8 e9 al e0 (n:Int)) (lM n)=some o):f265_1 e1 e2 e3 e5 e6 e7 e8 e9 al e0 (n:Int)=some o:=by
 unfold f265_1;have n1:(0:Int)<=(n:Int):=by omega
 have n2:(n:Int)<=(bc:Int):=by unfold bc;omega
 simp only[cQ n1,cQ n2,wb];have key: ∀(d k N:Nat)(l:List Bool),k+d=n+1->d<N->l.length=n->kZ (f372 e1 e2 e3 e5 e6 e7 e8 e9 al e0 (n:Int)) ((List.range' k d).flatMap (eW n))=some o->
   (bO (σ:=(List Bool×Int)) (τ:=(Unit⊕((List b9×bK×bR)⊕Unit))) (λ((Lu,xi):(List Bool×Int))=>bif (decide (xi<=(n:Int)))then((f266_1 0 xi (n:Int) e1 e2 e3 e5 e6 e7 e8 e9 al e0 Lu).bind (Sum.elim (λr4a=>some (.inl (r4a,(wr (xi+1))))) λU9=>some (.inr (.inr (.inl (U9.2.2.1,(⟨U9.2.1.cA,U9.2.1.held,U9.2.1.cY⟩:bK),(⟨U9.1.places,U9.1.cut⟩:bR)))))))else(some (.inr (.inl ())))) N (l,(k:Int))).bind (Sum.elim (λ(_:Unit)=>some (.inr ())) some)=some o:=by
  intro d
  induction d with
  |zero=>
   intro k N l hk hN hl h1;simp only[List.range'_zero,PY,kZ]at h1;cases h1;have c1: ¬((k:Int)<=(n:Int)):=by omega
   rw[fy (r:=.inl ()) (by grind) _ (by omega)];rfl
  |succ d ih=>
   intro k N l hk hN hl h1;have c1:((k:Int)<=(n:Int)):=by omega
   rw[List.range'_succ,F1,pE]at h1;cases h2:kZ (f372 e1 e2 e3 e5 e6 e7 e8 e9 al e0 (n:Int)) (eW n k)with
   |none=>grind
   |some o1=>
    rw[h2]at h1;obtain⟨l',a1,_,a3⟩:=f266_1r_eq e1 e2 e3 e5 e6 e7 e8 e9 al e0 n (by omega) n cr 0 k l o1 hl (by omega) (by grind) (by omega) (by simpa using h2);have a3:f266_1 0 (k:Int) (n:Int) e1 e2 e3 e5 e6 e7 e8 e9 al e0 l=some (uP o1 l'):=a3;obtain⟨N,rfl⟩: ∃M,N=M+1:=⟨N-1,by omega⟩;rcases o1 with r|u
    ·simp at h1;subst h1;rw[fy (r:=.inr (.inl r)) (by simp only[c1,ju,cP,a3,cN];rfl) _ (by omega)];rfl
    ·have w:wr ((k:Int)+1)=((k+1:Nat):Int):=iz (by omega);rw[ke (s':=(l',((k+1:Nat):Int))) (by simp only[c1,ju,cP,a3,cN,<-w];rfl)]
     grind
 have:=key (n+1) 0 cr (List.replicate n false) (by omega) (by grind) (by simp) (by rw[<-zD3];exact hs);exact this
end
def p8(a b:Int):Int:=if a<b then -1 else if b<a then 1 else 0
theorem f97_eq(a b:Int):f97 a b=some (p8 a b):=by
 unfold f97 f152 p8
 grind
theorem f96_eq(l:List Int)(hs:ck l):f96 l=some ((l.find? λx=>decide (x≠0)).getD 0):=by
 unfold f96;rw[eg l (λx=>decide (x≠0)) (λ_ x=>x) hs,lH]
 ·grind
 ·intro i y hy;simp only[cy hy,cP,bT hy,cN]
  grind
 ·simp
def Va(l:List aQ):Int:=l.foldl (λn p=>wr (n+p.ct)) 0
theorem f272_eq(l:List aQ)(hs:ck l):f272 l=some (Va l):=by
 unfold f272;have h:=jm (body:=λ((X5,Lv):(Int×Int))=>bif (decide (Lv<(l.length:Int)))then((ix l Lv).bind λy2=>some (.inl ((wr (X5+y2.ct)),(wr (Lv+1)))))else(some (.inr X5)))
  (λa i=>(a,i)) (λ_ a(p:aQ)=>(.inl (wr (a+p.ct)):Int⊕Int)) (λa=>a) l (λ_ _=>True) 0 (iD hs) trivial
  (λi a y hy _=>⟨by simp only[cy hy,cP,bT hy,cN,dp hs hy];rfl,λ_ _=>trivial⟩) (λa _=>by simp)
 rw[h,BH];rfl
theorem f273_ex(a b:List aQ)(ha:ck a)(hb:ck b): ∃r,f273 a b=some r/\True:=by
 have P7:a.length<=4194304:=ha;unfold f273;refine eF (λk(s:Int)=>s=(k:Int)) (λ_=>True) a.length P7 rfl ?_ ?_ ?_
 ·rintro k s hk rfl;have e1:a[k]? =some (a[k]'hk):=dF _;simp only[cy e1,cP,bT e1,cN,dp ha e1];by_cases c1:(b.length:Int)<=(k:Int)
  ·simp_all
  ·have e2:b[k]? =some (b[k]'(by omega)):=dF _;simp only[c1,fZ,dv,bT e2,cN,f274,f97_eq];cases decide (p8 (a[k]'hk).aW (b[k]'(by omega)).aW≠0)
   all_goals grind
 ·simp_all
 ·intro o _;cases o with
  |inr z=>simp_all
  |inl _=>
   simp only[BX];cases decide ((a.length:Int)<(b.length:Int))<;>exact⟨_,rfl,trivial⟩
theorem f271_ex(a b:List aQ)(ha:ck a)(hb:ck b): ∃r,f271 a b=some r/\True:=by
 unfold f271;obtain⟨r,e,_⟩:=f273_ex a b ha hb;simp_all[f272_eq,f97_eq,f96_eq]
def ways(a:bp)(s:Int):List aX->List Bool->List aQ->List (List aQ)
 |n::ns,b::bs,pre=>bif b then ways a s ns bs (pre++[⟨0,0⟩])else bif decide ((eN a (wr (n.bU+s))).2≠0)then []else
  ((eN a (wr (n.bU+s))).1.filter λp=>!(pre.any (mP p.aW))).flatMap λp=>ways a s ns bs (pre++[p])
 |_,_,pre=>[pre]
theorem f268_eq(l:List aQ)(h:ck l):f268 l=some l:=by
 unfold f268;by_cases c:l=[]
 ·subst c;simp
 ·have:l.length<=bc:=by simp only[ck]at h;unfold bc;omega
  grind [cQ]
theorem AS(a:bp)(p:Int):(eN a p).1.length<=300:=by
 unfold eN;by_cases h:instS a=0
 ·obtain⟨h1,h2,_,_,h5⟩:=instS_ok h;have:=qP a.br p a.bQ 0 (λc hc=>by
   obtain⟨q1,q2,_⟩:=ko (h5 c hc);omega)
  grind
 ·simp[h]
theorem f267_eq(a:bp)(s:Int)(cj:List aX)(drop:List Bool)(hn:cj.length<=4000)(hd:drop.length=cj.length): ∀(rem fu i:Nat)(all:List (List aQ))(l:List aQ),l.length=cj.length->i+rem=cj.length->rem<fu->
  all.length+(ways a s (cj.drop i) (drop.drop i) (l.take i)).length<=4000000->
  ∃l',l'.length=l.length/\l'.take i=l.take i/\f267r fu (i:Int) cj all l drop a s=some (all++ways a s (cj.drop i) (drop.drop i) (l.take i),l')
 |rem,0,i,all,l,hl,hi,hf,hb=>by omega
 |0,fu+1,i,all,l,hl,hi,hf,hb=>by
  have ga:i=cj.length:=by omega
  subst ga;have h1:cj.drop cj.length=[]:=by simp
  have h2:l.take cj.length=l:=sq (by omega);rw[h1,h2]at hb |-
  simp only[ways,vl,LY]at hb |-
  have m1:all.length+1<=bc:=by unfold bc;omega
  refine⟨l,rfl,h2,?_⟩;unfold f267r;simp only[ju,cP,f268_eq l (by grind),cN,cQ m1]
 |rem+1,fu+1,i,all,l,hl,hi,hf,hb=>by
  have wx:i<cj.length:=by omega
  have x1:cj[i]? =some (cj[i]'wx):=dF _;have x2:drop[i]? =some (drop[i]'(by omega)):=dF _;have x3:l[i]? =some (l[i]'(by omega)):=dF _;have d1:cj.drop i=cj[i]'wx::cj.drop (i+1):=List.drop_eq_getElem_cons wx;have d2:drop.drop i=drop[i]'(by omega)::drop.drop (i+1):=List.drop_eq_getElem_cons (by omega);have c0: ¬((i:Int)=(cj.length:Int)):=by omega
  have w1:wr ((i:Int)+1)=((i+1:Nat):Int):=iz (by omega);have m0:i<cO:=by unfold cO;omega
  rw[d1,d2]at hb |-
  generalize cj[i]'wx=y at x1 hb |-
  unfold f267r;simp only[c0,fZ,dv,bT x3,bT x2,cN,w1,wb];generalize drop[i]'(by omega)=b at x2 hb |-
  cases b with
  |true=>
   simp only[ways,cP]at hb |-
   have ht:(l.set i ⟨0,0⟩).take (i+1)=l.take i++[⟨0,0⟩]:=kb (by omega);obtain⟨l',a1,a2,a3⟩:=f267_eq a s cj drop hn hd rem fu (i+1) all (l.set i ⟨0,0⟩) (by grind) (by omega) (by omega) (by grind);rw[ht]at a2 a3;refine⟨l',by grind,?_,by grind⟩;have:=fL (List.take i) a2
   grind
  |false=>
   simp only[ways,dv]at hb |-
   simp only[bT x1,cN,cQ m0,f269_eq];have Ft:=AS a (wr (y.bU+s));generalize hP:eN a (wr (y.bU+s))=P at hb Ft |-
   obtain⟨P,e⟩:=P;simp only at hb Ft |-
   by_cases he:e=0
   ·subst he;simp only[qd,qe,fZ,dv]at hb |-
    have aa1:(l.set i ⟨0,0⟩).take i=l.take i:=by rw[zD5 (fw i)]
    have hW:=λk=>(VF k P).symm;let W:=λ(Q:List aQ)=>(Q.filter λp=>!((l.take i).any (mP p.aW))).flatMap λp=>ways a s (cj.drop (i+1)) (drop.drop (i+1)) (l.take i++[p]);have aa2: ∀k,(W (P.take k)).length<=(W P).length:=λk=>by
     grind
    have hb:all.length+(W P).length<=4000000:=hb;have key:=jt (body:=λ((lN,vY,ON):(List aQ×List (List aQ)×Int))=>bif (decide (ON<(P.length:Int)))then((((ix P ON).bind λSQ=>bZ (0<=(i:Int))<|bZ (i<=lN.length)<|bZ (0+i<=lN.length)<|(f221 (lN.take i) SQ.aW).bind λr17=>bif (!r17)then((ix lN (i:Int)).bind λy19=>(f267r fu ((i+1:Nat):Int) cj vY (lN.set i SQ) drop a s).bind λr20=>some (r20.2,r20.1))else(some (lN,vY))):Option (List aQ×List (List aQ))).bind λ((Lw,Lx):(List aQ×List (List aQ)))=>some (.inl (Lw,Lx,(wr (ON+1)))))else(some (.inr (vY,lN))))
     (λk(st:List aQ×List (List aQ)×Int)=>st.2.2=(k:Int)/\st.1.length=l.length/\st.1.take i=l.take i/\st.2.1=all++W (P.take k)) (λr=>r.1=all++W P/\r.2.length=l.length/\r.2.take i=l.take i) P.length (s0:=(l.set i ⟨0,0⟩,all,0)) (by omega) ⟨rfl,by simp,aa1,by simp[W]⟩ ?_ ?_
    ·grind
    ·rintro k ⟨q1,q2,q3⟩ hk ⟨e1,e2,e3,e4⟩;simp only at e1 e2 e3 e4;subst e1;subst e4;have g1:P[k]? =some (P[k]'hk):=dF _;generalize P[k]'hk=p at g1;have hsP:ck P:=by grind
     have n1:(0:Int)<=(i:Int):=by omega
     have n2:i<=q1.length:=by omega
     have n3:0+i<=q1.length:=by omega
     have g3:q1[i]? =some (q1[i]'(by omega)):=dF _;have hW1:W (P.take (k+1))=W (P.take k)++W [p]:=by
      grind [cz]
     simp only[cy g1,cP,bT g1,cN,dp hsP g1,cQ n1,cQ n2,cQ n3,e3,f221_eq _ _ (show ck (l.take i)by grind)];cases hA:(l.take i).any (mP p.aW)
     ·have hW2:W [p]=ways a s (cj.drop (i+1)) (drop.drop (i+1)) (l.take i++[p]):=by
       grind
      have ht:(q1.set i p).take (i+1)=l.take i++[p]:=by grind [kb]
      have eR:=aa2 (k+1);rw[hW1,re,hW2]at eR;obtain⟨l',a1,a2,a3⟩:=f267_eq a s cj drop hn hd rem fu (i+1) (all++W (P.take k)) (q1.set i p) (by simp;omega) (by omega) (by omega) (by grind);rw[ht]at a2 a3;simp only[LI,cP,bT g3,cN,a3];refine .inl ⟨_,rfl,rfl,?_,?_,?_⟩
      ·grind
      ·have:=fL (List.take i) a2
       grind
      grind
     simp_all[W]
    simp_all
   simp_all[zD5]
theorem f218_ex(a:bp)(s:Int)(cj:List aX)(drop:List Bool)(hn:cj.length<=4000)(hd:drop.length=cj.length)(hw:(ways a s cj drop []).length<=4000000)
  (X6: ∃r,f270 (ways a s cj drop [])=some r/\r.Perm (ways a s cj drop [])): ∃r,f218 a cj drop s=some r/\r.Perm (ways a s cj drop []):=by
 unfold f218;have n1:(0:Int)<=(cj.length:Int):=by omega
 have n2:(cj.length:Int)<=(bc:Int):=by unfold bc;omega
 obtain⟨l',_,_,h3⟩:=f267_eq a s cj drop hn hd cj.length cr 0 [] (List.replicate cj.length ⟨0,0⟩) (by simp) (by omega) (by grind) (by grind);have h3:f267 0 cj [] (List.replicate cj.length ⟨0,0⟩) drop a s=some ([]++ways a s (cj.drop 0) (drop.drop 0) ((List.replicate cj.length (⟨0,0⟩:aQ)).take 0),l'):=h3;simp only[List.drop_zero,S9,xm]at h3;obtain⟨r,h4,h5⟩:=X6;simp only[cQ n1,cQ n2,wb,h3,cN,h4,cQ h5.length_eq]
 grind
open Go.Sort
theorem OO(a b:Int):decide (p8 a b<0)=decide (a<b):=by
 unfold p8
 grind
theorem OP{α:Type}{k:α->Int}{fg:α->α->Option Int}{x y:α}(h:fg x y=some (p8 (k x) (k y))):gC fg x y=decide (k x<k y):=by
 unfold gC
 grind [OO]
theorem BO{α:Type}[DecidableEq α](k:α->Int)(fg:α->α->Option Int)(l:List α)(hg: ∀x∈l,∀y∈l,fg x y=some (p8 (k x) (k y)))(hs:ck l)(hd: ∀x∈l,∀y∈l,k x=k y->x=y):
  ∃r,sA fg l=some r/\r.Perm l/\r.Pairwise λx y=>k x<=k y:=by
 have kc: ∀x∈l,∀y∈l,gC fg x y=decide (k x<k y):=λx hx y hy=>OP (hg x hx y hy);obtain⟨r,h1,h2,h3⟩:=Oo (fg:=fg) (l:=l) ⟨hs,λx hx y hy=>by grind,λx hx=>by grind,
  λx hx y hy z hz a b=>by grind,
  λx hx y hy z hz a b=>by grind,
  λx hx y hy a b=>by grind⟩
 grind [List.pairwise_iff_getElem]
theorem BP{α:Type}[DecidableEq α](k:α->Int)(fg:α->α->Option Int)(hg: ∀x y,fg x y=some (p8 (k x) (k y)))(l:List α)(hs:ck l)(hd: ∀x∈l,∀y∈l,k x=k y->x=y):
 ∃r,sA fg l=some r/\r.Perm l/\r.Pairwise λx y=>k x<=k y:=BO k fg l (λx _ y _=>hg x y) hs hd
theorem f223_eq(p q:aQ):f223 p q=some (p8 p.aW q.aW):=by unfold f223;rw[f97_eq];rfl
theorem f178_eq(p q:cC):f178 p q=some (p8 p.aW q.aW):=by unfold f178;rw[f97_eq];rfl
theorem f113_eq(l:List Int)(h:ck l):f113 l=some (kE l):=by
 unfold f113;rw[ez h]
def lO(e:Int)(pl:List aQ)(x:aX×Bool):Bool:=
 !(x.2&&decide (x.1.bL.ct=0)&&!(pl.any (mP x.1.bL.aW)))&&(!(!x.2&&pl.any (mP x.1.bL.aW))&&!(!x.2&&decide (0<x.1.bL.ct)&&decide (15<wr (e-x.1.cS))))
theorem FG{α β:Type}{l:List α}{m:List β}{k:Nat}{a:α}{b:β}(h1:l[k]? =some a)(h2:m[k]? =some b):(l.zip m)[k]? =some (a,b):=List.getElem?_zip_eq_some.2 ⟨h1,h2⟩
theorem f220_eq(d:cM)(c:bR)(dT:List aX)(hl:c.cut.length=dT.length)(hs:ck dT)(hp:ck c.places):f220 d c dT=some ((dT.zip c.cut).all (lO (d.bE.aY.length:Int) c.places)):=by
 have vx:dT.length<=4194304:=hs;have key: ∃o,f220 d c dT=some o/\o=(dT.zip c.cut).all (lO (d.bE.aY.length:Int) c.places):=by
  unfold f220;refine eF (λk(s:Int)=>s=(k:Int)/\((dT.zip c.cut).take k).all (lO (d.bE.aY.length:Int) c.places)=true) (λo=>match o with
   |.inl _=>(dT.zip c.cut).all (lO (d.bE.aY.length:Int) c.places)=true
   |.inr b=>b=false/\(dT.zip c.cut).all (lO (d.bE.aY.length:Int) c.places)=false) dT.length vx ⟨rfl,by simp⟩ ?_ ?_ ?_
  ·rintro k s hk ⟨rfl,hi⟩;have e1:dT[k]? =some (dT[k]'hk):=dF _;have e2:c.cut[k]? =some (c.cut[k]'(by omega)):=dF _;generalize dT[k]'hk=n at e1;generalize c.cut[k]'(by omega)=b at e2;have e3:=FG e1 e2;have hT:lO (d.bE.aY.length:Int) c.places (n,b)=false->(dT.zip c.cut).all (lO (d.bE.aY.length:Int) c.places)=false:=λh=>by
    grind
   have hN:lO (d.bE.aY.length:Int) c.places (n,b)=true->((dT.zip c.cut).take (k+1)).all (lO (d.bE.aY.length:Int) c.places)=true:=λh=>by
    rw[cz e3,List.all_append,hi];simp[h]
   simp only[cy e1,cP,bT e1,bT e2,cN,dp hs e1,f221_eq _ _ hp];unfold lO at hT hN;simp only at hT hN;generalize c.places.any (mP n.bL.aW)=t at hT hN |-
   generalize decide (n.bL.ct=0)=z at hT hN |-
   generalize decide (0<n.bL.ct)=z2 at hT hN |-
   generalize decide (15<wr ((d.bE.aY.length:Int)-n.cS))=z3 at hT hN |-
   cases b<;>cases t<;>cases z<;>cases z2<;>cases z3<;>first|exact .inl ⟨_,rfl,rfl,hN rfl⟩|exact .inr ⟨_,rfl,rfl,hT rfl⟩
  ·simp_all[sq]
  grind
 grind
def pR(x:aX×Bool):Bool:=!x.2&&decide (0<x.1.bL.ct)
def nK(dT:List aX)(cut:List Bool):List aX:=((dT.zip cut).filter pR).map (·.1)
def oO(c:bR)(dT:List aX):List aQ:=(nK dT c.cut).map (·.bL)++c.places.filter λp=>decide (0<p.ct)
def wP(d:cM)(c:bR):List Int:=(c.places.filter λp=>!decide (0<p.ct)&&decide (0<p.aW)).map (·.aW)++d.dz.cY.filter λx=>!(c.places.any (mP x))
theorem f171_ex(d:cM)(hd:kt d.dz)(c:bR)(dT:List aX)(hl:c.cut.length=dT.length)(hs:dT.length<=100000)(hp:c.places.length<=100000)(ho:d.dz.cY.length<=100000)
  (X7: ∀x∈oO c dT,∀y∈oO c dT,x.aW=y.aW->x=y):
  ∃x,f171 d c dT=some x/\(x.cA.Perm (oO c dT)/\(x.cA.Pairwise λp q=>p.aW<=q.aW)/\x.held=kE ((nK dT c.cut).map (·.bL.aW))/\x.cY=kE (wP d c)):=by
 unfold f171;refine eF (λk(s:List aQ×List Int×Int)=>s.2.2=(k:Int)/\s.1=((((dT.zip c.cut).take k).filter pR).map (·.1)).map (·.bL)/\s.2.1=((((dT.zip c.cut).take k).filter pR).map (·.1)).map (·.bL.aW))
  (λr=>r.1=(nK dT c.cut).map (·.bL)/\r.2=(nK dT c.cut).map (·.bL.aW)) dT.length (by omega) ⟨rfl,by simp,by simp⟩ ?_ ?_ ?_
 ·rintro k ⟨s1,s2,s3⟩ hk ⟨e0,e1,e2⟩;simp only at e0 e1 e2;subst e0;subst e1;subst e2;have x1:dT[k]? =some (dT[k]'hk):=dF _;have x2:c.cut[k]? =some (c.cut[k]'(by omega)):=dF _;generalize dT[k]'hk=n at x1;generalize c.cut[k]'(by omega)=b at x2;have x3:=FG x1 x2;have dK:(((dT.zip c.cut).take k).filter pR).length<=k:=by
   grind
  have m1:((((dT.zip c.cut).take k).filter pR).map (·.1)).length+1<=bc:=by simp only[vn];unfold bc;omega
  have m2:(((((dT.zip c.cut).take k).filter pR).map (·.1)).map λx:aX=>x.bL).length+1<=bc:=by grind
  have m3:(((((dT.zip c.cut).take k).filter pR).map (·.1)).map λx:aX=>x.bL.aW).length+1<=bc:=by grind
  simp only[cy x1,cP,bT x1,bT x2,cN,dp (l:=dT) (by grind) x1,cQ m2,cQ m3];have hf:pR (n,b)=(!b&&decide (0<n.bL.ct)):=rfl;have ht:((dT.zip c.cut).take (k+1)).filter pR=((dT.zip c.cut).take k).filter pR++(bif pR (n,b)then [(n,b)]else []):=by
   rw[cz x3,L4];rfl
  cases b
  ·simp only[LI,cP,cN];cases hz:decide (0<n.bL.ct)
   all_goals simp_all
  simp_all
 ·rintro⟨s1,s2,s3⟩ ⟨e0,e1,e2⟩;simp only at e0 e1 e2;subst e0;subst e1;subst e2;simp only[AX,fZ,dv];have ht:(dT.zip c.cut).take dT.length=dT.zip c.cut:=sq (by simp;omega);refine⟨_,rfl,?_,?_⟩<;>rw[ht]<;>rfl
 rintro⟨D1,H1⟩ ⟨e1,e2⟩;simp only at e1 e2;subst e1;subst e2;have hk1:(nK dT c.cut).length<=100000:=by
  unfold nK
  grind
 refine eF (λk(s:List aQ×List Int×Int)=>s.2.2=(k:Int)/\s.1=(nK dT c.cut).map (·.bL)++(c.places.take k).filter (λp=>decide (0<p.ct))/\s.2.1=((c.places.take k).filter λp=>!decide (0<p.ct)&&decide (0<p.aW)).map (·.aW))
  (λr=>r.1=oO c dT/\r.2=(c.places.filter λp=>!decide (0<p.ct)&&decide (0<p.aW)).map (·.aW)) c.places.length (by omega) ⟨rfl,by simp,by simp⟩ ?_ ?_ ?_
 ·rintro k ⟨s1,s2,s3⟩ hk ⟨e0,e1,e2⟩;simp only at e0 e1 e2;subst e0;subst e1;subst e2;have x1:c.places[k]? =some (c.places[k]'hk):=dF _;generalize c.places[k]'hk=p at x1;have l1:=J5 (λp:aQ=>decide (0<p.ct)) (c.places.take k);have l2:=J5 (λp:aQ=>!decide (0<p.ct)&&decide (0<p.aW)) (c.places.take k);simp only[List.length_take]at l1 l2;have m1:((nK dT c.cut).map (λx:aX=>x.bL)++(c.places.take k).filter (λp=>decide (0<p.ct))).length+1<=bc:=by simp only[re,vn];unfold bc;omega
  have m2:(((c.places.take k).filter λp=>!decide (0<p.ct)&&decide (0<p.aW)).map (λx:aQ=>x.aW)).length+1<=bc:=by simp only[vn];unfold bc;omega
  simp only[cy x1,cP,bT x1,cN,dp (l:=c.places) (by grind) x1,cQ m1,cQ m2];have ht1:(c.places.take (k+1)).filter (λp=>decide (0<p.ct))=(c.places.take k).filter (λp=>decide (0<p.ct))++(bif decide (0<p.ct)then [p]else []):=by
   rw[cz x1,L4];rfl
  have Gq:(c.places.take (k+1)).filter (λp=>!decide (0<p.ct)&&decide (0<p.aW))=(c.places.take k).filter (λp=>!decide (0<p.ct)&&decide (0<p.aW))++(bif (!decide (0<p.ct)&&decide (0<p.aW))then [p]else []):=by
   simp_all[cz,YQ]
  cases hz:decide (0<p.ct)
  ·cases KQ:decide (0<p.aW)
   all_goals simp_all
  simp_all
 ·rintro⟨s1,s2,s3⟩ ⟨e0,e1,e2⟩;simp only at e0 e1 e2;subst e0;subst e1;subst e2;simp only[AX,fZ,dv];refine⟨_,rfl,?_,?_⟩<;>rw[LH]<;>rfl
 rintro⟨D2,O2⟩ ⟨e1,e2⟩;simp only at e1 e2;subst e1;subst e2;have l2:=J5 (λp:aQ=>!decide (0<p.ct)&&decide (0<p.aW)) c.places;refine eF (λk(s:List Int×Int)=>s.2=(k:Int)/\s.1=(c.places.filter λp=>!decide (0<p.ct)&&decide (0<p.aW)).map (·.aW)++(d.dz.cY.take k).filter λx=>!(c.places.any (mP x))) (λr=>r=wP d c) d.dz.cY.length (by omega) ⟨rfl,by simp⟩ ?_ ?_ ?_
 ·rintro k ⟨s1,s2⟩ hk ⟨e0,e1⟩;simp only at e0 e1;subst e0;subst e1;have x1:d.dz.cY[k]? =some (d.dz.cY[k]'hk):=dF _;generalize d.dz.cY[k]'hk=x at x1;have l3:=J5 (λx:Int=>!(c.places.any (mP x))) (d.dz.cY.take k);simp only[List.length_take]at l3;have m1:((c.places.filter λp=>!decide (0<p.ct)&&decide (0<p.aW)).map (λx:aQ=>x.aW)++(d.dz.cY.take k).filter λx=>!(c.places.any (mP x))).length+1<=bc:=by
   simp only[re,vn];unfold bc;omega
  simp only[cy x1,cP,bT x1,cN,dp (l:=d.dz.cY) (by grind) x1,f221_eq c.places x (by grind),cQ m1];have ht:(d.dz.cY.take (k+1)).filter (λx=>!(c.places.any (mP x)))=(d.dz.cY.take k).filter (λx=>!(c.places.any (mP x)))++(bif !(c.places.any (mP x))then [x]else []):=by
   rw[cz x1,L4];rfl
  grind
 ·rintro⟨s1,s2⟩ ⟨e0,e1⟩;simp only at e0 e1;subst e0;subst e1;simp only[AX,fZ,dv];refine⟨_,rfl,?_⟩;rw[LH];rfl
 rintro O3 rfl;have hD:(oO c dT).length<=300000:=by
  unfold oO
  grind
 have hO:(wP d c).length<=300000:=by
  unfold wP
  grind
 obtain⟨r,h1,h2,h3⟩:=BP aQ.aW f223 f223_eq (oO c dT) (by grind) X7;have s1:ck ((nK dT c.cut).map λx:aX=>x.bL.aW):=by grind
 have s2:ck (wP d c):=by grind
 have l4:=oK ((nK dT c.cut).map λx:aX=>x.bL.aW);have l5:=oK (wP d c);unfold f222;simp only[h1,cN,cQ h2.length_eq,f113_eq _ s1,cQ l4,f113_eq _ s2,cQ l5]
 grind
theorem f219_eq(l:List Bool)(h:ck l):f219 l=some l:=by
 unfold f219;by_cases c:l=[]
 ·subst c;simp
 ·have:l.length<=bc:=by simp only[ck]at h;unfold bc;omega
  grind [cQ]
structure mH (d:cM) (dT:List aX) (c:bR) (x:bK) (g:List b9):Prop where
 ten:(dT.zip c.cut).all (lO (d.bE.aY.length:Int) c.places)=true
 cho:f171 d c dT=some x
 rea:f172 d x=some g
structure Jz (d:cM) (dT:List aX) (c:bR):Prop where
 cut:c.cut.length=dT.length
 pl:c.places.length<=100000
 DS:(dT.zip c.cut).all (lO (d.bE.aY.length:Int) c.places)=true-> ∀x∈oO c dT,∀y∈oO c dT,x.aW=y.aW->x=y
theorem f171_small(d:cM)(c:bR)(dT:List aX)(hs:dT.length<=100000)(hp:c.places.length<=100000)(ho:d.dz.cY.length<=100000){x:bK}
  (h:x.cA.Perm (oO c dT)/\(x.cA.Pairwise λp q=>p.aW<=q.aW)/\x.held=kE ((nK dT c.cut).map (·.bL.aW))/\x.cY=kE (wP d c)):kt x:=by
 have hk1:(nK dT c.cut).length<=100000:=by
  unfold nK
  grind
 obtain⟨h1,_,h3,h4⟩:=h;refine⟨?_,?_,?_⟩
 ·have:=h1.length_eq;unfold oO at this
  grind
 ·grind [oK]
 ·have l1:=J5 (λx:Int=>!(c.places.any (mP x))) d.dz.cY;have l2:=J5 (λp:aQ=>!decide (0<p.ct)&&decide (0<p.aW)) c.places;simp only[ck,h4,oK,wP,re,vn];omega
theorem FH{R:Type}(B:List Bool->Option (R⊕Unit))(F:List Bool->R->Prop)(N:List Bool->Prop): ∀L:List (List Bool),(∀l∈L,∃o,B l=some o/\(match o with|.inl r=>F l r|.inr _=>N l))->
  ∃o,kZ B L=some o/\(match o with|.inl r=> ∃l∈L,F l r|.inr _=> ∀l∈L,N l)
 | [],_=>⟨_,rfl,by simp⟩
 |l::L,h=>by
  obtain⟨o,h1,h2⟩:=h l (by simp);simp only[kZ,h1];cases o with
  |inl r=>grind
  |inr _=>
   obtain⟨o,h3,h4⟩:=FH B F N L λl hl=>h l (by simp[hl])
   grind
theorem rP: ∀(k m:Nat)l,l∈eW k m->l.length=k
 |0,0,l,h=>by simp[eW]at h;subst h;rfl
 |0,m+1,l,h=>by simp[eW]at h
 |k+1,0,l,h=>by
  simp[eW]at h;obtain⟨x,h1,rfl⟩:=h;simp[rP k 0 x h1]
 |k+1,m+1,l,h=>by
  simp[eW]at h;rcases h with⟨x,h1,rfl⟩|⟨x,h1,rfl⟩
  ·simp[rP k (m+1) x h1]
  ·simp[rP k m x h1]
theorem pF{n:Nat}{l:List Bool}(h:l∈lM n):l.length=n:=by
 unfold lM at h
 grind [rP]
theorem JA{R:Type}(B:List Bool->Option (Unit⊕(R⊕Unit)))(F:List Bool->R->Prop)(N S:List Bool->Prop): ∀L:List (List Bool),(∀l∈L,∃o,B l=some o/\(match o with|.inl _=>S l|.inr (.inl r)=>F l r|.inr (.inr _)=>N l))->
  ∃o,pD B L=some o/\(match o with
   |.inl _=> ∃a l b,L=a++l::b/\S l/\ ∀x∈a,N x
   |.inr (.inl r)=> ∃l∈L,F l r
   |.inr (.inr _)=> ∀l∈L,N l)
 | [],_=>⟨_,rfl,by simp⟩
 |l::L,h=>by
  obtain⟨o,h1,h2⟩:=h l (by simp);simp only[pD,h1];rcases o with u|r|u
  ·exact⟨_,rfl,[],l,L,rfl,h2,by simp⟩
  ·grind
  ·obtain⟨o,h3,h4⟩:=JA B F N S L λl hl=>h l (by simp[hl])
   grind
section
variable (d:cM) (hd:FF d) (dT:List aX) (hu:dT.length<=100000) (ho:d.dz.cY.length<=100000) (e6:bR) (e7:bK) (e8:List b9) (e9:Bool) (cj:List aX)
include hd hu ho
theorem f373_ex(c:bR)(hc:Jz d dT c)(ht:(dT.zip c.cut).all (lO (d.bE.aY.length:Int) c.places)=true): ∃o,f373 d dT e6 e7 e8 e9 cj dT c=some o/\(match o with
  |.inl r=>mH d dT c r.2 r.1/\r.1≠[]
  |.inr _=> ∃x,mH d dT c x []):=by
 unfold f373;obtain⟨x,h1,h2⟩:=f171_ex d hd.ch c dT hc.cut hu hc.pl ho (hc.DS ht);obtain⟨g,h3,_⟩:=f172_ex d hd x (f171_small d c dT hu hc.pl ho h2);simp only[h1,cN,h3];by_cases hg:g=[]
 ·subst hg;exact⟨_,rfl,x,ht,h1,h3⟩
 ·have c1:(0:Int)<(g.length:Int):=by
   grind [List.length_pos_iff]
  simp only[c1,ju,cP];exact⟨_,rfl,⟨ht,h1,h3⟩,hg⟩
theorem f372_ex(al:List (List aQ))(OQ:ck al)(cut:List Bool)(Vb:cut.length=dT.length)(hc: ∀pl∈al,Jz d dT ⟨pl,cut⟩)(e0 e31:Int): ∃o,f372 cj d dT dT e6 e7 e8 e9 al e0 e31 cut=some o/\(match o with
  |.inl r=>r.2.2.places∈al/\r.2.2.cut=cut/\mH d dT r.2.2 r.2.1 r.1/\r.1≠[]
  |.inr _=> ∀pl∈al,(dT.zip cut).all (lO (d.bE.aY.length:Int) pl)=true-> ∃x,mH d dT ⟨pl,cut⟩ x []):=by
 have aa3:al.length<=4194304:=OQ;unfold f372;refine eF (λk(s:Int)=>s=(k:Int)/\ ∀pl∈al.take k,(dT.zip cut).all (lO (d.bE.aY.length:Int) pl)=true-> ∃x,mH d dT ⟨pl,cut⟩ x []) (λo=>match o with
  |.inl _=> ∀pl∈al,(dT.zip cut).all (lO (d.bE.aY.length:Int) pl)=true-> ∃x,mH d dT ⟨pl,cut⟩ x []
  |.inr (.inl r)=>r.2.2.places∈al/\r.2.2.cut=cut/\mH d dT r.2.2 r.2.1 r.1/\r.1≠[]
  |.inr (.inr _)=>False) al.length aa3 ⟨rfl,by simp⟩ ?_ ?_ ?_
 ·rintro k s hk ⟨rfl,hi⟩;have e1:al[k]? =some (al[k]'hk):=dF _;generalize al[k]'hk=pl at e1;have hm:=gN e1;have F9:=hc pl hm;have wm:=F9.pl;simp only at wm;simp only[cy e1,cP,bT e1,cN,dp OQ e1,f219_eq cut (by grind),f220_eq d ⟨pl,cut⟩ dT Vb (by grind) (by grind)];cases ht:(dT.zip cut).all (lO (d.bE.aY.length:Int) pl)
  ·refine .inl ⟨_,rfl,rfl,λp hp h=>?_⟩;rw[cz e1,oq]at hp
   grind
  ·obtain⟨o,h1,h2⟩:=f373_ex d hd dT hu ho e6 e7 e8 e9 cj ⟨pl,cut⟩ F9 ht;simp only[cP,h1,cN];cases o with
   |inl r=>simp_all
   |inr _=>
    refine .inl ⟨_,rfl,rfl,λp hp h=>?_⟩;rw[cz e1,oq]at hp
    grind
 ·simp_all
 ·intro o h;rcases o with u|r|u
  all_goals simp_all
theorem f371_ex(drop:List Bool)(sH:cj.length<=4000)(JB:drop.length=cj.length)(hun:dT.length<=4194303)(e0:Int)(al:List (List aQ))(OQ:f218 d.k8 cj drop d.shift=some al)(FB:ck al)(hc: ∀cut,cut.length=dT.length-> ∀pl∈al,Jz d dT ⟨pl,cut⟩):
  ∃o,f371 cj d dT dT e6 e7 e8 e9 e0 drop=some o/\(match o with
  |.inl _=>drop.all (λb=>b)=true
  |.inr (.inl r)=>(drop.all λb=>b)=false/\r.2.2.places∈al/\r.2.2.cut.length=dT.length/\mH d dT r.2.2 r.2.1 r.1/\r.1≠[]
  |.inr (.inr _)=> ∀pl∈al,∀cut∈lM dT.length,(dT.zip cut).all (lO (d.bE.aY.length:Int) pl)=true-> ∃x,mH d dT ⟨pl,cut⟩ x []):=by
 have hD:f35 drop false=some (drop.any λb=>!b):=by
  unfold f35 f94;rw[eg drop (λb=>!b) (λi _=>(i:Int)) (by grind)]
  ·simp only[cN,fH];rw[<-gJ];unfold gX;cases drop.findIdx? _<;>simp
  ·intro i y hy;simp only[cy hy,cP,bT hy,cN]
   grind
  ·simp
 unfold f371;simp only[hD,cN];cases hz:drop.any λb=>!b
 ·simp_all
 ·simp only[pV,dv,OQ,cN,f217];obtain⟨o,h1,h2⟩:=FH (f372 cj d dT dT e6 e7 e8 e9 al e0 (dT.length:Int)) (λl r=>r.2.2.places∈al/\r.2.2.cut=l/\mH d dT r.2.2 r.2.1 r.1/\r.1≠[])
   (λl=> ∀pl∈al,(dT.zip l).all (lO (d.bE.aY.length:Int) pl)=true-> ∃x,mH d dT ⟨pl,l⟩ x []) (lM dT.length) λl hl=>by
    have SS:=pF hl;obtain⟨o,a1,a2⟩:=f372_ex d hd dT hu ho e6 e7 e8 e9 cj al FB l SS (hc l SS) e0 (dT.length:Int)
    grind
  have h3:=f265_1_eq cj d dT dT e6 e7 e8 e9 al e0 dT.length hun o h1;simp only[h3,cN];cases o with
  |inl r=>
   obtain⟨l,k1,k2,k3,k4⟩:=h2;refine⟨_,rfl,?_,k2,by grind [pF],k4⟩
   grind
  |inr _=>simp_all
end
theorem f121_ex(d:cM)(hd:FF d)(cj dT:List aX)(hu:dT.length<=100000)(ho:d.dz.cY.length<=100000)(sH:cj.length<=4000)(al:List Bool->List (List aQ))
  (OQ: ∀drop,drop.length=cj.length->f218 d.k8 cj drop d.shift=some (al drop)/\ck (al drop)/\ ∀cut,cut.length=dT.length-> ∀pl∈al drop,Jz d dT ⟨pl,cut⟩):
  ∃r,f121 d cj dT=some r/\(if r.2.2.2 then(∃drop∈lM cj.length,(drop.all λb=>b)=false/\r.1.places∈al drop)/\r.1.cut.length=dT.length/\mH d dT r.1 r.2.1 r.2.2.1/\r.2.2.1≠[]
   else(∃a l b,lM cj.length=a++l::b/\(l.all λb=>b)=true/\ ∀drop∈a,∀pl∈al drop,∀cut∈lM dT.length,(dT.zip cut).all (lO (d.bE.aY.length:Int) pl)=true-> ∃x,mH d dT ⟨pl,cut⟩ x [])\/
    ∀drop∈lM cj.length,∀pl∈al drop,∀cut∈lM dT.length,(dT.zip cut).all (lO (d.bE.aY.length:Int) pl)=true-> ∃x,mH d dT ⟨pl,cut⟩ x []):=by
 obtain⟨o,h1,h2⟩:=JA (f371 cj d dT dT ⟨[],[]⟩ ⟨[],[],[]⟩ [] false (cj.length:Int)) (λl r=>(l.all λb=>b)=false/\r.2.2.places∈al l/\r.2.2.cut.length=dT.length/\mH d dT r.2.2 r.2.1 r.1/\r.1≠[])
  (λl=> ∀pl∈al l,∀cut∈lM dT.length,(dT.zip cut).all (lO (d.bE.aY.length:Int) pl)=true-> ∃x,mH d dT ⟨pl,cut⟩ x []) (λl=>(l.all λb=>b)=true) (lM cj.length) λl hl=>by
   have SS:=pF hl;obtain⟨k1,k2,k3⟩:=OQ l SS;obtain⟨o,a1,a2⟩:=f371_ex d hd dT hu ho ⟨[],[]⟩ ⟨[],[],[]⟩ [] false cj l sH SS (by omega) (cj.length:Int) (al l) k1 k2 k3
   grind
 have h3:=f265_eq cj d dT dT ⟨[],[]⟩ ⟨[],[],[]⟩ [] false cj.length (by omega) o h1;unfold f121 f216;simp only[f217,f170,cN,h3];rcases o with u|r|u
 ·simp_all[fy]
 ·obtain⟨l,k1,k2⟩:=h2;rw[fy (r:=(r.2.2,r.2.1,r.1,true)) rfl _ (by grind)];exact⟨_,rfl,⟨l,k1,k2.1,k2.2.1⟩,k2.2.2⟩
 ·rw[fy (r:=((⟨[],[]⟩:bR),(⟨[],[],[]⟩:bK),([]:List b9),false)) rfl _ (by grind)];exact⟨_,rfl,.inr h2⟩
end Go.Proofs.YtgpciecmgoppiaaGreat
