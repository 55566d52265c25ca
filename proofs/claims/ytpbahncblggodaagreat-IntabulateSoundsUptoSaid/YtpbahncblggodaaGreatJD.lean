/- Plain laws, joined by gen/joinH.py. -/
import Derived.Test.YtpbahncblggodaaGreatJC
set_option linter.all false
namespace Go.Am
open Go.RowKit
set_option maxRecDepth 100000
def JG{α:Type}(cmp:α->α->Option Int)(a0:List α)(a1:Int)(a2:Int):Option (List α):=(bY (σ:=(List α×Int)) (τ:=(List α)) (λ((px,va):(List α×Int))=>bif (decide (va<a2))then((bY (σ:=(List α×Int)) (τ:=(List α)) (λ((lX,nl):(List α×Int))=>((bif (decide (a1<nl))then((ix lX nl).bind λy3=>(ix lX (wr (nl-1))).bind λy4=>(cmp y3 y4).bind λr5=>some (decide (r5<0)))else(some false)):Option Bool).bind λ(MJ:Bool)=>bif MJ then((ix lX (wr (nl-1))).bind λy7=>(ix lX nl).bind λy8=>(ix (lX.set nl.toNat y7) (wr (nl-1))).bind λy9=>some (.inl (((lX.set nl.toNat y7).set (wr (nl-1)).toNat y8),(wr (nl-1)))))else(some (.inr lX))) cy (px,va)).bind λ(VY:(List α))=>some (.inl (VY,(wr (va+1)))))else(some (.inr px))) cy (a0,(wr (a1+1)))).bind λ(Gd:(List α))=>some Gd
def MK{α:Type}(a0:List α)(a1:Int)(a2:Int)(a3:Int):Option (List α):=(bY (σ:=(List α×Int)) (τ:=(List α)) (λ((px,iJ):(List α×Int))=>bif (decide (iJ<a3))then((ix px (wr (a2+iJ))).bind λy2=>(ix px (wr (a1+iJ))).bind λy3=>(ix (px.set (wr (a1+iJ)).toNat y2) (wr (a2+iJ))).bind λy4=>some (.inl (((px.set (wr (a1+iJ)).toNat y2).set (wr (a2+iJ)).toNat y3),(wr (iJ+1)))))else(some (.inr px))) cy (a0,0)).bind λ(Gd:(List α))=>some Gd
def Sy{α:Type}(a0:List α)(a1:Int)(a2:Int)(a3:Int):Option (List α):=(bY (σ:=(List α×Int×Int)) (τ:=(List α×Int)) (λ((px,iJ,nS):(List α×Int×Int))=>bif (decide (iJ≠nS))then(bif (decide (nS<iJ))then((MK px (wr (a2-iJ)) a2 nS).bind λr3=>cr (r3.length=px.length)<|some (.inl (r3,(wr (iJ-nS)),nS)))else((MK px (wr (a2-iJ)) (wr ((wr (a2+nS))-iJ)) iJ).bind λr5=>cr (r5.length=px.length)<|some (.inl (r5,iJ,(wr (nS-iJ))))))else(some (.inr (px,iJ)))) cy (a0,(wr (a2-a1)),(wr (a3-a2)))).bind λ((HX,Cd):(List α×Int))=>(MK HX (wr (a2-Cd)) a2 Cd).bind λr7=>some r7
def ug{α:Type}(cmp:α->α->Option Int):Nat->(List α)->Int->Int->Int->Option (List α)
 |0,_,_,_,_=>none
 |fu+1,a0,a1,a2,a3=>bif (decide ((wr (a2-a1))=1))then((bY (σ:=(Int×Int)) (τ:=Int) (λ((iJ,nS):(Int×Int))=>bif (decide (iJ<nS))then((ix a0 (wr ((dZ (IntKind.wrap .u64 ((wr (iJ+nS)))) 1)))).bind λy3=>(ix a0 a1).bind λy4=>(cmp y3 y4).bind λr5=>bif (decide (r5<0))then(some (.inl ((wr ((wr ((dZ (IntKind.wrap .u64 ((wr (iJ+nS)))) 1)))+1)),nS)))else(some (.inl (iJ,(wr ((dZ (IntKind.wrap .u64 ((wr (iJ+nS)))) 1)))))))else(some (.inr iJ))) cy (a2,a3)).bind λ(Cd:Int)=>(bY (σ:=(List α×Int)) (τ:=(List α)) (λ((lX,vP):(List α×Int))=>bif (decide (vP<(wr (Cd-1))))then((ix lX (wr (vP+1))).bind λy8=>(ix lX vP).bind λy9=>(ix (lX.set vP.toNat y8) (wr (vP+1))).bind λy10=>some (.inl (((lX.set vP.toNat y8).set (wr (vP+1)).toNat y9),(wr (vP+1)))))else(some (.inr lX))) cy (a0,a1)).bind λ(Ge:(List α))=>some Ge)else(bif (decide ((wr (a3-a2))=1))then((bY (σ:=(Int×Int)) (τ:=Int) (λ((AR,D8):(Int×Int))=>bif (decide (AR<D8))then((ix a0 a2).bind λTP=>(ix a0 (wr ((dZ (IntKind.wrap .u64 ((wr (AR+D8)))) 1)))).bind λJ0=>(cmp TP J0).bind λZM=>bif (!(decide (ZM<0)))then(some (.inl ((wr ((wr ((dZ (IntKind.wrap .u64 ((wr (AR+D8)))) 1)))+1)),D8)))else(some (.inl (AR,(wr ((dZ (IntKind.wrap .u64 ((wr (AR+D8)))) 1)))))))else(some (.inr AR))) cy (a1,a2)).bind λ(Sz:Int)=>(bY (σ:=(List α×Int)) (τ:=(List α)) (λ((ML,vQ):(List α×Int))=>bif (decide (Sz<vQ))then((ix ML (wr (vQ-1))).bind λZI=>(ix ML vQ).bind λy19=>(ix (ML.set vQ.toNat ZI) (wr (vQ-1))).bind λy20=>some (.inl (((ML.set vQ.toNat ZI).set (wr (vQ-1)).toNat y19),(wr (vQ-1)))))else(some (.inr ML))) cy (a0,a2)).bind λ(SA:(List α))=>some SA)else(((bif (decide ((wr ((dZ (IntKind.wrap .u64 ((wr (a1+a3)))) 1)))<a2))then(some ((wr ((wr ((wr ((dZ (IntKind.wrap .u64 ((wr (a1+a3)))) 1)))+a2))-a3)),(wr ((dZ (IntKind.wrap .u64 ((wr (a1+a3)))) 1)))))else(some (a1,a2))):Option (Int×Int)).bind λ((VZ,V0):(Int×Int))=>(bY (σ:=(Int×Int)) (τ:=Int) (λ((yA,AS):(Int×Int))=>bif (decide (yA<AS))then((ix a0 (wr ((wr ((wr ((wr ((dZ (IntKind.wrap .u64 ((wr (a1+a3)))) 1)))+a2))-1))-(wr ((dZ (IntKind.wrap .u64 ((wr (yA+AS)))) 1)))))).bind λy23=>(ix a0 (wr ((dZ (IntKind.wrap .u64 ((wr (yA+AS)))) 1)))).bind λy24=>(cmp y23 y24).bind λr25=>bif (!(decide (r25<0)))then(some (.inl ((wr ((wr ((dZ (IntKind.wrap .u64 ((wr (yA+AS)))) 1)))+1)),AS)))else(some (.inl (yA,(wr ((dZ (IntKind.wrap .u64 ((wr (yA+AS)))) 1)))))))else(some (.inr yA))) cy (VZ,V0)).bind λ(nn:Int)=>((((bif (decide (nn<a2))then(some (decide (a2<(wr ((wr ((wr ((dZ (IntKind.wrap .u64 ((wr (a1+a3)))) 1)))+a2))-nn)))))else(some false)):Option Bool).bind λ(SB:Bool)=>bif SB then((Sy a0 nn a2 (wr ((wr ((wr ((dZ (IntKind.wrap .u64 ((wr (a1+a3)))) 1)))+a2))-nn))).bind λr29=>cr (r29.length=a0.length)<|some r29)else(some a0)):Option (List α)).bind λ(SC:(List α))=>((((bif (decide (a1<nn))then(some (decide (nn<(wr ((dZ (IntKind.wrap .u64 ((wr (a1+a3)))) 1))))))else(some false)):Option Bool).bind λ(Pk:Bool)=>bif Pk then((ug cmp fu SC a1 nn (wr ((dZ (IntKind.wrap .u64 ((wr (a1+a3)))) 1)))).bind λr33=>cr (r33.length=SC.length)<|some r33)else(some SC)):Option (List α)).bind λ(V1:(List α))=>((bif (decide ((wr ((dZ (IntKind.wrap .u64 ((wr (a1+a3)))) 1)))<(wr ((wr ((wr ((dZ (IntKind.wrap .u64 ((wr (a1+a3)))) 1)))+a2))-nn))))then(some (decide ((wr ((wr ((wr ((dZ (IntKind.wrap .u64 ((wr (a1+a3)))) 1)))+a2))-nn))<a3)))else(some false)):Option Bool).bind λ(Pm:Bool)=>bif Pm then((ug cmp fu V1 (wr ((dZ (IntKind.wrap .u64 ((wr (a1+a3)))) 1))) (wr ((wr ((wr ((dZ (IntKind.wrap .u64 ((wr (a1+a3)))) 1)))+a2))-nn)) a3).bind λr37=>some r37)else(some V1)))
def Ce{α:Type}(cmp:α->α->Option Int)(a0:List α)(a1:Int)(a2:Int)(a3:Int):Option (List α):=ug cmp cy a0 a1 a2 a3
def JH{α:Type}(cmp:α->α->Option Int)(a0:List α)(a1:Int):Option (List α):=(bY (σ:=(List α×Int×Int)) (τ:=(List α×Int)) (λ((px,JA,va):(List α×Int×Int))=>bif (decide (va<=a1))then((JG cmp px JA va).bind λr2=>cr (r2.length=px.length)<|some (.inl (r2,va,(wr (va+20)))))else(some (.inr (px,JA)))) cy (a0,0,20)).bind λ((HX,V2):(List α×Int))=>(JG cmp HX V2 a1).bind λr4=>cr (r4.length=HX.length)<|(bY (σ:=(List α×Int)) (τ:=(List α)) (λ((lX,Gf):(List α×Int))=>bif (decide (Gf<a1))then((bY (σ:=(List α×Int×Int)) (τ:=(List α×Int)) (λ((Gg,Gh,Cf):(List α×Int×Int))=>bif (decide (Cf<=a1))then((Ce cmp Gg Gh (wr (Gh+Gf)) Cf).bind λr8=>cr (r8.length=Gg.length)<|some (.inl (r8,Cf,(wr (Cf+(wr (2*Gf)))))))else(some (.inr (Gg,Gh)))) cy (lX,0,(wr (2*Gf)))).bind λ((yB,yC):(List α×Int))=>((bif (decide ((wr (yC+Gf))<a1))then((Ce cmp yB yC (wr (yC+Gf)) a1).bind λF7=>cr (F7.length=yB.length)<|some F7)else(some yB)):Option (List α)).bind λ(SD:(List α))=>some (.inl (SD,(wr (Gf*2)))))else(some (.inr lX))) cy (r4,20)).bind λ(Ge:(List α))=>some Ge
theorem wW{σ τ:Type}{body:σ->Option (σ⊕τ)}(Inv:σ->Prop)(μ:σ->Nat)(kQ:τ->Prop)
  (hb: ∀s,Inv s->(∃s',body s=some (.inl s')/\Inv s'/\μ s'<μ s)\/(∃r,body s=some (.inr r)/\kQ r)): ∀(F:Nat)(s:σ),Inv s->μ s<F-> ∃r,bY body F s=some r/\kQ r
 |0,s,_,h=>absurd h (Nat.not_lt_zero _)
 |F+1,s,hi,hF=>by
  rcases hb s hi with⟨s',h1,h2,h3⟩|⟨r,h1,h2⟩
  ·obtain⟨r,h4,h5⟩:=wW Inv μ kQ hb F s' h2 (by omega)
   exact⟨r,by simp only[bY,h1,h4],h5⟩
  ·exact⟨r,by simp only[bY,h1],h2⟩
theorem mw{σ τ β:Type}{body:σ->Option (σ⊕τ)}{f:τ->Option β}{P:β->Prop}{s0:σ}(Inv:σ->Prop)(μ:σ->Nat)(kQ:τ->Prop)(h0:Inv s0)(hn:μ s0<=4194304)
  (hb: ∀s,Inv s->(∃s',body s=some (.inl s')/\Inv s'/\μ s'<μ s)\/(∃r,body s=some (.inr r)/\kQ r)) (k: ∀r,kQ r-> ∃z,f r=some z/\P z): ∃z,(bY body cy s0).bind f=some z/\P z:=
 gY (wW Inv μ kQ hb cy s0 h0 (by unfold cy;omega)) k
theorem HY{α β:Type}{l:List α}{i j:Nat}{I J:Int}(hI:I=(i:Int))(hJ:J=(j:Int))(hi:i<l.length)(hj:j<l.length){f:List α->Option β}{P:β->Prop}(k: ∀q:List α,q.Perm l-> ∃z,f q=some z/\P z):
  ∃z,((ix l J).bind λy2=>(ix l I).bind λy3=>(ix (l.set I.toNat y2) J).bind λ_=>f ((l.set I.toNat y2).set J.toNat y3))=some z/\P z:=by
 subst hI;subst hJ
 have x1:l[j]? =some l[j]:=dC hj
 have x2:l[i]? =some l[i]:=dC hi
 have x3: ∃y,(l.set i l[j])[j]? =some y:=⟨_,dC (by simpa using hj)⟩
 obtain⟨y,x3⟩:=x3
 simp only[b9 x1,b9 x2,nv,cH,b9 x3]
 exact k _ (@List.set_set_perm _ l i j hi hj)
theorem Cg{α:Type}(l0:List α)(hs:l0.length<=4194304)(a b n:Nat)(ha:a+n<=l0.length)(hb:b+n<=l0.length){A B N:Int}(hA:A=(a:Int))(hB:B=(b:Int))(hN:N=(n:Int)): ∃r,MK l0 A B N=some r/\r.Perm l0:=by
 subst hA;subst hB;subst hN
 unfold MK
 refine eO (λk(s:List α×Int)=>s.2=(k:Int)/\s.1.Perm l0) (λr=>r.Perm l0) n (by omega) ⟨rfl,.refl _⟩ ?_ ?_ ?_
 ·rintro k ⟨l,s2⟩ hk ⟨e,hp⟩
  simp only at e hp
  subst e
  have hl:=hp.length_eq
  have c1:(k:Int)<(n:Int):=by omega
  simp only[c1,decide_true,cond_true]
  have w1:wr ((a:Int)+(k:Int))=((a+k:Nat):Int):=by rw[jd (by omega) (by omega)];omega
  have w2:wr ((b:Int)+(k:Int))=((b+k:Nat):Int):=by rw[jd (by omega) (by omega)];omega
  obtain⟨z,h1,h2⟩:=HY (l:=l) w1 w2 (by omega) (by omega) (f:=λq=>some (Sum.inl (β:=List α) (q,wr ((k:Int)+1)))) (P:=λz=> ∃s',z=.inl s'/\s'.2=((k+1:Nat):Int)/\s'.1.Perm l0)
   (λq hq=>⟨_,rfl,_,rfl,by rw[jd (by omega) (by omega)];omega,hq.trans hp⟩)
  obtain⟨s',rfl,h3,h4⟩:=h2
  exact .inl ⟨s',h1,h3,h4⟩
 ·rintro⟨l,s2⟩ ⟨e,hp⟩
  simp only at e hp
  subst e
  have c1: ¬((n:Int)<(n:Int)):=by omega
  simp only[c1,decide_false,cond_false]
  exact⟨_,rfl,hp⟩
 ·intro r hr
  exact⟨r,rfl,hr⟩
theorem Pn{α:Type}(l0:List α)(hs:l0.length<=4194304)(a m b:Nat)(h1:a<m)(h2:m<b)(h3:b<=l0.length){A M B:Int}(hA:A=(a:Int))(hM:M=(m:Int))(hB:B=(b:Int)): ∃r,Sy l0 A M B=some r/\r.Perm l0:=by
 subst hA;subst hM;subst hB
 unfold Sy
 have w1:wr ((m:Int)-(a:Int))=((m-a:Nat):Int):=by rw[jd (by omega) (by omega)];omega
 have w2:wr ((b:Int)-(m:Int))=((b-m:Nat):Int):=by rw[jd (by omega) (by omega)];omega
 rw[w1,w2]
 refine mw (λ(s:List α×Int×Int)=> ∃i j:Nat,s.2.1=(i:Int)/\s.2.2=(j:Int)/\0<i/\0<j/\i<=m-a/\j<=b-m/\s.1.Perm l0) (λs=>s.2.1.toNat+s.2.2.toNat)
  (λ(r:List α×Int)=> ∃i:Nat,r.2=(i:Int)/\i<=m-a/\i<=b-m/\r.1.Perm l0) ⟨m-a,b-m,rfl,rfl,by omega,by omega,eu _,eu _,.refl _⟩ (by simp only[nv];omega) ?_ ?_
 ·rintro⟨l,s1,s2⟩ ⟨i,j,e1,e2,hi,hj,VI,TQ,hp⟩
  simp only at e1 e2 hp
  subst e1;subst e2
  have hl:=hp.length_eq
  by_cases pz:(i:Int)=(j:Int)
  ·have c:decide ((i:Int)≠(j:Int))=false:=decide_eq_false (by omega)
   simp only[c,cond_false]
   exact .inr ⟨_,rfl,i,rfl,VI,by omega,hp⟩
  ·have c:decide ((i:Int)≠(j:Int))=true:=decide_eq_true pz
   simp only[c,cond_true]
   have w3:wr ((m:Int)-(i:Int))=((m-i:Nat):Int):=by rw[jd (by omega) (by omega)];omega
   by_cases gh:(j:Int)<(i:Int)
   ·obtain⟨r,e,hr⟩:=Cg l (by omega) (m-i) m j (by omega) (by omega) w3 rfl rfl
    have w4:wr ((i:Int)-(j:Int))=((i-j:Nat):Int):=by rw[jd (by omega) (by omega)];omega
    simp only[gh,decide_true,cond_true,e,cH,de hr.length_eq,w4]
    exact .inl ⟨_,rfl,⟨i-j,j,rfl,rfl,by omega,hj,by omega,TQ,hr.trans hp⟩,by simp only[nv];omega⟩
   ·have w5:wr (wr ((m:Int)+(j:Int))-(i:Int))=((m+j-i:Nat):Int):=by rw[jd (n:=(m:Int)+(j:Int)) (by omega) (by omega),jd (by omega) (by omega)];omega
    obtain⟨r,e,hr⟩:=Cg l (by omega) (m-i) (m+j-i) i (by omega) (by omega) w3 w5 rfl
    have w4:wr ((j:Int)-(i:Int))=((j-i:Nat):Int):=by rw[jd (by omega) (by omega)];omega
    simp only[gh,decide_false,cond_false,e,cH,de hr.length_eq,w4]
    exact .inl ⟨_,rfl,⟨i,j-i,rfl,rfl,hi,by omega,VI,by omega,hr.trans hp⟩,by simp only[nv];omega⟩
 ·rintro⟨l,s1⟩ ⟨i,e1,hi,VI,hp⟩
  simp only at e1 hp
  subst e1
  have hl:=hp.length_eq
  have w3:wr ((m:Int)-(i:Int))=((m-i:Nat):Int):=by rw[jd (by omega) (by omega)];omega
  obtain⟨r,e,hr⟩:=Cg l (by omega) (m-i) m i (by omega) (by omega) w3 rfl rfl
  simp only[e,cH]
  exact⟨r,rfl,hr.trans hp⟩
theorem Po{i j:Nat}(h1:i<=4194304)(h2:j<=4194304):wr (dZ (IntKind.wrap .u64 (wr ((i:Int)+(j:Int)))) 1)=(((i+j) / 2:Nat):Int):=by
 have w1:wr ((i:Int)+(j:Int))=((i+j:Nat):Int):=by rw[su (by omega) (by omega)];omega
 have w2:IntKind.wrap .u64 ((i+j:Nat):Int)=((i+j:Nat):Int):=by
  rw[IntKind.wrap_u64];omega
 have w3:dZ ((i+j:Nat):Int) 1=(((i+j) / 2:Nat):Int):=by
  unfold dZ
  have:(2:Int)^(min (1:Int).toNat 64)=2:=by decide
  rw[this,Int.fdiv_eq_ediv_of_nonneg _ (by omega)]
  omega
 rw[w1,w2,w3]
 exact su (by omega) (by omega)
theorem MM{body:Int×Int->Option ((Int×Int)⊕Int)}(lo hi:Nat)(hh:hi<=4194304)(SE:lo<=hi)
  (hb: ∀i j:Nat,lo<=i->i<j->j<=hi->body ((i:Int),(j:Int))=some (.inl ((((i+j) / 2+1:Nat):Int),(j:Int)))\/body ((i:Int),(j:Int))=some (.inl ((i:Int),(((i+j) / 2:Nat):Int))))
  (he: ∀i:Nat,lo<=i->i<=hi->body ((i:Int),(i:Int))=some (.inr (i:Int))): ∃r,bY body cy ((lo:Int),(hi:Int))=some r/\ ∃i:Nat,r=(i:Int)/\lo<=i/\i<=hi:=by
 refine wW (λ(s:Int×Int)=> ∃i j:Nat,s=((i:Int),(j:Int))/\lo<=i/\i<=j/\j<=hi) (λs=>s.2.toNat-s.1.toNat) _ ?_ cy _ ⟨lo,hi,rfl,eu _,SE,eu _⟩ (by simp only[nv];unfold cy;omega)
 rintro s ⟨i,j,rfl,h1,h2,h3⟩
 by_cases pz:i=j
 ·subst pz
  exact .inr ⟨_,he i h1 h3,i,rfl,h1,h3⟩
 ·rcases hb i j h1 (by omega) h3 with h|h
  ·exact .inl ⟨_,h,⟨_,_,rfl,by omega,by omega,h3⟩,by simp only[nv];omega⟩
  ·exact .inl ⟨_,h,⟨_,_,rfl,h1,by omega,by omega⟩,by simp only[nv];omega⟩
section
variable {α:Type} {cmp:α->α->Option Int} {G:α->Prop} (hc: ∀x y,G x->G y-> ∃r,cmp x y=some r)
include hc
theorem HZ(l0:List α)(hs:l0.length<=4194304)(hg: ∀p∈l0,G p)(a b:Nat)(ha:a<=4194304)(hb:b<=l0.length){A B:Int}(hA:A=(a:Int))(hB:B=(b:Int)): ∃r,JG cmp l0 A B=some r/\r.Perm l0:=by
 subst hA;subst hB
 unfold JG
 refine mw (λ(s:List α×Int)=>(∃k:Nat,s.2=(k:Int)/\a+1<=k)/\s.1.Perm l0) (λs=>b-s.2.toNat) (λr=>r.Perm l0) ⟨⟨a+1,?_,eu _⟩,.refl _⟩ (by omega) ?_ ?_
 ·show wr ((a:Int)+1)=((a+1:Nat):Int)
  rw[jd (by omega) (by omega)];omega
 ·rintro⟨l,s2⟩ ⟨⟨k,e,hk⟩,hp⟩
  simp only at e hp
  subst e
  have dt:=hp.length_eq
  by_cases c1:(k:Int)<(b:Int)
  ·simp only[c1,decide_true,cond_true]
   have:=wW (body:=λ((lX,nl):(List α×Int))=>((bif (decide ((a:Int)<nl))then((ix lX nl).bind λy3=>(ix lX (wr (nl-1))).bind λy4=>(cmp y3 y4).bind λr5=>some (decide (r5<0)))else(some false)):Option Bool).bind λ(MJ:Bool)=>bif MJ then((ix lX (wr (nl-1))).bind λy7=>(ix lX nl).bind λy8=>(ix (lX.set nl.toNat y7) (wr (nl-1))).bind λy9=>some (.inl (((lX.set nl.toNat y7).set (wr (nl-1)).toNat y8),(wr (nl-1)))))else(some (.inr lX)))
    (λ(s:List α×Int)=>(∃j:Nat,s.2=(j:Int)/\j<=k)/\s.1.Perm l0) (λs=>s.2.toNat) (λr=>r.Perm l0) ?_ cy (l,(k:Int)) ⟨⟨k,rfl,eu _⟩,hp⟩ (by simp only[nv];unfold cy;omega)
   ·obtain⟨r,h1,h2⟩:=this
    rw[h1]
    simp only[cH]
    refine .inl ⟨_,rfl,⟨⟨k+1,?_,by omega⟩,h2⟩,?_⟩
    ·show wr ((k:Int)+1)=_;rw[jd (by omega) (by omega)];omega
    ·show b-(wr ((k:Int)+1)).toNat<b-((k:Int)).toNat
     rw[jd (by omega) (by omega)];omega
   ·rintro⟨q,s2⟩ ⟨⟨j,e,hj⟩,hq⟩
    simp only at e hq
    subst e
    have Pf:=hq.length_eq
    by_cases c2:(a:Int)<(j:Int)
    ·have x1:q[j]? =some (q[j]'(by omega)):=dC _
     have x2:q[j-1]? =some (q[j-1]'(by omega)):=dC _
     have w:wr ((j:Int)-1)=((j-1:Nat):Int):=by rw[jd (by omega) (by omega)];omega
     obtain⟨r5,e5⟩:=hc (q[j]'(by omega)) (q[j-1]'(by omega)) (hg _ (hq.mem_iff.1 (zo _))) (hg _ (hq.mem_iff.1 (zo _)))
     simp only[c2,decide_true,cond_true,b9 x1,w,b9 x2,e5,cH]
     cases decide (r5<0)
     ·exact .inr ⟨_,rfl,hq⟩
     ·simp only[cond_true]
      obtain⟨z,h1,h2⟩:=HY (l:=q) (i:=j) (j:=j-1) rfl rfl (by omega) (by omega) (f:=λq'=>some (Sum.inl (β:=List α) (q',((j-1:Nat):Int)))) (P:=λz=> ∃s',z=.inl s'/\s'.2=((j-1:Nat):Int)/\s'.1.Perm l0)
       (λq' V3=>⟨_,rfl,_,rfl,rfl,V3.trans hq⟩)
      obtain⟨s',rfl,h3,h4⟩:=h2
      simp only[b9 x1,b9 x2,cH]at h1
      refine .inl ⟨s',h1,⟨⟨j-1,h3,by omega⟩,h4⟩,?_⟩
      show s'.2.toNat<((j:Int)).toNat
      rw[h3];omega
    ·simp only[c2,decide_false,cond_false,cH]
     exact .inr ⟨_,rfl,hq⟩
  ·simp only[c1,decide_false,cond_false]
   exact .inr ⟨_,rfl,hp⟩
 ·intro r hr
  exact⟨r,rfl,hr⟩
theorem yD: ∀(fu:Nat)(l0:List α)(a m b:Nat),l0.length<=4194304->(∀p∈l0,G p)->a<m->m<b->b<=l0.length->b-a<=fu-> ∃r,ug cmp fu l0 (a:Int) (m:Int) (b:Int)=some r/\r.Perm l0
 |0,l0,a,m,b,hs,hg,h1,h2,h3,hf=>by omega
 |fu+1,l0,a,m,b,hs,hg,h1,h2,h3,hf=>by
  unfold ug
  have at_: ∀i:Nat,i<l0.length-> ∃y,l0[i]? =some y/\G y:=λi hi=>⟨_,dC hi,hg _ (zo _)⟩
  have w1:wr ((m:Int)-(a:Int))=((m-a:Nat):Int):=by rw[jd (by omega) (by omega)];omega
  have w2:wr ((b:Int)-(m:Int))=((b-m:Nat):Int):=by rw[jd (by omega) (by omega)];omega
  simp only[w1,w2]
  by_cases ca:m-a=1
  ·have c:decide (((m-a:Nat):Int)=1)=true:=decide_eq_true (by omega)
   simp only[c,cond_true]
   refine gY (MM m b (by omega) (by omega) ?_ ?_) ?_
   ·intro i j hi pz hj
    have c1:(i:Int)<(j:Int):=by omega
    obtain⟨y,x1,g1⟩:=at_ ((i+j) / 2) (by omega)
    obtain⟨z,x2,g2⟩:=at_ a (by omega)
    obtain⟨r,e⟩:=hc y z g1 g2
    have w3:wr ((((i+j) / 2:Nat):Int)+1)=(((i+j) / 2+1:Nat):Int):=by rw[jd (by omega) (by omega)];omega
    simp only[c1,decide_true,cond_true,Po (i:=i) (j:=j) (by omega) (by omega),b9 x1,b9 x2,e,cH,w3]
    cases decide (r<0)
    ·exact .inr rfl
    ·exact .inl rfl
   ·intro i hi hj
    have c1: ¬((i:Int)<(i:Int)):=by omega
    simp only[c1,decide_false,cond_false]
   ·rintro _ ⟨i,rfl,hi,hj⟩
    have w3:wr ((i:Int)-1)=((i-1:Nat):Int):=by rw[jd (by omega) (by omega)];omega
    simp only[w3]
    refine mw (λ(s:List α×Int)=>(∃k:Nat,s.2=(k:Int))/\s.1.Perm l0) (λs=>b-s.2.toNat) (λr=>r.Perm l0) ⟨⟨a,rfl⟩,.refl _⟩ (by omega) ?_ λr hr=>⟨r,rfl,hr⟩
    rintro⟨l,s2⟩ ⟨⟨k,e⟩,hp⟩
    simp only at e hp
    subst e
    have hl:=hp.length_eq
    by_cases c1:(k:Int)<((i-1:Nat):Int)
    ·have w4:wr ((k:Int)+1)=((k+1:Nat):Int):=by rw[jd (by omega) (by omega)];omega
     obtain⟨z,e1,e2⟩:=HY (l:=l) (i:=k) (j:=k+1) rfl w4 (by omega) (by omega) (f:=λq=>some (Sum.inl (β:=List α) (q,wr ((k:Int)+1)))) (P:=λz=> ∃s',z=.inl s'/\s'.2=((k+1:Nat):Int)/\s'.1.Perm l0)
      (λq hq=>⟨_,rfl,_,rfl,w4,hq.trans hp⟩)
     obtain⟨s',rfl,e3,e4⟩:=e2
     simp only[c1,decide_true,cond_true]
     refine .inl ⟨s',e1,⟨⟨k+1,e3⟩,e4⟩,?_⟩
     show b-s'.2.toNat<b-((k:Int)).toNat
     rw[e3];omega
    ·simp only[c1,decide_false,cond_false]
     exact .inr ⟨_,rfl,hp⟩
  ·have c:decide (((m-a:Nat):Int)=1)=false:=decide_eq_false (by omega)
   simp only[c,cond_false]
   by_cases cb:b-m=1
   ·have c:decide (((b-m:Nat):Int)=1)=true:=decide_eq_true (by omega)
    simp only[c,cond_true]
    refine gY (MM a m (by omega) (by omega) ?_ ?_) ?_
    ·intro i j hi pz hj
     have c1:(i:Int)<(j:Int):=by omega
     obtain⟨y,x1,g1⟩:=at_ ((i+j) / 2) (by omega)
     obtain⟨z,x2,g2⟩:=at_ m (by omega)
     obtain⟨r,e⟩:=hc z y g2 g1
     have w3:wr ((((i+j) / 2:Nat):Int)+1)=(((i+j) / 2+1:Nat):Int):=by rw[jd (by omega) (by omega)];omega
     simp only[c1,decide_true,cond_true,Po (i:=i) (j:=j) (by omega) (by omega),b9 x1,b9 x2,e,cH,w3]
     cases decide (r<0)
     ·exact .inl rfl
     ·exact .inr rfl
    ·intro i hi hj
     have c1: ¬((i:Int)<(i:Int)):=by omega
     simp only[c1,decide_false,cond_false]
    ·rintro _ ⟨i,rfl,hi,hj⟩
     refine mw (λ(s:List α×Int)=>(∃k:Nat,s.2=(k:Int)/\k<=m)/\s.1.Perm l0) (λs=>s.2.toNat) (λr=>r.Perm l0) ⟨⟨m,rfl,eu _⟩,.refl _⟩ (by simp only[nv];omega) ?_ λr hr=>⟨r,rfl,hr⟩
     rintro⟨l,s2⟩ ⟨⟨k,e,hk⟩,hp⟩
     simp only at e hp
     subst e
     have hl:=hp.length_eq
     by_cases c1:(i:Int)<(k:Int)
     ·have w4:wr ((k:Int)-1)=((k-1:Nat):Int):=by rw[jd (by omega) (by omega)];omega
      obtain⟨z,e1,e2⟩:=HY (l:=l) (i:=k) (j:=k-1) rfl w4 (by omega) (by omega) (f:=λq=>some (Sum.inl (β:=List α) (q,wr ((k:Int)-1)))) (P:=λz=> ∃s',z=.inl s'/\s'.2=((k-1:Nat):Int)/\s'.1.Perm l0)
       (λq hq=>⟨_,rfl,_,rfl,w4,hq.trans hp⟩)
      obtain⟨s',rfl,e3,e4⟩:=e2
      simp only[c1,decide_true,cond_true]
      refine .inl ⟨s',e1,⟨⟨k-1,e3,by omega⟩,e4⟩,?_⟩
      show s'.2.toNat<((k:Int)).toNat
      rw[e3];omega
     ·simp only[c1,decide_false,cond_false]
      exact .inr ⟨_,rfl,hp⟩
   ·have c:decide (((b-m:Nat):Int)=1)=false:=decide_eq_false (by omega)
    simp only[c,cond_false,Po (i:=a) (j:=b) (by omega) (by omega)]
    generalize zI:(a+b) / 2=ky
    have CK:a<ky:=by omega
    have F9:ky<b:=by omega
    have wn:wr ((ky:Int)+(m:Int))=((ky+m:Nat):Int):=by rw[jd (by omega) (by omega)];omega
    simp only[wn]
    refine gY (P1:=λq=> ∃lo hi:Nat,q=((lo:Int),(hi:Int))/\a<=lo/\lo<=hi/\hi<=m/\hi<=ky/\ky+m<=b+lo) ?_ ?_
    ·by_cases cm:(ky:Int)<(m:Int)
     ·have w5:wr (((ky+m:Nat):Int)-(b:Int))=((ky+m-b:Nat):Int):=by rw[jd (by omega) (by omega)];omega
      simp only[cm,decide_true,cond_true,w5]
      exact⟨_,rfl,ky+m-b,ky,rfl,by omega,by omega,by omega,by omega,by omega⟩
     ·simp only[cm,decide_false,cond_false]
      exact⟨_,rfl,a,m,rfl,by omega,by omega,by omega,by omega,by omega⟩
    ·rintro _ ⟨lo,hi,rfl,p1,p2,p3,p4,p5⟩
     simp only
     refine gY (MM lo hi (by omega) p2 ?_ ?_) ?_
     ·intro i j Bm pz hj
      have c1:(i:Int)<(j:Int):=by omega
      have wp:wr (((ky+m:Nat):Int)-1)=((ky+m-1:Nat):Int):=by rw[jd (by omega) (by omega)];omega
      have wq:wr (((ky+m-1:Nat):Int)-(((i+j) / 2:Nat):Int))=((ky+m-1-(i+j) / 2:Nat):Int):=by rw[jd (by omega) (by omega)];omega
      obtain⟨y,x1,g1⟩:=at_ ((i+j) / 2) (by omega)
      obtain⟨z,x2,g2⟩:=at_ (ky+m-1-(i+j) / 2) (by omega)
      obtain⟨r,e⟩:=hc z y g2 g1
      have w3:wr ((((i+j) / 2:Nat):Int)+1)=(((i+j) / 2+1:Nat):Int):=by rw[jd (by omega) (by omega)];omega
      simp only[c1,decide_true,cond_true,Po (i:=i) (j:=j) (by omega) (by omega),wp,wq,b9 x1,b9 x2,e,cH,w3]
      cases decide (r<0)
      ·exact .inl rfl
      ·exact .inr rfl
     ·intro i Bm hj
      have c1: ¬((i:Int)<(i:Int)):=by omega
      simp only[c1,decide_false,cond_false]
     ·rintro _ ⟨i,rfl,ZX,VI⟩
      have we:wr (((ky+m:Nat):Int)-(i:Int))=((ky+m-i:Nat):Int):=by rw[jd (by omega) (by omega)];omega
      simp only[we]
      refine gY (P1:=λq=>q.Perm l0) ?_ λq7 V4=>?_
      ·by_cases d1:(i:Int)<(m:Int)
       ·by_cases d2:(m:Int)<((ky+m-i:Nat):Int)
        ·obtain⟨r,e,hr⟩:=Pn l0 hs i m (ky+m-i) (by omega) (by omega) (by omega) rfl rfl rfl
         simp only[d1,d2,decide_true,cond_true,cH,e,de hr.length_eq]
         exact⟨r,rfl,hr⟩
        ·simp only[d1,d2,decide_true,decide_false,cond_true,cond_false,cH]
         exact⟨_,rfl,.refl _⟩
       ·simp only[d1,decide_false,cond_false,cH]
        exact⟨_,rfl,.refl _⟩
      have hl7:=V4.length_eq
      refine gY (P1:=λq=>q.Perm l0) ?_ λq9 V5=>?_
      ·by_cases d1:(a:Int)<(i:Int)
       ·by_cases d2:(i:Int)<(ky:Int)
        ·obtain⟨r,e,hr⟩:=yD fu q7 a i ky (by omega) (λp hp=>hg p (V4.mem_iff.1 hp)) (by omega) (by omega) (by omega) (by omega)
         simp only[d1,d2,decide_true,cond_true,cH,e,de hr.length_eq]
         exact⟨r,rfl,hr.trans V4⟩
        ·simp only[d1,d2,decide_true,decide_false,cond_true,cond_false,cH]
         exact⟨_,rfl,V4⟩
       ·simp only[d1,decide_false,cond_false,cH]
        exact⟨_,rfl,V4⟩
      have hl9:=V5.length_eq
      by_cases d1:(ky:Int)<((ky+m-i:Nat):Int)
      ·by_cases d2:((ky+m-i:Nat):Int)<(b:Int)
       ·obtain⟨r,e,hr⟩:=yD fu q9 ky (ky+m-i) b (by omega) (λp hp=>hg p (V5.mem_iff.1 hp)) (by omega) (by omega) (by omega) (by omega)
        simp only[d1,d2,decide_true,cond_true,cH,e]
        exact⟨r,rfl,hr.trans V5⟩
       ·simp only[d1,d2,decide_true,decide_false,cond_true,cond_false,cH]
        exact⟨_,rfl,V5⟩
      ·simp only[d1,decide_false,cond_false,cH]
       exact⟨_,rfl,V5⟩
theorem H4(l0:List α)(a m b:Nat)(hs:l0.length<=4194304)(hg: ∀p∈l0,G p)(h1:a<m)(h2:m<b)(h3:b<=l0.length){A M B:Int}(hA:A=(a:Int))(hM:M=(m:Int))(hB:B=(b:Int)): ∃r,Ce cmp l0 A M B=some r/\r.Perm l0:=by
 subst hA;subst hM;subst hB
 exact yD hc cy l0 a m b hs hg h1 h2 h3 (by unfold cy;omega)
theorem H5(l0:List α)(hs:l0.length<=4194304)(hg: ∀p∈l0,G p){N:Int}(hN:N=(l0.length:Int)): ∃r,JH cmp l0 N=some r/\r.Perm l0:=by
 subst hN
 generalize hn:l0.length=n at hs
 unfold JH
 refine mw (λ(s:List α×Int×Int)=> ∃a:Nat,s.2.1=(a:Int)/\s.2.2=((a+20:Nat):Int)/\a<=n/\s.1.Perm l0) (λs=>n-s.2.1.toNat)
  (λ(r:List α×Int)=> ∃a:Nat,r.2=(a:Int)/\a<=n/\r.1.Perm l0) ⟨0,rfl,rfl,by omega,.refl _⟩ (by omega) ?_ ?_
 ·rintro⟨l,s1,s2⟩ ⟨a,e1,e2,ha,hp⟩
  simp only at e1 e2 hp
  subst e1;subst e2
  have hl:=hp.length_eq
  by_cases c1:((a+20:Nat):Int)<=(n:Int)
  ·obtain⟨r,e,hr⟩:=HZ hc l (by omega) (λp h=>hg p (hp.mem_iff.1 h)) a (a+20) (by omega) (by omega) rfl rfl
   have w:wr (((a+20:Nat):Int)+20)=((a+20+20:Nat):Int):=by rw[jd (by omega) (by omega)];omega
   simp only[c1,decide_true,cond_true,e,cH,de hr.length_eq,w]
   exact .inl ⟨_,rfl,⟨a+20,rfl,rfl,by omega,hr.trans hp⟩,by simp only[nv];omega⟩
  ·simp only[c1,decide_false,cond_false]
   exact .inr ⟨_,rfl,a,rfl,ha,hp⟩
 ·rintro⟨l,s1⟩ ⟨a,e1,ha,hp⟩
  simp only at e1 hp
  subst e1
  have hl:=hp.length_eq
  obtain⟨r4,e,hr⟩:=HZ hc l (by omega) (λp h=>hg p (hp.mem_iff.1 h)) a n (by omega) (by omega) rfl rfl
  simp only[e,cH,de hr.length_eq]
  refine mw (λ(s:List α×Int)=>(∃k:Nat,s.2=(k:Int)/\1<=k)/\s.1.Perm l0) (λs=>n-s.2.toNat) (λr=>r.Perm l0) ⟨⟨20,rfl,by omega⟩,hr.trans hp⟩ (by omega) ?_ λr hr=>⟨r,rfl,hr⟩
  rintro⟨q,s2⟩ ⟨⟨k,e2,hk⟩,hq⟩
  simp only at e2 hq
  subst e2
  by_cases c1:(k:Int)<(n:Int)
  ·have w2:wr (2*(k:Int))=((2*k:Nat):Int):=by rw[jd (by omega) (by omega)];omega
   have w3:wr ((k:Int)*2)=((2*k:Nat):Int):=by rw[jd (by omega) (by omega)];omega
   simp only[c1,decide_true,cond_true,w2,w3]
   have key: ∃z,((bY (σ:=(List α×Int×Int)) (τ:=(List α×Int)) (λ((Gg,Gh,Cf):(List α×Int×Int))=>bif (decide (Cf<=(n:Int)))then((Ce cmp Gg Gh (wr (Gh+(k:Int))) Cf).bind λr8=>cr (r8.length=Gg.length)<|some (.inl (r8,Cf,(wr (Cf+((2*k:Nat):Int))))))else(some (.inr (Gg,Gh)))) cy (q,0,((2*k:Nat):Int))).bind λ((yB,yC):(List α×Int))=>((bif (decide ((wr (yC+(k:Int)))<(n:Int)))then((Ce cmp yB yC (wr (yC+(k:Int))) (n:Int)).bind λF7=>cr (F7.length=yB.length)<|some F7)else(some yB)):Option (List α)).bind λ(SD:(List α))=>some (Sum.inl (β:=List α) (SD,((2*k:Nat):Int))))=some z/\ ∃s',z=.inl s'/\s'.2=((2*k:Nat):Int)/\s'.1.Perm l0:=by
    refine mw (λ(s:List α×Int×Int)=> ∃a:Nat,s.2.1=(a:Int)/\s.2.2=((a+2*k:Nat):Int)/\a<=n/\s.1.Perm l0) (λs=>n-s.2.1.toNat)
     (λ(r:List α×Int)=> ∃a:Nat,r.2=(a:Int)/\a<=n/\r.1.Perm l0) ⟨0,rfl,by show((2*k:Nat):Int)=_;omega,by omega,hq⟩ (by omega) ?_ ?_
    ·rintro⟨l,s1,s2⟩ ⟨a,e1,e2,ha,hp⟩
     simp only at e1 e2 hp
     subst e1;subst e2
     have hl:=hp.length_eq
     by_cases c1:((a+2*k:Nat):Int)<=(n:Int)
     ·have w4:wr ((a:Int)+(k:Int))=((a+k:Nat):Int):=by rw[jd (by omega) (by omega)];omega
      obtain⟨r,e,hr⟩:=H4 hc l a (a+k) (a+2*k) (by omega) (λp h=>hg p (hp.mem_iff.1 h)) (by omega) (by omega) (by omega) rfl w4 rfl
      have w:wr (((a+2*k:Nat):Int)+((2*k:Nat):Int))=((a+2*k+2*k:Nat):Int):=by rw[jd (by omega) (by omega)];omega
      simp only[c1,decide_true,cond_true,e,cH,de hr.length_eq,w]
      exact .inl ⟨_,rfl,⟨a+2*k,rfl,rfl,by omega,hr.trans hp⟩,by simp only[nv];omega⟩
     ·simp only[c1,decide_false,cond_false]
      exact .inr ⟨_,rfl,a,rfl,ha,hp⟩
    ·rintro⟨l,s1⟩ ⟨a,e1,ha,hp⟩
     simp only at e1 hp
     subst e1
     have hl:=hp.length_eq
     have w4:wr ((a:Int)+(k:Int))=((a+k:Nat):Int):=by rw[jd (by omega) (by omega)];omega
     by_cases c2:((a+k:Nat):Int)<(n:Int)
     ·obtain⟨r,e,hr⟩:=H4 hc l a (a+k) n (by omega) (λp h=>hg p (hp.mem_iff.1 h)) (by omega) (by omega) (by omega) rfl w4 rfl
      simp only[w4,c2,decide_true,cond_true]
      rw[w4]at e
      simp only[e,cH,de hr.length_eq]
      exact⟨_,rfl,_,rfl,rfl,hr.trans hp⟩
     ·simp only[w4,c2,decide_false,cond_false,cH]
      exact⟨_,rfl,_,rfl,rfl,hp⟩
   obtain⟨z,h1,s',rfl,h2,h3⟩:=key
   refine .inl ⟨s',h1,⟨⟨2*k,h2,by omega⟩,h3⟩,?_⟩
   show n-s'.2.toNat<n-((k:Int)).toNat
   rw[h2];omega
  ·simp only[c1,decide_false,cond_false]
   exact .inr ⟨_,rfl,hq⟩
end
end Go.Am
set_option linter.all false
namespace Go.Proofs.YtpbahncblggodaaGreat
open Go Go.Am
set_option maxRecDepth 100000
theorem f322_g:f322=JG f270:=rfl
theorem f323r_g: ∀fu,f323r fu=ug f270 fu
 |0=>rfl
 |fu+1=>by
  funext a0 a1 a2 a3
  unfold f323r ug
  rw[f323r_g fu];rfl
theorem f323_g:f323=Ce f270:=by
 funext a0 a1 a2 a3
 unfold f323 Ce
 rw[f323r_g]
theorem f306_g:f306=JH f270:=by
 funext a0 a1
 unfold f306 JH
 rw[f323_g,f322_g]
theorem f269_ex(l:List (List bn))(hl:l.length<=4194304)(hp: ∀p∈l,bT p): ∃r,f269 l=some r/\r.Perm l:=by
 unfold f269
 rw[f306_g]
 obtain⟨r,h1,h2⟩:=H5 (cmp:=f270) (G:=bT) (λx y hx hy=>let⟨r,e,_⟩:=f270_ex x y hx hy;⟨r,e⟩) l hl hp rfl
 rw[h1]
 exact⟨r,rfl,h2⟩
end Go.Proofs.YtpbahncblggodaaGreat
set_option linter.all false
namespace Go.Proofs.YtpbahncblggodaaGreat
open Go Go.Am
set_option maxRecDepth 100000
def Gi(x y:bF):Option Int:=f158 x.bO x.bW x.bX x.dr x.bP.bc x.bP.ct x.cW y.bO y.bW y.bX y.dr y.bP.bc y.bP.ct y.cW
theorem f263_g:f263=JG Gi:=rfl
theorem f264r_g: ∀fu,f264r fu=ug Gi fu
 |0=>rfl
 |fu+1=>by
  funext a0 a1 a2 a3
  unfold f264r ug
  rw[f264r_g fu];rfl
theorem f264_g:f264=Ce Gi:=by
 funext a0 a1 a2 a3
 unfold f264 Ce
 rw[f264r_g]
theorem f217_g:f217=JH Gi:=by
 funext a0 a1
 unfold f217 JH
 rw[f264_g,f263_g]
theorem Pp(x y:bF)(hx:x.bO≠[])(hy:y.bO≠[]): ∃r,Gi x y=some r:=by
 unfold Gi f158
 obtain⟨a,l,e1⟩:=WU hx
 obtain⟨b,q,e2⟩:=WU hy
 rw[e1,e2]
 have i1:ix (a::l) 0=some a:=rfl
 have i2:ix (b::q) 0=some b:=rfl
 simp only[i1,i2,cH,f104_eq]
 exact⟨_,rfl⟩
theorem f157_ex(l:List bF)(hl:l.length<=4194304)(hm: ∀n∈l,n.bO≠[]): ∃r,f157 l=some r/\r.Perm l:=by
 unfold f157
 rw[f217_g]
 obtain⟨r,h1,h2⟩:=H5 (cmp:=Gi) (G:=λn=>n.bO≠[]) Pp l hl hm rfl
 rw[h1]
 exact⟨r,rfl,h2⟩
theorem f97_ex(d:cM)(t:Int)(hl:bT d.cV)(hm: ∀n∈d.cV,n.bO≠[]): ∃r,f97 d t=some r/\r.Perm (d.cV.filter λn=>decide (t<n.dr)):=by
 have uv:d.cV.length<=4194304:=hl
 unfold f97
 refine eO (λk(s:List bF×Int)=>s.2=(k:Int)/\s.1=(d.cV.take k).filter λn=>decide (t<n.dr)) (λr=>r=d.cV.filter λn=>decide (t<n.dr)) d.cV.length hl ⟨rfl,by simp⟩ ?_ ?_ ?_
 ·rintro k ⟨s1,s2⟩ hk ⟨e0,e1⟩
  simp only at e0 e1
  subst e0;subst e1
  have x1:d.cV[k]? =some (d.cV[k]'hk):=dC _
  have hq:=sM (λn:bF=>decide (t<n.dr)) (d.cV.take k)
  have I7:(d.cV.take k).length<=k:=Nz ..
  have m1:((d.cV.take k).filter λn=>decide (t<n.dr)).length+1<=bJ:=by unfold bJ;omega
  have ht:d.cV.take (k+1)=d.cV.take k++[d.cV[k]'hk]:=by rw[List.take_succ,x1];rfl
  simp only[cJ x1,cond_true,b9 x1,cH,dB hl x1,de m1]
  cases c:decide (t<(d.cV[k]'hk).dr)
  ·exact .inl ⟨_,rfl,rfl,by rw[ht,EL];simp only[List.filter,c,wx]⟩
  ·exact .inl ⟨_,rfl,rfl,by rw[ht,EL];simp only[List.filter,c]⟩
 ·rintro⟨s1,s2⟩ ⟨e0,e1⟩
  simp only at e0 e1
  subst e0;subst e1
  simp only[kF,decide_false,cond_false]
  exact⟨_,rfl,by rw[Bb]⟩
 ·rintro r rfl
  have hq:=sM (λn:bF=>decide (t<n.dr)) d.cV
  obtain⟨r,h1,h2⟩:=f157_ex (d.cV.filter λn=>decide (t<n.dr)) (by omega) (λn hn=>hm n (mC.1 hn).1)
  simp only[h1,cH,de h2.length_eq]
  exact⟨_,rfl,h2⟩
end Go.Proofs.YtpbahncblggodaaGreat
set_option linter.all false
namespace Go.Proofs.YtpbahncblggodaaGreat
open Go Go.Am
set_option maxRecDepth 100000
theorem f140_eq(l:List cT)(n:bF)(hl:bT l):f140 l n.bO n.bW n.bX n.dr n.bP.bc n.bP.ct n.cW=some (gu (λs:cT=>decide (s.bc=n.bP.bc)) l):=by
 unfold f140
 rw[dP l (λs:cT=>decide (s.bc=n.bP.bc)) (λi _=>(i:Int)) hl]
 ·simp only[cH,fi,gu]
  cases l.findIdx? _<;>simp
 ·intro i y hy
  simp only[cJ hy,cond_true,b9 hy,cH,f164]
  cases decide (y.bc=n.bP.bc)<;>rfl
 ·simp
def hb(K:List bF)(e:Nat)(c:Int):Bool:=K.any λa=>decide (0<a.bP.ct)&&(decide (a.cW=(e:Int))&&decide (a.bP.bc=c))
def uz(K:List bF)(now:Int)(e:Nat)(s:cT):cT:=bif hb K e s.bc then⟨s.bc,s.ct,s.right,s.jx,now-(e:Int)⟩else s
def qO(K:List bF)(now:Int)(e:Nat)(d:cg):cg:=⟨d.k8,d.sign,d.tie,d.cZ.map (uz K now e)⟩
theorem fK{K:List bF}{now:Int}{e:Nat}{s:cT}:(uz K now e s).bc=s.bc:=by unfold uz;cases hb K e s.bc<;>rfl
theorem uh{K:List bF}{now:Int}{e:Nat}{s:cT}:(uz K now e s).ct=s.ct:=by unfold uz;cases hb K e s.bc<;>rfl
theorem H6{now:Int}{e:Nat}{d:cg}:qO [] now e d=d:=by
 unfold qO
 have:uz [] now e=id:=rfl
 rw[this,List.map_id]
theorem wX{K:List bF}{a:bF}{e:Nat}{c:Int}:hb (K++[a]) e c=(hb K e c||(decide (0<a.bP.ct)&&(decide (a.cW=(e:Int))&&decide (a.bP.bc=c)))):=by unfold hb;simp
theorem D9{α:Type}{p:α->Bool}: ∀{l:List α}{k:Nat}{x:α},l[k]? =some x->p x=true->(∀(j:Nat)y,l[j]? =some y->p y=true->j=k)->gu p l=(k:Int):=by
 intro l k x hx hp hu
 have h1:=qM (l:=l) (p:=p) (w9.2 ⟨x,gx hx,hp⟩)
 obtain⟨j,y,e1,e2,e3⟩:=h1
 rw[e1,hu j y e2 e3]
structure Qt (E:List cg) (a:bF):Prop where
 st: ∃(e:Nat)(d:cg)(k:Nat)(s:cT),a.cW=(e:Int)/\E[e]? =some d/\d.cZ[k]? =some s/\s.bc=a.bP.bc/\bT d.cZ/\ ∀(j:Nat)y,d.cZ[j]? =some y->y.bc=s.bc->j=k
theorem MN{E:List cg}{K:List bF}{a:bF}{now:Int}{e:Nat}{d:cg}{k:Nat}{s:cT}(ha:a.cW=(e:Int))(hd:E[e]? =some d)(hk:d.cZ[k]? =some s)(hc:s.bc=a.bP.bc)
  (hu: ∀(j:Nat)y,d.cZ[j]? =some y->y.bc=s.bc->j=k) (hf:0<a.bP.ct):
  (E.mapIdx (qO K now)).set e ⟨d.k8,d.sign,d.tie,(d.cZ.map (uz K now e)).set k ⟨s.bc,s.ct,s.right,s.jx,now-(e:Int)⟩⟩=E.mapIdx (qO (K++[a]) now):=by
 apply Tm
 intro j
 by_cases hj:e=j
 ·subst hj
  have hl:=(fM.1 hd).1
  rw[GI (by simpa using hl),PL,hd]
  simp only[gl,qO,Option.some.injEq,cg.mk.injEq,true_and]
  apply Tm
  intro i
  by_cases hi:k=i
  ·subst hi
   have CO:=(fM.1 hk).1
   rw[GI (by simpa using CO),sK,hk]
   simp only[gl,uz,wX,hf,ha,hc,decide_true,Bool.and_self,Bool.or_true,cond_true]
  ·rw[EM hi,sK,sK]
   cases hy:d.cZ[i]? with
   |none=>rfl
   |some y=>
    have:decide (a.bP.bc=y.bc)=false:=decide_eq_false λh=>hi (hu i y hy (by rw[hc,h])).symm
    simp only[gl,uz,wX,this,Bool.and_false,Uh]
 ·rw[EM hj,PL,PL]
  cases E[j]? with
  |none=>rfl
  |some y=>
   have h1:decide (a.cW=(j:Int))=false:=decide_eq_false λh=>hj (by omega)
   have:uz (K++[a]) now j=uz K now j:=by funext s;simp only[uz,wX,h1,WV,Bool.and_false,Uh]
   simp only[gl,qO,this]
def iT(dN:List bF)(cut:List Bool):List bF:=((dN.zip cut).filter λx=>!x.2).map (·.1)
def Ch(dN:List bF)(cut:List Bool):List bF:=((dN.zip cut).filter λx=>x.2).map (·.1)
def MO(now:Int)(n:bF)(p:bn):bF:=⟨n.bO,n.bW,n.bX,n.dr,p,bif decide (0<p.bc)then now else n.cW⟩
def sC(now:Int)(cq:List bF)(pl:List bn):List bF:=(cq.zip pl).map λx=>MO now x.1 x.2
def qj(p:bn):cT:=⟨p.bc,p.ct,0,0,0⟩
theorem nT{α β:Type}{l:List α}{m:List β}{k:Nat}{a:α}{b:β}(h1:l[k]? =some a)(h2:m[k]? =some b):(l.zip m).take (k+1)=(l.zip m).take k++[(a,b)]:=cN (AO h1 h2)
theorem f165_ex(l:List cT)(hs:bT l)(hd: ∀x∈l,∀y∈l,x.bc=y.bc->x=y): ∃r,f165 l=some r/\r.Perm l/\r.Pairwise λx y=>x.bc<=y.bc:=AN cT.bc f166 f166_eq l hs hd
theorem f100_ex(d:cM)(c:bU)(cq dN:List bF)(sg:cI)(hl:c.cut.length=dN.length)(hp:c.places.length=cq.length)(hu:dN.length<=100000)(hf:cq.length<=4000)(hE:d.bM.bG.length<=4000)
  (ho: ∀a∈dN,0<a.bP.ct->Qt d.bM.bG a) (hd: ∀x∈c.places,∀y∈c.places,0<x.bc->x.bc=y.bc->x=y):
  ∃u,f100 d c cq dN sg=some (u,Ch dN c.cut,sC (d.bM.bG.length:Int) cq c.places,d.bM.bG.mapIdx (qO (iT dN c.cut) (d.bM.bG.length:Int)),
   iT dN c.cut++(sC (d.bM.bG.length:Int) cq c.places).filter λn=>decide (0<n.bP.bc))/\u.Perm ((c.places.filter λp=>decide (0<p.bc)).map qj)/\u.Pairwise λx y=>x.bc<=y.bc:=by
 have key: ∃z,f100 d c cq dN sg=some z/\ ∃u,z=(u,Ch dN c.cut,sC (d.bM.bG.length:Int) cq c.places,d.bM.bG.mapIdx (qO (iT dN c.cut) (d.bM.bG.length:Int)),
   iT dN c.cut++(sC (d.bM.bG.length:Int) cq c.places).filter λn=>decide (0<n.bP.bc))/\u.Perm ((c.places.filter λp=>decide (0<p.bc)).map qj)/\u.Pairwise λx y=>x.bc<=y.bc:=by
  unfold f100
  generalize IQ:(d.bM.bG.length:Int)=now
  refine eO (λk(s:List cg×List bF×List bF×Int)=>s.2.2.2=(k:Int)/\s.2.1=(((dN.zip c.cut).take k).filter λx=>!x.2).map (·.1)/\s.2.2.1=(((dN.zip c.cut).take k).filter λx=>x.2).map (·.1)/\s.1=d.bM.bG.mapIdx (qO s.2.1 now))
   (λr=>r=(d.bM.bG.mapIdx (qO (iT dN c.cut) now),iT dN c.cut,Ch dN c.cut)) dN.length (by omega) ?_ ?_ ?_ ?_
  ·refine⟨rfl,by simp,by simp,?_⟩
   show _=List.mapIdx (qO [] now) _
   have:qO [] now=λ_ d=>d:=by funext e d;exact H6
   rw[this]
   apply Tm
   intro i
   rw[PL];cases d.bM.bG[i]?<;>rfl
  ·rintro k ⟨s1,s2,s3,s4⟩ hk ⟨e0,e1,e2,e3⟩
   simp only at e0 e1 e2 e3
   subst e0
   have x1:dN[k]? =some (dN[k]'hk):=dC _
   have x2:c.cut[k]? =some (c.cut[k]'(by omega)):=dC _
   have ha:=gx x1
   generalize dN[k]'hk=a at x1 ha
   generalize c.cut[k]'(by omega)=b at x2
   have b2:s2.length<=k:=by rw[e1];have:=sM (λx:bF×Bool=>!x.2) ((dN.zip c.cut).take k);have:=Nz k (dN.zip c.cut);simp;omega
   have b3:s3.length<=k:=by rw[e2];have:=sM (λx:bF×Bool=>x.2) ((dN.zip c.cut).take k);have:=Nz k (dN.zip c.cut);simp;omega
   have m2:s2.length+1<=bJ:=by unfold bJ;omega
   have m3:s3.length+1<=bJ:=by unfold bJ;omega
   simp only[cJ x1,cond_true,b9 x1,b9 x2,cH,dB (l:=dN) (by simp only[bT];omega) x1]
   cases b
   ·simp only[cond_false,de m2]
    by_cases rI:0<a.bP.ct
    ·obtain⟨e,dd,q,st,q1,q2,q3,q4,q5,q6⟩:=ho a ha rI
     have iz:=(fM.1 q2).1
     have y1:s1[e]? =some (qO s2 now e dd):=by rw[e3,PL,q2];rfl
     have y2:(qO s2 now e dd).cZ[q]? =some (uz s2 now e st):=by show(dd.cZ.map _)[q]? =_;rw[sK,q3];rfl
     have n1:e<cO:=by unfold cO;omega
     have y3:f140 (qO s2 now e dd).cZ a.bO a.bW a.bX a.dr a.bP.bc a.bP.ct (e:Int)=some (q:Int):=by
      rw[<-q1,f140_eq _ a (by show(dd.cZ.map _).length<=_;rw[mA];exact q5)]
      congr 1
      refine D9 y2 (by simp[fK,q4]) λj y hy hc=>?_
      have hy:(dd.cZ.map (uz s2 now e))[j]? =some y:=hy
      rw[sK]at hy
      obtain⟨y',ND,rfl⟩:=GH.1 hy
      rw[fK]at hc
      exact q6 j y' ND (by rw[q4];simpa using hc)
     have w1:wr (now-(e:Int))=now-(e:Int):=jd (by omega) (by omega)
     have ia:=MN (K:=s2) (now:=now) q1 q2 q3 q4 q6 rI
     simp only[rI,decide_true,cond_true,q1,b9 y1,cH,de n1,y3,b9 y2,w1,nv,fK]
     refine .inl ⟨_,rfl,rfl,?_,?_,?_⟩
     ·rw[nT x1 x2,e1];simp
     ·rw[nT x1 x2,e2];simp
     ·show s1.set e _=List.mapIdx (qO (s2++[a]) now) _
      rw[<-ia,e3]
      congr 2
      simp only[uz]
      cases hb s2 e st.bc<;>rfl
    ·simp only[rI,decide_false,cond_false,cH]
     refine .inl ⟨_,rfl,rfl,?_,?_,?_⟩
     ·rw[nT x1 x2,e1];simp
     ·rw[nT x1 x2,e2];simp
     ·show s1=List.mapIdx (qO (s2++[a]) now) _
      have:qO (s2++[a]) now=qO s2 now:=by
       funext e dd
       have:uz (s2++[a]) now e=uz s2 now e:=by funext s;simp only[uz,wX,rI,decide_false,WV,Uh]
       simp only[qO,this]
      rw[this];exact e3
   ·simp only[cond_true,de m3,cH]
    refine .inl ⟨_,rfl,rfl,?_,?_,e3⟩
    ·rw[nT x1 x2,e1];simp
    ·rw[nT x1 x2,e2];simp
  ·rintro⟨s1,s2,s3,s4⟩ ⟨e0,e1,e2,e3⟩
   simp only at e0 e1 e2 e3
   subst e0
   have ht:(dN.zip c.cut).take dN.length=dN.zip c.cut:=rP (by simp;omega)
   rw[ht]at e1 e2
   simp only[kF,decide_false,cond_false]
   refine⟨_,rfl,?_⟩
   show(s1,s2,s3)=_
   rw[e3,e1,e2];rfl
  rintro _ rfl
  simp only
  refine eO (λk(s:List bF×List cT×List bF×List bF×Int)=>s.2.2.2.2=(k:Int)/\s.2.2.2.1=cq.drop k/\s.2.2.1=(sC now cq c.places).take k/\s.1=iT dN c.cut++((sC now cq c.places).take k).filter (λn=>decide (0<n.bP.bc))/\
   s.2.1=((c.places.take k).filter λp=>decide (0<p.bc)).map qj)
   (λr=>r=(((c.places.filter λp=>decide (0<p.bc)).map qj),sC now cq c.places,([]:List bF),iT dN c.cut++(sC now cq c.places).filter (λn=>decide (0<n.bP.bc)))) cq.length (by omega) ⟨rfl,rfl,by simp,by simp,by simp⟩ ?_ ?_ ?_
  ·rintro k ⟨s1,s2,s3,s4,s5⟩ hk ⟨e0,e1,e2,e3,e4⟩
   simp only at e0 e1 e2 e3 e4
   subst e0
   have x1:cq[k]? =some (cq[k]'hk):=dC _
   have x2:c.places[k]? =some (c.places[k]'(by omega)):=dC _
   generalize cq[k]'hk=b at x1
   generalize c.places[k]'(by omega)=e at x2
   have sO:(sC now cq c.places).length=cq.length:=by simp[sC,hp]
   have x3:(sC now cq c.places)[k]? =some (MO now b e):=by unfold sC;rw[sK,AO x1 x2];rfl
   have i0:ix s4 0=some b:=by
    have:s4[0]? =some b:=by rw[e1];simpa using x1
    exact b9 (i:=0) this
   have b3:s3.length=k:=by rw[e2,CS,sO];omega
   have TW:(iT dN c.cut).length<=dN.length:=by unfold iT;have:=sM (λx:bF×Bool=>!x.2) (dN.zip c.cut);simp at this |-;omega
   have b1:s1.length<=dN.length+k:=by
    rw[e3,kc]
    have:=sM (λn:bF=>decide (0<n.bP.bc)) ((sC now cq c.places).take k);have:=Nz k (sC now cq c.places);omega
   have b2:s2.length<=k:=by rw[e4];have:=sM (λp:bn=>decide (0<p.bc)) (c.places.take k);have:=Nz k c.places;simp;omega
   have n1:s3.length<cO:=by unfold cO;omega
   have n2:(0:Int)<=(k:Int)/\(k:Int)<(cq.length:Int):=by omega
   have n3:((k:Int)).toNat=s3.length/\((k:Int)).toNat<=cO:=by unfold cO;omega
   have n4:s1.length+1<=bJ:=by unfold bJ;omega
   have n5:s2.length+1<=bJ:=by unfold bJ;omega
   have NA:s4.drop 1=cq.drop (k+1):=by rw[e1,List.drop_drop]
   have c1:decide ((k:Int)<(cq.length:Int))=true:=cJ x1
   simp only[c1,cond_true,i0,cH,de n1,de n2,de n3,b9 x2,dB (l:=cq) (by simp only[bT];omega) x1]
   cases hc:decide (0<e.bc)
   ·refine .inl ⟨_,rfl,rfl,NA,?_,?_,?_⟩
    ·show s3++[_]=_
     rw[cN x3,e2]
     simp only[MO,hc,cond_false]
    ·show s1=_
     rw[cN x3,EL,e3]
     have:decide (0<(MO now b e).bP.bc)=false:=hc
     simp[List.filter,this]
    ·show s2=_
     rw[cN x2,EL,e4]
     simp[List.filter,hc]
   ·simp only[cond_true,de n4,de n5]
    refine .inl ⟨_,rfl,rfl,NA,?_,?_,?_⟩
    ·show s3++[_]=_
     rw[cN x3,e2]
     simp only[MO,hc,cond_true]
    ·show s1++[_]=_
     rw[cN x3,EL,e3]
     have:decide (0<(MO now b e).bP.bc)=true:=hc
     simp[List.filter,this]
     simp only[MO,hc,cond_true]
    ·show s2++[_]=_
     rw[cN x2,EL,e4]
     simp[List.filter,hc,qj]
  ·rintro⟨s1,s2,s3,s4,s5⟩ ⟨e0,e1,e2,e3,e4⟩
   simp only at e0 e1 e2 e3 e4
   subst e0
   have sO:(sC now cq c.places).length=cq.length:=by simp[sC,hp]
   rw[rP (by omega)]at e2 e3
   rw[rP (by omega)]at e4
   rw[List.drop_eq_nil_of_le (eu _)]at e1
   subst e1;subst e2;subst e3;subst e4
   simp only[kF,decide_false,cond_false]
   exact⟨_,rfl,rfl⟩
  rintro _ rfl
  have Pf:=sM (λp:bn=>decide (0<p.bc)) c.places
  obtain⟨u,u1,u2,u3⟩:=f165_ex ((c.places.filter λp:bn=>decide (0<p.bc)).map qj) (by simp only[bT,mA];omega) λx hx y hy GY=>by
   obtain⟨p,Sq,rfl⟩:=kb.1 hx
   obtain⟨q,Qr,rfl⟩:=kb.1 hy
   have h1:=mC.1 Sq
   have h2:=mC.1 Qr
   rw[hd p h1.1 q h2.1 (by simpa using h1.2) GY]
  simp only[u1,cH,de u2.length_eq,de rfl]
  exact⟨_,rfl,u,rfl,u2,u3⟩
 obtain⟨z,h1,u,rfl,h2⟩:=key
 exact⟨u,h1,h2⟩
end Go.Proofs.YtpbahncblggodaaGreat
set_option linter.all false
namespace Go.Proofs.YtpbahncblggodaaGreat
open Go Go.Am
set_option maxRecDepth 100000
def wm(d:cg):Bool:=d.cZ.isEmpty&&!d.tie
def sQ(d:cg)(c:Int):Bool:=d.cZ.any λs=>decide (s.bc=c)
def iD(E:List cg)(k:Nat):Nat:=((E.take k).map λd=>tk d.sign).sum
def uA(K:List bF)(F E:List cg):List cg:=E.mapIdx (qO K (E.length:Int))++F
def fA(E:List cg)(e:Nat)(s:cT):Prop:= ∃d,E[e]? =some d/\s∈d.cZ
section
variable {K:List bF} {F E:List cg} {e j c:Nat} {p:bn} {s:cT} {d:cg} {now:Int}
theorem H7:wm (qO K now e d)=wm d:=by simp[wm,qO]
theorem Ea{x:Int}:sQ (qO K now e d) x=sQ d x:=by simp only[sQ,qO,List.any_map,Function.comp_def,fK]
theorem sD:(uA K F E).length=E.length+F.length:=by simp[uA]
theorem MP(h:j<E.length):(uA K F E)[j]? =(E[j]?).map (qO K (E.length:Int) j):=by unfold uA;rw[nq (by simpa using h),PL]
theorem Eb(h:E.length<=j):(uA K F E)[j]? =F[j-E.length]?:=by unfold uA;rw[pn (by simpa using h)];simp
theorem qk(h:(uA K F E)[j]? =some d):(∃d0,j<E.length/\E[j]? =some d0/\d=qO K (E.length:Int) j d0)\/(E.length<=j/\F[j-E.length]? =some d):=by
 rcases EI j E.length with hj|hj
 ·rw[MP hj]at h
  obtain⟨d0,h1,h2⟩:=GH.1 h
  exact .inl ⟨d0,hj,h1,h2.symm⟩
 ·rw[Eb hj]at h;exact .inr ⟨hj,h⟩
theorem Qu:(E.mapIdx (qO K now)).map (λd=>tk d.sign)=E.map λd=>tk d.sign:=by
 apply Tm
 intro i
 rw[sK,PL,sK]
 cases E[i]?<;>rfl
theorem H8(k:Nat):iD E k=((E.map λd=>tk d.sign).take k).sum:=by unfold iD;rw[J9]
theorem Qv(h:c<=E.length):iD (uA K F E) c=iD E c:=by
 rw[H8,H8]
 unfold uA
 rw[CE,Qu,WJ (by simpa using h)]
theorem MQ:iD (uA K F E) (uA K F E).length=iD E E.length+(F.map λd=>tk d.sign).sum:=by
 rw[H8,H8,rP (by simp),rP (by simp)]
 unfold uA
 rw[CE,Qu,List.sum_append]
theorem mN(h:fA (uA K F E) e s):(∃s0,fA E e s0/\e<E.length/\s=uz K (E.length:Int) e s0)\/(E.length<=e/\ ∃d,F[e-E.length]? =some d/\s∈d.cZ):=by
 obtain⟨d,h1,h2⟩:=h
 rcases qk h1 with⟨d0,q1,q2,rfl⟩|⟨q1,q2⟩
 ·obtain⟨s0,h3,rfl⟩:=kb.1 h2
  exact .inl ⟨s0,⟨d0,q2,h3⟩,q1,rfl⟩
 ·exact .inr ⟨q1,d,q2,h2⟩
theorem fA.lt(h:fA E e s):e<E.length:=by obtain⟨d,h1,_⟩:=h;exact(fM.1 h1).1
theorem fA.nx(h:fA E e s):fA (uA K F E) e (uz K (E.length:Int) e s):=by
 have hl:=h.lt
 obtain⟨d,h1,h2⟩:=h
 exact⟨_,by rw[MP hl,h1];rfl,kb.2 ⟨s,h2,rfl⟩⟩
theorem Gj{x:Int}(h:hb K e x=true): ∃a∈K,0<a.bP.ct/\a.cW=(e:Int)/\a.bP.bc=x:=by
 obtain⟨a,h1,h2⟩:=w9.1 h
 simp at h2
 exact⟨a,h1,h2.1,h2.2.1,h2.2.2⟩
structure Rg (E:List cg) (e:Nat) (p:bn) (c:Nat):Prop where
 lt:e<c
 le:c<=E.length
 st: ∃s,fA E e s/\s.bc=p.bc/\s.ct=p.ct
 ho: ∀s,fA E e s->s.bc=p.bc->0<p.ct-> ∀(j:Nat)d,(e:Int)+s.hold<(j:Int)->j<c->E[j]? =some d->d.tie=true
 on: ∀(j:Nat)d,e<j->j<c->E[j]? =some d->wm d=false/\sQ d p.bc=false
structure Nd (E:List cg) (e:Nat) (p:bn) (c:Nat):Prop where
 rg:Rg E e p c
 en: ∃d,E[c]? =some d/\(0<p.ct->d.tie=false/\ ∀s,fA E e s->s.bc=p.bc->(e:Int)+s.hold<(c:Int))/\(¬0<p.ct->sQ d p.bc=true)
theorem SF(h: ∀(j:Nat)d,e<j->j<c->E[j]? =some d->wm d=false/\sQ d p.bc=false)(hc:c<=E.length): ∀(j:Nat)d,e<j->j<c->(uA K F E)[j]? =some d->wm d=false/\sQ d p.bc=false:=λj d h1 h2 hd=>by
 rcases qk hd with⟨d0,q1,q2,rfl⟩|⟨q1,q2⟩
 ·rw[H7,Ea];exact h j d0 h1 h2 q2
 ·omega
theorem Rg.keep(h:Rg E e p c):Rg (uA K F E) e p c:=by
 have h1:=h.lt
 have h2:=h.le
 obtain⟨s,h3,h4,h5⟩:=h.st
 refine⟨h1,by rw[sD];omega,⟨_,h3.nx,by rw[fK];exact h4,by rw[uh];exact h5⟩,λs' hs hc hf j d hj hjc hd=>?_,SF h.on h2⟩
 rcases mN hs with⟨s0,q1,q2,rfl⟩|⟨q1,_⟩
 ·rw[fK]at hc
  rcases qk hd with⟨d0,r1,r2,rfl⟩|⟨r1,_⟩
  ·refine h.ho s0 q1 hc hf j d0 ?_ hjc r2
   unfold uz at hj
   cases hq:hb K e s0.bc<;>rw[hq]at hj
   ·exact hj
   ·simp only[cond_true]at hj;omega
  ·omega
 ·omega
theorem Nd.keep(h:Nd E e p c)(hK: ∀a∈K,0<a.bP.ct-> ∀e:Nat,a.cW=(e:Int)->Rg E e a.bP E.length):Nd (uA K F E) e p c:=by
 refine⟨h.rg.keep,?_⟩
 obtain⟨d,h1,h2,h3⟩:=h.en
 have hl:=(fM.1 h1).1
 refine⟨qO K (E.length:Int) c d,by rw[MP hl,h1];rfl,λhf=>⟨(h2 hf).1,λs hs hc=>?_⟩,λhf=>by rw[Ea];exact h3 hf⟩
 rcases mN hs with⟨s0,q1,q2,rfl⟩|⟨q1,_⟩
 ·rw[fK]at hc
  have h4:=(h2 hf).2 s0 q1 hc
  unfold uz
  cases hq:hb K e s0.bc
  ·exact h4
  ·obtain⟨a,a1,a2,a3,a4⟩:=Gj hq
   have:=(hK a a1 a2 e a3).ho s0 q1 a4.symm a2 c d h4 hl h1
   rw[(h2 hf).1]at this;cases this
 ·have:=h.rg.lt;omega
theorem Rg.cV(h:Rg E e p E.length)(hF: ∀d∈F,wm d=false/\sQ d p.bc=false)(ht:0<p.ct->(∀d∈F,d.tie=true)\/(hb K e p.bc=true/\ ∀(j:Nat)d,0<j->F[j]? =some d->d.tie=true)):Rg (uA K F E) e p (uA K F E).length:=by
 have h1:=h.lt
 obtain⟨s,h3,h4,h5⟩:=h.st
 refine⟨by rw[sD];omega,eu _,⟨_,h3.nx,by rw[fK];exact h4,by rw[uh];exact h5⟩,λs' hs hc hf j d hj _ hd=>?_,λj d hj _ hd=>?_⟩
 ·rcases mN hs with⟨s0,q1,q2,rfl⟩|⟨q1,_⟩
  ·rw[fK]at hc
   rcases qk hd with⟨d0,r1,r2,rfl⟩|⟨r1,r2⟩
   ·refine h.ho s0 q1 hc hf j d0 ?_ r1 r2
    unfold uz at hj
    cases hq:hb K e s0.bc<;>rw[hq]at hj
    ·exact hj
    ·simp only[cond_true]at hj;omega
   ·rcases ht hf with ht|⟨t1,t2⟩
    ·exact ht d (gx r2)
    ·unfold uz at hj
     rw[hc,t1]at hj
     simp only[cond_true]at hj
     exact t2 _ d (by omega) r2
  ·omega
 ·rcases qk hd with⟨d0,q1,q2,rfl⟩|⟨q1,q2⟩
  ·rw[H7,Ea];exact h.on j d0 hj q1 q2
  ·exact hF d (gx q2)
theorem Rg.new{d0:cg}{s0:cT}(h0:F[0]? =some d0)(hs:s0∈d0.cZ)(hc:s0.bc=p.bc)(hf:s0.ct=p.ct)(ht: ∀(j:Nat)d,0<j->F[j]? =some d->d.tie=true/\d.cZ=[])(hh: ∀s∈d0.cZ,s.hold=0):
  Rg (uA K F E) E.length p (uA K F E).length:=by
 have hl:=(fM.1 h0).1
 refine⟨by rw[sD];omega,eu _,⟨s0,⟨d0,by rw[Eb (eu _),PI];exact h0,hs⟩,hc,hf⟩,λs hs _ _ j d hj _ hd=>?_,λj d hj _ hd=>?_⟩
 ·rcases mN hs with⟨s1,q1,q2,rfl⟩|⟨_,d1,q2,q3⟩
  ·omega
  ·rw[PI,h0]at q2;cases q2
   have:=hh s q3
   rw[Eb (by omega)]at hd
   exact(ht _ d (by omega) hd).1
 ·rw[Eb (by omega)]at hd
  obtain⟨t1,t2⟩:=ht _ d (by omega) hd
  exact⟨by simp[wm,t1],by simp[sQ,t2]⟩
theorem Nd.new{d0:cg}(h:Rg E e p E.length)(hh: ∀s,fA E e s->(e:Int)+s.hold<(E.length:Int))(hK:0<p.ct->hb K e p.bc=false)(h0:F[0]? =some d0)(ht:d0.tie=false)(hp: ¬0<p.ct->sQ d0 p.bc=true):Nd (uA K F E) e p E.length:=by
 refine⟨h.keep,d0,by rw[Eb (eu _),PI];exact h0,λhf=>⟨ht,λs hs hc=>?_⟩,hp⟩
 rcases mN hs with⟨s0,q1,q2,rfl⟩|⟨q1,_⟩
 ·rw[fK]at hc
  unfold uz
  rw[hc,hK hf]
  exact hh s0 q1
 ·have:=h.lt;omega
theorem Rg.nd(h:Rg E e p E.length)(hn:Nd E e p c):False:=by
 obtain⟨d,h1,h2,h3⟩:=hn.en
 have hl:=(fM.1 h1).1
 by_cases hf:0<p.ct
 ·obtain⟨s,s1,s2,s3⟩:=h.st
  obtain⟨t1,t2⟩:=h2 hf
  rw[h.ho s s1 s2 hf c d (t2 s s1 s2) hl h1]at t1;cases t1
 ·have:=(h.on c d hn.rg.lt hl h1).2
  rw[h3 hf]at this;cases this
structure Z1 (a:bK) (E:List cg) (e:Nat) (s:cT):Prop where
 rg:s.right=0/\s.jx=0
 pl: ∃q,(⟨s.bc,s.ct⟩:bn)∈(eD a q).1
 h0:0<=s.hold
 hl:0<s.hold->0<s.ct/\s.hold<=15/\(e:Int)+s.hold<(E.length:Int)
 on: ∀(j:Nat)d,e<j->(j:Int)<=(e:Int)+s.hold->E[j]? =some d->wm d=false/\sQ d s.bc=false
structure Ev1 (n:Nat) (d:cg):Prop where
 k8:d.k8=false
 sg:d.sign∈gv
 tie:d.tie=true->d.cZ=[]/\n≠0
 qf:d.cZ.Pairwise λx y=>x.bc<y.bc
structure kC (a:bK) (E:List cg):Prop where
 ev: ∀(e:Nat)d,E[e]? =some d->Ev1 e d
 st: ∀(e:Nat)s,fA E e s->Z1 a E e s
theorem kC.hold{a:bK}(h:kC a E)(hs:fA E e s):(e:Int)+s.hold<(E.length:Int):=by
 have h1:=h.st e s hs
 have h2:=hs.lt
 have h0:=h1.h0
 by_cases hq:0<s.hold
 ·exact(h1.hl hq).2.2
 ·omega
theorem kC.one{a:bK}(h:kC a E){s s':cT}(h1:fA E e s)(h2:fA E e s')(hc:s.bc=s'.bc):s=s':=by
 obtain⟨d,d1,d2⟩:=h1
 obtain⟨d',d3,d4⟩:=h2
 rw[d1]at d3;cases d3
 have hp:=(h.ev e d d1).qf
 obtain⟨i,hi,rfl⟩:=pA d2
 obtain⟨k,hk,rfl⟩:=pA d4
 rw[EN]at hp
 rcases JR i k with q|q|q
 ·have:=hp i k hi hk q;omega
 ·subst q;rfl
 ·have:=hp k i hk hi q;omega
theorem kC.nx{a:bK}(h:kC a E)(hK: ∀x∈K,0<x.bP.ct-> ∀e:Nat,x.cW=(e:Int)->Rg E e x.bP E.length/\(E.length:Int)-e<=15)
  (hF: ∀(j:Nat)d,F[j]? =some d->Ev1 (E.length+j) d/\ ∀s∈d.cZ,s.right=0/\s.jx=0/\s.hold=0/\ ∃q,(⟨s.bc,s.ct⟩:bn)∈(eD a q).1)
  (h0:F≠[]) (hK': ∀x∈K,∀d,F[0]? =some d->wm d=false/\sQ d x.bP.bc=false):kC a (uA K F E):=by
 have hFl:=QU.2 h0
 refine⟨λe d hd=>?_,λe s hs=>?_⟩
 ·rcases qk hd with⟨d0,q1,q2,rfl⟩|⟨q1,q2⟩
  ·have:=h.ev e d0 q2
   refine⟨this.k8,this.sg,λht=>?_,?_⟩
   ·have:=this.tie ht
    exact⟨by simp[qO,this.1],this.2⟩
   ·show(d0.cZ.map _).Pairwise _
    rw[GJ]
    simp only[fK]
    exact this.qf
  ·have:=(hF _ d q2).1
   rwa[show E.length+(e-E.length)=e by omega]at this
 ·rcases mN hs with⟨s0,q1,q2,rfl⟩|⟨q1,d,q2,q3⟩
  ·have Pq:=h.st e s0 q1
   unfold uz
   cases hq:hb K e s0.bc
   ·refine⟨Pq.rg,Pq.pl,Pq.h0,λhp=>?_,λj d hj SG hd=>?_⟩
    ·have:=Pq.hl hp
     exact⟨this.1,this.2.1,by rw[sD];have:=this.2.2;show(e:Int)+s0.hold<_;omega⟩
    ·have SG:(j:Int)<=(e:Int)+s0.hold:=SG
     have:=h.hold q1
     rcases qk hd with⟨d0,r1,r2,rfl⟩|⟨r1,r2⟩
     ·rw[H7,Ea];exact Pq.on j d0 hj SG r2
     ·omega
   ·obtain⟨x,x1,x2,x3,x4⟩:=Gj hq
    obtain⟨r1,r2⟩:=hK x x1 x2 e x3
    obtain⟨s1,s2,s3,s4⟩:=r1.st
    have Z2:=h.one q1 s2 (by rw[s3,x4])
    refine⟨Pq.rg,Pq.pl,by simp only[cond_true];omega,λhp=>⟨?_,r2,?_⟩,λj d hj SG hd=>?_⟩
    ·show 0<s0.ct
     rw[Z2,s4];exact x2
    ·rw[sD];simp only[cond_true];omega
    ·have SG:(j:Int)<=(e:Int)+((E.length:Int)-e):=SG
     show wm d=false/\sQ d s0.bc=false
     rcases qk hd with⟨d0,y1,y2,rfl⟩|⟨y1,y2⟩
     ·rw[H7,Ea,<-x4];exact r1.on j d0 hj y1 y2
     ·rw[show j-E.length=0 by omega]at y2
      rw[<-x4];exact hK' x x1 d y2
  ·obtain⟨f1,f2,f3,f4⟩:=(hF _ d q2).2 s q3
   refine⟨⟨f1,f2⟩,f4,by omega,λhp=>by omega,λj d hj SG _=>by omega⟩
end
theorem Ci{E:List cg}{e:Nat}{d:cg}(h:E[e]? =some d):iD E (e+1)=iD E e+tk d.sign:=by
 unfold iD
 rw[cN h];simp
theorem rN{a:bK}{E:List cg}(h:kC a E): ∀{k e:Nat},e<k->k<=E.length->iD E e<iD E k
 |0,e,h1,_=>by omega
 |k+1,e,h1,h2=>by
  have e1:E[k]? =some (E[k]'(by omega)):=dC _
  have h3:=Ci e1
  have h4:=(js _ (h.ev k _ e1).sg).2.1
  rcases EI e k with q|q
  ·have:=rN h q (by omega);omega
  ·have:e=k:=by omega
   subst this;omega
theorem MR{a:bK}{E:List cg}(h:kC a E){e k:Nat}(h1:e<=E.length)(h2:k<=E.length)(he:iD E e=iD E k):e=k:=by
 rcases JR e k with q|q|q
 ·have:=rN h q h2;omega
 ·exact q
 ·have:=rN h q h1;omega
end Go.Proofs.YtpbahncblggodaaGreat
set_option linter.all false
namespace Go.Proofs.YtpbahncblggodaaGreat
open Go Go.Am
set_option maxRecDepth 100000
def dO(P:List (List bV))(i k:Nat):Option bV:=P[i]?.bind λp=>p[k]?
structure zS (P:List (List bV)) (t:Int) (i k:Nat) (n:bF):Prop where
 pl:n.bP=⟨0,0⟩
 ne:n.bO≠[]
 me: ∀m∈n.bO,∃(i' k':Nat)(x:bV),m=⟨(i':Int),(k':Int)⟩/\(i'<i\/i'=i/\k'<k)/\dO P i' k'=some x/\x.bX=t/\x.bW=n.bW/\x.dr<=n.dr
 qf:n.bO.Pairwise λa b=>a.part<b.part
structure Cj (P:List (List bV)) (t:Int) (i k:Nat) (l:List bF):Prop where
 no: ∀n∈l,zS P t i k n
 al: ∀(i' k':Nat)x,(i'<i\/i'=i/\k'<k)->dO P i' k'=some x->x.bX=t-> ∃n∈l,(⟨(i':Int),(k':Int)⟩:b8)∈n.bO
 pi:(l.map bF.bW).Nodup
 le:l.length<=i\/l.length<=i+1/\ ∃(k':Nat)(x:bV),k'<k/\dO P i k'=some x/\x.bX=t
def Gk(P:List (List bV)):Prop:= ∀(i k k':Nat)x x',dO P i k=some x->dO P i k'=some x'->x.bX=x'.bX->k=k'
theorem Gl{α:Type}{l:List α}{j:Nat}{n n' x:α}(h:l[j]? =some n)(hx:x∈l):x=n\/x∈l.set j n':=by
 obtain⟨i,hi,rfl⟩:=pA hx
 by_cases pz:j=i
 ·subst pz
  rw[dC hi]at h
  exact .inl (Option.some.inj h)
 ·refine .inr (List.mem_iff_getElem?.2 ⟨i,?_⟩)
  rw[EM pz,dC hi]
theorem ui{α β:Type}{f:α->β}{l:List α}{j:Nat}{n n':α}(h:l[j]? =some n)(hf:f n'=f n):(l.set j n').map f=l.map f:=by
 apply Tm
 intro i
 rw[sK,sK]
 by_cases pz:j=i
 ·subst pz
  rw[GI (fM.1 h).1,h];simp[hf]
 ·rw[EM pz]
theorem Ck{a b:Int}:a<=kw a b/\b<=kw a b:=by unfold kw;split<;>omega
section
variable {P:List (List bV)} {t:Int} {i k:Nat} {l:List bF} {n:bF} {x:bV}
theorem zS.mono{i' k':Nat}(h:zS P t i k n)(hm:i<i'\/i=i'/\k<=k'):zS P t i' k' n:=⟨h.pl,h.ne,λm q=>by
 obtain⟨a,b,x,e1,e2,e3⟩:=h.me m q
 exact⟨a,b,x,e1,by omega,e3⟩,h.qf⟩
theorem zS.add(h:zS P t i k n)(hx:dO P i k=some x)(ht:x.bX=t)(hp:n.bW=x.bW)(h1:Gk P):zS P t i (k+1) (sA (i:Int) (k:Int) x n):=by
 refine⟨h.pl,by simp[sA],λm hm=>?_,?_⟩
 ·rcases la.1 hm with hm|hm
  ·obtain⟨a,b,y,e1,e2,e3,e4,e5,e6⟩:=h.me m hm
   exact⟨a,b,y,e1,by omega,e3,e4,e5,by have:=(Ck (a:=n.dr) (b:=x.dr)).1;show y.dr<=kw n.dr x.dr;omega⟩
  ·simp at hm;subst hm
   exact⟨i,k,x,rfl,.inr ⟨rfl,Td k⟩,hx,ht,hp.symm,Ck.2⟩
 ·show(n.bO++[_]).Pairwise _
  rw[WW]
  refine⟨h.qf,by simp,λm hm m' nr=>?_⟩
  simp at nr;subst nr
  obtain⟨a,b,y,e1,e2,e3,e4,_⟩:=h.me m hm
  subst e1
  show(a:Int)<(i:Int)
  rcases e2 with e2|⟨rfl,e2⟩
  ·omega
  ·have:=h1 a b k y x e3 hx (by rw[e4,ht]);omega
theorem MS(h:Cj P t i k l)(h1:Gk P)(hx:dO P i k=some x):Cj P t i (k+1) (D6 t (i:Int) (k:Int) l x):=by
 have pD: ∀n∈l,zS P t i (k+1) n:=λn hn=>(h.no n hn).mono (.inr ⟨rfl,by omega⟩)
 unfold D6
 by_cases ht:x.bX=t
 ·rw[if_pos ht]
  have ep:l.length<=i:=by
   rcases h.le with q|⟨_,k',y,q1,q2,q3⟩
   ·exact q
   ·have:=h1 i k' k y x q2 hx (by rw[q3,ht]);omega
  have Fu: ∀(m:Nat),m<=l.length+1->m<=i\/m<=i+1/\ ∃(k':Nat)(x:bV),k'<k+1/\dO P i k'=some x/\x.bX=t:=λm hm=>.inr ⟨by omega,k,x,by omega,hx,ht⟩
  cases hq:l.findIdx? (rM x)with
  |some j=>
   obtain⟨hj,hp,_⟩:=Ui.1 hq
   have e1:l[j]? =some l[j]:=dC hj
   generalize l[j]=n at e1 hp
   have hn:=gx e1
   have hp:n.bW=x.bW:=by simpa[rM]using hp
   simp only[e1]
   refine⟨λm hm=>?_,λa b y Ja hy Qw=>?_,?_,Fu _ (by simp)⟩
   ·rcases WH hm with hm|rfl
    ·exact pD m hm
    ·exact(h.no n hn).add hx ht hp h1
   ·by_cases hc:a=i/\b=k
    ·obtain⟨rfl,rfl⟩:=hc
     exact⟨_,List.mem_set hj _,by simp[sA]⟩
    ·obtain⟨m,m1,m2⟩:=h.al a b y (by omega) hy Qw
     rcases Gl (n':=sA (i:Int) (k:Int) x n) e1 m1 with rfl|m1
     ·exact⟨_,List.mem_set hj _,by simp[sA,m2]⟩
     ·exact⟨m,m1,m2⟩
   ·rw[ui (n':=sA (i:Int) (k:Int) x n) e1 rfl];exact h.pi
  |none=>
   have rh:=WS.1 hq
   refine⟨λm hm=>?_,λa b y Ja hy Qw=>?_,?_,Fu _ (by simp)⟩
   ·rcases la.1 hm with hm|hm
    ·exact pD m hm
    ·simp at hm;subst hm
     refine⟨rfl,by simp[sA],λm hm=>?_,by simp[sA]⟩
     simp[sA]at hm;subst hm
     exact⟨i,k,x,rfl,.inr ⟨rfl,Td k⟩,hx,ht,rfl,Ck.2⟩
   ·by_cases hc:a=i/\b=k
    ·obtain⟨rfl,rfl⟩:=hc
     exact⟨_,EK _ (QL.2 rfl),by simp[sA]⟩
    ·obtain⟨m,m1,m2⟩:=h.al a b y (by omega) hy Qw
     exact⟨m,CF _ m1,m2⟩
   ·rw[CE,List.nodup_append]
    refine⟨h.pi,by simp,λa ha b hb=>?_⟩
    simp[sA]at hb
    obtain⟨m,m1,rfl⟩:=kb.1 ha
    have:=rh m m1
    simp[rM]at this
    rw[hb];exact this
 ·rw[if_neg ht]
  refine⟨pD,λa b y Ja hy Qw=>?_,h.pi,?_⟩
  ·by_cases hc:a=i/\b=k
   ·obtain⟨rfl,rfl⟩:=hc
    rw[hx]at hy;cases hy
    exact absurd Qw ht
   ·exact h.al a b y (by omega) hy Qw
  ·rcases h.le with q|⟨q,k',y,q1,q2⟩
   ·exact .inl q
   ·exact .inr ⟨q,k',y,by omega,q2⟩
theorem yE(h1:Gk P): ∀(r:List bV)(k:Nat)(l:List bF),Cj P t i k l->(∀j:Nat,r[j]? =dO P i (k+j))->Cj P t i (k+r.length) (nk t (i:Int) k r l)
 | [],k,l,h,_=>h
 |x::r,k,l,h,hr=>by
  have:=yE h1 r (k+1) _ (MS h h1 (x:=x) (by have:=hr 0;simpa using this.symm)) λj=>by have:=hr (j+1);rw[show k+1+j=k+(j+1)by omega,<-this];simp
  rw[oc,show k+(r.length+1)=k+1+r.length by omega]
  exact this
theorem yF(h1:Gk P): ∀(r:List (List bV))(i:Nat)(l:List bF),Cj P t i 0 l->(∀j:Nat,r[j]? =P[i+j]?)->Cj P t (i+r.length) 0 (qi t i r l)
 | [],i,l,h,_=>h
 |p::r,i,l,h,hr=>by
  have hp:P[i]? =some p:=by have:=hr 0;simpa using this.symm
  have h2:=yE h1 p 0 l h λj=>by simp[dO,hp]
  have h3:Cj P t (i+1) 0 (nk t (i:Int) 0 p l):=by
   refine⟨λn hn=>(h2.no n hn).mono (.inl (by omega)),λa b y Ja hy Qw=>h2.al a b y ?_ hy Qw,h2.pi,?_⟩
   ·rcases EI a i with q|q
    ·exact .inl q
    ·have:a=i:=by omega
     subst this
     simp only[dO,hp,cH]at hy
     have:=(fM.1 hy).1
     exact .inr ⟨rfl,by omega⟩
   ·rcases h2.le with q|⟨q,_⟩
    ·exact .inl (by omega)
    ·exact .inl q
  have:=yF h1 r (i+1) _ h3 λj=>by have:=hr (j+1);rw[show i+1+j=i+(j+1)by omega,<-this];simp
  rw[oc,show i+(r.length+1)=i+1+r.length by omega]
  exact this
end
theorem MT{P:List (List bV)}(t:Int)(h1:Gk P):Cj P t P.length 0 (qi t 0 P []):=by
 have:=yF (P:=P) (t:=t) h1 P 0 [] ⟨by simp,λa b y Ja=>by omega,by simp,.inl (by simp)⟩ λj=>by simp
 simpa using this
theorem wY{n:Int}: ∀{l:List Int}{lo:Int},l.Pairwise (· < ·)->(∀x∈l,lo<=x/\x<n)->lo<=n->(l.length:Int)<=n-lo
 | [],lo,_,_,h=>by simp;omega
 |x::r,lo,hp,hx,h=>by
  rw[CG]at hp
  have N8:=hx x (by simp)
  have:=wY (n:=n) (lo:=x+1) hp.2 (λy hy=>by have:=hp.1 y hy;have:=hx y (by simp[hy]);omega) (by omega)
  simp only[oc];omega
theorem zS.len{P:List (List bV)}{t:Int}{n:bF}(h:zS P t P.length 0 n):n.bO.length<=P.length:=by
 have:=wY (n:=(P.length:Int)) (l:=n.bO.map b8.part) (lo:=0) (by rw[GJ];exact h.qf) (λx hx=>by
  obtain⟨m,hm,rfl⟩:=kb.1 hx
  obtain⟨a,b,y,rfl,e2,_⟩:=h.me m hm
  show 0<=(a:Int)/\(a:Int)<_
  omega) (by omega)
 simp at this;omega
theorem Pr{P:List (List bV)}(h: ∀p∈P,CN 0 p=true):Gk P:=λi k k' x x' h1 h2 he=>by
 unfold dO at h1 h2
 cases hp:P[i]? with
 |none=>rw[hp]at h1;simp at h1
 |some p=>
  rw[hp]at h1 h2
  simp only[cH]at h1 h2
  obtain⟨q1,q2⟩:=Cc p 0 (h p (gx hp))
  rcases JR k k' with c|c|c
  ·have:=q2 k k' x x' c h1 h2;have:=q1 k x h1;omega
  ·exact c
  ·have:=q2 k' k x' x c h2 h1;have:=q1 k' x' h2;omega
end Go.Proofs.YtpbahncblggodaaGreat
set_option linter.all false
namespace Go.Proofs.YtpbahncblggodaaGreat
open Go Go.Am
set_option maxRecDepth 100000
theorem jY{α β:Type}{f:α->List β}{b:Nat}: ∀{l:List α},(∀x∈l,(f x).length<=b)->(l.flatMap f).length<=l.length*b
 | [],_=>by simp
 |x::l,h=>by
  have h1:=h x (by simp)
  have h2:=jY (l:=l) λy hy=>h y (by simp[hy])
  simp only[E5,kc,oc,uw,Nat.one_mul]
  omega
theorem uj(a:bK)(s:Int): ∀(ns:List bF)(bs:List Bool)(pre:List bn),(ways a s ns bs pre).length<=14^ns.length
 |n::ns,b::bs,pre=>by
  unfold ways
  have hp:14^(n::ns).length=14*14^ns.length:=by rw[oc,Nat.pow_succ,QO]
  rw[hp]
  cases b
  ·cases decide ((eD a (wr (n.bW+s))).2≠0)
   ·have h1:=jY (l:=(eD a (wr (n.bW+s))).1.filter λp=>!(pre.any (lq p.bc))) (f:=λp=>ways a s ns bs (pre++[p])) (b:=14^ns.length) λp _=>uj a s ns bs _
    have h2:=sM (λp:bn=>!(pre.any (lq p.bc))) (eD a (wr (n.bW+s))).1
    have h3:=Gb a (wr (n.bW+s))
    have h4:=zp (14^ns.length) (vS h2 h3)
    simp only[cond_false]
    omega
   ·simp
  ·simp only[cond_true]
   have:=uj a s ns bs (pre++[⟨0,0⟩])
   omega
 | [],_,pre=>by simp[ways]
 |_::ns,[],pre=>by
  have:0<14^(ns.length+1):=Nat.pow_pos (by omega)
  simp[ways];omega
def Z3(a:bK)(s:Int)(n:bF)(b:Bool)(p:bn):Prop:=(b=true/\p=⟨0,0⟩)\/(b=false/\p∈(eD a (wr (n.bW+s))).1)
theorem Cm(a:bK)(s:Int): ∀(ns:List bF)(bs:List Bool)(pre pl:List bn),bs.length=ns.length->pl∈ways a s ns bs pre->
  ∃q,pl=pre++q/\q.length=ns.length/\(∀(j:Nat)n b p,ns[j]? =some n->bs[j]? =some b->q[j]? =some p->Z3 a s n b p)/\(∀p∈q,0<p.bc-> ∀p'∈pre,p'.bc≠p.bc)/\q.Pairwise λx y=>0<y.bc->x.bc≠y.bc
 | [],bs,pre,pl,hl,h=>by
  simp[ways]at h
  exact⟨[],by simp[h],rfl,by simp,by simp,by simp⟩
 |n::ns,[],pre,pl,hl,h=>by simp at hl
 |n::ns,b::bs,pre,pl,hl,h=>by
  have key: ∃p,Z3 a s n b p/\(0<p.bc-> ∀p'∈pre,p'.bc≠p.bc)/\pl∈ways a s ns bs (pre++[p]):=by
   unfold ways at h
   cases b
   ·simp only[cond_false]at h
    cases hd:decide ((eD a (wr (n.bW+s))).2≠0)
    ·rw[hd]at h
     simp only[cond_false,sL,mC]at h
     obtain⟨p,⟨h1,h2⟩,h3⟩:=h
     refine⟨p,.inr ⟨rfl,h1⟩,λ_ p' CI he=>?_,h3⟩
     simp[lq]at h2
     exact h2 p' CI he
    ·rw[hd]at h;simp at h
   ·simp only[cond_true]at h
    exact⟨⟨0,0⟩,.inl ⟨rfl,rfl⟩,λh=>by simp at h,h⟩
  obtain⟨p,k1,k2,k3⟩:=key
  obtain⟨q,q1,q2,q3,q4,q5⟩:=Cm a s ns bs _ pl (by simpa using hl) k3
  refine⟨p::q,by simp[q1],by simp[q2],λj n' b' p' h1 h2 h3=>?_,λp' CI h0 p'' V6=>?_,?_⟩
  ·cases j with
   |zero=>simp at h1 h2 h3;subst h1;subst h2;subst h3;exact k1
   |succ j=>exact q3 j n' b' p' (by simpa using h1) (by simpa using h2) (by simpa using h3)
  ·rcases mB.1 CI with rfl|CI
   ·exact k2 h0 p'' V6
   ·exact q4 p' CI h0 p'' (CF _ V6)
  ·rw[CG]
   exact⟨λy hy h0=>q4 y hy h0 p (by simp),q5⟩
structure Gm (a:bK) (s:Int) (cq:List bF) (pl:List bn):Prop where
 len:pl.length=cq.length
 ok: ∀(j:Nat)n p,cq[j]? =some n->pl[j]? =some p->p=⟨0,0⟩\/p∈(eD a (wr (n.bW+s))).1
 Z4:pl.Pairwise λx y=>0<y.bc->x.bc≠y.bc
theorem Gm.one{a:bK}{s:Int}{cq:List bF}{pl:List bn}(h:Gm a s cq pl){i j:Nat}{x y:bn}(hi:pl[i]? =some x)(hj:pl[j]? =some y)(h0:0<x.bc)(he:x.bc=y.bc):i=j:=by
 have hp:=h.Z4
 rw[EN]at hp
 obtain⟨i1,i2⟩:=fM.1 hi
 obtain⟨j1,j2⟩:=fM.1 hj
 rcases JR i j with c|c|c
 ·exact absurd (by rw[i2,j2];exact he) (hp i j i1 j1 c (by rw[j2];omega))
 ·exact c
 ·exact absurd (by rw[i2,j2];exact he.symm) (hp j i j1 i1 c (by rw[i2];omega))
theorem Gm.get{a:bK}{s:Int}{cq:List bF}{pl:List bn}(h:Gm a s cq pl){p:bn}(hp:p∈pl): ∃(j:Nat)(n:bF),cq[j]? =some n/\pl[j]? =some p/\(p=⟨0,0⟩\/p∈(eD a (wr (n.bW+s))).1):=by
 obtain⟨j,hj,rfl⟩:=pA hp
 have e1:pl[j]? =some pl[j]:=dC hj
 have e2:cq[j]? =some (cq[j]'(by rw[<-h.len];exact hj)):=dC _
 exact⟨j,_,e2,e1,h.ok j _ _ e2 e1⟩
structure yG (d:cM):Prop where
 dh:D4 d
 rc:ga d.dw
theorem Ps{d:cM}(h:ga d.dw)(tie:Bool):ga (qg d tie):=by
 unfold qg
 cases tie
 ·exact yx
 ·refine⟨h.da,h.dc,λi a b h1 h2=>?_,h.oa,λx hx=>?_,h.oo⟩
  ·simp only[if_true]at h1 h2
   rw[sK]at h1 h2
   obtain⟨p,e1,rfl⟩:=GH.1 h1
   obtain⟨q,e2,rfl⟩:=GH.1 h2
   exact h.da i p q e1 e2
  ·simp only[if_true]at hx |-
   obtain⟨p,e1,rfl⟩:=kb.1 hx
   exact w9.2 ⟨p,e1,by simp[lq]⟩
def lN(tie:Bool)(s:cI):cg:=⟨false,s,tie,[]⟩
theorem MU(d:cM)(hd:yG d)(cV:List bF)(S:List cI)(tie:Bool)(hS:d.bM.bG.length+S.length<=4000):
  ∃r,bY (σ:=(List bn×List Int×List Int×List cg×List cp×Int)) (τ:=(List bn×List Int×List Int×List cg×List cp)) (λ((H9,Ia,Ib,yH,Ec,MV):(List bn×List Int×List Int×List cg×List cp×Int))=>bif (decide (MV<(S.length:Int)))then((ix S MV).bind λy6=>(f99 (⟨(⟨H9,Ia,Ib⟩:bR),d.ka,d.h,d.shift,(⟨d.bM.instrument,yH⟩:dL),cV,Ec⟩:cM) y6 tie).bind λr7=>some (.inl (r7.1,r7.2.1,r7.2.2.1,r7.2.2.2.1,r7.2.2.2.2,(wr (MV+1)))))else(some (.inr (H9,Ia,Ib,yH,Ec)))) cy (d.dw.cD,d.dw.held,d.dw.db,d.bM.bG,d.eY,0)=some r/\
   (r.2.2.2.1=d.bM.bG++S.map (lN tie)/\yG ⟨⟨r.1,r.2.1,r.2.2.1⟩,d.ka,d.h,d.shift,⟨d.bM.instrument,r.2.2.2.1⟩,cV,r.2.2.2.2⟩):=by
 have hs:bT S:=by simp only[bT];omega
 refine jJ (λk(s:List bn×List Int×List Int×List cg×List cp×Int)=>s.2.2.2.2.2=(k:Int)/\s.2.2.2.1=d.bM.bG++(S.take k).map (lN tie)/\yG ⟨⟨s.1,s.2.1,s.2.2.1⟩,d.ka,d.h,d.shift,⟨d.bM.instrument,s.2.2.2.1⟩,cV,s.2.2.2.2.1⟩) _ S.length hs ⟨rfl,by simp,?_⟩ ?_ ?_
 ·exact⟨⟨hd.dh.hh,hd.dh.h0,hd.dh.ch,hd.dh.po,hd.dh.pf⟩,hd.rc⟩
 ·rintro k ⟨s1,s2,s3,s4,s5,s6⟩ hk ⟨e0,e1,hd⟩
  simp only at e0 e1 hd
  subst e0
  have x1:S[k]? =some (S[k]'hk):=dC _
  generalize S[k]'hk=y at x1
  have hl:s4.length<cO:=by rw[e1];have:=Nz k S;simp;unfold cO;omega
  obtain⟨g,h1,h2⟩:=f99_ex _ hd.dh y tie hl
  have hR:=Ps hd.rc tie
  have SH:=vK _ hd.dh.ch tie
  obtain⟨l',q1,g1,g2,_⟩:=f161_ex _ hd.dh _ SH
  rw[h1]at q1;cases q1
  simp only[cJ x1,cond_true,b9 x1,cH,dB hs x1,h2]
  refine .inl ⟨_,rfl,rfl,?_,⟨⟨hd.dh.hh,hd.dh.h0,SH,g1,λk hk=>?_⟩,hR⟩⟩
  ·show s4++[_]=_
   rw[cN x1,e1];simp[lN]
  ·have h3:=(g2 k hk).len
   have h4:=SH.d
   show k.dg.length<=_
   rw[h3];exact h4
 ·rintro⟨s1,s2,s3,s4,s5,s6⟩ ⟨e0,e1,hd⟩
  simp only at e0 e1 hd
  subst e0
  simp only[kF,decide_false,cond_false]
  rw[Bb]at e1
  exact⟨_,rfl,e1,hd⟩
theorem Ed{a:bK}{s e:Int}{B U:List bF}{pl:List bn}{cut:List Bool}(NS: ∀x∈U,∀y∈U,x.bP.bc=y.bP.bc->x=y)(hk:Gm a s B pl)(ht:(U.zip cut).all (kU e pl)=true):
  ∀x∈nR ⟨pl,cut⟩ U,∀y∈nR ⟨pl,cut⟩ U,x.bc=y.bc->x=y:=λx hx y hy he=>by
 have kp: ∀n∈mM U cut,n∈U/\ ∀p∈pl,n.bP.bc≠p.bc:=λn hn=>by
  obtain⟨⟨n',b⟩,h1,rfl⟩:=kb.1 hn
  obtain⟨h2,h3⟩:=mC.1 h1
  refine⟨(List.of_mem_zip h2).1,λp hp he=>?_⟩
  have zg:=py.1 ht _ h2
  simp only[lK,eW,pC]at h3
  have F6:pl.any (lq n'.bP.bc)=true:=w9.2 ⟨p,hp,by simp only[lq,decide_eq_true_eq];exact he.symm⟩
  have h31:b=false:=h3.1
  simp[kU,h31,F6]at zg
 rcases la.1 hx with hx|hx<;>rcases la.1 hy with hy|hy
 ·obtain⟨n,n1,rfl⟩:=kb.1 hx
  obtain⟨m,m1,rfl⟩:=kb.1 hy
  rw[NS n (kp n n1).1 m (kp m m1).1 he]
 ·obtain⟨n,n1,rfl⟩:=kb.1 hx
  exact absurd he ((kp n n1).2 y (mC.1 hy).1)
 ·obtain⟨n,n1,rfl⟩:=kb.1 hy
  exact absurd he.symm ((kp n n1).2 x (mC.1 hx).1)
 ·obtain⟨x1,x2⟩:=mC.1 hx
  obtain⟨y1,y2⟩:=mC.1 hy
  obtain⟨i,n,i1,i2,i3⟩:=hk.get x1
  obtain⟨j,m,j1,j2,_⟩:=hk.get y1
  have h0:0<x.bc:=by
   rcases i3 with h|h
   ·rw[h]at x2;simp at x2
   ·have:=(gQ h).2.1;omega
  have:=hk.one i2 j2 h0 he
  subst this
  rw[i2]at j2;exact Option.some.inj j2
structure V7 (a:bK) (sh:Int) (E:List cg) (U B:List bF) (S:List cI) (B' C L':List bF) (E':List cg):Prop where
 no:(B'=B/\C=[]/\L'=U/\E'=uA [] (S.map (lN (decide (0<U.length)))) E)\/
  ∃pl cut u s0 S',S=s0::S'/\cut.length=U.length/\Gm a sh B pl/\(∃p∈pl,0<p.bc)/\(U.zip cut).all (kU (E.length:Int) pl)=true/\u.Perm ((pl.filter λp=>decide (0<p.bc)).map qj)/\(u.Pairwise λx y=>x.bc<=y.bc)/\
   B'=sC (E.length:Int) B pl/\C=Ch U cut/\L'=iT U cut++B'.filter (λn=>decide (0<n.bP.bc))/\E'=uA (iT U cut) (⟨false,s0,false,u⟩::S'.map (lN true)) E
theorem SI{F E:List cg}:uA [] F E=E++F:=by
 unfold uA
 have:qO [] (E.length:Int)=λ_ d=>d:=by funext e d;exact H6
 rw[this]
 congr 1
 apply Tm
 intro i
 rw[PL];cases E[i]?<;>rfl
theorem MW(d:cM)(hd:yG d)(cu:List (List bV))(t:Int)(S:List cI)(B:List bF)(hB:B.length<=4)(h1:f96 cu t=some B)(eJ:S≠[])(hS:d.bM.bG.length+S.length<=4000)
  (GS:d.cV.length<=100000) (hm: ∀n∈d.cV,n.bO≠[]) (Pq: ∀a∈d.cV,0<a.bP.ct->Qt d.bM.bG a) (SJ:d.cV.Pairwise λx y=>x.bP.bc≠y.bP.bc):
  ∃r,f48 d cu t S=some r/\yG ⟨⟨r.2.2.1,r.2.2.2.1,r.2.2.2.2.1⟩,d.ka,d.h,d.shift,⟨d.bM.instrument,r.2.2.2.2.2.1⟩,r.2.2.2.2.2.2.1,r.2.2.2.2.2.2.2⟩/\
   ∃U,U.Perm (d.cV.filter λn=>decide (t<n.dr))/\V7 d.ka d.shift d.bM.bG U B S r.1 r.2.1 r.2.2.2.2.2.2.1 r.2.2.2.2.2.1:=by
 obtain⟨U,u1,u2⟩:=f97_ex d t (by simp only[bT];omega) hm
 have TY:U.length<=100000:=by rw[u2.length_eq];have:=sM (λn:bF=>decide (t<n.dr)) d.cV;omega
 have EX: ∀n∈U,n∈d.cV:=λn hn=>(mC.1 (u2.mem_iff.1 hn)).1
 have NS: ∀x∈U,∀y∈U,x.bP.bc=y.bP.bc->x=y:=λx hx y hy he=>by
  obtain⟨i,hi,ei⟩:=pA (EX x hx)
  obtain⟨j,hj,ej⟩:=pA (EX y hy)
  rw[EN]at SJ
  rcases JR i j with c|c|c
  ·exact absurd (by rw[ei,ej];exact he) (SJ i j hi hj c)
  ·subst c;rw[<-ei,<-ej]
  ·exact absurd (by rw[ei,ej];exact he.symm) (SJ j i hj hi c)
 have EO:=JD hd.rc
 have aat:14^B.length<=14^4:=Nat.pow_le_pow_right (by omega) hB
 have J1: ∀drop:List Bool,drop.length=B.length-> ∃r,f220 d.ka B drop d.shift=some r/\r.Perm (ways d.ka d.shift B drop []):=λdrop EW=>by
  have hw:=uj d.ka d.shift B drop []
  refine f220_ex d.ka d.shift B drop (by omega) EW (by omega) (f269_ex _ (by omega) λp hp=>?_)
  obtain⟨q,q1,q2,_⟩:=Cm d.ka d.shift B drop [] p EW hp
  simp only[qY]at q1
  simp only[bT,q1,q2];omega
 let al:List Bool->List (List bn):=λdrop=>(f220 d.ka B drop d.shift).getD []
 have Pt: ∀drop:List Bool,drop.length=B.length->f220 d.ka B drop d.shift=some (al drop)/\(al drop).Perm (ways d.ka d.shift B drop []):=λdrop EW=>by
  obtain⟨r,r1,r2⟩:=J1 drop EW
  have:al drop=r:=by show(f220 d.ka B drop d.shift).getD []=r;rw[r1];rfl
  rw[this];exact⟨r1,r2⟩
 have sO: ∀drop:List Bool,drop.length=B.length-> ∀pl∈al drop,Gm d.ka d.shift B pl/\ ∀(j:Nat)n b p,B[j]? =some n->drop[j]? =some b->pl[j]? =some p->Z3 d.ka d.shift n b p:=λdrop EW pl hp=>by
  obtain⟨q,q1,q2,q3,_,q5⟩:=Cm d.ka d.shift B drop [] pl EW ((Pt drop EW).2.mem_iff.1 hp)
  simp only[qY]at q1
  subst q1
  refine⟨⟨q2,λj n p h1 h2=>?_,q5⟩,q3⟩
  have hj:=(fM.1 h1).1
  have e3:drop[j]? =some (drop[j]'(by omega)):=dC _
  rcases q3 j n _ p h1 e3 h2 with⟨_,h⟩|⟨_,h⟩
  ·exact .inl h
  ·exact .inr h
 obtain⟨r3,c1,c2⟩:=f98_ex d hd.dh B U TY (by omega) (by omega) al λdrop EW=>by
  refine⟨(Pt drop EW).1,?_,λcut ME pl hp=>?_⟩
  ·have:=(Pt drop EW).2.length_eq;have:=uj d.ka d.shift B drop [];simp only[bT];omega
  ·have hk:=(sO drop EW pl hp).1
   exact⟨ME,by show pl.length<=_;rw[hk.len];omega,λht=>Ed NS hk ht⟩
 unfold f48
 simp only[h1,u1,c1,cH]
 cases hr:r3.2.2.2
 ·obtain⟨r,k1,k2,k3⟩:=MU d hd d.cV S (decide (0<(U.length:Int))) hS
  have m1:B.length<=cO:=by unfold cO;omega
  simp only[E7,cond_true,k1,cH,de m1]
  refine⟨_,rfl,⟨⟨k3.dh.hh,k3.dh.h0,k3.dh.ch,k3.dh.po,k3.dh.pf⟩,k3.rc⟩,U,u2,⟨.inl ⟨rfl,rfl,rfl,?_⟩⟩⟩
  rw[SI]
  show r.2.2.2.1=_
  rw[k2]
  have:decide (0<(U.length:Int))=decide (0<U.length):=F5 0 U.length
  rw[this]
 ·rw[hr]at c2
  simp only[if_true]at c2
  obtain⟨⟨drop,d1,d2,d3⟩,q1,q2,q3⟩:=c2
  have EW:=oQ d1
  obtain⟨p1,p2⟩:=sO drop EW _ d3
  obtain⟨s0,S',rfl⟩: ∃s0 S',S=s0::S':=by
   cases S with
   |nil=>exact absurd rfl eJ
   |cons y S'=>exact⟨y,S',rfl⟩
  simp only[oc]at hS
  obtain⟨u,w1,w2,w3⟩:=f100_ex d ⟨r3.1.places,r3.1.cut⟩ B U s0 q1 p1.len TY (by omega) (by omega) (λa ha=>Pq a (EX a ha)) λx hx y hy h0 he=>by
   obtain⟨i,n,i1,i2,_⟩:=p1.get hx
   obtain⟨j,m,j1,j2,_⟩:=p1.get hy
   have:=p1.one i2 j2 h0 he
   subst this
   rw[i2]at j2;exact Option.some.inj j2
  have Z5:=p1.len
  obtain⟨x,x1,x2⟩:=f160_ex d hd.dh.ch r3.1 U q1 TY (by omega) (by omega) (Ed NS p1 q2.ten)
  rw[q2.cho]at x1;cases x1
  have Z6:=f160_small d r3.1 U TY (by omega) (by omega) x2
  obtain⟨l',e1,g1,g2,g3,_⟩:=f161_ex d hd.dh r3.2.1 Z6
  rw[q2.rea]at e1;cases e1
  have hE':(d.bM.bG.mapIdx (qO (iT U r3.1.cut) (d.bM.bG.length:Int))).length=d.bM.bG.length:=by simp
  have VK:yG ⟨r3.2.1,d.ka,d.h,d.shift,⟨d.bM.instrument,d.bM.bG.mapIdx (qO (iT U r3.1.cut) (d.bM.bG.length:Int))++[⟨false,s0,false,u⟩]⟩,iT U r3.1.cut++(sC (d.bM.bG.length:Int) B r3.1.places).filter (λn=>decide (0<n.bP.bc)),r3.2.2.1⟩:=
   ⟨⟨hd.dh.hh,hd.dh.h0,Z6,g1,λk hk=>by show k.dg.length<=_;rw[(g2 k hk).len];exact Z6.d⟩,(g3 q3).1⟩
  obtain⟨r,k1,k2,k3⟩:=MU _ VK (iT U r3.1.cut++(sC (d.bM.bG.length:Int) B r3.1.places).filter (λn=>decide (0<n.bP.bc))) S' true (by simp;omega)
  have g0:ix (s0::S') 0=some s0:=rfl
  have e1:(List.take (s0::S').length (s0::S')).drop 1=S':=by simp
  have m1:(sC (d.bM.bG.length:Int) B r3.1.places).length=B.length:=by simp[sC,Z5]
  have m2:(d.bM.bG.mapIdx (qO (iT U r3.1.cut) (d.bM.bG.length:Int))).length<cO:=by rw[hE'];unfold cO;omega
  have m3:1<=(s0::S').length:=by simp
  simp only[oe,cond_false,g0,cH,w1,de m1,de m2,de m3,e1,k1]
  refine⟨_,rfl,⟨⟨k3.dh.hh,k3.dh.h0,k3.dh.ch,k3.dh.po,k3.dh.pf⟩,k3.rc⟩,U,u2,⟨.inr ⟨r3.1.places,r3.1.cut,u,s0,S',rfl,q1,p1,?_,q2.ten,w2,w3,rfl,rfl,rfl,?_⟩⟩⟩
  ·obtain⟨b,b1,b2⟩:=Yj.1 d2
   obtain⟨j,hj,rfl⟩:=pA b1
   have e3:drop[j]? =some drop[j]:=dC hj
   have e4:B[j]? =some (B[j]'(by omega)):=dC _
   have e5:r3.1.places[j]? =some (r3.1.places[j]'(by omega)):=dC _
   rcases p2 j _ _ _ e4 e3 e5 with⟨h,_⟩|⟨_,h⟩
   ·exact absurd h b2
   ·exact⟨_,gx e5,by have:=(gQ h).2.1;omega⟩
  ·show r.2.2.2.1=_
   rw[k2]
   unfold uA
   simp
end Go.Proofs.YtpbahncblggodaaGreat
set_option linter.all false
namespace Go.Proofs.YtpbahncblggodaaGreat
open Go Go.Am
set_option maxRecDepth 100000
theorem AU{σ τ β γ:Type}{body:σ->Option (σ⊕τ)}{f:τ->Option (β⊕γ)}{Q:β->Prop}{s0:σ}(Inv:Nat->σ->Prop)(kQ:τ->Prop)(n:Nat)(hn:n<=4194304)(h0:Inv 0 s0)
  (hb: ∀k s,k<n->Inv k s->(∃s',body s=some (.inl s')/\Inv (k+1) s')\/(∃r,body s=some (.inr r)/\kQ r))
  (he: ∀s,Inv n s-> ∃r,body s=some (.inr r)/\kQ r) (k: ∀r,kQ r-> ∃z,f r=some (.inl z)/\Q z): ∃z,(bY body cy s0).bind f=some (.inl z)/\Q z:=by
 obtain⟨r,h1,h2⟩:=jJ Inv kQ n hn h0 hb he
 rw[h1];exact k r h2
def Ee(P:List (List bV))(W:List (List bn)):Prop:=W.map List.length=P.map List.length
def eU(W:List (List bn))(i k:Nat):Option bn:=W[i]?.bind λw=>w[k]?
def Gn(W:List (List bn))(m:b8)(p:bn):List (List bn):=W.set m.part.toNat (((W[m.part.toNat]?).getD []).set m.eK.toNat p)
def yI(W:List (List bn))(l:List b8)(p:bn):List (List bn):=l.foldl (λW m=>Gn W m p) W
def lO(W:List (List bn))(l:List bF):List (List bn):=l.foldl (λW n=>yI W n.bO n.bP) W
def pg(t:Int)(kd:Int)(m:b8):cQ:=⟨m.part,m.eK,kd,t⟩
def jo(t:Int)(n:bF):List cQ:=bif decide (n.bP.bc=0)then n.bO.map (pg t 1)else(n.bO.drop 1).map (pg t 2)
def toOf(P:List (List bV))(m:b8):Int:=((dO P m.part.toNat m.eK.toNat).map bV.dr).getD 0
def lr(P:List (List bV))(t:Int)(n:bF):List cQ:=(n.bO.filter λm=>decide (t<toOf P m)).map (pg t 3)
def uk(P:List (List bV))(m:b8):Prop:= ∃(i k:Nat)(x:bV),m=⟨(i:Int),(k:Int)⟩/\dO P i k=some x
theorem Ee.get{P:List (List bV)}{W:List (List bn)}(h:Ee P W){i k:Nat}{x:bV}(hx:dO P i k=some x): ∃w,W[i]? =some w/\k<w.length:=by
 unfold dO at hx
 cases hp:P[i]? with
 |none=>rw[hp]at hx;simp at hx
 |some p=>
  rw[hp]at hx
  simp only[cH]at hx
  have h1:=congrArg (·[i]?) h
  simp only[sK,hp,gl]at h1
  obtain⟨w,w1,w2⟩:=GH.1 h1
  exact⟨w,w1,by rw[w2];exact(fM.1 hx).1⟩
theorem Ic{P:List (List bV)}{W:List (List bn)}{m:b8}{p:bn}(h:Ee P W):Ee P (Gn W m p):=by
 unfold Ee Gn at *
 rw[<-h]
 cases hw:W[m.part.toNat]? with
 |none=>rw[List.set_eq_of_length_le (by simpa using hw)]
 |some w=>exact ui hw (by simp)
theorem qP{P:List (List bV)}{p:bn}: ∀{l:List b8}{W:List (List bn)},Ee P W->Ee P (yI W l p)
 | [],W,h=>h
 |m::l,W,h=>qP (l:=l) (Ic h)
theorem yJ{P:List (List bV)}: ∀{l:List bF}{W:List (List bn)},Ee P W->Ee P (lO W l)
 | [],W,h=>h
 |n::l,W,h=>yJ (l:=l) (qP h)
theorem Ie{W:List (List bn)}{i k:Nat}{w:List bn}{p:bn}(h:W[i]? =some w):Gn W ⟨(i:Int),(k:Int)⟩ p=W.set i (w.set k p):=by
 unfold Gn
 simp only[nv,h,Bc]
theorem V8(s:dR)(P:List (List bV))(cq cut:List bF)(t:Int)(hP:P.length<=6)(hW:Ee P s.dp)(hf: ∀n∈cq,n.bO.length<=6/\ ∀m∈n.bO,uk P m)(hc: ∀n∈cut,n.bO.length<=6/\ ∀m∈n.bO,uk P m)
  (hl1:cq.length<=4) (CO:cut.length<=10000) (hX:s.cX.length+24+6*cut.length<=4000000):
  f49 s P cq cut t=some (lO s.dp cq,s.cX++cq.flatMap (jo t)++cut.flatMap (lr P t)):=by
 have key: ∃r,f49 s P cq cut t=some r/\r=(lO s.dp cq,s.cX++cq.flatMap (jo t)++cut.flatMap (lr P t)):=by
  have W7:s.dp.length=P.length:=by have:=congrArg List.length hW;simpa using this
  have ffl: ∀l:List bF,(∀n∈l,n∈cq)->(l.flatMap (jo t)).length<=l.length*6:=λl hl=>jY λn hn=>by
   have:=(hf n (hl n hn)).1
   unfold jo
   cases decide (n.bP.bc=0)
   ·simp;omega
   ·simp;omega
  have cfl: ∀l:List bF,(∀n∈l,n∈cut)->(l.flatMap (lr P t)).length<=l.length*6:=λl hl=>jY λn hn=>by
   have:=(hc n (hl n hn)).1
   unfold lr
   have:=sM (λm=>decide (t<toOf P m)) n.bO
   simp;omega
  unfold f49
  refine eO (λk(q:List (List bn)×List cQ×Int)=>q.2.2=(k:Int)/\q.1=lO s.dp (cq.take k)/\q.2.1=s.cX++(cq.take k).flatMap (jo t)) (λr=>r=(lO s.dp cq,s.cX++cq.flatMap (jo t))) cq.length (by omega) ⟨rfl,rfl,by simp⟩ ?_ ?_ ?_
  ·rintro k ⟨d,b,i⟩ hk ⟨e0,e1,e2⟩
   simp only at e0 e1 e2
   subst e0
   have x1:cq[k]? =some (cq[k]'hk):=dC _
   generalize cq[k]'hk=n at x1
   obtain⟨n1,n2⟩:=hf n (gx x1)
   have hb:b.length<=s.cX.length+k*6:=by
    rw[e2]
    have:=ffl (cq.take k) λn hn=>w8 hn
    have:=Nz k cq
    have:=zp 6 this
    rw[kc];omega
   simp only[cJ x1,cond_true,b9 x1,cH,dB (l:=cq) (by simp only[bT];omega) x1]
   refine .inl (AU (λj(q:List (List bn)×List cQ×Int)=>q.2.2=(j:Int)/\q.1=yI d (n.bO.take j) n.bP/\q.2.1=b++(bif decide (n.bP.bc=0)then(n.bO.take j).map (pg t 1)else((n.bO.take j).drop 1).map (pg t 2)))
    (λr=>r=(yI d n.bO n.bP,b++jo t n)) n.bO.length (by omega) ⟨rfl,rfl,by cases decide (n.bP.bc=0)<;>simp⟩ ?_ ?_ ?_)
   ·rintro j ⟨d',b',i'⟩ hj ⟨f0,f1,f2⟩
    simp only at f0 f1 f2
    subst f0
    have y1:n.bO[j]? =some (n.bO[j]'hj):=dC _
    have hm:=n2 _ (gx y1)
    generalize n.bO[j]'hj=m at y1 hm
    obtain⟨pi,pk,x,rfl,hx⟩:=hm
    have zh:Ee P d':=by rw[f1,e1];exact qP (yJ hW)
    obtain⟨w,w1,w2⟩:=zh.get hx
    have w3:w[pk]? =some (w[pk]'w2):=dC _
    have C5:pi<P.length:=by
     have:=(fM.1 w1).1
     have h2:=congrArg List.length zh
     simp at h2;omega
    have mT:b'.length<=b.length+j:=by
     rw[f2]
     have:=Nz j n.bO
     cases decide (n.bP.bc=0)<;>simp <;>omega
    have g1:pi<cO:=by unfold cO;omega
    have g2:b'.length+1<=bJ:=by unfold bJ;omega
    have SK:yI d (n.bO.take (j+1)) n.bP=d'.set pi (w.set pk n.bP):=by
     rw[cN y1,f1]
     rw[f1]at w1
     unfold yI at *
     rw[Ye]
     exact Ie w1
    simp only[cJ y1,cond_true,b9 y1,cH,b9 w1,de g1,b9 w3,dB (l:=n.bO) (by simp only[bT];omega) y1,nv]
    cases c1:decide (n.bP.bc=0)
    ·rw[c1]at f2
     simp only[cond_false]at f2 |-
     by_cases c2:j=0
     ·subst c2
      simp only[Int.ofNat_zero,Int.natCast_zero,kF,decide_false,cond_false,cH]
      refine .inl ⟨_,rfl,rfl,SK.symm,?_⟩
      show b'=_
      rw[f2,cN y1];simp
     ·have c3:decide ((0:Int)<(j:Int))=true:=decide_eq_true (by omega)
      simp only[c3,cond_true,de g2,cH]
      refine .inl ⟨_,rfl,rfl,SK.symm,?_⟩
      show b'++[_]=_
      rw[f2,cN y1,List.drop_append_of_le_length (by simp;omega)];simp[pg]
    ·rw[c1]at f2
     simp only[cond_true,de g2,cH]at f2 |-
     refine .inl ⟨_,rfl,rfl,SK.symm,?_⟩
     show b'++[_]=_
     rw[f2,cN y1];simp[pg]
   ·rintro⟨d',b',i'⟩ ⟨f0,f1,f2⟩
    simp only at f0 f1 f2
    subst f0
    rw[Bb]at f1 f2
    simp only[kF,decide_false,cond_false]
    exact⟨_,rfl,by rw[f1,f2];rfl⟩
   ·rintro _ rfl
    refine⟨_,rfl,rfl,?_,?_⟩
    ·show _=lO s.dp (cq.take (k+1))
     rw[cN x1,e1];unfold lO;rw[Ye];rfl
    ·show b++jo t n=_
     rw[cN x1,e2];simp
  ·rintro⟨d,b,i⟩ ⟨e0,e1,e2⟩
   simp only at e0 e1 e2
   subst e0
   rw[Bb]at e1 e2
   simp only[kF,decide_false,cond_false]
   exact⟨_,rfl,by rw[e1,e2]⟩
  rintro _ rfl
  simp only
  generalize CU:s.cX++cq.flatMap (jo t)=b0
  have uF:b0.length<=s.cX.length+24:=by
   rw[<-CU]
   have:=ffl cq λn hn=>hn
   rw[kc];omega
  refine eO (λk(q:List cQ×Int)=>q.2=(k:Int)/\q.1=b0++(cut.take k).flatMap (lr P t)) (λr=>r=b0++cut.flatMap (lr P t)) cut.length (by omega) ⟨rfl,by simp⟩ ?_ ?_ ?_
  ·rintro k ⟨b,i⟩ hk ⟨e0,e1⟩
   simp only at e0 e1
   subst e0
   have x1:cut[k]? =some (cut[k]'hk):=dC _
   generalize cut[k]'hk=n at x1
   obtain⟨n1,n2⟩:=hc n (gx x1)
   have hb:b.length<=b0.length+k*6:=by
    rw[e1]
    have:=cfl (cut.take k) λn hn=>w8 hn
    have:=Nz k cut
    have:=zp 6 this
    rw[kc];omega
   simp only[cJ x1,cond_true,b9 x1,cH,dB (l:=cut) (by simp only[bT];omega) x1]
   refine .inl (AU (λj(q:List cQ×Int)=>q.2=(j:Int)/\q.1=b++((n.bO.take j).filter λm=>decide (t<toOf P m)).map (pg t 3)) (λr=>r=b++lr P t n) n.bO.length (by omega) ⟨rfl,by simp⟩ ?_ ?_ ?_)
   ·rintro j ⟨b',i'⟩ hj ⟨f0,f1⟩
    simp only at f0 f1
    subst f0
    have y1:n.bO[j]? =some (n.bO[j]'hj):=dC _
    have hm:=n2 _ (gx y1)
    generalize n.bO[j]'hj=m at y1 hm
    obtain⟨pi,pk,x,rfl,hx⟩:=hm
    have Pu:toOf P ⟨(pi:Int),(pk:Int)⟩=x.dr:=by unfold toOf;simp only[nv,hx,gl,Bc]
    unfold dO at hx
    cases hp:P[pi]? with
    |none=>rw[hp]at hx;simp at hx
    |some p=>
     rw[hp]at hx
     simp only[cH]at hx
     have mT:b'.length<=b.length+j:=by
      rw[f1]
      have:=Nz j n.bO
      have:=sM (λm=>decide (t<toOf P m)) (n.bO.take j)
      simp;omega
     have g2:b'.length+1<=bJ:=by unfold bJ;omega
     simp only[cJ y1,cond_true,b9 y1,cH,b9 hp,b9 hx,dB (l:=n.bO) (by simp only[bT];omega) y1]
     cases c1:decide (t<x.dr)
     ·refine .inl ⟨_,rfl,rfl,?_⟩
      show b'=_
      rw[cN y1,EL,f1]
      simp[List.filter,Pu,c1]
     ·simp only[cond_true,de g2]
      refine .inl ⟨_,rfl,rfl,?_⟩
      show b'++[_]=_
      rw[cN y1,EL,f1]
      simp[List.filter,Pu,c1,pg]
   ·rintro⟨b',i'⟩ ⟨f0,f1⟩
    simp only at f0 f1
    subst f0
    rw[Bb]at f1
    simp only[kF,decide_false,cond_false]
    exact⟨_,rfl,by rw[f1];rfl⟩
   ·rintro _ rfl
    refine⟨_,rfl,rfl,?_⟩
    show b++lr P t n=_
    rw[cN x1,e1];simp
  ·rintro⟨b,i⟩ ⟨e0,e1⟩
   simp only at e0 e1
   subst e0
   rw[Bb]at e1
   simp only[kF,decide_false,cond_false]
   exact⟨_,rfl,e1⟩
  rintro _ rfl
  exact⟨_,rfl,by rw[<-CU]⟩
 obtain⟨r,h1,rfl⟩:=key
 exact h1
end Go.Proofs.YtpbahncblggodaaGreat
set_option linter.all false
namespace Go.Proofs.YtpbahncblggodaaGreat
open Go Go.Am
set_option maxRecDepth 100000
structure Qx (P:List (List bV)) (E:List cg) (W:List (List bn)) (n:bF):Prop where
 ne:n.bO≠[]
 le:n.bO.length<=6
 qf:n.bO.Pairwise λa b=>a.part<b.part
 co:1<=n.bP.bc
 ev: ∃e:Nat,n.cW=(e:Int)/\Rg E e n.bP E.length/\ ∀m∈n.bO,∃(i k:Nat)(x:bV),m=⟨(i:Int),(k:Int)⟩/\dO P i k=some x/\x.dr<=n.dr/\eU W i k=some n.bP/\x.bX=(iD E e:Int)
structure Mv (a:bK) (sh T:Int) (E:List cg) (L B:List bF) (S:List cI) (B' C L':List bF) (E':List cg):Prop where
 ev:kC a E'
 du:iD E' E'.length=iD E E.length+kB S
 on: ∀c,c<=E.length->iD E' c=iD E c
 le:E'.length=E.length+S.length
 rg: ∀e p c,Rg E e p c->Rg E' e p c
 nd: ∀e p c,Nd E e p c->Nd E' e p c
 pD: ∀n∈L,∀e:Nat,n.cW=(e:Int)->(n∈L'/\n ∉ C)\/(n∈C/\Nd E' e n.bP E.length)\/(n ∉ C/\n.dr<=T)
 cL: ∀n∈C,n∈L
 cd:C.Pairwise λx y=>x.bP.bc≠y.bP.bc
 cl:C.length<=L.length
 lL: ∀n∈L',(n∈L/\ ∀e:Nat,n.cW=(e:Int)->Rg E' e n.bP E'.length)\/(n∈B'/\1<=n.bP.bc/\n.cW=(E.length:Int)/\Rg E' E.length n.bP E'.length)
 ld:L'.Pairwise λx y=>x.bP.bc≠y.bP.bc
 ll:L'.length<=L.length+B.length
 b1: ∀n'∈B',∃n∈B,n'.bO=n.bO/\n'.dr=n.dr/\n'.bW=n.bW/\(n'.bP=⟨0,0⟩\/n'.bP∈(eD a (wr (n.bW+sh))).1/\n'∈L'/\n'.cW=(E.length:Int))
 b2: ∀n∈B,∃n'∈B',n'.bO=n.bO
 b3:B'.map bF.bW=B.map bF.bW
 b4: ∀x∈B',∀y∈B',0<x.bP.bc->x.bP.bc=y.bP.bc->x=y
 st: ∀e s,fA E' e s->(∃s0,fA E e s0/\s.bc=s0.bc/\s.ct=s0.ct)\/(e=E.length/\ ∃n'∈B',n'.bP=⟨s.bc,s.ct⟩)
theorem Gp: ∀{S:List cI}{f:cI->cg},(∀s,(f s).sign=s)->((S.map f).map λd=>tk d.sign).sum=kB S
 | [],f,_=>rfl
 |s::S,f,h=>by
  have:=Gp (S:=S) h
  simp only[wy,WB,this,h s,kB,List.foldr_cons]
theorem MX{U:List bF}{cut:List Bool}{n:bF}{b:Bool}(h:(n,b)∈U.zip cut): ∃i:Nat,U[i]? =some n/\cut[i]? =some b:=by
 obtain⟨i,hi,e⟩:=pA h
 have h1:(U.zip cut)[i]? =some (n,b):=by rw[dC hi,e]
 exact⟨i,Yi.1 h1⟩
theorem ql{U:List bF}{cut:List Bool}{n:bF}:n∈iT U cut↔(n,false)∈U.zip cut:=by
 unfold iT
 rw[kb]
 constructor
 ·rintro⟨⟨m,b⟩,h1,rfl⟩
  obtain⟨h2,h3⟩:=mC.1 h1
  have:b=false:=by simpa using h3
  subst this;exact h2
 ·exactλh=>⟨(n,false),mC.2 ⟨h,rfl⟩,rfl⟩
theorem wZ{U:List bF}{cut:List Bool}{n:bF}:n∈Ch U cut↔(n,true)∈U.zip cut:=by
 unfold Ch
 rw[kb]
 constructor
 ·rintro⟨⟨m,b⟩,h1,rfl⟩
  obtain⟨h2,h3⟩:=mC.1 h1
  have:b=true:=h3
  subst this;exact h2
 ·exactλh=>⟨(n,true),mC.2 ⟨h,rfl⟩,rfl⟩
theorem Ig{L:List bF}(h:L.Pairwise λx y=>x.bP.bc≠y.bP.bc){i j:Nat}{x y:bF}(hi:L[i]? =some x)(hj:L[j]? =some y)(he:x.bP.bc=y.bP.bc):i=j:=by
 rw[EN]at h
 obtain⟨i1,i2⟩:=fM.1 hi
 obtain⟨j1,j2⟩:=fM.1 hj
 rcases JR i j with c|c|c
 ·exact absurd (by rw[i2,j2];exact he) (h i j i1 j1 c)
 ·exact c
 ·exact absurd (by rw[i2,j2];exact he.symm) (h j i j1 i1 c)
theorem Qy{L:List bF}(h:L.Pairwise λx y=>x.bP.bc≠y.bP.bc){x y:bF}(hx:x∈L)(hy:y∈L)(he:x.bP.bc=y.bP.bc):x=y:=by
 obtain⟨i,hi,rfl⟩:=pA hx
 obtain⟨j,hj,rfl⟩:=pA hy
 have:=Ig h (dC hi) (dC hj) he
 subst this;rfl
theorem Ih{U:List bF}{cut:List Bool}(hl:cut.length=U.length){f:bF×Bool->Bool}:(((U.zip cut).filter f).map (·.1)).Sublist U:=by
 have h1:(((U.zip cut).filter f).map (·.1)).Sublist ((U.zip cut).map (·.1)):=List.Sublist.map _ Uj
 rwa[List.map_fst_zip (by omega)]at h1
section
variable {a:bK} {sh T:Int} {P:List (List bV)} {E:List cg} {L B U:List bF} {S:List cI} {B' C L':List bF} {E':List cg} {W:List (List bn)}
theorem V9(Fp:kC a E)(GS: ∀n∈L,Qx P E W n)(hld:L.Pairwise λx y=>x.bP.bc≠y.bP.bc)(hE:E.length<=4000)(hB: ∀n∈B,n.bP=⟨0,0⟩)(hU:U.Perm (L.filter λn=>decide (T<n.dr)))(hS:S≠[])(SH: ∀s∈S,s∈gv)(h:V7 a sh E U B S B' C L' E'):Mv a sh T E L B S B' C L' E':=by
 have EX: ∀n,n∈U↔n∈L/\T<n.dr:=λn=>by rw[hU.mem_iff,mC];simp
 have NS:U.Pairwise λx y=>x.bP.bc≠y.bP.bc:=(hU.pairwise_iff (λh=>h.symm)).2 (hld.sublist Uj)
 have TY:U.length<=L.length:=by rw[hU.length_eq];exact sM ..
 have Wa: ∀n∈L,∀e:Nat,n.cW=(e:Int)->Rg E e n.bP E.length:=λn hn e he=>by
  obtain⟨e0,h1,h2,_⟩:=(GS n hn).ev
  have:e0=e:=by omega
  subst this;exact h2
 rcases h.no with⟨rfl,rfl,rfl,rfl⟩|⟨pl,cut,u,s0,S',rfl,FH,sO,⟨p0,hp0,Sq⟩,Wb,hu1,hu2,rfl,rfl,rfl,rfl⟩
 ·have hF: ∀d∈S.map (lN (decide (0<L'.length))),∃s∈S,d=lN (decide (0<L'.length)) s:=λd hd=>by
   obtain⟨s,h1,rfl⟩:=kb.1 hd
   exact⟨s,h1,rfl⟩
  refine⟨Fp.nx (by simp) (λj d hd=>?_) (by simpa using hS) (by simp),?_,λc hc=>Qv hc,by rw[sD,mA],λe p c h=>h.keep,λe p c h=>h.keep (by simp),λn hn e he=>?_,by simp,by simp,by simp,λn hn=>.inl ⟨((EX n).1 hn).1,λe he=>?_⟩,NS,by omega,λn hn=>⟨n,hn,rfl,rfl,rfl,.inl (hB n hn)⟩,λn hn=>⟨n,hn,rfl⟩,rfl,λx hx y hy h0=>?_,λe s hs=>?_⟩
  ·obtain⟨s,s1,rfl⟩:=hF d (gx hd)
   refine⟨⟨rfl,SH s s1,λht=>⟨rfl,?_⟩,by simp[lN]⟩,by simp[lN]⟩
   have ht:0<L'.length:=by simpa[lN]using ht
   obtain⟨n,hn⟩:=List.exists_mem_of_length_pos ht
   obtain⟨e,h1,h2,_⟩:=(GS n ((EX n).1 hn).1).ev
   have:=h2.lt;omega
  ·rw[MQ,Gp (λ_=>rfl)]
  ·by_cases hc:T<n.dr
   ·exact .inl ⟨(EX n).2 ⟨hn,hc⟩,by simp⟩
   ·exact .inr (.inr ⟨by simp,by omega⟩)
  ·have ht:decide (0<L'.length)=true:=decide_eq_true (X5 hn)
   refine(Wa n ((EX n).1 hn).1 e he).cV (λd hd=>?_) λ_=>.inl λd hd=>?_
   ·obtain⟨s,s1,rfl⟩:=hF d hd
    rw[ht];exact⟨rfl,rfl⟩
   ·obtain⟨s,s1,rfl⟩:=hF d hd
    exact ht
  ·rw[hB x hx]at h0;simp at h0
  ·rcases mN hs with⟨s1,q1,q2,q4⟩|⟨_,d,q2,q3⟩
   ·exact .inl ⟨s1,q1,by rw[q4,fK],by rw[q4,uh]⟩
   ·obtain⟨s1,_,rfl⟩:=hF d (gx q2)
    simp[lN]at q3
 ·have SM: ∀s,s∈u↔ ∃p∈pl,0<p.bc/\s=qj p:=λs=>by
   rw[hu1.mem_iff,kb]
   constructor
   ·rintro⟨p,h1,rfl⟩
    obtain⟨h2,h3⟩:=mC.1 h1
    exact⟨p,h2,by simpa using h3,rfl⟩
   ·rintro⟨p,h1,h2,rfl⟩
    exact⟨p,mC.2 ⟨h1,by simpa using h2⟩,rfl⟩
  have TZ: ∀n,n∈iT U cut->n∈U:=λn hn=>(List.of_mem_zip (ql.1 hn)).1
  have hcu: ∀n,n∈Ch U cut->n∈U:=λn hn=>(List.of_mem_zip (wZ.1 hn)).1
  have hkc: ∀n,n∈iT U cut->n ∉ Ch U cut:=λn h1 h2=>by
   obtain⟨i,i1,i2⟩:=MX (ql.1 h1)
   obtain⟨j,j1,j2⟩:=MX (wZ.1 h2)
   have:=Ig NS i1 j1 rfl
   subst this
   rw[i2]at j2;cases j2
  have KM: ∀n,n∈iT U cut->(∀p∈pl,p.bc≠n.bP.bc)/\(0<n.bP.ct-> ∀e:Nat,n.cW=(e:Int)->(E.length:Int)-e<=15):=λn hn=>by
   have ht:=py.1 Wb _ (ql.1 hn)
   simp only[kU,WV,E7,Tg,eW,pC,Ny,lq,decide_eq_true_eq]at ht
   refine⟨ht.1,λhf e he=>?_⟩
   have h2:=ht.2
   obtain⟨e0,h1,h3,_⟩:=(GS n ((EX n).1 (TZ n hn)).1).ev
   have h4:=h3.lt
   simp only[hf,decide_true,Tg,decide_eq_false_iff_not]at h2
   rw[jd (by omega) (by omega)]at h2
   omega
  have hct: ∀n,n∈Ch U cut->n.bP.ct=0-> ∃p∈pl,p.bc=n.bP.bc:=λn hn hf=>by
   have ht:=py.1 Wb _ (wZ.1 hn)
   simp[kU,hf,lq]at ht
   exact ht
  have ku: ∀p∈pl,0<p.bc-> ∃q,p∈(eD a q).1:=λp hp h0=>by
   obtain⟨j,n,_,_,h3⟩:=sO.get hp
   rcases h3 with rfl|h3
   ·simp at h0
   ·exact⟨_,h3⟩
  have Pv: ∀x,sQ ⟨false,s0,false,u⟩ x=true↔ ∃p∈pl,0<p.bc/\p.bc=x:=λx=>by
   simp only[sQ,w9,decide_eq_true_eq]
   constructor
   ·rintro⟨s,h1,rfl⟩
    obtain⟨p,h2,h3,rfl⟩:=(SM s).1 h1
    exact⟨p,h2,h3,rfl⟩
   ·rintro⟨p,h1,h2,h3⟩
    exact⟨_,(SM _).2 ⟨p,h1,h2,rfl⟩,h3⟩
  have Sm: ∀n,n∈iT U cut->wm ⟨false,s0,false,u⟩=false/\sQ ⟨false,s0,false,u⟩ n.bP.bc=false:=λn hn=>by
   refine⟨?_,?_⟩
   ·have:qj p0∈u:=(SM _).2 ⟨p0,hp0,Sq,rfl⟩
    have:u≠[]:=λh=>by rw[h]at this;simp at this
    simp[wm,this]
   ·cases hq:sQ ⟨false,s0,false,u⟩ n.bP.bc
    ·rfl
    ·obtain⟨p,h1,_,h2⟩:=(Pv _).1 hq
     exact absurd h2 ((KM n hn).1 p h1)
  have XB: ∀(j:Nat)d,(⟨false,s0,false,u⟩::S'.map (lN true))[j]? =some d->(j=0/\d=⟨false,s0,false,u⟩)\/(0<j/\ ∃s∈S',d=lN true s):=λj d hd=>by
   cases j with
   |zero=>left;simp at hd;exact⟨rfl,hd.symm⟩
   |succ j=>
    right
    obtain⟨s,h1,rfl⟩:=kb.1 (gx (by simpa using hd))
    exact⟨by omega,s,h1,rfl⟩
  have hcd:(u.map cT.bc).Nodup:=by
   rw[(hu1.map _).nodup_iff,Is]
   have:(cT.bc∘qj)=bn.bc:=rfl
   rw[this]
   show List.Pairwise _ _
   rw[GJ]
   refine(sO.Z4.sublist (Uj (p:=λp=>decide (0<p.bc)))).imp_of_mem λ{x y}hx hy GY=>GY ?_
   have:=(mC.1 hy).2
   simpa using this
  have Wc:u.Pairwise λx y=>x.bc<y.bc:=by
   have h1:u.Pairwise λx y=>x.bc≠y.bc:=by
    have:List.Pairwise _ (u.map cT.bc):=hcd
    rwa[GJ]at this
   exact(hu2.and h1).imp λ⟨x,y⟩=>by omega
  have Z7:(sC (E.length:Int) B pl).map bF.bW=B.map bF.bW:=by
   unfold sC
   rw[Is]
   have:(bF.bW∘λx:bF×bn=>MO (E.length:Int) x.1 x.2)=bF.bW∘(·.1):=rfl
   rw[this,<-Is,List.map_fst_zip (by have:=sO.len;omega)]
  have Pw: ∀n',n'∈sC (E.length:Int) B pl-> ∃(j:Nat)(n:bF)(p:bn),B[j]? =some n/\pl[j]? =some p/\n'=MO (E.length:Int) n p:=λn' lY=>by
   obtain⟨⟨n,p⟩,h1,rfl⟩:=kb.1 lY
   obtain⟨j,hj,e⟩:=pA h1
   have h1:(B.zip pl)[j]? =some (n,p):=by rw[dC hj,e]
   obtain⟨h2,h3⟩:=Yi.1 h1
   exact⟨j,n,p,h2,h3,rfl⟩
  have Wd: ∀(j:Nat)n p,B[j]? =some n->pl[j]? =some p->MO (E.length:Int) n p∈sC (E.length:Int) B pl:=λj n p h1 h2=>kb.2 ⟨(n,p),gx (AO h1 h2),rfl⟩
  have wc: ∀n'∈sC (E.length:Int) B pl,0<n'.bP.bc->n'.cW=(E.length:Int)/\n'.bP∈pl:=λn' lY h0=>by
   obtain⟨j,n,p,h1,h2,rfl⟩:=Pw n' lY
   have h0:0<p.bc:=h0
   exact⟨by simp[MO,h0],gx h2⟩
  have hS3: ∀s∈S',s∈gv:=λs hs=>SH s (by simp[hs])
  refine⟨Fp.nx (λx hx hf e he=>⟨Wa x ((EX x).1 (TZ x hx)).1 e he,(KM x hx).2 hf e he⟩) (λj d hd=>?_) (by simp) (λx hx d hd=>?_),?_,λc hc=>Qv hc,by rw[sD];simp,λe p c h=>h.keep,
   λe p c h=>h.keep λx hx hf e he=>Wa x ((EX x).1 (TZ x hx)).1 e he,λn hn e he=>?_,λn hn=>((EX n).1 (hcu n hn)).1,NS.sublist (Ih FH),?_,λn hn=>?_,?_,?_,λn' lY=>?_,λn hn=>?_,Z7,λx hx y hy h0 GY=>?_,λe s hs=>?_⟩
  ·rcases XB j d hd with⟨rfl,rfl⟩|⟨hj,s,hs,rfl⟩
   ·refine⟨⟨rfl,SH s0 (by simp),λh=>(by cases h),Wc⟩,λs hs=>?_⟩
    obtain⟨p,h1,h2,rfl⟩:=(SM s).1 hs
    exact⟨rfl,rfl,rfl,ku p h1 h2⟩
   ·exact⟨⟨rfl,hS3 s hs,λ_=>⟨rfl,by omega⟩,by simp[lN]⟩,by simp[lN]⟩
  ·simp at hd;subst hd;exact Sm x hx
  ·rw[MQ,wy,WB,Gp (λ_=>rfl)];rfl
  ·by_cases hc:T<n.dr
   ·have hnU:=(EX n).2 ⟨hn,hc⟩
    obtain⟨i,hi,rfl⟩:=pA hnU
    have e1:U[i]? =some U[i]:=dC hi
    have e2:cut[i]? =some (cut[i]'(by omega)):=dC _
    have hz:=gx (AO e1 e2)
    cases Z8:cut[i]'(by omega)with
    |false=>rw[Z8]at hz;exact .inl ⟨CF _ (ql.2 hz),hkc _ (ql.2 hz)⟩
    |true=>
     rw[Z8]at hz
     have hz:=wZ.2 hz
     refine .inr (.inl ⟨hz,Nd.new (Wa _ hn e he) (λs hs=>Fp.hold hs) (λhf=>?_) (d0:=⟨false,s0,false,u⟩) rfl rfl λhf=>?_⟩)
     ·cases hq:hb (iT U cut) e U[i].bP.bc
      ·rfl
      ·obtain⟨x,x1,_,_,x4⟩:=Gj hq
       have:=Qy NS (TZ x x1) hnU x4
       subst this
       exact absurd hz (hkc _ x1)
     ·obtain⟨e0,h1,h2,_⟩:=(GS _ hn).ev
      obtain⟨s,t1,t2,t3⟩:=h2.st
      obtain⟨q,hq⟩:=(Fp.st _ s t1).pl
      have hq:=(gQ hq).2.2.2.1
      have hq:0<=s.ct:=hq
      obtain⟨p,h3,h4⟩:=hct _ hz (by omega)
      have:=(GS _ hn).co
      exact(Pv _).2 ⟨p,h3,by omega,h4⟩
   ·refine .inr (.inr ⟨λh=>?_,by omega⟩)
    exact hc ((EX n).1 (hcu n h)).2
  ·have:=(Ih FH (f:=λx=>x.2)).length_le
   exact vS this TY
  ·rcases la.1 hn with hn|hn
   ·refine .inl ⟨((EX n).1 (TZ n hn)).1,λe he=>(Wa n ((EX n).1 (TZ n hn)).1 e he).cV (λd hd=>?_) λhf=>.inr ⟨?_,λj d hj hd=>?_⟩⟩
    ·rcases mB.1 hd with rfl|hd
     ·exact Sm n hn
     ·obtain⟨s,_,rfl⟩:=kb.1 hd
      exact⟨rfl,rfl⟩
    ·exact w9.2 ⟨n,hn,by simp[hf,he]⟩
    ·rcases XB j d hd with⟨h,_⟩|⟨_,s,_,rfl⟩
     ·omega
     ·rfl
   ·obtain⟨h1,h2⟩:=mC.1 hn
    have h2:0<n.bP.bc:=by simpa using h2
    obtain⟨h3,h4⟩:=wc n h1 h2
    refine .inr ⟨h1,by omega,h3,Rg.new (d0:=⟨false,s0,false,u⟩) (s0:=qj n.bP) rfl ((SM _).2 ⟨n.bP,h4,h2,rfl⟩) rfl rfl (λj d hj hd=>?_) λs hs=>?_⟩
    ·rcases XB j d hd with⟨h,_⟩|⟨_,s,_,rfl⟩
     ·omega
     ·exact⟨rfl,rfl⟩
    ·obtain⟨p,_,_,rfl⟩:=(SM s).1 hs
     rfl
  ·rw[WW]
   refine⟨NS.sublist (Ih FH),?_,λx hx y hy=>?_⟩
   ·have:(sC (E.length:Int) B pl).Pairwise λx y=>0<y.bP.bc->x.bP.bc≠y.bP.bc:=by
     have h1:(B.zip pl).Pairwise λx y=>0<y.2.bc->x.2.bc≠y.2.bc:=by
      have:=sO.Z4
      rw[<-List.map_snd_zip (l₁:=B) (l₂:=pl) (by have:=sO.len;omega),GJ]at this
      exact this
     unfold sC
     rw[GJ]
     exact h1
    refine(this.sublist (Uj (p:=λn=>decide (0<n.bP.bc)))).imp_of_mem λ{x y}hx hy GY=>GY ?_
    have:=(mC.1 hy).2
    simpa using this
   ·obtain⟨h1,h2⟩:=mC.1 hy
    exactλh=>(KM x hx).1 _ (wc y h1 (by simpa using h2)).2 h.symm
  ·have h1:=(Ih FH (f:=λx=>!x.2)).length_le
   have h2:=sM (λn:bF=>decide (0<n.bP.bc)) (sC (E.length:Int) B pl)
   have h3:(sC (E.length:Int) B pl).length<=B.length:=by simp[sC];omega
   rw[kc]
   have h1:(iT U cut).length<=U.length:=h1
   omega
  ·obtain⟨j,n,p,h1,h2,rfl⟩:=Pw n' lY
   refine⟨n,gx h1,rfl,rfl,rfl,?_⟩
   rcases sO.ok j n p h1 h2 with h3|h3
   ·exact .inl h3
   ·have h0:=(gQ h3).2.1
    refine .inr ⟨h3,EK _ (mC.2 ⟨lY,decide_eq_true ?_⟩),(wc _ lY ?_).1⟩
    ·show 0<p.bc;omega
    ·show 0<p.bc;omega
  ·obtain⟨j,hj,rfl⟩:=pA hn
   have e1:B[j]? =some B[j]:=dC hj
   have e2:pl[j]? =some (pl[j]'(by rw[sO.len];exact hj)):=dC _
   exact⟨_,Wd j _ _ e1 e2,rfl⟩
  ·obtain⟨j,n,p,h1,h2,rfl⟩:=Pw x hx
   obtain⟨i,m,q,h3,h4,rfl⟩:=Pw y hy
   have:=sO.one h2 h4 h0 GY
   subst this
   rw[h1]at h3;rw[h2]at h4;cases h3;cases h4;rfl
  ·rcases mN hs with⟨s1,q1,q2,rfl⟩|⟨q1,d,q2,q3⟩
   ·exact .inl ⟨s1,q1,fK,uh⟩
   ·rcases XB _ d q2 with⟨h,rfl⟩|⟨_,s,_,rfl⟩
    ·obtain⟨p,h1,h2,rfl⟩:=(SM s).1 q3
     obtain⟨j,n,j1,j2,_⟩:=sO.get h1
     exact .inr ⟨by omega,_,Wd j n p j1 j2,rfl⟩
    ·simp[lN]at q3
end
end Go.Proofs.YtpbahncblggodaaGreat
