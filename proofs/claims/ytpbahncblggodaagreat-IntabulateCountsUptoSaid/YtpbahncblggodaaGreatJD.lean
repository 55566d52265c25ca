/- Plain laws, joined by gen/joinH.py. -/
import Derived.Test.YtpbahncblggodaaGreatJC
set_option linter.all false
namespace Go.Am
open Go.RowKit
set_option maxRecDepth 100000
def Kp{α:Type}(cmp:α->α->Option Int)(a0:List α)(a1:Int)(a2:Int):Option (List α):=(bZ (σ:=(List α×Int)) (τ:=(List α)) (λ((pY,vE):(List α×Int))=>bif (decide (vE<a2))then((bZ (σ:=(List α×Int)) (τ:=(List α)) (λ((mq,nJ):(List α×Int))=>((bif (decide (a1<nJ))then((ix mq nJ).bind λy3=>(ix mq (wr (nJ-1))).bind λy4=>(cmp y3 y4).bind λr5=>some (decide (r5<0)))else(some false)):Option Bool).bind λ(NC:Bool)=>bif NC then((ix mq (wr (nJ-1))).bind λy7=>(ix mq nJ).bind λy8=>(ix (mq.set nJ.toNat y7) (wr (nJ-1))).bind λy9=>some (.inl (((mq.set nJ.toNat y7).set (wr (nJ-1)).toNat y8),(wr (nJ-1)))))else(some (.inr mq))) cz (pY,vE)).bind λ(WR:(List α))=>some (.inl (WR,(wr (vE+1)))))else(some (.inr pY))) cz (a0,(wr (a1+1)))).bind λ(GX:(List α))=>some GX
def ND{α:Type}(a0:List α)(a1:Int)(a2:Int)(a3:Int):Option (List α):=(bZ (σ:=(List α×Int)) (τ:=(List α)) (λ((pY,iV):(List α×Int))=>bif (decide (iV<a3))then((ix pY (wr (a2+iV))).bind λy2=>(ix pY (wr (a1+iV))).bind λy3=>(ix (pY.set (wr (a1+iV)).toNat y2) (wr (a2+iV))).bind λy4=>some (.inl (((pY.set (wr (a1+iV)).toNat y2).set (wr (a2+iV)).toNat y3),(wr (iV+1)))))else(some (.inr pY))) cz (a0,0)).bind λ(GX:(List α))=>some GX
def Tv{α:Type}(a0:List α)(a1:Int)(a2:Int)(a3:Int):Option (List α):=(bZ (σ:=(List α×Int×Int)) (τ:=(List α×Int)) (λ((pY,iV,oA):(List α×Int×Int))=>bif (decide (iV≠oA))then(bif (decide (oA<iV))then((ND pY (wr (a2-iV)) a2 oA).bind λr3=>cu (r3.length=pY.length)<|some (.inl (r3,(wr (iV-oA)),oA)))else((ND pY (wr (a2-iV)) (wr ((wr (a2+oA))-iV)) iV).bind λr5=>cu (r5.length=pY.length)<|some (.inl (r5,iV,(wr (oA-iV))))))else(some (.inr (pY,iV)))) cz (a0,(wr (a2-a1)),(wr (a3-a2)))).bind λ((IK,CT):(List α×Int))=>(ND IK (wr (a2-CT)) a2 CT).bind λr7=>some r7
def uJ{α:Type}(cmp:α->α->Option Int):Nat->(List α)->Int->Int->Int->Option (List α)
 |0,_,_,_,_=>none
 |fu+1,a0,a1,a2,a3=>bif (decide ((wr (a2-a1))=1))then((bZ (σ:=(Int×Int)) (τ:=Int) (λ((iV,oA):(Int×Int))=>bif (decide (iV<oA))then((ix a0 (wr ((eu (IntKind.wrap .u64 ((wr (iV+oA)))) 1)))).bind λy3=>(ix a0 a1).bind λy4=>(cmp y3 y4).bind λr5=>bif (decide (r5<0))then(some (.inl ((wr ((wr ((eu (IntKind.wrap .u64 ((wr (iV+oA)))) 1)))+1)),oA)))else(some (.inl (iV,(wr ((eu (IntKind.wrap .u64 ((wr (iV+oA)))) 1)))))))else(some (.inr iV))) cz (a2,a3)).bind λ(CT:Int)=>(bZ (σ:=(List α×Int)) (τ:=(List α)) (λ((mq,wF):(List α×Int))=>bif (decide (wF<(wr (CT-1))))then((ix mq (wr (wF+1))).bind λy8=>(ix mq wF).bind λy9=>(ix (mq.set wF.toNat y8) (wr (wF+1))).bind λy10=>some (.inl (((mq.set wF.toNat y8).set (wr (wF+1)).toNat y9),(wr (wF+1)))))else(some (.inr mq))) cz (a0,a1)).bind λ(GY:(List α))=>some GY)else(bif (decide ((wr (a3-a2))=1))then((bZ (σ:=(Int×Int)) (τ:=Int) (λ((BL,ER):(Int×Int))=>bif (decide (BL<ER))then((ix a0 a2).bind λUK=>(ix a0 (wr ((eu (IntKind.wrap .u64 ((wr (BL+ER)))) 1)))).bind λKL=>(cmp UK KL).bind λr15=>bif (!(decide (r15<0)))then(some (.inl ((wr ((wr ((eu (IntKind.wrap .u64 ((wr (BL+ER)))) 1)))+1)),ER)))else(some (.inl (BL,(wr ((eu (IntKind.wrap .u64 ((wr (BL+ER)))) 1)))))))else(some (.inr BL))) cz (a1,a2)).bind λ(Tw:Int)=>(bZ (σ:=(List α×Int)) (τ:=(List α)) (λ((NE,wG):(List α×Int))=>bif (decide (Tw<wG))then((ix NE (wr (wG-1))).bind λy18=>(ix NE wG).bind λy19=>(ix (NE.set wG.toNat y18) (wr (wG-1))).bind λy20=>some (.inl (((NE.set wG.toNat y18).set (wr (wG-1)).toNat y19),(wr (wG-1)))))else(some (.inr NE))) cz (a0,a2)).bind λ(Tx:(List α))=>some Tx)else(((bif (decide ((wr ((eu (IntKind.wrap .u64 ((wr (a1+a3)))) 1)))<a2))then(some ((wr ((wr ((wr ((eu (IntKind.wrap .u64 ((wr (a1+a3)))) 1)))+a2))-a3)),(wr ((eu (IntKind.wrap .u64 ((wr (a1+a3)))) 1)))))else(some (a1,a2))):Option (Int×Int)).bind λ((WS,WT):(Int×Int))=>(bZ (σ:=(Int×Int)) (τ:=Int) (λ((zm,BM):(Int×Int))=>bif (decide (zm<BM))then((ix a0 (wr ((wr ((wr ((wr ((eu (IntKind.wrap .u64 ((wr (a1+a3)))) 1)))+a2))-1))-(wr ((eu (IntKind.wrap .u64 ((wr (zm+BM)))) 1)))))).bind λy23=>(ix a0 (wr ((eu (IntKind.wrap .u64 ((wr (zm+BM)))) 1)))).bind λy24=>(cmp y23 y24).bind λr25=>bif (!(decide (r25<0)))then(some (.inl ((wr ((wr ((eu (IntKind.wrap .u64 ((wr (zm+BM)))) 1)))+1)),BM)))else(some (.inl (zm,(wr ((eu (IntKind.wrap .u64 ((wr (zm+BM)))) 1)))))))else(some (.inr zm))) cz (WS,WT)).bind λ(nK:Int)=>((((bif (decide (nK<a2))then(some (decide (a2<(wr ((wr ((wr ((eu (IntKind.wrap .u64 ((wr (a1+a3)))) 1)))+a2))-nK)))))else(some false)):Option Bool).bind λ(Ty:Bool)=>bif Ty then((Tv a0 nK a2 (wr ((wr ((wr ((eu (IntKind.wrap .u64 ((wr (a1+a3)))) 1)))+a2))-nK))).bind λr29=>cu (r29.length=a0.length)<|some r29)else(some a0)):Option (List α)).bind λ(Tz:(List α))=>((((bif (decide (a1<nK))then(some (decide (nK<(wr ((eu (IntKind.wrap .u64 ((wr (a1+a3)))) 1))))))else(some false)):Option Bool).bind λ(P5:Bool)=>bif P5 then((uJ cmp fu Tz a1 nK (wr ((eu (IntKind.wrap .u64 ((wr (a1+a3)))) 1)))).bind λr33=>cu (r33.length=Tz.length)<|some r33)else(some Tz)):Option (List α)).bind λ(WU:(List α))=>((bif (decide ((wr ((eu (IntKind.wrap .u64 ((wr (a1+a3)))) 1)))<(wr ((wr ((wr ((eu (IntKind.wrap .u64 ((wr (a1+a3)))) 1)))+a2))-nK))))then(some (decide ((wr ((wr ((wr ((eu (IntKind.wrap .u64 ((wr (a1+a3)))) 1)))+a2))-nK))<a3)))else(some false)):Option Bool).bind λ(P6:Bool)=>bif P6 then((uJ cmp fu WU (wr ((eu (IntKind.wrap .u64 ((wr (a1+a3)))) 1))) (wr ((wr ((wr ((eu (IntKind.wrap .u64 ((wr (a1+a3)))) 1)))+a2))-nK)) a3).bind λr37=>some r37)else(some WU)))
def CU{α:Type}(cmp:α->α->Option Int)(a0:List α)(a1:Int)(a2:Int)(a3:Int):Option (List α):=uJ cmp cz a0 a1 a2 a3
def Kq{α:Type}(cmp:α->α->Option Int)(a0:List α)(a1:Int):Option (List α):=(bZ (σ:=(List α×Int×Int)) (τ:=(List α×Int)) (λ((pY,Ki,vE):(List α×Int×Int))=>bif (decide (vE<=a1))then((Kp cmp pY Ki vE).bind λr2=>cu (r2.length=pY.length)<|some (.inl (r2,vE,(wr (vE+20)))))else(some (.inr (pY,Ki)))) cz (a0,0,20)).bind λ((IK,WV):(List α×Int))=>(Kp cmp IK WV a1).bind λr4=>cu (r4.length=IK.length)<|(bZ (σ:=(List α×Int)) (τ:=(List α)) (λ((mq,GZ):(List α×Int))=>bif (decide (GZ<a1))then((bZ (σ:=(List α×Int×Int)) (τ:=(List α×Int)) (λ((G7,G9,CV):(List α×Int×Int))=>bif (decide (CV<=a1))then((CU cmp G7 G9 (wr (G9+GZ)) CV).bind λr8=>cu (r8.length=G7.length)<|some (.inl (r8,CV,(wr (CV+(wr (2*GZ)))))))else(some (.inr (G7,G9)))) cz (mq,0,(wr (2*GZ)))).bind λ((zn,zo):(List α×Int))=>((bif (decide ((wr (zo+GZ))<a1))then((CU cmp zn zo (wr (zo+GZ)) a1).bind λGQ=>cu (GQ.length=zn.length)<|some GQ)else(some zn)):Option (List α)).bind λ(TA:(List α))=>some (.inl (TA,(wr (GZ*2)))))else(some (.inr mq))) cz (r4,20)).bind λ(GY:(List α))=>some GY
theorem xD{σ τ:Type}{body:σ->Option (σ⊕τ)}(Inv:σ->Prop)(μ:σ->Nat)(lg:τ->Prop)
  (hb: ∀s,Inv s->(∃s',body s=some (.inl s')/\Inv s'/\μ s'<μ s)\/(∃r,body s=some (.inr r)/\lg r)): ∀(F:Nat)(s:σ),Inv s->μ s<F-> ∃r,bZ body F s=some r/\lg r
 |0,s,_,h=>absurd h (Nat.not_lt_zero _)
 |F+1,s,hi,hF=>by
  rcases hb s hi with⟨s',h1,h2,h3⟩|⟨r,h1,h2⟩
  ·obtain⟨r,h4,h5⟩:=xD Inv μ lg hb F s' h2 (by omega)
   exact⟨r,by simp only[bZ,h1,h4],h5⟩
  ·exact⟨r,by simp only[bZ,h1],h2⟩
theorem mQ{σ τ β:Type}{body:σ->Option (σ⊕τ)}{f:τ->Option β}{P:β->Prop}{s0:σ}(Inv:σ->Prop)(μ:σ->Nat)(lg:τ->Prop)(h0:Inv s0)(hn:μ s0<=4194304)
  (hb: ∀s,Inv s->(∃s',body s=some (.inl s')/\Inv s'/\μ s'<μ s)\/(∃r,body s=some (.inr r)/\lg r)) (k: ∀r,lg r-> ∃z,f r=some z/\P z): ∃z,(bZ body cz s0).bind f=some z/\P z:=
 iw (xD Inv μ lg hb cz s0 h0 (by unfold cz;omega)) k
theorem IL{α β:Type}{l:List α}{i j:Nat}{I J:Int}(hI:I=(i:Int))(hJ:J=(j:Int))(hi:i<l.length)(hj:j<l.length){f:List α->Option β}{P:β->Prop}(k: ∀q:List α,q.Perm l-> ∃z,f q=some z/\P z):
  ∃z,((ix l J).bind λy2=>(ix l I).bind λy3=>(ix (l.set I.toNat y2) J).bind λ_=>f ((l.set I.toNat y2).set J.toNat y3))=some z/\P z:=by
 subst hI;subst hJ
 have x1:l[j]? =some l[j]:=dH hj
 have x2:l[i]? =some l[i]:=dH hi
 have x3: ∃y,(l.set i l[j])[j]? =some y:=⟨_,dH (by simpa using hj)⟩
 obtain⟨y,x3⟩:=x3
 simp only[cj x1,cj x2,oH,cK,cj x3]
 exact k _ (@List.set_set_perm _ l i j hi hj)
theorem CW{α:Type}(l0:List α)(hs:l0.length<=4194304)(a b n:Nat)(ha:a+n<=l0.length)(hb:b+n<=l0.length){A B N:Int}(hA:A=(a:Int))(hB:B=(b:Int))(hN:N=(n:Int)): ∃r,ND l0 A B N=some r/\r.Perm l0:=by
 subst hA;subst hB;subst hN
 unfold ND
 refine eK (λk(s:List α×Int)=>s.2=(k:Int)/\s.1.Perm l0) (λr=>r.Perm l0) n (by omega) ⟨rfl,.refl _⟩ ?_ ?_ ?_
 ·rintro k ⟨l,s2⟩ hk ⟨e,hp⟩
  simp only at e hp
  subst e
  have hl:=hp.length_eq
  have c1:(k:Int)<(n:Int):=by omega
  simp only[c1,gp,cS]
  have w1:wr ((a:Int)+(k:Int))=((a+k:Nat):Int):=by rw[iL (by omega) (by omega)];omega
  have w2:wr ((b:Int)+(k:Int))=((b+k:Nat):Int):=by rw[iL (by omega) (by omega)];omega
  obtain⟨z,h1,h2⟩:=IL (l:=l) w1 w2 (by omega) (by omega) (f:=λq=>some (Sum.inl (β:=List α) (q,wr ((k:Int)+1)))) (P:=λz=> ∃s',z=.inl s'/\s'.2=((k+1:Nat):Int)/\s'.1.Perm l0)
   (λq hq=>⟨_,rfl,_,rfl,by rw[iL (by omega) (by omega)];omega,hq.trans hp⟩)
  obtain⟨s',rfl,h3,h4⟩:=h2
  exact .inl ⟨s',h1,h3,h4⟩
 ·rintro⟨l,s2⟩ ⟨e,hp⟩
  simp only at e hp
  subst e
  have c1: ¬((n:Int)<(n:Int)):=by omega
  simp only[c1,dX,dj]
  exact⟨_,rfl,hp⟩
 ·intro r hr
  exact⟨r,rfl,hr⟩
theorem P7{α:Type}(l0:List α)(hs:l0.length<=4194304)(a m b:Nat)(h1:a<m)(h2:m<b)(h3:b<=l0.length){A M B:Int}(hA:A=(a:Int))(hM:M=(m:Int))(hB:B=(b:Int)): ∃r,Tv l0 A M B=some r/\r.Perm l0:=by
 subst hA;subst hM;subst hB
 unfold Tv
 have w1:wr ((m:Int)-(a:Int))=((m-a:Nat):Int):=by rw[iL (by omega) (by omega)];omega
 have w2:wr ((b:Int)-(m:Int))=((b-m:Nat):Int):=by rw[iL (by omega) (by omega)];omega
 rw[w1,w2]
 refine mQ (λ(s:List α×Int×Int)=> ∃i j:Nat,s.2.1=(i:Int)/\s.2.2=(j:Int)/\0<i/\0<j/\i<=m-a/\j<=b-m/\s.1.Perm l0) (λs=>s.2.1.toNat+s.2.2.toNat)
  (λ(r:List α×Int)=> ∃i:Nat,r.2=(i:Int)/\i<=m-a/\i<=b-m/\r.1.Perm l0) ⟨m-a,b-m,rfl,rfl,by omega,by omega,eF _,eF _,.refl _⟩ (by simp only[oH];omega) ?_ ?_
 ·rintro⟨l,s1,s2⟩ ⟨i,j,e1,e2,hi,hj,WA,UL,hp⟩
  simp only at e1 e2 hp
  subst e1;subst e2
  have hl:=hp.length_eq
  by_cases oT:(i:Int)=(j:Int)
  ·have c:decide ((i:Int)≠(j:Int))=false:=mC (by omega)
   simp only[c,dj]
   exact .inr ⟨_,rfl,i,rfl,WA,by omega,hp⟩
  ·have c:decide ((i:Int)≠(j:Int))=true:=xM oT
   simp only[c,cS]
   have w3:wr ((m:Int)-(i:Int))=((m-i:Nat):Int):=by rw[iL (by omega) (by omega)];omega
   by_cases gq:(j:Int)<(i:Int)
   ·obtain⟨r,e,hr⟩:=CW l (by omega) (m-i) m j (by omega) (by omega) w3 rfl rfl
    have w4:wr ((i:Int)-(j:Int))=((i-j:Nat):Int):=by rw[iL (by omega) (by omega)];omega
    simp only[gq,gp,cS,e,cK,dg hr.length_eq,w4]
    exact .inl ⟨_,rfl,⟨i-j,j,rfl,rfl,by omega,hj,by omega,UL,hr.trans hp⟩,by simp only[oH];omega⟩
   ·have w5:wr (wr ((m:Int)+(j:Int))-(i:Int))=((m+j-i:Nat):Int):=by rw[iL (n:=(m:Int)+(j:Int)) (by omega) (by omega),iL (by omega) (by omega)];omega
    obtain⟨r,e,hr⟩:=CW l (by omega) (m-i) (m+j-i) i (by omega) (by omega) w3 w5 rfl
    have w4:wr ((j:Int)-(i:Int))=((j-i:Nat):Int):=by rw[iL (by omega) (by omega)];omega
    simp only[gq,dX,dj,e,cK,dg hr.length_eq,w4]
    exact .inl ⟨_,rfl,⟨i,j-i,rfl,rfl,hi,by omega,WA,by omega,hr.trans hp⟩,by simp only[oH];omega⟩
 ·rintro⟨l,s1⟩ ⟨i,e1,hi,WA,hp⟩
  simp only at e1 hp
  subst e1
  have hl:=hp.length_eq
  have w3:wr ((m:Int)-(i:Int))=((m-i:Nat):Int):=by rw[iL (by omega) (by omega)];omega
  obtain⟨r,e,hr⟩:=CW l (by omega) (m-i) m i (by omega) (by omega) w3 rfl rfl
  simp only[e,cK]
  exact⟨r,rfl,hr.trans hp⟩
theorem P8{i j:Nat}(h1:i<=4194304)(h2:j<=4194304):wr (eu (IntKind.wrap .u64 (wr ((i:Int)+(j:Int)))) 1)=(((i+j) / 2:Nat):Int):=by
 have w1:wr ((i:Int)+(j:Int))=((i+j:Nat):Int):=by rw[sY (by omega) (by omega)];omega
 have w2:IntKind.wrap .u64 ((i+j:Nat):Int)=((i+j:Nat):Int):=by
  rw[IntKind.wrap_u64];omega
 have w3:eu ((i+j:Nat):Int) 1=(((i+j) / 2:Nat):Int):=by
  unfold eu
  have:(2:Int)^(min (1:Int).toNat 64)=2:=by decide
  rw[this,Int.fdiv_eq_ediv_of_nonneg _ (by omega)]
  omega
 rw[w1,w2,w3]
 exact sY (by omega) (by omega)
theorem NF{body:Int×Int->Option ((Int×Int)⊕Int)}(lo hi:Nat)(hh:hi<=4194304)(P9:lo<=hi)
  (hb: ∀i j:Nat,lo<=i->i<j->j<=hi->body ((i:Int),(j:Int))=some (.inl ((((i+j) / 2+1:Nat):Int),(j:Int)))\/body ((i:Int),(j:Int))=some (.inl ((i:Int),(((i+j) / 2:Nat):Int))))
  (he: ∀i:Nat,lo<=i->i<=hi->body ((i:Int),(i:Int))=some (.inr (i:Int))): ∃r,bZ body cz ((lo:Int),(hi:Int))=some r/\ ∃i:Nat,r=(i:Int)/\lo<=i/\i<=hi:=by
 refine xD (λ(s:Int×Int)=> ∃i j:Nat,s=((i:Int),(j:Int))/\lo<=i/\i<=j/\j<=hi) (λs=>s.2.toNat-s.1.toNat) _ ?_ cz _ ⟨lo,hi,rfl,eF _,P9,eF _⟩ (by simp only[oH];unfold cz;omega)
 rintro s ⟨i,j,rfl,h1,h2,h3⟩
 by_cases oT:i=j
 ·subst oT
  exact .inr ⟨_,he i h1 h3,i,rfl,h1,h3⟩
 ·rcases hb i j h1 (by omega) h3 with h|h
  ·exact .inl ⟨_,h,⟨_,_,rfl,by omega,by omega,h3⟩,by simp only[oH];omega⟩
  ·exact .inl ⟨_,h,⟨_,_,rfl,h1,by omega,by omega⟩,by simp only[oH];omega⟩
section
variable {α:Type} {cmp:α->α->Option Int} {G:α->Prop} (hc: ∀x y,G x->G y-> ∃r,cmp x y=some r)
include hc
theorem IM(l0:List α)(hs:l0.length<=4194304)(hg: ∀p∈l0,G p)(a b:Nat)(ha:a<=4194304)(hb:b<=l0.length){A B:Int}(hA:A=(a:Int))(hB:B=(b:Int)): ∃r,Kp cmp l0 A B=some r/\r.Perm l0:=by
 subst hA;subst hB
 unfold Kp
 refine mQ (λ(s:List α×Int)=>(∃k:Nat,s.2=(k:Int)/\a+1<=k)/\s.1.Perm l0) (λs=>b-s.2.toNat) (λr=>r.Perm l0) ⟨⟨a+1,?_,eF _⟩,.refl _⟩ (by omega) ?_ ?_
 ·show wr ((a:Int)+1)=((a+1:Nat):Int)
  rw[iL (by omega) (by omega)];omega
 ·rintro⟨l,s2⟩ ⟨⟨k,e,hk⟩,hp⟩
  simp only at e hp
  subst e
  have dA:=hp.length_eq
  by_cases c1:(k:Int)<(b:Int)
  ·simp only[c1,gp,cS]
   have:=xD (body:=λ((mq,nJ):(List α×Int))=>((bif (decide ((a:Int)<nJ))then((ix mq nJ).bind λy3=>(ix mq (wr (nJ-1))).bind λy4=>(cmp y3 y4).bind λr5=>some (decide (r5<0)))else(some false)):Option Bool).bind λ(NC:Bool)=>bif NC then((ix mq (wr (nJ-1))).bind λy7=>(ix mq nJ).bind λy8=>(ix (mq.set nJ.toNat y7) (wr (nJ-1))).bind λy9=>some (.inl (((mq.set nJ.toNat y7).set (wr (nJ-1)).toNat y8),(wr (nJ-1)))))else(some (.inr mq)))
    (λ(s:List α×Int)=>(∃j:Nat,s.2=(j:Int)/\j<=k)/\s.1.Perm l0) (λs=>s.2.toNat) (λr=>r.Perm l0) ?_ cz (l,(k:Int)) ⟨⟨k,rfl,eF _⟩,hp⟩ (by simp only[oH];unfold cz;omega)
   ·obtain⟨r,h1,h2⟩:=this
    rw[h1]
    simp only[cK]
    refine .inl ⟨_,rfl,⟨⟨k+1,?_,by omega⟩,h2⟩,?_⟩
    ·show wr ((k:Int)+1)=_;rw[iL (by omega) (by omega)];omega
    ·show b-(wr ((k:Int)+1)).toNat<b-((k:Int)).toNat
     rw[iL (by omega) (by omega)];omega
   ·rintro⟨q,s2⟩ ⟨⟨j,e,hj⟩,hq⟩
    simp only at e hq
    subst e
    have P2:=hq.length_eq
    by_cases c2:(a:Int)<(j:Int)
    ·have x1:q[j]? =some (q[j]'(by omega)):=dH _
     have x2:q[j-1]? =some (q[j-1]'(by omega)):=dH _
     have w:wr ((j:Int)-1)=((j-1:Nat):Int):=by rw[iL (by omega) (by omega)];omega
     obtain⟨r5,e5⟩:=hc (q[j]'(by omega)) (q[j-1]'(by omega)) (hg _ (hq.mem_iff.1 (va _))) (hg _ (hq.mem_iff.1 (va _)))
     simp only[c2,gp,cS,cj x1,w,cj x2,e5,cK]
     cases decide (r5<0)
     ·exact .inr ⟨_,rfl,hq⟩
     ·simp only[cS]
      obtain⟨z,h1,h2⟩:=IL (l:=q) (i:=j) (j:=j-1) rfl rfl (by omega) (by omega) (f:=λq'=>some (Sum.inl (β:=List α) (q',((j-1:Nat):Int)))) (P:=λz=> ∃s',z=.inl s'/\s'.2=((j-1:Nat):Int)/\s'.1.Perm l0)
       (λq' hq'=>⟨_,rfl,_,rfl,rfl,hq'.trans hq⟩)
      obtain⟨s',rfl,h3,h4⟩:=h2
      simp only[cj x1,cj x2,cK]at h1
      refine .inl ⟨s',h1,⟨⟨j-1,h3,by omega⟩,h4⟩,?_⟩
      show s'.2.toNat<((j:Int)).toNat
      rw[h3];omega
    ·simp only[c2,dX,dj,cK]
     exact .inr ⟨_,rfl,hq⟩
  ·simp only[c1,dX,dj]
   exact .inr ⟨_,rfl,hp⟩
 ·intro r hr
  exact⟨r,rfl,hr⟩
theorem zp: ∀(fu:Nat)(l0:List α)(a m b:Nat),l0.length<=4194304->(∀p∈l0,G p)->a<m->m<b->b<=l0.length->b-a<=fu-> ∃r,uJ cmp fu l0 (a:Int) (m:Int) (b:Int)=some r/\r.Perm l0
 |0,l0,a,m,b,hs,hg,h1,h2,h3,hf=>by omega
 |fu+1,l0,a,m,b,hs,hg,h1,h2,h3,hf=>by
  unfold uJ
  have at_: ∀i:Nat,i<l0.length-> ∃y,l0[i]? =some y/\G y:=λi hi=>⟨_,dH hi,hg _ (va _)⟩
  have w1:wr ((m:Int)-(a:Int))=((m-a:Nat):Int):=by rw[iL (by omega) (by omega)];omega
  have w2:wr ((b:Int)-(m:Int))=((b-m:Nat):Int):=by rw[iL (by omega) (by omega)];omega
  simp only[w1,w2]
  by_cases ca:m-a=1
  ·have c:decide (((m-a:Nat):Int)=1)=true:=xM (by omega)
   simp only[c,cS]
   refine iw (NF m b (by omega) (by omega) ?_ ?_) ?_
   ·intro i j hi oT hj
    have c1:(i:Int)<(j:Int):=by omega
    obtain⟨y,x1,g1⟩:=at_ ((i+j) / 2) (by omega)
    obtain⟨z,x2,g2⟩:=at_ a (by omega)
    obtain⟨r,e⟩:=hc y z g1 g2
    have w3:wr ((((i+j) / 2:Nat):Int)+1)=(((i+j) / 2+1:Nat):Int):=by rw[iL (by omega) (by omega)];omega
    simp only[c1,gp,cS,P8 (i:=i) (j:=j) (by omega) (by omega),cj x1,cj x2,e,cK,w3]
    cases decide (r<0)
    ·exact .inr rfl
    ·exact .inl rfl
   ·intro i hi hj
    have c1: ¬((i:Int)<(i:Int)):=by omega
    simp only[c1,dX,dj]
   ·rintro _ ⟨i,rfl,hi,hj⟩
    have w3:wr ((i:Int)-1)=((i-1:Nat):Int):=by rw[iL (by omega) (by omega)];omega
    simp only[w3]
    refine mQ (λ(s:List α×Int)=>(∃k:Nat,s.2=(k:Int))/\s.1.Perm l0) (λs=>b-s.2.toNat) (λr=>r.Perm l0) ⟨⟨a,rfl⟩,.refl _⟩ (by omega) ?_ λr hr=>⟨r,rfl,hr⟩
    rintro⟨l,s2⟩ ⟨⟨k,e⟩,hp⟩
    simp only at e hp
    subst e
    have hl:=hp.length_eq
    by_cases c1:(k:Int)<((i-1:Nat):Int)
    ·have w4:wr ((k:Int)+1)=((k+1:Nat):Int):=by rw[iL (by omega) (by omega)];omega
     obtain⟨z,e1,e2⟩:=IL (l:=l) (i:=k) (j:=k+1) rfl w4 (by omega) (by omega) (f:=λq=>some (Sum.inl (β:=List α) (q,wr ((k:Int)+1)))) (P:=λz=> ∃s',z=.inl s'/\s'.2=((k+1:Nat):Int)/\s'.1.Perm l0)
      (λq hq=>⟨_,rfl,_,rfl,w4,hq.trans hp⟩)
     obtain⟨s',rfl,e3,e4⟩:=e2
     simp only[c1,gp,cS]
     refine .inl ⟨s',e1,⟨⟨k+1,e3⟩,e4⟩,?_⟩
     show b-s'.2.toNat<b-((k:Int)).toNat
     rw[e3];omega
    ·simp only[c1,dX,dj]
     exact .inr ⟨_,rfl,hp⟩
  ·have c:decide (((m-a:Nat):Int)=1)=false:=mC (by omega)
   simp only[c,dj]
   by_cases cb:b-m=1
   ·have c:decide (((b-m:Nat):Int)=1)=true:=xM (by omega)
    simp only[c,cS]
    refine iw (NF a m (by omega) (by omega) ?_ ?_) ?_
    ·intro i j hi oT hj
     have c1:(i:Int)<(j:Int):=by omega
     obtain⟨y,x1,g1⟩:=at_ ((i+j) / 2) (by omega)
     obtain⟨z,x2,g2⟩:=at_ m (by omega)
     obtain⟨r,e⟩:=hc z y g2 g1
     have w3:wr ((((i+j) / 2:Nat):Int)+1)=(((i+j) / 2+1:Nat):Int):=by rw[iL (by omega) (by omega)];omega
     simp only[c1,gp,cS,P8 (i:=i) (j:=j) (by omega) (by omega),cj x1,cj x2,e,cK,w3]
     cases decide (r<0)
     ·exact .inl rfl
     ·exact .inr rfl
    ·intro i hi hj
     have c1: ¬((i:Int)<(i:Int)):=by omega
     simp only[c1,dX,dj]
    ·rintro _ ⟨i,rfl,hi,hj⟩
     refine mQ (λ(s:List α×Int)=>(∃k:Nat,s.2=(k:Int)/\k<=m)/\s.1.Perm l0) (λs=>s.2.toNat) (λr=>r.Perm l0) ⟨⟨m,rfl,eF _⟩,.refl _⟩ (by simp only[oH];omega) ?_ λr hr=>⟨r,rfl,hr⟩
     rintro⟨l,s2⟩ ⟨⟨k,e,hk⟩,hp⟩
     simp only at e hp
     subst e
     have hl:=hp.length_eq
     by_cases c1:(i:Int)<(k:Int)
     ·have w4:wr ((k:Int)-1)=((k-1:Nat):Int):=by rw[iL (by omega) (by omega)];omega
      obtain⟨z,e1,e2⟩:=IL (l:=l) (i:=k) (j:=k-1) rfl w4 (by omega) (by omega) (f:=λq=>some (Sum.inl (β:=List α) (q,wr ((k:Int)-1)))) (P:=λz=> ∃s',z=.inl s'/\s'.2=((k-1:Nat):Int)/\s'.1.Perm l0)
       (λq hq=>⟨_,rfl,_,rfl,w4,hq.trans hp⟩)
      obtain⟨s',rfl,e3,e4⟩:=e2
      simp only[c1,gp,cS]
      refine .inl ⟨s',e1,⟨⟨k-1,e3,by omega⟩,e4⟩,?_⟩
      show s'.2.toNat<((k:Int)).toNat
      rw[e3];omega
     ·simp only[c1,dX,dj]
      exact .inr ⟨_,rfl,hp⟩
   ·have c:decide (((b-m:Nat):Int)=1)=false:=mC (by omega)
    simp only[c,dj,P8 (i:=a) (j:=b) (by omega) (by omega)]
    generalize As:(a+b) / 2=kO
    have Bm:a<kO:=by omega
    have Dx:kO<b:=by omega
    have wn:wr ((kO:Int)+(m:Int))=((kO+m:Nat):Int):=by rw[iL (by omega) (by omega)];omega
    simp only[wn]
    refine iw (P1:=λq=> ∃lo hi:Nat,q=((lo:Int),(hi:Int))/\a<=lo/\lo<=hi/\hi<=m/\hi<=kO/\kO+m<=b+lo) ?_ ?_
    ·by_cases cm:(kO:Int)<(m:Int)
     ·have w5:wr (((kO+m:Nat):Int)-(b:Int))=((kO+m-b:Nat):Int):=by rw[iL (by omega) (by omega)];omega
      simp only[cm,gp,cS,w5]
      exact⟨_,rfl,kO+m-b,kO,rfl,by omega,by omega,by omega,by omega,by omega⟩
     ·simp only[cm,dX,dj]
      exact⟨_,rfl,a,m,rfl,by omega,by omega,by omega,by omega,by omega⟩
    ·rintro _ ⟨lo,hi,rfl,p1,p2,p3,p4,p5⟩
     simp only
     refine iw (NF lo hi (by omega) p2 ?_ ?_) ?_
     ·intro i j AP oT hj
      have c1:(i:Int)<(j:Int):=by omega
      have wp:wr (((kO+m:Nat):Int)-1)=((kO+m-1:Nat):Int):=by rw[iL (by omega) (by omega)];omega
      have wq:wr (((kO+m-1:Nat):Int)-(((i+j) / 2:Nat):Int))=((kO+m-1-(i+j) / 2:Nat):Int):=by rw[iL (by omega) (by omega)];omega
      obtain⟨y,x1,g1⟩:=at_ ((i+j) / 2) (by omega)
      obtain⟨z,x2,g2⟩:=at_ (kO+m-1-(i+j) / 2) (by omega)
      obtain⟨r,e⟩:=hc z y g2 g1
      have w3:wr ((((i+j) / 2:Nat):Int)+1)=(((i+j) / 2+1:Nat):Int):=by rw[iL (by omega) (by omega)];omega
      simp only[c1,gp,cS,P8 (i:=i) (j:=j) (by omega) (by omega),wp,wq,cj x1,cj x2,e,cK,w3]
      cases decide (r<0)
      ·exact .inl rfl
      ·exact .inr rfl
     ·intro i AP hj
      have c1: ¬((i:Int)<(i:Int)):=by omega
      simp only[c1,dX,dj]
     ·rintro _ ⟨i,rfl,hi1,WA⟩
      have we:wr (((kO+m:Nat):Int)-(i:Int))=((kO+m-i:Nat):Int):=by rw[iL (by omega) (by omega)];omega
      simp only[we]
      refine iw (P1:=λq=>q.Perm l0) ?_ λq7 WW=>?_
      ·by_cases d1:(i:Int)<(m:Int)
       ·by_cases d2:(m:Int)<((kO+m-i:Nat):Int)
        ·obtain⟨r,e,hr⟩:=P7 l0 hs i m (kO+m-i) (by omega) (by omega) (by omega) rfl rfl rfl
         simp only[d1,d2,gp,cS,cK,e,dg hr.length_eq]
         exact⟨r,rfl,hr⟩
        ·simp only[d1,d2,gp,dX,cS,dj,cK]
         exact⟨_,rfl,.refl _⟩
       ·simp only[d1,dX,dj,cK]
        exact⟨_,rfl,.refl _⟩
      have hl7:=WW.length_eq
      refine iw (P1:=λq=>q.Perm l0) ?_ λq9 WX=>?_
      ·by_cases d1:(a:Int)<(i:Int)
       ·by_cases d2:(i:Int)<(kO:Int)
        ·obtain⟨r,e,hr⟩:=zp fu q7 a i kO (by omega) (λp hp=>hg p (WW.mem_iff.1 hp)) (by omega) (by omega) (by omega) (by omega)
         simp only[d1,d2,gp,cS,cK,e,dg hr.length_eq]
         exact⟨r,rfl,hr.trans WW⟩
        ·simp only[d1,d2,gp,dX,cS,dj,cK]
         exact⟨_,rfl,WW⟩
       ·simp only[d1,dX,dj,cK]
        exact⟨_,rfl,WW⟩
      have hl9:=WX.length_eq
      by_cases d1:(kO:Int)<((kO+m-i:Nat):Int)
      ·by_cases d2:((kO+m-i:Nat):Int)<(b:Int)
       ·obtain⟨r,e,hr⟩:=zp fu q9 kO (kO+m-i) b (by omega) (λp hp=>hg p (WX.mem_iff.1 hp)) (by omega) (by omega) (by omega) (by omega)
        simp only[d1,d2,gp,cS,cK,e]
        exact⟨r,rfl,hr.trans WX⟩
       ·simp only[d1,d2,gp,dX,cS,dj,cK]
        exact⟨_,rfl,WX⟩
      ·simp only[d1,dX,dj,cK]
       exact⟨_,rfl,WX⟩
theorem IP(l0:List α)(a m b:Nat)(hs:l0.length<=4194304)(hg: ∀p∈l0,G p)(h1:a<m)(h2:m<b)(h3:b<=l0.length){A M B:Int}(hA:A=(a:Int))(hM:M=(m:Int))(hB:B=(b:Int)): ∃r,CU cmp l0 A M B=some r/\r.Perm l0:=by
 subst hA;subst hM;subst hB
 exact zp hc cz l0 a m b hs hg h1 h2 h3 (by unfold cz;omega)
theorem IQ(l0:List α)(hs:l0.length<=4194304)(hg: ∀p∈l0,G p){N:Int}(hN:N=(l0.length:Int)): ∃r,Kq cmp l0 N=some r/\r.Perm l0:=by
 subst hN
 generalize hn:l0.length=n at hs
 unfold Kq
 refine mQ (λ(s:List α×Int×Int)=> ∃a:Nat,s.2.1=(a:Int)/\s.2.2=((a+20:Nat):Int)/\a<=n/\s.1.Perm l0) (λs=>n-s.2.1.toNat)
  (λ(r:List α×Int)=> ∃a:Nat,r.2=(a:Int)/\a<=n/\r.1.Perm l0) ⟨0,rfl,rfl,by omega,.refl _⟩ (by omega) ?_ ?_
 ·rintro⟨l,s1,s2⟩ ⟨a,e1,e2,ha,hp⟩
  simp only at e1 e2 hp
  subst e1;subst e2
  have hl:=hp.length_eq
  by_cases c1:((a+20:Nat):Int)<=(n:Int)
  ·obtain⟨r,e,hr⟩:=IM hc l (by omega) (λp h=>hg p (hp.mem_iff.1 h)) a (a+20) (by omega) (by omega) rfl rfl
   have w:wr (((a+20:Nat):Int)+20)=((a+20+20:Nat):Int):=by rw[iL (by omega) (by omega)];omega
   simp only[c1,gp,cS,e,cK,dg hr.length_eq,w]
   exact .inl ⟨_,rfl,⟨a+20,rfl,rfl,by omega,hr.trans hp⟩,by simp only[oH];omega⟩
  ·simp only[c1,dX,dj]
   exact .inr ⟨_,rfl,a,rfl,ha,hp⟩
 ·rintro⟨l,s1⟩ ⟨a,e1,ha,hp⟩
  simp only at e1 hp
  subst e1
  have hl:=hp.length_eq
  obtain⟨r4,e,hr⟩:=IM hc l (by omega) (λp h=>hg p (hp.mem_iff.1 h)) a n (by omega) (by omega) rfl rfl
  simp only[e,cK,dg hr.length_eq]
  refine mQ (λ(s:List α×Int)=>(∃k:Nat,s.2=(k:Int)/\1<=k)/\s.1.Perm l0) (λs=>n-s.2.toNat) (λr=>r.Perm l0) ⟨⟨20,rfl,by omega⟩,hr.trans hp⟩ (by omega) ?_ λr hr=>⟨r,rfl,hr⟩
  rintro⟨q,s2⟩ ⟨⟨k,e2,hk⟩,hq⟩
  simp only at e2 hq
  subst e2
  by_cases c1:(k:Int)<(n:Int)
  ·have w2:wr (2*(k:Int))=((2*k:Nat):Int):=by rw[iL (by omega) (by omega)];omega
   have w3:wr ((k:Int)*2)=((2*k:Nat):Int):=by rw[iL (by omega) (by omega)];omega
   simp only[c1,gp,cS,w2,w3]
   have key: ∃z,((bZ (σ:=(List α×Int×Int)) (τ:=(List α×Int)) (λ((G7,G9,CV):(List α×Int×Int))=>bif (decide (CV<=(n:Int)))then((CU cmp G7 G9 (wr (G9+(k:Int))) CV).bind λr8=>cu (r8.length=G7.length)<|some (.inl (r8,CV,(wr (CV+((2*k:Nat):Int))))))else(some (.inr (G7,G9)))) cz (q,0,((2*k:Nat):Int))).bind λ((zn,zo):(List α×Int))=>((bif (decide ((wr (zo+(k:Int)))<(n:Int)))then((CU cmp zn zo (wr (zo+(k:Int))) (n:Int)).bind λGQ=>cu (GQ.length=zn.length)<|some GQ)else(some zn)):Option (List α)).bind λ(TA:(List α))=>some (Sum.inl (β:=List α) (TA,((2*k:Nat):Int))))=some z/\ ∃s',z=.inl s'/\s'.2=((2*k:Nat):Int)/\s'.1.Perm l0:=by
    refine mQ (λ(s:List α×Int×Int)=> ∃a:Nat,s.2.1=(a:Int)/\s.2.2=((a+2*k:Nat):Int)/\a<=n/\s.1.Perm l0) (λs=>n-s.2.1.toNat)
     (λ(r:List α×Int)=> ∃a:Nat,r.2=(a:Int)/\a<=n/\r.1.Perm l0) ⟨0,rfl,by show((2*k:Nat):Int)=_;omega,by omega,hq⟩ (by omega) ?_ ?_
    ·rintro⟨l,s1,s2⟩ ⟨a,e1,e2,ha,hp⟩
     simp only at e1 e2 hp
     subst e1;subst e2
     have hl:=hp.length_eq
     by_cases c1:((a+2*k:Nat):Int)<=(n:Int)
     ·have w4:wr ((a:Int)+(k:Int))=((a+k:Nat):Int):=by rw[iL (by omega) (by omega)];omega
      obtain⟨r,e,hr⟩:=IP hc l a (a+k) (a+2*k) (by omega) (λp h=>hg p (hp.mem_iff.1 h)) (by omega) (by omega) (by omega) rfl w4 rfl
      have w:wr (((a+2*k:Nat):Int)+((2*k:Nat):Int))=((a+2*k+2*k:Nat):Int):=by rw[iL (by omega) (by omega)];omega
      simp only[c1,gp,cS,e,cK,dg hr.length_eq,w]
      exact .inl ⟨_,rfl,⟨a+2*k,rfl,rfl,by omega,hr.trans hp⟩,by simp only[oH];omega⟩
     ·simp only[c1,dX,dj]
      exact .inr ⟨_,rfl,a,rfl,ha,hp⟩
    ·rintro⟨l,s1⟩ ⟨a,e1,ha,hp⟩
     simp only at e1 hp
     subst e1
     have hl:=hp.length_eq
     have w4:wr ((a:Int)+(k:Int))=((a+k:Nat):Int):=by rw[iL (by omega) (by omega)];omega
     by_cases c2:((a+k:Nat):Int)<(n:Int)
     ·obtain⟨r,e,hr⟩:=IP hc l a (a+k) n (by omega) (λp h=>hg p (hp.mem_iff.1 h)) (by omega) (by omega) (by omega) rfl w4 rfl
      simp only[w4,c2,gp,cS]
      rw[w4]at e
      simp only[e,cK,dg hr.length_eq]
      exact⟨_,rfl,_,rfl,rfl,hr.trans hp⟩
     ·simp only[w4,c2,dX,dj,cK]
      exact⟨_,rfl,_,rfl,rfl,hp⟩
   obtain⟨z,h1,s',rfl,h2,h3⟩:=key
   refine .inl ⟨s',h1,⟨⟨2*k,h2,by omega⟩,h3⟩,?_⟩
   show n-s'.2.toNat<n-((k:Int)).toNat
   rw[h2];omega
  ·simp only[c1,dX,dj]
   exact .inr ⟨_,rfl,hq⟩
end
end Go.Am
set_option linter.all false
namespace Go.Proofs.YtpbahncblggodaaGreat
open Go Go.Am
set_option maxRecDepth 100000
theorem f322_g:f322=Kp f270:=rfl
theorem f323r_g: ∀fu,f323r fu=uJ f270 fu
 |0=>rfl
 |fu+1=>by
  funext a0 a1 a2 a3
  unfold f323r uJ
  rw[f323r_g fu];rfl
theorem f323_g:f323=CU f270:=by
 funext a0 a1 a2 a3
 unfold f323 CU
 rw[f323r_g]
theorem f306_g:f306=Kq f270:=by
 funext a0 a1
 unfold f306 Kq
 rw[f323_g,f322_g]
theorem f269_ex(l:List (List aW))(hl:l.length<=4194304)(hp: ∀p∈l,bU p): ∃r,f269 l=some r/\r.Perm l:=by
 unfold f269
 rw[f306_g]
 obtain⟨r,h1,h2⟩:=IQ (cmp:=f270) (G:=bU) (λx y hx hy=>let⟨r,e,_⟩:=f270_ex x y hx hy;⟨r,e⟩) l hl hp rfl
 rw[h1]
 exact⟨r,rfl,h2⟩
def Ha(x y:bx):Option Int:=f158 x.bO x.bY x.bW x.dx x.bQ.bt x.bQ.cy x.de y.bO y.bY y.bW y.dx y.bQ.bt y.bQ.cy y.de
theorem f263_g:f263=Kp Ha:=rfl
theorem f264r_g: ∀fu,f264r fu=uJ Ha fu
 |0=>rfl
 |fu+1=>by
  funext a0 a1 a2 a3
  unfold f264r uJ
  rw[f264r_g fu];rfl
theorem f264_g:f264=CU Ha:=by
 funext a0 a1 a2 a3
 unfold f264 CU
 rw[f264r_g]
theorem f217_g:f217=Kq Ha:=by
 funext a0 a1
 unfold f217 Kq
 rw[f264_g,f263_g]
theorem Qa(x y:bx)(hx:x.bO≠[])(hy:y.bO≠[]): ∃r,Ha x y=some r:=by
 unfold Ha f158
 obtain⟨a,l,e1⟩:=XJ hx
 obtain⟨b,q,e2⟩:=XJ hy
 rw[e1,e2]
 have i1:ix (a::l) 0=some a:=rfl
 have i2:ix (b::q) 0=some b:=rfl
 simp only[i1,i2,cK,f104_eq]
 exact⟨_,rfl⟩
theorem f157_ex(l:List bx)(hl:l.length<=4194304)(hm: ∀n∈l,n.bO≠[]): ∃r,f157 l=some r/\r.Perm l:=by
 unfold f157
 rw[f217_g]
 obtain⟨r,h1,h2⟩:=IQ (cmp:=Ha) (G:=λn=>n.bO≠[]) Qa l hl hm rfl
 rw[h1]
 exact⟨r,rfl,h2⟩
theorem f97_ex(d:cP)(t:Int)(hl:bU d.db)(hm: ∀n∈d.db,n.bO≠[]): ∃r,f97 d t=some r/\r.Perm (d.db.filter λn=>decide (t<n.dx)):=by
 have uT:d.db.length<=4194304:=hl
 unfold f97
 refine eK (λk(s:List bx×Int)=>s.2=(k:Int)/\s.1=(d.db.take k).filter λn=>decide (t<n.dx)) (λr=>r=d.db.filter λn=>decide (t<n.dx)) d.db.length hl ⟨rfl,by simp⟩ ?_ ?_ ?_
 ·rintro k ⟨s1,s2⟩ hk ⟨e0,e1⟩
  simp only at e0 e1
  subst e0;subst e1
  have x1:d.db[k]? =some (d.db[k]'hk):=dH _
  have hq:=sq (λn:bx=>decide (t<n.dx)) (d.db.take k)
  have JQ:(d.db.take k).length<=k:=KU ..
  have m1:((d.db.take k).filter λn=>decide (t<n.dx)).length+1<=bJ:=by unfold bJ;omega
  have ht:d.db.take (k+1)=d.db.take k++[d.db[k]'hk]:=by rw[List.take_succ,x1];rfl
  simp only[cJ x1,cS,cj x1,cK,dI hl x1,dg m1]
  cases c:decide (t<(d.db[k]'hk).dx)
  ·exact .inl ⟨_,rfl,rfl,by rw[ht,Dq];simp only[List.filter,c,xa]⟩
  ·exact .inl ⟨_,rfl,rfl,by rw[ht,Dq];simp only[List.filter,c]⟩
 ·rintro⟨s1,s2⟩ ⟨e0,e1⟩
  simp only at e0 e1
  subst e0;subst e1
  simp only[ky,dX,dj]
  exact⟨_,rfl,by rw[AL]⟩
 ·rintro r rfl
  have hq:=sq (λn:bx=>decide (t<n.dx)) d.db
  obtain⟨r,h1,h2⟩:=f157_ex (d.db.filter λn=>decide (t<n.dx)) (by omega) (λn hn=>hm n (lD.1 hn).1)
  simp only[h1,cK,dg h2.length_eq]
  exact⟨_,rfl,h2⟩
theorem f140_eq(l:List cW)(n:bx)(hl:bU l):f140 l n.bO n.bY n.bW n.dx n.bQ.bt n.bQ.cy n.de=some (gG (λs:cW=>decide (s.bt=n.bQ.bt)) l):=by
 unfold f140
 rw[ey l (λs:cW=>decide (s.bt=n.bQ.bt)) (λi _=>(i:Int)) hl]
 ·simp only[cK,fC,gG]
  cases l.findIdx? _<;>simp
 ·intro i y hy
  simp only[cJ hy,cS,cj hy,cK,f164]
  cases decide (y.bt=n.bQ.bt)<;>rfl
 ·simp
def hb(K:List bx)(e:Nat)(c:Int):Bool:=K.any λa=>decide (0<a.bQ.cy)&&(decide (a.de=(e:Int))&&decide (a.bQ.bt=c))
def uY(K:List bx)(now:Int)(e:Nat)(s:cW):cW:=bif hb K e s.bt then⟨s.bt,s.cy,s.right,s.jP,now-(e:Int)⟩else s
def rC(K:List bx)(now:Int)(e:Nat)(d:cn):cn:=⟨d.lC,d.sign,d.tie,d.df.map (uY K now e)⟩
theorem fT{K:List bx}{now:Int}{e:Nat}{s:cW}:(uY K now e s).bt=s.bt:=by unfold uY;cases hb K e s.bt<;>rfl
theorem uK{K:List bx}{now:Int}{e:Nat}{s:cW}:(uY K now e s).cy=s.cy:=by unfold uY;cases hb K e s.bt<;>rfl
theorem IR{now:Int}{e:Nat}{d:cn}:rC [] now e d=d:=by
 unfold rC
 have:uY [] now e=id:=rfl
 rw[this,List.map_id]
theorem xE{K:List bx}{a:bx}{e:Nat}{c:Int}:hb (K++[a]) e c=(hb K e c||(decide (0<a.bQ.cy)&&(decide (a.de=(e:Int))&&decide (a.bQ.bt=c)))):=by unfold hb;simp
theorem ES{α:Type}{p:α->Bool}: ∀{l:List α}{k:Nat}{x:α},l[k]? =some x->p x=true->(∀(j:Nat)y,l[j]? =some y->p y=true->j=k)->gG p l=(k:Int):=by
 intro l k x hx hp hu
 have h1:=rA (l:=l) (p:=p) (vV.2 ⟨x,gz hx,hp⟩)
 obtain⟨j,y,e1,e2,e3⟩:=h1
 rw[e1,hu j y e2 e3]
structure Ro (E:List cn) (a:bx):Prop where
 st: ∃(e:Nat)(d:cn)(k:Nat)(s:cW),a.de=(e:Int)/\E[e]? =some d/\d.df[k]? =some s/\s.bt=a.bQ.bt/\bU d.df/\ ∀(j:Nat)y,d.df[j]? =some y->y.bt=s.bt->j=k
theorem NG{E:List cn}{K:List bx}{a:bx}{now:Int}{e:Nat}{d:cn}{k:Nat}{s:cW}(ha:a.de=(e:Int))(hd:E[e]? =some d)(hk:d.df[k]? =some s)(hc:s.bt=a.bQ.bt)
  (hu: ∀(j:Nat)y,d.df[j]? =some y->y.bt=s.bt->j=k) (hf:0<a.bQ.cy):
  (E.mapIdx (rC K now)).set e ⟨d.lC,d.sign,d.tie,(d.df.map (uY K now e)).set k ⟨s.bt,s.cy,s.right,s.jP,now-(e:Int)⟩⟩=E.mapIdx (rC (K++[a]) now):=by
 apply Ul
 intro j
 by_cases hj:e=j
 ·subst hj
  have hl:=(fP.1 hd).1
  rw[KB (by simpa using hl),Qy,hd]
  simp only[gy,rC,Option.some.injEq,cn.mk.injEq,OL]
  apply Ul
  intro i
  by_cases hi:k=i
  ·subst hi
   have Dw:=(fP.1 hk).1
   rw[KB (by simpa using Dw),tx,hk]
   simp only[gy,uY,xE,hf,ha,hc,gp,Bool.and_self,Bool.or_true,cS]
  ·rw[FU hi,tx,tx]
   cases hy:d.df[i]? with
   |none=>rfl
   |some y=>
    have:decide (a.bQ.bt=y.bt)=false:=mC λh=>hi (hu i y hy (by rw[hc,h])).symm
    simp only[gy,uY,xE,this,Bool.and_false,U8]
 ·rw[FU hj,Qy,Qy]
  cases E[j]? with
  |none=>rfl
  |some y=>
   have h1:decide (a.de=(j:Int))=false:=mC λh=>hj (by omega)
   have:uY (K++[a]) now j=uY K now j:=by funext s;simp only[uY,xE,h1,XK,Bool.and_false,U8]
   simp only[gy,rC,this]
def jg(dW:List bx)(cut:List Bool):List bx:=((dW.zip cut).filter λx=>!x.2).map (·.1)
def CX(dW:List bx)(cut:List Bool):List bx:=((dW.zip cut).filter λx=>x.2).map (·.1)
def NH(now:Int)(n:bx)(p:aW):bx:=⟨n.bO,n.bY,n.bW,n.dx,p,bif decide (0<p.bt)then now else n.de⟩
def td(now:Int)(ct:List bx)(pl:List aW):List bx:=(ct.zip pl).map λx=>NH now x.1 x.2
def qJ(p:aW):cW:=⟨p.bt,p.cy,0,0,0⟩
theorem oB{α β:Type}{l:List α}{m:List β}{k:Nat}{a:α}{b:β}(h1:l[k]? =some a)(h2:m[k]? =some b):(l.zip m).take (k+1)=(l.zip m).take k++[(a,b)]:=cQ (BI h1 h2)
theorem f165_ex(l:List cW)(hs:bU l)(hd: ∀x∈l,∀y∈l,x.bt=y.bt->x=y): ∃r,f165 l=some r/\r.Perm l/\r.Pairwise λx y=>x.bt<=y.bt:=BH cW.bt f166 f166_eq l hs hd
theorem f100_ex(d:cP)(c:bV)(ct dW:List bx)(sg:cN)(hl:c.cut.length=dW.length)(hp:c.places.length=ct.length)(hu:dW.length<=100000)(hf:ct.length<=4000)(hE:d.bM.bG.length<=4000)
  (ho: ∀a∈dW,0<a.bQ.cy->Ro d.bM.bG a) (hd: ∀x∈c.places,∀y∈c.places,0<x.bt->x.bt=y.bt->x=y):
  ∃u,f100 d c ct dW sg=some (u,CX dW c.cut,td (d.bM.bG.length:Int) ct c.places,d.bM.bG.mapIdx (rC (jg dW c.cut) (d.bM.bG.length:Int)),
   jg dW c.cut++(td (d.bM.bG.length:Int) ct c.places).filter λn=>decide (0<n.bQ.bt))/\u.Perm ((c.places.filter λp=>decide (0<p.bt)).map qJ)/\u.Pairwise λx y=>x.bt<=y.bt:=by
 have key: ∃z,f100 d c ct dW sg=some z/\ ∃u,z=(u,CX dW c.cut,td (d.bM.bG.length:Int) ct c.places,d.bM.bG.mapIdx (rC (jg dW c.cut) (d.bM.bG.length:Int)),
   jg dW c.cut++(td (d.bM.bG.length:Int) ct c.places).filter λn=>decide (0<n.bQ.bt))/\u.Perm ((c.places.filter λp=>decide (0<p.bt)).map qJ)/\u.Pairwise λx y=>x.bt<=y.bt:=by
  unfold f100
  generalize JC:(d.bM.bG.length:Int)=now
  refine eK (λk(s:List cn×List bx×List bx×Int)=>s.2.2.2=(k:Int)/\s.2.1=(((dW.zip c.cut).take k).filter λx=>!x.2).map (·.1)/\s.2.2.1=(((dW.zip c.cut).take k).filter λx=>x.2).map (·.1)/\s.1=d.bM.bG.mapIdx (rC s.2.1 now))
   (λr=>r=(d.bM.bG.mapIdx (rC (jg dW c.cut) now),jg dW c.cut,CX dW c.cut)) dW.length (by omega) ?_ ?_ ?_ ?_
  ·refine⟨rfl,by simp,by simp,?_⟩
   show _=List.mapIdx (rC [] now) _
   have:rC [] now=λ_ d=>d:=by funext e d;exact IR
   rw[this]
   apply Ul
   intro i
   rw[Qy];cases d.bM.bG[i]?<;>rfl
  ·rintro k ⟨s1,s2,s3,s4⟩ hk ⟨e0,e1,e2,e3⟩
   simp only at e0 e1 e2 e3
   subst e0
   have x1:dW[k]? =some (dW[k]'hk):=dH _
   have x2:c.cut[k]? =some (c.cut[k]'(by omega)):=dH _
   have ha:=gz x1
   generalize dW[k]'hk=a at x1 ha
   generalize c.cut[k]'(by omega)=b at x2
   have b2:s2.length<=k:=by rw[e1];have:=sq (λx:bx×Bool=>!x.2) ((dW.zip c.cut).take k);have:=KU k (dW.zip c.cut);simp;omega
   have b3:s3.length<=k:=by rw[e2];have:=sq (λx:bx×Bool=>x.2) ((dW.zip c.cut).take k);have:=KU k (dW.zip c.cut);simp;omega
   have m2:s2.length+1<=bJ:=by unfold bJ;omega
   have m3:s3.length+1<=bJ:=by unfold bJ;omega
   simp only[cJ x1,cS,cj x1,cj x2,cK,dI (l:=dW) (by simp only[bU];omega) x1]
   cases b
   ·simp only[dj,dg m2]
    by_cases sx:0<a.bQ.cy
    ·obtain⟨e,dd,q,st,q1,q2,q3,q4,q5,q6⟩:=ho a ha sx
     have iM:=(fP.1 q2).1
     have y1:s1[e]? =some (rC s2 now e dd):=by rw[e3,Qy,q2];rfl
     have y2:(rC s2 now e dd).df[q]? =some (uY s2 now e st):=by show(dd.df.map _)[q]? =_;rw[tx,q3];rfl
     have n1:e<cT:=by unfold cT;omega
     have y3:f140 (rC s2 now e dd).df a.bO a.bY a.bW a.dx a.bQ.bt a.bQ.cy (e:Int)=some (q:Int):=by
      rw[<-q1,f140_eq _ a (by show(dd.df.map _).length<=_;rw[mB];exact q5)]
      congr 1
      refine ES y2 (by simp[fT,q4]) λj y hy hc=>?_
      have hy:(dd.df.map (uY s2 now e))[j]? =some y:=hy
      rw[tx]at hy
      obtain⟨y',On,rfl⟩:=Hy.1 hy
      rw[fT]at hc
      exact q6 j y' On (by rw[q4];simpa using hc)
     have w1:wr (now-(e:Int))=now-(e:Int):=iL (by omega) (by omega)
     have iz:=NG (K:=s2) (now:=now) q1 q2 q3 q4 q6 sx
     simp only[sx,gp,cS,q1,cj y1,cK,dg n1,y3,cj y2,w1,oH,fT]
     refine .inl ⟨_,rfl,rfl,?_,?_,?_⟩
     ·rw[oB x1 x2,e1];simp
     ·rw[oB x1 x2,e2];simp
     ·show s1.set e _=List.mapIdx (rC (s2++[a]) now) _
      rw[<-iz,e3]
      congr 2
      simp only[uY]
      cases hb s2 e st.bt<;>rfl
    ·simp only[sx,dX,dj,cK]
     refine .inl ⟨_,rfl,rfl,?_,?_,?_⟩
     ·rw[oB x1 x2,e1];simp
     ·rw[oB x1 x2,e2];simp
     ·show s1=List.mapIdx (rC (s2++[a]) now) _
      have:rC (s2++[a]) now=rC s2 now:=by
       funext e dd
       have:uY (s2++[a]) now e=uY s2 now e:=by funext s;simp only[uY,xE,sx,dX,XK,U8]
       simp only[rC,this]
      rw[this];exact e3
   ·simp only[cS,dg m3,cK]
    refine .inl ⟨_,rfl,rfl,?_,?_,e3⟩
    ·rw[oB x1 x2,e1];simp
    ·rw[oB x1 x2,e2];simp
  ·rintro⟨s1,s2,s3,s4⟩ ⟨e0,e1,e2,e3⟩
   simp only at e0 e1 e2 e3
   subst e0
   have ht:(dW.zip c.cut).take dW.length=dW.zip c.cut:=sG (by simp;omega)
   rw[ht]at e1 e2
   simp only[ky,dX,dj]
   refine⟨_,rfl,?_⟩
   show(s1,s2,s3)=_
   rw[e3,e1,e2];rfl
  rintro _ rfl
  simp only
  refine eK (λk(s:List bx×List cW×List bx×List bx×Int)=>s.2.2.2.2=(k:Int)/\s.2.2.2.1=ct.drop k/\s.2.2.1=(td now ct c.places).take k/\s.1=jg dW c.cut++((td now ct c.places).take k).filter (λn=>decide (0<n.bQ.bt))/\
   s.2.1=((c.places.take k).filter λp=>decide (0<p.bt)).map qJ)
   (λr=>r=(((c.places.filter λp=>decide (0<p.bt)).map qJ),td now ct c.places,([]:List bx),jg dW c.cut++(td now ct c.places).filter (λn=>decide (0<n.bQ.bt)))) ct.length (by omega) ⟨rfl,rfl,by simp,by simp,by simp⟩ ?_ ?_ ?_
  ·rintro k ⟨s1,s2,s3,s4,s5⟩ hk ⟨e0,e1,e2,e3,e4⟩
   simp only at e0 e1 e2 e3 e4
   subst e0
   have x1:ct[k]? =some (ct[k]'hk):=dH _
   have x2:c.places[k]? =some (c.places[k]'(by omega)):=dH _
   generalize ct[k]'hk=b at x1
   generalize c.places[k]'(by omega)=e at x2
   have v8:(td now ct c.places).length=ct.length:=by simp[td,hp]
   have x3:(td now ct c.places)[k]? =some (NH now b e):=by unfold td;rw[tx,BI x1 x2];rfl
   have i0:ix s4 0=some b:=by
    have:s4[0]? =some b:=by rw[e1];simpa using x1
    exact cj (i:=0) this
   have b3:s3.length=k:=by rw[e2,DB,v8];omega
   have UO:(jg dW c.cut).length<=dW.length:=by unfold jg;have:=sq (λx:bx×Bool=>!x.2) (dW.zip c.cut);simp at this |-;omega
   have b1:s1.length<=dW.length+k:=by
    rw[e3,jW]
    have:=sq (λn:bx=>decide (0<n.bQ.bt)) ((td now ct c.places).take k);have:=KU k (td now ct c.places);omega
   have b2:s2.length<=k:=by rw[e4];have:=sq (λp:aW=>decide (0<p.bt)) (c.places.take k);have:=KU k c.places;simp;omega
   have n1:s3.length<cT:=by unfold cT;omega
   have n2:(0:Int)<=(k:Int)/\(k:Int)<(ct.length:Int):=by omega
   have n3:((k:Int)).toNat=s3.length/\((k:Int)).toNat<=cT:=by unfold cT;omega
   have n4:s1.length+1<=bJ:=by unfold bJ;omega
   have n5:s2.length+1<=bJ:=by unfold bJ;omega
   have Oj:s4.drop 1=ct.drop (k+1):=by rw[e1,List.drop_drop]
   have c1:decide ((k:Int)<(ct.length:Int))=true:=cJ x1
   simp only[c1,cS,i0,cK,dg n1,dg n2,dg n3,cj x2,dI (l:=ct) (by simp only[bU];omega) x1]
   cases hc:decide (0<e.bt)
   ·refine .inl ⟨_,rfl,rfl,Oj,?_,?_,?_⟩
    ·show s3++[_]=_
     rw[cQ x3,e2]
     simp only[NH,hc,dj]
    ·show s1=_
     rw[cQ x3,Dq,e3]
     have:decide (0<(NH now b e).bQ.bt)=false:=hc
     simp[List.filter,this]
    ·show s2=_
     rw[cQ x2,Dq,e4]
     simp[List.filter,hc]
   ·simp only[cS,dg n4,dg n5]
    refine .inl ⟨_,rfl,rfl,Oj,?_,?_,?_⟩
    ·show s3++[_]=_
     rw[cQ x3,e2]
     simp only[NH,hc,cS]
    ·show s1++[_]=_
     rw[cQ x3,Dq,e3]
     have:decide (0<(NH now b e).bQ.bt)=true:=hc
     simp[List.filter,this]
     simp only[NH,hc,cS]
    ·show s2++[_]=_
     rw[cQ x2,Dq,e4]
     simp[List.filter,hc,qJ]
  ·rintro⟨s1,s2,s3,s4,s5⟩ ⟨e0,e1,e2,e3,e4⟩
   simp only at e0 e1 e2 e3 e4
   subst e0
   have v8:(td now ct c.places).length=ct.length:=by simp[td,hp]
   rw[sG (by omega)]at e2 e3
   rw[sG (by omega)]at e4
   rw[List.drop_eq_nil_of_le (eF _)]at e1
   subst e1;subst e2;subst e3;subst e4
   simp only[ky,dX,dj]
   exact⟨_,rfl,rfl⟩
  rintro _ rfl
  have P2:=sq (λp:aW=>decide (0<p.bt)) c.places
  obtain⟨u,u1,u2,u3⟩:=f165_ex ((c.places.filter λp:aW=>decide (0<p.bt)).map qJ) (by simp only[bU,mB];omega) λx hx y hy Ca=>by
   obtain⟨p,Tl,rfl⟩:=jJ.1 hx
   obtain⟨q,Rk,rfl⟩:=jJ.1 hy
   have h1:=lD.1 Tl
   have h2:=lD.1 Rk
   rw[hd p h1.1 q h2.1 (by simpa using h1.2) Ca]
  simp only[u1,cK,dg u2.length_eq,dg rfl]
  exact⟨_,rfl,u,rfl,u2,u3⟩
 obtain⟨z,h1,u,rfl,h2⟩:=key
 exact⟨u,h1,h2⟩
def wZ(d:cn):Bool:=d.df.isEmpty&&!d.tie
def tw(d:cn)(c:Int):Bool:=d.df.any λs=>decide (s.bt=c)
def iO(E:List cn)(k:Nat):Nat:=((E.take k).map λd=>tk d.sign).sum
def uZ(K:List bx)(F E:List cn):List cn:=E.mapIdx (rC K (E.length:Int))++F
def fy(E:List cn)(e:Nat)(s:cW):Prop:= ∃d,E[e]? =some d/\s∈d.df
section
variable {K:List bx} {F E:List cn} {e j c:Nat} {p:aW} {s:cW} {d:cn} {now:Int}
theorem IU:wZ (rC K now e d)=wZ d:=by simp[wZ,rC]
theorem ET{x:Int}:tw (rC K now e d) x=tw d x:=by simp only[tw,rC,List.any_map,Function.comp_def,fT]
theorem tg:(uZ K F E).length=E.length+F.length:=by simp[uZ]
theorem NI(h:j<E.length):(uZ K F E)[j]? =(E[j]?).map (rC K (E.length:Int) j):=by unfold uZ;rw[np (by simpa using h),Qy]
theorem EU(h:E.length<=j):(uZ K F E)[j]? =F[j-E.length]?:=by unfold uZ;rw[pG (by simpa using h)];simp
theorem qK(h:(uZ K F E)[j]? =some d):(∃d0,j<E.length/\E[j]? =some d0/\d=rC K (E.length:Int) j d0)\/(E.length<=j/\F[j-E.length]? =some d):=by
 rcases Dp j E.length with hj|hj
 ·rw[NI hj]at h
  obtain⟨d0,h1,h2⟩:=Hy.1 h
  exact .inl ⟨d0,hj,h1,h2.symm⟩
 ·rw[EU hj]at h;exact .inr ⟨hj,h⟩
theorem Rp:(E.mapIdx (rC K now)).map (λd=>tk d.sign)=E.map λd=>tk d.sign:=by
 apply Ul
 intro i
 rw[tx,Qy,tx]
 cases E[i]?<;>rfl
theorem IV(k:Nat):iO E k=((E.map λd=>tk d.sign).take k).sum:=by unfold iO;rw[KT]
theorem Rq(h:c<=E.length):iO (uZ K F E) c=iO E c:=by
 rw[IV,IV]
 unfold uZ
 rw[Dm,Rp,Xx (by simpa using h)]
theorem NJ:iO (uZ K F E) (uZ K F E).length=iO E E.length+(F.map λd=>tk d.sign).sum:=by
 rw[IV,IV,sG (by simp),sG (by simp)]
 unfold uZ
 rw[Dm,Rp,List.sum_append]
theorem nj(h:fy (uZ K F E) e s):(∃s0,fy E e s0/\e<E.length/\s=uY K (E.length:Int) e s0)\/(E.length<=e/\ ∃d,F[e-E.length]? =some d/\s∈d.df):=by
 obtain⟨d,h1,h2⟩:=h
 rcases qK h1 with⟨d0,q1,q2,rfl⟩|⟨q1,q2⟩
 ·obtain⟨s0,h3,rfl⟩:=jJ.1 h2
  exact .inl ⟨s0,⟨d0,q2,h3⟩,q1,rfl⟩
 ·exact .inr ⟨q1,d,q2,h2⟩
theorem fy.lt(h:fy E e s):e<E.length:=by obtain⟨d,h1,_⟩:=h;exact(fP.1 h1).1
theorem fy.nx(h:fy E e s):fy (uZ K F E) e (uY K (E.length:Int) e s):=by
 have hl:=h.lt
 obtain⟨d,h1,h2⟩:=h
 exact⟨_,by rw[NI hl,h1];rfl,jJ.2 ⟨s,h2,rfl⟩⟩
theorem Hb{x:Int}(h:hb K e x=true): ∃a∈K,0<a.bQ.cy/\a.de=(e:Int)/\a.bQ.bt=x:=by
 obtain⟨a,h1,h2⟩:=vV.1 h
 simp at h2
 exact⟨a,h1,h2.1,h2.2.1,h2.2.2⟩
structure Rg (E:List cn) (e:Nat) (p:aW) (c:Nat):Prop where
 lt:e<c
 le:c<=E.length
 st: ∃s,fy E e s/\s.bt=p.bt/\s.cy=p.cy
 ho: ∀s,fy E e s->s.bt=p.bt->0<p.cy-> ∀(j:Nat)d,(e:Int)+s.hold<(j:Int)->j<c->E[j]? =some d->d.tie=true
 on: ∀(j:Nat)d,e<j->j<c->E[j]? =some d->wZ d=false/\tw d p.bt=false
structure Nd (E:List cn) (e:Nat) (p:aW) (c:Nat):Prop where
 rg:Rg E e p c
 en: ∃d,E[c]? =some d/\(0<p.cy->d.tie=false/\ ∀s,fy E e s->s.bt=p.bt->(e:Int)+s.hold<(c:Int))/\(¬0<p.cy->tw d p.bt=true)
theorem TC(h: ∀(j:Nat)d,e<j->j<c->E[j]? =some d->wZ d=false/\tw d p.bt=false)(hc:c<=E.length): ∀(j:Nat)d,e<j->j<c->(uZ K F E)[j]? =some d->wZ d=false/\tw d p.bt=false:=λj d h1 h2 hd=>by
 rcases qK hd with⟨d0,q1,q2,rfl⟩|⟨q1,q2⟩
 ·rw[IU,ET];exact h j d0 h1 h2 q2
 ·omega
theorem Rg.keep(h:Rg E e p c):Rg (uZ K F E) e p c:=by
 have h1:=h.lt
 have h2:=h.le
 obtain⟨s,h3,h4,h5⟩:=h.st
 refine⟨h1,by rw[tg];omega,⟨_,h3.nx,by rw[fT];exact h4,by rw[uK];exact h5⟩,λs' hs hc hf j d hj hjc hd=>?_,TC h.on h2⟩
 rcases nj hs with⟨s0,q1,q2,rfl⟩|⟨q1,_⟩
 ·rw[fT]at hc
  rcases qK hd with⟨d0,r1,r2,rfl⟩|⟨r1,_⟩
  ·refine h.ho s0 q1 hc hf j d0 ?_ hjc r2
   unfold uY at hj
   cases hq:hb K e s0.bt<;>rw[hq]at hj
   ·exact hj
   ·simp only[cS]at hj;omega
  ·omega
 ·omega
theorem Nd.keep(h:Nd E e p c)(hK: ∀a∈K,0<a.bQ.cy-> ∀e:Nat,a.de=(e:Int)->Rg E e a.bQ E.length):Nd (uZ K F E) e p c:=by
 refine⟨h.rg.keep,?_⟩
 obtain⟨d,h1,h2,h3⟩:=h.en
 have hl:=(fP.1 h1).1
 refine⟨rC K (E.length:Int) c d,by rw[NI hl,h1];rfl,λhf=>⟨(h2 hf).1,λs hs hc=>?_⟩,λhf=>by rw[ET];exact h3 hf⟩
 rcases nj hs with⟨s0,q1,q2,rfl⟩|⟨q1,_⟩
 ·rw[fT]at hc
  have h4:=(h2 hf).2 s0 q1 hc
  unfold uY
  cases hq:hb K e s0.bt
  ·exact h4
  ·obtain⟨a,a1,a2,a3,a4⟩:=Hb hq
   have:=(hK a a1 a2 e a3).ho s0 q1 a4.symm a2 c d h4 hl h1
   rw[(h2 hf).1]at this;cases this
 ·have:=h.rg.lt;omega
theorem Rg.db(h:Rg E e p E.length)(hF: ∀d∈F,wZ d=false/\tw d p.bt=false)(ht:0<p.cy->(∀d∈F,d.tie=true)\/(hb K e p.bt=true/\ ∀(j:Nat)d,0<j->F[j]? =some d->d.tie=true)):Rg (uZ K F E) e p (uZ K F E).length:=by
 have h1:=h.lt
 obtain⟨s,h3,h4,h5⟩:=h.st
 refine⟨by rw[tg];omega,eF _,⟨_,h3.nx,by rw[fT];exact h4,by rw[uK];exact h5⟩,λs' hs hc hf j d hj _ hd=>?_,λj d hj _ hd=>?_⟩
 ·rcases nj hs with⟨s0,q1,q2,rfl⟩|⟨q1,_⟩
  ·rw[fT]at hc
   rcases qK hd with⟨d0,r1,r2,rfl⟩|⟨r1,r2⟩
   ·refine h.ho s0 q1 hc hf j d0 ?_ r1 r2
    unfold uY at hj
    cases hq:hb K e s0.bt<;>rw[hq]at hj
    ·exact hj
    ·simp only[cS]at hj;omega
   ·rcases ht hf with ht|⟨t1,t2⟩
    ·exact ht d (gz r2)
    ·unfold uY at hj
     rw[hc,t1]at hj
     simp only[cS]at hj
     exact t2 _ d (by omega) r2
  ·omega
 ·rcases qK hd with⟨d0,q1,q2,rfl⟩|⟨q1,q2⟩
  ·rw[IU,ET];exact h.on j d0 hj q1 q2
  ·exact hF d (gz q2)
theorem Rg.new{d0:cn}{s0:cW}(h0:F[0]? =some d0)(hs:s0∈d0.df)(hc:s0.bt=p.bt)(hf:s0.cy=p.cy)(ht: ∀(j:Nat)d,0<j->F[j]? =some d->d.tie=true/\d.df=[])(hh: ∀s∈d0.df,s.hold=0):
  Rg (uZ K F E) E.length p (uZ K F E).length:=by
 have hl:=(fP.1 h0).1
 refine⟨by rw[tg];omega,eF _,⟨s0,⟨d0,by rw[EU (eF _),Qs];exact h0,hs⟩,hc,hf⟩,λs hs _ _ j d hj _ hd=>?_,λj d hj _ hd=>?_⟩
 ·rcases nj hs with⟨s1,q1,q2,rfl⟩|⟨_,d1,q2,q3⟩
  ·omega
  ·rw[Qs,h0]at q2;cases q2
   have:=hh s q3
   rw[EU (by omega)]at hd
   exact(ht _ d (by omega) hd).1
 ·rw[EU (by omega)]at hd
  obtain⟨t1,t2⟩:=ht _ d (by omega) hd
  exact⟨by simp[wZ,t1],by simp[tw,t2]⟩
theorem Nd.new{d0:cn}(h:Rg E e p E.length)(hh: ∀s,fy E e s->(e:Int)+s.hold<(E.length:Int))(hK:0<p.cy->hb K e p.bt=false)(h0:F[0]? =some d0)(ht:d0.tie=false)(hp: ¬0<p.cy->tw d0 p.bt=true):Nd (uZ K F E) e p E.length:=by
 refine⟨h.keep,d0,by rw[EU (eF _),Qs];exact h0,λhf=>⟨ht,λs hs hc=>?_⟩,hp⟩
 rcases nj hs with⟨s0,q1,q2,rfl⟩|⟨q1,_⟩
 ·rw[fT]at hc
  unfold uY
  rw[hc,hK hf]
  exact hh s0 q1
 ·have:=h.lt;omega
theorem Rg.nd(h:Rg E e p E.length)(hn:Nd E e p c):False:=by
 obtain⟨d,h1,h2,h3⟩:=hn.en
 have hl:=(fP.1 h1).1
 by_cases hf:0<p.cy
 ·obtain⟨s,s1,s2,s3⟩:=h.st
  obtain⟨t1,t2⟩:=h2 hf
  rw[h.ho s s1 s2 hf c d (t2 s s1 s2) hl h1]at t1;cases t1
 ·have:=(h.on c d hn.rg.lt hl h1).2
  rw[h3 hf]at this;cases this
structure aap (a:bK) (E:List cn) (e:Nat) (s:cW):Prop where
 rg:s.right=0/\s.jP=0
 pl: ∃q,(⟨s.bt,s.cy⟩:aW)∈(eD a q).1
 h0:0<=s.hold
 hl:0<s.hold->0<s.cy/\s.hold<=15/\(e:Int)+s.hold<(E.length:Int)
 on: ∀(j:Nat)d,e<j->(j:Int)<=(e:Int)+s.hold->E[j]? =some d->wZ d=false/\tw d s.bt=false
structure Ev1 (n:Nat) (d:cn):Prop where
 lC:d.lC=false
 sg:d.sign∈gJ
 tie:d.tie=true->d.df=[]/\n≠0
 qF:d.df.Pairwise λx y=>x.bt<y.bt
structure kS (a:bK) (E:List cn):Prop where
 ev: ∀(e:Nat)d,E[e]? =some d->Ev1 e d
 st: ∀(e:Nat)s,fy E e s->aap a E e s
theorem kS.hold{a:bK}(h:kS a E)(hs:fy E e s):(e:Int)+s.hold<(E.length:Int):=by
 have h1:=h.st e s hs
 have h2:=hs.lt
 have h0:=h1.h0
 by_cases hq:0<s.hold
 ·exact(h1.hl hq).2.2
 ·omega
theorem kS.one{a:bK}(h:kS a E){s s':cW}(h1:fy E e s)(h2:fy E e s')(hc:s.bt=s'.bt):s=s':=by
 obtain⟨d,d1,d2⟩:=h1
 obtain⟨d',d3,d4⟩:=h2
 rw[d1]at d3;cases d3
 have hp:=(h.ev e d d1).qF
 obtain⟨i,hi,rfl⟩:=pH d2
 obtain⟨k,hk,rfl⟩:=pH d4
 rw[DD]at hp
 rcases Jk i k with q|q|q
 ·have:=hp i k hi hk q;omega
 ·subst q;rfl
 ·have:=hp k i hk hi q;omega
theorem kS.nx{a:bK}(h:kS a E)(hK: ∀x∈K,0<x.bQ.cy-> ∀e:Nat,x.de=(e:Int)->Rg E e x.bQ E.length/\(E.length:Int)-e<=15)
  (hF: ∀(j:Nat)d,F[j]? =some d->Ev1 (E.length+j) d/\ ∀s∈d.df,s.right=0/\s.jP=0/\s.hold=0/\ ∃q,(⟨s.bt,s.cy⟩:aW)∈(eD a q).1)
  (h0:F≠[]) (hK': ∀x∈K,∀d,F[0]? =some d->wZ d=false/\tw d x.bQ.bt=false):kS a (uZ K F E):=by
 have hFl:=RO.2 h0
 refine⟨λe d hd=>?_,λe s hs=>?_⟩
 ·rcases qK hd with⟨d0,q1,q2,rfl⟩|⟨q1,q2⟩
  ·have:=h.ev e d0 q2
   refine⟨this.lC,this.sg,λht=>?_,?_⟩
   ·have:=this.tie ht
    exact⟨by simp[rC,this.1],this.2⟩
   ·show(d0.df.map _).Pairwise _
    rw[FB]
    simp only[fT]
    exact this.qF
  ·have:=(hF _ d q2).1
   rwa[show E.length+(e-E.length)=e by omega]at this
 ·rcases nj hs with⟨s0,q1,q2,rfl⟩|⟨q1,d,q2,q3⟩
  ·have Qb:=h.st e s0 q1
   unfold uY
   cases hq:hb K e s0.bt
   ·refine⟨Qb.rg,Qb.pl,Qb.h0,λhp=>?_,λj d hj TF hd=>?_⟩
    ·have:=Qb.hl hp
     exact⟨this.1,this.2.1,by rw[tg];have:=this.2.2;show(e:Int)+s0.hold<_;omega⟩
    ·have TF:(j:Int)<=(e:Int)+s0.hold:=TF
     have:=h.hold q1
     rcases qK hd with⟨d0,r1,r2,rfl⟩|⟨r1,r2⟩
     ·rw[IU,ET];exact Qb.on j d0 hj TF r2
     ·omega
   ·obtain⟨x,x1,x2,x3,x4⟩:=Hb hq
    obtain⟨r1,r2⟩:=hK x x1 x2 e x3
    obtain⟨s1,s2,s3,s4⟩:=r1.st
    have hss:=h.one q1 s2 (by rw[s3,x4])
    refine⟨Qb.rg,Qb.pl,by simp only[cS];omega,λhp=>⟨?_,r2,?_⟩,λj d hj TF hd=>?_⟩
    ·show 0<s0.cy
     rw[hss,s4];exact x2
    ·rw[tg];simp only[cS];omega
    ·have TF:(j:Int)<=(e:Int)+((E.length:Int)-e):=TF
     show wZ d=false/\tw d s0.bt=false
     rcases qK hd with⟨d0,y1,y2,rfl⟩|⟨y1,y2⟩
     ·rw[IU,ET,<-x4];exact r1.on j d0 hj y1 y2
     ·rw[show j-E.length=0 by omega]at y2
      rw[<-x4];exact hK' x x1 d y2
  ·obtain⟨f1,f2,f3,f4⟩:=(hF _ d q2).2 s q3
   refine⟨⟨f1,f2⟩,f4,by omega,λhp=>by omega,λj d hj TF _=>by omega⟩
end
theorem CY{E:List cn}{e:Nat}{d:cn}(h:E[e]? =some d):iO E (e+1)=iO E e+tk d.sign:=by
 unfold iO
 rw[cQ h];simp
theorem pP{a:bK}{E:List cn}(h:kS a E): ∀{k e:Nat},e<k->k<=E.length->iO E e<iO E k
 |0,e,h1,_=>by omega
 |k+1,e,h1,h2=>by
  have e1:E[k]? =some (E[k]'(by omega)):=dH _
  have h3:=CY e1
  have h4:=(jM _ (h.ev k _ e1).sg).2.1
  rcases Dp e k with q|q
  ·have:=pP h q (by omega);omega
  ·have:e=k:=by omega
   subst this;omega
theorem CZ{a:bK}{E:List cn}(h:kS a E){e k:Nat}(h1:e<=E.length)(h2:k<=E.length)(he:iO E e=iO E k):e=k:=by
 rcases Jk e k with q|q|q
 ·have:=pP h q h2;omega
 ·exact q
 ·have:=pP h q h1;omega
def dV(P:List (List bP))(i k:Nat):Option bP:=P[i]?.bind λp=>p[k]?
structure AE (P:List (List bP)) (t:Int) (i k:Nat) (n:bx):Prop where
 pl:n.bQ=⟨0,0⟩
 ne:n.bO≠[]
 me: ∀m∈n.bO,∃(i' k':Nat)(x:bP),m=⟨(i':Int),(k':Int)⟩/\(i'<i\/i'=i/\k'<k)/\dV P i' k'=some x/\x.bW=t/\x.bY=n.bY/\x.dx<=n.dx
 qF:n.bO.Pairwise λa b=>a.part<b.part
structure C0 (P:List (List bP)) (t:Int) (i k:Nat) (l:List bx):Prop where
 no: ∀n∈l,AE P t i k n
 al: ∀(i' k':Nat)x,(i'<i\/i'=i/\k'<k)->dV P i' k'=some x->x.bW=t-> ∃n∈l,(⟨(i':Int),(k':Int)⟩:bX)∈n.bO
 pi:(l.map bx.bY).Nodup
 le:l.length<=i\/l.length<=i+1/\ ∃(k':Nat)(x:bP),k'<k/\dV P i k'=some x/\x.bW=t
def Hc(P:List (List bP)):Prop:= ∀(i k k':Nat)x x',dV P i k=some x->dV P i k'=some x'->x.bW=x'.bW->k=k'
theorem Hd{α:Type}{l:List α}{j:Nat}{n n' x:α}(h:l[j]? =some n)(hx:x∈l):x=n\/x∈l.set j n':=by
 obtain⟨i,hi,rfl⟩:=pH hx
 by_cases oT:j=i
 ·subst oT
  rw[dH hi]at h
  exact .inl (Option.some.inj h)
 ·refine .inr (List.mem_iff_getElem?.2 ⟨i,?_⟩)
  rw[FU oT,dH hi]
theorem uL{α β:Type}{f:α->β}{l:List α}{j:Nat}{n n':α}(h:l[j]? =some n)(hf:f n'=f n):(l.set j n').map f=l.map f:=by
 apply Ul
 intro i
 rw[tx,tx]
 by_cases oT:j=i
 ·subst oT
  rw[KB (fP.1 h).1,h];simp[hf]
 ·rw[FU oT]
theorem C1{a b:Int}:a<=kM a b/\b<=kM a b:=by unfold kM;split<;>omega
section
variable {P:List (List bP)} {t:Int} {i k:Nat} {l:List bx} {n:bx} {x:bP}
theorem AE.mono{i' k':Nat}(h:AE P t i k n)(hm:i<i'\/i=i'/\k<=k'):AE P t i' k' n:=⟨h.pl,h.ne,λm q=>by
 obtain⟨a,b,x,e1,e2,e3⟩:=h.me m q
 exact⟨a,b,x,e1,by omega,e3⟩,h.qF⟩
theorem AE.add(h:AE P t i k n)(hx:dV P i k=some x)(ht:x.bW=t)(hp:n.bY=x.bY)(h1:Hc P):AE P t i (k+1) (ta (i:Int) (k:Int) x n):=by
 refine⟨h.pl,by simp[ta],λm hm=>?_,?_⟩
 ·rcases lr.1 hm with hm|hm
  ·obtain⟨a,b,y,e1,e2,e3,e4,e5,e6⟩:=h.me m hm
   exact⟨a,b,y,e1,by omega,e3,e4,e5,by have:=(C1 (a:=n.dx) (b:=x.dx)).1;show y.dx<=kM n.dx x.dx;omega⟩
  ·simp at hm;subst hm
   exact⟨i,k,x,rfl,.inr ⟨rfl,Ue k⟩,hx,ht,hp.symm,C1.2⟩
 ·show(n.bO++[_]).Pairwise _
  rw[Va]
  refine⟨h.qF,by simp,λm hm m' pM=>?_⟩
  simp at pM;subst pM
  obtain⟨a,b,y,e1,e2,e3,e4,_⟩:=h.me m hm
  subst e1
  show(a:Int)<(i:Int)
  rcases e2 with e2|⟨rfl,e2⟩
  ·omega
  ·have:=h1 a b k y x e3 hx (by rw[e4,ht]);omega
theorem NK(h:C0 P t i k l)(h1:Hc P)(hx:dV P i k=some x):C0 P t i (k+1) (EP t (i:Int) (k:Int) l x):=by
 have pI: ∀n∈l,AE P t i (k+1) n:=λn hn=>(h.no n hn).mono (.inr ⟨rfl,by omega⟩)
 unfold EP
 by_cases ht:x.bW=t
 ·rw[dD ht]
  have eE:l.length<=i:=by
   rcases h.le with q|⟨_,k',y,q1,q2,q3⟩
   ·exact q
   ·have:=h1 i k' k y x q2 hx (by rw[q3,ht]);omega
  have Ge: ∀(m:Nat),m<=l.length+1->m<=i\/m<=i+1/\ ∃(k':Nat)(x:bP),k'<k+1/\dV P i k'=some x/\x.bW=t:=λm hm=>.inr ⟨by omega,k,x,by omega,hx,ht⟩
  cases hq:l.findIdx? (sB x)with
  |some j=>
   obtain⟨hj,hp,_⟩:=U9.1 hq
   have e1:l[j]? =some l[j]:=dH hj
   generalize l[j]=n at e1 hp
   have hn:=gz e1
   have hp:n.bY=x.bY:=by simpa[sB]using hp
   simp only[e1]
   refine⟨λm hm=>?_,λa b y JT hy Rr=>?_,?_,Ge _ (by simp)⟩
   ·rcases Xv hm with hm|rfl
    ·exact pI m hm
    ·exact(h.no n hn).add hx ht hp h1
   ·by_cases hc:a=i/\b=k
    ·obtain⟨rfl,rfl⟩:=hc
     exact⟨_,List.mem_set hj _,by simp[ta]⟩
    ·obtain⟨m,m1,m2⟩:=h.al a b y (by omega) hy Rr
     rcases Hd (n':=ta (i:Int) (k:Int) x n) e1 m1 with rfl|m1
     ·exact⟨_,List.mem_set hj _,by simp[ta,m2]⟩
     ·exact⟨m,m1,m2⟩
   ·rw[uL (n':=ta (i:Int) (k:Int) x n) e1 rfl];exact h.pi
  |none=>
   have rQ:=XH.1 hq
   refine⟨λm hm=>?_,λa b y JT hy Rr=>?_,?_,Ge _ (by simp)⟩
   ·rcases lr.1 hm with hm|hm
    ·exact pI m hm
    ·simp at hm;subst hm
     refine⟨rfl,by simp[ta],λm hm=>?_,by simp[ta]⟩
     simp[ta]at hm;subst hm
     exact⟨i,k,x,rfl,.inr ⟨rfl,Ue k⟩,hx,ht,rfl,C1.2⟩
   ·by_cases hc:a=i/\b=k
    ·obtain⟨rfl,rfl⟩:=hc
     exact⟨_,FA _ (RF.2 rfl),by simp[ta]⟩
    ·obtain⟨m,m1,m2⟩:=h.al a b y (by omega) hy Rr
     exact⟨m,Dn _ m1,m2⟩
   ·rw[Dm,List.nodup_append]
    refine⟨h.pi,by simp,λa ha b hb=>?_⟩
    simp[ta]at hb
    obtain⟨m,m1,rfl⟩:=jJ.1 ha
    have:=rQ m m1
    simp[sB]at this
    rw[hb];exact this
 ·rw[dM ht]
  refine⟨pI,λa b y JT hy Rr=>?_,h.pi,?_⟩
  ·by_cases hc:a=i/\b=k
   ·obtain⟨rfl,rfl⟩:=hc
    rw[hx]at hy;cases hy
    exact absurd Rr ht
   ·exact h.al a b y (by omega) hy Rr
  ·rcases h.le with q|⟨q,k',y,q1,q2⟩
   ·exact .inl q
   ·exact .inr ⟨q,k',y,by omega,q2⟩
theorem zq(h1:Hc P): ∀(r:List bP)(k:Nat)(l:List bx),C0 P t i k l->(∀j:Nat,r[j]? =dV P i (k+j))->C0 P t i (k+r.length) (nI t (i:Int) k r l)
 | [],k,l,h,_=>h
 |x::r,k,l,h,hr=>by
  have:=zq h1 r (k+1) _ (NK h h1 (x:=x) (by have:=hr 0;simpa using this.symm)) λj=>by have:=hr (j+1);rw[show k+1+j=k+(j+1)by omega,<-this];simp
  rw[oG,show k+(r.length+1)=k+1+r.length by omega]
  exact this
theorem zr(h1:Hc P): ∀(r:List (List bP))(i:Nat)(l:List bx),C0 P t i 0 l->(∀j:Nat,r[j]? =P[i+j]?)->C0 P t (i+r.length) 0 (qI t i r l)
 | [],i,l,h,_=>h
 |p::r,i,l,h,hr=>by
  have hp:P[i]? =some p:=by have:=hr 0;simpa using this.symm
  have h2:=zq h1 p 0 l h λj=>by simp[dV,hp]
  have h3:C0 P t (i+1) 0 (nI t (i:Int) 0 p l):=by
   refine⟨λn hn=>(h2.no n hn).mono (.inl (by omega)),λa b y JT hy Rr=>h2.al a b y ?_ hy Rr,h2.pi,?_⟩
   ·rcases Dp a i with q|q
    ·exact .inl q
    ·have:a=i:=by omega
     subst this
     simp only[dV,hp,cK]at hy
     have:=(fP.1 hy).1
     exact .inr ⟨rfl,by omega⟩
   ·rcases h2.le with q|⟨q,_⟩
    ·exact .inl (by omega)
    ·exact .inl q
  have:=zr h1 r (i+1) _ h3 λj=>by have:=hr (j+1);rw[show i+1+j=i+(j+1)by omega,<-this];simp
  rw[oG,show i+(r.length+1)=i+1+r.length by omega]
  exact this
end
theorem NL{P:List (List bP)}(t:Int)(h1:Hc P):C0 P t P.length 0 (qI t 0 P []):=by
 have:=zr (P:=P) (t:=t) h1 P 0 [] ⟨by simp,λa b y JT=>by omega,by simp,.inl (by simp)⟩ λj=>by simp
 simpa using this
theorem xF{n:Int}: ∀{l:List Int}{lo:Int},l.Pairwise (· < ·)->(∀x∈l,lo<=x/\x<n)->lo<=n->(l.length:Int)<=n-lo
 | [],lo,_,_,h=>by simp;omega
 |x::r,lo,hp,hx,h=>by
  rw[Dr]at hp
  have OW:=hx x (by simp)
  have:=xF (n:=n) (lo:=x+1) hp.2 (λy hy=>by have:=hp.1 y hy;have:=hx y (by simp[hy]);omega) (by omega)
  simp only[oG];omega
theorem AE.len{P:List (List bP)}{t:Int}{n:bx}(h:AE P t P.length 0 n):n.bO.length<=P.length:=by
 have:=xF (n:=(P.length:Int)) (l:=n.bO.map bX.part) (lo:=0) (by rw[FB];exact h.qF) (λx hx=>by
  obtain⟨m,hm,rfl⟩:=jJ.1 hx
  obtain⟨a,b,y,rfl,e2,_⟩:=h.me m hm
  show 0<=(a:Int)/\(a:Int)<_
  omega) (by omega)
 simp at this;omega
theorem IW{P:List (List bP)}(h: ∀p∈P,Ax 0 p=true):Hc P:=λi k k' x x' h1 h2 he=>by
 unfold dV at h1 h2
 cases hp:P[i]? with
 |none=>rw[hp]at h1;simp at h1
 |some p=>
  rw[hp]at h1 h2
  simp only[cK]at h1 h2
  obtain⟨q1,q2⟩:=xA p 0 (h p (gz hp))
  rcases Jk k k' with c|c|c
  ·have:=q2 k k' x x' c h1 h2;have:=q1 k x h1;omega
  ·exact c
  ·have:=q2 k' k x' x c h2 h1;have:=q1 k' x' h2;omega
theorem kt{α β:Type}{f:α->List β}{b:Nat}: ∀{l:List α},(∀x∈l,(f x).length<=b)->(l.flatMap f).length<=l.length*b
 | [],_=>by simp
 |x::l,h=>by
  have h1:=h x (by simp)
  have h2:=kt (l:=l) λy hy=>h y (by simp[hy])
  simp only[FQ,jW,oG,uV,Nat.one_mul]
  omega
theorem uM(a:bK)(s:Int): ∀(ns:List bx)(bs:List Bool)(pre:List aW),(ways a s ns bs pre).length<=14^ns.length
 |n::ns,b::bs,pre=>by
  unfold ways
  have hp:14^(n::ns).length=14*14^ns.length:=by rw[oG,Nat.pow_succ,RI]
  rw[hp]
  cases b
  ·cases decide ((eD a (wr (n.bY+s))).2≠0)
   ·have h1:=kt (l:=(eD a (wr (n.bY+s))).1.filter λp=>!(pre.any (lM p.bt))) (f:=λp=>ways a s ns bs (pre++[p])) (b:=14^ns.length) λp _=>uM a s ns bs _
    have h2:=sq (λp:aW=>!(pre.any (lM p.bt))) (eD a (wr (n.bY+s))).1
    have h3:=GV a (wr (n.bY+s))
    have h4:=Aa (14^ns.length) (vU h2 h3)
    simp only[dj]
    omega
   ·simp
  ·simp only[cS]
   have:=uM a s ns bs (pre++[⟨0,0⟩])
   omega
 | [],_,pre=>by simp[ways]
 |_::ns,[],pre=>by
  have:0<14^(ns.length+1):=Nat.pow_pos (by omega)
  simp[ways];omega
def PlO(a:bK)(s:Int)(n:bx)(b:Bool)(p:aW):Prop:=(b=true/\p=⟨0,0⟩)\/(b=false/\p∈(eD a (wr (n.bY+s))).1)
theorem C2(a:bK)(s:Int): ∀(ns:List bx)(bs:List Bool)(pre pl:List aW),bs.length=ns.length->pl∈ways a s ns bs pre->
  ∃q,pl=pre++q/\q.length=ns.length/\(∀(j:Nat)n b p,ns[j]? =some n->bs[j]? =some b->q[j]? =some p->PlO a s n b p)/\(∀p∈q,0<p.bt-> ∀p'∈pre,p'.bt≠p.bt)/\q.Pairwise λx y=>0<y.bt->x.bt≠y.bt
 | [],bs,pre,pl,hl,h=>by
  simp[ways]at h
  exact⟨[],by simp[h],rfl,by simp,by simp,by simp⟩
 |n::ns,[],pre,pl,hl,h=>by simp at hl
 |n::ns,b::bs,pre,pl,hl,h=>by
  have key: ∃p,PlO a s n b p/\(0<p.bt-> ∀p'∈pre,p'.bt≠p.bt)/\pl∈ways a s ns bs (pre++[p]):=by
   unfold ways at h
   cases b
   ·simp only[dj]at h
    cases hd:decide ((eD a (wr (n.bY+s))).2≠0)
    ·rw[hd]at h
     simp only[dj,sF,lD]at h
     obtain⟨p,⟨h1,h2⟩,h3⟩:=h
     refine⟨p,.inr ⟨rfl,h1⟩,λ_ p' AS he=>?_,h3⟩
     simp[lM]at h2
     exact h2 p' AS he
    ·rw[hd]at h;simp at h
   ·simp only[cS]at h
    exact⟨⟨0,0⟩,.inl ⟨rfl,rfl⟩,λh=>by simp at h,h⟩
  obtain⟨p,k1,k2,k3⟩:=key
  obtain⟨q,q1,q2,q3,q4,q5⟩:=C2 a s ns bs _ pl (by simpa using hl) k3
  refine⟨p::q,by simp[q1],by simp[q2],λj n' b' p' h1 h2 h3=>?_,λp' AS h0 p'' WY=>?_,?_⟩
  ·cases j with
   |zero=>simp at h1 h2 h3;subst h1;subst h2;subst h3;exact k1
   |succ j=>exact q3 j n' b' p' (by simpa using h1) (by simpa using h2) (by simpa using h3)
  ·rcases mU.1 AS with rfl|AS
   ·exact k2 h0 p'' WY
   ·exact q4 p' AS h0 p'' (Dn _ WY)
  ·rw[Dr]
   exact⟨λy hy h0=>q4 y hy h0 p (by simp),q5⟩
structure He (a:bK) (s:Int) (ct:List bx) (pl:List aW):Prop where
 len:pl.length=ct.length
 ok: ∀(j:Nat)n p,ct[j]? =some n->pl[j]? =some p->p=⟨0,0⟩\/p∈(eD a (wr (n.bY+s))).1
 dis:pl.Pairwise λx y=>0<y.bt->x.bt≠y.bt
theorem He.one{a:bK}{s:Int}{ct:List bx}{pl:List aW}(h:He a s ct pl){i j:Nat}{x y:aW}(hi:pl[i]? =some x)(hj:pl[j]? =some y)(h0:0<x.bt)(he:x.bt=y.bt):i=j:=by
 have hp:=h.dis
 rw[DD]at hp
 obtain⟨i1,i2⟩:=fP.1 hi
 obtain⟨j1,j2⟩:=fP.1 hj
 rcases Jk i j with c|c|c
 ·exact absurd (by rw[i2,j2];exact he) (hp i j i1 j1 c (by rw[j2];omega))
 ·exact c
 ·exact absurd (by rw[i2,j2];exact he.symm) (hp j i j1 i1 c (by rw[i2];omega))
theorem He.get{a:bK}{s:Int}{ct:List bx}{pl:List aW}(h:He a s ct pl){p:aW}(hp:p∈pl): ∃(j:Nat)(n:bx),ct[j]? =some n/\pl[j]? =some p/\(p=⟨0,0⟩\/p∈(eD a (wr (n.bY+s))).1):=by
 obtain⟨j,hj,rfl⟩:=pH hp
 have e1:pl[j]? =some pl[j]:=dH hj
 have e2:ct[j]? =some (ct[j]'(by rw[<-h.len];exact hj)):=dH _
 exact⟨j,_,e2,e1,h.ok j _ _ e2 e1⟩
structure zt (d:cP):Prop where
 dh:EN d
 rc:gn d.dB
theorem Qc{d:cP}(h:gn d.dB)(tie:Bool):gn (qG d tie):=by
 unfold qG
 cases tie
 ·exact zh
 ·refine⟨h.da,h.dc,λi a b h1 h2=>?_,h.oa,λx hx=>?_,h.oo⟩
  ·simp only[u0]at h1 h2
   rw[tx]at h1 h2
   obtain⟨p,e1,rfl⟩:=Hy.1 h1
   obtain⟨q,e2,rfl⟩:=Hy.1 h2
   exact h.da i p q e1 e2
  ·simp only[u0]at hx |-
   obtain⟨p,e1,rfl⟩:=jJ.1 hx
   exact vV.2 ⟨p,e1,by simp[lM]⟩
def l9(tie:Bool)(s:cN):cn:=⟨false,s,tie,[]⟩
theorem NM(d:cP)(hd:zt d)(db:List bx)(S:List cN)(tie:Bool)(hS:d.bM.bG.length+S.length<=4000):
  ∃r,bZ (σ:=(List aW×List Int×List Int×List cn×List cr×Int)) (τ:=(List aW×List Int×List Int×List cn×List cr)) (λ((IX,IY,IZ,zu,EV,NN):(List aW×List Int×List Int×List cn×List cr×Int))=>bif (decide (NN<(S.length:Int)))then((ix S NN).bind λy6=>(f99 (⟨(⟨IX,IY,IZ⟩:bS),d.kx,d.h,d.shift,(⟨d.bM.instrument,zu⟩:dS),db,EV⟩:cP) y6 tie).bind λr7=>some (.inl (r7.1,r7.2.1,r7.2.2.1,r7.2.2.2.1,r7.2.2.2.2,(wr (NN+1)))))else(some (.inr (IX,IY,IZ,zu,EV)))) cz (d.dB.cG,d.dB.held,d.dB.di,d.bM.bG,d.fp,0)=some r/\
   (r.2.2.2.1=d.bM.bG++S.map (l9 tie)/\zt ⟨⟨r.1,r.2.1,r.2.2.1⟩,d.kx,d.h,d.shift,⟨d.bM.instrument,r.2.2.2.1⟩,db,r.2.2.2.2⟩):=by
 have hs:bU S:=by simp only[bU];omega
 refine j7 (λk(s:List aW×List Int×List Int×List cn×List cr×Int)=>s.2.2.2.2.2=(k:Int)/\s.2.2.2.1=d.bM.bG++(S.take k).map (l9 tie)/\zt ⟨⟨s.1,s.2.1,s.2.2.1⟩,d.kx,d.h,d.shift,⟨d.bM.instrument,s.2.2.2.1⟩,db,s.2.2.2.2.1⟩) _ S.length hs ⟨rfl,by simp,?_⟩ ?_ ?_
 ·exact⟨⟨hd.dh.hh,hd.dh.h0,hd.dh.ch,hd.dh.po,hd.dh.pf⟩,hd.rc⟩
 ·rintro k ⟨s1,s2,s3,s4,s5,s6⟩ hk ⟨e0,e1,hd⟩
  simp only at e0 e1 hd
  subst e0
  have x1:S[k]? =some (S[k]'hk):=dH _
  generalize S[k]'hk=y at x1
  have hl:s4.length<cT:=by rw[e1];have:=KU k S;simp;unfold cT;omega
  obtain⟨g,h1,h2⟩:=f99_ex _ hd.dh y tie hl
  have hR:=Qc hd.rc tie
  have TG:=wA _ hd.dh.ch tie
  obtain⟨l',q1,g1,g2,_⟩:=f161_ex _ hd.dh _ TG
  rw[h1]at q1;cases q1
  simp only[cJ x1,cS,cj x1,cK,dI hs x1,h2]
  refine .inl ⟨_,rfl,rfl,?_,⟨⟨hd.dh.hh,hd.dh.h0,TG,g1,λk hk=>?_⟩,hR⟩⟩
  ·show s4++[_]=_
   rw[cQ x1,e1];simp[l9]
  ·have h3:=(g2 k hk).len
   have h4:=TG.d
   show k.dm.length<=_
   rw[h3];exact h4
 ·rintro⟨s1,s2,s3,s4,s5,s6⟩ ⟨e0,e1,hd⟩
  simp only at e0 e1 hd
  subst e0
  simp only[ky,dX,dj]
  rw[AL]at e1
  exact⟨_,rfl,e1,hd⟩
theorem EW{a:bK}{s e:Int}{B U:List bx}{pl:List aW}{cut:List Bool}(OE: ∀x∈U,∀y∈U,x.bQ.bt=y.bQ.bt->x=y)(hk:He a s B pl)(ht:(U.zip cut).all (lq e pl)=true):
  ∀x∈oz ⟨pl,cut⟩ U,∀y∈oz ⟨pl,cut⟩ U,x.bt=y.bt->x=y:=λx hx y hy he=>by
 have kp: ∀n∈ni U cut,n∈U/\ ∀p∈pl,n.bQ.bt≠p.bt:=λn hn=>by
  obtain⟨⟨n',b⟩,h1,rfl⟩:=jJ.1 hn
  obtain⟨h2,h3⟩:=lD.1 h1
  refine⟨(List.of_mem_zip h2).1,λp hp he=>?_⟩
  have zV:=pT.1 ht _ h2
  simp only[l7,fi,p9]at h3
  have GP:pl.any (lM n'.bQ.bt)=true:=vV.2 ⟨p,hp,by simp only[lM,xL];exact he.symm⟩
  have h31:b=false:=h3.1
  simp[lq,h31,GP]at zV
 rcases lr.1 hx with hx|hx<;>rcases lr.1 hy with hy|hy
 ·obtain⟨n,n1,rfl⟩:=jJ.1 hx
  obtain⟨m,m1,rfl⟩:=jJ.1 hy
  rw[OE n (kp n n1).1 m (kp m m1).1 he]
 ·obtain⟨n,n1,rfl⟩:=jJ.1 hx
  exact absurd he ((kp n n1).2 y (lD.1 hy).1)
 ·obtain⟨n,n1,rfl⟩:=jJ.1 hy
  exact absurd he.symm ((kp n n1).2 x (lD.1 hx).1)
 ·obtain⟨x1,x2⟩:=lD.1 hx
  obtain⟨y1,y2⟩:=lD.1 hy
  obtain⟨i,n,i1,i2,i3⟩:=hk.get x1
  obtain⟨j,m,j1,j2,_⟩:=hk.get y1
  have h0:0<x.bt:=by
   rcases i3 with h|h
   ·rw[h]at x2;simp at x2
   ·have:=(ie h).2.1;omega
  have:=hk.one i2 j2 h0 he
  subst this
  rw[i2]at j2;exact Option.some.inj j2
structure WZ (a:bK) (sh:Int) (E:List cn) (U B:List bx) (S:List cN) (B' C L':List bx) (E':List cn):Prop where
 no:(B'=B/\C=[]/\L'=U/\E'=uZ [] (S.map (l9 (decide (0<U.length)))) E)\/
  ∃pl cut u s0 S',S=s0::S'/\cut.length=U.length/\He a sh B pl/\(∃p∈pl,0<p.bt)/\(U.zip cut).all (lq (E.length:Int) pl)=true/\u.Perm ((pl.filter λp=>decide (0<p.bt)).map qJ)/\(u.Pairwise λx y=>x.bt<=y.bt)/\
   B'=td (E.length:Int) B pl/\C=CX U cut/\L'=jg U cut++B'.filter (λn=>decide (0<n.bQ.bt))/\E'=uZ (jg U cut) (⟨false,s0,false,u⟩::S'.map (l9 true)) E
theorem TH{F E:List cn}:uZ [] F E=E++F:=by
 unfold uZ
 have:rC [] (E.length:Int)=λ_ d=>d:=by funext e d;exact IR
 rw[this]
 congr 1
 apply Ul
 intro i
 rw[Qy];cases E[i]?<;>rfl
theorem NO(d:cP)(hd:zt d)(cA:List (List bP))(t:Int)(S:List cN)(B:List bx)(hB:B.length<=4)(h1:f96 cA t=some B)(eV:S≠[])(hS:d.bM.bG.length+S.length<=4000)
  (HI:d.db.length<=100000) (hm: ∀n∈d.db,n.bO≠[]) (Qb: ∀a∈d.db,0<a.bQ.cy->Ro d.bM.bG a) (TI:d.db.Pairwise λx y=>x.bQ.bt≠y.bQ.bt):
  ∃r,f48 d cA t S=some r/\zt ⟨⟨r.2.2.1,r.2.2.2.1,r.2.2.2.2.1⟩,d.kx,d.h,d.shift,⟨d.bM.instrument,r.2.2.2.2.2.1⟩,r.2.2.2.2.2.2.1,r.2.2.2.2.2.2.2⟩/\
   ∃U,U.Perm (d.db.filter λn=>decide (t<n.dx))/\WZ d.kx d.shift d.bM.bG U B S r.1 r.2.1 r.2.2.2.2.2.2.1 r.2.2.2.2.2.1:=by
 obtain⟨U,u1,u2⟩:=f97_ex d t (by simp only[bU];omega) hm
 have UP:U.length<=100000:=by rw[u2.length_eq];have:=sq (λn:bx=>decide (t<n.dx)) d.db;omega
 have FM: ∀n∈U,n∈d.db:=λn hn=>(lD.1 (u2.mem_iff.1 hn)).1
 have OE: ∀x∈U,∀y∈U,x.bQ.bt=y.bQ.bt->x=y:=λx hx y hy he=>by
  obtain⟨i,hi,ei⟩:=pH (FM x hx)
  obtain⟨j,hj,ej⟩:=pH (FM y hy)
  rw[DD]at TI
  rcases Jk i j with c|c|c
  ·exact absurd (by rw[ei,ej];exact he) (TI i j hi hj c)
  ·subst c;rw[<-ei,<-ej]
  ·exact absurd (by rw[ei,ej];exact he.symm) (TI j i hj hi c)
 have FD:=Km hd.rc
 have aaN:14^B.length<=14^4:=Nat.pow_le_pow_right (by omega) hB
 have Kl: ∀drop:List Bool,drop.length=B.length-> ∃r,f220 d.kx B drop d.shift=some r/\r.Perm (ways d.kx d.shift B drop []):=λdrop FL=>by
  have hw:=uM d.kx d.shift B drop []
  refine f220_ex d.kx d.shift B drop (by omega) FL (by omega) (f269_ex _ (by omega) λp hp=>?_)
  obtain⟨q,q1,q2,_⟩:=C2 d.kx d.shift B drop [] p FL hp
  simp only[rN]at q1
  simp only[bU,q1,q2];omega
 let al:List Bool->List (List aW):=λdrop=>(f220 d.kx B drop d.shift).getD []
 have Qd: ∀drop:List Bool,drop.length=B.length->f220 d.kx B drop d.shift=some (al drop)/\(al drop).Perm (ways d.kx d.shift B drop []):=λdrop FL=>by
  obtain⟨r,r1,r2⟩:=Kl drop FL
  have:al drop=r:=by show(f220 d.kx B drop d.shift).getD []=r;rw[r1];rfl
  rw[this];exact⟨r1,r2⟩
 have v8: ∀drop:List Bool,drop.length=B.length-> ∀pl∈al drop,He d.kx d.shift B pl/\ ∀(j:Nat)n b p,B[j]? =some n->drop[j]? =some b->pl[j]? =some p->PlO d.kx d.shift n b p:=λdrop FL pl hp=>by
  obtain⟨q,q1,q2,q3,_,q5⟩:=C2 d.kx d.shift B drop [] pl FL ((Qd drop FL).2.mem_iff.1 hp)
  simp only[rN]at q1
  subst q1
  refine⟨⟨q2,λj n p h1 h2=>?_,q5⟩,q3⟩
  have hj:=(fP.1 h1).1
  have e3:drop[j]? =some (drop[j]'(by omega)):=dH _
  rcases q3 j n _ p h1 e3 h2 with⟨_,h⟩|⟨_,h⟩
  ·exact .inl h
  ·exact .inr h
 obtain⟨r3,c1,c2⟩:=f98_ex d hd.dh B U UP (by omega) (by omega) al λdrop FL=>by
  refine⟨(Qd drop FL).1,?_,λcut GS pl hp=>?_⟩
  ·have:=(Qd drop FL).2.length_eq;have:=uM d.kx d.shift B drop [];simp only[bU];omega
  ·have hk:=(v8 drop FL pl hp).1
   exact⟨GS,by show pl.length<=_;rw[hk.len];omega,λht=>EW OE hk ht⟩
 unfold f48
 simp only[h1,u1,c1,cK]
 cases hr:r3.2.2.2
 ·obtain⟨r,k1,k2,k3⟩:=NM d hd d.db S (decide (0<(U.length:Int))) hS
  have m1:B.length<=cT:=by unfold cT;omega
  simp only[Hz,cS,k1,cK,dg m1]
  refine⟨_,rfl,⟨⟨k3.dh.hh,k3.dh.h0,k3.dh.ch,k3.dh.po,k3.dh.pf⟩,k3.rc⟩,U,u2,⟨.inl ⟨rfl,rfl,rfl,?_⟩⟩⟩
  rw[TH]
  show r.2.2.2.1=_
  rw[k2]
  have:decide (0<(U.length:Int))=decide (0<U.length):=GO 0 U.length
  rw[this]
 ·rw[hr]at c2
  simp only[u0]at c2
  obtain⟨⟨drop,d1,d2,d3⟩,q1,q2,q3⟩:=c2
  have FL:=px d1
  obtain⟨p1,p2⟩:=v8 drop FL _ d3
  obtain⟨s0,S',rfl⟩: ∃s0 S',S=s0::S':=by
   cases S with
   |nil=>exact absurd rfl eV
   |cons y S'=>exact⟨y,S',rfl⟩
  simp only[oG]at hS
  obtain⟨u,w1,w2,w3⟩:=f100_ex d ⟨r3.1.places,r3.1.cut⟩ B U s0 q1 p1.len UP (by omega) (by omega) (λa ha=>Qb a (FM a ha)) λx hx y hy h0 he=>by
   obtain⟨i,n,i1,i2,_⟩:=p1.get hx
   obtain⟨j,m,j1,j2,_⟩:=p1.get hy
   have:=p1.one i2 j2 h0 he
   subst this
   rw[i2]at j2;exact Option.some.inj j2
  have aaq:=p1.len
  obtain⟨x,x1,x2⟩:=f160_ex d hd.dh.ch r3.1 U q1 UP (by omega) (by omega) (EW OE p1 q2.ten)
  rw[q2.cho]at x1;cases x1
  have hsx:=f160_small d r3.1 U UP (by omega) (by omega) x2
  obtain⟨l',e1,g1,g2,g3,_⟩:=f161_ex d hd.dh r3.2.1 hsx
  rw[q2.rea]at e1;cases e1
  have hE':(d.bM.bG.mapIdx (rC (jg U r3.1.cut) (d.bM.bG.length:Int))).length=d.bM.bG.length:=by simp
  have WC:zt ⟨r3.2.1,d.kx,d.h,d.shift,⟨d.bM.instrument,d.bM.bG.mapIdx (rC (jg U r3.1.cut) (d.bM.bG.length:Int))++[⟨false,s0,false,u⟩]⟩,jg U r3.1.cut++(td (d.bM.bG.length:Int) B r3.1.places).filter (λn=>decide (0<n.bQ.bt)),r3.2.2.1⟩:=
   ⟨⟨hd.dh.hh,hd.dh.h0,hsx,g1,λk hk=>by show k.dm.length<=_;rw[(g2 k hk).len];exact hsx.d⟩,(g3 q3).1⟩
  obtain⟨r,k1,k2,k3⟩:=NM _ WC (jg U r3.1.cut++(td (d.bM.bG.length:Int) B r3.1.places).filter (λn=>decide (0<n.bQ.bt))) S' true (by simp;omega)
  have g0:ix (s0::S') 0=some s0:=rfl
  have e1:(List.take (s0::S').length (s0::S')).drop 1=S':=by simp
  have m1:(td (d.bM.bG.length:Int) B r3.1.places).length=B.length:=by simp[td,aaq]
  have m2:(d.bM.bG.mapIdx (rC (jg U r3.1.cut) (d.bM.bG.length:Int))).length<cT:=by rw[hE'];unfold cT;omega
  have m3:1<=(s0::S').length:=by simp
  simp only[p8,dj,g0,cK,w1,dg m1,dg m2,dg m3,e1,k1]
  refine⟨_,rfl,⟨⟨k3.dh.hh,k3.dh.h0,k3.dh.ch,k3.dh.po,k3.dh.pf⟩,k3.rc⟩,U,u2,⟨.inr ⟨r3.1.places,r3.1.cut,u,s0,S',rfl,q1,p1,?_,q2.ten,w2,w3,rfl,rfl,rfl,?_⟩⟩⟩
  ·obtain⟨b,b1,b2⟩:=Y8.1 d2
   obtain⟨j,hj,rfl⟩:=pH b1
   have e3:drop[j]? =some drop[j]:=dH hj
   have e4:B[j]? =some (B[j]'(by omega)):=dH _
   have e5:r3.1.places[j]? =some (r3.1.places[j]'(by omega)):=dH _
   rcases p2 j _ _ _ e4 e3 e5 with⟨h,_⟩|⟨_,h⟩
   ·exact absurd h b2
   ·exact⟨_,gz e5,by have:=(ie h).2.1;omega⟩
  ·show r.2.2.2.1=_
   rw[k2]
   unfold uZ
   simp
theorem BN{σ τ β γ:Type}{body:σ->Option (σ⊕τ)}{f:τ->Option (β⊕γ)}{Q:β->Prop}{s0:σ}(Inv:Nat->σ->Prop)(lg:τ->Prop)(n:Nat)(hn:n<=4194304)(h0:Inv 0 s0)
  (hb: ∀k s,k<n->Inv k s->(∃s',body s=some (.inl s')/\Inv (k+1) s')\/(∃r,body s=some (.inr r)/\lg r))
  (he: ∀s,Inv n s-> ∃r,body s=some (.inr r)/\lg r) (k: ∀r,lg r-> ∃z,f r=some (.inl z)/\Q z): ∃z,(bZ body cz s0).bind f=some (.inl z)/\Q z:=by
 obtain⟨r,h1,h2⟩:=j7 Inv lg n hn h0 hb he
 rw[h1];exact k r h2
def EX(P:List (List bP))(W:List (List aW)):Prop:=W.map List.length=P.map List.length
def eT(W:List (List aW))(i k:Nat):Option aW:=W[i]?.bind λw=>w[k]?
def Hf(W:List (List aW))(m:bX)(p:aW):List (List aW):=W.set m.part.toNat (((W[m.part.toNat]?).getD []).set m.eI.toNat p)
def zw(W:List (List aW))(l:List bX)(p:aW):List (List aW):=l.foldl (λW m=>Hf W m p) W
def ma(W:List (List aW))(l:List bx):List (List aW):=l.foldl (λW n=>zw W n.bO n.bQ) W
def pQ(t:Int)(kd:Int)(m:bX):cU:=⟨m.part,m.eI,kd,t⟩
def jH(t:Int)(n:bx):List cU:=bif decide (n.bQ.bt=0)then n.bO.map (pQ t 1)else(n.bO.drop 1).map (pQ t 2)
def toOf(P:List (List bP))(m:bX):Int:=((dV P m.part.toNat m.eI.toNat).map bP.dx).getD 0
def lN(P:List (List bP))(t:Int)(n:bx):List cU:=(n.bO.filter λm=>decide (t<toOf P m)).map (pQ t 3)
def uN(P:List (List bP))(m:bX):Prop:= ∃(i k:Nat)(x:bP),m=⟨(i:Int),(k:Int)⟩/\dV P i k=some x
theorem EX.get{P:List (List bP)}{W:List (List aW)}(h:EX P W){i k:Nat}{x:bP}(hx:dV P i k=some x): ∃w,W[i]? =some w/\k<w.length:=by
 unfold dV at hx
 cases hp:P[i]? with
 |none=>rw[hp]at hx;simp at hx
 |some p=>
  rw[hp]at hx
  simp only[cK]at hx
  have h1:=fA (·[i]?) h
  simp only[tx,hp,gy]at h1
  obtain⟨w,w1,w2⟩:=Hy.1 h1
  exact⟨w,w1,by rw[w2];exact(fP.1 hx).1⟩
theorem I0{P:List (List bP)}{W:List (List aW)}{m:bX}{p:aW}(h:EX P W):EX P (Hf W m p):=by
 unfold EX Hf at *
 rw[<-h]
 cases hw:W[m.part.toNat]? with
 |none=>rw[List.set_eq_of_length_le (by simpa using hw)]
 |some w=>exact uL hw (by simp)
theorem rD{P:List (List bP)}{p:aW}: ∀{l:List bX}{W:List (List aW)},EX P W->EX P (zw W l p)
 | [],W,h=>h
 |m::l,W,h=>rD (l:=l) (I0 h)
theorem zx{P:List (List bP)}: ∀{l:List bx}{W:List (List aW)},EX P W->EX P (ma W l)
 | [],W,h=>h
 |n::l,W,h=>zx (l:=l) (rD h)
theorem I1{W:List (List aW)}{i k:Nat}{w:List aW}{p:aW}(h:W[i]? =some w):Hf W ⟨(i:Int),(k:Int)⟩ p=W.set i (w.set k p):=by
 unfold Hf
 simp only[oH,h,Ab]
theorem W0(s:dC)(P:List (List bP))(ct cut:List bx)(t:Int)(hP:P.length<=6)(hW:EX P s.dz)(hf: ∀n∈ct,n.bO.length<=6/\ ∀m∈n.bO,uN P m)(hc: ∀n∈cut,n.bO.length<=6/\ ∀m∈n.bO,uN P m)
  (hl1:ct.length<=4) (Dw:cut.length<=10000) (hX:s.cI.length+24+6*cut.length<=4000000):
  f49 s P ct cut t=some (ma s.dz ct,s.cI++ct.flatMap (jH t)++cut.flatMap (lN P t)):=by
 have key: ∃r,f49 s P ct cut t=some r/\r=(ma s.dz ct,s.cI++ct.flatMap (jH t)++cut.flatMap (lN P t)):=by
  have XV:s.dz.length=P.length:=by have:=fA List.length hW;simpa using this
  have ffl: ∀l:List bx,(∀n∈l,n∈ct)->(l.flatMap (jH t)).length<=l.length*6:=λl hl=>kt λn hn=>by
   have:=(hf n (hl n hn)).1
   unfold jH
   cases decide (n.bQ.bt=0)
   ·simp;omega
   ·simp;omega
  have cfl: ∀l:List bx,(∀n∈l,n∈cut)->(l.flatMap (lN P t)).length<=l.length*6:=λl hl=>kt λn hn=>by
   have:=(hc n (hl n hn)).1
   unfold lN
   have:=sq (λm=>decide (t<toOf P m)) n.bO
   simp;omega
  unfold f49
  refine eK (λk(q:List (List aW)×List cU×Int)=>q.2.2=(k:Int)/\q.1=ma s.dz (ct.take k)/\q.2.1=s.cI++(ct.take k).flatMap (jH t)) (λr=>r=(ma s.dz ct,s.cI++ct.flatMap (jH t))) ct.length (by omega) ⟨rfl,rfl,by simp⟩ ?_ ?_ ?_
  ·rintro k ⟨d,b,i⟩ hk ⟨e0,e1,e2⟩
   simp only at e0 e1 e2
   subst e0
   have x1:ct[k]? =some (ct[k]'hk):=dH _
   generalize ct[k]'hk=n at x1
   obtain⟨n1,n2⟩:=hf n (gz x1)
   have hb:b.length<=s.cI.length+k*6:=by
    rw[e2]
    have:=ffl (ct.take k) λn hn=>xK hn
    have:=KU k ct
    have:=Aa 6 this
    rw[jW];omega
   simp only[cJ x1,cS,cj x1,cK,dI (l:=ct) (by simp only[bU];omega) x1]
   refine .inl (BN (λj(q:List (List aW)×List cU×Int)=>q.2.2=(j:Int)/\q.1=zw d (n.bO.take j) n.bQ/\q.2.1=b++(bif decide (n.bQ.bt=0)then(n.bO.take j).map (pQ t 1)else((n.bO.take j).drop 1).map (pQ t 2)))
    (λr=>r=(zw d n.bO n.bQ,b++jH t n)) n.bO.length (by omega) ⟨rfl,rfl,by cases decide (n.bQ.bt=0)<;>simp⟩ ?_ ?_ ?_)
   ·rintro j ⟨d',b',i'⟩ hj ⟨f0,f1,f2⟩
    simp only at f0 f1 f2
    subst f0
    have y1:n.bO[j]? =some (n.bO[j]'hj):=dH _
    have hm:=n2 _ (gz y1)
    generalize n.bO[j]'hj=m at y1 hm
    obtain⟨pi,pk,x,rfl,hx⟩:=hm
    have zW:EX P d':=by rw[f1,e1];exact rD (zx hW)
    obtain⟨w,w1,w2⟩:=zW.get hx
    have w3:w[pk]? =some (w[pk]'w2):=dH _
    have DQ:pi<P.length:=by
     have:=(fP.1 w1).1
     have h2:=fA List.length zW
     simp at h2;omega
    have nq:b'.length<=b.length+j:=by
     rw[f2]
     have:=KU j n.bO
     cases decide (n.bQ.bt=0)<;>simp <;>omega
    have g1:pi<cT:=by unfold cT;omega
    have g2:b'.length+1<=bJ:=by unfold bJ;omega
    have TJ:zw d (n.bO.take (j+1)) n.bQ=d'.set pi (w.set pk n.bQ):=by
     rw[cQ y1,f1]
     rw[f1]at w1
     unfold zw at *
     rw[Y3]
     exact I1 w1
    simp only[cJ y1,cS,cj y1,cK,cj w1,dg g1,cj w3,dI (l:=n.bO) (by simp only[bU];omega) y1,oH]
    cases c1:decide (n.bQ.bt=0)
    ·rw[c1]at f2
     simp only[dj]at f2 |-
     by_cases c2:j=0
     ·subst c2
      simp only[Int.ofNat_zero,Int.natCast_zero,ky,dX,dj,cK]
      refine .inl ⟨_,rfl,rfl,TJ.symm,?_⟩
      show b'=_
      rw[f2,cQ y1];simp
     ·have c3:decide ((0:Int)<(j:Int))=true:=xM (by omega)
      simp only[c3,cS,dg g2,cK]
      refine .inl ⟨_,rfl,rfl,TJ.symm,?_⟩
      show b'++[_]=_
      rw[f2,cQ y1,List.drop_append_of_le_length (by simp;omega)];simp[pQ]
    ·rw[c1]at f2
     simp only[cS,dg g2,cK]at f2 |-
     refine .inl ⟨_,rfl,rfl,TJ.symm,?_⟩
     show b'++[_]=_
     rw[f2,cQ y1];simp[pQ]
   ·rintro⟨d',b',i'⟩ ⟨f0,f1,f2⟩
    simp only at f0 f1 f2
    subst f0
    rw[AL]at f1 f2
    simp only[ky,dX,dj]
    exact⟨_,rfl,by rw[f1,f2];rfl⟩
   ·rintro _ rfl
    refine⟨_,rfl,rfl,?_,?_⟩
    ·show _=ma s.dz (ct.take (k+1))
     rw[cQ x1,e1];unfold ma;rw[Y3];rfl
    ·show b++jH t n=_
     rw[cQ x1,e2];simp
  ·rintro⟨d,b,i⟩ ⟨e0,e1,e2⟩
   simp only at e0 e1 e2
   subst e0
   rw[AL]at e1 e2
   simp only[ky,dX,dj]
   exact⟨_,rfl,by rw[e1,e2]⟩
  rintro _ rfl
  simp only
  generalize DE:s.cI++ct.flatMap (jH t)=b0
  have vf:b0.length<=s.cI.length+24:=by
   rw[<-DE]
   have:=ffl ct λn hn=>hn
   rw[jW];omega
  refine eK (λk(q:List cU×Int)=>q.2=(k:Int)/\q.1=b0++(cut.take k).flatMap (lN P t)) (λr=>r=b0++cut.flatMap (lN P t)) cut.length (by omega) ⟨rfl,by simp⟩ ?_ ?_ ?_
  ·rintro k ⟨b,i⟩ hk ⟨e0,e1⟩
   simp only at e0 e1
   subst e0
   have x1:cut[k]? =some (cut[k]'hk):=dH _
   generalize cut[k]'hk=n at x1
   obtain⟨n1,n2⟩:=hc n (gz x1)
   have hb:b.length<=b0.length+k*6:=by
    rw[e1]
    have:=cfl (cut.take k) λn hn=>xK hn
    have:=KU k cut
    have:=Aa 6 this
    rw[jW];omega
   simp only[cJ x1,cS,cj x1,cK,dI (l:=cut) (by simp only[bU];omega) x1]
   refine .inl (BN (λj(q:List cU×Int)=>q.2=(j:Int)/\q.1=b++((n.bO.take j).filter λm=>decide (t<toOf P m)).map (pQ t 3)) (λr=>r=b++lN P t n) n.bO.length (by omega) ⟨rfl,by simp⟩ ?_ ?_ ?_)
   ·rintro j ⟨b',i'⟩ hj ⟨f0,f1⟩
    simp only at f0 f1
    subst f0
    have y1:n.bO[j]? =some (n.bO[j]'hj):=dH _
    have hm:=n2 _ (gz y1)
    generalize n.bO[j]'hj=m at y1 hm
    obtain⟨pi,pk,x,rfl,hx⟩:=hm
    have KM:toOf P ⟨(pi:Int),(pk:Int)⟩=x.dx:=by unfold toOf;simp only[oH,hx,gy,Ab]
    unfold dV at hx
    cases hp:P[pi]? with
    |none=>rw[hp]at hx;simp at hx
    |some p=>
     rw[hp]at hx
     simp only[cK]at hx
     have nq:b'.length<=b.length+j:=by
      rw[f1]
      have:=KU j n.bO
      have:=sq (λm=>decide (t<toOf P m)) (n.bO.take j)
      simp;omega
     have g2:b'.length+1<=bJ:=by unfold bJ;omega
     simp only[cJ y1,cS,cj y1,cK,cj hp,cj hx,dI (l:=n.bO) (by simp only[bU];omega) y1]
     cases c1:decide (t<x.dx)
     ·refine .inl ⟨_,rfl,rfl,?_⟩
      show b'=_
      rw[cQ y1,Dq,f1]
      simp[List.filter,KM,c1]
     ·simp only[cS,dg g2]
      refine .inl ⟨_,rfl,rfl,?_⟩
      show b'++[_]=_
      rw[cQ y1,Dq,f1]
      simp[List.filter,KM,c1,pQ]
   ·rintro⟨b',i'⟩ ⟨f0,f1⟩
    simp only at f0 f1
    subst f0
    rw[AL]at f1
    simp only[ky,dX,dj]
    exact⟨_,rfl,by rw[f1];rfl⟩
   ·rintro _ rfl
    refine⟨_,rfl,rfl,?_⟩
    show b++lN P t n=_
    rw[cQ x1,e1];simp
  ·rintro⟨b,i⟩ ⟨e0,e1⟩
   simp only at e0 e1
   subst e0
   rw[AL]at e1
   simp only[ky,dX,dj]
   exact⟨_,rfl,e1⟩
  rintro _ rfl
  exact⟨_,rfl,by rw[<-DE]⟩
 obtain⟨r,h1,rfl⟩:=key
 exact h1
structure Rs (P:List (List bP)) (E:List cn) (W:List (List aW)) (n:bx):Prop where
 ne:n.bO≠[]
 le:n.bO.length<=6
 qF:n.bO.Pairwise λa b=>a.part<b.part
 co:1<=n.bQ.bt
 ev: ∃e:Nat,n.de=(e:Int)/\Rg E e n.bQ E.length/\ ∀m∈n.bO,∃(i k:Nat)(x:bP),m=⟨(i:Int),(k:Int)⟩/\dV P i k=some x/\x.dx<=n.dx/\eT W i k=some n.bQ/\x.bW=(iO E e:Int)
structure Mv (a:bK) (sh T:Int) (E:List cn) (L B:List bx) (S:List cN) (B' C L':List bx) (E':List cn):Prop where
 ev:kS a E'
 du:iO E' E'.length=iO E E.length+kR S
 on: ∀c,c<=E.length->iO E' c=iO E c
 le:E'.length=E.length+S.length
 rg: ∀e p c,Rg E e p c->Rg E' e p c
 nd: ∀e p c,Nd E e p c->Nd E' e p c
 pI: ∀n∈L,∀e:Nat,n.de=(e:Int)->(n∈L'/\n ∉ C)\/(n∈C/\Nd E' e n.bQ E.length)\/(n ∉ C/\n.dx<=T)
 cL: ∀n∈C,n∈L
 cd:C.Pairwise λx y=>x.bQ.bt≠y.bQ.bt
 cl:C.length<=L.length
 lL: ∀n∈L',(n∈L/\ ∀e:Nat,n.de=(e:Int)->Rg E' e n.bQ E'.length)\/(n∈B'/\1<=n.bQ.bt/\n.de=(E.length:Int)/\Rg E' E.length n.bQ E'.length)
 ld:L'.Pairwise λx y=>x.bQ.bt≠y.bQ.bt
 ll:L'.length<=L.length+B.length
 b1: ∀n'∈B',∃n∈B,n'.bO=n.bO/\n'.dx=n.dx/\n'.bY=n.bY/\(n'.bQ=⟨0,0⟩\/n'.bQ∈(eD a (wr (n.bY+sh))).1/\n'∈L'/\n'.de=(E.length:Int))
 b2: ∀n∈B,∃n'∈B',n'.bO=n.bO
 b3:B'.map bx.bY=B.map bx.bY
 b4: ∀x∈B',∀y∈B',0<x.bQ.bt->x.bQ.bt=y.bQ.bt->x=y
 st: ∀e s,fy E' e s->(∃s0,fy E e s0/\s.bt=s0.bt/\s.cy=s0.cy)\/(e=E.length/\ ∃n'∈B',n'.bQ=⟨s.bt,s.cy⟩)
theorem Hg: ∀{S:List cN}{f:cN->cn},(∀s,(f s).sign=s)->((S.map f).map λd=>tk d.sign).sum=kR S
 | [],f,_=>rfl
 |s::S,f,h=>by
  have:=Hg (S:=S) h
  simp only[xb,Xq,this,h s,kR,List.foldr_cons]
theorem NP{U:List bx}{cut:List Bool}{n:bx}{b:Bool}(h:(n,b)∈U.zip cut): ∃i:Nat,U[i]? =some n/\cut[i]? =some b:=by
 obtain⟨i,hi,e⟩:=pH h
 have h1:(U.zip cut)[i]? =some (n,b):=by rw[dH hi,e]
 exact⟨i,Y7.1 h1⟩
theorem qL{U:List bx}{cut:List Bool}{n:bx}:n∈jg U cut↔(n,false)∈U.zip cut:=by
 unfold jg
 rw[jJ]
 constructor
 ·rintro⟨⟨m,b⟩,h1,rfl⟩
  obtain⟨h2,h3⟩:=lD.1 h1
  have:b=false:=by simpa using h3
  subst this;exact h2
 ·exactλh=>⟨(n,false),lD.2 ⟨h,rfl⟩,rfl⟩
theorem xG{U:List bx}{cut:List Bool}{n:bx}:n∈CX U cut↔(n,true)∈U.zip cut:=by
 unfold CX
 rw[jJ]
 constructor
 ·rintro⟨⟨m,b⟩,h1,rfl⟩
  obtain⟨h2,h3⟩:=lD.1 h1
  have:b=true:=h3
  subst this;exact h2
 ·exactλh=>⟨(n,true),lD.2 ⟨h,rfl⟩,rfl⟩
theorem I2{L:List bx}(h:L.Pairwise λx y=>x.bQ.bt≠y.bQ.bt){i j:Nat}{x y:bx}(hi:L[i]? =some x)(hj:L[j]? =some y)(he:x.bQ.bt=y.bQ.bt):i=j:=by
 rw[DD]at h
 obtain⟨i1,i2⟩:=fP.1 hi
 obtain⟨j1,j2⟩:=fP.1 hj
 rcases Jk i j with c|c|c
 ·exact absurd (by rw[i2,j2];exact he) (h i j i1 j1 c)
 ·exact c
 ·exact absurd (by rw[i2,j2];exact he.symm) (h j i j1 i1 c)
theorem Rt{L:List bx}(h:L.Pairwise λx y=>x.bQ.bt≠y.bQ.bt){x y:bx}(hx:x∈L)(hy:y∈L)(he:x.bQ.bt=y.bQ.bt):x=y:=by
 obtain⟨i,hi,rfl⟩:=pH hx
 obtain⟨j,hj,rfl⟩:=pH hy
 have:=I2 h (dH hi) (dH hj) he
 subst this;rfl
theorem I3{U:List bx}{cut:List Bool}(hl:cut.length=U.length){f:bx×Bool->Bool}:(((U.zip cut).filter f).map (·.1)).Sublist U:=by
 have h1:(((U.zip cut).filter f).map (·.1)).Sublist ((U.zip cut).map (·.1)):=List.Sublist.map _ Qz
 rwa[List.map_fst_zip (by omega)]at h1
section
variable {a:bK} {sh T:Int} {P:List (List bP)} {E:List cn} {L B U:List bx} {S:List cN} {B' C L':List bx} {E':List cn} {W:List (List aW)}
theorem W1(Ga:kS a E)(HI: ∀n∈L,Rs P E W n)(hld:L.Pairwise λx y=>x.bQ.bt≠y.bQ.bt)(hE:E.length<=4000)(hB: ∀n∈B,n.bQ=⟨0,0⟩)(hU:U.Perm (L.filter λn=>decide (T<n.dx)))(hS:S≠[])(TG: ∀s∈S,s∈gJ)(h:WZ a sh E U B S B' C L' E'):Mv a sh T E L B S B' C L' E':=by
 have FM: ∀n,n∈U↔n∈L/\T<n.dx:=λn=>by rw[hU.mem_iff,lD];simp
 have OE:U.Pairwise λx y=>x.bQ.bt≠y.bQ.bt:=(hU.pairwise_iff (λh=>h.symm)).2 (hld.sublist Qz)
 have UP:U.length<=L.length:=by rw[hU.length_eq];exact sq ..
 have W2: ∀n∈L,∀e:Nat,n.de=(e:Int)->Rg E e n.bQ E.length:=λn hn e he=>by
  obtain⟨e0,h1,h2,_⟩:=(HI n hn).ev
  have:e0=e:=by omega
  subst this;exact h2
 rcases h.no with⟨rfl,rfl,rfl,rfl⟩|⟨pl,cut,u,s0,S',rfl,Gr,v8,⟨p0,hp0,Tl⟩,W3,hu1,hu2,rfl,rfl,rfl,rfl⟩
 ·have hF: ∀d∈S.map (l9 (decide (0<L'.length))),∃s∈S,d=l9 (decide (0<L'.length)) s:=λd hd=>by
   obtain⟨s,h1,rfl⟩:=jJ.1 hd
   exact⟨s,h1,rfl⟩
  refine⟨Ga.nx (by simp) (λj d hd=>?_) (by simpa using hS) (by simp),?_,λc hc=>Rq hc,by rw[tg,mB],λe p c h=>h.keep,λe p c h=>h.keep (by simp),λn hn e he=>?_,by simp,by simp,by simp,λn hn=>.inl ⟨((FM n).1 hn).1,λe he=>?_⟩,OE,by omega,λn hn=>⟨n,hn,rfl,rfl,rfl,.inl (hB n hn)⟩,λn hn=>⟨n,hn,rfl⟩,rfl,λx hx y hy h0=>?_,λe s hs=>?_⟩
  ·obtain⟨s,s1,rfl⟩:=hF d (gz hd)
   refine⟨⟨rfl,TG s s1,λht=>⟨rfl,?_⟩,by simp[l9]⟩,by simp[l9]⟩
   have ht:0<L'.length:=by simpa[l9]using ht
   obtain⟨n,hn⟩:=List.exists_mem_of_length_pos ht
   obtain⟨e,h1,h2,_⟩:=(HI n ((FM n).1 hn).1).ev
   have:=h2.lt;omega
  ·rw[NJ,Hg (λ_=>rfl)]
  ·by_cases hc:T<n.dx
   ·exact .inl ⟨(FM n).2 ⟨hn,hc⟩,by simp⟩
   ·exact .inr (.inr ⟨by simp,by omega⟩)
  ·have ht:decide (0<L'.length)=true:=xM (XB hn)
   refine(W2 n ((FM n).1 hn).1 e he).db (λd hd=>?_) λ_=>.inl λd hd=>?_
   ·obtain⟨s,s1,rfl⟩:=hF d hd
    rw[ht];exact⟨rfl,rfl⟩
   ·obtain⟨s,s1,rfl⟩:=hF d hd
    exact ht
  ·rw[hB x hx]at h0;simp at h0
  ·rcases nj hs with⟨s1,q1,q2,q4⟩|⟨_,d,q2,q3⟩
   ·exact .inl ⟨s1,q1,by rw[q4,fT],by rw[q4,uK]⟩
   ·obtain⟨s1,_,rfl⟩:=hF d (gz q2)
    simp[l9]at q3
 ·have TK: ∀s,s∈u↔ ∃p∈pl,0<p.bt/\s=qJ p:=λs=>by
   rw[hu1.mem_iff,jJ]
   constructor
   ·rintro⟨p,h1,rfl⟩
    obtain⟨h2,h3⟩:=lD.1 h1
    exact⟨p,h2,by simpa using h3,rfl⟩
   ·rintro⟨p,h1,h2,rfl⟩
    exact⟨p,lD.2 ⟨h1,by simpa using h2⟩,rfl⟩
  have UQ: ∀n,n∈jg U cut->n∈U:=λn hn=>(List.of_mem_zip (qL.1 hn)).1
  have hcu: ∀n,n∈CX U cut->n∈U:=λn hn=>(List.of_mem_zip (xG.1 hn)).1
  have hkc: ∀n,n∈jg U cut->n ∉ CX U cut:=λn h1 h2=>by
   obtain⟨i,i1,i2⟩:=NP (qL.1 h1)
   obtain⟨j,j1,j2⟩:=NP (xG.1 h2)
   have:=I2 OE i1 j1 rfl
   subst this
   rw[i2]at j2;cases j2
  have LI: ∀n,n∈jg U cut->(∀p∈pl,p.bt≠n.bQ.bt)/\(0<n.bQ.cy-> ∀e:Nat,n.de=(e:Int)->(E.length:Int)-e<=15):=λn hn=>by
   have ht:=pT.1 W3 _ (qL.1 hn)
   simp only[lq,XK,Hz,Uh,fi,p9,KA,lM,xL]at ht
   refine⟨ht.1,λhf e he=>?_⟩
   have h2:=ht.2
   obtain⟨e0,h1,h3,_⟩:=(HI n ((FM n).1 (UQ n hn)).1).ev
   have h4:=h3.lt
   simp only[hf,gp,Uh,Jj]at h2
   rw[iL (by omega) (by omega)]at h2
   omega
  have hct: ∀n,n∈CX U cut->n.bQ.cy=0-> ∃p∈pl,p.bt=n.bQ.bt:=λn hn hf=>by
   have ht:=pT.1 W3 _ (xG.1 hn)
   simp[lq,hf,lM]at ht
   exact ht
  have jN: ∀p∈pl,0<p.bt-> ∃q,p∈(eD a q).1:=λp hp h0=>by
   obtain⟨j,n,_,_,h3⟩:=v8.get hp
   rcases h3 with rfl|h3
   ·simp at h0
   ·exact⟨_,h3⟩
  have Qe: ∀x,tw ⟨false,s0,false,u⟩ x=true↔ ∃p∈pl,0<p.bt/\p.bt=x:=λx=>by
   simp only[tw,vV,xL]
   constructor
   ·rintro⟨s,h1,rfl⟩
    obtain⟨p,h2,h3,rfl⟩:=(TK s).1 h1
    exact⟨p,h2,h3,rfl⟩
   ·rintro⟨p,h1,h2,h3⟩
    exact⟨_,(TK _).2 ⟨p,h1,h2,rfl⟩,h3⟩
  have Tk: ∀n,n∈jg U cut->wZ ⟨false,s0,false,u⟩=false/\tw ⟨false,s0,false,u⟩ n.bQ.bt=false:=λn hn=>by
   refine⟨?_,?_⟩
   ·have:qJ p0∈u:=(TK _).2 ⟨p0,hp0,Tl,rfl⟩
    have:u≠[]:=λh=>by rw[h]at this;simp at this
    simp[wZ,this]
   ·cases hq:tw ⟨false,s0,false,u⟩ n.bQ.bt
    ·rfl
    ·obtain⟨p,h1,_,h2⟩:=(Qe _).1 hq
     exact absurd h2 ((LI n hn).1 p h1)
  have Yq: ∀(j:Nat)d,(⟨false,s0,false,u⟩::S'.map (l9 true))[j]? =some d->(j=0/\d=⟨false,s0,false,u⟩)\/(0<j/\ ∃s∈S',d=l9 true s):=λj d hd=>by
   cases j with
   |zero=>left;simp at hd;exact⟨rfl,hd.symm⟩
   |succ j=>
    right
    obtain⟨s,h1,rfl⟩:=jJ.1 (gz (by simpa using hd))
    exact⟨by omega,s,h1,rfl⟩
  have hcd:(u.map cW.bt).Nodup:=by
   rw[(hu1.map _).nodup_iff,Jd]
   have:(cW.bt∘qJ)=aW.bt:=rfl
   rw[this]
   show List.Pairwise _ _
   rw[FB]
   refine(v8.dis.sublist (Qz (p:=λp=>decide (0<p.bt)))).imp_of_mem λ{x y}hx hy Ca=>Ca ?_
   have:=(lD.1 hy).2
   simpa using this
  have W4:u.Pairwise λx y=>x.bt<y.bt:=by
   have h1:u.Pairwise λx y=>x.bt≠y.bt:=by
    have:List.Pairwise _ (u.map cW.bt):=hcd
    rwa[FB]at this
   exact(hu2.and h1).imp λ⟨x,y⟩=>by omega
  have aar:(td (E.length:Int) B pl).map bx.bY=B.map bx.bY:=by
   unfold td
   rw[Jd]
   have:(bx.bY∘λx:bx×aW=>NH (E.length:Int) x.1 x.2)=bx.bY∘(·.1):=rfl
   rw[this,<-Jd,List.map_fst_zip (by have:=v8.len;omega)]
  have Qf: ∀n',n'∈td (E.length:Int) B pl-> ∃(j:Nat)(n:bx)(p:aW),B[j]? =some n/\pl[j]? =some p/\n'=NH (E.length:Int) n p:=λn' mu=>by
   obtain⟨⟨n,p⟩,h1,rfl⟩:=jJ.1 mu
   obtain⟨j,hj,e⟩:=pH h1
   have h1:(B.zip pl)[j]? =some (n,p):=by rw[dH hj,e]
   obtain⟨h2,h3⟩:=Y7.1 h1
   exact⟨j,n,p,h2,h3,rfl⟩
  have W5: ∀(j:Nat)n p,B[j]? =some n->pl[j]? =some p->NH (E.length:Int) n p∈td (E.length:Int) B pl:=λj n p h1 h2=>jJ.2 ⟨(n,p),gz (BI h1 h2),rfl⟩
  have wT: ∀n'∈td (E.length:Int) B pl,0<n'.bQ.bt->n'.de=(E.length:Int)/\n'.bQ∈pl:=λn' mu h0=>by
   obtain⟨j,n,p,h1,h2,rfl⟩:=Qf n' mu
   have h0:0<p.bt:=h0
   exact⟨by simp[NH,h0],gz h2⟩
  have hS3: ∀s∈S',s∈gJ:=λs hs=>TG s (by simp[hs])
  refine⟨Ga.nx (λx hx hf e he=>⟨W2 x ((FM x).1 (UQ x hx)).1 e he,(LI x hx).2 hf e he⟩) (λj d hd=>?_) (by simp) (λx hx d hd=>?_),?_,λc hc=>Rq hc,by rw[tg];simp,λe p c h=>h.keep,
   λe p c h=>h.keep λx hx hf e he=>W2 x ((FM x).1 (UQ x hx)).1 e he,λn hn e he=>?_,λn hn=>((FM n).1 (hcu n hn)).1,OE.sublist (I3 Gr),?_,λn hn=>?_,?_,?_,λn' mu=>?_,λn hn=>?_,aar,λx hx y hy h0 Ca=>?_,λe s hs=>?_⟩
  ·rcases Yq j d hd with⟨rfl,rfl⟩|⟨hj,s,hs,rfl⟩
   ·refine⟨⟨rfl,TG s0 (by simp),λh=>(by cases h),W4⟩,λs hs=>?_⟩
    obtain⟨p,h1,h2,rfl⟩:=(TK s).1 hs
    exact⟨rfl,rfl,rfl,jN p h1 h2⟩
   ·exact⟨⟨rfl,hS3 s hs,λ_=>⟨rfl,by omega⟩,by simp[l9]⟩,by simp[l9]⟩
  ·simp at hd;subst hd;exact Tk x hx
  ·rw[NJ,xb,Xq,Hg (λ_=>rfl)];rfl
  ·by_cases hc:T<n.dx
   ·have hnU:=(FM n).2 ⟨hn,hc⟩
    obtain⟨i,hi,rfl⟩:=pH hnU
    have e1:U[i]? =some U[i]:=dH hi
    have e2:cut[i]? =some (cut[i]'(by omega)):=dH _
    have hz:=gz (BI e1 e2)
    cases hbb:cut[i]'(by omega)with
    |false=>rw[hbb]at hz;exact .inl ⟨Dn _ (qL.2 hz),hkc _ (qL.2 hz)⟩
    |true=>
     rw[hbb]at hz
     have hz:=xG.2 hz
     refine .inr (.inl ⟨hz,Nd.new (W2 _ hn e he) (λs hs=>Ga.hold hs) (λhf=>?_) (d0:=⟨false,s0,false,u⟩) rfl rfl λhf=>?_⟩)
     ·cases hq:hb (jg U cut) e U[i].bQ.bt
      ·rfl
      ·obtain⟨x,x1,_,_,x4⟩:=Hb hq
       have:=Rt OE (UQ x x1) hnU x4
       subst this
       exact absurd hz (hkc _ x1)
     ·obtain⟨e0,h1,h2,_⟩:=(HI _ hn).ev
      obtain⟨s,t1,t2,t3⟩:=h2.st
      obtain⟨q,hq⟩:=(Ga.st _ s t1).pl
      have hq:=(ie hq).2.2.2.1
      have hq:0<=s.cy:=hq
      obtain⟨p,h3,h4⟩:=hct _ hz (by omega)
      have:=(HI _ hn).co
      exact(Qe _).2 ⟨p,h3,by omega,h4⟩
   ·refine .inr (.inr ⟨λh=>?_,by omega⟩)
    exact hc ((FM n).1 (hcu n h)).2
  ·have:=(I3 Gr (f:=λx=>x.2)).length_le
   exact vU this UP
  ·rcases lr.1 hn with hn|hn
   ·refine .inl ⟨((FM n).1 (UQ n hn)).1,λe he=>(W2 n ((FM n).1 (UQ n hn)).1 e he).db (λd hd=>?_) λhf=>.inr ⟨?_,λj d hj hd=>?_⟩⟩
    ·rcases mU.1 hd with rfl|hd
     ·exact Tk n hn
     ·obtain⟨s,_,rfl⟩:=jJ.1 hd
      exact⟨rfl,rfl⟩
    ·exact vV.2 ⟨n,hn,by simp[hf,he]⟩
    ·rcases Yq j d hd with⟨h,_⟩|⟨_,s,_,rfl⟩
     ·omega
     ·rfl
   ·obtain⟨h1,h2⟩:=lD.1 hn
    have h2:0<n.bQ.bt:=by simpa using h2
    obtain⟨h3,h4⟩:=wT n h1 h2
    refine .inr ⟨h1,by omega,h3,Rg.new (d0:=⟨false,s0,false,u⟩) (s0:=qJ n.bQ) rfl ((TK _).2 ⟨n.bQ,h4,h2,rfl⟩) rfl rfl (λj d hj hd=>?_) λs hs=>?_⟩
    ·rcases Yq j d hd with⟨h,_⟩|⟨_,s,_,rfl⟩
     ·omega
     ·exact⟨rfl,rfl⟩
    ·obtain⟨p,_,_,rfl⟩:=(TK s).1 hs
     rfl
  ·rw[Va]
   refine⟨OE.sublist (I3 Gr),?_,λx hx y hy=>?_⟩
   ·have:(td (E.length:Int) B pl).Pairwise λx y=>0<y.bQ.bt->x.bQ.bt≠y.bQ.bt:=by
     have h1:(B.zip pl).Pairwise λx y=>0<y.2.bt->x.2.bt≠y.2.bt:=by
      have:=v8.dis
      rw[<-List.map_snd_zip (l₁:=B) (l₂:=pl) (by have:=v8.len;omega),FB]at this
      exact this
     unfold td
     rw[FB]
     exact h1
    refine(this.sublist (Qz (p:=λn=>decide (0<n.bQ.bt)))).imp_of_mem λ{x y}hx hy Ca=>Ca ?_
    have:=(lD.1 hy).2
    simpa using this
   ·obtain⟨h1,h2⟩:=lD.1 hy
    exactλh=>(LI x hx).1 _ (wT y h1 (by simpa using h2)).2 h.symm
  ·have h1:=(I3 Gr (f:=λx=>!x.2)).length_le
   have h2:=sq (λn:bx=>decide (0<n.bQ.bt)) (td (E.length:Int) B pl)
   have h3:(td (E.length:Int) B pl).length<=B.length:=by simp[td];omega
   rw[jW]
   have h1:(jg U cut).length<=U.length:=h1
   omega
  ·obtain⟨j,n,p,h1,h2,rfl⟩:=Qf n' mu
   refine⟨n,gz h1,rfl,rfl,rfl,?_⟩
   rcases v8.ok j n p h1 h2 with h3|h3
   ·exact .inl h3
   ·have h0:=(ie h3).2.1
    refine .inr ⟨h3,FA _ (lD.2 ⟨mu,xM ?_⟩),(wT _ mu ?_).1⟩
    ·show 0<p.bt;omega
    ·show 0<p.bt;omega
  ·obtain⟨j,hj,rfl⟩:=pH hn
   have e1:B[j]? =some B[j]:=dH hj
   have e2:pl[j]? =some (pl[j]'(by rw[v8.len];exact hj)):=dH _
   exact⟨_,W5 j _ _ e1 e2,rfl⟩
  ·obtain⟨j,n,p,h1,h2,rfl⟩:=Qf x hx
   obtain⟨i,m,q,h3,h4,rfl⟩:=Qf y hy
   have:=v8.one h2 h4 h0 Ca
   subst this
   rw[h1]at h3;rw[h2]at h4;cases h3;cases h4;rfl
  ·rcases nj hs with⟨s1,q1,q2,rfl⟩|⟨q1,d,q2,q3⟩
   ·exact .inl ⟨s1,q1,fT,uK⟩
   ·rcases Yq _ d q2 with⟨h,rfl⟩|⟨_,s,_,rfl⟩
    ·obtain⟨p,h1,h2,rfl⟩:=(TK s).1 q3
     obtain⟨j,n,j1,j2,_⟩:=v8.get h1
     exact .inr ⟨by omega,_,W5 j n p j1 j2,rfl⟩
    ·simp[l9]at q3
end
end Go.Proofs.YtpbahncblggodaaGreat
