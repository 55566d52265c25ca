/- Plain laws, joined by gen/joinH.py. -/
import Derived.Test.YtfdnjgoegamonaaGreatDoorJC
set_option linter.all false
namespace Go.Am
open Go.RowKit
set_option maxRecDepth 100000
def Le{α:Type}(cmp:α->α->Option Int)(a0:List α)(a1:Int)(a2:Int):Option (List α):=(cA (σ:=(List α×Int)) (τ:=(List α)) (λ((ql,wg):(List α×Int))=>bif (decide (wg<a2))then((cA (σ:=(List α×Int)) (τ:=(List α)) (λ((mT,oA):(List α×Int))=>((bif (decide (a1<oA))then((ix mT oA).bind λy3=>(ix mT (wr (oA-1))).bind λy4=>(cmp y3 y4).bind λr5=>some (decide (r5<0)))else(some false)):Option Bool).bind λ(Om:Bool)=>bif Om then((ix mT (wr (oA-1))).bind λy7=>(ix mT oA).bind λy8=>(ix (mT.set oA.toNat y7) (wr (oA-1))).bind λy9=>some (.inl (((mT.set oA.toNat y7).set (wr (oA-1)).toNat y8),(wr (oA-1)))))else(some (.inr mT))) cQ (ql,wg)).bind λ(XL:(List α))=>some (.inl (XL,(wr (wg+1)))))else(some (.inr ql))) cQ (a0,(wr (a1+1)))).bind λ(HW:(List α))=>some HW
def On{α:Type}(a0:List α)(a1:Int)(a2:Int)(a3:Int):Option (List α):=(cA (σ:=(List α×Int)) (τ:=(List α)) (λ((ql,ji):(List α×Int))=>bif (decide (ji<a3))then((ix ql (wr (a2+ji))).bind λy2=>(ix ql (wr (a1+ji))).bind λy3=>(ix (ql.set (wr (a1+ji)).toNat y2) (wr (a2+ji))).bind λy4=>some (.inl (((ql.set (wr (a1+ji)).toNat y2).set (wr (a2+ji)).toNat y3),(wr (ji+1)))))else(some (.inr ql))) cQ (a0,0)).bind λ(HW:(List α))=>some HW
def UA{α:Type}(a0:List α)(a1:Int)(a2:Int)(a3:Int):Option (List α):=(cA (σ:=(List α×Int×Int)) (τ:=(List α×Int)) (λ((ql,ji,pn):(List α×Int×Int))=>bif (decide (ji≠pn))then(bif (decide (pn<ji))then((On ql (wr (a2-ji)) a2 pn).bind λr3=>cB (r3.length=ql.length)<|some (.inl (r3,(wr (ji-pn)),pn)))else((On ql (wr (a2-ji)) (wr ((wr (a2+pn))-ji)) ji).bind λr5=>cB (r5.length=ql.length)<|some (.inl (r5,ji,(wr (pn-ji))))))else(some (.inr (ql,ji)))) cQ (a0,(wr (a2-a1)),(wr (a3-a2)))).bind λ((Ju,Dv):(List α×Int))=>(On Ju (wr (a2-Dv)) a2 Dv).bind λr7=>some r7
def vb{α:Type}(cmp:α->α->Option Int):Nat->(List α)->Int->Int->Int->Option (List α)
 |0,_,_,_,_=>none
 |fu+1,a0,a1,a2,a3=>bif (decide ((wr (a2-a1))=1))then((cA (σ:=(Int×Int)) (τ:=Int) (λ((ji,pn):(Int×Int))=>bif (decide (ji<pn))then((ix a0 (wr ((eK (IntKind.wrap .u64 ((wr (ji+pn)))) 1)))).bind λy3=>(ix a0 a1).bind λy4=>(cmp y3 y4).bind λr5=>bif (decide (r5<0))then(some (.inl ((wr ((wr ((eK (IntKind.wrap .u64 ((wr (ji+pn)))) 1)))+1)),pn)))else(some (.inl (ji,(wr ((eK (IntKind.wrap .u64 ((wr (ji+pn)))) 1)))))))else(some (.inr ji))) cQ (a2,a3)).bind λ(Dv:Int)=>(cA (σ:=(List α×Int)) (τ:=(List α)) (λ((mT,w9):(List α×Int))=>bif (decide (w9<(wr (Dv-1))))then((ix mT (wr (w9+1))).bind λy8=>(ix mT w9).bind λy9=>(ix (mT.set w9.toNat y8) (wr (w9+1))).bind λy10=>some (.inl (((mT.set w9.toNat y8).set (wr (w9+1)).toNat y9),(wr (w9+1)))))else(some (.inr mT))) cQ (a0,a1)).bind λ(HX:(List α))=>some HX)else(bif (decide ((wr (a3-a2))=1))then((cA (σ:=(Int×Int)) (τ:=Int) (λ((B9,FR):(Int×Int))=>bif (decide (B9<FR))then((ix a0 a2).bind λVK=>(ix a0 (wr ((eK (IntKind.wrap .u64 ((wr (B9+FR)))) 1)))).bind λVJ=>(cmp VK VJ).bind λr15=>bif (!(decide (r15<0)))then(some (.inl ((wr ((wr ((eK (IntKind.wrap .u64 ((wr (B9+FR)))) 1)))+1)),FR)))else(some (.inl (B9,(wr ((eK (IntKind.wrap .u64 ((wr (B9+FR)))) 1)))))))else(some (.inr B9))) cQ (a1,a2)).bind λ(UB:Int)=>(cA (σ:=(List α×Int)) (τ:=(List α)) (λ((Oo,xa):(List α×Int))=>bif (decide (UB<xa))then((ix Oo (wr (xa-1))).bind λy18=>(ix Oo xa).bind λy19=>(ix (Oo.set xa.toNat y18) (wr (xa-1))).bind λy20=>some (.inl (((Oo.set xa.toNat y18).set (wr (xa-1)).toNat y19),(wr (xa-1)))))else(some (.inr Oo))) cQ (a0,a2)).bind λ(UC:(List α))=>some UC)else(((bif (decide ((wr ((eK (IntKind.wrap .u64 ((wr (a1+a3)))) 1)))<a2))then(some ((wr ((wr ((wr ((eK (IntKind.wrap .u64 ((wr (a1+a3)))) 1)))+a2))-a3)),(wr ((eK (IntKind.wrap .u64 ((wr (a1+a3)))) 1)))))else(some (a1,a2))):Option (Int×Int)).bind λ((XM,XN):(Int×Int))=>(cA (σ:=(Int×Int)) (τ:=Int) (λ((Ag,Ca):(Int×Int))=>bif (decide (Ag<Ca))then((ix a0 (wr ((wr ((wr ((wr ((eK (IntKind.wrap .u64 ((wr (a1+a3)))) 1)))+a2))-1))-(wr ((eK (IntKind.wrap .u64 ((wr (Ag+Ca)))) 1)))))).bind λy23=>(ix a0 (wr ((eK (IntKind.wrap .u64 ((wr (Ag+Ca)))) 1)))).bind λy24=>(cmp y23 y24).bind λr25=>bif (!(decide (r25<0)))then(some (.inl ((wr ((wr ((eK (IntKind.wrap .u64 ((wr (Ag+Ca)))) 1)))+1)),Ca)))else(some (.inl (Ag,(wr ((eK (IntKind.wrap .u64 ((wr (Ag+Ca)))) 1)))))))else(some (.inr Ag))) cQ (XM,XN)).bind λ(oB:Int)=>((((bif (decide (oB<a2))then(some (decide (a2<(wr ((wr ((wr ((eK (IntKind.wrap .u64 ((wr (a1+a3)))) 1)))+a2))-oB)))))else(some false)):Option Bool).bind λ(UD:Bool)=>bif UD then((UA a0 oB a2 (wr ((wr ((wr ((eK (IntKind.wrap .u64 ((wr (a1+a3)))) 1)))+a2))-oB))).bind λr29=>cB (r29.length=a0.length)<|some r29)else(some a0)):Option (List α)).bind λ(UE:(List α))=>((((bif (decide (a1<oB))then(some (decide (oB<(wr ((eK (IntKind.wrap .u64 ((wr (a1+a3)))) 1))))))else(some false)):Option Bool).bind λ(QV:Bool)=>bif QV then((vb cmp fu UE a1 oB (wr ((eK (IntKind.wrap .u64 ((wr (a1+a3)))) 1)))).bind λr33=>cB (r33.length=UE.length)<|some r33)else(some UE)):Option (List α)).bind λ(XO:(List α))=>((bif (decide ((wr ((eK (IntKind.wrap .u64 ((wr (a1+a3)))) 1)))<(wr ((wr ((wr ((eK (IntKind.wrap .u64 ((wr (a1+a3)))) 1)))+a2))-oB))))then(some (decide ((wr ((wr ((wr ((eK (IntKind.wrap .u64 ((wr (a1+a3)))) 1)))+a2))-oB))<a3)))else(some false)):Option Bool).bind λ(QW:Bool)=>bif QW then((vb cmp fu XO (wr ((eK (IntKind.wrap .u64 ((wr (a1+a3)))) 1))) (wr ((wr ((wr ((eK (IntKind.wrap .u64 ((wr (a1+a3)))) 1)))+a2))-oB)) a3).bind λr37=>some r37)else(some XO)))
def Dw{α:Type}(cmp:α->α->Option Int)(a0:List α)(a1:Int)(a2:Int)(a3:Int):Option (List α):=vb cmp cQ a0 a1 a2 a3
def Lf{α:Type}(cmp:α->α->Option Int)(a0:List α)(a1:Int):Option (List α):=(cA (σ:=(List α×Int×Int)) (τ:=(List α×Int)) (λ((ql,K9,wg):(List α×Int×Int))=>bif (decide (wg<=a1))then((Le cmp ql K9 wg).bind λr2=>cB (r2.length=ql.length)<|some (.inl (r2,wg,(wr (wg+20)))))else(some (.inr (ql,K9)))) cQ (a0,0,20)).bind λ((Ju,XP):(List α×Int))=>(Le cmp Ju XP a1).bind λr4=>cB (r4.length=Ju.length)<|(cA (σ:=(List α×Int)) (τ:=(List α)) (λ((mT,HY):(List α×Int))=>bif (decide (HY<a1))then((cA (σ:=(List α×Int×Int)) (τ:=(List α×Int)) (λ((HZ,H3,Dx):(List α×Int×Int))=>bif (decide (Dx<=a1))then((Dw cmp HZ H3 (wr (H3+HY)) Dx).bind λr8=>cB (r8.length=HZ.length)<|some (.inl (r8,Dx,(wr (Dx+(wr (2*HY)))))))else(some (.inr (HZ,H3)))) cQ (mT,0,(wr (2*HY)))).bind λ((Ah,Ai):(List α×Int))=>((bif (decide ((wr (Ai+HY))<a1))then((Dw cmp Ah Ai (wr (Ai+HY)) a1).bind λHP=>cB (HP.length=Ah.length)<|some HP)else(some Ah)):Option (List α)).bind λ(UF:(List α))=>some (.inl (UF,(wr (HY*2)))))else(some (.inr mT))) cQ (r4,20)).bind λ(HX:(List α))=>some HX
theorem yb{σ τ:Type}{body:σ->Option (σ⊕τ)}(Inv:σ->Prop)(μ:σ->Nat)(lH:τ->Prop)
  (hb: ∀s,Inv s->(∃s',body s=some (.inl s')/\Inv s'/\μ s'<μ s)\/(∃r,body s=some (.inr r)/\lH r)): ∀(F:Nat)(s:σ),Inv s->μ s<F-> ∃r,cA body F s=some r/\lH r
 |0,s,_,h=>absurd h (Nat.not_lt_zero _)
 |F+1,s,hi,hF=>by
  rcases hb s hi with⟨s',h1,h2,h3⟩|⟨r,h1,h2⟩
  ·obtain⟨r,h4,h5⟩:=yb Inv μ lH hb F s' h2 (by omega);exact⟨r,by simp only[cA,h1,h4],h5⟩
  ·exact⟨r,by simp only[cA,h1],h2⟩
theorem nC{σ τ β:Type}{body:σ->Option (σ⊕τ)}{f:τ->Option β}{P:β->Prop}{s0:σ}(Inv:σ->Prop)(μ:σ->Nat)(lH:τ->Prop)(h0:Inv s0)(hn:μ s0<=4194304)
  (hb: ∀s,Inv s->(∃s',body s=some (.inl s')/\Inv s'/\μ s'<μ s)\/(∃r,body s=some (.inr r)/\lH r)) (k: ∀r,lH r-> ∃z,f r=some z/\P z): ∃z,(cA body cQ s0).bind f=some z/\P z:=
 fR (yb Inv μ lH hb cQ s0 h0 (by unfold cQ;omega)) k
theorem Jv{α β:Type}{l:List α}{i j:Nat}{I J:Int}(hI:I=(i:Int))(hJ:J=(j:Int))(hi:i<l.length)(hj:j<l.length){f:List α->Option β}{P:β->Prop}(k: ∀q:List α,q.Perm l-> ∃z,f q=some z/\P z):
  ∃z,((ix l J).bind λy2=>(ix l I).bind λy3=>(ix (l.set I.toNat y2) J).bind λ_=>f ((l.set I.toNat y2).set J.toNat y3))=some z/\P z:=by
 subst hI;subst hJ;have x1:l[j]? =some l[j]:=dR hj;have x2:l[i]? =some l[i]:=dR hi;have x3: ∃y,(l.set i l[j])[j]? =some y:=⟨_,dR (by simpa using hj)⟩;obtain⟨y,x3⟩:=x3;simp only[cJ x1,cJ x2,oD,dm,cJ x3];exact k _ (@List.set_set_perm _ l i j hi hj)
theorem Dy{α:Type}(l0:List α)(hs:l0.length<=4194304)(a b n:Nat)(ha:a+n<=l0.length)(hb:b+n<=l0.length){A B N:Int}(hA:A=(a:Int))(hB:B=(b:Int))(hN:N=(n:Int)): ∃r,On l0 A B N=some r/\r.Perm l0:=by
 subst hA;subst hB;subst hN;unfold On;refine fc (λk(s:List α×Int)=>s.2=(k:Int)/\s.1.Perm l0) (λr=>r.Perm l0) n (by omega) ⟨rfl,.refl _⟩ ?_ ?_ ?_
 ·rintro k ⟨l,s2⟩ hk ⟨e,hp⟩;simp only at e hp;subst e;have hl:=hp.length_eq;have c1:(k:Int)<(n:Int):=by omega
  simp only[c1,ij,dt];have w1:wr ((a:Int)+(k:Int))=((a+k:Nat):Int):=by rw[iZ (by omega) (by omega)];omega
  have w2:wr ((b:Int)+(k:Int))=((b+k:Nat):Int):=by rw[iZ (by omega) (by omega)];omega
  obtain⟨z,h1,h2⟩:=Jv (l:=l) w1 w2 (by omega) (by omega) (f:=λq=>some (Sum.inl (β:=List α) (q,wr ((k:Int)+1)))) (P:=λz=> ∃s',z=.inl s'/\s'.2=((k+1:Nat):Int)/\s'.1.Perm l0)
   (λq hq=>⟨_,rfl,_,rfl,by rw[iZ (by omega) (by omega)];omega,hq.trans hp⟩)
  obtain⟨s',rfl,h3,h4⟩:=h2;exact .inl ⟨s',h1,h3,h4⟩
 ·rintro⟨l,s2⟩ ⟨e,hp⟩;simp only at e hp;subst e;have c1: ¬((n:Int)<(n:Int)):=by omega
  simp only[c1,fq,dD];exact⟨_,rfl,hp⟩
 ·intro r hr;exact⟨r,rfl,hr⟩
theorem QX{α:Type}(l0:List α)(hs:l0.length<=4194304)(a m b:Nat)(h1:a<m)(h2:m<b)(h3:b<=l0.length){A M B:Int}(hA:A=(a:Int))(hM:M=(m:Int))(hB:B=(b:Int)): ∃r,UA l0 A M B=some r/\r.Perm l0:=by
 subst hA;subst hM;subst hB;unfold UA;have w1:wr ((m:Int)-(a:Int))=((m-a:Nat):Int):=by rw[iZ (by omega) (by omega)];omega
 have w2:wr ((b:Int)-(m:Int))=((b-m:Nat):Int):=by rw[iZ (by omega) (by omega)];omega
 rw[w1,w2];refine nC (λ(s:List α×Int×Int)=> ∃i j:Nat,s.2.1=(i:Int)/\s.2.2=(j:Int)/\0<i/\0<j/\i<=m-a/\j<=b-m/\s.1.Perm l0) (λs=>s.2.1.toNat+s.2.2.toNat)
  (λ(r:List α×Int)=> ∃i:Nat,r.2=(i:Int)/\i<=m-a/\i<=b-m/\r.1.Perm l0) ⟨m-a,b-m,rfl,rfl,by omega,by omega,eD _,eD _,.refl _⟩ (by simp only[oD];omega) ?_ ?_
 ·rintro⟨l,s1,s2⟩ ⟨i,j,e1,e2,hi,hj,Zt,VM,hp⟩;simp only at e1 e2 hp;subst e1;subst e2;have hl:=hp.length_eq;by_cases oI:(i:Int)=(j:Int)
  ·have c:decide ((i:Int)≠(j:Int))=false:=jb (by omega);simp only[c,dD];exact .inr ⟨_,rfl,i,rfl,Zt,by omega,hp⟩
  ·have c:decide ((i:Int)≠(j:Int))=true:=sB oI;simp only[c,dt];have w3:wr ((m:Int)-(i:Int))=((m-i:Nat):Int):=by rw[iZ (by omega) (by omega)];omega
   by_cases gl:(j:Int)<(i:Int)
   ·obtain⟨r,e,hr⟩:=Dy l (by omega) (m-i) m j (by omega) (by omega) w3 rfl rfl;have w4:wr ((i:Int)-(j:Int))=((i-j:Nat):Int):=by rw[iZ (by omega) (by omega)];omega
    simp only[gl,ij,dt,e,dm,cX hr.length_eq,w4];exact .inl ⟨_,rfl,⟨i-j,j,rfl,rfl,by omega,hj,by omega,VM,hr.trans hp⟩,by simp only[oD];omega⟩
   ·have w5:wr (wr ((m:Int)+(j:Int))-(i:Int))=((m+j-i:Nat):Int):=by rw[iZ (n:=(m:Int)+(j:Int)) (by omega) (by omega),iZ (by omega) (by omega)];omega
    obtain⟨r,e,hr⟩:=Dy l (by omega) (m-i) (m+j-i) i (by omega) (by omega) w3 w5 rfl;have w4:wr ((j:Int)-(i:Int))=((j-i:Nat):Int):=by rw[iZ (by omega) (by omega)];omega
    simp only[gl,fq,dD,e,dm,cX hr.length_eq,w4];exact .inl ⟨_,rfl,⟨i,j-i,rfl,rfl,hi,by omega,Zt,by omega,hr.trans hp⟩,by simp only[oD];omega⟩
 ·rintro⟨l,s1⟩ ⟨i,e1,hi,Zt,hp⟩;simp only at e1 hp;subst e1;have hl:=hp.length_eq;have w3:wr ((m:Int)-(i:Int))=((m-i:Nat):Int):=by rw[iZ (by omega) (by omega)];omega
  obtain⟨r,e,hr⟩:=Dy l (by omega) (m-i) m i (by omega) (by omega) w3 rfl rfl;simp only[e,dm];exact⟨r,rfl,hr.trans hp⟩
theorem QY{i j:Nat}(h1:i<=4194304)(h2:j<=4194304):wr (eK (IntKind.wrap .u64 (wr ((i:Int)+(j:Int)))) 1)=(((i+j) / 2:Nat):Int):=by
 have w1:wr ((i:Int)+(j:Int))=((i+j:Nat):Int):=by rw[Fk (by omega) (by omega)];omega
 have w2:IntKind.wrap .u64 ((i+j:Nat):Int)=((i+j:Nat):Int):=by
  rw[IntKind.wrap_u64];omega
 have w3:eK ((i+j:Nat):Int) 1=(((i+j) / 2:Nat):Int):=by
  unfold eK;have:(2:Int)^(min (1:Int).toNat 64)=2:=by decide
  rw[this,Int.fdiv_eq_ediv_of_nonneg _ (by omega)];omega
 rw[w1,w2,w3];exact Fk (by omega) (by omega)
theorem Oq{body:Int×Int->Option ((Int×Int)⊕Int)}(lo hi:Nat)(hh:hi<=4194304)(UG:lo<=hi)
  (hb: ∀i j:Nat,lo<=i->i<j->j<=hi->body ((i:Int),(j:Int))=some (.inl ((((i+j) / 2+1:Nat):Int),(j:Int)))\/body ((i:Int),(j:Int))=some (.inl ((i:Int),(((i+j) / 2:Nat):Int))))
  (he: ∀i:Nat,lo<=i->i<=hi->body ((i:Int),(i:Int))=some (.inr (i:Int))): ∃r,cA body cQ ((lo:Int),(hi:Int))=some r/\ ∃i:Nat,r=(i:Int)/\lo<=i/\i<=hi:=by
 refine yb (λ(s:Int×Int)=> ∃i j:Nat,s=((i:Int),(j:Int))/\lo<=i/\i<=j/\j<=hi) (λs=>s.2.toNat-s.1.toNat) _ ?_ cQ _ ⟨lo,hi,rfl,eD _,UG,eD _⟩ (by simp only[oD];unfold cQ;omega);rintro s ⟨i,j,rfl,h1,h2,h3⟩;by_cases oI:i=j
 ·subst oI;exact .inr ⟨_,he i h1 h3,i,rfl,h1,h3⟩
 ·rcases hb i j h1 (by omega) h3 with h|h
  ·exact .inl ⟨_,h,⟨_,_,rfl,by omega,by omega,h3⟩,by simp only[oD];omega⟩
  ·exact .inl ⟨_,h,⟨_,_,rfl,h1,by omega,by omega⟩,by simp only[oD];omega⟩
section
variable {α:Type} {cmp:α->α->Option Int} {G:α->Prop} (hc: ∀x y,G x->G y-> ∃r,cmp x y=some r)
include hc
theorem Jw(l0:List α)(hs:l0.length<=4194304)(hg: ∀p∈l0,G p)(a b:Nat)(ha:a<=4194304)(hb:b<=l0.length){A B:Int}(hA:A=(a:Int))(hB:B=(b:Int)): ∃r,Le cmp l0 A B=some r/\r.Perm l0:=by
 subst hA;subst hB;unfold Le;refine nC (λ(s:List α×Int)=>(∃k:Nat,s.2=(k:Int)/\a+1<=k)/\s.1.Perm l0) (λs=>b-s.2.toNat) (λr=>r.Perm l0) ⟨⟨a+1,?_,eD _⟩,.refl _⟩ (by omega) ?_ ?_
 ·show wr ((a:Int)+1)=((a+1:Nat):Int);rw[iZ (by omega) (by omega)];omega
 ·rintro⟨l,s2⟩ ⟨⟨k,e,hk⟩,hp⟩;simp only at e hp;subst e;have dJ:=hp.length_eq;by_cases c1:(k:Int)<(b:Int)
  ·simp only[c1,ij,dt];have:=yb (body:=λ((mT,oA):(List α×Int))=>((bif (decide ((a:Int)<oA))then((ix mT oA).bind λy3=>(ix mT (wr (oA-1))).bind λy4=>(cmp y3 y4).bind λr5=>some (decide (r5<0)))else(some false)):Option Bool).bind λ(Om:Bool)=>bif Om then((ix mT (wr (oA-1))).bind λy7=>(ix mT oA).bind λy8=>(ix (mT.set oA.toNat y7) (wr (oA-1))).bind λy9=>some (.inl (((mT.set oA.toNat y7).set (wr (oA-1)).toNat y8),(wr (oA-1)))))else(some (.inr mT)))
    (λ(s:List α×Int)=>(∃j:Nat,s.2=(j:Int)/\j<=k)/\s.1.Perm l0) (λs=>s.2.toNat) (λr=>r.Perm l0) ?_ cQ (l,(k:Int)) ⟨⟨k,rfl,eD _⟩,hp⟩ (by simp only[oD];unfold cQ;omega)
   ·obtain⟨r,h1,h2⟩:=this;rw[h1];simp only[dm];refine .inl ⟨_,rfl,⟨⟨k+1,?_,by omega⟩,h2⟩,?_⟩
    ·show wr ((k:Int)+1)=_;rw[iZ (by omega) (by omega)];omega
    ·show b-(wr ((k:Int)+1)).toNat<b-((k:Int)).toNat;rw[iZ (by omega) (by omega)];omega
   ·rintro⟨q,s2⟩ ⟨⟨j,e,hj⟩,hq⟩;simp only at e hq;subst e;have hql:=hq.length_eq;by_cases c2:(a:Int)<(j:Int)
    ·have x1:q[j]? =some (q[j]'(by omega)):=dR _;have x2:q[j-1]? =some (q[j-1]'(by omega)):=dR _;have w:wr ((j:Int)-1)=((j-1:Nat):Int):=by rw[iZ (by omega) (by omega)];omega
     obtain⟨r5,e5⟩:=hc (q[j]'(by omega)) (q[j-1]'(by omega)) (hg _ (hq.mem_iff.1 (JN _))) (hg _ (hq.mem_iff.1 (JN _)));simp only[c2,ij,dt,cJ x1,w,cJ x2,e5,dm];cases decide (r5<0)
     ·exact .inr ⟨_,rfl,hq⟩
     ·simp only[dt];obtain⟨z,h1,h2⟩:=Jv (l:=q) (i:=j) (j:=j-1) rfl rfl (by omega) (by omega) (f:=λq'=>some (Sum.inl (β:=List α) (q',((j-1:Nat):Int)))) (P:=λz=> ∃s',z=.inl s'/\s'.2=((j-1:Nat):Int)/\s'.1.Perm l0)
       (λq' VO=>⟨_,rfl,_,rfl,rfl,VO.trans hq⟩)
      obtain⟨s',rfl,h3,h4⟩:=h2;simp only[cJ x1,cJ x2,dm]at h1;refine .inl ⟨s',h1,⟨⟨j-1,h3,by omega⟩,h4⟩,?_⟩;show s'.2.toNat<((j:Int)).toNat;rw[h3];omega
    ·simp only[c2,fq,dD,dm];exact .inr ⟨_,rfl,hq⟩
  ·simp only[c1,fq,dD];exact .inr ⟨_,rfl,hp⟩
 ·intro r hr;exact⟨r,rfl,hr⟩
theorem Aj: ∀(fu:Nat)(l0:List α)(a m b:Nat),l0.length<=4194304->(∀p∈l0,G p)->a<m->m<b->b<=l0.length->b-a<=fu-> ∃r,vb cmp fu l0 (a:Int) (m:Int) (b:Int)=some r/\r.Perm l0
 |0,l0,a,m,b,hs,hg,h1,h2,h3,hf=>by omega
 |fu+1,l0,a,m,b,hs,hg,h1,h2,h3,hf=>by
  unfold vb;have at_: ∀i:Nat,i<l0.length-> ∃y,l0[i]? =some y/\G y:=λi hi=>⟨_,dR hi,hg _ (JN _)⟩;have w1:wr ((m:Int)-(a:Int))=((m-a:Nat):Int):=by rw[iZ (by omega) (by omega)];omega
  have w2:wr ((b:Int)-(m:Int))=((b-m:Nat):Int):=by rw[iZ (by omega) (by omega)];omega
  simp only[w1,w2];by_cases ca:m-a=1
  ·have c:decide (((m-a:Nat):Int)=1)=true:=sB (by omega);simp only[c,dt];refine fR (Oq m b (by omega) (by omega) ?_ ?_) ?_
   ·intro i j hi oI hj;have c1:(i:Int)<(j:Int):=by omega
    obtain⟨y,x1,g1⟩:=at_ ((i+j) / 2) (by omega);obtain⟨z,x2,g2⟩:=at_ a (by omega);obtain⟨r,e⟩:=hc y z g1 g2;have w3:wr ((((i+j) / 2:Nat):Int)+1)=(((i+j) / 2+1:Nat):Int):=by rw[iZ (by omega) (by omega)];omega
    simp only[c1,ij,dt,QY (i:=i) (j:=j) (by omega) (by omega),cJ x1,cJ x2,e,dm,w3];cases decide (r<0)
    ·exact .inr rfl
    ·exact .inl rfl
   ·intro i hi hj;have c1: ¬((i:Int)<(i:Int)):=by omega
    simp only[c1,fq,dD]
   ·rintro _ ⟨i,rfl,hi,hj⟩;have w3:wr ((i:Int)-1)=((i-1:Nat):Int):=by rw[iZ (by omega) (by omega)];omega
    simp only[w3];refine nC (λ(s:List α×Int)=>(∃k:Nat,s.2=(k:Int))/\s.1.Perm l0) (λs=>b-s.2.toNat) (λr=>r.Perm l0) ⟨⟨a,rfl⟩,.refl _⟩ (by omega) ?_ λr hr=>⟨r,rfl,hr⟩;rintro⟨l,s2⟩ ⟨⟨k,e⟩,hp⟩;simp only at e hp;subst e;have hl:=hp.length_eq;by_cases c1:(k:Int)<((i-1:Nat):Int)
    ·have w4:wr ((k:Int)+1)=((k+1:Nat):Int):=by rw[iZ (by omega) (by omega)];omega
     obtain⟨z,e1,e2⟩:=Jv (l:=l) (i:=k) (j:=k+1) rfl w4 (by omega) (by omega) (f:=λq=>some (Sum.inl (β:=List α) (q,wr ((k:Int)+1)))) (P:=λz=> ∃s',z=.inl s'/\s'.2=((k+1:Nat):Int)/\s'.1.Perm l0)
      (λq hq=>⟨_,rfl,_,rfl,w4,hq.trans hp⟩)
     obtain⟨s',rfl,e3,e4⟩:=e2;simp only[c1,ij,dt];refine .inl ⟨s',e1,⟨⟨k+1,e3⟩,e4⟩,?_⟩;show b-s'.2.toNat<b-((k:Int)).toNat;rw[e3];omega
    ·simp only[c1,fq,dD];exact .inr ⟨_,rfl,hp⟩
  ·have c:decide (((m-a:Nat):Int)=1)=false:=jb (by omega);simp only[c,dD];by_cases cb:b-m=1
   ·have c:decide (((b-m:Nat):Int)=1)=true:=sB (by omega);simp only[c,dt];refine fR (Oq a m (by omega) (by omega) ?_ ?_) ?_
    ·intro i j hi oI hj;have c1:(i:Int)<(j:Int):=by omega
     obtain⟨y,x1,g1⟩:=at_ ((i+j) / 2) (by omega);obtain⟨z,x2,g2⟩:=at_ m (by omega);obtain⟨r,e⟩:=hc z y g2 g1;have w3:wr ((((i+j) / 2:Nat):Int)+1)=(((i+j) / 2+1:Nat):Int):=by rw[iZ (by omega) (by omega)];omega
     simp only[c1,ij,dt,QY (i:=i) (j:=j) (by omega) (by omega),cJ x1,cJ x2,e,dm,w3];cases decide (r<0)
     ·exact .inl rfl
     ·exact .inr rfl
    ·intro i hi hj;have c1: ¬((i:Int)<(i:Int)):=by omega
     simp only[c1,fq,dD]
    ·rintro _ ⟨i,rfl,hi,hj⟩;refine nC (λ(s:List α×Int)=>(∃k:Nat,s.2=(k:Int)/\k<=m)/\s.1.Perm l0) (λs=>s.2.toNat) (λr=>r.Perm l0) ⟨⟨m,rfl,eD _⟩,.refl _⟩ (by simp only[oD];omega) ?_ λr hr=>⟨r,rfl,hr⟩;rintro⟨l,s2⟩ ⟨⟨k,e,hk⟩,hp⟩;simp only at e hp;subst e;have hl:=hp.length_eq;by_cases c1:(i:Int)<(k:Int)
     ·have w4:wr ((k:Int)-1)=((k-1:Nat):Int):=by rw[iZ (by omega) (by omega)];omega
      obtain⟨z,e1,e2⟩:=Jv (l:=l) (i:=k) (j:=k-1) rfl w4 (by omega) (by omega) (f:=λq=>some (Sum.inl (β:=List α) (q,wr ((k:Int)-1)))) (P:=λz=> ∃s',z=.inl s'/\s'.2=((k-1:Nat):Int)/\s'.1.Perm l0)
       (λq hq=>⟨_,rfl,_,rfl,w4,hq.trans hp⟩)
      obtain⟨s',rfl,e3,e4⟩:=e2;simp only[c1,ij,dt];refine .inl ⟨s',e1,⟨⟨k-1,e3,by omega⟩,e4⟩,?_⟩;show s'.2.toNat<((k:Int)).toNat;rw[e3];omega
     ·simp only[c1,fq,dD];exact .inr ⟨_,rfl,hp⟩
   ·have c:decide (((b-m:Nat):Int)=1)=false:=jb (by omega);simp only[c,dD,QY (i:=a) (j:=b) (by omega) (by omega)];generalize Bc:(a+b) / 2=lh;have DZ:a<lh:=by omega
    have HR:lh<b:=by omega
    have wn:wr ((lh:Int)+(m:Int))=((lh+m:Nat):Int):=by rw[iZ (by omega) (by omega)];omega
    simp only[wn];refine fR (P1:=λq=> ∃lo hi:Nat,q=((lo:Int),(hi:Int))/\a<=lo/\lo<=hi/\hi<=m/\hi<=lh/\lh+m<=b+lo) ?_ ?_
    ·by_cases cm:(lh:Int)<(m:Int)
     ·have w5:wr (((lh+m:Nat):Int)-(b:Int))=((lh+m-b:Nat):Int):=by rw[iZ (by omega) (by omega)];omega
      simp only[cm,ij,dt,w5];exact⟨_,rfl,lh+m-b,lh,rfl,by omega,by omega,by omega,by omega,by omega⟩
     ·simp only[cm,fq,dD];exact⟨_,rfl,a,m,rfl,by omega,by omega,by omega,by omega,by omega⟩
    ·rintro _ ⟨lo,hi,rfl,p1,p2,p3,p4,p5⟩;simp only;refine fR (Oq lo hi (by omega) p2 ?_ ?_) ?_
     ·intro i j Ct oI hj;have c1:(i:Int)<(j:Int):=by omega
      have wp:wr (((lh+m:Nat):Int)-1)=((lh+m-1:Nat):Int):=by rw[iZ (by omega) (by omega)];omega
      have wq:wr (((lh+m-1:Nat):Int)-(((i+j) / 2:Nat):Int))=((lh+m-1-(i+j) / 2:Nat):Int):=by rw[iZ (by omega) (by omega)];omega
      obtain⟨y,x1,g1⟩:=at_ ((i+j) / 2) (by omega);obtain⟨z,x2,g2⟩:=at_ (lh+m-1-(i+j) / 2) (by omega);obtain⟨r,e⟩:=hc z y g2 g1;have w3:wr ((((i+j) / 2:Nat):Int)+1)=(((i+j) / 2+1:Nat):Int):=by rw[iZ (by omega) (by omega)];omega
      simp only[c1,ij,dt,QY (i:=i) (j:=j) (by omega) (by omega),wp,wq,cJ x1,cJ x2,e,dm,w3];cases decide (r<0)
      ·exact .inl rfl
      ·exact .inr rfl
     ·intro i Ct hj;have c1: ¬((i:Int)<(i:Int)):=by omega
      simp only[c1,fq,dD]
     ·rintro _ ⟨i,rfl,hi1,Zt⟩;have we:wr (((lh+m:Nat):Int)-(i:Int))=((lh+m-i:Nat):Int):=by rw[iZ (by omega) (by omega)];omega
      simp only[we];refine fR (P1:=λq=>q.Perm l0) ?_ λq7 XQ=>?_
      ·by_cases d1:(i:Int)<(m:Int)
       ·by_cases d2:(m:Int)<((lh+m-i:Nat):Int)
        ·obtain⟨r,e,hr⟩:=QX l0 hs i m (lh+m-i) (by omega) (by omega) (by omega) rfl rfl rfl;simp only[d1,d2,ij,dt,dm,e,cX hr.length_eq];exact⟨r,rfl,hr⟩
        ·simp only[d1,d2,ij,fq,dt,dD,dm];exact⟨_,rfl,.refl _⟩
       ·simp only[d1,fq,dD,dm];exact⟨_,rfl,.refl _⟩
      have hl7:=XQ.length_eq;refine fR (P1:=λq=>q.Perm l0) ?_ λq9 XR=>?_
      ·by_cases d1:(a:Int)<(i:Int)
       ·by_cases d2:(i:Int)<(lh:Int)
        ·obtain⟨r,e,hr⟩:=Aj fu q7 a i lh (by omega) (λp hp=>hg p (XQ.mem_iff.1 hp)) (by omega) (by omega) (by omega) (by omega);simp only[d1,d2,ij,dt,dm,e,cX hr.length_eq];exact⟨r,rfl,hr.trans XQ⟩
        ·simp only[d1,d2,ij,fq,dt,dD,dm];exact⟨_,rfl,XQ⟩
       ·simp only[d1,fq,dD,dm];exact⟨_,rfl,XQ⟩
      have hl9:=XR.length_eq;by_cases d1:(lh:Int)<((lh+m-i:Nat):Int)
      ·by_cases d2:((lh+m-i:Nat):Int)<(b:Int)
       ·obtain⟨r,e,hr⟩:=Aj fu q9 lh (lh+m-i) b (by omega) (λp hp=>hg p (XR.mem_iff.1 hp)) (by omega) (by omega) (by omega) (by omega);simp only[d1,d2,ij,dt,dm,e];exact⟨r,rfl,hr.trans XR⟩
       ·simp only[d1,d2,ij,fq,dt,dD,dm];exact⟨_,rfl,XR⟩
      ·simp only[d1,fq,dD,dm];exact⟨_,rfl,XR⟩
theorem Jx(l0:List α)(a m b:Nat)(hs:l0.length<=4194304)(hg: ∀p∈l0,G p)(h1:a<m)(h2:m<b)(h3:b<=l0.length){A M B:Int}(hA:A=(a:Int))(hM:M=(m:Int))(hB:B=(b:Int)): ∃r,Dw cmp l0 A M B=some r/\r.Perm l0:=by
 subst hA;subst hM;subst hB;exact Aj hc cQ l0 a m b hs hg h1 h2 h3 (by unfold cQ;omega)
theorem Jy(l0:List α)(hs:l0.length<=4194304)(hg: ∀p∈l0,G p){N:Int}(hN:N=(l0.length:Int)): ∃r,Lf cmp l0 N=some r/\r.Perm l0:=by
 subst hN;generalize hn:l0.length=n at hs;unfold Lf;refine nC (λ(s:List α×Int×Int)=> ∃a:Nat,s.2.1=(a:Int)/\s.2.2=((a+20:Nat):Int)/\a<=n/\s.1.Perm l0) (λs=>n-s.2.1.toNat)
  (λ(r:List α×Int)=> ∃a:Nat,r.2=(a:Int)/\a<=n/\r.1.Perm l0) ⟨0,rfl,rfl,by omega,.refl _⟩ (by omega) ?_ ?_
 ·rintro⟨l,s1,s2⟩ ⟨a,e1,e2,ha,hp⟩;simp only at e1 e2 hp;subst e1;subst e2;have hl:=hp.length_eq;by_cases c1:((a+20:Nat):Int)<=(n:Int)
  ·obtain⟨r,e,hr⟩:=Jw hc l (by omega) (λp h=>hg p (hp.mem_iff.1 h)) a (a+20) (by omega) (by omega) rfl rfl;have w:wr (((a+20:Nat):Int)+20)=((a+20+20:Nat):Int):=by rw[iZ (by omega) (by omega)];omega
   simp only[c1,ij,dt,e,dm,cX hr.length_eq,w];exact .inl ⟨_,rfl,⟨a+20,rfl,rfl,by omega,hr.trans hp⟩,by simp only[oD];omega⟩
  ·simp only[c1,fq,dD];exact .inr ⟨_,rfl,a,rfl,ha,hp⟩
 ·rintro⟨l,s1⟩ ⟨a,e1,ha,hp⟩;simp only at e1 hp;subst e1;have hl:=hp.length_eq;obtain⟨r4,e,hr⟩:=Jw hc l (by omega) (λp h=>hg p (hp.mem_iff.1 h)) a n (by omega) (by omega) rfl rfl;simp only[e,dm,cX hr.length_eq];refine nC (λ(s:List α×Int)=>(∃k:Nat,s.2=(k:Int)/\1<=k)/\s.1.Perm l0) (λs=>n-s.2.toNat) (λr=>r.Perm l0) ⟨⟨20,rfl,by omega⟩,hr.trans hp⟩ (by omega) ?_ λr hr=>⟨r,rfl,hr⟩;rintro⟨q,s2⟩ ⟨⟨k,e2,hk⟩,hq⟩;simp only at e2 hq;subst e2;by_cases c1:(k:Int)<(n:Int)
  ·have w2:wr (2*(k:Int))=((2*k:Nat):Int):=by rw[iZ (by omega) (by omega)];omega
   have w3:wr ((k:Int)*2)=((2*k:Nat):Int):=by rw[iZ (by omega) (by omega)];omega
   simp only[c1,ij,dt,w2,w3];have key: ∃z,((cA (σ:=(List α×Int×Int)) (τ:=(List α×Int)) (λ((HZ,H3,Dx):(List α×Int×Int))=>bif (decide (Dx<=(n:Int)))then((Dw cmp HZ H3 (wr (H3+(k:Int))) Dx).bind λr8=>cB (r8.length=HZ.length)<|some (.inl (r8,Dx,(wr (Dx+((2*k:Nat):Int))))))else(some (.inr (HZ,H3)))) cQ (q,0,((2*k:Nat):Int))).bind λ((Ah,Ai):(List α×Int))=>((bif (decide ((wr (Ai+(k:Int)))<(n:Int)))then((Dw cmp Ah Ai (wr (Ai+(k:Int))) (n:Int)).bind λHP=>cB (HP.length=Ah.length)<|some HP)else(some Ah)):Option (List α)).bind λ(UF:(List α))=>some (Sum.inl (β:=List α) (UF,((2*k:Nat):Int))))=some z/\ ∃s',z=.inl s'/\s'.2=((2*k:Nat):Int)/\s'.1.Perm l0:=by
    refine nC (λ(s:List α×Int×Int)=> ∃a:Nat,s.2.1=(a:Int)/\s.2.2=((a+2*k:Nat):Int)/\a<=n/\s.1.Perm l0) (λs=>n-s.2.1.toNat)
     (λ(r:List α×Int)=> ∃a:Nat,r.2=(a:Int)/\a<=n/\r.1.Perm l0) ⟨0,rfl,by show((2*k:Nat):Int)=_;omega,by omega,hq⟩ (by omega) ?_ ?_
    ·rintro⟨l,s1,s2⟩ ⟨a,e1,e2,ha,hp⟩;simp only at e1 e2 hp;subst e1;subst e2;have hl:=hp.length_eq;by_cases c1:((a+2*k:Nat):Int)<=(n:Int)
     ·have w4:wr ((a:Int)+(k:Int))=((a+k:Nat):Int):=by rw[iZ (by omega) (by omega)];omega
      obtain⟨r,e,hr⟩:=Jx hc l a (a+k) (a+2*k) (by omega) (λp h=>hg p (hp.mem_iff.1 h)) (by omega) (by omega) (by omega) rfl w4 rfl;have w:wr (((a+2*k:Nat):Int)+((2*k:Nat):Int))=((a+2*k+2*k:Nat):Int):=by rw[iZ (by omega) (by omega)];omega
      simp only[c1,ij,dt,e,dm,cX hr.length_eq,w];exact .inl ⟨_,rfl,⟨a+2*k,rfl,rfl,by omega,hr.trans hp⟩,by simp only[oD];omega⟩
     ·simp only[c1,fq,dD];exact .inr ⟨_,rfl,a,rfl,ha,hp⟩
    ·rintro⟨l,s1⟩ ⟨a,e1,ha,hp⟩;simp only at e1 hp;subst e1;have hl:=hp.length_eq;have w4:wr ((a:Int)+(k:Int))=((a+k:Nat):Int):=by rw[iZ (by omega) (by omega)];omega
     by_cases c2:((a+k:Nat):Int)<(n:Int)
     ·obtain⟨r,e,hr⟩:=Jx hc l a (a+k) n (by omega) (λp h=>hg p (hp.mem_iff.1 h)) (by omega) (by omega) (by omega) rfl w4 rfl;simp only[w4,c2,ij,dt];rw[w4]at e;simp only[e,dm,cX hr.length_eq];exact⟨_,rfl,_,rfl,rfl,hr.trans hp⟩
     ·simp only[w4,c2,fq,dD,dm];exact⟨_,rfl,_,rfl,rfl,hp⟩
   obtain⟨z,h1,s',rfl,h2,h3⟩:=key;refine .inl ⟨s',h1,⟨⟨2*k,h2,by omega⟩,h3⟩,?_⟩;show n-s'.2.toNat<n-((k:Int)).toNat;rw[h2];omega
  ·simp only[c1,fq,dD];exact .inr ⟨_,rfl,hq⟩
end
end Go.Am
set_option linter.all false
namespace Go.Proofs.YtfdnjgoegamonaaGreatDoor
open Go Go.Am
set_option maxRecDepth 100000
theorem f256_g:f256=Le f202:=rfl
theorem f257r_g: ∀fu,f257r fu=vb f202 fu
 |0=>rfl
 |fu+1=>by
  funext a0 a1 a2 a3;unfold f257r vb;rw[f257r_g fu];rfl
theorem f257_g:f257=Dw f202:=by
 funext a0 a1 a2 a3;unfold f257 Dw;rw[f257r_g]
theorem f230_g:f230=Lf f202:=by
 funext a0 a1;unfold f230 Lf;rw[f257_g,f256_g]
theorem f201_ex(l:List (List be))(hl:l.length<=4194304)(hp: ∀p∈l,cH p): ∃r,f201 l=some r/\r.Perm l:=by
 unfold f201;rw[f230_g];obtain⟨r,h1,h2⟩:=Jy (cmp:=f202) (G:=cH) (λx y hx hy=>let⟨r,e,_⟩:=f202_ex x y hx hy;⟨r,e⟩) l hl hp rfl;rw[h1];exact⟨r,rfl,h2⟩
def H4(x y:bE):Option Int:=f109 x.cg x.cw x.cy x.dK x.cp.aY x.cp.cO x.cP y.cg y.cw y.cy y.dK y.cp.aY y.cp.cO y.cP
theorem f193_g:f193=Le H4:=rfl
theorem f194r_g: ∀fu,f194r fu=vb H4 fu
 |0=>rfl
 |fu+1=>by
  funext a0 a1 a2 a3;unfold f194r vb;rw[f194r_g fu];rfl
theorem f194_g:f194=Dw H4:=by
 funext a0 a1 a2 a3;unfold f194 Dw;rw[f194r_g]
theorem f152_g:f152=Lf H4:=by
 funext a0 a1;unfold f152 Lf;rw[f194_g,f193_g]
theorem QZ(x y:bE)(hx:x.cg≠[])(hy:y.cg≠[]): ∃r,H4 x y=some r:=by
 unfold H4 f109;obtain⟨a,l,e1⟩:=Yu hx;obtain⟨b,q,e2⟩:=Yu hy;rw[e1,e2];have i1:ix (a::l) 0=some a:=rfl;have i2:ix (b::q) 0=some b:=rfl;simp only[i1,i2,dm,f84_eq];exact⟨_,rfl⟩
theorem f108_ex(l:List bE)(hl:l.length<=4194304)(hm: ∀n∈l,n.cg≠[]): ∃r,f108 l=some r/\r.Perm l:=by
 unfold f108;rw[f152_g];obtain⟨r,h1,h2⟩:=Jy (cmp:=H4) (G:=λn=>n.cg≠[]) QZ l hl hm rfl;rw[h1];exact⟨r,rfl,h2⟩
theorem f77_ex(d:dl)(t:Int)(hl:cH d.dx)(hm: ∀n∈d.dx,n.cg≠[]): ∃r,f77 d t=some r/\r.Perm (d.dx.filter λn=>decide (t<n.dK)):=by
 have vr:d.dx.length<=4194304:=hl;unfold f77;refine fc (λk(s:List bE×Int)=>s.2=(k:Int)/\s.1=(d.dx.take k).filter λn=>decide (t<n.dK)) (λr=>r=d.dx.filter λn=>decide (t<n.dK)) d.dx.length hl ⟨rfl,by simp⟩ ?_ ?_ ?_
 ·rintro k ⟨s1,s2⟩ hk ⟨e0,e1⟩;simp only at e0 e1;subst e0;subst e1;have x1:d.dx[k]? =some (d.dx[k]'hk):=dR _;have hq:=tQ (λn:bE=>decide (t<n.dK)) (d.dx.take k);have Kw:(d.dx.take k).length<=k:=O9 ..;have m1:((d.dx.take k).filter λn=>decide (t<n.dK)).length+1<=bQ:=by unfold bQ;omega
  have ht:d.dx.take (k+1)=d.dx.take k++[d.dx[k]'hk]:=by rw[List.take_succ,x1];rfl
  simp only[dr x1,dt,cJ x1,dm,eT hl x1,cX m1];cases c:decide (t<(d.dx[k]'hk).dK)
  ·exact .inl ⟨_,rfl,rfl,by rw[ht,Gd];simp only[List.filter,c,xD]⟩
  ·exact .inl ⟨_,rfl,rfl,by rw[ht,Gd];simp only[List.filter,c]⟩
 ·rintro⟨s1,s2⟩ ⟨e0,e1⟩;simp only at e0 e1;subst e0;subst e1;simp only[oF,fq,dD];exact⟨_,rfl,by rw[AN]⟩
 ·rintro r rfl;have hq:=tQ (λn:bE=>decide (t<n.dK)) d.dx;obtain⟨r,h1,h2⟩:=f108_ex (d.dx.filter λn=>decide (t<n.dK)) (by omega) (λn hn=>hm n (nT.1 hn).1);simp only[h1,dm,cX h2.length_eq];exact⟨_,rfl,h2⟩
theorem f115_eq(l:List dw)(n:bE)(hl:cH l):f115 l n.cg n.cw n.cy n.dK n.cp.aY n.cp.cO n.cP=some (iF (λs:dw=>decide (s.aY=n.cp.aY)) l):=by
 unfold f115;rw[fZ l (λs:dw=>decide (s.aY=n.cp.aY)) (λi _=>(i:Int)) hl]
 ·simp only[dm,gJ,iF];cases l.findIdx? _<;>simp
 ·intro i y hy;simp only[dr hy,dt,cJ hy,dm,f116];cases decide (y.aY=n.cp.aY)<;>rfl
 ·simp
def hb(K:List bE)(e:Nat)(c:Int):Bool:=K.any λa=>decide (0<a.cp.cO)&&(decide (a.cP=(e:Int))&&decide (a.cp.aY=c))
def vt(K:List bE)(now:Int)(e:Nat)(s:dw):dw:=bif hb K e s.aY then⟨s.aY,s.cO,s.right,s.ka,now-(e:Int)⟩else s
def ss(K:List bE)(now:Int)(e:Nat)(d:cz):cz:=⟨d.lR,d.sign,d.tie,d.dy.map (vt K now e)⟩
theorem gq{K:List bE}{now:Int}{e:Nat}{s:dw}:(vt K now e s).aY=s.aY:=by unfold vt;cases hb K e s.aY<;>rfl
theorem vc{K:List bE}{now:Int}{e:Nat}{s:dw}:(vt K now e s).cO=s.cO:=by unfold vt;cases hb K e s.aY<;>rfl
theorem Jz{now:Int}{e:Nat}{d:cz}:ss [] now e d=d:=by
 unfold ss;have:vt [] now e=id:=rfl;rw[this,List.map_id]
theorem yc{K:List bE}{a:bE}{e:Nat}{c:Int}:hb (K++[a]) e c=(hb K e c||(decide (0<a.cp.cO)&&(decide (a.cP=(e:Int))&&decide (a.cp.aY=c)))):=by unfold hb;simp
theorem Ot{α:Type}{p:α->Bool}: ∀{l:List α}{k:Nat}{x:α},l[k]? =some x->p x=true->(∀(j:Nat)y,l[j]? =some y->p y=true->j=k)->iF p l=(k:Int):=by
 intro l k x hx hp hu;have h1:=uV (l:=l) (p:=p) (AO.2 ⟨x,gT hx,hp⟩);obtain⟨j,y,e1,e2,e3⟩:=h1;rw[e1,hu j y e2 e3]
structure Sd (E:List cz) (a:bE):Prop where
 st: ∃(e:Nat)(d:cz)(k:Nat)(s:dw),a.cP=(e:Int)/\E[e]? =some d/\d.dy[k]? =some s/\s.aY=a.cp.aY/\cH d.dy/\ ∀(j:Nat)y,d.dy[j]? =some y->y.aY=s.aY->j=k
theorem Ou{E:List cz}{K:List bE}{a:bE}{now:Int}{e:Nat}{d:cz}{k:Nat}{s:dw}(ha:a.cP=(e:Int))(hd:E[e]? =some d)(hk:d.dy[k]? =some s)(hc:s.aY=a.cp.aY)
  (hu: ∀(j:Nat)y,d.dy[j]? =some y->y.aY=s.aY->j=k) (hf:0<a.cp.cO):
  (E.mapIdx (ss K now)).set e ⟨d.lR,d.sign,d.tie,(d.dy.map (vt K now e)).set k ⟨s.aY,s.cO,s.right,s.ka,now-(e:Int)⟩⟩=E.mapIdx (ss (K++[a]) now):=by
 apply SB;intro j;by_cases hj:e=j
 ·subst hj;have hl:=(fT.1 hd).1;rw[Gu (by simpa using hl),Rh,hd];simp only[gX,ss,Option.some.injEq,cz.mk.injEq,O7];apply SB;intro i;by_cases hi:k=i
  ·subst hi;have D0:=(fT.1 hk).1;rw[Gu (by simpa using D0),sW,hk];simp only[gX,vt,yc,hf,ha,hc,ij,Bool.and_self,Bool.or_true,dt]
  ·rw[DR hi,sW,sW];cases hy:d.dy[i]? with
   |none=>rfl
   |some y=>
    have:decide (a.cp.aY=y.aY)=false:=jb λh=>hi (hu i y hy (by rw[hc,h])).symm;simp only[gX,vt,yc,this,Bool.and_false,Yv]
 ·rw[DR hj,Rh,Rh];cases E[j]? with
  |none=>rfl
  |some y=>
   have h1:decide (a.cP=(j:Int))=false:=jb λh=>hj (by omega);have:vt (K++[a]) now j=vt K now j:=by funext s;simp only[vt,yc,h1,Yw,Bool.and_false,Yv]
   simp only[gX,ss,this]
def jt(ep:List bE)(cut:List Bool):List bE:=((ep.zip cut).filter λx=>!x.2).map (·.1)
def Dz(ep:List bE)(cut:List Bool):List bE:=((ep.zip cut).filter λx=>x.2).map (·.1)
def Ov(now:Int)(n:bE)(p:be):bE:=⟨n.cg,n.cw,n.cy,n.dK,p,bif decide (0<p.aY)then now else n.cP⟩
def tD(now:Int)(cE:List bE)(pl:List be):List bE:=(cE.zip pl).map λx=>Ov now x.1 x.2
def rj(p:be):dw:=⟨p.aY,p.cO,0,0,0⟩
theorem pq{α β:Type}{l:List α}{m:List β}{k:Nat}{a:α}{b:β}(h1:l[k]? =some a)(h2:m[k]? =some b):(l.zip m).take (k+1)=(l.zip m).take k++[(a,b)]:=dj (B6 h1 h2)
theorem f117_ex(l:List dw)(hs:cH l)(hd: ∀x∈l,∀y∈l,x.aY=y.aY->x=y): ∃r,f117 l=some r/\r.Perm l/\r.Pairwise λx y=>x.aY<=y.aY:=B5 dw.aY f118 f118_eq l hs hd
theorem f80_ex(d:dl)(c:ct)(cE ep:List bE)(sg:df)(hl:c.cut.length=ep.length)(hp:c.places.length=cE.length)(hu:ep.length<=100000)(hf:cE.length<=4000)(hE:d.ck.bP.length<=4000)
  (ho: ∀a∈ep,0<a.cp.cO->Sd d.ck.bP a) (hd: ∀x∈c.places,∀y∈c.places,0<x.aY->x.aY=y.aY->x=y):
  ∃u,f80 d c cE ep sg=some (u,Dz ep c.cut,tD (d.ck.bP.length:Int) cE c.places,d.ck.bP.mapIdx (ss (jt ep c.cut) (d.ck.bP.length:Int)),
   jt ep c.cut++(tD (d.ck.bP.length:Int) cE c.places).filter λn=>decide (0<n.cp.aY))/\u.Perm ((c.places.filter λp=>decide (0<p.aY)).map rj)/\u.Pairwise λx y=>x.aY<=y.aY:=by
 have key: ∃z,f80 d c cE ep sg=some z/\ ∃u,z=(u,Dz ep c.cut,tD (d.ck.bP.length:Int) cE c.places,d.ck.bP.mapIdx (ss (jt ep c.cut) (d.ck.bP.length:Int)),
   jt ep c.cut++(tD (d.ck.bP.length:Int) cE c.places).filter λn=>decide (0<n.cp.aY))/\u.Perm ((c.places.filter λp=>decide (0<p.aY)).map rj)/\u.Pairwise λx y=>x.aY<=y.aY:=by
  unfold f80;generalize J9:(d.ck.bP.length:Int)=now;refine fc (λk(s:List cz×List bE×List bE×Int)=>s.2.2.2=(k:Int)/\s.2.1=(((ep.zip c.cut).take k).filter λx=>!x.2).map (·.1)/\s.2.2.1=(((ep.zip c.cut).take k).filter λx=>x.2).map (·.1)/\s.1=d.ck.bP.mapIdx (ss s.2.1 now))
   (λr=>r=(d.ck.bP.mapIdx (ss (jt ep c.cut) now),jt ep c.cut,Dz ep c.cut)) ep.length (by omega) ?_ ?_ ?_ ?_
  ·refine⟨rfl,by simp,by simp,?_⟩;show _=List.mapIdx (ss [] now) _;have:ss [] now=λ_ d=>d:=by funext e d;exact Jz
   rw[this];apply SB;intro i;rw[Rh];cases d.ck.bP[i]?<;>rfl
  ·rintro k ⟨s1,s2,s3,s4⟩ hk ⟨e0,e1,e2,e3⟩;simp only at e0 e1 e2 e3;subst e0;have x1:ep[k]? =some (ep[k]'hk):=dR _;have x2:c.cut[k]? =some (c.cut[k]'(by omega)):=dR _;have ha:=gT x1;generalize ep[k]'hk=a at x1 ha;generalize c.cut[k]'(by omega)=b at x2;have b2:s2.length<=k:=by rw[e1];have:=tQ (λx:bE×Bool=>!x.2) ((ep.zip c.cut).take k);have:=O9 k (ep.zip c.cut);simp;omega
   have b3:s3.length<=k:=by rw[e2];have:=tQ (λx:bE×Bool=>x.2) ((ep.zip c.cut).take k);have:=O9 k (ep.zip c.cut);simp;omega
   have m2:s2.length+1<=bQ:=by unfold bQ;omega
   have m3:s3.length+1<=bQ:=by unfold bQ;omega
   simp only[dr x1,dt,cJ x1,cJ x2,dm,eT (l:=ep) (by simp only[cH];omega) x1];cases b
   ·simp only[dD,cX m2];by_cases rL:0<a.cp.cO
    ·obtain⟨e,dd,q,st,q1,q2,q3,q4,q5,q6⟩:=ho a ha rL;have ja:=(fT.1 q2).1;have y1:s1[e]? =some (ss s2 now e dd):=by rw[e3,Rh,q2];rfl
     have y2:(ss s2 now e dd).dy[q]? =some (vt s2 now e st):=by show(dd.dy.map _)[q]? =_;rw[sW,q3];rfl
     have n1:e<cU:=by unfold cU;omega
     have y3:f115 (ss s2 now e dd).dy a.cg a.cw a.cy a.dK a.cp.aY a.cp.cO (e:Int)=some (q:Int):=by
      rw[<-q1,f115_eq _ a (by show(dd.dy.map _).length<=_;rw[nE];exact q5)];congr 1;refine Ot y2 (by simp[gq,q4]) λj y hy hc=>?_;have hy:(dd.dy.map (vt s2 now e))[j]? =some y:=hy;rw[sW]at hy;obtain⟨y',Ee,rfl⟩:=D5.1 hy;rw[gq]at hc;exact q6 j y' Ee (by rw[q4];simpa using hc)
     have w1:wr (now-(e:Int))=now-(e:Int):=iZ (by omega) (by omega);have iA:=Ou (K:=s2) (now:=now) q1 q2 q3 q4 q6 rL;simp only[rL,ij,dt,q1,cJ y1,dm,cX n1,y3,cJ y2,w1,oD,gq];refine .inl ⟨_,rfl,rfl,?_,?_,?_⟩
     ·rw[pq x1 x2,e1];simp
     ·rw[pq x1 x2,e2];simp
     ·show s1.set e _=List.mapIdx (ss (s2++[a]) now) _;rw[<-iA,e3];congr 2;simp only[vt];cases hb s2 e st.aY<;>rfl
    ·simp only[rL,fq,dD,dm];refine .inl ⟨_,rfl,rfl,?_,?_,?_⟩
     ·rw[pq x1 x2,e1];simp
     ·rw[pq x1 x2,e2];simp
     ·show s1=List.mapIdx (ss (s2++[a]) now) _;have:ss (s2++[a]) now=ss s2 now:=by
       funext e dd;have:vt (s2++[a]) now e=vt s2 now e:=by funext s;simp only[vt,yc,rL,fq,Yw,Yv]
       simp only[ss,this]
      rw[this];exact e3
   ·simp only[dt,cX m3,dm];refine .inl ⟨_,rfl,rfl,?_,?_,e3⟩
    ·rw[pq x1 x2,e1];simp
    ·rw[pq x1 x2,e2];simp
  ·rintro⟨s1,s2,s3,s4⟩ ⟨e0,e1,e2,e3⟩;simp only at e0 e1 e2 e3;subst e0;have ht:(ep.zip c.cut).take ep.length=ep.zip c.cut:=tP (by simp;omega);rw[ht]at e1 e2;simp only[oF,fq,dD];refine⟨_,rfl,?_⟩;show(s1,s2,s3)=_;rw[e3,e1,e2];rfl
  rintro _ rfl;simp only;refine fc (λk(s:List bE×List dw×List bE×List bE×Int)=>s.2.2.2.2=(k:Int)/\s.2.2.2.1=cE.drop k/\s.2.2.1=(tD now cE c.places).take k/\s.1=jt ep c.cut++((tD now cE c.places).take k).filter (λn=>decide (0<n.cp.aY))/\
   s.2.1=((c.places.take k).filter λp=>decide (0<p.aY)).map rj)
   (λr=>r=(((c.places.filter λp=>decide (0<p.aY)).map rj),tD now cE c.places,([]:List bE),jt ep c.cut++(tD now cE c.places).filter (λn=>decide (0<n.cp.aY)))) cE.length (by omega) ⟨rfl,rfl,by simp,by simp,by simp⟩ ?_ ?_ ?_
  ·rintro k ⟨s1,s2,s3,s4,s5⟩ hk ⟨e0,e1,e2,e3,e4⟩;simp only at e0 e1 e2 e3 e4;subst e0;have x1:cE[k]? =some (cE[k]'hk):=dR _;have x2:c.places[k]? =some (c.places[k]'(by omega)):=dR _;generalize cE[k]'hk=b at x1;generalize c.places[k]'(by omega)=e at x2;have Cv:(tD now cE c.places).length=cE.length:=by simp[tD,hp]
   have x3:(tD now cE c.places)[k]? =some (Ov now b e):=by unfold tD;rw[sW,B6 x1 x2];rfl
   have i0:ix s4 0=some b:=by
    have:s4[0]? =some b:=by rw[e1];simpa using x1
    exact cJ (i:=0) this
   have b3:s3.length=k:=by rw[e2,F7,Cv];omega
   have Uh:(jt ep c.cut).length<=ep.length:=by unfold jt;have:=tQ (λx:bE×Bool=>!x.2) (ep.zip c.cut);simp at this |-;omega
   have b1:s1.length<=ep.length+k:=by
    rw[e3,lu];have:=tQ (λn:bE=>decide (0<n.cp.aY)) ((tD now cE c.places).take k);have:=O9 k (tD now cE c.places);omega
   have b2:s2.length<=k:=by rw[e4];have:=tQ (λp:be=>decide (0<p.aY)) (c.places.take k);have:=O9 k c.places;simp;omega
   have n1:s3.length<cU:=by unfold cU;omega
   have n2:(0:Int)<=(k:Int)/\(k:Int)<(cE.length:Int):=by omega
   have n3:((k:Int)).toNat=s3.length/\((k:Int)).toNat<=cU:=by unfold cU;omega
   have n4:s1.length+1<=bQ:=by unfold bQ;omega
   have n5:s2.length+1<=bQ:=by unfold bQ;omega
   have Pa:s4.drop 1=cE.drop (k+1):=by rw[e1,List.drop_drop]
   have c1:decide ((k:Int)<(cE.length:Int))=true:=dr x1;simp only[c1,dt,i0,dm,cX n1,cX n2,cX n3,cJ x2,eT (l:=cE) (by simp only[cH];omega) x1];cases hc:decide (0<e.aY)
   ·refine .inl ⟨_,rfl,rfl,Pa,?_,?_,?_⟩
    ·show s3++[_]=_;rw[dj x3,e2];simp only[Ov,hc,dD]
    ·show s1=_;rw[dj x3,Gd,e3];have:decide (0<(Ov now b e).cp.aY)=false:=hc;simp[List.filter,this]
    ·show s2=_;rw[dj x2,Gd,e4];simp[List.filter,hc]
   ·simp only[dt,cX n4,cX n5];refine .inl ⟨_,rfl,rfl,Pa,?_,?_,?_⟩
    ·show s3++[_]=_;rw[dj x3,e2];simp only[Ov,hc,dt]
    ·show s1++[_]=_;rw[dj x3,Gd,e3];have:decide (0<(Ov now b e).cp.aY)=true:=hc;simp[List.filter,this];simp only[Ov,hc,dt]
    ·show s2++[_]=_;rw[dj x2,Gd,e4];simp[List.filter,hc,rj]
  ·rintro⟨s1,s2,s3,s4,s5⟩ ⟨e0,e1,e2,e3,e4⟩;simp only at e0 e1 e2 e3 e4;subst e0;have Cv:(tD now cE c.places).length=cE.length:=by simp[tD,hp]
   rw[tP (by omega)]at e2 e3;rw[tP (by omega)]at e4;rw[List.drop_eq_nil_of_le (eD _)]at e1;subst e1;subst e2;subst e3;subst e4;simp only[oF,fq,dD];exact⟨_,rfl,rfl⟩
  rintro _ rfl;have hql:=tQ (λp:be=>decide (0<p.aY)) c.places;obtain⟨u,u1,u2,u3⟩:=f117_ex ((c.places.filter λp:be=>decide (0<p.aY)).map rj) (by simp only[cH,nE];omega) λx hx y hy Ix=>by
   obtain⟨p,Uv,rfl⟩:=kl.1 hx;obtain⟨q,RQ,rfl⟩:=kl.1 hy;have h1:=nT.1 Uv;have h2:=nT.1 RQ;rw[hd p h1.1 q h2.1 (by simpa using h1.2) Ix]
  simp only[u1,dm,cX u2.length_eq,cX rfl];exact⟨_,rfl,u,rfl,u2,u3⟩
 obtain⟨z,h1,u,rfl,h2⟩:=key;exact⟨u,h1,h2⟩
def xw(d:cz):Bool:=d.dy.isEmpty&&!d.tie
def tX(d:cz)(c:Int):Bool:=d.dy.any λs=>decide (s.aY=c)
def jI(E:List cz)(k:Nat):Nat:=((E.take k).map λd=>tk d.sign).sum
def vu(K:List bE)(F E:List cz):List cz:=E.mapIdx (ss K (E.length:Int))++F
def fY(E:List cz)(e:Nat)(s:dw):Prop:= ∃d,E[e]? =some d/\s∈d.dy
section
variable {K:List bE} {F E:List cz} {e j c:Nat} {p:be} {s:dw} {d:cz} {now:Int}
theorem JA:xw (ss K now e d)=xw d:=by simp[xw,ss]
theorem FU{x:Int}:tX (ss K now e d) x=tX d x:=by simp only[tX,ss,List.any_map,Function.comp_def,gq]
theorem tF:(vu K F E).length=E.length+F.length:=by simp[vu]
theorem Ow(h:j<E.length):(vu K F E)[j]? =(E[j]?).map (ss K (E.length:Int) j):=by unfold vu;rw[nD (by simpa using h),Rh]
theorem FV(h:E.length<=j):(vu K F E)[j]? =F[j-E.length]?:=by unfold vu;rw[qb (by simpa using h)];simp
theorem rk(h:(vu K F E)[j]? =some d):(∃d0,j<E.length/\E[j]? =some d0/\d=ss K (E.length:Int) j d0)\/(E.length<=j/\F[j-E.length]? =some d):=by
 rcases Ch j E.length with hj|hj
 ·rw[Ow hj]at h;obtain⟨d0,h1,h2⟩:=D5.1 h;exact .inl ⟨d0,hj,h1,h2.symm⟩
 ·rw[FV hj]at h;exact .inr ⟨hj,h⟩
theorem Se:(E.mapIdx (ss K now)).map (λd=>tk d.sign)=E.map λd=>tk d.sign:=by
 apply SB;intro i;rw[sW,Rh,sW];cases E[i]?<;>rfl
theorem JB(k:Nat):jI E k=((E.map λd=>tk d.sign).take k).sum:=by unfold jI;rw[Ly]
theorem Sf(h:c<=E.length):jI (vu K F E) c=jI E c:=by
 rw[JB,JB];unfold vu;rw[Cf,Se,Yo (by simpa using h)]
theorem Ox:jI (vu K F E) (vu K F E).length=jI E E.length+(F.map λd=>tk d.sign).sum:=by
 rw[JB,JB,tP (by simp),tP (by simp)];unfold vu;rw[Cf,Se,List.sum_append]
theorem nS(h:fY (vu K F E) e s):(∃s0,fY E e s0/\e<E.length/\s=vt K (E.length:Int) e s0)\/(E.length<=e/\ ∃d,F[e-E.length]? =some d/\s∈d.dy):=by
 obtain⟨d,h1,h2⟩:=h;rcases rk h1 with⟨d0,q1,q2,rfl⟩|⟨q1,q2⟩
 ·obtain⟨s0,h3,rfl⟩:=kl.1 h2;exact .inl ⟨s0,⟨d0,q2,h3⟩,q1,rfl⟩
 ·exact .inr ⟨q1,d,q2,h2⟩
theorem fY.lt(h:fY E e s):e<E.length:=by obtain⟨d,h1,_⟩:=h;exact(fT.1 h1).1
theorem fY.nx(h:fY E e s):fY (vu K F E) e (vt K (E.length:Int) e s):=by
 have hl:=h.lt;obtain⟨d,h1,h2⟩:=h;exact⟨_,by rw[Ow hl,h1];rfl,kl.2 ⟨s,h2,rfl⟩⟩
theorem H6{x:Int}(h:hb K e x=true): ∃a∈K,0<a.cp.cO/\a.cP=(e:Int)/\a.cp.aY=x:=by
 obtain⟨a,h1,h2⟩:=AO.1 h;simp at h2;exact⟨a,h1,h2.1,h2.2.1,h2.2.2⟩
structure Rg (E:List cz) (e:Nat) (p:be) (c:Nat):Prop where
 lt:e<c
 le:c<=E.length
 st: ∃s,fY E e s/\s.aY=p.aY/\s.cO=p.cO
 ho: ∀s,fY E e s->s.aY=p.aY->0<p.cO-> ∀(j:Nat)d,(e:Int)+s.hold<(j:Int)->j<c->E[j]? =some d->d.tie=true
 on: ∀(j:Nat)d,e<j->j<c->E[j]? =some d->xw d=false/\tX d p.aY=false
structure Nd (E:List cz) (e:Nat) (p:be) (c:Nat):Prop where
 rg:Rg E e p c
 en: ∃d,E[c]? =some d/\(0<p.cO->d.tie=false/\ ∀s,fY E e s->s.aY=p.aY->(e:Int)+s.hold<(c:Int))/\(¬0<p.cO->tX d p.aY=true)
theorem UH(h: ∀(j:Nat)d,e<j->j<c->E[j]? =some d->xw d=false/\tX d p.aY=false)(hc:c<=E.length): ∀(j:Nat)d,e<j->j<c->(vu K F E)[j]? =some d->xw d=false/\tX d p.aY=false:=λj d h1 h2 hd=>by
 rcases rk hd with⟨d0,q1,q2,rfl⟩|⟨q1,q2⟩
 ·rw[JA,FU];exact h j d0 h1 h2 q2
 ·omega
theorem Rg.keep(h:Rg E e p c):Rg (vu K F E) e p c:=by
 have h1:=h.lt;have h2:=h.le;obtain⟨s,h3,h4,h5⟩:=h.st;refine⟨h1,by rw[tF];omega,⟨_,h3.nx,by rw[gq];exact h4,by rw[vc];exact h5⟩,λs' hs hc hf j d hj hjc hd=>?_,UH h.on h2⟩;rcases nS hs with⟨s0,q1,q2,rfl⟩|⟨q1,_⟩
 ·rw[gq]at hc;rcases rk hd with⟨d0,r1,r2,rfl⟩|⟨r1,_⟩
  ·refine h.ho s0 q1 hc hf j d0 ?_ hjc r2;unfold vt at hj;cases hq:hb K e s0.aY<;>rw[hq]at hj
   ·exact hj
   ·simp only[dt]at hj;omega
  ·omega
 ·omega
theorem Nd.keep(h:Nd E e p c)(hK: ∀a∈K,0<a.cp.cO-> ∀e:Nat,a.cP=(e:Int)->Rg E e a.cp E.length):Nd (vu K F E) e p c:=by
 refine⟨h.rg.keep,?_⟩;obtain⟨d,h1,h2,h3⟩:=h.en;have hl:=(fT.1 h1).1;refine⟨ss K (E.length:Int) c d,by rw[Ow hl,h1];rfl,λhf=>⟨(h2 hf).1,λs hs hc=>?_⟩,λhf=>by rw[FU];exact h3 hf⟩;rcases nS hs with⟨s0,q1,q2,rfl⟩|⟨q1,_⟩
 ·rw[gq]at hc;have h4:=(h2 hf).2 s0 q1 hc;unfold vt;cases hq:hb K e s0.aY
  ·exact h4
  ·obtain⟨a,a1,a2,a3,a4⟩:=H6 hq;have:=(hK a a1 a2 e a3).ho s0 q1 a4.symm a2 c d h4 hl h1;rw[(h2 hf).1]at this;cases this
 ·have:=h.rg.lt;omega
theorem Rg.dx(h:Rg E e p E.length)(hF: ∀d∈F,xw d=false/\tX d p.aY=false)(ht:0<p.cO->(∀d∈F,d.tie=true)\/(hb K e p.aY=true/\ ∀(j:Nat)d,0<j->F[j]? =some d->d.tie=true)):Rg (vu K F E) e p (vu K F E).length:=by
 have h1:=h.lt;obtain⟨s,h3,h4,h5⟩:=h.st;refine⟨by rw[tF];omega,eD _,⟨_,h3.nx,by rw[gq];exact h4,by rw[vc];exact h5⟩,λs' hs hc hf j d hj _ hd=>?_,λj d hj _ hd=>?_⟩
 ·rcases nS hs with⟨s0,q1,q2,rfl⟩|⟨q1,_⟩
  ·rw[gq]at hc;rcases rk hd with⟨d0,r1,r2,rfl⟩|⟨r1,r2⟩
   ·refine h.ho s0 q1 hc hf j d0 ?_ r1 r2;unfold vt at hj;cases hq:hb K e s0.aY<;>rw[hq]at hj
    ·exact hj
    ·simp only[dt]at hj;omega
   ·rcases ht hf with ht|⟨t1,t2⟩
    ·exact ht d (gT r2)
    ·unfold vt at hj;rw[hc,t1]at hj;simp only[dt]at hj;exact t2 _ d (by omega) r2
  ·omega
 ·rcases rk hd with⟨d0,q1,q2,rfl⟩|⟨q1,q2⟩
  ·rw[JA,FU];exact h.on j d0 hj q1 q2
  ·exact hF d (gT q2)
theorem Rg.new{d0:cz}{s0:dw}(h0:F[0]? =some d0)(hs:s0∈d0.dy)(hc:s0.aY=p.aY)(hf:s0.cO=p.cO)(ht: ∀(j:Nat)d,0<j->F[j]? =some d->d.tie=true/\d.dy=[])(hh: ∀s∈d0.dy,s.hold=0):
  Rg (vu K F E) E.length p (vu K F E).length:=by
 have hl:=(fT.1 h0).1;refine⟨by rw[tF];omega,eD _,⟨s0,⟨d0,by rw[FV (eD _),Pt];exact h0,hs⟩,hc,hf⟩,λs hs _ _ j d hj _ hd=>?_,λj d hj _ hd=>?_⟩
 ·rcases nS hs with⟨s1,q1,q2,rfl⟩|⟨_,d1,q2,q3⟩
  ·omega
  ·rw[Pt,h0]at q2;cases q2;have:=hh s q3;rw[FV (by omega)]at hd;exact(ht _ d (by omega) hd).1
 ·rw[FV (by omega)]at hd;obtain⟨t1,t2⟩:=ht _ d (by omega) hd;exact⟨by simp[xw,t1],by simp[tX,t2]⟩
theorem Nd.new{d0:cz}(h:Rg E e p E.length)(hh: ∀s,fY E e s->(e:Int)+s.hold<(E.length:Int))(hK:0<p.cO->hb K e p.aY=false)(h0:F[0]? =some d0)(ht:d0.tie=false)(hp: ¬0<p.cO->tX d0 p.aY=true):Nd (vu K F E) e p E.length:=by
 refine⟨h.keep,d0,by rw[FV (eD _),Pt];exact h0,λhf=>⟨ht,λs hs hc=>?_⟩,hp⟩;rcases nS hs with⟨s0,q1,q2,rfl⟩|⟨q1,_⟩
 ·rw[gq]at hc;unfold vt;rw[hc,hK hf];exact hh s0 q1
 ·have:=h.lt;omega
theorem Rg.nd(h:Rg E e p E.length)(hn:Nd E e p c):False:=by
 obtain⟨d,h1,h2,h3⟩:=hn.en;have hl:=(fT.1 h1).1;by_cases hf:0<p.cO
 ·obtain⟨s,s1,s2,s3⟩:=h.st;obtain⟨t1,t2⟩:=h2 hf;rw[h.ho s s1 s2 hf c d (t2 s s1 s2) hl h1]at t1;cases t1
 ·have:=(h.on c d hn.rg.lt hl h1).2;rw[h3 hf]at this;cases this
structure aaR (a:bY) (E:List cz) (e:Nat) (s:dw):Prop where
 rg:s.right=0/\s.ka=0
 pl: ∃q,(⟨s.aY,s.cO⟩:be)∈(fx a q).1
 h0:0<=s.hold
 hl:0<s.hold->0<s.cO/\s.hold<=15/\(e:Int)+s.hold<(E.length:Int)
 on: ∀(j:Nat)d,e<j->(j:Int)<=(e:Int)+s.hold->E[j]? =some d->xw d=false/\tX d s.aY=false
structure Ev1 (n:Nat) (d:cz):Prop where
 lR:d.lR=false
 sg:d.sign∈ig
 tie:d.tie=true->d.dy=[]/\n≠0
 tW:d.dy.Pairwise λx y=>x.aY<y.aY
structure lM (a:bY) (E:List cz):Prop where
 ev: ∀(e:Nat)d,E[e]? =some d->Ev1 e d
 st: ∀(e:Nat)s,fY E e s->aaR a E e s
theorem lM.hold{a:bY}(h:lM a E)(hs:fY E e s):(e:Int)+s.hold<(E.length:Int):=by
 have h1:=h.st e s hs;have h2:=hs.lt;have h0:=h1.h0;by_cases hq:0<s.hold
 ·exact(h1.hl hq).2.2
 ·omega
theorem lM.one{a:bY}(h:lM a E){s s':dw}(h1:fY E e s)(h2:fY E e s')(hc:s.aY=s'.aY):s=s':=by
 obtain⟨d,d1,d2⟩:=h1;obtain⟨d',d3,d4⟩:=h2;rw[d1]at d3;cases d3;have hp:=(h.ev e d d1).tW;obtain⟨i,hi,rfl⟩:=ry d2;obtain⟨k,hk,rfl⟩:=ry d4;rw[D6]at hp;rcases Gt i k with q|q|q
 ·have:=hp i k hi hk q;omega
 ·subst q;rfl
 ·have:=hp k i hk hi q;omega
theorem lM.nx{a:bY}(h:lM a E)(hK: ∀x∈K,0<x.cp.cO-> ∀e:Nat,x.cP=(e:Int)->Rg E e x.cp E.length/\(E.length:Int)-e<=15)
  (hF: ∀(j:Nat)d,F[j]? =some d->Ev1 (E.length+j) d/\ ∀s∈d.dy,s.right=0/\s.ka=0/\s.hold=0/\ ∃q,(⟨s.aY,s.cO⟩:be)∈(fx a q).1)
  (h0:F≠[]) (hK': ∀x∈K,∀d,F[0]? =some d->xw d=false/\tX d x.cp.aY=false):lM a (vu K F E):=by
 have hFl:=Pu.2 h0;refine⟨λe d hd=>?_,λe s hs=>?_⟩
 ·rcases rk hd with⟨d0,q1,q2,rfl⟩|⟨q1,q2⟩
  ·have:=h.ev e d0 q2;refine⟨this.lR,this.sg,λht=>?_,?_⟩
   ·have:=this.tie ht;exact⟨by simp[ss,this.1],this.2⟩
   ·show(d0.dy.map _).Pairwise _;rw[Ij];simp only[gq];exact this.tW
  ·have:=(hF _ d q2).1;rwa[show E.length+(e-E.length)=e by omega]at this
 ·rcases nS hs with⟨s0,q1,q2,rfl⟩|⟨q1,d,q2,q3⟩
  ·have Q0:=h.st e s0 q1;unfold vt;cases hq:hb K e s0.aY
   ·refine⟨Q0.rg,Q0.pl,Q0.h0,λhp=>?_,λj d hj UI hd=>?_⟩
    ·have:=Q0.hl hp;exact⟨this.1,this.2.1,by rw[tF];have:=this.2.2;show(e:Int)+s0.hold<_;omega⟩
    ·have UI:(j:Int)<=(e:Int)+s0.hold:=UI;have:=h.hold q1;rcases rk hd with⟨d0,r1,r2,rfl⟩|⟨r1,r2⟩
     ·rw[JA,FU];exact Q0.on j d0 hj UI r2
     ·omega
   ·obtain⟨x,x1,x2,x3,x4⟩:=H6 hq;obtain⟨r1,r2⟩:=hK x x1 x2 e x3;obtain⟨s1,s2,s3,s4⟩:=r1.st;have hss:=h.one q1 s2 (by rw[s3,x4]);refine⟨Q0.rg,Q0.pl,by simp only[dt];omega,λhp=>⟨?_,r2,?_⟩,λj d hj UI hd=>?_⟩
    ·show 0<s0.cO;rw[hss,s4];exact x2
    ·rw[tF];simp only[dt];omega
    ·have UI:(j:Int)<=(e:Int)+((E.length:Int)-e):=UI;show xw d=false/\tX d s0.aY=false;rcases rk hd with⟨d0,y1,y2,rfl⟩|⟨y1,y2⟩
     ·rw[JA,FU,<-x4];exact r1.on j d0 hj y1 y2
     ·rw[show j-E.length=0 by omega]at y2;rw[<-x4];exact hK' x x1 d y2
  ·obtain⟨f1,f2,f3,f4⟩:=(hF _ d q2).2 s q3;refine⟨⟨f1,f2⟩,f4,by omega,λhp=>by omega,λj d hj UI _=>by omega⟩
end
theorem DA{E:List cz}{e:Nat}{d:cz}(h:E[e]? =some d):jI E (e+1)=jI E e+tk d.sign:=by
 unfold jI;rw[dj h];simp
theorem rm{a:bY}{E:List cz}(h:lM a E): ∀{k e:Nat},e<k->k<=E.length->jI E e<jI E k
 |0,e,h1,_=>by omega
 |k+1,e,h1,h2=>by
  have e1:E[k]? =some (E[k]'(by omega)):=dR _;have h3:=DA e1;have h4:=(jZ _ (h.ev k _ e1).sg).2.1;rcases Ch e k with q|q
  ·have:=rm h q (by omega);omega
  ·have:e=k:=by omega
   subst this;omega
theorem H7{a:bY}{E:List cz}(h:lM a E){e k:Nat}(h1:e<=E.length)(h2:k<=E.length)(he:jI E e=jI E k):e=k:=by
 rcases Gt e k with q|q|q
 ·have:=rm h q h2;omega
 ·exact q
 ·have:=rm h q h1;omega
def eR(P:List (List cj))(i k:Nat):Option cj:=P[i]?.bind λp=>p[k]?
structure Bn (P:List (List cj)) (t:Int) (i k:Nat) (n:bE):Prop where
 pl:n.cp=⟨0,0⟩
 ne:n.cg≠[]
 me: ∀m∈n.cg,∃(i' k':Nat)(x:cj),m=⟨(i':Int),(k':Int)⟩/\(i'<i\/i'=i/\k'<k)/\eR P i' k'=some x/\x.cy=t/\x.cw=n.cw/\x.dK<=n.dK
 tW:n.cg.Pairwise λa b=>a.part<b.part
structure DB (P:List (List cj)) (t:Int) (i k:Nat) (l:List bE):Prop where
 no: ∀n∈l,Bn P t i k n
 al: ∀(i' k':Nat)x,(i'<i\/i'=i/\k'<k)->eR P i' k'=some x->x.cy=t-> ∃n∈l,(⟨(i':Int),(k':Int)⟩:cK)∈n.cg
 pi:(l.map bE.cw).Nodup
 le:l.length<=i\/l.length<=i+1/\ ∃(k':Nat)(x:cj),k'<k/\eR P i k'=some x/\x.cy=t
def H8(P:List (List cj)):Prop:= ∀(i k k':Nat)x x',eR P i k=some x->eR P i k'=some x'->x.cy=x'.cy->k=k'
theorem H9{α:Type}{l:List α}{j:Nat}{n n' x:α}(h:l[j]? =some n)(hx:x∈l):x=n\/x∈l.set j n':=by
 obtain⟨i,hi,rfl⟩:=ry hx;by_cases oI:j=i
 ·subst oI;rw[dR hi]at h;exact .inl (Option.some.inj h)
 ·refine .inr (List.mem_iff_getElem?.2 ⟨i,?_⟩);rw[DR oI,dR hi]
theorem vd{α β:Type}{f:α->β}{l:List α}{j:Nat}{n n':α}(h:l[j]? =some n)(hf:f n'=f n):(l.set j n').map f=l.map f:=by
 apply SB;intro i;rw[sW,sW];by_cases oI:j=i
 ·subst oI;rw[Gu (fT.1 h).1,h];simp[hf]
 ·rw[DR oI]
theorem DC{a b:Int}:a<=kX a b/\b<=kX a b:=by unfold kX;split<;>omega
section
variable {P:List (List cj)} {t:Int} {i k:Nat} {l:List bE} {n:bE} {x:cj}
theorem Bn.mono{i' k':Nat}(h:Bn P t i k n)(hm:i<i'\/i=i'/\k<=k'):Bn P t i' k' n:=⟨h.pl,h.ne,λm q=>by
 obtain⟨a,b,x,e1,e2,e3⟩:=h.me m q;exact⟨a,b,x,e1,by omega,e3⟩,h.tW⟩
theorem Bn.add(h:Bn P t i k n)(hx:eR P i k=some x)(ht:x.cy=t)(hp:n.cw=x.cw)(h1:H8 P):Bn P t i (k+1) (tA (i:Int) (k:Int) x n):=by
 refine⟨h.pl,by simp[tA],λm hm=>?_,?_⟩
 ·rcases lT.1 hm with hm|hm
  ·obtain⟨a,b,y,e1,e2,e3,e4,e5,e6⟩:=h.me m hm;exact⟨a,b,y,e1,by omega,e3,e4,e5,by have:=(DC (a:=n.dK) (b:=x.dK)).1;show y.dK<=kX n.dK x.dK;omega⟩
  ·simp at hm;subst hm;exact⟨i,k,x,rfl,.inr ⟨rfl,Vc k⟩,hx,ht,hp.symm,DC.2⟩
 ·show(n.cg++[_]).Pairwise _;rw[Yt];refine⟨h.tW,by simp,λm hm m' oG=>?_⟩;simp at oG;subst oG;obtain⟨a,b,y,e1,e2,e3,e4,_⟩:=h.me m hm;subst e1;show(a:Int)<(i:Int);rcases e2 with e2|⟨rfl,e2⟩
  ·omega
  ·have:=h1 a b k y x e3 hx (by rw[e4,ht]);omega
theorem Oy(h:DB P t i k l)(h1:H8 P)(hx:eR P i k=some x):DB P t i (k+1) (FP t (i:Int) (k:Int) l x):=by
 have qq: ∀n∈l,Bn P t i (k+1) n:=λn hn=>(h.no n hn).mono (.inr ⟨rfl,by omega⟩);unfold FP;by_cases ht:x.cy=t
 ·rw[dP ht];have eP:l.length<=i:=by
   rcases h.le with q|⟨_,k',y,q1,q2,q3⟩
   ·exact q
   ·have:=h1 i k' k y x q2 hx (by rw[q3,ht]);omega
  have GR: ∀(m:Nat),m<=l.length+1->m<=i\/m<=i+1/\ ∃(k':Nat)(x:cj),k'<k+1/\eR P i k'=some x/\x.cy=t:=λm hm=>.inr ⟨by omega,k,x,by omega,hx,ht⟩;cases hq:l.findIdx? (sU x)with
  |some j=>
   obtain⟨hj,hp,_⟩:=V2.1 hq;have e1:l[j]? =some l[j]:=dR hj;generalize l[j]=n at e1 hp;have hn:=gT e1;have hp:n.cw=x.cw:=by simpa[sU]using hp
   simp only[e1];refine⟨λm hm=>?_,λa b y KJ hy Sg=>?_,?_,GR _ (by simp)⟩
   ·rcases Ym hm with hm|rfl
    ·exact qq m hm
    ·exact(h.no n hn).add hx ht hp h1
   ·by_cases hc:a=i/\b=k
    ·obtain⟨rfl,rfl⟩:=hc;exact⟨_,List.mem_set hj _,by simp[tA]⟩
    ·obtain⟨m,m1,m2⟩:=h.al a b y (by omega) hy Sg;rcases H9 (n':=tA (i:Int) (k:Int) x n) e1 m1 with rfl|m1
     ·exact⟨_,List.mem_set hj _,by simp[tA,m2]⟩
     ·exact⟨m,m1,m2⟩
   ·rw[vd (n':=tA (i:Int) (k:Int) x n) e1 rfl];exact h.pi
  |none=>
   have jT:=ZR.1 hq;refine⟨λm hm=>?_,λa b y KJ hy Sg=>?_,?_,GR _ (by simp)⟩
   ·rcases lT.1 hm with hm|hm
    ·exact qq m hm
    ·simp at hm;subst hm;refine⟨rfl,by simp[tA],λm hm=>?_,by simp[tA]⟩;simp[tA]at hm;subst hm;exact⟨i,k,x,rfl,.inr ⟨rfl,Vc k⟩,hx,ht,rfl,DC.2⟩
   ·by_cases hc:a=i/\b=k
    ·obtain⟨rfl,rfl⟩:=hc;exact⟨_,Ga _ (O5.2 rfl),by simp[tA]⟩
    ·obtain⟨m,m1,m2⟩:=h.al a b y (by omega) hy Sg;exact⟨m,DQ _ m1,m2⟩
   ·rw[Cf,List.nodup_append];refine⟨h.pi,by simp,λa ha b hb=>?_⟩;simp[tA]at hb;obtain⟨m,m1,rfl⟩:=kl.1 ha;have:=jT m m1;simp[sU]at this;rw[hb];exact this
 ·rw[dY ht];refine⟨qq,λa b y KJ hy Sg=>?_,h.pi,?_⟩
  ·by_cases hc:a=i/\b=k
   ·obtain⟨rfl,rfl⟩:=hc;rw[hx]at hy;cases hy;exact absurd Sg ht
   ·exact h.al a b y (by omega) hy Sg
  ·rcases h.le with q|⟨q,k',y,q1,q2⟩
   ·exact .inl q
   ·exact .inr ⟨q,k',y,by omega,q2⟩
theorem Ak(h1:H8 P): ∀(r:List cj)(k:Nat)(l:List bE),DB P t i k l->(∀j:Nat,r[j]? =eR P i (k+j))->DB P t i (k+r.length) (oz t (i:Int) k r l)
 | [],k,l,h,_=>h
 |x::r,k,l,h,hr=>by
  have:=Ak h1 r (k+1) _ (Oy h h1 (x:=x) (by have:=hr 0;simpa using this.symm)) λj=>by have:=hr (j+1);rw[show k+1+j=k+(j+1)by omega,<-this];simp
  rw[oC,show k+(r.length+1)=k+1+r.length by omega];exact this
theorem Al(h1:H8 P): ∀(r:List (List cj))(i:Nat)(l:List bE),DB P t i 0 l->(∀j:Nat,r[j]? =P[i+j]?)->DB P t (i+r.length) 0 (ri t i r l)
 | [],i,l,h,_=>h
 |p::r,i,l,h,hr=>by
  have hp:P[i]? =some p:=by have:=hr 0;simpa using this.symm
  have h2:=Ak h1 p 0 l h λj=>by simp[eR,hp]
  have h3:DB P t (i+1) 0 (oz t (i:Int) 0 p l):=by
   refine⟨λn hn=>(h2.no n hn).mono (.inl (by omega)),λa b y KJ hy Sg=>h2.al a b y ?_ hy Sg,h2.pi,?_⟩
   ·rcases Ch a i with q|q
    ·exact .inl q
    ·have:a=i:=by omega
     subst this;simp only[eR,hp,dm]at hy;have:=(fT.1 hy).1;exact .inr ⟨rfl,by omega⟩
   ·rcases h2.le with q|⟨q,_⟩
    ·exact .inl (by omega)
    ·exact .inl q
  have:=Al h1 r (i+1) _ h3 λj=>by have:=hr (j+1);rw[show i+1+j=i+(j+1)by omega,<-this];simp
  rw[oC,show i+(r.length+1)=i+1+r.length by omega];exact this
end
theorem Oz{P:List (List cj)}(t:Int)(h1:H8 P):DB P t P.length 0 (ri t 0 P []):=by
 have:=Al (P:=P) (t:=t) h1 P 0 [] ⟨by simp,λa b y KJ=>by omega,by simp,.inl (by simp)⟩ λj=>by simp
 simpa using this
theorem yd{n:Int}: ∀{l:List Int}{lo:Int},l.Pairwise (· < ·)->(∀x∈l,lo<=x/\x<n)->lo<=n->(l.length:Int)<=n-lo
 | [],lo,_,_,h=>by simp;omega
 |x::r,lo,hp,hx,h=>by
  rw[Gc]at hp;have PK:=hx x (by simp);have:=yd (n:=n) (lo:=x+1) hp.2 (λy hy=>by have:=hp.1 y hy;have:=hx y (by simp[hy]);omega) (by omega);simp only[oC];omega
theorem Bn.len{P:List (List cj)}{t:Int}{n:bE}(h:Bn P t P.length 0 n):n.cg.length<=P.length:=by
 have:=yd (n:=(P.length:Int)) (l:=n.cg.map cK.part) (lo:=0) (by rw[Ij];exact h.tW) (λx hx=>by
  obtain⟨m,hm,rfl⟩:=kl.1 hx;obtain⟨a,b,y,rfl,e2,_⟩:=h.me m hm;show 0<=(a:Int)/\(a:Int)<_;omega) (by omega)
 simp at this;omega
theorem JC{P:List (List cj)}(h: ∀p∈P,KV 0 p=true):H8 P:=λi k k' x x' h1 h2 he=>by
 unfold eR at h1 h2;cases hp:P[i]? with
 |none=>rw[hp]at h1;simp at h1
 |some p=>
  rw[hp]at h1 h2;simp only[dm]at h1 h2;obtain⟨q1,q2⟩:=xZ p 0 (h p (gT hp));rcases Gt k k' with c|c|c
  ·have:=q2 k k' x x' c h1 h2;have:=q1 k x h1;omega
  ·exact c
  ·have:=q2 k' k x' x c h2 h1;have:=q1 k' x' h2;omega
theorem kK{α β:Type}{f:α->List β}{b:Nat}: ∀{l:List α},(∀x∈l,(f x).length<=b)->(l.flatMap f).length<=l.length*b
 | [],_=>by simp
 |x::l,h=>by
  have h1:=h x (by simp);have h2:=kK (l:=l) λy hy=>h y (by simp[hy]);simp only[F6,lu,oC,vm,Nat.one_mul];omega
theorem ve(a:bY)(s:Int): ∀(ns:List bE)(bs:List Bool)(pre:List be),(ways a s ns bs pre).length<=14^ns.length
 |n::ns,b::bs,pre=>by
  unfold ways;have hp:14^(n::ns).length=14*14^ns.length:=by rw[oC,Nat.pow_succ,Ss]
  rw[hp];cases b
  ·cases decide ((fx a (wr (n.cw+s))).2≠0)
   ·have h1:=kK (l:=(fx a (wr (n.cw+s))).1.filter λp=>!(pre.any (mn p.aY))) (f:=λp=>ways a s ns bs (pre++[p])) (b:=14^ns.length) λp _=>ve a s ns bs _;have h2:=tQ (λp:be=>!(pre.any (mn p.aY))) (fx a (wr (n.cw+s))).1;have h3:=HV a (wr (n.cw+s));have h4:=AM (14^ns.length) (xz h2 h3);simp only[dD];omega
   ·simp
  ·simp only[dt];have:=ve a s ns bs (pre++[⟨0,0⟩]);omega
 | [],_,pre=>by simp[ways]
 |_::ns,[],pre=>by
  have:0<14^(ns.length+1):=Nat.pow_pos (by omega);simp[ways];omega
def PlO(a:bY)(s:Int)(n:bE)(b:Bool)(p:be):Prop:=(b=true/\p=⟨0,0⟩)\/(b=false/\p∈(fx a (wr (n.cw+s))).1)
theorem DD(a:bY)(s:Int): ∀(ns:List bE)(bs:List Bool)(pre pl:List be),bs.length=ns.length->pl∈ways a s ns bs pre->
  ∃q,pl=pre++q/\q.length=ns.length/\(∀(j:Nat)n b p,ns[j]? =some n->bs[j]? =some b->q[j]? =some p->PlO a s n b p)/\(∀p∈q,0<p.aY-> ∀p'∈pre,p'.aY≠p.aY)/\q.Pairwise λx y=>0<y.aY->x.aY≠y.aY
 | [],bs,pre,pl,hl,h=>by
  simp[ways]at h;exact⟨[],by simp[h],rfl,by simp,by simp,by simp⟩
 |n::ns,[],pre,pl,hl,h=>by simp at hl
 |n::ns,b::bs,pre,pl,hl,h=>by
  have key: ∃p,PlO a s n b p/\(0<p.aY-> ∀p'∈pre,p'.aY≠p.aY)/\pl∈ways a s ns bs (pre++[p]):=by
   unfold ways at h;cases b
   ·simp only[dD]at h;cases hd:decide ((fx a (wr (n.cw+s))).2≠0)
    ·rw[hd]at h;simp only[dD,tK,nT]at h;obtain⟨p,⟨h1,h2⟩,h3⟩:=h;refine⟨p,.inr ⟨rfl,h1⟩,λ_ p' SN he=>?_,h3⟩;simp[mn]at h2;exact h2 p' SN he
    ·rw[hd]at h;simp at h
   ·simp only[dt]at h;exact⟨⟨0,0⟩,.inl ⟨rfl,rfl⟩,λh=>by simp at h,h⟩
  obtain⟨p,k1,k2,k3⟩:=key;obtain⟨q,q1,q2,q3,q4,q5⟩:=DD a s ns bs _ pl (by simpa using hl) k3;refine⟨p::q,by simp[q1],by simp[q2],λj n' b' p' h1 h2 h3=>?_,λp' SN h0 p'' XS=>?_,?_⟩
  ·cases j with
   |zero=>simp at h1 h2 h3;subst h1;subst h2;subst h3;exact k1
   |succ j=>exact q3 j n' b' p' (by simpa using h1) (by simpa using h2) (by simpa using h3)
  ·rcases mZ.1 SN with rfl|SN
   ·exact k2 h0 p'' XS
   ·exact q4 p' SN h0 p'' (DQ _ XS)
  ·rw[Gc];exact⟨λy hy h0=>q4 y hy h0 p (by simp),q5⟩
structure Ia (a:bY) (s:Int) (cE:List bE) (pl:List be):Prop where
 len:pl.length=cE.length
 ok: ∀(j:Nat)n p,cE[j]? =some n->pl[j]? =some p->p=⟨0,0⟩\/p∈(fx a (wr (n.cw+s))).1
 dis:pl.Pairwise λx y=>0<y.aY->x.aY≠y.aY
theorem Ia.one{a:bY}{s:Int}{cE:List bE}{pl:List be}(h:Ia a s cE pl){i j:Nat}{x y:be}(hi:pl[i]? =some x)(hj:pl[j]? =some y)(h0:0<x.aY)(he:x.aY=y.aY):i=j:=by
 have hp:=h.dis;rw[D6]at hp;obtain⟨i1,i2⟩:=fT.1 hi;obtain⟨j1,j2⟩:=fT.1 hj;rcases Gt i j with c|c|c
 ·exact absurd (by rw[i2,j2];exact he) (hp i j i1 j1 c (by rw[j2];omega))
 ·exact c
 ·exact absurd (by rw[i2,j2];exact he.symm) (hp j i j1 i1 c (by rw[i2];omega))
theorem Ia.get{a:bY}{s:Int}{cE:List bE}{pl:List be}(h:Ia a s cE pl){p:be}(hp:p∈pl): ∃(j:Nat)(n:bE),cE[j]? =some n/\pl[j]? =some p/\(p=⟨0,0⟩\/p∈(fx a (wr (n.cw+s))).1):=by
 obtain⟨j,hj,rfl⟩:=ry hp;have e1:pl[j]? =some pl[j]:=dR hj;have e2:cE[j]? =some (cE[j]'(by rw[<-h.len];exact hj)):=dR _;exact⟨j,_,e2,e1,h.ok j _ _ e2 e1⟩
structure An (d:dl):Prop where
 dh:FN d
 rc:gP d.dM
theorem Q3{d:dl}(h:gP d.dM)(tie:Bool):gP (qZ d tie):=by
 unfold qZ;cases tie
 ·exact Ae
 ·refine⟨h.da,h.dc,λi a b h1 h2=>?_,h.oa,λx hx=>?_,h.oo⟩
  ·simp only[wz]at h1 h2;rw[sW]at h1 h2;obtain⟨p,e1,rfl⟩:=D5.1 h1;obtain⟨q,e2,rfl⟩:=D5.1 h2;exact h.da i p q e1 e2
  ·simp only[wz]at hx |-
   obtain⟨p,e1,rfl⟩:=kl.1 hx;exact AO.2 ⟨p,e1,by simp[mn]⟩
def mK(tie:Bool)(s:df):cz:=⟨false,s,tie,[]⟩
theorem OA(d:dl)(hd:An d)(dx:List bE)(S:List df)(tie:Bool)(hS:d.ck.bP.length+S.length<=4000):
  ∃r,cA (σ:=(List be×List Int×List Int×List cz×List cG×Int)) (τ:=(List be×List Int×List Int×List cz×List cG)) (λ((JD,JE,JF,Ao,FW,OB):(List be×List Int×List Int×List cz×List cG×Int))=>bif (decide (OB<(S.length:Int)))then((ix S OB).bind λy6=>(f79 (⟨(⟨JD,JE,JF⟩:cq),d.kQ,d.h,d.shift,(⟨d.ck.instrument,Ao⟩:dW),dx,FW⟩:dl) y6 tie).bind λr7=>some (.inl (r7.1,r7.2.1,r7.2.2.1,r7.2.2.2.1,r7.2.2.2.2,(wr (OB+1)))))else(some (.inr (JD,JE,JF,Ao,FW)))) cQ (d.dM.cV,d.dM.held,d.dM.dz,d.ck.bP,d.fI,0)=some r/\
   (r.2.2.2.1=d.ck.bP++S.map (mK tie)/\An ⟨⟨r.1,r.2.1,r.2.2.1⟩,d.kQ,d.h,d.shift,⟨d.ck.instrument,r.2.2.2.1⟩,dx,r.2.2.2.2⟩):=by
 have hs:cH S:=by simp only[cH];omega
 refine jQ (λk(s:List be×List Int×List Int×List cz×List cG×Int)=>s.2.2.2.2.2=(k:Int)/\s.2.2.2.1=d.ck.bP++(S.take k).map (mK tie)/\An ⟨⟨s.1,s.2.1,s.2.2.1⟩,d.kQ,d.h,d.shift,⟨d.ck.instrument,s.2.2.2.1⟩,dx,s.2.2.2.2.1⟩) _ S.length hs ⟨rfl,by simp,?_⟩ ?_ ?_
 ·exact⟨⟨hd.dh.hh,hd.dh.h0,hd.dh.ch,hd.dh.po,hd.dh.pf⟩,hd.rc⟩
 ·rintro k ⟨s1,s2,s3,s4,s5,s6⟩ hk ⟨e0,e1,hd⟩;simp only at e0 e1 hd;subst e0;have x1:S[k]? =some (S[k]'hk):=dR _;generalize S[k]'hk=y at x1;have hl:s4.length<cU:=by rw[e1];have:=O9 k S;simp;unfold cU;omega
  obtain⟨g,h1,h2⟩:=f79_ex _ hd.dh y tie hl;have hR:=Q3 hd.rc tie;have UJ:=wY _ hd.dh.ch tie;obtain⟨l',q1,g1,g2,_⟩:=f112_ex _ hd.dh _ UJ;rw[h1]at q1;cases q1;simp only[dr x1,dt,cJ x1,dm,eT hs x1,h2];refine .inl ⟨_,rfl,rfl,?_,⟨⟨hd.dh.hh,hd.dh.h0,UJ,g1,λk hk=>?_⟩,hR⟩⟩
  ·show s4++[_]=_;rw[dj x1,e1];simp[mK]
  ·have h3:=(g2 k hk).len;have h4:=UJ.d;show k.dC.length<=_;rw[h3];exact h4
 ·rintro⟨s1,s2,s3,s4,s5,s6⟩ ⟨e0,e1,hd⟩;simp only at e0 e1 hd;subst e0;simp only[oF,fq,dD];rw[AN]at e1;exact⟨_,rfl,e1,hd⟩
theorem FX{a:bY}{s e:Int}{B U:List bE}{pl:List be}{cut:List Bool}(Ps: ∀x∈U,∀y∈U,x.cp.aY=y.cp.aY->x=y)(hk:Ia a s B pl)(ht:(U.zip cut).all (lK e pl)=true):
  ∀x∈pg ⟨pl,cut⟩ U,∀y∈pg ⟨pl,cut⟩ U,x.aY=y.aY->x=y:=λx hx y hy he=>by
 have kp: ∀n∈nR U cut,n∈U/\ ∀p∈pl,n.cp.aY≠p.aY:=λn hn=>by
  obtain⟨⟨n',b⟩,h1,rfl⟩:=kl.1 hn;obtain⟨h2,h3⟩:=nT.1 h1;refine⟨(List.of_mem_zip h2).1,λp hp he=>?_⟩;have AG:=pA.1 ht _ h2;simp only[mI,fE,qn]at h3;have aaS:pl.any (mn n'.cp.aY)=true:=AO.2 ⟨p,hp,by simp only[mn,AE];exact he.symm⟩;have h31:b=false:=h3.1;simp[lK,h31,aaS]at AG
 rcases lT.1 hx with hx|hx<;>rcases lT.1 hy with hy|hy
 ·obtain⟨n,n1,rfl⟩:=kl.1 hx;obtain⟨m,m1,rfl⟩:=kl.1 hy;rw[Ps n (kp n n1).1 m (kp m m1).1 he]
 ·obtain⟨n,n1,rfl⟩:=kl.1 hx;exact absurd he ((kp n n1).2 y (nT.1 hy).1)
 ·obtain⟨n,n1,rfl⟩:=kl.1 hy;exact absurd he.symm ((kp n n1).2 x (nT.1 hx).1)
 ·obtain⟨x1,x2⟩:=nT.1 hx;obtain⟨y1,y2⟩:=nT.1 hy;obtain⟨i,n,i1,i2,i3⟩:=hk.get x1;obtain⟨j,m,j1,j2,_⟩:=hk.get y1;have h0:0<x.aY:=by
   rcases i3 with h|h
   ·rw[h]at x2;simp at x2
   ·have:=(js h).2.1;omega
  have:=hk.one i2 j2 h0 he;subst this;rw[i2]at j2;exact Option.some.inj j2
structure XT (a:bY) (sh:Int) (E:List cz) (U B:List bE) (S:List df) (B' C L':List bE) (E':List cz):Prop where
 no:(B'=B/\C=[]/\L'=U/\E'=vu [] (S.map (mK (decide (0<U.length)))) E)\/
  ∃pl cut u s0 S',S=s0::S'/\cut.length=U.length/\Ia a sh B pl/\(∃p∈pl,0<p.aY)/\(U.zip cut).all (lK (E.length:Int) pl)=true/\u.Perm ((pl.filter λp=>decide (0<p.aY)).map rj)/\(u.Pairwise λx y=>x.aY<=y.aY)/\
   B'=tD (E.length:Int) B pl/\C=Dz U cut/\L'=jt U cut++B'.filter (λn=>decide (0<n.cp.aY))/\E'=vu (jt U cut) (⟨false,s0,false,u⟩::S'.map (mK true)) E
theorem UK{F E:List cz}:vu [] F E=E++F:=by
 unfold vu;have:ss [] (E.length:Int)=λ_ d=>d:=by funext e d;exact Jz
 rw[this];congr 1;apply SB;intro i;rw[Rh];cases E[i]?<;>rfl
theorem OC(d:dl)(hd:An d)(cR:List (List cj))(t:Int)(S:List df)(B:List bE)(hB:B.length<=4)(h1:f76 cR t=some B)(eU:S≠[])(hS:d.ck.bP.length+S.length<=4000)
  (Is:d.dx.length<=100000) (hm: ∀n∈d.dx,n.cg≠[]) (Q0: ∀a∈d.dx,0<a.cp.cO->Sd d.ck.bP a) (UL:d.dx.Pairwise λx y=>x.cp.aY≠y.cp.aY):
  ∃r,f41 d cR t S=some r/\An ⟨⟨r.2.2.1,r.2.2.2.1,r.2.2.2.2.1⟩,d.kQ,d.h,d.shift,⟨d.ck.instrument,r.2.2.2.2.2.1⟩,r.2.2.2.2.2.2.1,r.2.2.2.2.2.2.2⟩/\
   ∃U,U.Perm (d.dx.filter λn=>decide (t<n.dK))/\XT d.kQ d.shift d.ck.bP U B S r.1 r.2.1 r.2.2.2.2.2.2.1 r.2.2.2.2.2.1:=by
 obtain⟨U,u1,u2⟩:=f77_ex d t (by simp only[cH];omega) hm;have VP:U.length<=100000:=by rw[u2.length_eq];have:=tQ (λn:bE=>decide (t<n.dK)) d.dx;omega
 have Gq: ∀n∈U,n∈d.dx:=λn hn=>(nT.1 (u2.mem_iff.1 hn)).1;have Ps: ∀x∈U,∀y∈U,x.cp.aY=y.cp.aY->x=y:=λx hx y hy he=>by
  obtain⟨i,hi,ei⟩:=ry (Gq x hx);obtain⟨j,hj,ej⟩:=ry (Gq y hy);rw[D6]at UL;rcases Gt i j with c|c|c
  ·exact absurd (by rw[ei,ej];exact he) (UL i j hi hj c)
  ·subst c;rw[<-ei,<-ej]
  ·exact absurd (by rw[ei,ej];exact he.symm) (UL j i hj hi c)
 have Gf:=Lc hd.rc;have abc:14^B.length<=14^4:=Nat.pow_le_pow_right (by omega) hB;have Gn: ∀drop:List Bool,drop.length=B.length-> ∃r,f156 d.kQ B drop d.shift=some r/\r.Perm (ways d.kQ d.shift B drop []):=λdrop Gp=>by
  have hw:=ve d.kQ d.shift B drop [];refine f156_ex d.kQ d.shift B drop (by omega) Gp (by omega) (f201_ex _ (by omega) λp hp=>?_);obtain⟨q,q1,q2,_⟩:=DD d.kQ d.shift B drop [] p Gp hp;simp only[sA]at q1;simp only[cH,q1,q2];omega
 let al:List Bool->List (List be):=λdrop=>(f156 d.kQ B drop d.shift).getD [];have Q4: ∀drop:List Bool,drop.length=B.length->f156 d.kQ B drop d.shift=some (al drop)/\(al drop).Perm (ways d.kQ d.shift B drop []):=λdrop Gp=>by
  obtain⟨r,r1,r2⟩:=Gn drop Gp;have:al drop=r:=by show(f156 d.kQ B drop d.shift).getD []=r;rw[r1];rfl
  rw[this];exact⟨r1,r2⟩
 have Cv: ∀drop:List Bool,drop.length=B.length-> ∀pl∈al drop,Ia d.kQ d.shift B pl/\ ∀(j:Nat)n b p,B[j]? =some n->drop[j]? =some b->pl[j]? =some p->PlO d.kQ d.shift n b p:=λdrop Gp pl hp=>by
  obtain⟨q,q1,q2,q3,_,q5⟩:=DD d.kQ d.shift B drop [] pl Gp ((Q4 drop Gp).2.mem_iff.1 hp);simp only[sA]at q1;subst q1;refine⟨⟨q2,λj n p h1 h2=>?_,q5⟩,q3⟩;have hj:=(fT.1 h1).1;have e3:drop[j]? =some (drop[j]'(by omega)):=dR _;rcases q3 j n _ p h1 e3 h2 with⟨_,h⟩|⟨_,h⟩
  ·exact .inl h
  ·exact .inr h
 obtain⟨r3,c1,c2⟩:=f78_ex d hd.dh B U VP (by omega) (by omega) al λdrop Gp=>by
  refine⟨(Q4 drop Gp).1,?_,λcut Oh pl hp=>?_⟩
  ·have:=(Q4 drop Gp).2.length_eq;have:=ve d.kQ d.shift B drop [];simp only[cH];omega
  ·have hk:=(Cv drop Gp pl hp).1;exact⟨Oh,by show pl.length<=_;rw[hk.len];omega,λht=>FX Ps hk ht⟩
 unfold f41;simp only[h1,u1,c1,dm];cases hr:r3.2.2.2
 ·obtain⟨r,k1,k2,k3⟩:=OA d hd d.dx S (decide (0<(U.length:Int))) hS;have m1:B.length<=cU:=by unfold cU;omega
  simp only[Lz,dt,k1,dm,cX m1];refine⟨_,rfl,⟨⟨k3.dh.hh,k3.dh.h0,k3.dh.ch,k3.dh.po,k3.dh.pf⟩,k3.rc⟩,U,u2,⟨.inl ⟨rfl,rfl,rfl,?_⟩⟩⟩;rw[UK];show r.2.2.2.1=_;rw[k2];have:decide (0<(U.length:Int))=decide (0<U.length):=HM 0 U.length;rw[this]
 ·rw[hr]at c2;simp only[wz]at c2;obtain⟨⟨drop,d1,d2,d3⟩,q1,q2,q3⟩:=c2;have Gp:=p8 d1;obtain⟨p1,p2⟩:=Cv drop Gp _ d3;obtain⟨s0,S',rfl⟩: ∃s0 S',S=s0::S':=by
   cases S with
   |nil=>exact absurd rfl eU
   |cons y S'=>exact⟨y,S',rfl⟩
  simp only[oC]at hS;obtain⟨u,w1,w2,w3⟩:=f80_ex d ⟨r3.1.places,r3.1.cut⟩ B U s0 q1 p1.len VP (by omega) (by omega) (λa ha=>Q0 a (Gq a ha)) λx hx y hy h0 he=>by
   obtain⟨i,n,i1,i2,_⟩:=p1.get hx;obtain⟨j,m,j1,j2,_⟩:=p1.get hy;have:=p1.one i2 j2 h0 he;subst this;rw[i2]at j2;exact Option.some.inj j2
  have aaT:=p1.len;obtain⟨x,x1,x2⟩:=f111_ex d hd.dh.ch r3.1 U q1 VP (by omega) (by omega) (FX Ps p1 q2.ten);rw[q2.cho]at x1;cases x1;have hsx:=f111_small d r3.1 U VP (by omega) (by omega) x2;obtain⟨l',e1,g1,g2,g3,_⟩:=f112_ex d hd.dh r3.2.1 hsx;rw[q2.rea]at e1;cases e1;have hE':(d.ck.bP.mapIdx (ss (jt U r3.1.cut) (d.ck.bP.length:Int))).length=d.ck.bP.length:=by simp
  have hd2:An ⟨r3.2.1,d.kQ,d.h,d.shift,⟨d.ck.instrument,d.ck.bP.mapIdx (ss (jt U r3.1.cut) (d.ck.bP.length:Int))++[⟨false,s0,false,u⟩]⟩,jt U r3.1.cut++(tD (d.ck.bP.length:Int) B r3.1.places).filter (λn=>decide (0<n.cp.aY)),r3.2.2.1⟩:=
   ⟨⟨hd.dh.hh,hd.dh.h0,hsx,g1,λk hk=>by show k.dC.length<=_;rw[(g2 k hk).len];exact hsx.d⟩,(g3 q3).1⟩
  obtain⟨r,k1,k2,k3⟩:=OA _ hd2 (jt U r3.1.cut++(tD (d.ck.bP.length:Int) B r3.1.places).filter (λn=>decide (0<n.cp.aY))) S' true (by simp;omega);have g0:ix (s0::S') 0=some s0:=rfl;have e1:(List.take (s0::S').length (s0::S')).drop 1=S':=by simp
  have m1:(tD (d.ck.bP.length:Int) B r3.1.places).length=B.length:=by simp[tD,aaT]
  have m2:(d.ck.bP.mapIdx (ss (jt U r3.1.cut) (d.ck.bP.length:Int))).length<cU:=by rw[hE'];unfold cU;omega
  have m3:1<=(s0::S').length:=by simp
  simp only[qc,dD,g0,dm,w1,cX m1,cX m2,cX m3,e1,k1];refine⟨_,rfl,⟨⟨k3.dh.hh,k3.dh.h0,k3.dh.ch,k3.dh.po,k3.dh.pf⟩,k3.rc⟩,U,u2,⟨.inr ⟨r3.1.places,r3.1.cut,u,s0,S',rfl,q1,p1,?_,q2.ten,w2,w3,rfl,rfl,rfl,?_⟩⟩⟩
  ·obtain⟨b,b1,b2⟩:=ZV.1 d2;obtain⟨j,hj,rfl⟩:=ry b1;have e3:drop[j]? =some drop[j]:=dR hj;have e4:B[j]? =some (B[j]'(by omega)):=dR _;have e5:r3.1.places[j]? =some (r3.1.places[j]'(by omega)):=dR _;rcases p2 j _ _ _ e4 e3 e5 with⟨h,_⟩|⟨_,h⟩
   ·exact absurd h b2
   ·exact⟨_,gT e5,by have:=(js h).2.1;omega⟩
  ·show r.2.2.2.1=_;rw[k2];unfold vu;simp
theorem JG{σ τ β γ:Type}{body:σ->Option (σ⊕τ)}{f:τ->Option (β⊕γ)}{Q:β->Prop}{s0:σ}(Inv:Nat->σ->Prop)(lH:τ->Prop)(n:Nat)(hn:n<=4194304)(h0:Inv 0 s0)
  (hb: ∀k s,k<n->Inv k s->(∃s',body s=some (.inl s')/\Inv (k+1) s')\/(∃r,body s=some (.inr r)/\lH r))
  (he: ∀s,Inv n s-> ∃r,body s=some (.inr r)/\lH r) (k: ∀r,lH r-> ∃z,f r=some (.inl z)/\Q z): ∃z,(cA body cQ s0).bind f=some (.inl z)/\Q z:=by
 obtain⟨r,h1,h2⟩:=jQ Inv lH n hn h0 hb he;rw[h1];exact k r h2
def D3(P:List (List cj))(W:List (List be)):Prop:=W.map List.length=P.map List.length
def gQ(W:List (List be))(i k:Nat):Option be:=W[i]?.bind λw=>w[k]?
def Ib(W:List (List be))(m:cK)(p:be):List (List be):=W.set m.part.toNat (((W[m.part.toNat]?).getD []).set m.gD.toNat p)
def Ap(W:List (List be))(l:List cK)(p:be):List (List be):=l.foldl (λW m=>Ib W m p) W
def mL(W:List (List be))(l:List bE):List (List be):=l.foldl (λW n=>Ap W n.cg n.cp) W
def qi(t:Int)(kd:Int)(m:cK):dG:=⟨m.part,m.gD,kd,t⟩
def jR(t:Int)(n:bE):List dG:=bif decide (n.cp.aY=0)then n.cg.map (qi t 1)else(n.cg.drop 1).map (qi t 2)
def toOf(P:List (List cj))(m:cK):Int:=((eR P m.part.toNat m.gD.toNat).map cj.dK).getD 0
def mq(P:List (List cj))(t:Int)(n:bE):List dG:=(n.cg.filter λm=>decide (t<toOf P m)).map (qi t 3)
def vf(P:List (List cj))(m:cK):Prop:= ∃(i k:Nat)(x:cj),m=⟨(i:Int),(k:Int)⟩/\eR P i k=some x
theorem D3.get{P:List (List cj)}{W:List (List be)}(h:D3 P W){i k:Nat}{x:cj}(hx:eR P i k=some x): ∃w,W[i]? =some w/\k<w.length:=by
 unfold eR at hx;cases hp:P[i]? with
 |none=>rw[hp]at hx;simp at hx
 |some p=>
  rw[hp]at hx;simp only[dm]at hx;have h1:=fC (·[i]?) h;simp only[sW,hp,gX]at h1;obtain⟨w,w1,w2⟩:=D5.1 h1;exact⟨w,w1,by rw[w2];exact(fT.1 hx).1⟩
theorem JH{P:List (List cj)}{W:List (List be)}{m:cK}{p:be}(h:D3 P W):D3 P (Ib W m p):=by
 unfold D3 Ib at *;rw[<-h];cases hw:W[m.part.toNat]? with
 |none=>rw[List.set_eq_of_length_le (by simpa using hw)]
 |some w=>exact vd hw (by simp)
theorem su{P:List (List cj)}{p:be}: ∀{l:List cK}{W:List (List be)},D3 P W->D3 P (Ap W l p)
 | [],W,h=>h
 |m::l,W,h=>su (l:=l) (JH h)
theorem Aq{P:List (List cj)}: ∀{l:List bE}{W:List (List be)},D3 P W->D3 P (mL W l)
 | [],W,h=>h
 |n::l,W,h=>Aq (l:=l) (su h)
theorem JI{W:List (List be)}{i k:Nat}{w:List be}{p:be}(h:W[i]? =some w):Ib W ⟨(i:Int),(k:Int)⟩ p=W.set i (w.set k p):=by
 unfold Ib;simp only[oD,h,Ce]
theorem XU(s:dX)(P:List (List cj))(cE cut:List bE)(t:Int)(hP:P.length<=6)(hW:D3 P s.gO)(hf: ∀n∈cE,n.cg.length<=6/\ ∀m∈n.cg,vf P m)(hc: ∀n∈cut,n.cg.length<=6/\ ∀m∈n.cg,vf P m)
  (hl1:cE.length<=4) (D0:cut.length<=10000) (hX:s.eA.length+24+6*cut.length<=4000000):
  f42 s P cE cut t=some (mL s.gO cE,s.eA++cE.flatMap (jR t)++cut.flatMap (mq P t)):=by
 have key: ∃r,f42 s P cE cut t=some r/\r=(mL s.gO cE,s.eA++cE.flatMap (jR t)++cut.flatMap (mq P t)):=by
  have SZ:s.gO.length=P.length:=by have:=fC List.length hW;simpa using this
  have ffl: ∀l:List bE,(∀n∈l,n∈cE)->(l.flatMap (jR t)).length<=l.length*6:=λl hl=>kK λn hn=>by
   have:=(hf n (hl n hn)).1;unfold jR;cases decide (n.cp.aY=0)
   ·simp;omega
   ·simp;omega
  have cfl: ∀l:List bE,(∀n∈l,n∈cut)->(l.flatMap (mq P t)).length<=l.length*6:=λl hl=>kK λn hn=>by
   have:=(hc n (hl n hn)).1;unfold mq;have:=tQ (λm=>decide (t<toOf P m)) n.cg;simp;omega
  unfold f42;refine fc (λk(q:List (List be)×List dG×Int)=>q.2.2=(k:Int)/\q.1=mL s.gO (cE.take k)/\q.2.1=s.eA++(cE.take k).flatMap (jR t)) (λr=>r=(mL s.gO cE,s.eA++cE.flatMap (jR t))) cE.length (by omega) ⟨rfl,rfl,by simp⟩ ?_ ?_ ?_
  ·rintro k ⟨d,b,i⟩ hk ⟨e0,e1,e2⟩;simp only at e0 e1 e2;subst e0;have x1:cE[k]? =some (cE[k]'hk):=dR _;generalize cE[k]'hk=n at x1;obtain⟨n1,n2⟩:=hf n (gT x1);have hb:b.length<=s.eA.length+k*6:=by
    rw[e2];have:=ffl (cE.take k) λn hn=>xA hn;have:=O9 k cE;have:=AM 6 this;rw[lu];omega
   simp only[dr x1,dt,cJ x1,dm,eT (l:=cE) (by simp only[cH];omega) x1];refine .inl (JG (λj(q:List (List be)×List dG×Int)=>q.2.2=(j:Int)/\q.1=Ap d (n.cg.take j) n.cp/\q.2.1=b++(bif decide (n.cp.aY=0)then(n.cg.take j).map (qi t 1)else((n.cg.take j).drop 1).map (qi t 2)))
    (λr=>r=(Ap d n.cg n.cp,b++jR t n)) n.cg.length (by omega) ⟨rfl,rfl,by cases decide (n.cp.aY=0)<;>simp⟩ ?_ ?_ ?_)
   ·rintro j ⟨d',b',i'⟩ hj ⟨f0,f1,f2⟩;simp only at f0 f1 f2;subst f0;have y1:n.cg[j]? =some (n.cg[j]'hj):=dR _;have hm:=n2 _ (gT y1);generalize n.cg[j]'hj=m at y1 hm;obtain⟨pi,pk,x,rfl,hx⟩:=hm;have AH:D3 P d':=by rw[f1,e1];exact su (Aq hW)
    obtain⟨w,w1,w2⟩:=AH.get hx;have w3:w[pk]? =some (w[pk]'w2):=dR _;have En:pi<P.length:=by
     have:=(fT.1 w1).1;have h2:=fC List.length AH;simp at h2;omega
    have oM:b'.length<=b.length+j:=by
     rw[f2];have:=O9 j n.cg;cases decide (n.cp.aY=0)<;>simp <;>omega
    have g1:pi<cU:=by unfold cU;omega
    have g2:b'.length+1<=bQ:=by unfold bQ;omega
    have UM:Ap d (n.cg.take (j+1)) n.cp=d'.set pi (w.set pk n.cp):=by
     rw[dj y1,f1];rw[f1]at w1;unfold Ap at *;rw[List.foldl_append];exact JI w1
    simp only[dr y1,dt,cJ y1,dm,cJ w1,cX g1,cJ w3,eT (l:=n.cg) (by simp only[cH];omega) y1,oD];cases c1:decide (n.cp.aY=0)
    ·rw[c1]at f2;simp only[dD]at f2 |-
     by_cases c2:j=0
     ·subst c2;simp only[Int.ofNat_zero,Int.natCast_zero,oF,fq,dD,dm];refine .inl ⟨_,rfl,rfl,UM.symm,?_⟩;show b'=_;rw[f2,dj y1];simp
     ·have c3:decide ((0:Int)<(j:Int))=true:=sB (by omega);simp only[c3,dt,cX g2,dm];refine .inl ⟨_,rfl,rfl,UM.symm,?_⟩;show b'++[_]=_;rw[f2,dj y1,List.drop_append_of_le_length (by simp;omega)];simp[qi]
    ·rw[c1]at f2;simp only[dt,cX g2,dm]at f2 |-
     refine .inl ⟨_,rfl,rfl,UM.symm,?_⟩;show b'++[_]=_;rw[f2,dj y1];simp[qi]
   ·rintro⟨d',b',i'⟩ ⟨f0,f1,f2⟩;simp only at f0 f1 f2;subst f0;rw[AN]at f1 f2;simp only[oF,fq,dD];exact⟨_,rfl,by rw[f1,f2];rfl⟩
   ·rintro _ rfl;refine⟨_,rfl,rfl,?_,?_⟩
    ·show _=mL s.gO (cE.take (k+1));rw[dj x1,e1];unfold mL;rw[List.foldl_append];rfl
    ·show b++jR t n=_;rw[dj x1,e2];simp
  ·rintro⟨d,b,i⟩ ⟨e0,e1,e2⟩;simp only at e0 e1 e2;subst e0;rw[AN]at e1 e2;simp only[oF,fq,dD];exact⟨_,rfl,by rw[e1,e2]⟩
  rintro _ rfl;simp only;generalize D7:s.eA++cE.flatMap (jR t)=b0;have uj:b0.length<=s.eA.length+24:=by
   rw[<-D7];have:=ffl cE λn hn=>hn;rw[lu];omega
  refine fc (λk(q:List dG×Int)=>q.2=(k:Int)/\q.1=b0++(cut.take k).flatMap (mq P t)) (λr=>r=b0++cut.flatMap (mq P t)) cut.length (by omega) ⟨rfl,by simp⟩ ?_ ?_ ?_
  ·rintro k ⟨b,i⟩ hk ⟨e0,e1⟩;simp only at e0 e1;subst e0;have x1:cut[k]? =some (cut[k]'hk):=dR _;generalize cut[k]'hk=n at x1;obtain⟨n1,n2⟩:=hc n (gT x1);have hb:b.length<=b0.length+k*6:=by
    rw[e1];have:=cfl (cut.take k) λn hn=>xA hn;have:=O9 k cut;have:=AM 6 this;rw[lu];omega
   simp only[dr x1,dt,cJ x1,dm,eT (l:=cut) (by simp only[cH];omega) x1];refine .inl (JG (λj(q:List dG×Int)=>q.2=(j:Int)/\q.1=b++((n.cg.take j).filter λm=>decide (t<toOf P m)).map (qi t 3)) (λr=>r=b++mq P t n) n.cg.length (by omega) ⟨rfl,by simp⟩ ?_ ?_ ?_)
   ·rintro j ⟨b',i'⟩ hj ⟨f0,f1⟩;simp only at f0 f1;subst f0;have y1:n.cg[j]? =some (n.cg[j]'hj):=dR _;have hm:=n2 _ (gT y1);generalize n.cg[j]'hj=m at y1 hm;obtain⟨pi,pk,x,rfl,hx⟩:=hm;have Sh:toOf P ⟨(pi:Int),(pk:Int)⟩=x.dK:=by unfold toOf;simp only[oD,hx,gX,Ce]
    unfold eR at hx;cases hp:P[pi]? with
    |none=>rw[hp]at hx;simp at hx
    |some p=>
     rw[hp]at hx;simp only[dm]at hx;have oM:b'.length<=b.length+j:=by
      rw[f1];have:=O9 j n.cg;have:=tQ (λm=>decide (t<toOf P m)) (n.cg.take j);simp;omega
     have g2:b'.length+1<=bQ:=by unfold bQ;omega
     simp only[dr y1,dt,cJ y1,dm,cJ hp,cJ hx,eT (l:=n.cg) (by simp only[cH];omega) y1];cases c1:decide (t<x.dK)
     ·refine .inl ⟨_,rfl,rfl,?_⟩;show b'=_;rw[dj y1,Gd,f1];simp[List.filter,Sh,c1]
     ·simp only[dt,cX g2];refine .inl ⟨_,rfl,rfl,?_⟩;show b'++[_]=_;rw[dj y1,Gd,f1];simp[List.filter,Sh,c1,qi]
   ·rintro⟨b',i'⟩ ⟨f0,f1⟩;simp only at f0 f1;subst f0;rw[AN]at f1;simp only[oF,fq,dD];exact⟨_,rfl,by rw[f1];rfl⟩
   ·rintro _ rfl;refine⟨_,rfl,rfl,?_⟩;show b++mq P t n=_;rw[dj x1,e1];simp
  ·rintro⟨b,i⟩ ⟨e0,e1⟩;simp only at e0 e1;subst e0;rw[AN]at e1;simp only[oF,fq,dD];exact⟨_,rfl,e1⟩
  rintro _ rfl;exact⟨_,rfl,by rw[<-D7]⟩
 obtain⟨r,h1,rfl⟩:=key;exact h1
structure Si (P:List (List cj)) (E:List cz) (W:List (List be)) (n:bE):Prop where
 ne:n.cg≠[]
 le:n.cg.length<=6
 tW:n.cg.Pairwise λa b=>a.part<b.part
 co:1<=n.cp.aY
 ev: ∃e:Nat,n.cP=(e:Int)/\Rg E e n.cp E.length/\ ∀m∈n.cg,∃(i k:Nat)(x:cj),m=⟨(i:Int),(k:Int)⟩/\eR P i k=some x/\x.dK<=n.dK/\gQ W i k=some n.cp/\x.cy=(jI E e:Int)
structure Mv (a:bY) (sh T:Int) (E:List cz) (L B:List bE) (S:List df) (B' C L':List bE) (E':List cz):Prop where
 ev:lM a E'
 du:jI E' E'.length=jI E E.length+lr S
 on: ∀c,c<=E.length->jI E' c=jI E c
 le:E'.length=E.length+S.length
 rg: ∀e p c,Rg E e p c->Rg E' e p c
 nd: ∀e p c,Nd E e p c->Nd E' e p c
 qq: ∀n∈L,∀e:Nat,n.cP=(e:Int)->(n∈L'/\n ∉ C)\/(n∈C/\Nd E' e n.cp E.length)\/(n ∉ C/\n.dK<=T)
 cL: ∀n∈C,n∈L
 cd:C.Pairwise λx y=>x.cp.aY≠y.cp.aY
 cl:C.length<=L.length
 lL: ∀n∈L',(n∈L/\ ∀e:Nat,n.cP=(e:Int)->Rg E' e n.cp E'.length)\/(n∈B'/\1<=n.cp.aY/\n.cP=(E.length:Int)/\Rg E' E.length n.cp E'.length)
 ld:L'.Pairwise λx y=>x.cp.aY≠y.cp.aY
 ll:L'.length<=L.length+B.length
 b1: ∀n'∈B',∃n∈B,n'.cg=n.cg/\n'.dK=n.dK/\n'.cw=n.cw/\(n'.cp=⟨0,0⟩\/n'.cp∈(fx a (wr (n.cw+sh))).1/\n'∈L'/\n'.cP=(E.length:Int))
 b2: ∀n∈B,∃n'∈B',n'.cg=n.cg
 b3:B'.map bE.cw=B.map bE.cw
 b4: ∀x∈B',∀y∈B',0<x.cp.aY->x.cp.aY=y.cp.aY->x=y
 st: ∀e s,fY E' e s->(∃s0,fY E e s0/\s.aY=s0.aY/\s.cO=s0.cO)\/(e=E.length/\ ∃n'∈B',n'.cp=⟨s.aY,s.cO⟩)
theorem Ic: ∀{S:List df}{f:df->cz},(∀s,(f s).sign=s)->((S.map f).map λd=>tk d.sign).sum=lr S
 | [],f,_=>rfl
 |s::S,f,h=>by
  have:=Ic (S:=S) h;simp only[wy,SA,this,h s,lr,List.foldr_cons]
theorem OD{U:List bE}{cut:List Bool}{n:bE}{b:Bool}(h:(n,b)∈U.zip cut): ∃i:Nat,U[i]? =some n/\cut[i]? =some b:=by
 obtain⟨i,hi,e⟩:=ry h;have h1:(U.zip cut)[i]? =some (n,b):=by rw[dR hi,e]
 exact⟨i,ZU.1 h1⟩
theorem rn{U:List bE}{cut:List Bool}{n:bE}:n∈jt U cut↔(n,false)∈U.zip cut:=by
 unfold jt;rw[kl];constructor
 ·rintro⟨⟨m,b⟩,h1,rfl⟩;obtain⟨h2,h3⟩:=nT.1 h1;have:b=false:=by simpa using h3
  subst this;exact h2
 ·exactλh=>⟨(n,false),nT.2 ⟨h,rfl⟩,rfl⟩
theorem ye{U:List bE}{cut:List Bool}{n:bE}:n∈Dz U cut↔(n,true)∈U.zip cut:=by
 unfold Dz;rw[kl];constructor
 ·rintro⟨⟨m,b⟩,h1,rfl⟩;obtain⟨h2,h3⟩:=nT.1 h1;have:b=true:=h3;subst this;exact h2
 ·exactλh=>⟨(n,true),nT.2 ⟨h,rfl⟩,rfl⟩
theorem JJ{L:List bE}(h:L.Pairwise λx y=>x.cp.aY≠y.cp.aY){i j:Nat}{x y:bE}(hi:L[i]? =some x)(hj:L[j]? =some y)(he:x.cp.aY=y.cp.aY):i=j:=by
 rw[D6]at h;obtain⟨i1,i2⟩:=fT.1 hi;obtain⟨j1,j2⟩:=fT.1 hj;rcases Gt i j with c|c|c
 ·exact absurd (by rw[i2,j2];exact he) (h i j i1 j1 c)
 ·exact c
 ·exact absurd (by rw[i2,j2];exact he.symm) (h j i j1 i1 c)
theorem Sj{L:List bE}(h:L.Pairwise λx y=>x.cp.aY≠y.cp.aY){x y:bE}(hx:x∈L)(hy:y∈L)(he:x.cp.aY=y.cp.aY):x=y:=by
 obtain⟨i,hi,rfl⟩:=ry hx;obtain⟨j,hj,rfl⟩:=ry hy;have:=JJ h (dR hi) (dR hj) he;subst this;rfl
theorem JK{U:List bE}{cut:List Bool}(hl:cut.length=U.length){f:bE×Bool->Bool}:(((U.zip cut).filter f).map (·.1)).Sublist U:=by
 have h1:(((U.zip cut).filter f).map (·.1)).Sublist ((U.zip cut).map (·.1)):=List.Sublist.map _ V5;rwa[List.map_fst_zip (by omega)]at h1
section
variable {a:bY} {sh T:Int} {P:List (List cj)} {E:List cz} {L B U:List bE} {S:List df} {B' C L':List bE} {E':List cz} {W:List (List be)}
theorem XV(IB:lM a E)(Is: ∀n∈L,Si P E W n)(hld:L.Pairwise λx y=>x.cp.aY≠y.cp.aY)(hE:E.length<=4000)(hB: ∀n∈B,n.cp=⟨0,0⟩)(hU:U.Perm (L.filter λn=>decide (T<n.dK)))(hS:S≠[])(UJ: ∀s∈S,s∈ig)(h:XT a sh E U B S B' C L' E'):Mv a sh T E L B S B' C L' E':=by
 have Gq: ∀n,n∈U↔n∈L/\T<n.dK:=λn=>by rw[hU.mem_iff,nT];simp
 have Ps:U.Pairwise λx y=>x.cp.aY≠y.cp.aY:=(hU.pairwise_iff (λh=>h.symm)).2 (hld.sublist V5);have VP:U.length<=L.length:=by rw[hU.length_eq];exact tQ ..
 have XW: ∀n∈L,∀e:Nat,n.cP=(e:Int)->Rg E e n.cp E.length:=λn hn e he=>by
  obtain⟨e0,h1,h2,_⟩:=(Is n hn).ev;have:e0=e:=by omega
  subst this;exact h2
 rcases h.no with⟨rfl,rfl,rfl,rfl⟩|⟨pl,cut,u,s0,S',rfl,Ed,Cv,⟨p0,Zu,Uv⟩,XX,hu1,hu2,rfl,rfl,rfl,rfl⟩
 ·have hF: ∀d∈S.map (mK (decide (0<L'.length))),∃s∈S,d=mK (decide (0<L'.length)) s:=λd hd=>by
   obtain⟨s,h1,rfl⟩:=kl.1 hd;exact⟨s,h1,rfl⟩
  refine⟨IB.nx (by simp) (λj d hd=>?_) (by simpa using hS) (by simp),?_,λc hc=>Sf hc,by rw[tF,nE],λe p c h=>h.keep,λe p c h=>h.keep (by simp),λn hn e he=>?_,by simp,by simp,by simp,λn hn=>.inl ⟨((Gq n).1 hn).1,λe he=>?_⟩,Ps,by omega,λn hn=>⟨n,hn,rfl,rfl,rfl,.inl (hB n hn)⟩,λn hn=>⟨n,hn,rfl⟩,rfl,λx hx y hy h0=>?_,λe s hs=>?_⟩
  ·obtain⟨s,s1,rfl⟩:=hF d (gT hd);refine⟨⟨rfl,UJ s s1,λht=>⟨rfl,?_⟩,by simp[mK]⟩,by simp[mK]⟩;have ht:0<L'.length:=by simpa[mK]using ht
   obtain⟨n,hn⟩:=List.exists_mem_of_length_pos ht;obtain⟨e,h1,h2,_⟩:=(Is n ((Gq n).1 hn).1).ev;have:=h2.lt;omega
  ·rw[Ox,Ic (λ_=>rfl)]
  ·by_cases hc:T<n.dK
   ·exact .inl ⟨(Gq n).2 ⟨hn,hc⟩,by simp⟩
   ·exact .inr (.inr ⟨by simp,by omega⟩)
  ·have ht:decide (0<L'.length)=true:=sB (ZK hn);refine(XW n ((Gq n).1 hn).1 e he).dx (λd hd=>?_) λ_=>.inl λd hd=>?_
   ·obtain⟨s,s1,rfl⟩:=hF d hd;rw[ht];exact⟨rfl,rfl⟩
   ·obtain⟨s,s1,rfl⟩:=hF d hd;exact ht
  ·rw[hB x hx]at h0;simp at h0
  ·rcases nS hs with⟨s1,q1,q2,q4⟩|⟨_,d,q2,q3⟩
   ·exact .inl ⟨s1,q1,by rw[q4,gq],by rw[q4,vc]⟩
   ·obtain⟨s1,_,rfl⟩:=hF d (gT q2);simp[mK]at q3
 ·have UN: ∀s,s∈u↔ ∃p∈pl,0<p.aY/\s=rj p:=λs=>by
   rw[hu1.mem_iff,kl];constructor
   ·rintro⟨p,h1,rfl⟩;obtain⟨h2,h3⟩:=nT.1 h1;exact⟨p,h2,by simpa using h3,rfl⟩
   ·rintro⟨p,h1,h2,rfl⟩;exact⟨p,nT.2 ⟨h1,by simpa using h2⟩,rfl⟩
  have VQ: ∀n,n∈jt U cut->n∈U:=λn hn=>(List.of_mem_zip (rn.1 hn)).1;have hcu: ∀n,n∈Dz U cut->n∈U:=λn hn=>(List.of_mem_zip (ye.1 hn)).1;have hkc: ∀n,n∈jt U cut->n ∉ Dz U cut:=λn h1 h2=>by
   obtain⟨i,i1,i2⟩:=OD (rn.1 h1);obtain⟨j,j1,j2⟩:=OD (ye.1 h2);have:=JJ Ps i1 j1 rfl;subst this;rw[i2]at j2;cases j2
  have Mf: ∀n,n∈jt U cut->(∀p∈pl,p.aY≠n.cp.aY)/\(0<n.cp.cO-> ∀e:Nat,n.cP=(e:Int)->(E.length:Int)-e<=15):=λn hn=>by
   have ht:=pA.1 XX _ (rn.1 hn);simp only[lK,Yw,Lz,U9,fE,qn,Vf,mn,AE]at ht;refine⟨ht.1,λhf e he=>?_⟩;have h2:=ht.2;obtain⟨e0,h1,h3,_⟩:=(Is n ((Gq n).1 (VQ n hn)).1).ev;have h4:=h3.lt;simp only[hf,ij,U9,O6]at h2;rw[iZ (by omega) (by omega)]at h2;omega
  have hct: ∀n,n∈Dz U cut->n.cp.cO=0-> ∃p∈pl,p.aY=n.cp.aY:=λn hn hf=>by
   have ht:=pA.1 XX _ (ye.1 hn);simp[lK,hf,mn]at ht;exact ht
  have oH: ∀p∈pl,0<p.aY-> ∃q,p∈(fx a q).1:=λp hp h0=>by
   obtain⟨j,n,_,_,h3⟩:=Cv.get hp;rcases h3 with rfl|h3
   ·simp at h0
   ·exact⟨_,h3⟩
  have Q5: ∀x,tX ⟨false,s0,false,u⟩ x=true↔ ∃p∈pl,0<p.aY/\p.aY=x:=λx=>by
   simp only[tX,AO,AE];constructor
   ·rintro⟨s,h1,rfl⟩;obtain⟨p,h2,h3,rfl⟩:=(UN s).1 h1;exact⟨p,h2,h3,rfl⟩
   ·rintro⟨p,h1,h2,h3⟩;exact⟨_,(UN _).2 ⟨p,h1,h2,rfl⟩,h3⟩
  have T2: ∀n,n∈jt U cut->xw ⟨false,s0,false,u⟩=false/\tX ⟨false,s0,false,u⟩ n.cp.aY=false:=λn hn=>by
   refine⟨?_,?_⟩
   ·have:rj p0∈u:=(UN _).2 ⟨p0,Zu,Uv,rfl⟩;have:u≠[]:=λh=>by rw[h]at this;simp at this
    simp[xw,this]
   ·cases hq:tX ⟨false,s0,false,u⟩ n.cp.aY
    ·rfl
    ·obtain⟨p,h1,_,h2⟩:=(Q5 _).1 hq;exact absurd h2 ((Mf n hn).1 p h1)
  have Zv: ∀(j:Nat)d,(⟨false,s0,false,u⟩::S'.map (mK true))[j]? =some d->(j=0/\d=⟨false,s0,false,u⟩)\/(0<j/\ ∃s∈S',d=mK true s):=λj d hd=>by
   cases j with
   |zero=>left;simp at hd;exact⟨rfl,hd.symm⟩
   |succ j=>
    right;obtain⟨s,h1,rfl⟩:=kl.1 (gT (by simpa using hd));exact⟨by omega,s,h1,rfl⟩
  have Wb:(u.map dw.aY).Nodup:=by
   rw[(hu1.map _).nodup_iff,JR];have:(dw.aY∘rj)=be.aY:=rfl;rw[this];show List.Pairwise _ _;rw[Ij];refine(Cv.dis.sublist (V5 (p:=λp=>decide (0<p.aY)))).imp_of_mem λ{x y}hx hy Ix=>Ix ?_;have:=(nT.1 hy).2;simpa using this
  have XY:u.Pairwise λx y=>x.aY<y.aY:=by
   have h1:u.Pairwise λx y=>x.aY≠y.aY:=by
    have:List.Pairwise _ (u.map dw.aY):=Wb;rwa[Ij]at this
   exact(hu2.and h1).imp λ⟨x,y⟩=>by omega
  have aaU:(tD (E.length:Int) B pl).map bE.cw=B.map bE.cw:=by
   unfold tD;rw[JR];have:(bE.cw∘λx:bE×be=>Ov (E.length:Int) x.1 x.2)=bE.cw∘(·.1):=rfl;rw[this,<-JR,List.map_fst_zip (by have:=Cv.len;omega)]
  have Q6: ∀n',n'∈tD (E.length:Int) B pl-> ∃(j:Nat)(n:bE)(p:be),B[j]? =some n/\pl[j]? =some p/\n'=Ov (E.length:Int) n p:=λn' mU=>by
   obtain⟨⟨n,p⟩,h1,rfl⟩:=kl.1 mU;obtain⟨j,hj,e⟩:=ry h1;have h1:(B.zip pl)[j]? =some (n,p):=by rw[dR hj,e]
   obtain⟨h2,h3⟩:=ZU.1 h1;exact⟨j,n,p,h2,h3,rfl⟩
  have XZ: ∀(j:Nat)n p,B[j]? =some n->pl[j]? =some p->Ov (E.length:Int) n p∈tD (E.length:Int) B pl:=λj n p h1 h2=>kl.2 ⟨(n,p),gT (B6 h1 h2),rfl⟩;have xm: ∀n'∈tD (E.length:Int) B pl,0<n'.cp.aY->n'.cP=(E.length:Int)/\n'.cp∈pl:=λn' mU h0=>by
   obtain⟨j,n,p,h1,h2,rfl⟩:=Q6 n' mU;have h0:0<p.aY:=h0;exact⟨by simp[Ov,h0],gT h2⟩
  have hS3: ∀s∈S',s∈ig:=λs hs=>UJ s (by simp[hs]);refine⟨IB.nx (λx hx hf e he=>⟨XW x ((Gq x).1 (VQ x hx)).1 e he,(Mf x hx).2 hf e he⟩) (λj d hd=>?_) (by simp) (λx hx d hd=>?_),?_,λc hc=>Sf hc,by rw[tF];simp,λe p c h=>h.keep,
   λe p c h=>h.keep λx hx hf e he=>XW x ((Gq x).1 (VQ x hx)).1 e he,λn hn e he=>?_,λn hn=>((Gq n).1 (hcu n hn)).1,Ps.sublist (JK Ed),?_,λn hn=>?_,?_,?_,λn' mU=>?_,λn hn=>?_,aaU,λx hx y hy h0 Ix=>?_,λe s hs=>?_⟩
  ·rcases Zv j d hd with⟨rfl,rfl⟩|⟨hj,s,hs,rfl⟩
   ·refine⟨⟨rfl,UJ s0 (by simp),λh=>(by cases h),XY⟩,λs hs=>?_⟩;obtain⟨p,h1,h2,rfl⟩:=(UN s).1 hs;exact⟨rfl,rfl,rfl,oH p h1 h2⟩
   ·exact⟨⟨rfl,hS3 s hs,λ_=>⟨rfl,by omega⟩,by simp[mK]⟩,by simp[mK]⟩
  ·simp at hd;subst hd;exact T2 x hx
  ·rw[Ox,wy,SA,Ic (λ_=>rfl)];rfl
  ·by_cases hc:T<n.dK
   ·have hnU:=(Gq n).2 ⟨hn,hc⟩;obtain⟨i,hi,rfl⟩:=ry hnU;have e1:U[i]? =some U[i]:=dR hi;have e2:cut[i]? =some (cut[i]'(by omega)):=dR _;have hz:=gT (B6 e1 e2);cases hbb:cut[i]'(by omega)with
    |false=>rw[hbb]at hz;exact .inl ⟨DQ _ (rn.2 hz),hkc _ (rn.2 hz)⟩
    |true=>
     rw[hbb]at hz;have hz:=ye.2 hz;refine .inr (.inl ⟨hz,Nd.new (XW _ hn e he) (λs hs=>IB.hold hs) (λhf=>?_) (d0:=⟨false,s0,false,u⟩) rfl rfl λhf=>?_⟩)
     ·cases hq:hb (jt U cut) e U[i].cp.aY
      ·rfl
      ·obtain⟨x,x1,_,_,x4⟩:=H6 hq;have:=Sj Ps (VQ x x1) hnU x4;subst this;exact absurd hz (hkc _ x1)
     ·obtain⟨e0,h1,h2,_⟩:=(Is _ hn).ev;obtain⟨s,t1,t2,t3⟩:=h2.st;obtain⟨q,hq⟩:=(IB.st _ s t1).pl;have hq:=(js hq).2.2.2.1;have hq:0<=s.cO:=hq;obtain⟨p,h3,h4⟩:=hct _ hz (by omega);have:=(Is _ hn).co;exact(Q5 _).2 ⟨p,h3,by omega,h4⟩
   ·refine .inr (.inr ⟨λh=>?_,by omega⟩);exact hc ((Gq n).1 (hcu n h)).2
  ·have:=(JK Ed (f:=λx=>x.2)).length_le;exact xz this VP
  ·rcases lT.1 hn with hn|hn
   ·refine .inl ⟨((Gq n).1 (VQ n hn)).1,λe he=>(XW n ((Gq n).1 (VQ n hn)).1 e he).dx (λd hd=>?_) λhf=>.inr ⟨?_,λj d hj hd=>?_⟩⟩
    ·rcases mZ.1 hd with rfl|hd
     ·exact T2 n hn
     ·obtain⟨s,_,rfl⟩:=kl.1 hd;exact⟨rfl,rfl⟩
    ·exact AO.2 ⟨n,hn,by simp[hf,he]⟩
    ·rcases Zv j d hd with⟨h,_⟩|⟨_,s,_,rfl⟩
     ·omega
     ·rfl
   ·obtain⟨h1,h2⟩:=nT.1 hn;have h2:0<n.cp.aY:=by simpa using h2
    obtain⟨h3,h4⟩:=xm n h1 h2;refine .inr ⟨h1,by omega,h3,Rg.new (d0:=⟨false,s0,false,u⟩) (s0:=rj n.cp) rfl ((UN _).2 ⟨n.cp,h4,h2,rfl⟩) rfl rfl (λj d hj hd=>?_) λs hs=>?_⟩
    ·rcases Zv j d hd with⟨h,_⟩|⟨_,s,_,rfl⟩
     ·omega
     ·exact⟨rfl,rfl⟩
    ·obtain⟨p,_,_,rfl⟩:=(UN s).1 hs;rfl
  ·rw[Yt];refine⟨Ps.sublist (JK Ed),?_,λx hx y hy=>?_⟩
   ·have:(tD (E.length:Int) B pl).Pairwise λx y=>0<y.cp.aY->x.cp.aY≠y.cp.aY:=by
     have h1:(B.zip pl).Pairwise λx y=>0<y.2.aY->x.2.aY≠y.2.aY:=by
      have:=Cv.dis;rw[<-List.map_snd_zip (l₁:=B) (l₂:=pl) (by have:=Cv.len;omega),Ij]at this;exact this
     unfold tD;rw[Ij];exact h1
    refine(this.sublist (V5 (p:=λn=>decide (0<n.cp.aY)))).imp_of_mem λ{x y}hx hy Ix=>Ix ?_;have:=(nT.1 hy).2;simpa using this
   ·obtain⟨h1,h2⟩:=nT.1 hy;exactλh=>(Mf x hx).1 _ (xm y h1 (by simpa using h2)).2 h.symm
  ·have h1:=(JK Ed (f:=λx=>!x.2)).length_le;have h2:=tQ (λn:bE=>decide (0<n.cp.aY)) (tD (E.length:Int) B pl);have h3:(tD (E.length:Int) B pl).length<=B.length:=by simp[tD];omega
   rw[lu];have h1:(jt U cut).length<=U.length:=h1;omega
  ·obtain⟨j,n,p,h1,h2,rfl⟩:=Q6 n' mU;refine⟨n,gT h1,rfl,rfl,rfl,?_⟩;rcases Cv.ok j n p h1 h2 with h3|h3
   ·exact .inl h3
   ·have h0:=(js h3).2.1;refine .inr ⟨h3,Ga _ (nT.2 ⟨mU,sB ?_⟩),(xm _ mU ?_).1⟩
    ·show 0<p.aY;omega
    ·show 0<p.aY;omega
  ·obtain⟨j,hj,rfl⟩:=ry hn;have e1:B[j]? =some B[j]:=dR hj;have e2:pl[j]? =some (pl[j]'(by rw[Cv.len];exact hj)):=dR _;exact⟨_,XZ j _ _ e1 e2,rfl⟩
  ·obtain⟨j,n,p,h1,h2,rfl⟩:=Q6 x hx;obtain⟨i,m,q,h3,h4,rfl⟩:=Q6 y hy;have:=Cv.one h2 h4 h0 Ix;subst this;rw[h1]at h3;rw[h2]at h4;cases h3;cases h4;rfl
  ·rcases nS hs with⟨s1,q1,q2,rfl⟩|⟨q1,d,q2,q3⟩
   ·exact .inl ⟨s1,q1,gq,vc⟩
   ·rcases Zv _ d q2 with⟨h,rfl⟩|⟨_,s,_,rfl⟩
    ·obtain⟨p,h1,h2,rfl⟩:=(UN s).1 q3;obtain⟨j,n,j1,j2,_⟩:=Cv.get h1;exact .inr ⟨by omega,_,XZ j n p j1 j2,rfl⟩
    ·simp[mK]at q3
end
end Go.Proofs.YtfdnjgoegamonaaGreatDoor
