/- Plain laws, joined by gen/joinH.py. -/
import Derived.Test.YtgpciecmgoppiaaGreatJC
import Derived.Test.YtgpciecmgoppiaaGreatAmH
set_option linter.all false
namespace Go.Am
open Go.RowKit
set_option maxRecDepth 100000
def LB{α:Type}(cmp:α->α->Option Int)(a0:List α)(a1:Int)(a2:Int):Option (List α):=(bO (σ:=(List α×Int)) (τ:=(List α)) (λ((p9,vX):(List α×Int))=>bif (decide (vX<a2))then((bO (σ:=(List α×Int)) (τ:=(List α)) (λ((mR,oh):(List α×Int))=>((bif (decide (a1<oh))then((ix mR oh).bind λy3=>(ix mR (wr (oh-1))).bind λy4=>(cmp y3 y4).bind λr5=>some (decide (r5<0)))else(some false)):Option Bool).bind λ(OU:Bool)=>bif OU then((ix mR (wr (oh-1))).bind λy7=>(ix mR oh).bind λy8=>(ix (mR.set oh.toNat y7) (wr (oh-1))).bind λy9=>some (.inl (((mR.set oh.toNat y7).set (wr (oh-1)).toNat y8),(wr (oh-1)))))else(some (.inr mR))) cr (p9,vX)).bind λ(X8:(List α))=>some (.inl (X8,(wr (vX+1)))))else(some (.inr p9))) cr (a0,(wr (a1+1)))).bind λ(HV:(List α))=>some HV
def OV{α:Type}(a0:List α)(a1:Int)(a2:Int)(a3:Int):Option (List α):=(bO (σ:=(List α×Int)) (τ:=(List α)) (λ((p9,iX):(List α×Int))=>bif (decide (iX<a3))then((ix p9 (wr (a2+iX))).bind λy2=>(ix p9 (wr (a1+iX))).bind λy3=>(ix (p9.set (wr (a1+iX)).toNat y2) (wr (a2+iX))).bind λy4=>some (.inl (((p9.set (wr (a1+iX)).toNat y2).set (wr (a2+iX)).toNat y3),(wr (iX+1)))))else(some (.inr p9))) cr (a0,0)).bind λ(HV:(List α))=>some HV
def Vd{α:Type}(a0:List α)(a1:Int)(a2:Int)(a3:Int):Option (List α):=(bO (σ:=(List α×Int×Int)) (τ:=(List α×Int)) (λ((p9,iX,oP):(List α×Int×Int))=>bif (decide (iX≠oP))then(bif (decide (oP<iX))then((OV p9 (wr (a2-iX)) a2 oP).bind λr3=>bZ (r3.length=p9.length)<|some (.inl (r3,(wr (iX-oP)),oP)))else((OV p9 (wr (a2-iX)) (wr ((wr (a2+oP))-iX)) iX).bind λr5=>bZ (r5.length=p9.length)<|some (.inl (r5,iX,(wr (oP-iX))))))else(some (.inr (p9,iX)))) cr (a0,(wr (a2-a1)),(wr (a3-a2)))).bind λ((JE,Dg):(List α×Int))=>(OV JE (wr (a2-Dg)) a2 Dg).bind λr7=>some r7
def uV{α:Type}(cmp:α->α->Option Int):Nat->(List α)->Int->Int->Int->Option (List α)
 |0,_,_,_,_=>none
 |fu+1,a0,a1,a2,a3=>bif (decide ((wr (a2-a1))=1))then((bO (σ:=(Int×Int)) (τ:=Int) (λ((iX,oP):(Int×Int))=>bif (decide (iX<oP))then((ix a0 (wr ((dV (IntKind.wrap .u64 ((wr (iX+oP)))) 1)))).bind λy3=>(ix a0 a1).bind λy4=>(cmp y3 y4).bind λr5=>bif (decide (r5<0))then(some (.inl ((wr ((wr ((dV (IntKind.wrap .u64 ((wr (iX+oP)))) 1)))+1)),oP)))else(some (.inl (iX,(wr ((dV (IntKind.wrap .u64 ((wr (iX+oP)))) 1)))))))else(some (.inr iX))) cr (a2,a3)).bind λ(Dg:Int)=>(bO (σ:=(List α×Int)) (τ:=(List α)) (λ((mR,wT):(List α×Int))=>bif (decide (wT<(wr (Dg-1))))then((ix mR (wr (wT+1))).bind λy8=>(ix mR wT).bind λy9=>(ix (mR.set wT.toNat y8) (wr (wT+1))).bind λy10=>some (.inl (((mR.set wT.toNat y8).set (wr (wT+1)).toNat y9),(wr (wT+1)))))else(some (.inr mR))) cr (a0,a1)).bind λ(HW:(List α))=>some HW)else(bif (decide ((wr (a3-a2))=1))then((bO (σ:=(Int×Int)) (τ:=Int) (λ((BR,FK):(Int×Int))=>bif (decide (BR<FK))then((ix a0 a2).bind λSQ=>(ix a0 (wr ((dV (IntKind.wrap .u64 ((wr (BR+FK)))) 1)))).bind λGf=>(cmp SQ Gf).bind λr15=>bif (!(decide (r15<0)))then(some (.inl ((wr ((wr ((dV (IntKind.wrap .u64 ((wr (BR+FK)))) 1)))+1)),FK)))else(some (.inl (BR,(wr ((dV (IntKind.wrap .u64 ((wr (BR+FK)))) 1)))))))else(some (.inr BR))) cr (a1,a2)).bind λ(Ve:Int)=>(bO (σ:=(List α×Int)) (τ:=(List α)) (λ((OW,wU):(List α×Int))=>bif (decide (Ve<wU))then((ix OW (wr (wU-1))).bind λy18=>(ix OW wU).bind λy19=>(ix (OW.set wU.toNat y18) (wr (wU-1))).bind λy20=>some (.inl (((OW.set wU.toNat y18).set (wr (wU-1)).toNat y19),(wr (wU-1)))))else(some (.inr OW))) cr (a0,a2)).bind λ(Vf:(List α))=>some Vf)else(((bif (decide ((wr ((dV (IntKind.wrap .u64 ((wr (a1+a3)))) 1)))<a2))then(some ((wr ((wr ((wr ((dV (IntKind.wrap .u64 ((wr (a1+a3)))) 1)))+a2))-a3)),(wr ((dV (IntKind.wrap .u64 ((wr (a1+a3)))) 1)))))else(some (a1,a2))):Option (Int×Int)).bind λ((X9,Ya):(Int×Int))=>(bO (σ:=(Int×Int)) (τ:=Int) (λ((zX,BS):(Int×Int))=>bif (decide (zX<BS))then((ix a0 (wr ((wr ((wr ((wr ((dV (IntKind.wrap .u64 ((wr (a1+a3)))) 1)))+a2))-1))-(wr ((dV (IntKind.wrap .u64 ((wr (zX+BS)))) 1)))))).bind λy23=>(ix a0 (wr ((dV (IntKind.wrap .u64 ((wr (zX+BS)))) 1)))).bind λy24=>(cmp y23 y24).bind λr25=>bif (!(decide (r25<0)))then(some (.inl ((wr ((wr ((dV (IntKind.wrap .u64 ((wr (zX+BS)))) 1)))+1)),BS)))else(some (.inl (zX,(wr ((dV (IntKind.wrap .u64 ((wr (zX+BS)))) 1)))))))else(some (.inr zX))) cr (X9,Ya)).bind λ(oi:Int)=>((((bif (decide (oi<a2))then(some (decide (a2<(wr ((wr ((wr ((dV (IntKind.wrap .u64 ((wr (a1+a3)))) 1)))+a2))-oi)))))else(some false)):Option Bool).bind λ(Vg:Bool)=>bif Vg then((Vd a0 oi a2 (wr ((wr ((wr ((dV (IntKind.wrap .u64 ((wr (a1+a3)))) 1)))+a2))-oi))).bind λr29=>bZ (r29.length=a0.length)<|some r29)else(some a0)):Option (List α)).bind λ(Vh:(List α))=>((((bif (decide (a1<oi))then(some (decide (oi<(wr ((dV (IntKind.wrap .u64 ((wr (a1+a3)))) 1))))))else(some false)):Option Bool).bind λ(RB:Bool)=>bif RB then((uV cmp fu Vh a1 oi (wr ((dV (IntKind.wrap .u64 ((wr (a1+a3)))) 1)))).bind λr33=>bZ (r33.length=Vh.length)<|some r33)else(some Vh)):Option (List α)).bind λ(Yb:(List α))=>((bif (decide ((wr ((dV (IntKind.wrap .u64 ((wr (a1+a3)))) 1)))<(wr ((wr ((wr ((dV (IntKind.wrap .u64 ((wr (a1+a3)))) 1)))+a2))-oi))))then(some (decide ((wr ((wr ((wr ((dV (IntKind.wrap .u64 ((wr (a1+a3)))) 1)))+a2))-oi))<a3)))else(some false)):Option Bool).bind λ(RC:Bool)=>bif RC then((uV cmp fu Yb (wr ((dV (IntKind.wrap .u64 ((wr (a1+a3)))) 1))) (wr ((wr ((wr ((dV (IntKind.wrap .u64 ((wr (a1+a3)))) 1)))+a2))-oi)) a3).bind λr37=>some r37)else(some Yb)))
def Dh{α:Type}(cmp:α->α->Option Int)(a0:List α)(a1:Int)(a2:Int)(a3:Int):Option (List α):=uV cmp cr a0 a1 a2 a3
def LC{α:Type}(cmp:α->α->Option Int)(a0:List α)(a1:Int):Option (List α):=(bO (σ:=(List α×Int×Int)) (τ:=(List α×Int)) (λ((p9,Lv,vX):(List α×Int×Int))=>bif (decide (vX<=a1))then((LB cmp p9 Lv vX).bind λr2=>bZ (r2.length=p9.length)<|some (.inl (r2,vX,(wr (vX+20)))))else(some (.inr (p9,Lv)))) cr (a0,0,20)).bind λ((JE,Yc):(List α×Int))=>(LB cmp JE Yc a1).bind λr4=>bZ (r4.length=JE.length)<|(bO (σ:=(List α×Int)) (τ:=(List α)) (λ((mR,HX):(List α×Int))=>bif (decide (HX<a1))then((bO (σ:=(List α×Int×Int)) (τ:=(List α×Int)) (λ((HY,vZ,Di):(List α×Int×Int))=>bif (decide (Di<=a1))then((Dh cmp HY vZ (wr (vZ+HX)) Di).bind λr8=>bZ (r8.length=HY.length)<|some (.inl (r8,Di,(wr (Di+(wr (2*HX)))))))else(some (.inr (HY,vZ)))) cr (mR,0,(wr (2*HX)))).bind λ((zY,zZ):(List α×Int))=>((bif (decide ((wr (zZ+HX))<a1))then((Dh cmp zY zZ (wr (zZ+HX)) a1).bind λHP=>bZ (HP.length=zY.length)<|some HP)else(some zY)):Option (List α)).bind λ(Vi:(List α))=>some (.inl (Vi,(wr (HX*2)))))else(some (.inr mR))) cr (r4,20)).bind λ(HW:(List α))=>some HW
theorem xH{σ τ:Type}{body:σ->Option (σ⊕τ)}(Inv:σ->Prop)(μ:σ->Nat)(lI:τ->Prop)
  (hb: ∀s,Inv s->(∃s',body s=some (.inl s')/\Inv s'/\μ s'<μ s)\/(∃r,body s=some (.inr r)/\lI r)): ∀(F:Nat)(s:σ),Inv s->μ s<F-> ∃r,bO body F s=some r/\lI r
 |0,s,_,h=>absurd h (Nat.not_lt_zero _)
 |F+1,s,hi,hF=>by
  rcases hb s hi with⟨s',h1,h2,h3⟩|⟨r,h1,h2⟩
  ·obtain⟨r,h4,h5⟩:=xH Inv μ lI hb F s' h2 (by omega);exact⟨r,by simp only[bO,h1,h4],h5⟩
  ·exact⟨r,by simp only[bO,h1],h2⟩
theorem nz{σ τ β:Type}{body:σ->Option (σ⊕τ)}{f:τ->Option β}{P:β->Prop}{s0:σ}(Inv:σ->Prop)(μ:σ->Nat)(lI:τ->Prop)(h0:Inv s0)(hn:μ s0<=4194304)
  (hb: ∀s,Inv s->(∃s',body s=some (.inl s')/\Inv s'/\μ s'<μ s)\/(∃r,body s=some (.inr r)/\lI r)) (k: ∀r,lI r-> ∃z,f r=some z/\P z): ∃z,(bO body cr s0).bind f=some z/\P z:=
 iF (xH Inv μ lI hb cr s0 h0 (by grind)) k
theorem JF{α β:Type}{l:List α}{i j:Nat}{I J:Int}(hI:I=(i:Int))(hJ:J=(j:Int))(hi:i<l.length)(hj:j<l.length){f:List α->Option β}{P:β->Prop}(k: ∀q:List α,q.Perm l-> ∃z,f q=some z/\P z):
  ∃z,((ix l J).bind λy2=>(ix l I).bind λy3=>(ix (l.set I.toNat y2) J).bind λ_=>f ((l.set I.toNat y2).set J.toNat y3))=some z/\P z:=by
 simp_all[bT,List.set_set_perm]
theorem Dj{α:Type}(l0:List α)(hs:l0.length<=4194304)(a b n:Nat)(ha:a+n<=l0.length)(hb:b+n<=l0.length){A B N:Int}(hA:A=(a:Int))(hB:B=(b:Int))(hN:N=(n:Int)): ∃r,OV l0 A B N=some r/\r.Perm l0:=by
 subst hA;subst hB;subst hN;unfold OV;refine eF (λk(s:List α×Int)=>s.2=(k:Int)/\s.1.Perm l0) (λr=>r.Perm l0) n (by omega) ⟨rfl,.refl _⟩ ?_ ?_ ?_
 ·rintro k ⟨l,s2⟩ hk ⟨e,hp⟩;simp only at e hp;subst e;have hl:=hp.length_eq;have c1:(k:Int)<(n:Int):=by omega
  simp only[c1,ju,cP];have w1:wr ((a:Int)+(k:Int))=((a+k:Nat):Int):=by grind [jx]
  have w2:wr ((b:Int)+(k:Int))=((b+k:Nat):Int):=by grind [jx]
  obtain⟨z,h1,h2⟩:=JF (l:=l) w1 w2 (by omega) (by omega) (f:=λq=>some (Sum.inl (β:=List α) (q,wr ((k:Int)+1)))) (P:=λz=> ∃s',z=.inl s'/\s'.2=((k+1:Nat):Int)/\s'.1.Perm l0)
   (λq hq=>⟨_,rfl,_,rfl,by grind [jx],hq.trans hp⟩)
  grind
 all_goals grind
theorem RD{α:Type}(l0:List α)(hs:l0.length<=4194304)(a m b:Nat)(h1:a<m)(h2:m<b)(h3:b<=l0.length){A M B:Int}(hA:A=(a:Int))(hM:M=(m:Int))(hB:B=(b:Int)): ∃r,Vd l0 A M B=some r/\r.Perm l0:=by
 subst hA;subst hM;subst hB;unfold Vd;have w1:wr ((m:Int)-(a:Int))=((m-a:Nat):Int):=by grind [jx]
 have w2:wr ((b:Int)-(m:Int))=((b-m:Nat):Int):=by grind [jx]
 rw[w1,w2];refine nz (λ(s:List α×Int×Int)=> ∃i j:Nat,s.2.1=(i:Int)/\s.2.2=(j:Int)/\0<i/\0<j/\i<=m-a/\j<=b-m/\s.1.Perm l0) (λs=>s.2.1.toNat+s.2.2.toNat)
  (λ(r:List α×Int)=> ∃i:Nat,r.2=(i:Int)/\i<=m-a/\i<=b-m/\r.1.Perm l0) ⟨m-a,b-m,rfl,rfl,by omega,by omega,fw _,fw _,.refl _⟩ (by grind) ?_ ?_
 ·rintro⟨l,s1,s2⟩ ⟨i,j,e1,e2,hi,hj,Z0,hj2,hp⟩;simp only at e1 e2 hp;subst e1;subst e2;have hl:=hp.length_eq;by_cases sL:(i:Int)=(j:Int)
  ·have c:decide ((i:Int)≠(j:Int))=false:=qf (by omega);simp only[c,dv]
   grind
  ·have c:decide ((i:Int)≠(j:Int))=true:=Du sL;simp only[c,cP];have w3:wr ((m:Int)-(i:Int))=((m-i:Nat):Int):=by grind [jx]
   by_cases kc:(j:Int)<(i:Int)
   ·obtain⟨r,e,hr⟩:=Dj l (by omega) (m-i) m j (by omega) (by omega) w3 rfl rfl;have w4:wr ((i:Int)-(j:Int))=((i-j:Nat):Int):=by grind [jx]
    simp only[kc,ju,cP,e,cN,cQ hr.length_eq,w4];exact .inl ⟨_,rfl,⟨i-j,j,rfl,rfl,by omega,hj,by omega,hj2,hr.trans hp⟩,by grind⟩
   ·have w5:wr (wr ((m:Int)+(j:Int))-(i:Int))=((m+j-i:Nat):Int):=by grind [jx]
    obtain⟨r,e,hr⟩:=Dj l (by omega) (m-i) (m+j-i) i (by omega) (by omega) w3 w5 rfl;have w4:wr ((j:Int)-(i:Int))=((j-i:Nat):Int):=by grind [jx]
    simp only[kc,fZ,dv,e,cN,cQ hr.length_eq,w4];exact .inl ⟨_,rfl,⟨i,j-i,rfl,rfl,hi,by omega,Z0,by omega,hr.trans hp⟩,by grind⟩
 ·rintro⟨l,s1⟩ ⟨i,e1,hi,Z0,hp⟩;simp only at e1 hp;subst e1;have hl:=hp.length_eq;have w3:wr ((m:Int)-(i:Int))=((m-i:Nat):Int):=by grind [jx]
  obtain⟨r,e,hr⟩:=Dj l (by omega) (m-i) m i (by omega) (by omega) w3 rfl rfl;simp only[e,cN];exact⟨r,rfl,hr.trans hp⟩
theorem RE{i j:Nat}(h1:i<=4194304)(h2:j<=4194304):wr (dV (IntKind.wrap .u64 (wr ((i:Int)+(j:Int)))) 1)=(((i+j) / 2:Nat):Int):=by
 have w1:wr ((i:Int)+(j:Int))=((i+j:Nat):Int):=by grind [sX]
 have w2:IntKind.wrap .u64 ((i+j:Nat):Int)=((i+j:Nat):Int):=by
  rw[IntKind.wrap_u64];omega
 have w3:dV ((i+j:Nat):Int) 1=(((i+j) / 2:Nat):Int):=by
  unfold dV
  grind
 grind [sX]
theorem OX{body:Int×Int->Option ((Int×Int)⊕Int)}(lo hi:Nat)(hh:hi<=4194304)(Yd:lo<=hi)
  (hb: ∀i j:Nat,lo<=i->i<j->j<=hi->body ((i:Int),(j:Int))=some (.inl ((((i+j) / 2+1:Nat):Int),(j:Int)))\/body ((i:Int),(j:Int))=some (.inl ((i:Int),(((i+j) / 2:Nat):Int))))
  (he: ∀i:Nat,lo<=i->i<=hi->body ((i:Int),(i:Int))=some (.inr (i:Int))): ∃r,bO body cr ((lo:Int),(hi:Int))=some r/\ ∃i:Nat,r=(i:Int)/\lo<=i/\i<=hi:=by
 refine xH (λ(s:Int×Int)=> ∃i j:Nat,s=((i:Int),(j:Int))/\lo<=i/\i<=j/\j<=hi) (λs=>s.2.toNat-s.1.toNat) _ ?_ cr _ ⟨lo,hi,rfl,fw _,Yd,fw _⟩ (by grind);rintro s ⟨i,j,rfl,h1,h2,h3⟩;by_cases sL:i=j
 ·grind
 ·rcases hb i j h1 (by omega) h3 with h|h
  ·exact .inl ⟨_,h,⟨_,_,rfl,by omega,by omega,h3⟩,by grind⟩
  ·exact .inl ⟨_,h,⟨_,_,rfl,h1,by omega,by omega⟩,by grind⟩
section
variable {α:Type} {cmp:α->α->Option Int} {G:α->Prop} (hc: ∀x y,G x->G y-> ∃r,cmp x y=some r)
include hc
theorem JG(l0:List α)(hs:l0.length<=4194304)(hg: ∀p∈l0,G p)(a b:Nat)(ha:a<=4194304)(hb:b<=l0.length){A B:Int}(hA:A=(a:Int))(hB:B=(b:Int)): ∃r,LB cmp l0 A B=some r/\r.Perm l0:=by
 subst hA;subst hB;unfold LB;refine nz (λ(s:List α×Int)=>(∃k:Nat,s.2=(k:Int)/\a+1<=k)/\s.1.Perm l0) (λs=>b-s.2.toNat) (λr=>r.Perm l0) ⟨⟨a+1,?_,fw _⟩,.refl _⟩ (by omega) ?_ ?_
 ·grind [jx]
 ·rintro⟨l,s2⟩ ⟨⟨k,e,hk⟩,hp⟩;simp only at e hp;subst e;have dK:=hp.length_eq;by_cases c1:(k:Int)<(b:Int)
  ·simp only[c1,ju,cP];have:=xH (body:=λ((mR,oh):(List α×Int))=>((bif (decide ((a:Int)<oh))then((ix mR oh).bind λy3=>(ix mR (wr (oh-1))).bind λy4=>(cmp y3 y4).bind λr5=>some (decide (r5<0)))else(some false)):Option Bool).bind λ(OU:Bool)=>bif OU then((ix mR (wr (oh-1))).bind λy7=>(ix mR oh).bind λy8=>(ix (mR.set oh.toNat y7) (wr (oh-1))).bind λy9=>some (.inl (((mR.set oh.toNat y7).set (wr (oh-1)).toNat y8),(wr (oh-1)))))else(some (.inr mR)))
    (λ(s:List α×Int)=>(∃j:Nat,s.2=(j:Int)/\j<=k)/\s.1.Perm l0) (λs=>s.2.toNat) (λr=>r.Perm l0) ?_ cr (l,(k:Int)) ⟨⟨k,rfl,fw _⟩,hp⟩ (by grind)
   ·obtain⟨r,h1,h2⟩:=this;rw[h1];simp only[cN];refine .inl ⟨_,rfl,⟨⟨k+1,?_,by omega⟩,h2⟩,?_⟩
    all_goals grind [jx]
   ·rintro⟨q,s2⟩ ⟨⟨j,e,hj⟩,hq⟩;simp only at e hq;subst e;have XX:=hq.length_eq;by_cases c2:(a:Int)<(j:Int)
    ·have x1:q[j]? =some (q[j]'(by omega)):=dF _;have x2:q[j-1]? =some (q[j-1]'(by omega)):=dF _;have w:wr ((j:Int)-1)=((j-1:Nat):Int):=by grind [jx]
     obtain⟨r5,e5⟩:=hc (q[j]'(by omega)) (q[j-1]'(by omega)) (hg _ (hq.mem_iff.1 (F2 _))) (hg _ (hq.mem_iff.1 (F2 _)));simp only[c2,ju,cP,bT x1,w,bT x2,e5,cN];cases decide (r5<0)
     ·grind
     ·simp only[cP];obtain⟨z,h1,h2⟩:=JF (l:=q) (i:=j) (j:=j-1) rfl rfl (by omega) (by omega) (f:=λq'=>some (Sum.inl (β:=List α) (q',((j-1:Nat):Int)))) (P:=λz=> ∃s',z=.inl s'/\s'.2=((j-1:Nat):Int)/\s'.1.Perm l0)
       (λq' hq'=>⟨_,rfl,_,rfl,rfl,hq'.trans hq⟩)
      obtain⟨s',rfl,h3,h4⟩:=h2
      grind [bT]
    grind
  grind
 grind
theorem z6: ∀(fu:Nat)(l0:List α)(a m b:Nat),l0.length<=4194304->(∀p∈l0,G p)->a<m->m<b->b<=l0.length->b-a<=fu-> ∃r,uV cmp fu l0 (a:Int) (m:Int) (b:Int)=some r/\r.Perm l0
 |0,l0,a,m,b,hs,hg,h1,h2,h3,hf=>by omega
 |fu+1,l0,a,m,b,hs,hg,h1,h2,h3,hf=>by
  unfold uV;have at_: ∀i:Nat,i<l0.length-> ∃y,l0[i]? =some y/\G y:=λi hi=>⟨_,dF hi,hg _ (F2 _)⟩;have w1:wr ((m:Int)-(a:Int))=((m-a:Nat):Int):=by grind [jx]
  have w2:wr ((b:Int)-(m:Int))=((b-m:Nat):Int):=by grind [jx]
  simp only[w1,w2];by_cases ca:m-a=1
  ·have c:decide (((m-a:Nat):Int)=1)=true:=Du (by omega);simp only[c,cP];refine iF (OX m b (by omega) (by omega) ?_ ?_) ?_
   ·intro i j hi sL hj;have c1:(i:Int)<(j:Int):=by omega
    obtain⟨y,x1,g1⟩:=at_ ((i+j) / 2) (by omega);obtain⟨z,x2,g2⟩:=at_ a (by omega);obtain⟨r,e⟩:=hc y z g1 g2;have w3:wr ((((i+j) / 2:Nat):Int)+1)=(((i+j) / 2+1:Nat):Int):=by grind [jx]
    simp only[c1,ju,cP,RE (i:=i) (j:=j) (by omega) (by omega),bT x1,bT x2,e,cN,w3]
    grind
   ·grind
   ·rintro _ ⟨i,rfl,hi,hj⟩;have w3:wr ((i:Int)-1)=((i-1:Nat):Int):=by grind [jx]
    simp only[w3];refine nz (λ(s:List α×Int)=>(∃k:Nat,s.2=(k:Int))/\s.1.Perm l0) (λs=>b-s.2.toNat) (λr=>r.Perm l0) ⟨⟨a,rfl⟩,.refl _⟩ (by omega) ?_ λr hr=>⟨r,rfl,hr⟩;rintro⟨l,s2⟩ ⟨⟨k,e⟩,hp⟩;simp only at e hp;subst e;have hl:=hp.length_eq;by_cases c1:(k:Int)<((i-1:Nat):Int)
    ·have w4:wr ((k:Int)+1)=((k+1:Nat):Int):=by grind [jx]
     obtain⟨z,e1,e2⟩:=JF (l:=l) (i:=k) (j:=k+1) rfl w4 (by omega) (by omega) (f:=λq=>some (Sum.inl (β:=List α) (q,wr ((k:Int)+1)))) (P:=λz=> ∃s',z=.inl s'/\s'.2=((k+1:Nat):Int)/\s'.1.Perm l0)
      (λq hq=>⟨_,rfl,_,rfl,w4,hq.trans hp⟩)
     obtain⟨s',rfl,e3,e4⟩:=e2
     grind
    grind
  ·have c:decide (((m-a:Nat):Int)=1)=false:=qf (by omega);simp only[c,dv];by_cases cb:b-m=1
   ·have c:decide (((b-m:Nat):Int)=1)=true:=Du (by omega);simp only[c,cP];refine iF (OX a m (by omega) (by omega) ?_ ?_) ?_
    ·intro i j hi sL hj;have c1:(i:Int)<(j:Int):=by omega
     obtain⟨y,x1,g1⟩:=at_ ((i+j) / 2) (by omega);obtain⟨z,x2,g2⟩:=at_ m (by omega);obtain⟨r,e⟩:=hc z y g2 g1;have w3:wr ((((i+j) / 2:Nat):Int)+1)=(((i+j) / 2+1:Nat):Int):=by grind [jx]
     simp only[c1,ju,cP,RE (i:=i) (j:=j) (by omega) (by omega),bT x1,bT x2,e,cN,w3]
     grind
    ·grind
    ·rintro _ ⟨i,rfl,hi,hj⟩;refine nz (λ(s:List α×Int)=>(∃k:Nat,s.2=(k:Int)/\k<=m)/\s.1.Perm l0) (λs=>s.2.toNat) (λr=>r.Perm l0) ⟨⟨m,rfl,fw _⟩,.refl _⟩ (by grind) ?_ λr hr=>⟨r,rfl,hr⟩;rintro⟨l,s2⟩ ⟨⟨k,e,hk⟩,hp⟩;simp only at e hp;subst e;have hl:=hp.length_eq;by_cases c1:(i:Int)<(k:Int)
     ·have w4:wr ((k:Int)-1)=((k-1:Nat):Int):=by grind [jx]
      obtain⟨z,e1,e2⟩:=JF (l:=l) (i:=k) (j:=k-1) rfl w4 (by omega) (by omega) (f:=λq=>some (Sum.inl (β:=List α) (q,wr ((k:Int)-1)))) (P:=λz=> ∃s',z=.inl s'/\s'.2=((k-1:Nat):Int)/\s'.1.Perm l0)
       (λq hq=>⟨_,rfl,_,rfl,w4,hq.trans hp⟩)
      obtain⟨s',rfl,e3,e4⟩:=e2
      grind
     grind
   ·have c:decide (((b-m:Nat):Int)=1)=false:=qf (by omega);simp only[c,dv,RE (i:=a) (j:=b) (by omega) (by omega)];generalize AJ:(a+b) / 2=lA;have Rl:a<lA:=by omega
    have X3:lA<b:=by omega
    have wn:wr ((lA:Int)+(m:Int))=((lA+m:Nat):Int):=by grind [jx]
    simp only[wn];refine iF (P1:=λq=> ∃lo hi:Nat,q=((lo:Int),(hi:Int))/\a<=lo/\lo<=hi/\hi<=m/\hi<=lA/\lA+m<=b+lo) ?_ ?_
    ·by_cases cm:(lA:Int)<(m:Int)
     ·have w5:wr (((lA+m:Nat):Int)-(b:Int))=((lA+m-b:Nat):Int):=by grind [jx]
      simp only[cm,ju,cP,w5]
      grind
     grind
    ·rintro _ ⟨lo,hi,rfl,p1,p2,p3,p4,p5⟩;simp only;refine iF (OX lo hi (by omega) p2 ?_ ?_) ?_
     ·intro i j F7 sL hj;have c1:(i:Int)<(j:Int):=by omega
      have wp:wr (((lA+m:Nat):Int)-1)=((lA+m-1:Nat):Int):=by grind [jx]
      have wq:wr (((lA+m-1:Nat):Int)-(((i+j) / 2:Nat):Int))=((lA+m-1-(i+j) / 2:Nat):Int):=by grind [jx]
      obtain⟨y,x1,g1⟩:=at_ ((i+j) / 2) (by omega);obtain⟨z,x2,g2⟩:=at_ (lA+m-1-(i+j) / 2) (by omega);obtain⟨r,e⟩:=hc z y g2 g1;have w3:wr ((((i+j) / 2:Nat):Int)+1)=(((i+j) / 2+1:Nat):Int):=by grind [jx]
      simp only[c1,ju,cP,RE (i:=i) (j:=j) (by omega) (by omega),wp,wq,bT x1,bT x2,e,cN,w3]
      grind
     ·grind
     ·rintro _ ⟨i,rfl,hi1,Z0⟩;have we:wr (((lA+m:Nat):Int)-(i:Int))=((lA+m-i:Nat):Int):=by grind [jx]
      simp only[we];refine iF (P1:=λq=>q.Perm l0) ?_ λq7 hq7=>?_
      ·by_cases d1:(i:Int)<(m:Int)
       ·by_cases d2:(m:Int)<((lA+m-i:Nat):Int)
        ·obtain⟨r,e,hr⟩:=RD l0 hs i m (lA+m-i) (by omega) (by omega) (by omega) rfl rfl rfl;simp only[d1,d2,ju,cP,cN,e,cQ hr.length_eq]
         grind
        ·simp only[d1,d2,ju,fZ,cP,dv,cN];simp_all
       ·simp only[d1,fZ,dv,cN];simp_all
      have hl7:=hq7.length_eq;refine iF (P1:=λq=>q.Perm l0) ?_ λq9 hq9=>?_
      ·by_cases d1:(a:Int)<(i:Int)
       ·by_cases d2:(i:Int)<(lA:Int)
        ·obtain⟨r,e,hr⟩:=z6 fu q7 a i lA (by omega) (λp hp=>hg p (hq7.mem_iff.1 hp)) (by omega) (by omega) (by omega) (by omega);simp only[d1,d2,ju,cP,cN,e,cQ hr.length_eq];exact⟨r,rfl,hr.trans hq7⟩
        grind
       grind
      have hl9:=hq9.length_eq;by_cases d1:(lA:Int)<((lA+m-i:Nat):Int)
      ·by_cases d2:((lA+m-i:Nat):Int)<(b:Int)
       ·obtain⟨r,e,hr⟩:=z6 fu q9 lA (lA+m-i) b (by omega) (λp hp=>hg p (hq9.mem_iff.1 hp)) (by omega) (by omega) (by omega) (by omega);simp only[d1,d2,ju,cP,cN,e];exact⟨r,rfl,hr.trans hq9⟩
       grind
      grind
theorem JH(l0:List α)(a m b:Nat)(hs:l0.length<=4194304)(hg: ∀p∈l0,G p)(h1:a<m)(h2:m<b)(h3:b<=l0.length){A M B:Int}(hA:A=(a:Int))(hM:M=(m:Int))(hB:B=(b:Int)): ∃r,Dh cmp l0 A M B=some r/\r.Perm l0:=by
 subst hA;subst hM;subst hB;exact z6 hc cr l0 a m b hs hg h1 h2 h3 (by grind)
theorem JI(l0:List α)(hs:l0.length<=4194304)(hg: ∀p∈l0,G p){N:Int}(hN:N=(l0.length:Int)): ∃r,LC cmp l0 N=some r/\r.Perm l0:=by
 subst hN;generalize hn:l0.length=n at hs;unfold LC;refine nz (λ(s:List α×Int×Int)=> ∃a:Nat,s.2.1=(a:Int)/\s.2.2=((a+20:Nat):Int)/\a<=n/\s.1.Perm l0) (λs=>n-s.2.1.toNat)
  (λ(r:List α×Int)=> ∃a:Nat,r.2=(a:Int)/\a<=n/\r.1.Perm l0) ⟨0,rfl,rfl,by omega,.refl _⟩ (by omega) ?_ ?_
 ·rintro⟨l,s1,s2⟩ ⟨a,e1,e2,ha,hp⟩;simp only at e1 e2 hp;subst e1;subst e2;have hl:=hp.length_eq;by_cases c1:((a+20:Nat):Int)<=(n:Int)
  ·obtain⟨r,e,hr⟩:=JG hc l (by omega) (λp h=>hg p (hp.mem_iff.1 h)) a (a+20) (by omega) (by omega) rfl rfl;have w:wr (((a+20:Nat):Int)+20)=((a+20+20:Nat):Int):=by grind [jx]
   simp only[c1,ju,cP,e,cN,cQ hr.length_eq,w];exact .inl ⟨_,rfl,⟨a+20,rfl,rfl,by omega,hr.trans hp⟩,by grind⟩
  ·simp only[c1,fZ,dv]
   grind
 ·rintro⟨l,s1⟩ ⟨a,e1,ha,hp⟩;simp only at e1 hp;subst e1;have hl:=hp.length_eq;obtain⟨r4,e,hr⟩:=JG hc l (by omega) (λp h=>hg p (hp.mem_iff.1 h)) a n (by omega) (by omega) rfl rfl;simp only[e,cN,cQ hr.length_eq];refine nz (λ(s:List α×Int)=>(∃k:Nat,s.2=(k:Int)/\1<=k)/\s.1.Perm l0) (λs=>n-s.2.toNat) (λr=>r.Perm l0) ⟨⟨20,rfl,by omega⟩,hr.trans hp⟩ (by omega) ?_ λr hr=>⟨r,rfl,hr⟩;rintro⟨q,s2⟩ ⟨⟨k,e2,hk⟩,hq⟩;simp only at e2 hq;subst e2;by_cases c1:(k:Int)<(n:Int)
  ·have w2:wr (2*(k:Int))=((2*k:Nat):Int):=by grind [jx]
   have w3:wr ((k:Int)*2)=((2*k:Nat):Int):=by grind
   simp only[c1,ju,cP,w2,w3];have key: ∃z,((bO (σ:=(List α×Int×Int)) (τ:=(List α×Int)) (λ((HY,vZ,Di):(List α×Int×Int))=>bif (decide (Di<=(n:Int)))then((Dh cmp HY vZ (wr (vZ+(k:Int))) Di).bind λr8=>bZ (r8.length=HY.length)<|some (.inl (r8,Di,(wr (Di+((2*k:Nat):Int))))))else(some (.inr (HY,vZ)))) cr (q,0,((2*k:Nat):Int))).bind λ((zY,zZ):(List α×Int))=>((bif (decide ((wr (zZ+(k:Int)))<(n:Int)))then((Dh cmp zY zZ (wr (zZ+(k:Int))) (n:Int)).bind λHP=>bZ (HP.length=zY.length)<|some HP)else(some zY)):Option (List α)).bind λ(Vi:(List α))=>some (Sum.inl (β:=List α) (Vi,((2*k:Nat):Int))))=some z/\ ∃s',z=.inl s'/\s'.2=((2*k:Nat):Int)/\s'.1.Perm l0:=by
    refine nz (λ(s:List α×Int×Int)=> ∃a:Nat,s.2.1=(a:Int)/\s.2.2=((a+2*k:Nat):Int)/\a<=n/\s.1.Perm l0) (λs=>n-s.2.1.toNat)
     (λ(r:List α×Int)=> ∃a:Nat,r.2=(a:Int)/\a<=n/\r.1.Perm l0) ⟨0,rfl,by grind,by omega,hq⟩ (by omega) ?_ ?_
    ·rintro⟨l,s1,s2⟩ ⟨a,e1,e2,ha,hp⟩;simp only at e1 e2 hp;subst e1;subst e2;have hl:=hp.length_eq;by_cases c1:((a+2*k:Nat):Int)<=(n:Int)
     ·have w4:wr ((a:Int)+(k:Int))=((a+k:Nat):Int):=by grind [jx]
      obtain⟨r,e,hr⟩:=JH hc l a (a+k) (a+2*k) (by omega) (λp h=>hg p (hp.mem_iff.1 h)) (by omega) (by omega) (by omega) rfl w4 rfl;have w:wr (((a+2*k:Nat):Int)+((2*k:Nat):Int))=((a+2*k+2*k:Nat):Int):=by grind [jx]
      simp only[c1,ju,cP,e,cN,cQ hr.length_eq,w];exact .inl ⟨_,rfl,⟨a+2*k,rfl,rfl,by omega,hr.trans hp⟩,by grind⟩
     ·simp only[c1,fZ,dv]
      grind
    ·rintro⟨l,s1⟩ ⟨a,e1,ha,hp⟩;simp only at e1 hp;subst e1;have hl:=hp.length_eq;have w4:wr ((a:Int)+(k:Int))=((a+k:Nat):Int):=by grind [jx]
     by_cases c2:((a+k:Nat):Int)<(n:Int)
     ·obtain⟨r,e,hr⟩:=JH hc l a (a+k) n (by omega) (λp h=>hg p (hp.mem_iff.1 h)) (by omega) (by omega) (by omega) rfl w4 rfl;simp only[w4,c2,ju,cP];rw[w4]at e;simp only[e,cN,cQ hr.length_eq];exact⟨_,rfl,_,rfl,rfl,hr.trans hp⟩
     ·simp only[w4,c2,fZ,dv,cN]
      grind
   grind
  grind
end
end Go.Am
set_option linter.all false
namespace Go.Proofs.YtgpciecmgoppiaaGreat
open Go Go.Am
set_option maxRecDepth 100000
theorem f336_g:f336=LB f271:=rfl
theorem f337r_g: ∀fu,f337r fu=uV f271 fu
 |0=>rfl
 |fu+1=>by
  funext a0 a1 a2 a3;unfold f337r uV;rw[f337r_g fu];rfl
theorem f337_g:f337=Dh f271:=by
 funext a0 a1 a2 a3;unfold f337 Dh;rw[f337r_g]
theorem f308_g:f308=LC f271:=by
 funext a0 a1;unfold f308 LC;rw[f337_g,f336_g]
theorem f270_ex(l:List (List aQ))(hl:l.length<=4194304)(hp: ∀p∈l,ck p): ∃r,f270 l=some r/\r.Perm l:=by
 unfold f270;rw[f308_g];obtain⟨r,h1,h2⟩:=JI (cmp:=f271) (G:=ck) (λx y hx hy=>let⟨r,e,_⟩:=f271_ex x y hx hy;⟨r,e⟩) l hl hp rfl;rw[h1];exact⟨r,rfl,h2⟩
def HZ(x y:aX):Option Int:=f169 x.bI x.bU x.bP x.dr x.bL.aW x.bL.ct x.cS y.bI y.bU y.bP y.dr y.bL.aW y.bL.ct y.cS
theorem f263_g:f263=LB HZ:=rfl
theorem f264r_g: ∀fu,f264r fu=uV HZ fu
 |0=>rfl
 |fu+1=>by
  funext a0 a1 a2 a3;unfold f264r uV;rw[f264r_g fu];rfl
theorem f264_g:f264=Dh HZ:=by
 funext a0 a1 a2 a3;unfold f264 Dh;rw[f264r_g]
theorem f215_g:f215=LC HZ:=by
 funext a0 a1;unfold f215 LC;rw[f264_g,f263_g]
theorem RF(x y:aX)(hx:x.bI≠[])(hy:y.bI≠[]): ∃r,HZ x y=some r:=by
 unfold HZ f169;obtain⟨a,l,e1⟩:=YW hx;obtain⟨b,q,e2⟩:=YW hy;rw[e1,e2];have i1:ix (a::l) 0=some a:=rfl;have i2:ix (b::q) 0=some b:=rfl;simp only[i1,i2,cN,f97_eq];exact⟨_,rfl⟩
theorem f168_ex(l:List aX)(hl:l.length<=4194304)(hm: ∀n∈l,n.bI≠[]): ∃r,f168 l=some r/\r.Perm l:=by
 unfold f168;rw[f215_g];obtain⟨r,h1,h2⟩:=JI (cmp:=HZ) (G:=λn=>n.bI≠[]) RF l hl hm rfl;rw[h1];exact⟨r,rfl,h2⟩
theorem f120_ex(d:cM)(t:Int)(hl:ck d.cZ)(hm: ∀n∈d.cZ,n.bI≠[]): ∃r,f120 d t=some r/\r.Perm (d.cZ.filter λn=>decide (t<n.dr)):=by
 have Gb:d.cZ.length<=4194304:=hl;unfold f120;refine eF (λk(s:List aX×Int)=>s.2=(k:Int)/\s.1=(d.cZ.take k).filter λn=>decide (t<n.dr)) (λr=>r=d.cZ.filter λn=>decide (t<n.dr)) d.cZ.length hl ⟨rfl,by simp⟩ ?_ ?_ ?_
 ·rintro k ⟨s1,s2⟩ hk ⟨e0,e1⟩;simp only at e0 e1;subst e0;subst e1;have x1:d.cZ[k]? =some (d.cZ[k]'hk):=dF _;have hq:=J5 (λn:aX=>decide (t<n.dr)) (d.cZ.take k);have Q0:(d.cZ.take k).length<=k:=VO ..;have m1:((d.cZ.take k).filter λn=>decide (t<n.dr)).length+1<=bc:=by unfold bc;omega
  have ht:d.cZ.take (k+1)=d.cZ.take k++[d.cZ[k]'hk]:=by rw[List.take_succ,x1];rfl
  simp only[cy x1,cP,bT x1,cN,dp hl x1,cQ m1];cases c:decide (t<(d.cZ[k]'hk).dr)
  ·exact .inl ⟨_,rfl,rfl,by rw[ht,L4];simp only[List.filter,c,wV]⟩
  ·exact .inl ⟨_,rfl,rfl,by rw[ht,L4];simp only[List.filter,c]⟩
 ·rintro⟨s1,s2⟩ ⟨e0,e1⟩;simp only at e0 e1;subst e0;subst e1;simp only[AX,fZ,dv];exact⟨_,rfl,by rw[LH]⟩
 ·rintro r rfl;have hq:=J5 (λn:aX=>decide (t<n.dr)) d.cZ;obtain⟨r,h1,h2⟩:=f168_ex (d.cZ.filter λn=>decide (t<n.dr)) (by omega) (λn hn=>hm n (xQ.1 hn).1);simp only[h1,cN,cQ h2.length_eq];exact⟨_,rfl,h2⟩
theorem f175_1_eq(l:List cC)(n:aX)(hl:ck l):f175_1 l n.bI n.bU n.bP n.dr n.bL.aW n.bL.ct n.cS=some (gX (λs:cC=>decide (s.aW=n.bL.aW)) l):=by
 unfold f175_1;rw[eg l (λs:cC=>decide (s.aW=n.bL.aW)) (λi _=>(i:Int)) hl]
 ·simp only[cN,fH,gX]
  grind
 ·intro i y hy;simp only[cy hy,cP,bT hy,cN,f176]
  grind
 ·simp
def hb(K:List aX)(e:Nat)(c:Int):Bool:=K.any λa=>decide (0<a.bL.ct)&&(decide (a.cS=(e:Int))&&decide (a.bL.aW=c))
def vg(K:List aX)(now:Int)(e:Nat)(s:cC):cC:=bif hb K e s.aW then⟨s.aW,s.ct,s.right,s.jv,now-(e:Int)⟩else s
def rQ(K:List aX)(now:Int)(e:Nat)(d:bJ):bJ:=⟨d.kJ,d.sign,d.tie,d.cR.map (vg K now e)⟩
theorem gl{K:List aX}{now:Int}{e:Nat}{s:cC}:(vg K now e s).aW=s.aW:=by unfold vg;grind
theorem uW{K:List aX}{now:Int}{e:Nat}{s:cC}:(vg K now e s).ct=s.ct:=by unfold vg;grind
theorem JJ{now:Int}{e:Nat}{d:bJ}:rQ [] now e d=d:=by
 unfold rQ;have:vg [] now e=id:=rfl;simp_all
theorem xI{K:List aX}{a:aX}{e:Nat}{c:Int}:hb (K++[a]) e c=(hb K e c||(decide (0<a.bL.ct)&&(decide (a.cS=(e:Int))&&decide (a.bL.aW=c)))):=by unfold hb;simp
theorem FL{α:Type}{p:α->Bool}: ∀{l:List α}{k:Nat}{x:α},l[k]? =some x->p x=true->(∀(j:Nat)y,l[j]? =some y->p y=true->j=k)->gX p l=(k:Int):=by
 intro l k x hx hp hu;have h1:=rO (l:=l) (p:=p) (F5.2 ⟨x,gN hx,hp⟩)
 grind
structure SU (E:List bJ) (a:aX):Prop where
 st: ∃(e:Nat)(d:bJ)(k:Nat)(s:cC),a.cS=(e:Int)/\E[e]? =some d/\d.cR[k]? =some s/\s.aW=a.bL.aW/\ck d.cR/\ ∀(j:Nat)y,d.cR[j]? =some y->y.aW=s.aW->j=k
theorem OY{E:List bJ}{K:List aX}{a:aX}{now:Int}{e:Nat}{d:bJ}{k:Nat}{s:cC}(ha:a.cS=(e:Int))(hd:E[e]? =some d)(hk:d.cR[k]? =some s)(hc:s.aW=a.bL.aW)
  (hu: ∀(j:Nat)y,d.cR[j]? =some y->y.aW=s.aW->j=k) (hf:0<a.bL.ct):
  (E.mapIdx (rQ K now)).set e ⟨d.kJ,d.sign,d.tie,(d.cR.map (vg K now e)).set k ⟨s.aW,s.ct,s.right,s.jv,now-(e:Int)⟩⟩=E.mapIdx (rQ (K++[a]) now):=by
 apply Td;intro j;by_cases hj:e=j
 ·subst hj;have hl:=(lf.1 hd).1;rw[VP (by grind),YX,hd];simp only[iJ,rQ,Option.some.injEq,bJ.mk.injEq,PZ];apply Td;intro i;by_cases hi:k=i
  ·subst hi;have HR:=(lf.1 hk).1;rw[VP (by grind),xR,hk];simp only[iJ,vg,xI,hf,ha,hc,ju,Bool.and_self,Bool.or_true,cP]
  ·rw[VQ hi,xR,xR];cases hy:d.cR[i]? with
   |none=>rfl
   |some y=>
    have:decide (a.bL.aW=y.aW)=false:=qf λh=>hi (hu i y hy (by rw[hc,h])).symm;simp only[iJ,vg,xI,this,Bool.and_false,YV]
 ·rw[VQ hj,YX,YX];cases E[j]? with
  |none=>rfl
  |some y=>
   have h1:decide (a.cS=(j:Int))=false:=qf λh=>hj (by omega);have:vg (K++[a]) now j=vg K now j:=by funext s;simp only[vg,xI,h1,Bool.false_and,Bool.and_false,YV]
   simp only[iJ,rQ,this]
def jy(dT:List aX)(cut:List Bool):List aX:=((dT.zip cut).filter λx=>!x.2).map (·.1)
def Dk(dT:List aX)(cut:List Bool):List aX:=((dT.zip cut).filter λx=>x.2).map (·.1)
def OZ(now:Int)(n:aX)(p:aQ):aX:=⟨n.bI,n.bU,n.bP,n.dr,p,bif decide (0<p.aW)then now else n.cS⟩
def uX(now:Int)(cj:List aX)(pl:List aQ):List aX:=(cj.zip pl).map λx=>OZ now x.1 x.2
def qU(p:aQ):cC:=⟨p.aW,p.ct,0,0,0⟩
theorem qV{α β:Type}{l:List α}{m:List β}{k:Nat}{a:α}{b:β}(h1:l[k]? =some a)(h2:m[k]? =some b):(l.zip m).take (k+1)=(l.zip m).take k++[(a,b)]:=cz (FG h1 h2)
theorem f177_ex(l:List cC)(hs:ck l)(hd: ∀x∈l,∀y∈l,x.aW=y.aW->x=y): ∃r,f177 l=some r/\r.Perm l/\r.Pairwise λx y=>x.aW<=y.aW:=BP cC.aW f178 f178_eq l hs hd
theorem f123_ex(d:cM)(c:bR)(cj dT:List aX)(sg:cB)(hl:c.cut.length=dT.length)(hp:c.places.length=cj.length)(hu:dT.length<=100000)(hf:cj.length<=4000)(hE:d.bE.aY.length<=4000)
  (ho: ∀a∈dT,0<a.bL.ct->SU d.bE.aY a) (hd: ∀x∈c.places,∀y∈c.places,0<x.aW->x.aW=y.aW->x=y):
  ∃u,f123 d c cj dT sg=some (u,Dk dT c.cut,uX (d.bE.aY.length:Int) cj c.places,d.bE.aY.mapIdx (rQ (jy dT c.cut) (d.bE.aY.length:Int)),
   jy dT c.cut++(uX (d.bE.aY.length:Int) cj c.places).filter λn=>decide (0<n.bL.aW))/\u.Perm ((c.places.filter λp=>decide (0<p.aW)).map qU)/\u.Pairwise λx y=>x.aW<=y.aW:=by
 have key: ∃z,f123 d c cj dT sg=some z/\ ∃u,z=(u,Dk dT c.cut,uX (d.bE.aY.length:Int) cj c.places,d.bE.aY.mapIdx (rQ (jy dT c.cut) (d.bE.aY.length:Int)),
   jy dT c.cut++(uX (d.bE.aY.length:Int) cj c.places).filter λn=>decide (0<n.bL.aW))/\u.Perm ((c.places.filter λp=>decide (0<p.aW)).map qU)/\u.Pairwise λx y=>x.aW<=y.aW:=by
  unfold f123;generalize Km:(d.bE.aY.length:Int)=now;refine eF (λk(s:List bJ×List aX×List aX×Int)=>s.2.2.2=(k:Int)/\s.2.1=(((dT.zip c.cut).take k).filter λx=>!x.2).map (·.1)/\s.2.2.1=(((dT.zip c.cut).take k).filter λx=>x.2).map (·.1)/\s.1=d.bE.aY.mapIdx (rQ s.2.1 now))
   (λr=>r=(d.bE.aY.mapIdx (rQ (jy dT c.cut) now),jy dT c.cut,Dk dT c.cut)) dT.length (by omega) ?_ ?_ ?_ ?_
  ·refine⟨rfl,by simp,by simp,?_⟩;show _=List.mapIdx (rQ [] now) _;have:rQ [] now=λ_ d=>d:=by grind [JJ]
   rw[this];apply Td
   grind
  ·rintro k ⟨s1,s2,s3,s4⟩ hk ⟨e0,e1,e2,e3⟩;simp only at e0 e1 e2 e3;subst e0;have x1:dT[k]? =some (dT[k]'hk):=dF _;have x2:c.cut[k]? =some (c.cut[k]'(by omega)):=dF _;have ha:=gN x1;generalize dT[k]'hk=a at x1 ha;generalize c.cut[k]'(by omega)=b at x2;have b2:s2.length<=k:=by grind
   have b3:s3.length<=k:=by grind
   have m2:s2.length+1<=bc:=by unfold bc;omega
   have m3:s3.length+1<=bc:=by unfold bc;omega
   simp only[cy x1,cP,bT x1,bT x2,cN,dp (l:=dT) (by grind) x1];cases b
   ·simp only[dv,cQ m2];by_cases sM:0<a.bL.ct
    ·obtain⟨e,dd,q,st,q1,q2,q3,q4,q5,q6⟩:=ho a ha sM;have jR:=(lf.1 q2).1;have y1:s1[e]? =some (rQ s2 now e dd):=by grind
     have y2:(rQ s2 now e dd).cR[q]? =some (vg s2 now e st):=by show(dd.cR.map _)[q]? =_;grind
     have n1:e<cO:=by unfold cO;omega
     have y3:f175_1 (rQ s2 now e dd).cR a.bI a.bU a.bP a.dr a.bL.aW a.bL.ct (e:Int)=some (q:Int):=by
      rw[<-q1,f175_1_eq _ a (by show(dd.cR.map _).length<=_;grind)];congr 1;refine FL y2 (by simp[gl,q4]) λj y hy hc=>?_;have hy:(dd.cR.map (vg s2 now e))[j]? =some y:=hy
      grind [gl]
     have w1:wr (now-(e:Int))=now-(e:Int):=jx (by omega) (by omega);have ja:=OY (K:=s2) (now:=now) q1 q2 q3 q4 q6 sM;simp only[sM,ju,cP,q1,bT y1,cN,cQ n1,y3,bT y2,w1,wb,gl];refine .inl ⟨_,rfl,rfl,?_,?_,?_⟩
     ·simp_all[qV]
     ·simp_all[qV]
     ·show s1.set e _=List.mapIdx (rQ (s2++[a]) now) _;rw[<-ja,e3];congr 2;simp only[vg];cases hb s2 e st.aW<;>rfl
    ·simp only[sM,fZ,dv,cN];refine .inl ⟨_,rfl,rfl,?_,?_,?_⟩
     ·simp_all[qV]
     ·simp_all[qV]
     ·show s1=List.mapIdx (rQ (s2++[a]) now) _;have:rQ (s2++[a]) now=rQ s2 now:=by
       funext e dd;have:vg (s2++[a]) now e=vg s2 now e:=by funext s;simp only[vg,xI,sM,fZ,Bool.false_and,YV]
       simp only[rQ,this]
      grind
   simp_all[cQ,qV]
  ·rintro⟨s1,s2,s3,s4⟩ ⟨e0,e1,e2,e3⟩;simp only at e0 e1 e2 e3;subst e0;have ht:(dT.zip c.cut).take dT.length=dT.zip c.cut:=sq (by simp;omega);rw[ht]at e1 e2;simp only[AX,fZ,dv];refine⟨_,rfl,?_⟩;show(s1,s2,s3)=_;rw[e3,e1,e2];rfl
  rintro _ rfl;simp only;refine eF (λk(s:List aX×List cC×List aX×List aX×Int)=>s.2.2.2.2=(k:Int)/\s.2.2.2.1=cj.drop k/\s.2.2.1=(uX now cj c.places).take k/\s.1=jy dT c.cut++((uX now cj c.places).take k).filter (λn=>decide (0<n.bL.aW))/\
   s.2.1=((c.places.take k).filter λp=>decide (0<p.aW)).map qU)
   (λr=>r=(((c.places.filter λp=>decide (0<p.aW)).map qU),uX now cj c.places,([]:List aX),jy dT c.cut++(uX now cj c.places).filter (λn=>decide (0<n.bL.aW)))) cj.length (by omega) ⟨rfl,rfl,by simp,by simp,by simp⟩ ?_ ?_ ?_
  ·rintro k ⟨s1,s2,s3,s4,s5⟩ hk ⟨e0,e1,e2,e3,e4⟩;simp only at e0 e1 e2 e3 e4;subst e0;have x1:cj[k]? =some (cj[k]'hk):=dF _;have x2:c.places[k]? =some (c.places[k]'(by omega)):=dF _;generalize cj[k]'hk=b at x1;generalize c.places[k]'(by omega)=e at x2;have wm:(uX now cj c.places).length=cj.length:=by simp[uX,hp]
   have x3:(uX now cj c.places)[k]? =some (OZ now b e):=by unfold uX;grind
   have i0:ix s4 0=some b:=by
    grind [bT]
   have b3:s3.length=k:=by grind
   have ZG:(jy dT c.cut).length<=dT.length:=by unfold jy;grind
   have b1:s1.length<=dT.length+k:=by
    grind
   have b2:s2.length<=k:=by grind
   have n1:s3.length<cO:=by unfold cO;omega
   have n2:(0:Int)<=(k:Int)/\(k:Int)<(cj.length:Int):=by omega
   have n3:((k:Int)).toNat=s3.length/\((k:Int)).toNat<=cO:=by grind
   have n4:s1.length+1<=bc:=by unfold bc;omega
   have n5:s2.length+1<=bc:=by unfold bc;omega
   have PB:s4.drop 1=cj.drop (k+1):=by simp_all
   have c1:decide ((k:Int)<(cj.length:Int))=true:=cy x1;simp only[c1,cP,i0,cN,cQ n1,cQ n2,cQ n3,bT x2,dp (l:=cj) (by grind) x1];cases hc:decide (0<e.aW)
   ·refine .inl ⟨_,rfl,rfl,PB,?_,?_,?_⟩
    ·show s3++[_]=_;rw[cz x3,e2];simp only[OZ,hc,dv]
    ·show s1=_;rw[cz x3,L4,e3];have:decide (0<(OZ now b e).bL.aW)=false:=hc
     grind
    simp_all[cz]
   ·simp only[cP,cQ n4,cQ n5];refine .inl ⟨_,rfl,rfl,PB,?_,?_,?_⟩
    ·show s3++[_]=_;rw[cz x3,e2];simp only[OZ,hc,cP]
    ·show s1++[_]=_;rw[cz x3,L4,e3];have:decide (0<(OZ now b e).bL.aW)=true:=hc;simp[List.filter,this];simp only[OZ,hc,cP]
    ·show s2++[_]=_;rw[cz x2,L4,e4];simp[List.filter,hc,qU]
  ·rintro⟨s1,s2,s3,s4,s5⟩ ⟨e0,e1,e2,e3,e4⟩;simp only at e0 e1 e2 e3 e4;subst e0;have wm:(uX now cj c.places).length=cj.length:=by simp[uX,hp]
   grind
  rintro _ rfl;have XX:=J5 (λp:aQ=>decide (0<p.aW)) c.places;obtain⟨u,u1,u2,u3⟩:=f177_ex ((c.places.filter λp:aQ=>decide (0<p.aW)).map qU) (by grind) λx hx y hy PH=>by
   obtain⟨p,U5,rfl⟩:=mS.1 hx;obtain⟨q,Sx,rfl⟩:=mS.1 hy;have h1:=xQ.1 U5;have h2:=xQ.1 Sx;rw[hd p h1.1 q h2.1 (by grind) PH]
  simp only[u1,cN,cQ u2.length_eq,cQ rfl];exact⟨_,rfl,u,rfl,u2,u3⟩
 grind
def xJ(d:bJ):Bool:=d.cR.isEmpty&&!d.tie
def vh(d:bJ)(c:Int):Bool:=d.cR.any λs=>decide (s.aW=c)
def jz(E:List bJ)(k:Nat):Nat:=((E.take k).map λd=>tk d.sign).sum
def vk(K:List aX)(F E:List bJ):List bJ:=E.mapIdx (rQ K (E.length:Int))++F
def fR(E:List bJ)(e:Nat)(s:cC):Prop:= ∃d,E[e]? =some d/\s∈d.cR
section
variable {K:List aX} {F E:List bJ} {e j c:Nat} {p:aQ} {s:cC} {d:bJ} {now:Int}
theorem JK:xJ (rQ K now e d)=xJ d:=by simp[xJ,rQ]
theorem FM{x:Int}:vh (rQ K now e d) x=vh d x:=by simp only[vh,rQ,List.any_map,Function.comp_def,gl]
theorem td:(vk K F E).length=E.length+F.length:=by simp[vk]
theorem O0(h:j<E.length):(vk K F E)[j]? =(E[j]?).map (rQ K (E.length:Int) j):=by unfold vk;grind
theorem FN(h:E.length<=j):(vk K F E)[j]? =F[j-E.length]?:=by unfold vk;grind
theorem qW(h:(vk K F E)[j]? =some d):(∃d0,j<E.length/\E[j]? =some d0/\d=rQ K (E.length:Int) j d0)\/(E.length<=j/\F[j-E.length]? =some d):=by
 grind [O0,FN]
theorem SV:(E.mapIdx (rQ K now)).map (λd=>tk d.sign)=E.map λd=>tk d.sign:=by
 apply Td;intro i;rw[xR,YX,xR];cases E[i]?<;>rfl
theorem JL(k:Nat):jz E k=((E.map λd=>tk d.sign).take k).sum:=by unfold jz;simp_all
theorem SX(h:c<=E.length):jz (vk K F E) c=jz E c:=by
 rw[JL,JL];unfold vk
 grind [SV]
theorem H2:jz (vk K F E) (vk K F E).length=jz E E.length+(F.map λd=>tk d.sign).sum:=by
 rw[JL,JL,sq (by simp),sq (by simp)];unfold vk;rw[F4,SV,List.sum_append]
theorem nL(h:fR (vk K F E) e s):(∃s0,fR E e s0/\e<E.length/\s=vg K (E.length:Int) e s0)\/(E.length<=e/\ ∃d,F[e-E.length]? =some d/\s∈d.cR):=by
 obtain⟨d,h1,h2⟩:=h;rcases qW h1 with⟨d0,q1,q2,rfl⟩|⟨q1,q2⟩
 ·obtain⟨s0,h3,rfl⟩:=mS.1 h2;exact .inl ⟨s0,⟨d0,q2,h3⟩,q1,rfl⟩
 grind
theorem fR.lt(h:fR E e s):e<E.length:=by obtain⟨d,h1,_⟩:=h;grind
theorem fR.nx(h:fR E e s):fR (vk K F E) e (vg K (E.length:Int) e s):=by
 have hl:=h.lt;obtain⟨d,h1,h2⟩:=h;exact⟨_,by rw[O0 hl,h1];rfl,mS.2 ⟨s,h2,rfl⟩⟩
theorem H3{x:Int}(h:hb K e x=true): ∃a∈K,0<a.bL.ct/\a.cS=(e:Int)/\a.bL.aW=x:=by
 obtain⟨a,h1,h2⟩:=F5.1 h
 grind
structure Rg (E:List bJ) (e:Nat) (p:aQ) (c:Nat):Prop where
 lt:e<c
 le:c<=E.length
 st: ∃s,fR E e s/\s.aW=p.aW/\s.ct=p.ct
 ho: ∀s,fR E e s->s.aW=p.aW->0<p.ct-> ∀(j:Nat)d,(e:Int)+s.hold<(j:Int)->j<c->E[j]? =some d->d.tie=true
 on: ∀(j:Nat)d,e<j->j<c->E[j]? =some d->xJ d=false/\vh d p.aW=false
structure Nd (E:List bJ) (e:Nat) (p:aQ) (c:Nat):Prop where
 rg:Rg E e p c
 en: ∃d,E[c]? =some d/\(0<p.ct->d.tie=false/\ ∀s,fR E e s->s.aW=p.aW->(e:Int)+s.hold<(c:Int))/\(¬0<p.ct->vh d p.aW=true)
theorem Vj(h: ∀(j:Nat)d,e<j->j<c->E[j]? =some d->xJ d=false/\vh d p.aW=false)(hc:c<=E.length): ∀(j:Nat)d,e<j->j<c->(vk K F E)[j]? =some d->xJ d=false/\vh d p.aW=false:=λj d h1 h2 hd=>by
 rcases qW hd with⟨d0,q1,q2,rfl⟩|⟨q1,q2⟩
 all_goals grind [JK,FM]
theorem Rg.keep(h:Rg E e p c):Rg (vk K F E) e p c:=by
 have h1:=h.lt;have h2:=h.le;obtain⟨s,h3,h4,h5⟩:=h.st;refine⟨h1,by rw[td];omega,⟨_,h3.nx,by rw[gl];exact h4,by rw[uW];exact h5⟩,λs' hs hc hf j d hj hjc hd=>?_,Vj h.on h2⟩;rcases nL hs with⟨s0,q1,q2,rfl⟩|⟨q1,_⟩
 ·rw[gl]at hc;rcases qW hd with⟨d0,r1,r2,rfl⟩|⟨r1,_⟩
  ·refine h.ho s0 q1 hc hf j d0 ?_ hjc r2;unfold vg at hj
   grind
  ·omega
 ·omega
theorem Nd.keep(h:Nd E e p c)(hK: ∀a∈K,0<a.bL.ct-> ∀e:Nat,a.cS=(e:Int)->Rg E e a.bL E.length):Nd (vk K F E) e p c:=by
 refine⟨h.rg.keep,?_⟩;obtain⟨d,h1,h2,h3⟩:=h.en;have hl:=(lf.1 h1).1;refine⟨rQ K (E.length:Int) c d,by grind [O0],λhf=>⟨(h2 hf).1,λs hs hc=>?_⟩,λhf=>by grind [FM]⟩;rcases nL hs with⟨s0,q1,q2,rfl⟩|⟨q1,_⟩
 ·rw[gl]at hc;have h4:=(h2 hf).2 s0 q1 hc;unfold vg;cases hq:hb K e s0.aW
  ·exact h4
  ·obtain⟨a,a1,a2,a3,a4⟩:=H3 hq;have:=(hK a a1 a2 e a3).ho s0 q1 a4.symm a2 c d h4 hl h1
   grind
 ·have:=h.rg.lt;omega
theorem Rg.cZ(h:Rg E e p E.length)(hF: ∀d∈F,xJ d=false/\vh d p.aW=false)(ht:0<p.ct->(∀d∈F,d.tie=true)\/(hb K e p.aW=true/\ ∀(j:Nat)d,0<j->F[j]? =some d->d.tie=true)):Rg (vk K F E) e p (vk K F E).length:=by
 have h1:=h.lt;obtain⟨s,h3,h4,h5⟩:=h.st;refine⟨by rw[td];omega,fw _,⟨_,h3.nx,by rw[gl];exact h4,by rw[uW];exact h5⟩,λs' hs hc hf j d hj _ hd=>?_,λj d hj _ hd=>?_⟩
 ·rcases nL hs with⟨s0,q1,q2,rfl⟩|⟨q1,_⟩
  ·rw[gl]at hc;rcases qW hd with⟨d0,r1,r2,rfl⟩|⟨r1,r2⟩
   ·refine h.ho s0 q1 hc hf j d0 ?_ r1 r2;unfold vg at hj
    grind
   ·rcases ht hf with ht|⟨t1,t2⟩
    ·grind
    ·unfold vg at hj
     grind
  ·omega
 ·rcases qW hd with⟨d0,q1,q2,rfl⟩|⟨q1,q2⟩
  ·rw[JK,FM];exact h.on j d0 hj q1 q2
  grind
theorem Rg.new{d0:bJ}{s0:cC}(h0:F[0]? =some d0)(hs:s0∈d0.cR)(hc:s0.aW=p.aW)(hf:s0.ct=p.ct)(ht: ∀(j:Nat)d,0<j->F[j]? =some d->d.tie=true/\d.cR=[])(hh: ∀s∈d0.cR,s.hold=0):
  Rg (vk K F E) E.length p (vk K F E).length:=by
 have hl:=(lf.1 h0).1;refine⟨by rw[td];omega,fw _,⟨s0,⟨d0,by rw[FN (fw _),RX];exact h0,hs⟩,hc,hf⟩,λs hs _ _ j d hj _ hd=>?_,λj d hj _ hd=>?_⟩
 ·rcases nL hs with⟨s1,q1,q2,rfl⟩|⟨_,d1,q2,q3⟩
  ·omega
  ·rw[RX,h0]at q2;grind [FN]
 ·rw[FN (by omega)]at hd;obtain⟨t1,t2⟩:=ht _ d (by omega) hd;exact⟨by simp[xJ,t1],by simp[vh,t2]⟩
theorem Nd.new{d0:bJ}(h:Rg E e p E.length)(hh: ∀s,fR E e s->(e:Int)+s.hold<(E.length:Int))(hK:0<p.ct->hb K e p.aW=false)(h0:F[0]? =some d0)(ht:d0.tie=false)(hp: ¬0<p.ct->vh d0 p.aW=true):Nd (vk K F E) e p E.length:=by
 refine⟨h.keep,d0,by rw[FN (fw _),RX];exact h0,λhf=>⟨ht,λs hs hc=>?_⟩,hp⟩;rcases nL hs with⟨s0,q1,q2,rfl⟩|⟨q1,_⟩
 ·rw[gl]at hc;unfold vg
  grind
 ·have:=h.lt;omega
theorem Rg.nd(h:Rg E e p E.length)(hn:Nd E e p c):False:=by
 obtain⟨d,h1,h2,h3⟩:=hn.en;have hl:=(lf.1 h1).1;by_cases hf:0<p.ct
 ·obtain⟨s,s1,s2,s3⟩:=h.st;obtain⟨t1,t2⟩:=h2 hf;rw[h.ho s s1 s2 hf c d (t2 s s1 s2) hl h1]at t1;cases t1
 ·have:=(h.on c d hn.rg.lt hl h1).2
  grind
structure aa4 (a:bp) (E:List bJ) (e:Nat) (s:cC):Prop where
 rg:s.right=0/\s.jv=0
 pl: ∃q,(⟨s.aW,s.ct⟩:aQ)∈(eN a q).1
 h0:0<=s.hold
 hl:0<s.hold->0<s.ct/\s.hold<=15/\(e:Int)+s.hold<(E.length:Int)
 on: ∀(j:Nat)d,e<j->(j:Int)<=(e:Int)+s.hold->E[j]? =some d->xJ d=false/\vh d s.aW=false
structure Ev1 (n:Nat) (d:bJ):Prop where
 kJ:d.kJ=false
 sg:d.sign∈gF
 tie:d.tie=true->d.cR=[]/\n≠0
 qM:d.cR.Pairwise λx y=>x.aW<y.aW
structure kH (a:bp) (E:List bJ):Prop where
 ev: ∀(e:Nat)d,E[e]? =some d->Ev1 e d
 st: ∀(e:Nat)s,fR E e s->aa4 a E e s
theorem kH.hold{a:bp}(h:kH a E)(hs:fR E e s):(e:Int)+s.hold<(E.length:Int):=by
 have h1:=h.st e s hs;have h2:=hs.lt;have h0:=h1.h0;by_cases hq:0<s.hold
 ·exact(h1.hl hq).2.2
 ·omega
theorem kH.one{a:bp}(h:kH a E){s s':cC}(h1:fR E e s)(h2:fR E e s')(hc:s.aW=s'.aW):s=s':=by
 obtain⟨d,d1,d2⟩:=h1;obtain⟨d',d3,d4⟩:=h2;rw[d1]at d3;cases d3;have hp:=(h.ev e d d1).qM
 grind [List.getElem_of_mem,List.pairwise_iff_getElem]
theorem kH.nx{a:bp}(h:kH a E)(hK: ∀x∈K,0<x.bL.ct-> ∀e:Nat,x.cS=(e:Int)->Rg E e x.bL E.length/\(E.length:Int)-e<=15)
  (hF: ∀(j:Nat)d,F[j]? =some d->Ev1 (E.length+j) d/\ ∀s∈d.cR,s.right=0/\s.jv=0/\s.hold=0/\ ∃q,(⟨s.aW,s.ct⟩:aQ)∈(eN a q).1)
  (h0:F≠[]) (hK': ∀x∈K,∀d,F[0]? =some d->xJ d=false/\vh d x.bL.aW=false):kH a (vk K F E):=by
 have hFl:=PX.2 h0;refine⟨λe d hd=>?_,λe s hs=>?_⟩
 ·rcases qW hd with⟨d0,q1,q2,rfl⟩|⟨q1,q2⟩
  ·have:=h.ev e d0 q2;refine⟨this.kJ,this.sg,λht=>?_,?_⟩
   ·have:=this.tie ht;exact⟨by simp[rQ,this.1],this.2⟩
   ·show(d0.cR.map _).Pairwise _;rw[L3];simp only[gl];exact this.qM
  grind
 ·rcases nL hs with⟨s0,q1,q2,rfl⟩|⟨q1,d,q2,q3⟩
  ·have LD:=h.st e s0 q1;unfold vg;cases hq:hb K e s0.aW
   ·refine⟨LD.rg,LD.pl,LD.h0,λhp=>?_,λj d hj Vk hd=>?_⟩
    ·have:=LD.hl hp
     grind [td]
    ·have Vk:(j:Int)<=(e:Int)+s0.hold:=Vk;have:=h.hold q1;rcases qW hd with⟨d0,r1,r2,rfl⟩|⟨r1,r2⟩
     ·rw[JK,FM];exact LD.on j d0 hj Vk r2
     ·omega
   ·obtain⟨x,x1,x2,x3,x4⟩:=H3 hq;obtain⟨r1,r2⟩:=hK x x1 x2 e x3;obtain⟨s1,s2,s3,s4⟩:=r1.st;have hss:=h.one q1 s2 (by rw[s3,x4]);refine⟨LD.rg,LD.pl,by grind,λhp=>⟨?_,r2,?_⟩,λj d hj Vk hd=>?_⟩
    ·grind
    ·rw[td];grind
    ·have Vk:(j:Int)<=(e:Int)+((E.length:Int)-e):=Vk;show xJ d=false/\vh d s0.aW=false;rcases qW hd with⟨d0,y1,y2,rfl⟩|⟨y1,y2⟩
     ·rw[JK,FM,<-x4];exact r1.on j d0 hj y1 y2
     grind
  ·obtain⟨f1,f2,f3,f4⟩:=(hF _ d q2).2 s q3;refine⟨⟨f1,f2⟩,f4,by omega,λhp=>by omega,λj d hj Vk _=>by omega⟩
end
theorem Dl{E:List bJ}{e:Nat}{d:bJ}(h:E[e]? =some d):jz E (e+1)=jz E e+tk d.sign:=by
 unfold jz;rw[cz h];simp
theorem uY{a:bp}{E:List bJ}(h:kH a E): ∀{k e:Nat},e<k->k<=E.length->jz E e<jz E k
 |0,e,h1,_=>by omega
 |k+1,e,h1,h2=>by
  have e1:E[k]? =some (E[k]'(by omega)):=dF _;have h3:=Dl e1;have h4:=(kY _ (h.ev k _ e1).sg).2.1;rcases J4 e k with q|q
  ·have:=uY h q (by omega);omega
  grind
theorem O1{a:bp}{E:List bJ}(h:kH a E){e k:Nat}(h1:e<=E.length)(h2:k<=E.length)(he:jz E e=jz E k):e=k:=by
 rcases Wx e k with q|q|q
 ·have:=uY h q h2;omega
 ·exact q
 ·have:=uY h q h1;omega
def ey(P:List (List bH))(i k:Nat):Option bH:=P[i]?.bind λp=>p[k]?
structure AU (P:List (List bH)) (t:Int) (i k:Nat) (n:aX):Prop where
 pl:n.bL=⟨0,0⟩
 ne:n.bI≠[]
 me: ∀m∈n.bI,∃(i' k':Nat)(x:bH),m=⟨(i':Int),(k':Int)⟩/\(i'<i\/i'=i/\k'<k)/\ey P i' k'=some x/\x.bP=t/\x.bU=n.bU/\x.dr<=n.dr
 qM:n.bI.Pairwise λa b=>a.part<b.part
structure Dm (P:List (List bH)) (t:Int) (i k:Nat) (l:List aX):Prop where
 no: ∀n∈l,AU P t i k n
 al: ∀(i' k':Nat)x,(i'<i\/i'=i/\k'<k)->ey P i' k'=some x->x.bP=t-> ∃n∈l,(⟨(i':Int),(k':Int)⟩:bX)∈n.bI
 pi:(l.map aX.bU).Nodup
 le:l.length<=i\/l.length<=i+1/\ ∃(k':Nat)(x:bH),k'<k/\ey P i k'=some x/\x.bP=t
def H4(P:List (List bH)):Prop:= ∀(i k k':Nat)x x',ey P i k=some x->ey P i k'=some x'->x.bP=x'.bP->k=k'
theorem H6{α:Type}{l:List α}{j:Nat}{n n' x:α}(h:l[j]? =some n)(hx:x∈l):x=n\/x∈l.set j n':=by
 obtain⟨i,hi,rfl⟩:=qZ hx;by_cases sL:j=i
 ·subst sL;rw[dF hi]at h;exact .inl (Option.some.inj h)
 ·refine .inr (List.mem_iff_getElem?.2 ⟨i,?_⟩);rw[VQ sL,dF hi]
theorem uZ{α β:Type}{f:α->β}{l:List α}{j:Nat}{n n':α}(h:l[j]? =some n)(hf:f n'=f n):(l.set j n').map f=l.map f:=by
 apply Td;intro i;rw[xR,xR];by_cases sL:j=i
 ·subst sL;rw[VP (lf.1 h).1,h];simp[hf]
 ·rw[VQ sL]
theorem xK{a b:Int}:a<=jZ a b/\b<=jZ a b:=by unfold jZ;split<;>omega
section
variable {P:List (List bH)} {t:Int} {i k:Nat} {l:List aX} {n:aX} {x:bH}
theorem AU.mono{i' k':Nat}(h:AU P t i k n)(hm:i<i'\/i=i'/\k<=k'):AU P t i' k' n:=⟨h.pl,h.ne,λm q=>by
 obtain⟨a,b,x,e1,e2,e3⟩:=h.me m q;exact⟨a,b,x,e1,by omega,e3⟩,h.qM⟩
theorem AU.add(h:AU P t i k n)(hx:ey P i k=some x)(ht:x.bP=t)(hp:n.bU=x.bU)(h1:H4 P):AU P t i (k+1) (s9 (i:Int) (k:Int) x n):=by
 refine⟨h.pl,by simp[s9],λm hm=>?_,?_⟩
 ·rcases oq.1 hm with hm|hm
  ·obtain⟨a,b,y,e1,e2,e3,e4,e5,e6⟩:=h.me m hm;exact⟨a,b,y,e1,by omega,e3,e4,e5,by have:=(xK (a:=n.dr) (b:=x.dr)).1;show y.dr<=jZ n.dr x.dr;omega⟩
  ·simp at hm;subst hm;exact⟨i,k,x,rfl,.inr ⟨rfl,Wn k⟩,hx,ht,hp.symm,xK.2⟩
 ·show(n.bI++[_]).Pairwise _;rw[Wu];refine⟨h.qM,by simp,λm hm m' ve=>?_⟩;simp at ve;subst ve;obtain⟨a,b,y,e1,e2,e3,e4,_⟩:=h.me m hm;subst e1;show(a:Int)<(i:Int);rcases e2 with e2|⟨rfl,e2⟩
  ·omega
  ·have:=h1 a b k y x e3 hx (by rw[e4,ht]);omega
theorem O4(h:Dm P t i k l)(h1:H4 P)(hx:ey P i k=some x):Dm P t i (k+1) (FI t (i:Int) (k:Int) l x):=by
 have tq: ∀n∈l,AU P t i (k+1) n:=λn hn=>(h.no n hn).mono (.inr ⟨rfl,by omega⟩);unfold FI;by_cases ht:x.bP=t
 ·rw[ez ht];have eR:l.length<=i:=by
   rcases h.le with q|⟨_,k',y,q1,q2,q3⟩
   ·exact q
   ·have:=h1 i k' k y x q2 hx (by rw[q3,ht]);omega
  have GI: ∀(m:Nat),m<=l.length+1->m<=i\/m<=i+1/\ ∃(k':Nat)(x:bH),k'<k+1/\ey P i k'=some x/\x.bP=t:=λm hm=>.inr ⟨by omega,k,x,by omega,hx,ht⟩;cases hq:l.findIdx? (sC x)with
  |some j=>
   obtain⟨hj,hp,_⟩:=zEA.1 hq;have e1:l[j]? =some l[j]:=dF hj;generalize l[j]=n at e1 hp;have hn:=gN e1;have hp:n.bU=x.bU:=by simpa[sC]using hp
   simp only[e1];refine⟨λm hm=>?_,λa b y Lc hy SY=>?_,?_,GI _ (by simp)⟩
   ·rcases Z9 hm with hm|rfl
    ·exact tq m hm
    ·exact(h.no n hn).add hx ht hp h1
   ·by_cases hc:a=i/\b=k
    ·obtain⟨rfl,rfl⟩:=hc;exact⟨_,List.mem_set hj _,by simp[s9]⟩
    ·obtain⟨m,m1,m2⟩:=h.al a b y (by omega) hy SY;rcases H6 (n':=s9 (i:Int) (k:Int) x n) e1 m1 with rfl|m1
     ·exact⟨_,List.mem_set hj _,by simp[s9,m2]⟩
     ·exact⟨m,m1,m2⟩
   ·rw[uZ (n':=s9 (i:Int) (k:Int) x n) e1 rfl];exact h.pi
  |none=>
   have ym:=List.findIdx?_eq_none_iff.1 hq;refine⟨λm hm=>?_,λa b y Lc hy SY=>?_,?_,GI _ (by simp)⟩
   ·rcases oq.1 hm with hm|hm
    ·exact tq m hm
    ·simp at hm;subst hm;refine⟨rfl,by simp[s9],λm hm=>?_,by simp[s9]⟩;simp[s9]at hm;subst hm;exact⟨i,k,x,rfl,.inr ⟨rfl,Wn k⟩,hx,ht,rfl,xK.2⟩
   ·by_cases hc:a=i/\b=k
    ·obtain⟨rfl,rfl⟩:=hc;exact⟨_,Gh _ (Tb.2 rfl),by simp[s9]⟩
    ·obtain⟨m,m1,m2⟩:=h.al a b y (by omega) hy SY;exact⟨m,Ig _ m1,m2⟩
   ·rw[F4,List.nodup_append];refine⟨h.pi,by simp,λa ha b hb=>?_⟩;simp[s9]at hb;obtain⟨m,m1,rfl⟩:=mS.1 ha;have:=ym m m1;simp[sC]at this;rw[hb];exact this
 ·rw[fN ht];refine⟨tq,λa b y Lc hy SY=>?_,h.pi,?_⟩
  ·by_cases hc:a=i/\b=k
   ·obtain⟨rfl,rfl⟩:=hc;rw[hx]at hy;cases hy;exact absurd SY ht
   ·exact h.al a b y (by omega) hy SY
  ·rcases h.le with q|⟨q,k',y,q1,q2⟩
   ·exact .inl q
   ·exact .inr ⟨q,k',y,by omega,q2⟩
theorem z7(h1:H4 P): ∀(r:List bH)(k:Nat)(l:List aX),Dm P t i k l->(∀j:Nat,r[j]? =ey P i (k+j))->Dm P t i (k+r.length) (og t (i:Int) k r l)
 | [],k,l,h,_=>h
 |x::r,k,l,h,hr=>by
  have:=z7 h1 r (k+1) _ (O4 h h1 (x:=x) (by have:=hr 0;simpa using this.symm)) λj=>by have:=hr (j+1);rw[show k+1+j=k+(j+1)by omega,<-this];simp
  rw[vl,show k+(r.length+1)=k+1+r.length by omega];exact this
theorem z8(h1:H4 P): ∀(r:List (List bH))(i:Nat)(l:List aX),Dm P t i 0 l->(∀j:Nat,r[j]? =P[i+j]?)->Dm P t (i+r.length) 0 (qT t i r l)
 | [],i,l,h,_=>h
 |p::r,i,l,h,hr=>by
  have hp:P[i]? =some p:=by have:=hr 0;simpa using this.symm
  have h2:=z7 h1 p 0 l h λj=>by simp[ey,hp]
  have h3:Dm P t (i+1) 0 (og t (i:Int) 0 p l):=by
   refine⟨λn hn=>(h2.no n hn).mono (.inl (by omega)),λa b y Lc hy SY=>h2.al a b y ?_ hy SY,h2.pi,?_⟩
   ·rcases J4 a i with q|q
    ·exact .inl q
    ·have:a=i:=by omega
     subst this;simp only[ey,hp,cN]at hy;have:=(lf.1 hy).1;exact .inr ⟨rfl,by omega⟩
   ·rcases h2.le with q|⟨q,_⟩
    ·exact .inl (by omega)
    ·exact .inl q
  have:=z8 h1 r (i+1) _ h3 λj=>by have:=hr (j+1);rw[show i+1+j=i+(j+1)by omega,<-this];simp
  rw[vl,show i+(r.length+1)=i+1+r.length by omega];exact this
end
theorem O5{P:List (List bH)}(t:Int)(h1:H4 P):Dm P t P.length 0 (qT t 0 P []):=by
 have:=z8 (P:=P) (t:=t) h1 P 0 [] ⟨by simp,λa b y Lc=>by omega,by simp,.inl (by simp)⟩ λj=>by simp
 simpa using this
theorem xL{n:Int}: ∀{l:List Int}{lo:Int},l.Pairwise (· < ·)->(∀x∈l,lo<=x/\x<n)->lo<=n->(l.length:Int)<=n-lo
 | [],lo,_,_,h=>by simp;omega
 |x::r,lo,hp,hx,h=>by
  rw[Dt]at hp;have Tn:=hx x (by simp);have:=xL (n:=n) (lo:=x+1) hp.2 (λy hy=>by have:=hp.1 y hy;have:=hx y (by simp[hy]);omega) (by omega);simp only[vl];omega
theorem AU.len{P:List (List bH)}{t:Int}{n:aX}(h:AU P t P.length 0 n):n.bI.length<=P.length:=by
 have:=xL (n:=(P.length:Int)) (l:=n.bI.map bX.part) (lo:=0) (by rw[L3];exact h.qM) (λx hx=>by
  obtain⟨m,hm,rfl⟩:=mS.1 hx;obtain⟨a,b,y,rfl,e2,_⟩:=h.me m hm;show 0<=(a:Int)/\(a:Int)<_;omega) (by omega)
 simp at this;omega
theorem RG{P:List (List bH)}(h: ∀p∈P,Lm 0 p=true):H4 P:=λi k k' x x' h1 h2 he=>by
 unfold ey at h1 h2;cases hp:P[i]? with
 |none=>rw[hp]at h1;simp at h1
 |some p=>
  rw[hp]at h1 h2;simp only[cN]at h1 h2;obtain⟨q1,q2⟩:=Df p 0 (h p (gN hp));rcases Wx k k' with c|c|c
  ·have:=q2 k k' x x' c h1 h2;have:=q1 k x h1;omega
  ·exact c
  ·have:=q2 k' k x' x c h2 h1;have:=q1 k' x' h2;omega
theorem kG{α β:Type}{f:α->List β}{b:Nat}: ∀{l:List α},(∀x∈l,(f x).length<=b)->(l.flatMap f).length<=l.length*b
 | [],_=>by simp
 |x::l,h=>by
  have h1:=h x (by simp);have h2:=kG (l:=l) λy hy=>h y (by simp[hy]);simp only[F1,re,vl,F3,Nat.one_mul];omega
theorem u0(a:bp)(s:Int): ∀(ns:List aX)(bs:List Bool)(pre:List aQ),(ways a s ns bs pre).length<=14^ns.length
 |n::ns,b::bs,pre=>by
  unfold ways;have hp:14^(n::ns).length=14*14^ns.length:=by grind
  rw[hp];cases b
  ·cases decide ((eN a (wr (n.bU+s))).2≠0)
   ·have h1:=kG (l:=(eN a (wr (n.bU+s))).1.filter λp=>!(pre.any (mP p.aW))) (f:=λp=>ways a s ns bs (pre++[p])) (b:=14^ns.length) λp _=>u0 a s ns bs _;have h2:=J5 (λp:aQ=>!(pre.any (mP p.aW))) (eN a (wr (n.bU+s))).1;have h3:=HU a (wr (n.bU+s));have h4:=DA (14^ns.length) (AW h2 h3)
    grind
   ·simp
  ·simp only[cP];have:=u0 a s ns bs (pre++[⟨0,0⟩]);omega
 | [],_,pre=>by simp[ways]
 |_::ns,[],pre=>by
  have:0<14^(ns.length+1):=Nat.pow_pos (by omega);simp[ways];omega
def PlO(a:bp)(s:Int)(n:aX)(b:Bool)(p:aQ):Prop:=(b=true/\p=⟨0,0⟩)\/(b=false/\p∈(eN a (wr (n.bU+s))).1)
theorem Dn(a:bp)(s:Int): ∀(ns:List aX)(bs:List Bool)(pre pl:List aQ),bs.length=ns.length->pl∈ways a s ns bs pre->
  ∃q,pl=pre++q/\q.length=ns.length/\(∀(j:Nat)n b p,ns[j]? =some n->bs[j]? =some b->q[j]? =some p->PlO a s n b p)/\(∀p∈q,0<p.aW-> ∀p'∈pre,p'.aW≠p.aW)/\q.Pairwise λx y=>0<y.aW->x.aW≠y.aW
 | [],bs,pre,pl,hl,h=>by
  simp[ways]at h;simp_all
 |n::ns,[],pre,pl,hl,h=>by simp at hl
 |n::ns,b::bs,pre,pl,hl,h=>by
  have key: ∃p,PlO a s n b p/\(0<p.aW-> ∀p'∈pre,p'.aW≠p.aW)/\pl∈ways a s ns bs (pre++[p]):=by
   unfold ways at h;cases b
   ·simp only[dv]at h;cases hd:decide ((eN a (wr (n.bU+s))).2≠0)
    ·rw[hd]at h;simp only[dv,tw,xQ]at h;obtain⟨p,⟨h1,h2⟩,h3⟩:=h;refine⟨p,.inr ⟨rfl,h1⟩,λ_ p' DN he=>?_,h3⟩;simp[mP]at h2
     grind
    grind
   ·simp only[cP]at h;exact⟨⟨0,0⟩,.inl ⟨rfl,rfl⟩,λh=>by simp at h,h⟩
  obtain⟨p,k1,k2,k3⟩:=key;obtain⟨q,q1,q2,q3,q4,q5⟩:=Dn a s ns bs _ pl (by simpa using hl) k3;refine⟨p::q,by simp[q1],by simp[q2],λj n' b' p' h1 h2 h3=>?_,λp' DN h0 p'' Ye=>?_,?_⟩
  ·cases j with
   |zero=>simp at h1 h2 h3;subst h1;subst h2;subst h3;exact k1
   |succ j=>exact q3 j n' b' p' (by simpa using h1) (by simpa using h2) (by simpa using h3)
  ·rcases pU.1 DN with rfl|DN
   ·exact k2 h0 p'' Ye
   ·exact q4 p' DN h0 p'' (Ig _ Ye)
  ·rw[Dt];exact⟨λy hy h0=>q4 y hy h0 p (by simp),q5⟩
structure H7 (a:bp) (s:Int) (cj:List aX) (pl:List aQ):Prop where
 len:pl.length=cj.length
 ok: ∀(j:Nat)n p,cj[j]? =some n->pl[j]? =some p->p=⟨0,0⟩\/p∈(eN a (wr (n.bU+s))).1
 dis:pl.Pairwise λx y=>0<y.aW->x.aW≠y.aW
theorem H7.one{a:bp}{s:Int}{cj:List aX}{pl:List aQ}(h:H7 a s cj pl){i j:Nat}{x y:aQ}(hi:pl[i]? =some x)(hj:pl[j]? =some y)(h0:0<x.aW)(he:x.aW=y.aW):i=j:=by
 have hp:=h.dis
 grind [List.pairwise_iff_getElem]
theorem H7.get{a:bp}{s:Int}{cj:List aX}{pl:List aQ}(h:H7 a s cj pl){p:aQ}(hp:p∈pl): ∃(j:Nat)(n:aX),cj[j]? =some n/\pl[j]? =some p/\(p=⟨0,0⟩\/p∈(eN a (wr (n.bU+s))).1):=by
 obtain⟨j,hj,rfl⟩:=qZ hp;have e1:pl[j]? =some pl[j]:=dF hj;have e2:cj[j]? =some (cj[j]'(by rw[<-h.len];exact hj)):=dF _;exact⟨j,_,e2,e1,h.ok j _ _ e2 e1⟩
structure Aa (d:cM):Prop where
 dh:FF d
 rc:gy d.dz
theorem RH{d:cM}(h:gy d.dz)(tie:Bool):gy (qR d tie):=by
 unfold qR;cases tie
 ·exact zV
 ·refine⟨h.da,h.dc,λi a b h1 h2=>?_,h.oa,λx hx=>?_,h.oo⟩
  ·simp only[Ak]at h1 h2;rw[xR]at h1 h2;obtain⟨p,e1,rfl⟩:=L2.1 h1;obtain⟨q,e2,rfl⟩:=L2.1 h2;exact h.da i p q e1 e2
  ·simp only[Ak]at hx |-
   obtain⟨p,e1,rfl⟩:=mS.1 hx;exact F5.2 ⟨p,e1,by simp[mP]⟩
def fS(tie:Bool)(s:cB):bJ:=⟨false,s,tie,[]⟩
theorem O6(d:cM)(hd:Aa d)(cZ:List aX)(S:List cB)(tie:Bool)(hS:d.bE.aY.length+S.length<=4000):
  ∃r,bO (σ:=(List aQ×List Int×List Int×List bJ×List b9×Int)) (τ:=(List aQ×List Int×List Int×List bJ×List b9)) (λ((JM,JN,JO,Ab,FO,O7):(List aQ×List Int×List Int×List bJ×List b9×Int))=>bif (decide (O7<(S.length:Int)))then((ix S O7).bind λy6=>(f122 (⟨(⟨JM,JN,JO⟩:bK),d.k8,d.h,d.shift,(⟨d.bE.instrument,Ab⟩:cD),cZ,FO⟩:cM) y6 tie).bind λr7=>some (.inl (r7.1,r7.2.1,r7.2.2.1,r7.2.2.2.1,r7.2.2.2.2,(wr (O7+1)))))else(some (.inr (JM,JN,JO,Ab,FO)))) cr (d.dz.cA,d.dz.held,d.dz.cY,d.bE.aY,d.fx,0)=some r/\
   (r.2.2.2.1=d.bE.aY++S.map (fS tie)/\Aa ⟨⟨r.1,r.2.1,r.2.2.1⟩,d.k8,d.h,d.shift,⟨d.bE.instrument,r.2.2.2.1⟩,cZ,r.2.2.2.2⟩):=by
 have hs:ck S:=by grind
 refine jt (λk(s:List aQ×List Int×List Int×List bJ×List b9×Int)=>s.2.2.2.2.2=(k:Int)/\s.2.2.2.1=d.bE.aY++(S.take k).map (fS tie)/\Aa ⟨⟨s.1,s.2.1,s.2.2.1⟩,d.k8,d.h,d.shift,⟨d.bE.instrument,s.2.2.2.1⟩,cZ,s.2.2.2.2.1⟩) _ S.length hs ⟨rfl,by simp,?_⟩ ?_ ?_
 ·exact⟨⟨hd.dh.hh,hd.dh.h0,hd.dh.ch,hd.dh.po,hd.dh.pf⟩,hd.rc⟩
 ·rintro k ⟨s1,s2,s3,s4,s5,s6⟩ hk ⟨e0,e1,hd⟩;simp only at e0 e1 hd;subst e0;have x1:S[k]? =some (S[k]'hk):=dF _;generalize S[k]'hk=y at x1;have hl:s4.length<cO:=by rw[e1];have:=VO k S;simp;unfold cO;omega
  obtain⟨g,h1,h2⟩:=f122_ex _ hd.dh y tie hl;have hR:=RH hd.rc tie;have Vl:=wO _ hd.dh.ch tie;obtain⟨l',q1,g1,g2,_⟩:=f172_ex _ hd.dh _ Vl;rw[h1]at q1;cases q1;simp only[cy x1,cP,bT x1,cN,dp hs x1,h2];refine .inl ⟨_,rfl,rfl,?_,⟨⟨hd.dh.hh,hd.dh.h0,Vl,g1,λk hk=>?_⟩,hR⟩⟩
  ·show s4++[_]=_;rw[cz x1,e1];simp[fS]
  ·have h3:=(g2 k hk).len;have h4:=Vl.d
   grind
 simp_all
theorem FP{a:bp}{s e:Int}{B U:List aX}{pl:List aQ}{cut:List Bool}(Vm: ∀x∈U,∀y∈U,x.bL.aW=y.bL.aW->x=y)(hk:H7 a s B pl)(ht:(U.zip cut).all (lO e pl)=true):
  ∀x∈oO ⟨pl,cut⟩ U,∀y∈oO ⟨pl,cut⟩ U,x.aW=y.aW->x=y:=λx hx y hy he=>by
 have kp: ∀n∈nK U cut,n∈U/\ ∀p∈pl,n.bL.aW≠p.aW:=λn hn=>by
  obtain⟨⟨n',b⟩,h1,rfl⟩:=mS.1 hn;obtain⟨h2,h3⟩:=xQ.1 h1;refine⟨(List.of_mem_zip h2).1,λp hp he=>?_⟩;have Gq:=qc.1 ht _ h2;simp only[pR,eU,sr]at h3;have OC:pl.any (mP n'.bL.aW)=true:=F5.2 ⟨p,hp,by simp only[mP,BW];exact he.symm⟩;have h31:b=false:=h3.1;simp[lO,h31,OC]at Gq
 rcases oq.1 hx with hx|hx<;>rcases oq.1 hy with hy|hy
 ·grind
 ·grind
 ·grind
 ·obtain⟨x1,x2⟩:=xQ.1 hx;obtain⟨y1,y2⟩:=xQ.1 hy;obtain⟨i,n,i1,i2,i3⟩:=hk.get x1;obtain⟨j,m,j1,j2,_⟩:=hk.get y1;have h0:0<x.aW:=by
   rcases i3 with h|h
   ·grind
   ·have:=(iQ h).2.1;omega
  have:=hk.one i2 j2 h0 he
  grind
structure Yf (a:bp) (sh:Int) (E:List bJ) (U B:List aX) (S:List cB) (B' C L':List aX) (E':List bJ):Prop where
 no:(B'=B/\C=[]/\L'=U/\E'=vk [] (S.map (fS (decide (0<U.length)))) E)\/
  ∃pl cut u s0 S',S=s0::S'/\cut.length=U.length/\H7 a sh B pl/\(∃p∈pl,0<p.aW)/\(U.zip cut).all (lO (E.length:Int) pl)=true/\u.Perm ((pl.filter λp=>decide (0<p.aW)).map qU)/\(u.Pairwise λx y=>x.aW<=y.aW)/\
   B'=uX (E.length:Int) B pl/\C=Dk U cut/\L'=jy U cut++B'.filter (λn=>decide (0<n.bL.aW))/\E'=vk (jy U cut) (⟨false,s0,false,u⟩::S'.map (fS true)) E
theorem H8{F E:List bJ}:vk [] F E=E++F:=by
 unfold vk;have:rQ [] (E.length:Int)=λ_ d=>d:=by grind [JJ]
 rw[this];congr 1;apply Td
 grind
theorem O8(d:cM)(hd:Aa d)(bW:List (List bH))(t:Int)(S:List cB)(B:List aX)(hB:B.length<=4)(h1:f119 bW t=some B)(fG:S≠[])(hS:d.bE.aY.length+S.length<=4000)
  (Iq:d.cZ.length<=100000) (hm: ∀n∈d.cZ,n.bI≠[]) (LD: ∀a∈d.cZ,0<a.bL.ct->SU d.bE.aY a) (abH:d.cZ.Pairwise λx y=>x.bL.aW≠y.bL.aW):
  ∃r,f67 d bW t S=some r/\Aa ⟨⟨r.2.2.1,r.2.2.2.1,r.2.2.2.2.1⟩,d.k8,d.h,d.shift,⟨d.bE.instrument,r.2.2.2.2.2.1⟩,r.2.2.2.2.2.2.1,r.2.2.2.2.2.2.2⟩/\
   ∃U,U.Perm (d.cZ.filter λn=>decide (t<n.dr))/\Yf d.k8 d.shift d.bE.aY U B S r.1 r.2.1 r.2.2.2.2.2.2.1 r.2.2.2.2.2.1:=by
 obtain⟨U,u1,u2⟩:=f120_ex d t (by grind) hm;have Wj:U.length<=100000:=by rw[u2.length_eq];grind
 have LX: ∀n∈U,n∈d.cZ:=λn hn=>(xQ.1 (u2.mem_iff.1 hn)).1;have Vm: ∀x∈U,∀y∈U,x.bL.aW=y.bL.aW->x=y:=λx hx y hy he=>by
  grind [List.getElem_of_mem,List.pairwise_iff_getElem]
 have Kh:=Ly hd.rc;have abI:14^B.length<=14^4:=Nat.pow_le_pow_right (by omega) hB;have OQ: ∀drop:List Bool,drop.length=B.length-> ∃r,f218 d.k8 B drop d.shift=some r/\r.Perm (ways d.k8 d.shift B drop []):=λdrop JB=>by
  have hw:=u0 d.k8 d.shift B drop [];refine f218_ex d.k8 d.shift B drop (by omega) JB (by omega) (f270_ex _ (by omega) λp hp=>?_)
  grind [Dn]
 let al:List Bool->List (List aQ):=λdrop=>(f218 d.k8 B drop d.shift).getD [];have RI: ∀drop:List Bool,drop.length=B.length->f218 d.k8 B drop d.shift=some (al drop)/\(al drop).Perm (ways d.k8 d.shift B drop []):=λdrop JB=>by
  grind
 have wm: ∀drop:List Bool,drop.length=B.length-> ∀pl∈al drop,H7 d.k8 d.shift B pl/\ ∀(j:Nat)n b p,B[j]? =some n->drop[j]? =some b->pl[j]? =some p->PlO d.k8 d.shift n b p:=λdrop JB pl hp=>by
  obtain⟨q,q1,q2,q3,_,q5⟩:=Dn d.k8 d.shift B drop [] pl JB ((RI drop JB).2.mem_iff.1 hp);simp only[xm]at q1;subst q1;refine⟨⟨q2,λj n p h1 h2=>?_,q5⟩,q3⟩;have hj:=(lf.1 h1).1;have e3:drop[j]? =some (drop[j]'(by omega)):=dF _;rcases q3 j n _ p h1 e3 h2 with⟨_,h⟩|⟨_,h⟩
  all_goals grind
 obtain⟨r3,c1,c2⟩:=f121_ex d hd.dh B U Wj (by omega) (by omega) al λdrop JB=>by
  refine⟨(RI drop JB).1,?_,λcut Vb pl hp=>?_⟩
  ·have:=(RI drop JB).2.length_eq;grind [u0]
  ·have hk:=(wm drop JB pl hp).1;exact⟨Vb,by show pl.length<=_;rw[hk.len];omega,λht=>FP Vm hk ht⟩
 unfold f67;simp only[h1,u1,c1,cN];cases hr:r3.2.2.2
 ·obtain⟨r,k1,k2,k3⟩:=O6 d hd d.cZ S (decide (0<(U.length:Int))) hS;have m1:B.length<=cO:=by unfold cO;omega
  simp only[LI,cP,k1,cN,cQ m1];refine⟨_,rfl,⟨⟨k3.dh.hh,k3.dh.h0,k3.dh.ch,k3.dh.po,k3.dh.pf⟩,k3.rc⟩,U,u2,⟨.inl ⟨rfl,rfl,rfl,?_⟩⟩⟩;simp_all[H8]
 ·rw[hr]at c2;simp only[Ak]at c2;obtain⟨⟨drop,d1,d2,d3⟩,q1,q2,q3⟩:=c2;have JB:=pF d1;obtain⟨p1,p2⟩:=wm drop JB _ d3;obtain⟨s0,S',rfl⟩: ∃s0 S',S=s0::S':=by
   cases S with
   |nil=>grind
   |cons y S'=>grind
  simp only[vl]at hS;obtain⟨u,w1,w2,w3⟩:=f123_ex d ⟨r3.1.places,r3.1.cut⟩ B U s0 q1 p1.len Wj (by omega) (by omega) (λa ha=>LD a (LX a ha)) λx hx y hy h0 he=>by
   obtain⟨i,n,i1,i2,_⟩:=p1.get hx;obtain⟨j,m,j1,j2,_⟩:=p1.get hy;have:=p1.one i2 j2 h0 he
   grind
  have aa5:=p1.len;obtain⟨x,x1,x2⟩:=f171_ex d hd.dh.ch r3.1 U q1 Wj (by omega) (by omega) (FP Vm p1 q2.ten);rw[q2.cho]at x1;cases x1;have hsx:=f171_small d r3.1 U Wj (by omega) (by omega) x2;obtain⟨l',e1,g1,g2,g3,_⟩:=f172_ex d hd.dh r3.2.1 hsx;rw[q2.rea]at e1;cases e1;have hE':(d.bE.aY.mapIdx (rQ (jy U r3.1.cut) (d.bE.aY.length:Int))).length=d.bE.aY.length:=by simp
  have U4:Aa ⟨r3.2.1,d.k8,d.h,d.shift,⟨d.bE.instrument,d.bE.aY.mapIdx (rQ (jy U r3.1.cut) (d.bE.aY.length:Int))++[⟨false,s0,false,u⟩]⟩,jy U r3.1.cut++(uX (d.bE.aY.length:Int) B r3.1.places).filter (λn=>decide (0<n.bL.aW)),r3.2.2.1⟩:=
   ⟨⟨hd.dh.hh,hd.dh.h0,hsx,g1,λk hk=>by show k.di.length<=_;rw[(g2 k hk).len];exact hsx.d⟩,(g3 q3).1⟩
  obtain⟨r,k1,k2,k3⟩:=O6 _ U4 (jy U r3.1.cut++(uX (d.bE.aY.length:Int) B r3.1.places).filter (λn=>decide (0<n.bL.aW))) S' true (by simp;omega);have g0:ix (s0::S') 0=some s0:=rfl;have e1:(List.take (s0::S').length (s0::S')).drop 1=S':=by simp
  have m1:(uX (d.bE.aY.length:Int) B r3.1.places).length=B.length:=by simp[uX,aa5]
  have m2:(d.bE.aY.mapIdx (rQ (jy U r3.1.cut) (d.bE.aY.length:Int))).length<cO:=by rw[hE'];unfold cO;omega
  have m3:1<=(s0::S').length:=by simp
  simp only[pV,dv,g0,cN,w1,cQ m1,cQ m2,cQ m3,e1,k1];refine⟨_,rfl,⟨⟨k3.dh.hh,k3.dh.h0,k3.dh.ch,k3.dh.po,k3.dh.pf⟩,k3.rc⟩,U,u2,⟨.inr ⟨r3.1.places,r3.1.cut,u,s0,S',rfl,q1,p1,?_,q2.ten,w2,w3,rfl,rfl,rfl,?_⟩⟩⟩
  ·obtain⟨b,b1,b2⟩:=List.all_eq_false.1 d2;obtain⟨j,hj,rfl⟩:=qZ b1;have e3:drop[j]? =some drop[j]:=dF hj;have e4:B[j]? =some (B[j]'(by omega)):=dF _;have e5:r3.1.places[j]? =some (r3.1.places[j]'(by omega)):=dF _;rcases p2 j _ _ _ e4 e3 e5 with⟨h,_⟩|⟨_,h⟩
   ·grind
   ·exact⟨_,gN e5,by have:=(iQ h).2.1;omega⟩
  ·show r.2.2.2.1=_;rw[k2];unfold vk;simp
theorem FQ{σ τ β γ:Type}{body:σ->Option (σ⊕τ)}{f:τ->Option (β⊕γ)}{Q:β->Prop}{s0:σ}(Inv:Nat->σ->Prop)(lI:τ->Prop)(n:Nat)(hn:n<=4194304)(h0:Inv 0 s0)
  (hb: ∀k s,k<n->Inv k s->(∃s',body s=some (.inl s')/\Inv (k+1) s')\/(∃r,body s=some (.inr r)/\lI r))
  (he: ∀s,Inv n s-> ∃r,body s=some (.inr r)/\lI r) (k: ∀r,lI r-> ∃z,f r=some (.inl z)/\Q z): ∃z,(bO body cr s0).bind f=some (.inl z)/\Q z:=by
 obtain⟨r,h1,h2⟩:=jt Inv lI n hn h0 hb he;rw[h1];exact k r h2
def FR(P:List (List bH))(W:List (List aQ)):Prop:=W.map List.length=P.map List.length
def fM(W:List (List aQ))(i k:Nat):Option aQ:=W[i]?.bind λw=>w[k]?
def H9(W:List (List aQ))(m:bX)(p:aQ):List (List aQ):=W.set m.part.toNat (((W[m.part.toNat]?).getD []).set m.fj.toNat p)
def Ac(W:List (List aQ))(l:List bX)(p:aQ):List (List aQ):=l.foldl (λW m=>H9 W m p) W
def mI(W:List (List aQ))(l:List aX):List (List aQ):=l.foldl (λW n=>Ac W n.bI n.bL) W
def pS(t:Int)(kd:Int)(m:bX):cV:=⟨m.part,m.fj,kd,t⟩
def jM(t:Int)(n:aX):List cV:=bif decide (n.bL.aW=0)then n.bI.map (pS t 1)else(n.bI.drop 1).map (pS t 2)
def toOf(P:List (List bH))(m:bX):Int:=((ey P m.part.toNat m.fj.toNat).map bH.dr).getD 0
def mi(P:List (List bH))(t:Int)(n:aX):List cV:=(n.bI.filter λm=>decide (t<toOf P m)).map (pS t 3)
def va(P:List (List bH))(m:bX):Prop:= ∃(i k:Nat)(x:bH),m=⟨(i:Int),(k:Int)⟩/\ey P i k=some x
theorem FR.get{P:List (List bH)}{W:List (List aQ)}(h:FR P W){i k:Nat}{x:bH}(hx:ey P i k=some x): ∃w,W[i]? =some w/\k<w.length:=by
 unfold ey at hx;cases hp:P[i]? with
 |none=>rw[hp]at hx;simp at hx
 |some p=>
  rw[hp]at hx;simp only[cN]at hx;have h1:=fL (·[i]?) h;simp only[xR,hp,iJ]at h1;obtain⟨w,w1,w2⟩:=L2.1 h1;exact⟨w,w1,by rw[w2];exact(lf.1 hx).1⟩
theorem JP{P:List (List bH)}{W:List (List aQ)}{m:bX}{p:aQ}(h:FR P W):FR P (H9 W m p):=by
 unfold FR H9 at *;rw[<-h];cases hw:W[m.part.toNat]? with
 |none=>rw[List.set_eq_of_length_le (by simpa using hw)]
 |some w=>exact uZ hw (by simp)
theorem rR{P:List (List bH)}{p:aQ}: ∀{l:List bX}{W:List (List aQ)},FR P W->FR P (Ac W l p)
 | [],W,h=>h
 |m::l,W,h=>rR (l:=l) (JP h)
theorem Ad{P:List (List bH)}: ∀{l:List aX}{W:List (List aQ)},FR P W->FR P (mI W l)
 | [],W,h=>h
 |n::l,W,h=>Ad (l:=l) (rR h)
theorem JQ{W:List (List aQ)}{i k:Nat}{w:List aQ}{p:aQ}(h:W[i]? =some w):H9 W ⟨(i:Int),(k:Int)⟩ p=W.set i (w.set k p):=by
 unfold H9;simp only[wb,h,J1]
theorem Yg(s:cW)(P:List (List bH))(cj cut:List aX)(t:Int)(hP:P.length<=6)(hW:FR P s.dL)(hf: ∀n∈cj,n.bI.length<=6/\ ∀m∈n.bI,va P m)(hc: ∀n∈cut,n.bI.length<=6/\ ∀m∈n.bI,va P m)
  (hl1:cj.length<=4) (HR:cut.length<=10000) (hX:s.dm.length+24+6*cut.length<=4000000):
  f68 s P cj cut t=some (mI s.dL cj,s.dm++cj.flatMap (jM t)++cut.flatMap (mi P t)):=by
 have key: ∃r,f68 s P cj cut t=some r/\r=(mI s.dL cj,s.dm++cj.flatMap (jM t)++cut.flatMap (mi P t)):=by
  have Zc:s.dL.length=P.length:=by have:=fL List.length hW;simpa using this
  have ffl: ∀l:List aX,(∀n∈l,n∈cj)->(l.flatMap (jM t)).length<=l.length*6:=λl hl=>kG λn hn=>by
   have:=(hf n (hl n hn)).1;unfold jM;cases decide (n.bL.aW=0)
   ·simp;omega
   ·simp;omega
  have cfl: ∀l:List aX,(∀n∈l,n∈cut)->(l.flatMap (mi P t)).length<=l.length*6:=λl hl=>kG λn hn=>by
   have:=(hc n (hl n hn)).1;unfold mi;have:=J5 (λm=>decide (t<toOf P m)) n.bI;simp;omega
  unfold f68;refine eF (λk(q:List (List aQ)×List cV×Int)=>q.2.2=(k:Int)/\q.1=mI s.dL (cj.take k)/\q.2.1=s.dm++(cj.take k).flatMap (jM t)) (λr=>r=(mI s.dL cj,s.dm++cj.flatMap (jM t))) cj.length (by omega) ⟨rfl,rfl,by simp⟩ ?_ ?_ ?_
  ·rintro k ⟨d,b,i⟩ hk ⟨e0,e1,e2⟩;simp only at e0 e1 e2;subst e0;have x1:cj[k]? =some (cj[k]'hk):=dF _;generalize cj[k]'hk=n at x1;obtain⟨n1,n2⟩:=hf n (gN x1);have hb:b.length<=s.dm.length+k*6:=by
    rw[e2];have:=ffl (cj.take k) λn hn=>JZ hn;have:=VO k cj;have:=DA 6 this;rw[re];omega
   simp only[cy x1,cP,bT x1,cN,dp (l:=cj) (by simp only[ck];omega) x1];refine .inl (FQ (λj(q:List (List aQ)×List cV×Int)=>q.2.2=(j:Int)/\q.1=Ac d (n.bI.take j) n.bL/\q.2.1=b++(bif decide (n.bL.aW=0)then(n.bI.take j).map (pS t 1)else((n.bI.take j).drop 1).map (pS t 2)))
    (λr=>r=(Ac d n.bI n.bL,b++jM t n)) n.bI.length (by omega) ⟨rfl,rfl,by cases decide (n.bL.aW=0)<;>simp⟩ ?_ ?_ ?_)
   ·rintro j ⟨d',b',i'⟩ hj ⟨f0,f1,f2⟩;simp only at f0 f1 f2;subst f0;have y1:n.bI[j]? =some (n.bI[j]'hj):=dF _;have hm:=n2 _ (gN y1);generalize n.bI[j]'hj=m at y1 hm;obtain⟨pi,pk,x,rfl,hx⟩:=hm;have AA:FR P d':=by rw[f1,e1];exact rR (Ad hW)
    obtain⟨w,w1,w2⟩:=AA.get hx;have w3:w[pk]? =some (w[pk]'w2):=dF _;have DT:pi<P.length:=by
     have:=(lf.1 w1).1;have h2:=fL List.length AA;simp at h2;omega
    have pW:b'.length<=b.length+j:=by
     rw[f2];have:=VO j n.bI;cases decide (n.bL.aW=0)<;>simp <;>omega
    have g1:pi<cO:=by unfold cO;omega
    have g2:b'.length+1<=bc:=by unfold bc;omega
    have Vn:Ac d (n.bI.take (j+1)) n.bL=d'.set pi (w.set pk n.bL):=by
     rw[cz y1,f1];rw[f1]at w1;unfold Ac at *;rw[List.foldl_append];exact JQ w1
    simp only[cy y1,cP,bT y1,cN,bT w1,cQ g1,bT w3,dp (l:=n.bI) (by simp only[ck];omega) y1,wb];cases c1:decide (n.bL.aW=0)
    ·rw[c1]at f2;simp only[dv]at f2 |-
     by_cases c2:j=0
     ·subst c2;simp only[Int.ofNat_zero,Int.natCast_zero,AX,fZ,dv,cN];refine .inl ⟨_,rfl,rfl,Vn.symm,?_⟩;show b'=_;rw[f2,cz y1];simp
     ·have c3:decide ((0:Int)<(j:Int))=true:=Du (by omega);simp only[c3,cP,cQ g2,cN];refine .inl ⟨_,rfl,rfl,Vn.symm,?_⟩;show b'++[_]=_;rw[f2,cz y1,List.drop_append_of_le_length (by simp;omega)];simp[pS]
    ·rw[c1]at f2;simp only[cP,cQ g2,cN]at f2 |-
     refine .inl ⟨_,rfl,rfl,Vn.symm,?_⟩;show b'++[_]=_;rw[f2,cz y1];simp[pS]
   ·rintro⟨d',b',i'⟩ ⟨f0,f1,f2⟩;simp only at f0 f1 f2;subst f0;rw[LH]at f1 f2;simp only[AX,fZ,dv];exact⟨_,rfl,by rw[f1,f2];rfl⟩
   ·rintro _ rfl;refine⟨_,rfl,rfl,?_,?_⟩
    ·show _=mI s.dL (cj.take (k+1));rw[cz x1,e1];unfold mI;rw[List.foldl_append];rfl
    ·show b++jM t n=_;rw[cz x1,e2];simp
  ·rintro⟨d,b,i⟩ ⟨e0,e1,e2⟩;simp only at e0 e1 e2;subst e0;rw[LH]at e1 e2;simp only[AX,fZ,dv];exact⟨_,rfl,by rw[e1,e2]⟩
  rintro _ rfl;simp only;generalize Gi:s.dm++cj.flatMap (jM t)=b0;have yi:b0.length<=s.dm.length+24:=by
   rw[<-Gi];have:=ffl cj λn hn=>hn;rw[re];omega
  refine eF (λk(q:List cV×Int)=>q.2=(k:Int)/\q.1=b0++(cut.take k).flatMap (mi P t)) (λr=>r=b0++cut.flatMap (mi P t)) cut.length (by omega) ⟨rfl,by simp⟩ ?_ ?_ ?_
  ·rintro k ⟨b,i⟩ hk ⟨e0,e1⟩;simp only at e0 e1;subst e0;have x1:cut[k]? =some (cut[k]'hk):=dF _;generalize cut[k]'hk=n at x1;obtain⟨n1,n2⟩:=hc n (gN x1);have hb:b.length<=b0.length+k*6:=by
    rw[e1];have:=cfl (cut.take k) λn hn=>JZ hn;have:=VO k cut;have:=DA 6 this;rw[re];omega
   simp only[cy x1,cP,bT x1,cN,dp (l:=cut) (by simp only[ck];omega) x1];refine .inl (FQ (λj(q:List cV×Int)=>q.2=(j:Int)/\q.1=b++((n.bI.take j).filter λm=>decide (t<toOf P m)).map (pS t 3)) (λr=>r=b++mi P t n) n.bI.length (by omega) ⟨rfl,by simp⟩ ?_ ?_ ?_)
   ·rintro j ⟨b',i'⟩ hj ⟨f0,f1⟩;simp only at f0 f1;subst f0;have y1:n.bI[j]? =some (n.bI[j]'hj):=dF _;have hm:=n2 _ (gN y1);generalize n.bI[j]'hj=m at y1 hm;obtain⟨pi,pk,x,rfl,hx⟩:=hm;have SZ:toOf P ⟨(pi:Int),(pk:Int)⟩=x.dr:=by unfold toOf;simp only[wb,hx,iJ,J1]
    unfold ey at hx;cases hp:P[pi]? with
    |none=>rw[hp]at hx;simp at hx
    |some p=>
     rw[hp]at hx;simp only[cN]at hx;have pW:b'.length<=b.length+j:=by
      rw[f1];have:=VO j n.bI;have:=J5 (λm=>decide (t<toOf P m)) (n.bI.take j);simp;omega
     have g2:b'.length+1<=bc:=by unfold bc;omega
     simp only[cy y1,cP,bT y1,cN,bT hp,bT hx,dp (l:=n.bI) (by simp only[ck];omega) y1];cases c1:decide (t<x.dr)
     ·refine .inl ⟨_,rfl,rfl,?_⟩;show b'=_;rw[cz y1,L4,f1];simp[List.filter,SZ,c1]
     ·simp only[cP,cQ g2];refine .inl ⟨_,rfl,rfl,?_⟩;show b'++[_]=_;rw[cz y1,L4,f1];simp[List.filter,SZ,c1,pS]
   ·rintro⟨b',i'⟩ ⟨f0,f1⟩;simp only at f0 f1;subst f0;rw[LH]at f1;simp only[AX,fZ,dv];exact⟨_,rfl,by rw[f1];rfl⟩
   ·rintro _ rfl;refine⟨_,rfl,rfl,?_⟩;show b++mi P t n=_;rw[cz x1,e1];simp
  ·rintro⟨b,i⟩ ⟨e0,e1⟩;simp only at e0 e1;subst e0;rw[LH]at e1;simp only[AX,fZ,dv];exact⟨_,rfl,e1⟩
  rintro _ rfl;exact⟨_,rfl,by rw[<-Gi]⟩
 obtain⟨r,h1,rfl⟩:=key;exact h1
structure S0 (P:List (List bH)) (E:List bJ) (W:List (List aQ)) (n:aX):Prop where
 ne:n.bI≠[]
 le:n.bI.length<=6
 qM:n.bI.Pairwise λa b=>a.part<b.part
 co:1<=n.bL.aW
 ev: ∃e:Nat,n.cS=(e:Int)/\Rg E e n.bL E.length/\ ∀m∈n.bI,∃(i k:Nat)(x:bH),m=⟨(i:Int),(k:Int)⟩/\ey P i k=some x/\x.dr<=n.dr/\fM W i k=some n.bL/\x.bP=(jz E e:Int)
structure Mv (a:bp) (sh T:Int) (E:List bJ) (L B:List aX) (S:List cB) (B' C L':List aX) (E':List bJ):Prop where
 ev:kH a E'
 du:jz E' E'.length=jz E E.length+kr S
 on: ∀c,c<=E.length->jz E' c=jz E c
 le:E'.length=E.length+S.length
 rg: ∀e p c,Rg E e p c->Rg E' e p c
 nd: ∀e p c,Nd E e p c->Nd E' e p c
 tq: ∀n∈L,∀e:Nat,n.cS=(e:Int)->(n∈L'/\n ∉ C)\/(n∈C/\Nd E' e n.bL E.length)\/(n ∉ C/\n.dr<=T)
 cL: ∀n∈C,n∈L
 cd:C.Pairwise λx y=>x.bL.aW≠y.bL.aW
 cl:C.length<=L.length
 lL: ∀n∈L',(n∈L/\ ∀e:Nat,n.cS=(e:Int)->Rg E' e n.bL E'.length)\/(n∈B'/\1<=n.bL.aW/\n.cS=(E.length:Int)/\Rg E' E.length n.bL E'.length)
 ld:L'.Pairwise λx y=>x.bL.aW≠y.bL.aW
 ll:L'.length<=L.length+B.length
 b1: ∀n'∈B',∃n∈B,n'.bI=n.bI/\n'.dr=n.dr/\n'.bU=n.bU/\(n'.bL=⟨0,0⟩\/n'.bL∈(eN a (wr (n.bU+sh))).1/\n'∈L'/\n'.cS=(E.length:Int))
 b2: ∀n∈B,∃n'∈B',n'.bI=n.bI
 b3:B'.map aX.bU=B.map aX.bU
 b4: ∀x∈B',∀y∈B',0<x.bL.aW->x.bL.aW=y.bL.aW->x=y
 st: ∀e s,fR E' e s->(∃s0,fR E e s0/\s.aW=s0.aW/\s.ct=s0.ct)\/(e=E.length/\ ∃n'∈B',n'.bL=⟨s.aW,s.ct⟩)
theorem Dp: ∀{S:List cB}{f:cB->bJ},(∀s,(f s).sign=s)->((S.map f).map λd=>tk d.sign).sum=kr S
 | [],f,_=>rfl
 |s::S,f,h=>by
  have:=Dp (S:=S) h;simp only[Aj,Ws,this,h s,kr,YR]
theorem Vo{U:List aX}{cut:List Bool}{n:aX}{b:Bool}(h:(n,b)∈U.zip cut): ∃i:Nat,U[i]? =some n/\cut[i]? =some b:=by
 obtain⟨i,hi,e⟩:=qZ h;have h1:(U.zip cut)[i]? =some (n,b):=by grind
 grind [List.getElem?_zip_eq_some]
theorem vb{U:List aX}{cut:List Bool}{n:aX}:n∈jy U cut↔(n,false)∈U.zip cut:=by
 unfold jy;simp_all
theorem xM{U:List aX}{cut:List Bool}{n:aX}:n∈Dk U cut↔(n,true)∈U.zip cut:=by
 unfold Dk;simp_all
theorem JR{L:List aX}(h:L.Pairwise λx y=>x.bL.aW≠y.bL.aW){i j:Nat}{x y:aX}(hi:L[i]? =some x)(hj:L[j]? =some y)(he:x.bL.aW=y.bL.aW):i=j:=by
 grind [List.pairwise_iff_getElem]
theorem S1{L:List aX}(h:L.Pairwise λx y=>x.bL.aW≠y.bL.aW){x y:aX}(hx:x∈L)(hy:y∈L)(he:x.bL.aW=y.bL.aW):x=y:=by
 obtain⟨i,hi,rfl⟩:=qZ hx;obtain⟨j,hj,rfl⟩:=qZ hy;have:=JR h (dF hi) (dF hj) he
 grind
theorem JS{U:List aX}{cut:List Bool}(hl:cut.length=U.length){f:aX×Bool->Bool}:(((U.zip cut).filter f).map (·.1)).Sublist U:=by
 grind [List.filter_sublist,List.map_fst_zip]
section
variable {a:bp} {sh T:Int} {P:List (List bH)} {E:List bJ} {L B U:List aX} {S:List cB} {B' C L':List aX} {E':List bJ} {W:List (List aQ)}
theorem Yh(Kw:kH a E)(Iq: ∀n∈L,S0 P E W n)(hld:L.Pairwise λx y=>x.bL.aW≠y.bL.aW)(hE:E.length<=4000)(hB: ∀n∈B,n.bL=⟨0,0⟩)(hU:U.Perm (L.filter λn=>decide (T<n.dr)))(hS:S≠[])(Vl: ∀s∈S,s∈gF)(h:Yf a sh E U B S B' C L' E'):Mv a sh T E L B S B' C L' E':=by
 have LX: ∀n,n∈U↔n∈L/\T<n.dr:=λn=>by grind
 have Vm:U.Pairwise λx y=>x.bL.aW≠y.bL.aW:=(hU.pairwise_iff (λh=>h.symm)).2 (hld.sublist zD7);have Wj:U.length<=L.length:=by rw[hU.length_eq];grind
 have Yi: ∀n∈L,∀e:Nat,n.cS=(e:Int)->Rg E e n.bL E.length:=λn hn e he=>by
  obtain⟨e0,h1,h2,_⟩:=(Iq n hn).ev
  grind
 rcases h.no with⟨rfl,rfl,rfl,rfl⟩|⟨pl,cut,u,s0,S',rfl,F6,wm,⟨p0,hp0,U5⟩,Yj,hu1,hu2,rfl,rfl,rfl,rfl⟩
 ·have hF: ∀d∈S.map (fS (decide (0<L'.length))),∃s∈S,d=fS (decide (0<L'.length)) s:=λd hd=>by
   grind
  refine⟨Kw.nx (by simp) (λj d hd=>?_) (by simpa using hS) (by simp),?_,λc hc=>SX hc,by rw[td,vn],λe p c h=>h.keep,λe p c h=>h.keep (by simp),λn hn e he=>?_,by simp,by simp,by simp,λn hn=>.inl ⟨((LX n).1 hn).1,λe he=>?_⟩,Vm,by omega,λn hn=>⟨n,hn,rfl,rfl,rfl,.inl (hB n hn)⟩,λn hn=>⟨n,hn,rfl⟩,rfl,λx hx y hy h0=>?_,λe s hs=>?_⟩
  ·obtain⟨s,s1,rfl⟩:=hF d (gN hd);refine⟨⟨rfl,Vl s s1,λht=>⟨rfl,?_⟩,by simp[fS]⟩,by simp[fS]⟩;have ht:0<L'.length:=by simpa[fS]using ht
   obtain⟨n,hn⟩:=List.exists_mem_of_length_pos ht;obtain⟨e,h1,h2,_⟩:=(Iq n ((LX n).1 hn).1).ev;have:=h2.lt;omega
  ·rw[H2,Dp (λ_=>rfl)]
  ·grind
  ·have ht:decide (0<L'.length)=true:=Du (List.length_pos_of_mem hn);refine(Yi n ((LX n).1 hn).1 e he).cZ (λd hd=>?_) λ_=>.inl λd hd=>?_
   ·obtain⟨s,s1,rfl⟩:=hF d hd;rw[ht];exact⟨rfl,rfl⟩
   ·obtain⟨s,s1,rfl⟩:=hF d hd;exact ht
  ·grind
  ·rcases nL hs with⟨s1,q1,q2,q4⟩|⟨_,d,q2,q3⟩
   ·grind [gl,uW]
   ·obtain⟨s1,_,rfl⟩:=hF d (gN q2);simp[fS]at q3
 ·have Vp: ∀s,s∈u↔ ∃p∈pl,0<p.aW/\s=qU p:=λs=>by
   grind
  have Yk: ∀n,n∈jy U cut->n∈U:=λn hn=>(List.of_mem_zip (vb.1 hn)).1;have hcu: ∀n,n∈Dk U cut->n∈U:=λn hn=>(List.of_mem_zip (xM.1 hn)).1;have hkc: ∀n,n∈jy U cut->n ∉ Dk U cut:=λn h1 h2=>by
   grind [Vo,vb,xM,JR]
  have Y7: ∀n,n∈jy U cut->(∀p∈pl,p.aW≠n.bL.aW)/\(0<n.bL.ct-> ∀e:Nat,n.cS=(e:Int)->(E.length:Int)-e<=15):=λn hn=>by
   have ht:=qc.1 Yj _ (vb.1 hn);simp only[lO,Bool.false_and,LI,Wq,eU,sr,Ww,mP,BW]at ht;refine⟨ht.1,λhf e he=>?_⟩;have h2:=ht.2;obtain⟨e0,h1,h3,_⟩:=(Iq n ((LX n).1 (Yk n hn)).1).ev;have h4:=h3.lt;simp only[hf,ju,Wq,PA]at h2
   grind [jx]
  have hct: ∀n,n∈Dk U cut->n.bL.ct=0-> ∃p∈pl,p.aW=n.bL.aW:=λn hn hf=>by
   have ht:=qc.1 Yj _ (xM.1 hn);simp[lO,hf,mP]at ht;exact ht
  have mj: ∀p∈pl,0<p.aW-> ∃q,p∈(eN a q).1:=λp hp h0=>by
   obtain⟨j,n,_,_,h3⟩:=wm.get hp
   grind
  have Yl: ∀x,vh ⟨false,s0,false,u⟩ x=true↔ ∃p∈pl,0<p.aW/\p.aW=x:=λx=>by
   simp only[vh,F5,BW];constructor
   ·rintro⟨s,h1,rfl⟩;obtain⟨p,h2,h3,rfl⟩:=(Vp s).1 h1;exact⟨p,h2,h3,rfl⟩
   ·rintro⟨p,h1,h2,h3⟩;exact⟨_,(Vp _).2 ⟨p,h1,h2,rfl⟩,h3⟩
  have XD: ∀n,n∈jy U cut->xJ ⟨false,s0,false,u⟩=false/\vh ⟨false,s0,false,u⟩ n.bL.aW=false:=λn hn=>by
   refine⟨?_,?_⟩
   ·have:qU p0∈u:=(Vp _).2 ⟨p0,hp0,U5,rfl⟩;have:u≠[]:=λh=>by grind
    simp[xJ,this]
   grind
  have Z3: ∀(j:Nat)d,(⟨false,s0,false,u⟩::S'.map (fS true))[j]? =some d->(j=0/\d=⟨false,s0,false,u⟩)\/(0<j/\ ∃s∈S',d=fS true s):=λj d hd=>by
   grind
  have YZ:(u.map cC.aW).Nodup:=by
   rw[(hu1.map _).nodup_iff,L1];have:(cC.aW∘qU)=aQ.aW:=rfl;rw[this];show List.Pairwise _ _;rw[L3];refine(wm.dis.sublist (zD7 (p:=λp=>decide (0<p.aW)))).imp_of_mem λ{x y}hx hy PH=>PH ?_
   grind
  have Ym:u.Pairwise λx y=>x.aW<y.aW:=by
   have h1:u.Pairwise λx y=>x.aW≠y.aW:=by
    grind
   exact(hu2.and h1).imp λ⟨x,y⟩=>by omega
  have aa6:(uX (E.length:Int) B pl).map aX.bU=B.map aX.bU:=by
   unfold uX;rw[L1];have:(aX.bU∘λx:aX×aQ=>OZ (E.length:Int) x.1 x.2)=aX.bU∘(·.1):=rfl;rw[this,<-L1,List.map_fst_zip (by have:=wm.len;omega)]
  have RJ: ∀n',n'∈uX (E.length:Int) B pl-> ∃(j:Nat)(n:aX)(p:aQ),B[j]? =some n/\pl[j]? =some p/\n'=OZ (E.length:Int) n p:=λn' mK=>by
   obtain⟨⟨n,p⟩,h1,rfl⟩:=mS.1 mK;obtain⟨j,hj,e⟩:=qZ h1;have h1:(B.zip pl)[j]? =some (n,p):=by grind
   grind [List.getElem?_zip_eq_some]
  have Yn: ∀(j:Nat)n p,B[j]? =some n->pl[j]? =some p->OZ (E.length:Int) n p∈uX (E.length:Int) B pl:=λj n p h1 h2=>mS.2 ⟨(n,p),gN (FG h1 h2),rfl⟩;have DW: ∀n'∈uX (E.length:Int) B pl,0<n'.bL.aW->n'.cS=(E.length:Int)/\n'.bL∈pl:=λn' mK h0=>by
   obtain⟨j,n,p,h1,h2,rfl⟩:=RJ n' mK;have h0:0<p.aW:=h0;exact⟨by simp[OZ,h0],gN h2⟩
  have hS3: ∀s∈S',s∈gF:=λs hs=>Vl s (by simp[hs]);refine⟨Kw.nx (λx hx hf e he=>⟨Yi x ((LX x).1 (Yk x hx)).1 e he,(Y7 x hx).2 hf e he⟩) (λj d hd=>?_) (by simp) (λx hx d hd=>?_),?_,λc hc=>SX hc,by rw[td];simp,λe p c h=>h.keep,
   λe p c h=>h.keep λx hx hf e he=>Yi x ((LX x).1 (Yk x hx)).1 e he,λn hn e he=>?_,λn hn=>((LX n).1 (hcu n hn)).1,Vm.sublist (JS F6),?_,λn hn=>?_,?_,?_,λn' mK=>?_,λn hn=>?_,aa6,λx hx y hy h0 PH=>?_,λe s hs=>?_⟩
  ·rcases Z3 j d hd with⟨rfl,rfl⟩|⟨hj,s,hs,rfl⟩
   ·refine⟨⟨rfl,Vl s0 (by simp),λh=>(by cases h),Ym⟩,λs hs=>?_⟩;obtain⟨p,h1,h2,rfl⟩:=(Vp s).1 hs;exact⟨rfl,rfl,rfl,mj p h1 h2⟩
   ·exact⟨⟨rfl,hS3 s hs,λ_=>⟨rfl,by omega⟩,by simp[fS]⟩,by simp[fS]⟩
  ·grind
  ·rw[H2,Aj,Ws,Dp (λ_=>rfl)];rfl
  ·by_cases hc:T<n.dr
   ·have hnU:=(LX n).2 ⟨hn,hc⟩;obtain⟨i,hi,rfl⟩:=qZ hnU;have e1:U[i]? =some U[i]:=dF hi;have e2:cut[i]? =some (cut[i]'(by omega)):=dF _;have hz:=gN (FG e1 e2);cases hbb:cut[i]'(by omega)with
    |false=>grind [vb]
    |true=>
     rw[hbb]at hz;have hz:=xM.2 hz;refine .inr (.inl ⟨hz,Nd.new (Yi _ hn e he) (λs hs=>Kw.hold hs) (λhf=>?_) (d0:=⟨false,s0,false,u⟩) rfl rfl λhf=>?_⟩)
     ·grind [H3,S1]
     ·obtain⟨e0,h1,h2,_⟩:=(Iq _ hn).ev;obtain⟨s,t1,t2,t3⟩:=h2.st;obtain⟨q,hq⟩:=(Kw.st _ s t1).pl;have hq:=(iQ hq).2.2.2.1;have hq:0<=s.ct:=hq;obtain⟨p,h3,h4⟩:=hct _ hz (by omega);have:=(Iq _ hn).co
      grind
   grind
  ·have:=(JS F6 (f:=λx=>x.2)).length_le;exact AW this Wj
  ·rcases oq.1 hn with hn|hn
   ·refine .inl ⟨((LX n).1 (Yk n hn)).1,λe he=>(Yi n ((LX n).1 (Yk n hn)).1 e he).cZ (λd hd=>?_) λhf=>.inr ⟨?_,λj d hj hd=>?_⟩⟩
    ·rcases pU.1 hd with rfl|hd
     ·grind
     ·obtain⟨s,_,rfl⟩:=mS.1 hd;exact⟨rfl,rfl⟩
    ·exact F5.2 ⟨n,hn,by simp[hf,he]⟩
    ·rcases Z3 j d hd with⟨h,_⟩|⟨_,s,_,rfl⟩
     ·omega
     ·rfl
   ·obtain⟨h1,h2⟩:=xQ.1 hn;have h2:0<n.bL.aW:=by grind
    obtain⟨h3,h4⟩:=DW n h1 h2;refine .inr ⟨h1,by omega,h3,Rg.new (d0:=⟨false,s0,false,u⟩) (s0:=qU n.bL) rfl ((Vp _).2 ⟨n.bL,h4,h2,rfl⟩) rfl rfl (λj d hj hd=>?_) λs hs=>?_⟩
    ·rcases Z3 j d hd with⟨h,_⟩|⟨_,s,_,rfl⟩
     ·omega
     ·exact⟨rfl,rfl⟩
    ·obtain⟨p,_,_,rfl⟩:=(Vp s).1 hs;rfl
  ·rw[Wu];refine⟨Vm.sublist (JS F6),?_,λx hx y hy=>?_⟩
   ·have:(uX (E.length:Int) B pl).Pairwise λx y=>0<y.bL.aW->x.bL.aW≠y.bL.aW:=by
     have h1:(B.zip pl).Pairwise λx y=>0<y.2.aW->x.2.aW≠y.2.aW:=by
      have:=wm.dis;rw[<-List.map_snd_zip (l₁:=B) (l₂:=pl) (by have:=wm.len;omega),L3]at this;exact this
     unfold uX;rw[L3];exact h1
    grind
   grind
  ·have h1:=(JS F6 (f:=λx=>!x.2)).length_le;have h2:=J5 (λn:aX=>decide (0<n.bL.aW)) (uX (E.length:Int) B pl);have h3:(uX (E.length:Int) B pl).length<=B.length:=by simp[uX];omega
   rw[re];have h1:(jy U cut).length<=U.length:=h1;omega
  ·obtain⟨j,n,p,h1,h2,rfl⟩:=RJ n' mK;refine⟨n,gN h1,rfl,rfl,rfl,?_⟩;rcases wm.ok j n p h1 h2 with h3|h3
   ·exact .inl h3
   ·have h0:=(iQ h3).2.1;refine .inr ⟨h3,Gh _ (xQ.2 ⟨mK,Du ?_⟩),(DW _ mK ?_).1⟩
    ·show 0<p.aW;omega
    ·show 0<p.aW;omega
  ·obtain⟨j,hj,rfl⟩:=qZ hn;have e1:B[j]? =some B[j]:=dF hj;have e2:pl[j]? =some (pl[j]'(by rw[wm.len];exact hj)):=dF _;exact⟨_,Yn j _ _ e1 e2,rfl⟩
  ·obtain⟨j,n,p,h1,h2,rfl⟩:=RJ x hx;obtain⟨i,m,q,h3,h4,rfl⟩:=RJ y hy;have:=wm.one h2 h4 h0 PH
   grind
  ·rcases nL hs with⟨s1,q1,q2,rfl⟩|⟨q1,d,q2,q3⟩
   ·grind [gl,uW]
   ·rcases Z3 _ d q2 with⟨h,rfl⟩|⟨_,s,_,rfl⟩
    ·obtain⟨p,h1,h2,rfl⟩:=(Vp s).1 q3;obtain⟨j,n,j1,j2,_⟩:=wm.get h1;exact .inr ⟨by omega,_,Yn j n p j1 j2,rfl⟩
    ·simp[fS]at q3
end
end Go.Proofs.YtgpciecmgoppiaaGreat
