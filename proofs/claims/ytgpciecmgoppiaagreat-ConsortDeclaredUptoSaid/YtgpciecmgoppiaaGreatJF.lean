/- Plain laws, joined by gen/joinH.py. -/
import Derived.Test.YtgpciecmgoppiaaGreatJE
set_option linter.all false
namespace Go.Proofs.YtgpciecmgoppiaaGreat
open Go Go.Am
set_option maxRecDepth 100000
theorem f128_eq(l:List cC)(h:ck l):f128 l=some l:=by
 unfold f128;by_cases c:l=[]
 ·subst c;simp
 ·have:l.length<=bc:=by simp only[ck]at h;unfold bc;omega
  grind [cQ]
theorem f127_eq(l:List bJ)(h:ck l):f127 l=some l:=by
 unfold f127;by_cases c:l=[]
 ·subst c;simp
 ·have:l.length<=bc:=by simp only[ck]at h;unfold bc;omega
  grind [cQ]
theorem Pm{α:Type}{l:List α}{k:Nat}{x:α}(h:l[k]? =some x):l.set k x=l:=by
 apply Td
 grind
theorem f73_eq(p:cD)(hc:ck p.instrument.bQ)(hs:ck p.instrument.br)(he:ck p.aY)(ht: ∀e∈p.aY,ck e.cR):f73 p=some (p.instrument.bQ,p.instrument.br,p.aY):=by
 have key: ∃r,f73 p=some r/\r=(p.instrument.bQ,p.instrument.br,p.aY):=by
  unfold f73;simp only[f63_eq _ hc,f64_eq _ hs,f127_eq _ he,cN];refine eF (λk(s:List bJ×Int)=>s.2=(k:Int)/\s.1=p.aY) (λr=>r=p.aY) p.aY.length he ⟨rfl,rfl⟩ ?_ ?_ ?_
  ·rintro k ⟨s1,s2⟩ hk ⟨e0,e1⟩;simp only at e0 e1;subst e0;subst e1;have x1:p.aY[k]? =some (p.aY[k]'hk):=dF _;generalize p.aY[k]'hk=d at x1;simp only[cy x1,cP,bT x1,cN,f128_eq _ (ht d (gN x1)),dp he x1,wb];simp_all[Pm]
  all_goals grind
 grind
theorem RL(a b:Int):jZ a b=a\/jZ a b=b:=by unfold jZ;grind
theorem RM(a b:Int):Ej a b=a\/Ej a b=b:=by unfold Ej;grind
theorem f72_ex(l:List Int)(hs:ck l)(h0:l≠[]): ∃m,f72 l=some m/\(m∈l/\ ∀x∈l,x<=m):=by
 have hl:=PX.2 h0;have vx:l.length<=4194304:=hs;have x0:l[0]? =some (l[0]'hl):=dF _;generalize l[0]'hl=y0 at x0;have i0:ix l 0=some y0:=bT (i:=0) x0;have c0:decide ((l.length:Int)<1)=false:=qf (by omega);unfold f72;simp only[c0,dv,cN,i0];refine eF (λk(s:Int×Int)=>s.2=((k+1:Nat):Int)/\s.1∈l/\ ∀x∈l.take (k+1),x<=s.1) (λm=>m∈l/\ ∀x∈l,x<=m) (l.length-1) (by omega) ⟨rfl,gN x0,λx hx=>?_⟩ ?_ ?_ ?_
 ·simp_all[cz]
 ·rintro k ⟨s1,s2⟩ hk ⟨e0,e1,e2⟩;simp only at e0 e1 e2;subst e0;have x1:l[k+1]? =some (l[k+1]'(by omega)):=dF _;generalize l[k+1]'(by omega)=y at x1;simp only[cy x1,cP,bT x1,cN,dp hs x1];refine .inl ⟨_,rfl,rfl,?_,λx hx=>?_⟩
  ·grind [RL]
  ·have:= @xK s1 y;rw[cz x1,oq]at hx
   grind
 all_goals grind
theorem f84_one(l:List Int)(c:Int)(hs:ck l)(h0:l≠[])(h: ∀x∈l,x=c):f84 l=some c:=by
 have hl:=PX.2 h0;have vx:l.length<=4194304:=hs;have x0:l[0]? =some (l[0]'hl):=dF _;generalize l[0]'hl=y0 at x0;have:=h y0 (gN x0);subst this;have i0:ix l 0=some y0:=bT (i:=0) x0;have c0:decide ((l.length:Int)<1)=false:=qf (by omega);have key: ∃m,f84 l=some m/\m=y0:=by
  unfold f84;simp only[c0,dv,cN,i0];refine eF (λk(s:Int×Int)=>s.2=((k+1:Nat):Int)/\s.1=y0) (λm=>m=y0) (l.length-1) (by omega) ⟨rfl,rfl⟩ ?_ ?_ ?_
  ·rintro k ⟨s1,s2⟩ hk ⟨e0,e1⟩;simp only at e0 e1;subst e0;subst e1;have x1:l[k+1]? =some (l[k+1]'(by omega)):=dF _;generalize l[k+1]'(by omega)=y at x1;have:=h y (gN x1);subst this;simp only[cy x1,cP,bT x1,cN,dp hs x1]
   grind [RM]
  all_goals grind
 grind
structure nM (p:cD):Prop where
 i:instS p.instrument=0
 e:kH p.instrument p.aY
 l:p.aY.length<=400
def lj(p:cD):Int:=(jz p.aY p.aY.length:Int)
theorem nM.bd{p:cD}(h:nM p):0<=lj p/\lj p<=307200:=by
 have:=Pf h.e p.aY.length (fw _);have:=h.l;unfold lj;omega
theorem nM.copy{p:cD}(h:nM p):f73 p=some (p.instrument.bQ,p.instrument.br,p.aY):=by
 obtain⟨h1,h2,_⟩:=instS_ok h.i;have hl:=h.l;refine f73_eq p (by grind) (by grind) (by grind) λe he=>?_;obtain⟨i,hi,rfl⟩:=qZ he;have:=h.e.Wl (dF hi)
 grind
theorem f71_y(ps:List cD)(h0:ps≠[])(h6:ps.length<=6)(hg: ∀p∈ps,nM p):f71 ps=some (ps.map lj,0):=by
 have hl:=PX.2 h0;have hs:ck ps:=by grind
 have c0:decide ((ps.length:Int)=0)=false:=qf (by omega);have c1:decide (6<(ps.length:Int))=false:=qf (by omega);have key: ∃r,f71 ps=some r/\r=(ps.map lj,0):=by
  unfold f71;simp only[c0,c1,dv];refine eF (λk(s:List Int×Int)=>s.2=(k:Int)/\s.1=(ps.take k).map lj) (λr=>r=.inl (ps.map lj)) ps.length (by omega) ⟨rfl,rfl⟩ ?_ ?_ ?_
  ·rintro k ⟨s1,s2⟩ hk ⟨e0,e1⟩;simp only at e0 e1;subst e0;subst e1;have x1:ps[k]? =some (ps[k]'hk):=dF _;generalize ps[k]'hk=p at x1;have hp:=hg p (gN x1);have w1:wr (((xj p.aY).length:Int)-1)=(p.aY.length:Int):=by
    have:=hp.l
    grind [FV,jx]
   have m1:((ps.take k).map lj).length+1<=bc:=by simp;unfold bc;omega
   simp only[cy x1,cP,bT x1,cN,f126_y p hp.i hp.e hp.l,qd,qe,fZ,dv,w1,bT (vc (E:=p.aY) (fw _)),cQ m1,dp hs x1];refine .inl ⟨_,rfl,rfl,?_⟩;rw[cz x1,F4];rfl
  all_goals grind
 grind
theorem f11_y(c:dP)(M:Int)(h0:c.pieces≠[])(h6:c.pieces.length<=6)(hg: ∀p∈c.pieces,nM p)(hM: ∀p∈c.pieces,lj p=M):f11 c=some 0:=by
 have hl:=PX.2 h0;have hs:ck (c.pieces.map lj):=by grind
 have fG:c.pieces.map lj≠[]:=by grind
 have jB: ∀x∈c.pieces.map lj,x=M:=λx hx=>by
  grind
 obtain⟨m,m1,m2,_⟩:=f72_ex _ hs fG;have:=jB m m2;subst this;have x0:(c.pieces.map lj)[0]? =some ((c.pieces.map lj)[0]'(by grind)):=dF _;have i0:ix (c.pieces.map lj) 0=some _:=bT (i:=0) x0;unfold f11 f29;simp_all[f71_y,f84_one]
structure BU (p q:cD):Prop where
 i:q.instrument=p.instrument
 e: ∃S:List cB,q.aY=p.aY++S.map (fS false)/\ ∀s∈S,s∈gF
 l:q.aY.length<=400
theorem Pn{a:bp}{E:List bJ}{S:List cB}(h:kH a E)(hS: ∀s∈S,s∈gF):kH a (E++S.map (fS false)):=by
 by_cases h0:S=[]
 ·grind
 have:=kH.nx (K:=[]) (F:=S.map (fS false)) h (λx hx=>by cases hx) (λj d hd=>by
  rw[xR]at hd;obtain⟨s,s1,rfl⟩:=L2.1 hd;exact⟨⟨rfl,hS s (gN s1),(λe=>by cases e),List.Pairwise.nil⟩,λs hs=>by cases hs⟩) (by simpa using h0) (λx hx=>by cases hx)
 rwa[H8]at this
theorem BU.Po{p q:cD}(h:BU p q)(hp:nM p):nM q:=by
 obtain⟨S,h1,h2⟩:=h.e;refine⟨by rw[h.i];exact hp.i,?_,h.l⟩;rw[h.i,h1];exact Pn hp.e h2
theorem LF{E:List bJ}{S:List cB}:jz (E++S.map (fS false)) (E++S.map (fS false)).length=jz E E.length+kr S:=by
 have:=H2 (K:=[]) (F:=S.map (fS false)) (E:=E);rw[H8]at this;rw[this,Dp (f:=fS false) (λs=>rfl)]
theorem f24_ex(ps:List cD)(h0:ps≠[])(h6:ps.length<=6)(hg: ∀p∈ps,nM p): ∃r,f24 ps=some r/\(r.2=0->r.1.pieces.length=ps.length/\ ∃M:Int,∀(i:Nat)p,ps[i]? =some p-> ∃q,r.1.pieces[i]? =some q/\BU p q/\lj q=M):=by
 have hl:=PX.2 h0;have hs:ck ps:=by grind
 have Od:ck (ps.map lj):=by grind
 obtain⟨M,m1,m2,m3⟩:=f72_ex (ps.map lj) Od (by grind);obtain⟨pM,hpM,eM⟩:=mS.1 m2;have bM:=(hg pM hpM).bd;rw[eM]at bM;unfold f24;simp only[f71_y ps h0 h6 hg,cN,qd,qe,fZ,dv,m1];refine eF (λk(s:List cD×Int)=>s.2=(k:Int)/\s.1.length=k/\ ∀(i:Nat)p,i<k->ps[i]? =some p-> ∃q,s.1[i]? =some q/\BU p q/\lj q=M)
  (λo=>match o with
   |.inl l=>l.length=ps.length/\ ∀(i:Nat)p,ps[i]? =some p-> ∃q,l[i]? =some q/\BU p q/\lj q=M
   |.inr r=>r.2≠0) ps.length (by omega) ⟨rfl,rfl,λi p hi=>by omega⟩ ?_ ?_ ?_
 ·rintro k ⟨s1,s2⟩ hk ⟨e0,e1,e2⟩;simp only at e0 e1 e2;subst e0;have x1:ps[k]? =some (ps[k]'hk):=dF _;generalize ps[k]'hk=p at x1;have hp:=hg p (gN x1);have x2:(ps.map lj)[k]? =some (lj p):=by grind
  have b1:=hp.bd;have b2:=m3 (lj p) (gN x2);have w1:wr (M-lj p)=M-lj p:=jx (by omega) (by omega);obtain⟨⟨S,er⟩,r1,r2⟩:=f61_ex (M-lj p);simp only at r2;simp only[cy x1,cP,bT x1,bT x2,cN,w1,r1];by_cases c1:er=0
  case neg=>
   simp_all
  subst c1;obtain⟨q1,q2,q3,q4⟩:=r2 rfl;have hSl:=uU q4;have wm:=hp.l;have w2:wr ((p.aY.length:Int)+(S.length:Int))=((p.aY.length+S.length:Nat):Int):=by grind [jx]
  simp only[qd,qe,fZ,dv,w2];by_cases c2:400<((p.aY.length+S.length:Nat):Int)
  ·simp_all
  simp only[c2,fZ,dv,hp.copy,cN];have hSs:ck S:=by grind
  have inner: ∃r,bO (σ:=(List bJ×Int)) (τ:=(List bJ)) (λ((Dr,Pp):(List bJ×Int))=>bif (decide (Pp<(S.length:Int)))then((ix S Pp).bind λOE=>bZ (Dr.length+1<=bc)<|some (.inl ((Dr++([(⟨false,OE,false,([]:List cC)⟩:bJ)]:List bJ)),(wr (Pp+1)))))else(some (.inr Dr))) cr (p.aY,0)=some r/\r=p.aY++S.map (fS false):=by
   refine jt (λj(s:List bJ×Int)=>s.2=(j:Int)/\s.1=p.aY++(S.take j).map (fS false)) _ S.length hSs ⟨rfl,by simp⟩ ?_ ?_
   ·rintro j ⟨t1,t2⟩ hj ⟨f0,f1⟩;simp only at f0 f1;subst f0;subst f1;have y1:S[j]? =some (S[j]'hj):=dF _;generalize S[j]'hj=sg at y1;have mm:(p.aY++(S.take j).map (fS false)).length+1<=bc:=by simp;unfold bc;omega
    simp only[cy y1,cP,bT y1,cN,cQ mm,dp hSs y1];refine .inl ⟨_,rfl,rfl,?_⟩;rw[cz y1,F4,<-LZ];rfl
   grind
  obtain⟨r,i1,rfl⟩:=inner;have mm:s1.length+1<=bc:=by unfold bc;omega
  simp only[i1,cN,cQ mm,dp hs x1];refine .inl ⟨_,rfl,rfl,by simp[e1],λi p' hi DN=>?_⟩;by_cases hik:i<k
  ·grind
  ·have:i=k:=by omega
   subst this;rw[x1]at DN;cases DN;refine⟨⟨⟨p.instrument.bQ,p.instrument.br⟩,p.aY++S.map (fS false)⟩,by grind,⟨rfl,⟨S,rfl,q4⟩,by simp;omega⟩,?_⟩;have e:jz (p.aY++S.map (fS false)) (p.aY++S.map (fS false)).length=jz p.aY p.aY.length+kr S:=LF;show((jz (p.aY++S.map (fS false)) (p.aY++S.map (fS false)).length:Nat):Int)=M;rw[e];have q3:(kr S:Int)=M-(jz p.aY p.aY.length:Int):=q3;omega
 ·rintro⟨s1,s2⟩ ⟨e0,e1,e2⟩;simp_all[lf]
 ·rintro(l|r) h
  ·exact⟨_,rfl,λ_=>⟨h.1,M,h.2⟩⟩
  grind
def gU(P:List (List bH))(l:List Int):List (List bH):=l.map λn=>(P[n.toNat]?).getD []
structure mD (n:Nat) (l:List Int):Prop where
 r: ∀x∈l,0<=x/\x<(n:Int)
 a:l.Pairwise (· < ·)
theorem ixI{α:Type}{l:List α}{x:Int}(h0:0<=x)(h1:x<(l.length:Int)): ∃y,ix l x=some y/\(l[x.toNat]?)=some y:=by
 have h2:l[x.toNat]? =some (l[x.toNat]'(by omega)):=dF _
 grind [U2]
theorem wa{P:List (List bH)}{l:List Int}{k:Nat}{x:Int}{y:List bH}(h:l[k]? =some x)(hy:P[x.toNat]? =some y):gU P (l.take (k+1))=gU P (l.take k)++[y]:=by
 unfold gU;simp_all[cz]
theorem f22_ex(P:List (List bH))(l:List Int)(hP:ck P)(hl:ck l): ∃r,f22 P l=some r/\(r.2=true->r.1=gU P l/\mD P.length l):=by
 have Gb:l.length<=4194304:=hl;unfold f22;refine eF (λk(s:List (List bH)×Int×Int)=>s.2.2=(k:Int)/\s.1=gU P (l.take k)/\mD P.length (l.take k)/\ -1<=s.2.1/\ ∀x∈l.take k,x<=s.2.1)
  (λo=>match o with
   |.inl a=>a=gU P l/\mD P.length l
   |.inr r=>r.2=false) l.length hl ⟨rfl,rfl,⟨by simp,by simp⟩,Int.le_refl _,by simp⟩ ?_ ?_ ?_
 ·rintro k ⟨s1,s2,s3⟩ hk ⟨e0,e1,e2,e3,e4⟩;simp only at e0 e1 e2 e3 e4;subst e0;subst e1;have x1:l[k]? =some (l[k]'hk):=dF _;generalize l[k]'hk=x at x1;simp only[cy x1,cP,bT x1,cN];by_cases c1:x<=s2
  ·simp_all
  simp only[c1,fZ,dv,cN];by_cases c2:(P.length:Int)<=x
  ·simp_all
  obtain⟨y,y1,y2⟩:=ixI (l:=P) (x:=x) (by omega) (by omega);have m1:(gU P (l.take k)).length+1<=bc:=by unfold gU;simp;unfold bc;omega
  simp only[c2,fZ,dv,y1,cN,cQ m1,dp hl x1];refine .inl ⟨_,rfl,rfl,(wa x1 y2).symm,⟨λz hz=>?_,?_⟩,by grind,λz hz=>?_⟩
  ·rw[cz x1,oq]at hz;rcases hz with hz|hz
   ·exact e2.r z hz
   grind
  ·rw[cz x1];exact Wu.2 ⟨e2.a,List.pairwise_singleton _ _,λa ha b hb=>by grind⟩
  ·rw[cz x1,oq]at hz
   grind
 ·simp_all
 ·rintro(a|r) h
  all_goals simp_all
theorem VA{l:List Int}(h:l.Pairwise (· < ·)){k:Nat}{a b:Int}(ha:l[k]? =some a)(hb:l[k+1]? =some b):a<b:=by
 grind [List.pairwise_iff_getElem]
theorem f5_ex(P:List (List bH))(D:List kF)(hP:ck P)(hD:ck D)(hd: ∀d∈D,ck d.bW): ∃b,f5 P D=some b/\(b=false->jd P=0->D.length<=6->(∀d∈D,mD P.length d.bW)-> ∀d∈D,nw (gU P d.bW) d.instrument=0->(gU P d.bW).length<=4):=by
 unfold f5;rw[f14_eq P hP];simp only[cN];by_cases c0:jd P=0
 case neg=>
  simp_all
 simp only[c0,qd,qe,fZ,dv];refine eF (λk(s:Int)=>s=(k:Int)/\((∀d∈D,mD P.length d.bW)-> ∀d∈D.take k,nw (gU P d.bW) d.instrument=0->(gU P d.bW).length<=4))
  (λo=>match o with
   |.inl _=>D.length<=6->(∀d∈D,mD P.length d.bW)-> ∀d∈D,nw (gU P d.bW) d.instrument=0->(gU P d.bW).length<=4
   |.inr b=>b=false-> ¬ ∀d∈D,mD P.length d.bW) D.length hD ⟨rfl,by simp⟩ ?_ ?_ ?_
 ·rintro k s hk ⟨rfl,hI⟩;have x1:D[k]? =some (D[k]'hk):=dF _;generalize D[k]'hk=d at x1;have hm:=gN x1;have RN:=hd d hm;have abk:d.bW.length<=4194304:=RN;simp only[cy x1,cP,cN];by_cases c1:(D.length:Int)<=6
  case neg=>
   simp only[c1,fZ,dv]
   grind
  simp only[c1,ju,cP];have key: ∃o,bO (σ:=(List (List bH)×Int)) (τ:=((List (List bH))⊕(Int⊕(Unit⊕Bool)))) (λ((VB,vZ):(List (List bH)×Int))=>(ix D (k:Int)).bind λy5=>bif (decide (vZ<(y5.bW.length:Int)))then((ix y5.bW vZ).bind λy7=>((bif (decide (y7<0))then(some true)else(bif (decide ((P.length:Int)<=y7))then(some true)else(bif (decide (0<vZ))then((ix y5.bW (wr (vZ-1))).bind λy11=>some (decide (y7<=y11)))else(some false)))):Option Bool).bind λ(YF:Bool)=>bif YF then(some (.inr (.inr (.inr (.inr false)))))else((ix P y7).bind λSQ=>bZ (VB.length+1<=bc)<|some (.inl ((VB++([SQ]:List (List bH))),(wr (vZ+1))))))else(some (.inr (.inl VB)))) cr (([]:List (List bH)),0)=some o/\
    (match o with
     |.inl a=>a=gU P d.bW
     |.inr x=>x=.inr (.inr false)/\ ¬mD P.length d.bW):=by
   refine jt (λj(s:List (List bH)×Int)=>s.2=(j:Int)/\s.1=gU P (d.bW.take j)) _ d.bW.length RN ⟨rfl,rfl⟩ ?_ ?_
   ·rintro j ⟨t1,t2⟩ hj ⟨f0,f1⟩;simp only at f0 f1;subst f0;subst f1;have y1:d.bW[j]? =some (d.bW[j]'hj):=dF _;generalize d.bW[j]'hj=x at y1;have hx:=gN y1;simp only[bT x1,cN,cy y1,cP,bT y1];by_cases d1:x<0
    ·simp only[d1,ju,cP,cN];exact .inr ⟨_,rfl,rfl,λh=>by have:=h.r x hx;omega⟩
    simp only[d1,fZ,dv];by_cases d2:(P.length:Int)<=x
    ·simp only[d2,ju,cP,cN];exact .inr ⟨_,rfl,rfl,λh=>by have:=h.r x hx;omega⟩
    obtain⟨y,z1,z2⟩:=ixI (l:=P) (x:=x) (by omega) (by omega);have m1:(gU P (d.bW.take j)).length+1<=bc:=by unfold gU;simp;unfold bc;omega
    simp only[d2,fZ,dv];have go: ∃s',some (Sum.inl (β:=(List (List bH))⊕(Int⊕(Unit⊕Bool))) ((gU P (d.bW.take j)++([y]:List (List bH))),(((j+1:Nat):Int))))=some (.inl s')/\s'.2=((j+1:Nat):Int)/\s'.1=gU P (d.bW.take (j+1)):=⟨_,rfl,rfl,(wa y1 z2).symm⟩;by_cases d3:(0:Int)<(j:Int)
    ·have y0:d.bW[j-1]? =some (d.bW[j-1]'(by omega)):=dF _;generalize d.bW[j-1]'(by omega)=x0 at y0;have w1:wr ((j:Int)-1)=((j-1:Nat):Int):=by grind [jx]
     simp only[d3,ju,cP,w1,bT y0,cN];by_cases d4:x<=x0
     ·simp only[d4,ju,cP];refine .inr ⟨_,rfl,rfl,λh=>?_⟩;have:=VA h.a y0 (by rw[show j-1+1=j by omega];exact y1);omega
     ·simp only[d4,fZ,dv,z1,cN,cQ m1,dp RN y1];exact .inl go
    ·simp only[d3,fZ,dv,cN,z1,cQ m1,dp RN y1];exact .inl go
   simp_all[bT]
  obtain⟨o,k1,k2⟩:=key;simp only[k1,cN];rcases o with a|x
  ·simp only at k2;subst k2;have LD:ck (gU P d.bW):=by unfold gU;grind
   obtain⟨b,b1,b2⟩:=f15_4 ⟨gU P d.bW,d.instrument,d.hand,d.shift⟩ LD;simp only[BX,bT x1,cN,b1];cases b with
   |true=>grind
   |false=>
    simp only[dv];refine .inl ⟨_,rfl,dp hD x1,λhv d' LL=>?_⟩;rw[cz x1,oq]at LL
    grind
  grind
 ·simp_all
 ·rintro(u|b) h
  ·simp_all
  ·exact⟨_,rfl,λe _ _ hv=>absurd hv (h e)⟩
structure YG (P:List (List bH)) (D:List kF) (c:dP) (S:List cW):Prop where
 d6:D.length<=6
 d0:D≠[]
 v: ∀d∈D,mD P.length d.bW
 sl:S.length=D.length
 s: ∀(i:Nat)d,D[i]? =some d-> ∃s,S[i]? =some s/\lq (gU P d.bW) d.instrument d.shift s
 cl:c.pieces.length=D.length
 c: ∃M:Int,∀(i:Nat)s,S[i]? =some s-> ∃q,c.pieces[i]? =some q/\BU s.bE q/\lj q=M
theorem lq.Po{P:List (List bH)}{a:bp}{sh:Int}{s:cW}(h:lq P a sh s):nM s.bE:=by
 obtain⟨T,L,X,h1,_⟩:=h.set;exact⟨by rw[h.ai];exact h.ins,by rw[h.ai];exact h1.ev,h.el⟩
theorem f7_ex(P:List (List bH))(D:List kF)(hP:ck P)(hD:ck D)(hd: ∀d∈D,ck d.bW)
  (hn:jd P=0->D.length<=6->(∀d∈D,mD P.length d.bW)-> ∀d∈D,nw (gU P d.bW) d.instrument=0->(gU P d.bW).length<=4): ∃r,f7 P D=some r/\(r.2.2=0->YG P D r.1 r.2.1):=by
 have hD':D.length<=4194304:=hD;unfold f7;rw[f21_eq P hP];simp only[cN];by_cases c0:jd P=0
 case neg=>
  simp_all
 simp only[c0,qd,qe,fZ,dv];by_cases c1:(D.length:Int)=0
 ·simp_all
 by_cases c2:6<(D.length:Int)
 ·simp_all
 simp only[c1,c2,fZ,dv];have h6:D.length<=6:=by omega
 have h0:D≠[]:=λe=>by grind
 refine eF (λk(s:List (List (List bH))×Int)=>s.2=(k:Int)/\s.1=(D.take k).map (λd=>gU P d.bW)/\ ∀d∈D.take k,mD P.length d.bW)
  (λo=>match o with
   |.inl a=>a=D.map (λd=>gU P d.bW)/\ ∀d∈D,mD P.length d.bW
   |.inr r=>r.2.2≠0) D.length hD ⟨rfl,rfl,by simp⟩ ?_ ?_ ?_
 ·rintro k ⟨s1,s2⟩ hk ⟨e0,e1,e2⟩;simp only at e0 e1 e2;subst e0;subst e1;have x1:D[k]? =some (D[k]'hk):=dF _;generalize D[k]'hk=d at x1;obtain⟨⟨a,b⟩,r1,r2⟩:=f22_ex P d.bW hP (hd d (gN x1));simp only[cy x1,cP,bT x1,cN,r1];cases b with
  |false=>simp_all
  |true=>
   obtain⟨q1,q2⟩:=r2 rfl;simp only at q1;subst q1;have m1:((D.take k).map λd=>gU P d.bW).length+1<=bc:=by simp;unfold bc;omega
   simp only[pV,dv,cQ m1,dp hD x1];refine .inl ⟨_,rfl,rfl,?_,λd' LL=>?_⟩
   ·rw[cz x1,F4];rfl
   ·rw[cz x1,oq]at LL
    grind
 ·simp_all
 rintro(a|r) h
 case inr=>grind
 obtain⟨rfl,hv⟩:=h;simp only[BX];have mK:=hn c0 h6 hv;refine eF (λk(s:List cW×List cD×Int)=>s.2.2=(k:Int)/\s.1.length=k/\s.2.1=s.1.map cW.bE/\ ∀(i:Nat)d,i<k->D[i]? =some d-> ∃q,s.1[i]? =some q/\lq (gU P d.bW) d.instrument d.shift q)
  (λo=>match o with
   |.inl a=>a.1.length=D.length/\a.2=a.1.map cW.bE/\ ∀(i:Nat)d,D[i]? =some d-> ∃q,a.1[i]? =some q/\lq (gU P d.bW) d.instrument d.shift q
   |.inr r=>r.2.2≠0) D.length hD ⟨rfl,rfl,rfl,λi d hi=>by omega⟩ ?_ ?_ ?_
 ·rintro k ⟨s1,s2,s3⟩ hk ⟨e0,e1,e2,e3⟩;simp only at e0 e1 e2 e3;subst e0;subst e2;have x1:D[k]? =some (D[k]'hk):=dF _;generalize D[k]'hk=d at x1;have x2:(D.map λd=>gU P d.bW)[k]? =some (gU P d.bW):=by grind
  have hm:=gN x1;have RN:d.bW.length<=4194304:=hd d hm;have LD:ck (gU P d.bW):=by unfold gU;grind
  obtain⟨⟨s,er⟩,r1,r2⟩:=f23_gen (gU P d.bW) d.instrument d.hand d.shift LD (mK d hm);simp only[cy x1,cP,bT x1,bT x2,cN,r1];by_cases g:er=0
  case neg=>
   simp_all
  subst g;have m1:s1.length+1<=bc:=by unfold bc;omega
  have m2:(s1.map cW.bE).length+1<=bc:=by grind
  simp only[qd,qe,fZ,dv,cQ m1,cQ m2,dp hD x1]
  grind
 ·rintro⟨s1,s2,s3⟩ ⟨e0,e1,e2,e3⟩;simp_all[lf]
 rintro(⟨S,ps⟩|r) h
 case inr=>grind
 obtain⟨s1,s2,s3⟩:=h;simp only at s1 s2 s3;subst s2;have YH: ∀p∈S.map cW.bE,nM p:=λp hp=>by
  obtain⟨s,hs,rfl⟩:=mS.1 hp;obtain⟨i,hi,rfl⟩:=qZ hs;obtain⟨q,q1,q2⟩:=s3 i _ (dF (show i<D.length by omega));rw[dF hi]at q1;cases q1;exact q2.Po
 have hS0:S≠[]:=λe=>by grind
 obtain⟨⟨c,er⟩,r1,r2⟩:=f24_ex (S.map cW.bE) (by simpa using hS0) (by simp;omega) YH;simp only[BX,r1,cN];by_cases g:er=0
 case neg=>
  simp_all
 subst g;obtain⟨t1,M,t2⟩:=r2 rfl;simp only[qd,qe,fZ,dv];exact⟨_,rfl,λ_=>⟨h6,h0,hv,s1,s3,by grind,M,λi s hs=>t2 i s.bE (by grind)⟩⟩
theorem f6_eq:f6=some true:=by kernel_rfl
theorem mX{τ:Type}{body:Int->Option (Int⊕(Unit⊕τ))}{n:Nat}(hn:n<=4194304)(hb: ∀k:Nat,k<n->body (k:Int)=some (.inl ((k+1:Nat):Int)))(he:body (n:Int)=some (.inr (.inl ()))):bO body cr 0=some (.inl ()):=by
 obtain⟨r,h1,h2⟩:=jt (body:=body) (λk(s:Int)=>s=(k:Int)) (λr=>r=.inl ()) n (s0:=0) hn rfl (λk s hk hs=>by grind) (λs hs=>by grind);rw[h1,h2]
theorem f39_refl(l:List cC)(hs:ck l):f39 l l=some true:=by
 unfold f39;simp only[qd,qe,fZ,dv];rw[mX (n:=l.length) hs (λk hk=>?_) (by simp)]
 ·rfl
 ·have x1:l[k]? =some (l[k]'hk):=dF _;generalize l[k]'hk=x at x1;simp only[cy x1,cP,bT x1,cN,show zG x x=true from by simp[zG],pV,dv,dp hs x1]
theorem f38_refl(e:bJ)(hs:ck e.cR):f38 e e=some true:=by
 unfold f38;simp only[beq_self_eq_true,cP,show kX e.sign e.sign=true from by simp[kX],f39_refl _ hs,cN]
theorem f37_refl(l:List bJ)(hs:ck l)(h: ∀e∈l,ck e.cR):f37 l l=some true:=by
 unfold f37;simp only[qd,qe,fZ,dv];rw[mX (n:=l.length) hs (λk hk=>?_) (by simp)]
 ·rfl
 ·have x1:l[k]? =some (l[k]'hk):=dF _;generalize l[k]'hk=x at x1;simp only[cy x1,cP,bT x1,cN,f38_refl x (h x (gN x1)),pV,dv,dp hs x1]
theorem f36_refl(a:bp)(h1:ck a.bQ)(h2:ck a.br):f36 a a=some true:=by
 unfold f36;simp only[qd,qe,fZ,dv,cN];rw[mX (n:=a.bQ.length) h1 (λk hk=>?_) (by simp)]
 ·simp only[cN,BX];rw[mX (n:=a.br.length) h2 (λk hk=>?_) (by simp)]
  ·rfl
  ·have x1:a.br[k]? =some (a.br[k]'hk):=dF _;generalize a.br[k]'hk=x at x1;simp only[cy x1,cP,bT x1,cN,qe,fZ,dv,dp h2 x1]
 ·have x1:a.bQ[k]? =some (a.bQ[k]'hk):=dF _;generalize a.bQ[k]'hk=x at x1;simp only[cy x1,cP,bT x1,cN,show sY x x=true from by simp[sY],pV,dv,dp h1 x1]
theorem nM.same{p:cD}(h:nM p):f13 p p=some true:=by
 obtain⟨h1,h2,_⟩:=instS_ok h.i;have hl:=h.l;unfold f13;rw[f36_refl p.instrument (by grind) (by grind)];simp only[cN,cP];rw[f37_refl p.aY (by grind) λe he=>by
  obtain⟨i,hi,rfl⟩:=qZ he;have:=h.e.Wl (dF hi)
  grind]
 rfl
theorem f4_y(P:List (List bH))(D:List kF)(hP:ck P)(hD:ck D)(hd: ∀d∈D,ck d.bW):f4 P D=some true:=by
 have main: ∃b,f4 P D=some b/\b=true:=by
  obtain⟨b,b1,b2⟩:=f5_ex P D hP hD hd;unfold f4;rw[b1];simp only[cN,f6_eq];cases b with
  |true=>grind
  |false=>
  simp only[dv];obtain⟨⟨c,S,er⟩,r1,r2⟩:=f7_ex P D hP hD hd (b2 rfl);simp only[r1,cN];by_cases g:er=0
  case neg=>
   simp_all
  subst g;obtain⟨d6,d0,hv,sl,hs,cl,M,hc⟩:=r2 rfl;simp only at sl hs cl hc;have hD':D.length<=4194304:=hD;have hq: ∀q∈c.pieces,nM q/\lj q=M:=λq hq=>by
   obtain⟨i,hi,rfl⟩:=qZ hq;obtain⟨s,s1,s2⟩:=hs i _ (dF (show i<D.length by omega));obtain⟨q',q1,q2,q3⟩:=hc i s s1;rw[dF hi]at q1;cases q1;exact⟨q2.Po s2.Po,q3⟩
  have WV:f11 c=some 0:=f11_y c M (λe=>by grind) (by omega) (λq h=>(hq q h).1) (λq h=>(hq q h).2);have e1:decide ((S.length:Int)≠(D.length:Int))=false:=qf (by omega);have e2:decide ((c.pieces.length:Int)≠(D.length:Int))=false:=qf (by omega);simp only[qd,qe,fZ,dv,WV,cN,e1,e2];rw[mX (n:=D.length) hD (λk hk=>?_) (by simp)]
  ·simp_all
  have x1:D[k]? =some (D[k]'hk):=dF _;generalize D[k]'hk=d at x1;have hm:=gN x1;have RN:=hd d hm;have hvd:=hv d hm;obtain⟨s,s1,s2⟩:=hs k d x1;obtain⟨q,q1,q2,_⟩:=hc k s s1;have inner: ∃o,bO (σ:=(List (List bH)×Int)) (τ:=((List (List bH))⊕(Int⊕(Unit⊕Bool)))) (λ((Pq,Pr):(List (List bH)×Int))=>bif (decide (Pr<(d.bW.length:Int)))then((ix d.bW Pr).bind λGf=>((bif (decide (Gf<0))then(some true)else(some (decide ((P.length:Int)<=Gf)))):Option Bool).bind λ(YI:Bool)=>bif YI then(some (.inr (.inr (.inr (.inr false)))))else((ix P Gf).bind λy17=>bZ (Pq.length+1<=bc)<|some (.inl ((Pq++([y17]:List (List bH))),(wr (Pr+1))))))else(some (.inr (.inl Pq)))) cr (([]:List (List bH)),0)=some o/\o=.inl (gU P d.bW):=by
   have abk:d.bW.length<=4194304:=RN;refine jt (λj(s:List (List bH)×Int)=>s.2=(j:Int)/\s.1=gU P (d.bW.take j)) _ d.bW.length RN ⟨rfl,rfl⟩ ?_ ?_
   ·rintro j ⟨t1,t2⟩ hj ⟨f0,f1⟩;simp only at f0 f1;subst f0;subst f1;have y1:d.bW[j]? =some (d.bW[j]'hj):=dF _;generalize d.bW[j]'hj=x at y1;obtain⟨Zg,PK⟩:=hvd.r x (gN y1);obtain⟨y,z1,z2⟩:=ixI (l:=P) (x:=x) Zg PK;have c1: ¬x<0:=by omega
    have c2: ¬(P.length:Int)<=x:=by omega
    have m1:(gU P (d.bW.take j)).length+1<=bc:=by unfold gU;simp;unfold bc;omega
    simp only[cy y1,cP,bT y1,cN,c1,c2,fZ,dv,z1,cQ m1,dp RN y1]
    grind [wa]
   grind
  obtain⟨o,k1,rfl⟩:=inner;obtain⟨R,p1,p2⟩:=q2.e;have ql:q.aY.length=s.bE.aY.length+R.length:=by rw[p1];simp
  have c3: ¬(q.aY.length:Int)<(s.bE.aY.length:Int):=by omega
  have n1:(0:Int)<=(s.bE.aY.length:Int):=by omega
  have n2:((s.bE.aY.length:Int)).toNat<=q.aY.length:=by omega
  have hd1:(⟨q.instrument,((q.aY.take (s.bE.aY.length:Int).toNat).drop 0)⟩:cD)=s.bE:=by
   rw[q2.i,p1];simp
  have U4:(q.aY.take q.aY.length).drop (s.bE.aY.length:Int).toNat=R.map (fS false):=by
   grind
  have hRs:ck (R.map (fS false)):=by have:=q2.l;grind
  simp only[cy x1,cP,bT x1,cN,k1,BX,bT s1,f12_y s2,qd,qe,fZ,dv,bT q1,c3,cQ n1,cQ n2,hd1,s2.Po.same,pV,U4];rw[mX (n:=(R.map (fS false)).length) hRs (λj hj=>?_) (by simp)]
  ·grind [dp]
  ·have y1:(R.map (fS false))[j]? =some ((R.map (fS false))[j]'hj):=dF _;have y2:(R.map (fS false))[j]'hj=fS false (R[j]'(by grind)):=by simp
   rw[y2]at y1;generalize R[j]'(by grind)=sg at y1;simp only[cy y1,cP,bT y1,cN,fS,dv,LY,Int.natCast_zero,AX,fZ,dp hRs y1]
 grind
end Go.Proofs.YtgpciecmgoppiaaGreat
