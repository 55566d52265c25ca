/- Plain laws, joined by gen/joinH.py. -/
import Derived.Test.YtgpciecmgoppiaaGreatJD
set_option linter.all false
namespace Go.Proofs.YtgpciecmgoppiaaGreat
open Go Go.Am
set_option maxRecDepth 100000
def tg(i k:Nat)(l:cV):Bool:=decide (l.part=(i:Int))&&decide (l.fj=(k:Int))
def jA(X:List cV)(i k:Nat):List cV:=X.filter (tg i k)
def Twin(P:List (List bH))(W:List (List aQ))(i:Nat)(x:bH)(p:aQ):Prop:= ∃(i' k':Nat)(x':bH),i'<i/\ey P i' k'=some x'/\x'.bP=x.bP/\fM W i' k'=some p
def Z4(P:List (List bH))(W:List (List aQ))(i k:Nat)(x:bH)(p:aQ)(D:List cV):Prop:=(D=[]/\ ¬Twin P W i x p)\/(D=[⟨(i:Int),(k:Int),2,x.bP⟩]/\Twin P W i x p)
def aa7(a:bp)(sh:Int)(P:List (List bH))(E:List bJ)(L:List aX)(W:List (List aQ))(X:List cV)(i k:Nat)(x:bH):Prop:=
 ∃p,fM W i k=some p/\((p=⟨0,0⟩/\jA X i k=[⟨(i:Int),(k:Int),1,x.bP⟩])\/
  ∃(e:Nat)(D:List cV),p∈(eN a (wr (x.bU+sh))).1/\(jz E e:Int)=x.bP/\Z4 P W i k x p D/\
   ((jA X i k=D/\((∃n∈L,(⟨(i:Int),(k:Int)⟩:bX)∈n.bI/\n.cS=(e:Int))\/ ∃c,Rg E e p c/\x.dr<=(jz E c:Int)))\/
    ∃c,Nd E e p c/\(jz E c:Int)<x.dr/\jA X i k=D++[⟨(i:Int),(k:Int),3,(jz E c:Int)⟩]))
structure O9 (a:bp) (sh:Int) (P:List (List bH)) (T:Int) (E:List bJ) (L:List aX) (W:List (List aQ)) (X:List cV):Prop where
 ev:kH a E
 du:(jz E E.length:Int)=T
 lv: ∀n∈L,S0 P E W n
 ld:L.Pairwise λx y=>x.bL.aW≠y.bL.aW
 ws:FR P W
 fa: ∀(i k:Nat)x,ey P i k=some x->x.bP<T->aa7 a sh P E L W X i k x
 lo: ∀l∈X,∃(i k:Nat)(x:bH),l.part=(i:Int)/\l.fj=(k:Int)/\ey P i k=some x/\x.bP<T
 sp: ∀e s,fR E e s-> ∃(i k:Nat)(x:bH),ey P i k=some x/\x.bP=(jz E e:Int)/\fM W i k=some ⟨s.aW,s.ct⟩
def Dq(X:List cV):Prop:=X.Pairwise λx y=> ¬(x.part=y.part/\x.fj=y.fj)
theorem th{X:List cV}(h:Dq X){i k:Nat}{l:cV}(hl:l∈X)(hk:tg i k l=true):jA X i k=[l]:=by
 induction X with
 |nil=>simp at hl
 |cons y r ih=>
  rw[Dq,Dt]at h;simp[tg]at hk;rcases pU.1 hl with rfl|hl
  ·unfold jA;rw[List.filter_cons_of_pos (by simp[tg,hk])];congr 1;rw[zD6];intro z hz hq;simp[tg]at hq
   grind
  ·unfold jA;rw[List.filter_cons_of_neg]
   ·exact ih h.2 hl
   ·intro hq;simp[tg]at hq
    grind
theorem oQ{X:List cV}{i k:Nat}(h: ∀l∈X,¬(l.part=(i:Int)/\l.fj=(k:Int))):jA X i k=[]:=by
 unfold jA;rw[zD6];intro l hl hq;simp[tg]at hq
 grind
theorem rS{X Y:List cV}{i k:Nat}:jA (X++Y) i k=jA X i k++jA Y i k:=L4 ..
theorem rT{T:Int}{n:aX}{l:cV}(h:l∈jM T n): ∃m∈n.bI,l.part=m.part/\l.fj=m.fj:=by
 unfold jM at h;cases hc:decide (n.bL.aW=0)<;>rw[hc]at h
 ·obtain⟨m,h1,rfl⟩:=mS.1 h;exact⟨m,PW h1,rfl,rfl⟩
 ·obtain⟨m,h1,rfl⟩:=mS.1 h;exact⟨m,h1,rfl,rfl⟩
theorem rU{P:List (List bH)}{T:Int}{n:aX}{l:cV}(h:l∈mi P T n): ∃m∈n.bI,l.part=m.part/\l.fj=m.fj/\T<toOf P m:=by
 obtain⟨m,h1,rfl⟩:=mS.1 h;obtain⟨h2,h3⟩:=xQ.1 h1;exact⟨m,h2,rfl,rfl,by grind⟩
theorem JT{f:aX->List cV}{l:List aX}{R:aX->aX->Prop}(h1: ∀n∈l,∀x∈f n,∃m∈n.bI,x.part=m.part/\x.fj=m.fj)(h2: ∀n∈l,Dq (f n))(h3:l.Pairwise R)(h4: ∀n∈l,∀n'∈l,R n n'-> ∀m∈n.bI,m ∉ n'.bI):Dq (l.flatMap f):=by
 unfold Dq;rw[List.pairwise_flatMap];refine⟨h2,h3.imp_of_mem λ{n n'}hn mK hR x hx y hy PH=>?_⟩;obtain⟨m,m1,m2,m3⟩:=h1 n hn x hx;obtain⟨m',m4,m5,m6⟩:=h1 n' mK y hy;have:m=m':=by cases m;simp_all
 grind
theorem Ae{t kd:Int}{l:List bX}(h:l.Pairwise λa b=>a.part<b.part):Dq (l.map (pS t kd)):=by
 unfold Dq;rw[L3];exact h.imp λ{a b}Lc hq=>by have:a.part=b.part:=hq.1;omega
section
variable {P:List (List bH)} {W:List (List aQ)} {i k:Nat} {x:bH} {p q:aQ}
theorem Pa(h:FR P W)(hx:ey P i k=some x){m:bX}(hm:va P m):fM (H9 W m q) i k=bif decide (m=⟨(i:Int),(k:Int)⟩)then some q else fM W i k:=by
 obtain⟨i',k',y,rfl,hy⟩:=hm;obtain⟨w,w1,w2⟩:=h.get hy;rw[JQ w1];unfold fM
 grind
theorem Af(hx:ey P i k=some x): ∀{l:List bX}{W:List (List aQ)},FR P W->(∀m∈l,va P m)->fM (Ac W l q) i k=bif decide ((⟨(i:Int),(k:Int)⟩:bX)∈l)then some q else fM W i k
 | [],W,_,_=>by simp[Ac]
 |m::l,W,h,hm=>by
  have h1:=Af hx (l:=l) (JP (m:=m) (p:=q) h) λm' ve=>hm m' (by simp[ve]);have h2:=Pa (q:=q) h hx (hm m (by simp));show fM (Ac (H9 W m q) l q) i k=_;rw[h1,h2];by_cases c1:(⟨(i:Int),(k:Int)⟩:bX)∈l
  ·simp[c1]
  ·by_cases c2:m=⟨(i:Int),(k:Int)⟩
   ·subst c2;simp
   ·have c3: ¬(⟨(i:Int),(k:Int)⟩:bX)=m:=λh=>c2 h.symm;simp[c1,c2,c3]
theorem v7(hx:ey P i k=some x): ∀{l:List aX}{W:List (List aQ)},FR P W->(∀n∈l,∀m∈n.bI,va P m)->(∀n∈l,(⟨(i:Int),(k:Int)⟩:bX) ∉ n.bI)->fM (mI W l) i k=fM W i k
 | [],W,_,_,_=>rfl
 |n::l,W,h,hm,hn=>by
  have h1:=v7 hx (l:=l) (rR (l:=n.bI) (p:=n.bL) h) (λn' mK=>hm n' (by simp[mK])) λn' mK=>hn n' (by simp[mK]);have h2:=Af hx (q:=n.bL) h (hm n (by simp));show fM (mI (Ac W n.bI n.bL) l) i k=_;rw[h1,h2];have:=hn n (by simp);simp[this]
theorem BT(hx:ey P i k=some x): ∀{l:List aX}{W:List (List aQ)},FR P W->(∀n∈l,∀m∈n.bI,va P m)->(∀n∈l,(⟨(i:Int),(k:Int)⟩:bX)∈n.bI->n.bL=p)->(∃n∈l,(⟨(i:Int),(k:Int)⟩:bX)∈n.bI)->fM (mI W l) i k=some p
 | [],W,_,_,_,h=>by simp at h
 |n::l,W,h,hm,hn,he=>by
  show fM (mI (Ac W n.bI n.bL) l) i k=_;by_cases hq: ∃n∈l,(⟨(i:Int),(k:Int)⟩:bX)∈n.bI
  ·exact BT hx (rR h) (λn' mK=>hm n' (by simp[mK])) (λn' mK=>hn n' (by simp[mK])) hq
  ·rw[v7 hx (rR h) (λn' mK=>hm n' (by simp[mK])) λn' mK hc=>hq ⟨n',mK,hc⟩,Af hx (q:=n.bL) h (hm n (by simp))];obtain⟨n',h1,h2⟩:=he;rcases pU.1 h1 with rfl|h1
   ·rw[hn n' (by simp) h2];simp[h2]
   ·exact absurd ⟨n',h1,h2⟩ hq
end
section
variable {a:bp} {sh T:Int} {P:List (List bH)} {E:List bJ} {L B U:List aX} {S:List cB} {B' C L':List aX} {E':List bJ} {W:List (List aQ)} {X:List cV}
theorem O9.step(h:O9 a sh P T E L W X)(XS:H4 P)(hP:P.length<=6)(hB:Dm P T P.length 0 B)(hm:Mv a sh T E L B S B' C L' E')(hS:0<kr S)(T':Int)(hT:T'=T+kr S)(hnx: ∀(i k:Nat)x,ey P i k=some x->x.bP<T'->x.bP<=T):
   O9 a sh P T' E' L' (mI W B') (X++B'.flatMap (jM T)++C.flatMap (mi P T)):=by
 have hdu:=h.du;have yi: ∀n'∈B',n'.bI≠[]/\n'.bI.length<=6/\(n'.bI.Pairwise λa b=>a.part<b.part)/\(∀m∈n'.bI,∃(i k:Nat)(x:bH),m=⟨(i:Int),(k:Int)⟩/\ey P i k=some x/\x.bP=T/\x.bU=n'.bU/\x.dr<=n'.dr)/\
    (n'.bL=⟨0,0⟩\/n'.bL∈(eN a (wr (n'.bU+sh))).1/\n'∈L'/\n'.cS=(E.length:Int)):=λn' mK=>by
   obtain⟨n,n1,n2,n3,n4,n5⟩:=hm.b1 n' mK;have hn:=hB.no n n1;rw[n2,n3,n4];exact⟨hn.ne,by have:=hn.len;omega,hn.qM,λm hq=>by
    obtain⟨i',k',x,e1,_,e2,e3,e4,e5⟩:=hn.me m hq;exact⟨i',k',x,e1,e2,e3,e4,e5⟩,n5⟩
 have hbm: ∀n∈B',∀m∈n.bI,va P m:=λn hn m hq=>by
   obtain⟨i,k,x,e1,e2,_⟩:=(yi n hn).2.2.2.1 m hq;exact⟨i,k,x,e1,e2⟩
 have Yo: ∀n∈B',∀(i k:Nat)x,ey P i k=some x->(⟨(i:Int),(k:Int)⟩:bX)∈n.bI->x.bP=T/\x.bU=n.bU/\x.dr<=n.dr:=λn hn i k x hx hq=>by
   obtain⟨i',k',x',e1,e2,e3,e4,e5⟩:=(yi n hn).2.2.2.1 _ hq;simp at e1;obtain⟨e6,e7⟩:=e1;have:i=i':=by omega
   subst this;have:k=k':=by omega
   subst this;rw[hx]at e2;cases e2;exact⟨e3,e4,e5⟩
 have Qd:(B'.map aX.bU).Nodup:=by rw[hm.b3];exact hB.pi
 have hbu: ∀n∈B',∀n'∈B',n.bU=n'.bU->n=n':=λn hn n' mK he=>by
   obtain⟨i,hi,rfl⟩:=qZ hn;obtain⟨j,hj,rfl⟩:=qZ mK;have Qd:List.Pairwise _ (B'.map aX.bU):=Qd;rw[L3,Tc]at Qd;rcases Wx i j with c|c|c
   ·exact absurd he (Qd i j hi hj c)
   ·subst c;rfl
   ·exact absurd he.symm (Qd j i hj hi c)
 have Vq: ∀n∈B',∀n'∈B',∀m∈n.bI,m∈n'.bI->n=n':=λn hn n' mK m h1 h2=>by
   obtain⟨i,k,x,rfl,hx,_⟩:=(yi n hn).2.2.2.1 m h1;exact hbu n hn n' mK (by rw[<-(Yo n hn i k x hx h1).2.1,(Yo n' mK i k x hx h2).2.1])
 have hKF:Dq (B'.flatMap (jM T)):=JT (R:=λx y=>x.bU≠y.bU) (λn _ x hx=>rT hx) (λn hn=>by
   unfold jM;have hp:=(yi n hn).2.2.1;cases decide (n.bL.aW=0)
   ·exact Ae (hp.sublist (List.drop_sublist ..))
   ·exact Ae hp) (by rw[<-L3];exact Qd) λn hn n' mK hR m h1 h2=>hR (by rw[Vq n hn n' mK m h1 h2])
 have Yp: ∀n∈L,∃e:Nat,n.cS=(e:Int)/\Rg E e n.bL E.length/\jz E e<jz E E.length/\ ∀(i k:Nat)x,ey P i k=some x->(⟨(i:Int),(k:Int)⟩:bX)∈n.bI->x.dr<=n.dr/\fM W i k=some n.bL/\x.bP=(jz E e:Int):=λn hn=>by
   obtain⟨e,e1,e2,e3⟩:=(h.lv n hn).ev;refine⟨e,e1,e2,uY h.ev e2.lt (fw _),λi k x hx hq=>?_⟩;obtain⟨i',k',x',f1,f2,f3,f4,f5⟩:=e3 _ hq;simp at f1;obtain⟨e6,e7⟩:=f1;have:i=i':=by omega
   subst this;have:k=k':=by omega
   subst this;rw[hx]at f2;cases f2;exact⟨f3,f4,f5⟩
 have hlu: ∀n∈L,∀n'∈L,∀m∈n.bI,m∈n'.bI->n=n':=λn hn n' mK m h1 h2=>by
   obtain⟨e,_,_,e3⟩:=(h.lv n hn).ev;obtain⟨i,k,x,rfl,hx,_⟩:=e3 m h1;obtain⟨_,_,_,_,q1⟩:=Yp n hn;obtain⟨_,_,_,_,q2⟩:=Yp n' mK;have r1:=(q1 i k x hx h1).2.1;have r2:=(q2 i k x hx h2).2.1;rw[r1]at r2;exact S1 h.ld hn mK (by rw[Option.some.inj r2])
 have hKC:Dq (C.flatMap (mi P T)):=JT (R:=λx y=>x.bL.aW≠y.bL.aW) (λn _ x hx=>by
   obtain⟨m,m1,m2,m3,_⟩:=rU hx;exact⟨m,m1,m2,m3⟩) (λn hn=>Ae ((h.lv n (hm.cL n hn)).qM.sublist zD7)) hm.cd λn hn n' mK hR q h1 h2=>hR (by rw[hlu n (hm.cL n hn) n' (hm.cL n' mK) q h1 h2])
 have Yq: ∀(i k:Nat)x,ey P i k=some x->x.bP≠T->fM (mI W B') i k=fM W i k:=λi k x hx ht=>v7 hx h.ws hbm λn hn hq=>ht (Yo n hn i k x hx hq).1;have Yr: ∀(i k:Nat)x n',ey P i k=some x->n'∈B'->(⟨(i:Int),(k:Int)⟩:bX)∈n'.bI->fM (mI W B') i k=some n'.bL:=λi k x n' hx mK hq=>BT hx h.ws hbm (λn hn Q0=>by rw[Vq n hn n' mK _ Q0 hq]) ⟨n',mK,hq⟩;have OQ: ∀(i k:Nat)x,ey P i k=some x->x.bP=T-> ∃n'∈B',(⟨(i:Int),(k:Int)⟩:bX)∈n'.bI:=λi k x hx ht=>by
   have hi:i<P.length:=by
    unfold ey at hx;cases hp:P[i]? with
    |none=>rw[hp]at hx;simp at hx
    |some p=>exact(lf.1 hp).1
   obtain⟨n,n1,n2⟩:=hB.al i k x (.inl hi) hx ht;obtain⟨n',n3,n4⟩:=hm.b2 n n1;exact⟨n',n3,by rw[n4];exact n2⟩
 have XD: ∀(i k:Nat)x,ey P i k=some x->x.bP≠T->jA (B'.flatMap (jM T)) i k=[]:=λi k x hx ht=>oQ λl hl hq=>by
   obtain⟨n,n1,n2⟩:=tw.1 hl;obtain⟨m,m1,m2,m3⟩:=rT n2;have:m=⟨(i:Int),(k:Int)⟩:=by cases m;simp at m2 m3;simp;omega
   subst this;exact ht (Yo n n1 i k x hx m1).1
 have Z5: ∀(i k:Nat),(∀n∈C,(⟨(i:Int),(k:Int)⟩:bX) ∉ n.bI)->jA (C.flatMap (mi P T)) i k=[]:=λi k hq=>oQ λl hl hk=>by
   obtain⟨n,n1,n2⟩:=tw.1 hl;obtain⟨m,m1,m2,m3,_⟩:=rU n2;have:m=⟨(i:Int),(k:Int)⟩:=by cases m;simp at m2 m3;simp;omega
   subst this;exact hq n n1 m1
 have SZ: ∀(i k:Nat)x,ey P i k=some x->toOf P ⟨(i:Int),(k:Int)⟩=x.dr:=λi k x hx=>by unfold toOf;simp only[wb,hx,iJ,J1]
 have hTw: ∀(i:Nat)(x:bH)p,x.bP<T->(Twin P (mI W B') i x p↔Twin P W i x p):=λi x p ht=>by
   constructor
   ·rintro⟨i',k',x',t1,t2,t3,t4⟩;exact⟨i',k',x',t1,t2,t3,by rw[<-Yq i' k' x' t2 (by omega)];exact t4⟩
   ·rintro⟨i',k',x',t1,t2,t3,t4⟩;exact⟨i',k',x',t1,t2,t3,by rw[Yq i' k' x' t2 (by omega)];exact t4⟩
 refine⟨hm.ev,by rw[hm.du];omega,λn hn=>?_,hm.ld,Ad h.ws,λi k x hx hxT=>?_,λl hl=>?_,λe s hs=>?_⟩
 ·
   rcases hm.lL n hn with⟨n1,n2⟩|⟨n1,n2,n3,n4⟩
   ·have hl:=h.lv n n1;obtain⟨e,e1,e2,e3⟩:=hl.ev;have kc:=uY h.ev e2.lt (fw _);refine⟨hl.ne,hl.le,hl.qM,hl.co,e,e1,n2 e e1,λm hq=>?_⟩;obtain⟨i,k,x,f1,f2,f3,f4,f5⟩:=e3 m hq;have:=e2.lt;exact⟨i,k,x,f1,f2,f3,by rw[Yq i k x f2 (by omega)];exact f4,by rw[hm.on e (by omega)];exact f5⟩
   ·obtain⟨q1,q2,q3,q4,_⟩:=yi n n1;refine⟨q1,q2,q3,n2,E.length,n3,n4,λm hq=>?_⟩;obtain⟨i,k,x,f1,f2,f3,f4,f5⟩:=q4 m hq;exact⟨i,k,x,f1,f2,f5,Yr i k x n f2 n1 (by rw[<-f1];exact hq),by rw[hm.on _ (fw _)];omega⟩
 ·
   have eR:=hnx i k x hx hxT;by_cases hold:x.bP<T
   ·obtain⟨p,p1,p2⟩:=h.fa i k x hx hold;refine⟨p,by rw[Yq i k x hx (by omega)];exact p1,?_⟩;rw[rS,rS,XD i k x hx (by omega),wV];have hD: ∀D,Z4 P W i k x p D->Z4 P (mI W B') i k x p D:=λD hd=>by unfold Z4 at *;rw[hTw i x p hold];exact hd
    by_cases mu: ∃n∈L,(⟨(i:Int),(k:Int)⟩:bX)∈n.bI
    ·obtain⟨n,n1,n2⟩:=mu;obtain⟨e0,e1,e2,e3,e4⟩:=Yp n n1;obtain⟨f1,f2,f3⟩:=e4 i k x hx n2;rw[p1]at f2;have f2:=Option.some.inj f2;subst f2;have Q7:=(h.lv n n1).co;rcases p2 with⟨p2,_⟩|⟨e,D,d1,d2,d3,d4⟩
     ·rw[p2]at Q7;simp at Q7
     ·have hee:e<=E.length->e=e0:=λhq=>O1 h.ev hq (by have:=e2.lt;omega) (by omega);have Z6: ∀n'∈C,(⟨(i:Int),(k:Int)⟩:bX)∈n'.bI->n'=n:=λn' h1 h2=>hlu n' (hm.cL n' h1) n n1 _ h2 n2;rcases d4 with⟨d4,d5⟩|⟨c,c1,_⟩
      ·have he:e=e0:=by
        rcases d5 with⟨n',m1,_,m3⟩|⟨c,c1,_⟩
        ·obtain⟨e',m4,m5,_⟩:=Yp n' m1;have:=m5.lt;exact hee (by omega)
        ·exact hee (by have:=c1.lt;have:=c1.le;omega)
       subst he;have Pb:=hm.on E.length (fw _);refine .inr ⟨e,D,d1,by rw[hm.on e (by have:=e2.lt;omega)];exact d2,hD D d3,?_⟩;rcases hm.tq n n1 e e1 with⟨o1,o2⟩|⟨o1,o2⟩|⟨o1,o2⟩
       ·rw[Z5 i k λn' h1 h2=>o2 (by rw[<-Z6 n' h1 h2];exact h1),wV];exact .inl ⟨d4,.inl ⟨n,o1,n2,e1⟩⟩
       ·by_cases hc:T<x.dr
        ·refine .inr ⟨E.length,o2,by rw[Pb];omega,?_⟩;rw[Pb,hdu,d4];congr 1;refine th hKC (tw.2 ⟨n,o1,mS.2 ⟨⟨(i:Int),(k:Int)⟩,xQ.2 ⟨n2,?_⟩,rfl⟩⟩) (by simp[tg]);rw[SZ i k x hx];simpa using hc
        ·rw[oQ (X:=C.flatMap (mi P T)) λl hl hk=>?_,wV]
         ·exact .inl ⟨d4,.inr ⟨E.length,o2.rg,by rw[Pb];omega⟩⟩
         ·obtain⟨n',l1,l2⟩:=tw.1 hl;obtain⟨m,m1,m2,m3,m4⟩:=rU l2;have:m=⟨(i:Int),(k:Int)⟩:=by cases m;simp at m2 m3;simp;omega
          subst this;rw[SZ i k x hx]at m4;exact hc m4
       ·rw[Z5 i k λn' h1 h2=>o1 (by rw[<-Z6 n' h1 h2];exact h1),wV];exact .inl ⟨d4,.inr ⟨E.length,hm.rg _ _ _ e2,by rw[Pb];omega⟩⟩
      ·have:=hee (by have:=c1.rg.lt;have:=c1.rg.le;omega);subst this;exact(e2.nd c1).elim
    ·rw[Z5 i k λn' h1 h2=>mu ⟨n',hm.cL n' h1,h2⟩,wV];rcases p2 with p2|⟨e,D,d1,d2,d3,d4⟩
     ·exact .inl p2
     ·have Pb: ∀c,Rg E e p c->jz E' e=jz E e/\jz E' c=jz E c:=λc hc=>by
       have:=hc.lt;have:=hc.le;exact⟨hm.on e (by omega),hm.on c (by omega)⟩
      rcases d4 with⟨d4,⟨n,n1,n2,_⟩|⟨c,c1,c2⟩⟩|⟨c,c1,c2,c3⟩
      ·exact absurd ⟨n,n1,n2⟩ mu
      ·obtain⟨o1,o2⟩:=Pb c c1;exact .inr ⟨e,D,d1,by rw[o1];exact d2,hD D d3,.inl ⟨d4,.inr ⟨c,hm.rg _ _ _ c1,by rw[o2];exact c2⟩⟩⟩
      ·obtain⟨o1,o2⟩:=Pb c c1.rg;exact .inr ⟨e,D,d1,by rw[o1];exact d2,hD D d3,.inr ⟨c,hm.nd _ _ _ c1,by rw[o2];exact c2,by rw[o2];exact c3⟩⟩
   ·have ht:x.bP=T:=by omega
    obtain⟨n',n1,n2⟩:=OQ i k x hx ht;obtain⟨q1,q2,q3,q4,q5⟩:=yi n' n1;have hp:=Yr i k x n' hx n1 n2;obtain⟨r1,r2,r3⟩:=Yo n' n1 i k x hx n2;have hX0:jA X i k=[]:=oQ λl hl hk=>by
     obtain⟨i',k',x',l1,l2,l3,l4⟩:=h.lo l hl;have e1:i'=i:=by omega
     have e2:k'=k:=by omega
     subst e1;subst e2;rw[hx]at l3;cases l3;omega
    have Z6:jA (C.flatMap (mi P T)) i k=[]:=Z5 i k λn h1 h2=>by
     obtain⟨e,_,_,e3,e4⟩:=Yp n (hm.cL n h1);have:=(e4 i k x hx h2).2.2;omega
    refine⟨n'.bL,hp,?_⟩;rw[rS,rS,hX0,Z6,wV,xm,ht];rcases q5 with q5|⟨q5,q6,q7⟩
    ·refine .inl ⟨q5,th hKF (tw.2 ⟨n',n1,?_⟩) (by simp[tg])⟩;unfold jM;rw[q5];exact mS.2 ⟨_,n2,rfl⟩
    ·have Q7:=(iQ q5).2.1;have Ys:jM T n'=(n'.bI.drop 1).map (pS T 2):=by unfold jM;rw[qf (by omega)];rfl
     refine .inr ⟨E.length,jA (B'.flatMap (jM T)) i k,by rw[r2];exact q5,by rw[hm.on _ (fw _)];exact hdu,?_,.inl ⟨rfl,.inl ⟨n',q6,n2,q7⟩⟩⟩;obtain⟨m0,ms,RK⟩:=YW q1;rw[RK,Dt]at q3;rw[RK]at n2 Ys;have Ys:jM T n'=ms.map (pS T 2):=Ys;rcases pU.1 n2 with B9|ga
     ·refine .inl ⟨oQ λl hl hk=>?_,?_⟩
      ·obtain⟨n,l1,l2⟩:=tw.1 hl;obtain⟨m,m1,m2,m3⟩:=rT l2;have:m=⟨(i:Int),(k:Int)⟩:=by cases m;simp at m2 m3;simp;omega
       subst this;have:=Vq n l1 n' n1 _ m1 (by rw[RK,B9];simp);subst this;rw[Ys]at l2;obtain⟨m',m4,rfl⟩:=mS.1 l2;have h1:=q3.1 m' m4;have h2:m'.part=(i:Int):=hk.1;rw[<-B9]at h1;simp at h1;omega
      ·rintro⟨i',k',x',t1,t2,t3,t4⟩;obtain⟨n,t5,t6⟩:=OQ i' k' x' t2 (by omega);rw[Yr i' k' x' n t2 t5 t6]at t4;have t4:=Option.some.inj t4;have:=hm.b4 n t5 n' n1 (by rw[t4];omega) (by rw[t4]);subst this;rw[RK,<-B9]at t6;rw[<-B9]at q3;rcases pU.1 t6 with t6|t6
       ·simp at t6;omega
       ·have:=q3.1 _ t6;simp at this;omega
     ·refine .inr ⟨?_,?_⟩
      ·rw[ht];exact th hKF (tw.2 ⟨n',n1,by rw[Ys];exact mS.2 ⟨_,ga,rfl⟩⟩) (by simp[tg])
      ·obtain⟨i0,k0,x0,rfl,y1,y2,_⟩:=q4 m0 (by rw[RK];simp);have:=q3.1 _ ga;simp at this;exact⟨i0,k0,x0,this,y1,by omega,Yr i0 k0 x0 n' y1 n1 (by rw[RK];simp)⟩
 ·
   rcases oq.1 hl with hl|hl
   ·rcases oq.1 hl with hl|hl
    ·obtain⟨i,k,x,e1,e2,e3,e4⟩:=h.lo l hl;exact⟨i,k,x,e1,e2,e3,by omega⟩
    ·obtain⟨n,n1,n2⟩:=tw.1 hl;obtain⟨m,m1,m2,m3⟩:=rT n2;obtain⟨i,k,x,rfl,f2,f3,_⟩:=(yi n n1).2.2.2.1 m m1;exact⟨i,k,x,m2,m3,f2,by omega⟩
   ·obtain⟨n,n1,n2⟩:=tw.1 hl;obtain⟨m,m1,m2,m3,_⟩:=rU n2;obtain⟨e,_,e2,e3⟩:=(h.lv n (hm.cL n n1)).ev;obtain⟨i,k,x,rfl,f2,_,_,f5⟩:=e3 m m1;have:=uY h.ev e2.lt (fw _);exact⟨i,k,x,m2,m3,f2,by omega⟩
 ·
   rcases hm.st e s hs with⟨s0,s1,s2,s3⟩|⟨rfl,n',n1,n2⟩
   ·obtain⟨i,k,x,e1,e2,e3⟩:=h.sp e s0 s1;have hl:=s1.lt;have:=uY h.ev hl (fw _);exact⟨i,k,x,e1,by rw[hm.on e (by omega)];exact e2,by rw[Yq i k x e1 (by omega),e3,s2,s3]⟩
   ·obtain⟨q1,_,_,q4,_⟩:=yi n' n1;obtain⟨m0,ms,RK⟩:=YW q1;obtain⟨i,k,x,rfl,f2,f3,_⟩:=q4 m0 (by rw[RK];simp);exact⟨i,k,x,f2,by rw[hm.on _ (fw _)];omega,by rw[Yr i k x n' f2 n1 (by rw[RK];simp),n2]⟩
end
open Go.Sort
def kL(l:cV):Int:=l.part*4096+l.fj*4+l.kind
theorem f70_key{x y:cV}(h1:0<=x.fj/\x.fj<1000/\1<=x.kind/\x.kind<=3)(h2:0<=y.fj/\y.fj<1000/\1<=y.kind/\y.kind<=3):f70 x y=some (p8 (kL x) (kL y)):=by
 unfold f70;simp only[f97_eq,cN,f96_eq _ (show ck [_,_,_]by simp[ck])];have lt: ∀{a b:Int},a<b->p8 a b= -1:=λh=>by simp[p8,h]
 have gt: ∀{a b:Int},b<a->p8 a b=1:=λ{a b}h=>by
  have: ¬a<b:=by omega
  simp[p8,h,this]
 have eq: ∀a:Int,p8 a a=0:=λa=>by simp[p8]
 rcases zD8 x.part y.part with c|c|c
 ·rw[lt c,lt (show kL x<kL y by unfold kL;omega)];rfl
 ·rw[c,eq];rcases zD8 x.fj y.fj with d|d|d
  ·rw[lt d,lt (show kL x<kL y by unfold kL;omega)];rfl
  ·rw[d,eq];rcases zD8 x.kind y.kind with e|e|e
   ·rw[lt e,lt (show kL x<kL y by unfold kL;omega)];rfl
   ·rw[e,eq,show kL x=kL y by unfold kL;omega,eq];rfl
   ·rw[gt e,gt (show kL y<kL x by unfold kL;omega)];rfl
  ·rw[gt d,gt (show kL y<kL x by unfold kL;omega)];rfl
 ·rw[gt c,gt (show kL y<kL x by unfold kL;omega)];rfl
theorem rV{P:List (List bH)}{x:bH}:x∈P.flatten↔ ∃i k,ey P i k=some x:=by
 rw[List.mem_flatten];constructor
 ·rintro⟨p,h1,h2⟩;obtain⟨i,hi,rfl⟩:=qZ h1;obtain⟨k,hk,rfl⟩:=qZ h2;exact⟨i,k,by simp[ey,hi,hk]⟩
 ·rintro⟨i,k,h⟩;unfold ey at h;cases hp:P[i]? with
  |none=>grind
  |some p=>
   rw[hp]at h;exact⟨p,gN hp,gN (by simpa using h)⟩
theorem rW{P:List (List bH)}(hP: ∀p∈P,p.length<=400/\Lm 0 p=true){i k:Nat}{x:bH}(h:ey P i k=some x):0<=x.bP/\x.bP<x.dr/\x.dr<=262144/\0<=x.bU/\x.bU<=127/\k<400/\i<P.length:=by
 unfold ey at h
 grind [Df]
theorem Vr{p:List bH}(hp: ∀x∈p,x.bP<x.dr): ∀x∈p,∃t∈k9 p,x.dr<=t:=by
 have key: ∀(n:Nat)(x:bH),x∈p->(∀y∈p,y.dr-x.dr<=(n:Int))-> ∃t∈k9 p,x.dr<=t:=by
  intro n
  induction n with
  |zero=>
   intro x hx hn;refine⟨x.dr,?_,Int.le_refl _⟩;rw[uS];refine .inl ⟨x,hx,?_⟩;unfold eT;have:jL p x.dr=false:=by
    unfold jL
    grind
   grind
  |succ n ih=>
   grind
 intro x hx;have: ∃n:Nat,∀y∈p,y.dr-x.dr<=(n:Int):=by
  clear key hx hp
  induction p with
  |nil=>simp_all
  |cons z r ih=>
   obtain⟨n,hn⟩:=ih;refine⟨n+(z.dr-x.dr).toNat,λy hy=>?_⟩
   grind
 obtain⟨n,hn⟩:=this;exact key n x hx hn
structure lq (P:List (List bH)) (a:bp) (sh:Int) (s:cW):Prop where
 pr:jd P=0
 ins:instS a=0
 shr: -24<=sh/\sh<=24
 ai:s.bE.instrument=a
 si:s.shift=sh
 set: ∃T L X,O9 a sh P T s.bE.aY L s.dL X/\(∀(i k:Nat)x,ey P i k=some x->x.dr<=T)/\s.dm.Perm X/\T∈k9 P.flatten/\(∀t∈k9 P.flatten,t<=T)/\(∀t∈k9 P.flatten,∃k,k<=s.bE.aY.length/\(jz s.bE.aY k:Int)=t)
 el:s.bE.aY.length<=400
 ll:s.dm.length<=4000000
 lk: ∀l∈s.dm,0<=l.part/\l.part<6/\0<=l.fj/\l.fj<400/\1<=l.kind/\l.kind<=3
 srt:s.dm.Pairwise λx y=>kL x<kL y
structure Pc (P:List (List bH)) (a:bp) (h:eE) (sh:Int) (fD:List (List cB)) (i:Nat) (s:StI):Prop where
 ix:s.2.2.2.2.2.2.2.2.2.2.2=(i:Int)
 dk:Aa ⟨⟨s.1,s.2.1,s.2.2.1⟩,a,h,sh,⟨a,s.2.2.2.1⟩,s.2.2.2.2.1,s.2.2.2.2.2.1⟩
 ev:s.2.2.2.1.length=(fD.take i).flatten.length
 lv:s.2.2.2.2.1.length<=4*i
 xl:s.2.2.2.2.2.2.2.2.2.2.1.length<=9700*i
 st: ∀t,(k9 P.flatten)[i]? =some t->O9 a sh P t s.2.2.2.1 s.2.2.2.2.1 s.2.2.2.2.2.2.2.2.2.1 s.2.2.2.2.2.2.2.2.2.2.1
 on: ∀(j:Nat)t,j<=i->(k9 P.flatten)[j]? =some t-> ∃k,k<=s.2.2.2.1.length/\(jz s.2.2.2.1 k:Int)=t
theorem Pd{S:List cB}(h:S≠[])(h2: ∀s∈S,s∈gF):0<kr S:=by
 have:=uU h2
 grind [List.length_pos_iff]
theorem Pe(P:List (List bH))(a:bp)(h:eE)(sh:Int)(hP6:P.length<=4)(hP: ∀p∈P,p.length<=400/\Lm 0 p=true)(fD:List (List cB))(R3:fD.length+1=(k9 P.flatten).length)
  (hsn: ∀(i:Nat)S,fD[i]? =some S->S≠[]/\(∀s∈S,s∈gF)/\ ∀t t',(k9 P.flatten)[i]? =some t->(k9 P.flatten)[i+1]? =some t'->t'=t+kr S) (FB:fD.length<=400) (sH:fD.flatten.length<=400) (i:Nat) (s:StI) (hi:i<fD.length) (hI:Pc P a h sh fD i s):
  ∃t S r q,(k9 P.flatten)[i]? =some t/\fD[i]? =some S/\f67 ⟨⟨s.1,s.2.1,s.2.2.1⟩,a,h,sh,⟨a,s.2.2.2.1⟩,s.2.2.2.2.1,s.2.2.2.2.2.1⟩ P t S=some r/\
   f68 ⟨⟨⟨s.2.2.2.2.2.2.1,s.2.2.2.2.2.2.2.1⟩,s.2.2.2.2.2.2.2.2.1⟩,sh,s.2.2.2.2.2.2.2.2.2.1,s.2.2.2.2.2.2.2.2.2.2.1⟩ P r.1 r.2.1 t=some q/\
   Pc P a h sh fD (i+1) (r.2.2.1,r.2.2.2.1,r.2.2.2.2.1,r.2.2.2.2.2.1,r.2.2.2.2.2.2.1,r.2.2.2.2.2.2.2,s.2.2.2.2.2.2.1,s.2.2.2.2.2.2.2.1,s.2.2.2.2.2.2.2.2.1,q.1,q.2,((i+1:Nat):Int)):=by
 obtain⟨s1,s2,s3,ev,cZ,po,c0,c1,c2,wh,lo,ii⟩:=s;obtain⟨e0,hd,Kw,Iq,hxl,ja,Pb⟩:=hI;simp only at e0 hd Kw Iq hxl ja Pb;have et:(k9 P.flatten)[i]? =some ((k9 P.flatten)[i]'(by omega)):=dF _;generalize(k9 P.flatten)[i]'(by omega)=t at et;have Z7:(k9 P.flatten)[i+1]? =some ((k9 P.flatten)[i+1]'(by omega)):=dF _;generalize(k9 P.flatten)[i+1]'(by omega)=t2 at Z7;have eS:fD[i]? =some (fD[i]'hi):=dF _;generalize fD[i]'hi=S at eS;obtain⟨Vs,Yt,vg⟩:=hsn i S eS;have Gq:=vg t t2 et Z7;have htk:=pG eS;have Tp:=pH fD (i+1);rw[htk,re]at Tp;have gn:=ja t et;have h1T:=RG λp hp=>(hP p hp).2;have hB:=O5 (P:=P) t h1T;have Wc:(qT t 0 P []).length<=4:=by
  rcases hB.le with q|⟨_,k',_,q,_⟩<;>omega
 have aa8:=f119_eq P t (by omega) λp hp=>(hP p hp).1;obtain⟨r,r1,r2,U,u1,u2⟩:=O8 _ hd P t S (qT t 0 P []) Wc aa8 Vs (by grind) (by grind) (λn hn=>(gn.lv n hn).ne) (λn hn hf=>by
  obtain⟨e,e1,e2,_⟩:=(gn.lv n hn).ev;obtain⟨st,⟨d,d1,d2⟩,s2,s3⟩:=e2.st;obtain⟨k,hk,rfl⟩:=qZ d2;have ek:d.cR[k]? =some d.cR[k]:=dF hk;have FU:=(gn.ev.ev e d d1).qM;have JB:d.cR.length<=14:=by
   have:=xL (l:=d.cR.map cC.aW) (n:=15) (lo:=1) (by grind) (λx hx=>by
    obtain⟨s,hs,rfl⟩:=mS.1 hx;obtain⟨q,hq⟩:=(gn.ev.st e s ⟨d,d1,hs⟩).pl;have:=iQ hq
    grind) (by omega)
   grind
  refine⟨e,d,k,_,e1,d1,ek,s2,by grind,λj y hy hc=>?_⟩
  grind [List.pairwise_iff_getElem]) gn.ld
 simp only at u1 u2;have Lb:=Yh (T:=t) gn.ev gn.lv gn.ld (by omega) (λn hn=>(hB.no n hn).pl) u1 Vs Yt u2;have abt:=gn.step h1T (by omega) hB Lb (Pd Vs Yt) t2 Gq λi' k' x hx kc=>by
  rcases Int.lt_or_le t x.bP with c|c
  ·have:=OT (JD P.flatten) et Z7 (OS (rV.2 ⟨i',k',hx⟩)) c;omega
  ·exact c
 have F6:=Lb.cl;have yi: ∀n'∈r.1,n'.bI.length<=4/\ ∀m∈n'.bI,va P m:=λn' mK=>by
  obtain⟨n,n1,n2,_⟩:=Lb.b1 n' mK;have hn:=hB.no n n1;rw[n2];exact⟨by have:=hn.len;omega,λm hm=>by
   obtain⟨i',k',x,e1,_,e2,_⟩:=hn.me m hm;exact⟨i',k',x,e1,e2⟩⟩
 have hcm: ∀n∈r.2.1,n.bI.length<=6/\ ∀m∈n.bI,va P m:=λn hn=>by
  have hl:=gn.lv n (Lb.cL n hn);obtain⟨e,_,_,e3⟩:=hl.ev;exact⟨hl.le,λm hm=>by
   obtain⟨i',k',x,f1,f2,_⟩:=e3 m hm;exact⟨i',k',x,f1,f2⟩⟩
 have Z2:r.1.length<=4:=by
  have:=fL List.length Lb.b3
  grind
 have hde:=Yg ⟨⟨⟨c0,c1⟩,c2⟩,sh,wh,lo⟩ P r.1 r.2.1 t (by omega) gn.ws (λn hn=>⟨by grind,(yi n hn).2⟩) hcm Z2 (by omega) (by grind);refine⟨t,S,r,_,et,eS,r1,hde,⟨rfl,r2,?_,?_,?_,λt' Gp=>?_,λj t' hj Gp=>?_⟩⟩
 ·show r.2.2.2.2.2.1.length=_;rw[Lb.le,htk,re];omega
 ·show r.2.2.2.2.2.2.1.length<=_;have:=Lb.ll;omega
 ·show(lo++r.1.flatMap (jM t)++r.2.1.flatMap (mi P t)).length<=_;have h1:=kG (l:=r.1) (f:=jM t) (b:=4) λn hn=>by
   have:=(yi n hn).1;unfold jM
   grind
  have h2:=kG (l:=r.2.1) (f:=mi P t) (b:=6) λn hn=>by
   have:=(hcm n hn).1;unfold mi
   grind
  grind
 ·grind
 ·show∃k,k<=r.2.2.2.2.2.1.length/\(jz r.2.2.2.2.2.1 k:Int)=t';by_cases hji:j<=i
  ·obtain⟨k,k1,k2⟩:=Pb j t' hji Gp;exact⟨k,by rw[Lb.le];omega,by rw[Lb.on k k1];exact k2⟩
  ·have:j=i+1:=by omega
   subst this;rw[Z7]at Gp;cases Gp;exact⟨_,fw _,by rw[Lb.du];have:=gn.du;omega⟩
theorem f23_gen(P:List (List bH))(a:bp)(h:eE)(sh:Int)(hs:ck P)(h4:nw P a=0->P.length<=4): ∃r,f23 P a h sh=some r/\(r.2=0->lq P a sh r.1):=by
 unfold f23;rw[f58_eq P a hs];simp only[cN];by_cases h1:nw P a=0
 case neg=>simp_all
 simp only[h1,qd,qe,fZ,dv];obtain⟨e,e1,e2⟩:=f59_ex h;rw[e1];simp only[cN];by_cases h2:e=0
 case neg=>simp_all
 subst h2;have hh:=e2 rfl;simp only[qe,fZ,dv,f31_eq,cN];cases ga:pB sh (-24) 24
 case false=>simp_all
 have aa9: -24<=sh/\sh<=24:=by simpa[pB]using ga
 simp only[pV,dv];obtain⟨Ft,S4⟩:=Fw h1;obtain⟨_,mj⟩:=lJ Ft;have hP4:=h4 h1;have sH:=qQ 4 (by omega) λp hp=>(mj p hp).1;have hat:f60 P=some (k9 P.flatten):=f60_eq P (by omega) λp hp=>(mj p hp).1;have OQ:=RA (p:=P.flatten);have FU:=JD P.flatten;have Ax:0<(k9 P.flatten).length:=List.length_pos_of_mem ((uS P.flatten 0).2 (.inr rfl));have Jy: ∀{y},y∈k9 P.flatten->0<=y/\y<=262144:=λ{y}hy=>by
  rcases LA hy with rfl|⟨x,hx,hq⟩
  ·omega
  ·obtain⟨i,k,hx⟩:=rV.1 hx;have:=rW mj hx;omega
 simp only[hat,cN];have w0:wr (((k9 P.flatten).length:Int)-1)=(((k9 P.flatten).length-1:Nat):Int):=by grind [jx]
 rw[w0];refine eF (λk(s:List (List cB)×Int)=>s.2=(k:Int)/\s.1.length=k/\ ∀(i:Nat)S,s.1[i]? =some S->S≠[]/\S.length<=4608/\(∀s∈S,s∈gF)/\ ∀t t',(k9 P.flatten)[i]? =some t->(k9 P.flatten)[i+1]? =some t'->t'=t+kr S) (λo=>match o with
  |.inl s=>s.length+1=(k9 P.flatten).length/\ ∀(i:Nat)S,s[i]? =some S->S≠[]/\S.length<=4608/\(∀s∈S,s∈gF)/\ ∀t t',(k9 P.flatten)[i]? =some t->(k9 P.flatten)[i+1]? =some t'->t'=t+kr S
  |.inr r=>r.2=25) ((k9 P.flatten).length-1) (by omega) ⟨rfl,rfl,by simp⟩ ?_ ?_ ?_
 ·rintro k ⟨s,i⟩ hk ⟨q1,q2,q3⟩;simp only at q1 q2 q3;subst q1;have x1:(k9 P.flatten)[k]? =some ((k9 P.flatten)[k]'(by omega)):=dF _;have x2:(k9 P.flatten)[k+1]? =some ((k9 P.flatten)[k+1]'(by omega)):=dF _;generalize(k9 P.flatten)[k]'(by omega)=t at x1;generalize(k9 P.flatten)[k+1]'(by omega)=t2 at x2;have c1:(k:Int)<(((k9 P.flatten).length-1:Nat):Int):=by omega
  have w1:wr ((k:Int)+1)=((k+1:Nat):Int):=iz (by omega);have b1:=Jy (gN x1);have b2:=Jy (gN x2);have b3:=uT FU (Wn k) x1 x2;have w2:wr (t2-t)=t2-t:=jx (by omega) (by omega);obtain⟨r,r1,r2⟩:=f61_ex (t2-t);have m1:s.length+1<=bc:=by unfold bc;omega
  simp only[c1,ju,cP,w1,bT x2,bT x1,cN,w2,r1];by_cases c2:r.2=0
  ·obtain⟨_,n1,n2,n3⟩:=r2 c2;simp only[c2,qe,fZ,dv,cQ m1];refine .inl ⟨_,rfl,rfl,by simp[q2],λi S hS=>?_⟩;have Yu:(s++[r.1])[i]? =some S:=hS;clear hS;rcases J4 i s.length with kc|L7
   ·grind
   ·rw[DB L7]at Yu;have hi0:=(lf.1 Yu).1;simp at hi0;have hik:i=k:=by omega
    subst hik;rw[show i-s.length=0 by omega]at Yu;simp at Yu;subst Yu;refine⟨λh=>?_,?_,n3,λt' t'' h1 h2=>?_⟩
    ·rw[h]at n2;simp[kr]at n2;omega
    all_goals grind [uU]
  simp_all
 ·rintro⟨s,i⟩ ⟨q1,q2,q3⟩;simp only at q1 q2 q3;subst q1
  grind
 intro o ho;cases o with
 |inr r=>grind
 |inl fD=>
 obtain⟨R3,Od⟩:=ho;have R3:fD.length+1=(k9 P.flatten).length:=R3;have abu: ∀S∈fD,S≠[]/\S.length<=4608:=λS hS=>by
  obtain⟨i,hi,rfl⟩:=qZ hS;have:=Od i _ (dF hi)
  grind
 have Yv:(k9 P.flatten)[0]? =some 0:=by
  have e0:(k9 P.flatten)[0]? =some ((k9 P.flatten)[0]'Ax):=dF _;obtain⟨m,Rl,X3⟩:=qZ ((uS P.flatten 0).2 (.inr rfl));have em:(k9 P.flatten)[m]? =some 0:=by grind
  cases m with
  |zero=>exact em
  |succ m=>
   have:=uT FU (Nat.succ_pos m) e0 em;have:=(Jy (gN e0)).1;omega
 have Zh: ∀i,i<=fD.length-> ∀t,(k9 P.flatten)[i]? =some t->((fD.take i).flatten.length:Int)<=t:=by
  intro i
  induction i with
  |zero=>grind
  |succ i ih=>
   intro hi t' Gp;have et:(k9 P.flatten)[i]? =some ((k9 P.flatten)[i]'(by omega)):=dF _;have eS:fD[i]? =some (fD[i]'(by omega)):=dF _;have h1:=ih (by omega) _ et;obtain⟨_,_,h2,h3⟩:=Od i _ eS;have h4:=h3 _ _ et Gp;have h5:=uU h2;rw[pG eS,re];omega
 have Zh:fD.flatten.length<=262144:=by
  have et:(k9 P.flatten)[fD.length]? =some ((k9 P.flatten)[fD.length]'(by omega)):=dF _;have h1:=Zh fD.length (fw _) _ et;have h2:=Jy (gN et)
  grind
 simp only[BX];have RI:fD.length<=3200:=by omega
 rw[f62_eq fD (by grind) (by omega)];simp only[cN];by_cases h3:400<(fD.flatten.length:Int)
 case pos=>simp_all
 have FB:fD.length<=400:=by
  have: ∀l:List (List cB),(∀S∈l,S≠[])->l.length<=l.flatten.length:=by
   intro l
   induction l with
   |nil=>simp
   |cons S l ih=>
    grind [List.length_pos_iff]
  grind
 obtain⟨i1,i2,_,_,_⟩:=instS_ok S4;rw[f63_eq a.bQ (by grind),f64_eq a.br (by grind),f65_eq P (by omega) λp hp=>(mj p hp).1];simp only[h3,fZ,dv,cN];have aba:Pc P a h sh fD 0 (([]:List aQ),([]:List Int),([]:List Int),([]:List bJ),([]:List aX),([]:List b9),([]:List cE),([]:List Int),([]:List bJ),(P.map λp=>List.replicate p.length (⟨0,0⟩:aQ)),([]:List cV),(0:Int)):=by
  refine⟨rfl,⟨⟨hh,e1,⟨by simp[ck],by simp[ck],by simp[ck]⟩,by simp,by simp⟩,zV⟩,by simp,by simp,by simp,λt ht=>?_,λj t hj ht=>⟨0,by simp,?_⟩⟩
  ·rw[Yv]at ht;cases ht;refine⟨⟨by simp,λe s hs=>?_⟩,rfl,by simp,by simp,by simp[FR,Function.comp_def],λi k x hx kc=>?_,by simp,λe s hs=>?_⟩
   ·obtain⟨d,d1,_⟩:=hs;simp at d1
   ·have:=rW mj hx;omega
   ·obtain⟨d,d1,_⟩:=hs;simp at d1
  ·have:j=0:=by omega
   subst this;rw[Yv]at ht;cases ht;rfl
 refine eF (λk(s:StI)=>Pc P a h sh fD k s) (λr=> ∃i,Pc P a h sh fD fD.length (r.1,r.2.1,r.2.2.1,r.2.2.2.1,r.2.2.2.2.1,r.2.2.2.2.2.1,r.2.2.2.2.2.2.1,r.2.2.2.2.2.2.2.1,r.2.2.2.2.2.2.2.2.1,r.2.2.2.2.2.2.2.2.2.1,r.2.2.2.2.2.2.2.2.2.2,i)) fD.length (by omega) aba ?_ ?_ ?_
 ·rintro k s hk hI;obtain⟨t,S,r,q,x1,x2,x3,x5,x6⟩:=Pe P a h sh hP4 mj fD R3 (λi S hS=>by
   obtain⟨y1,_,y2,y3⟩:=Od i S hS
   grind) FB (by omega) k s hk hI
  obtain⟨s1,s2,s3,ev,cZ,po,c0,c1,c2,wh,lo,ii⟩:=s;have xo:=hI.ix;simp only at xo;subst xo;simp only at x3 x5 x6;simp only[cy x2,cP,bT x2,bT x1,cN,x3,x5,dp (l:=fD) (by grind) x2]
  grind
 ·rintro s hI;obtain⟨s1,s2,s3,ev,cZ,po,c0,c1,c2,wh,lo,ii⟩:=s;have xo:=hI.ix;simp only at xo;subst xo
  grind
 rintro⟨s1,s2,s3,ev,cZ,po,c0,c1,c2,wh,lo⟩ ⟨ii,hI⟩;obtain⟨g0,gd,gev,glv,gxl,gst,gon⟩:=hI;simp only at g0 gd gev glv gxl gst gon;have et:(k9 P.flatten)[fD.length]? =some ((k9 P.flatten)[fD.length]'(by omega)):=dF _;generalize(k9 P.flatten)[fD.length]'(by omega)=T at et;have gn:=gst T et;have S5: ∀t∈k9 P.flatten,t<=T:=λt ht=>by
  obtain⟨m,Rl,X3⟩:=qZ ht;have em:(k9 P.flatten)[m]? =some t:=by grind
  rcases Wx m fD.length with c|c|c
  ·have:=uT FU c em et;omega
  all_goals grind
 have abb: ∀(i k:Nat)x,ey P i k=some x->x.dr<=T:=λi k x hx=>by
  obtain⟨t,t1,t2⟩:=Vr (p:=P.flatten) (λy hy=>by
   obtain⟨i,k,hy⟩:=rV.1 hy;exact(rW mj hy).2.1) x (rV.2 ⟨i,k,hx⟩)
  grind
 have Yd: ∀l∈lo,0<=l.part/\l.part<6/\0<=l.fj/\l.fj<400/\1<=l.kind/\l.kind<=3:=λl hl=>by
  obtain⟨i,k,x,l1,l2,l3,l4⟩:=gn.lo l hl;have hx:=rW mj l3;have hm:l∈jA lo i k:=xQ.2 ⟨hl,by simp[tg,l1,l2]⟩;obtain⟨p,_,hf⟩:=gn.fa i k x l3 l4;have hk:1<=l.kind/\l.kind<=3:=by
   rcases hf with⟨_,hf⟩|⟨e,D,_,_,hD,⟨hf,_⟩|⟨c,_,_,hf⟩⟩
   ·grind
   ·rw[hf]at hm;rcases hD with⟨rfl,_⟩|⟨rfl,_⟩
    all_goals grind
   ·rw[hf]at hm;rcases hD with⟨rfl,_⟩|⟨rfl,_⟩
    all_goals grind
  omega
 have abc: ∀l∈lo,∀l'∈lo,kL l=kL l'->l=l':=λl hl l' Gb he=>by
  have b1:=Yd l hl;have b2:=Yd l' Gb;unfold kL at he;obtain⟨i,k,x,l1,l2,l3,l4⟩:=gn.lo l hl;have hm:l∈jA lo i k:=xQ.2 ⟨hl,by simp[tg,l1,l2]⟩;have ve:l'∈jA lo i k:=xQ.2 ⟨Gb,by simp[tg];omega⟩;have hkk:l.kind=l'.kind:=by omega
  obtain⟨p,_,hf⟩:=gn.fa i k x l3 l4;rcases hf with⟨_,hf⟩|⟨e,D,_,_,hD,⟨hf,_⟩|⟨c,_,_,hf⟩⟩
  ·grind
  ·rw[hf]at hm ve;rcases hD with⟨rfl,_⟩|⟨rfl,_⟩
   all_goals grind
  ·rw[hf]at hm ve;rcases hD with⟨rfl,_⟩|⟨rfl,_⟩
   all_goals grind
 obtain⟨r,r1,r2,r3⟩:=BO kL f70 lo (λx hx y hy=>by
  grind [f70_key]) (by grind) abc
 have hft:=pH fD fD.length;have m1:ev.length<=cO:=by unfold cO;omega
 have hwl:wh.length=P.length:=by have:=fL List.length gn.ws;grind
 have m2:wh.length<=cO:=by unfold cO;omega
 unfold f69;simp only[r1,cN,cQ m1,cQ m2,cQ r2.length_eq];refine⟨_,rfl,λ_=>⟨Ft,S4,aa9,rfl,rfl,⟨T,cZ,lo,gn,abb,r2,gN et,S5,λt ht=>?_⟩,?_,?_,λl hl=>Yd l (r2.mem_iff.1 hl),?_⟩⟩
 ·obtain⟨m,Rl,X3⟩:=qZ ht;have em:(k9 P.flatten)[m]? =some t:=by grind
  grind
 ·grind
 ·show r.length<=4000000;rw[r2.length_eq];omega
 ·have tC:lo.Nodup:=List.nodup_iff_count.2 λl=>by
   by_cases hl:l∈lo
   ·obtain⟨i,k,x,l1,l2,l3,l4⟩:=gn.lo l hl;have hc:(jA lo i k).count l=lo.count l:=List.count_filter (by simp[tg,l1,l2]);rw[<-hc];obtain⟨p,_,hf⟩:=gn.fa i k x l3 l4;have:(jA lo i k).Nodup:=by
     rcases hf with⟨_,hf⟩|⟨e,D,_,_,hD,⟨hf,_⟩|⟨c,_,_,hf⟩⟩
     ·rw[hf];simp
     ·rw[hf];rcases hD with⟨rfl,_⟩|⟨rfl,_⟩<;>simp
     ·rw[hf];rcases hD with⟨rfl,_⟩|⟨rfl,_⟩<;>simp
    grind
   grind
  have hnr:r.Pairwise λx y=>x≠y:=r2.nodup_iff.2 tC;show r.Pairwise _;refine(r3.and hnr).imp_of_mem λ{x y}hx hy ⟨h1,h2⟩=>?_
  grind
theorem f199_eq(d:bJ):f199 d=some (xJ d):=by
 unfold f199 xJ;have:decide ((d.cR.length:Int)=0)=d.cR.isEmpty:=by
  cases d.cR with
  |nil=>rfl
  |cons a l=>rfl
 grind
theorem f200_eq(d:bJ)(x:Int)(hs:ck d.cR):f200 d x=some (vh d x):=by
 unfold f200 f246 f175 vh;rw[eg d.cR (λs:cC=>decide (s.aW=x)) (λi _=>(i:Int)) hs]
 ·simp only[cN,fH];rw[<-gJ];unfold gX;cases d.cR.findIdx? _<;>simp
 ·intro i y hy;simp only[cy hy,cP,bT hy,cN,f247]
  grind
 ·simp
theorem Yw{s:cB}(h:s∈gF):f86 s=some true/\kX s ⟨0,false,false⟩=false:=by
 obtain⟨h1,h2,_⟩:=kY s h;have h0:kX s ⟨0,false,false⟩=false:=by
  cases hq:kX s ⟨0,false,false⟩
  ·rfl
  ·simp[kX]at hq;have:s=⟨0,false,false⟩:=by cases s;grind
   rw[this]at h1 h2;have h3:f116 ⟨0,false,false⟩=some 0:=rfl
   grind
 refine⟨?_,h0⟩;unfold f86
 grind
section
variable {a:bp} {E:List bJ}
theorem kH.Wl(h:kH a E){e:Nat}{d:bJ}(hd:E[e]? =some d):d.cR.length<=14:=by
 have:=xL (l:=d.cR.map cC.aW) (n:=15) (lo:=1) (by rw[L3];exact(h.ev e d hd).qM) (λx hx=>by
  obtain⟨s,hs,rfl⟩:=mS.1 hx;obtain⟨q,hq⟩:=(h.st e s ⟨d,hd,hs⟩).pl;have:=iQ hq
  grind) (by omega)
 grind
theorem kH.vh(h:kH a E){e:Nat}{d:bJ}(hd:E[e]? =some d)(x:Int):f200 d x=some (vh d x):=f200_eq d x (by have:=h.Wl hd;grind)
theorem f142_ex(p:cD)(h:kH a p.aY)(hl:p.aY.length<=400){i:Nat}{s:cC}(hs:fR p.aY i s): ∃r,f142 p (i:Int) s.aW=some r/\s.hold<=r:=by
 have hi:=hs.lt;have so:=h.st i s hs;have ho:=h.hold hs;unfold f142;have c1:decide ((i:Int)<0)=false:=qf (by omega);have c2:decide ((p.aY.length:Int)<=(i:Int))=false:=qf (by omega);have w1:wr ((i:Int)+1)=((i+1:Nat):Int):=iz (by omega);have n1:(0:Int)<=((i+1:Nat):Int):=by omega
 have n2:i+1<=p.aY.length:=by omega
 simp only[c1,c2,dv,cN,w1,cQ n1,wb,cQ n2,LH];have JB:(p.aY.drop (i+1)).length=p.aY.length-(i+1):=List.length_drop ..;refine eF (λk(q:Int×Int)=>q=((k:Int),(k:Int))/\k<=15) (λr=>s.hold<=r) (p.aY.drop (i+1)).length (by omega) ⟨rfl,by omega⟩ ?_ ?_ ?_
 ·rintro k _ hk ⟨rfl,abJ⟩;have e1:(p.aY.drop (i+1))[k]? =some ((p.aY.drop (i+1))[k]'hk):=dF _;generalize(p.aY.drop (i+1))[k]'hk=d at e1;have e2:p.aY[i+1+k]? =some d:=by grind
  simp only[cy e1,cP,bT e1,cN,f199_eq,h.vh e2,iz (show k<=4194304 by omega)];by_cases hc:k<s.hold
  ·obtain⟨h1,h2⟩:=so.on (i+1+k) d (by omega) (by omega) e2;have h3:=(so.hl (by omega)).2.1
   grind
  grind
 ·rintro _ ⟨rfl,_⟩
  grind
 grind
theorem f87_y(p:cD)(h:kH p.instrument p.aY)(hl:p.aY.length<=400){i:Nat}{s:cC}(hs:fR p.aY i s){last:Int}(S5:last<s.aW):f87 p (i:Int) s last=some 0:=by
 have so:=h.st i s hs;obtain⟨q,hq⟩:=so.pl;obtain⟨_,p1,p2,p3,p4,c,p5,p6,_⟩:=iQ hq;simp only at p1 p2 p3 p4 p5 p6;have F6:=(lf.1 p5).1;obtain⟨r,r1,r2⟩:=f142_ex p h hl hs;obtain⟨s1,s2⟩:=so.rg;have w1:wr (s.aW-1)=(((s.aW-1).toNat:Nat):Int):=by rw[jx (by omega) (by omega)];omega
 unfold f87;have c1:decide (s.aW<1)=false:=qf (by omega);have c2:decide ((p.instrument.bQ.length:Int)<s.aW)=false:=qf (by omega);have c3:decide (s.ct<0)=false:=qf (by omega);have c4:decide (c.dJ<s.ct)=false:=qf (by omega);have c5:decide (s.aW<=last)=false:=qf (by omega);have c6:decide (s.hold<0)=false:=qf (by have:=so.h0;omega);have c7:decide (r<s.hold)=false:=qf (by omega);have c8:(bif decide (0<s.hold)then some (decide (s.ct=0))else some false)=some false:=by
  by_cases hh:0<s.hold
  ·have:=(so.hl hh).1;have c9:decide (s.ct=0)=false:=qf (by omega)
   grind
  grind
 simp only[c1,c2,c3,w1,bT p5,c4,c5,s1,s2,c6,r1,c7,c8,dv,cN];rfl
theorem f30_y(p:cD)(hi:instS p.instrument=0)(h:kH p.instrument p.aY)(hl:p.aY.length<=400):f30 p=some 0:=by
 have key: ∃r,f30 p=some r/\r=0:=by
  unfold f30;have c1:decide (400<(p.aY.length:Int))=false:=qf (by omega);rw[f85_eq,hi];simp only[cN,qd,qe,fZ,dv,c1];refine eF (λk(q:Int)=>q=(k:Int)) (λr=>r=.inl ()) p.aY.length (by omega) rfl ?_ ?_ ?_
  ·rintro k _ hk rfl;have e1:p.aY[k]? =some (p.aY[k]'hk):=dF _;generalize p.aY[k]'hk=d at e1;have hd:=h.ev k d e1;obtain⟨g1,g2⟩:=Yw hd.sg;have hf:=h.Wl e1;have c2:(bif decide ((k:Int)=0)then some false else some false)=some false:=by grind
   have c3:(bif d.tie then(bif decide ((k:Int)=0)then some true else some (decide (0<(d.cR.length:Int))))else some false)=some false:=by
    cases ht:d.tie
    ·rfl
    ·obtain⟨t1,t2⟩:=hd.tie ht
     grind
   simp only[cy e1,cP,bT e1,cN,g1,g2,c2,c3,pV,dv,dp (l:=p.aY) (by grind) e1];refine .inl (FQ (λj(q:Int×Int)=>q.2=(j:Int)/\ ∀s,d.cR[j]? =some s->q.1<s.aW) (λr=>r=.inl ()) d.cR.length (by omega) ⟨rfl,λs hs=>?_⟩ ?_ ?_ ?_)
   ·obtain⟨q,hq⟩:=(h.st k s ⟨d,e1,gN hs⟩).pl;have:=(iQ hq).2.1
    grind
   ·rintro j ⟨q1,q2⟩ hj ⟨e0,hq⟩;simp only at e0 hq;subst e0;have e2:d.cR[j]? =some (d.cR[j]'hj):=dF _;have kc:=hq _ e2;have Y8:=f87_y p h hl (i:=k) (s:=d.cR[j]'hj) ⟨d,e1,F2 _⟩ kc;have FU:=hd.qM;rw[Tc]at FU;simp only[cy e2,cP,bT e2,cN,Y8,dp (l:=d.cR) (by grind) e2,qd,qe,fZ,dv]
    grind
   all_goals simp_all
  all_goals grind
 grind
def xj(E:List bJ):List Int:=(List.range (E.length+1)).map λk=>(jz E k:Int)
theorem FV:(xj E).length=E.length+1:=by simp[xj]
theorem vc{k:Nat}(h:k<=E.length):(xj E)[k]? =some (jz E k:Int):=by
 unfold xj
 grind
theorem Pf(h:kH a E): ∀k,k<=E.length->jz E k<=768*k
 |0,_=>by simp[jz]
 |k+1,hk=>by
  have e1:E[k]? =some (E[k]'(by omega)):=dF _;rw[Dl e1];have:=Pf h k (by omega);have:=(kY _ (h.ev k _ e1).sg).2.2;omega
theorem f126_y(p:cD)(hi:instS p.instrument=0)(h:kH p.instrument p.aY)(hl:p.aY.length<=400):f126 p=some (xj p.aY,0):=by
 have key: ∃r,f234 [0] p=some r/\r=xj p.aY:=by
  unfold f234;refine eF (λk(q:List Int×Int×Int)=>q.2.2=(k:Int)/\q.1=(List.range (k+1)).map λk=>(jz p.aY k:Int)) (λr=>r=.inl (xj p.aY)) p.aY.length (by omega) ⟨rfl,rfl⟩ ?_ ?_ ?_
  ·rintro k ⟨q1,q2,q3⟩ hk ⟨e0,e1⟩;simp only at e0 e1;subst e0;subst e1;have x1:p.aY[k]? =some (p.aY[k]'hk):=dF _;generalize p.aY[k]'hk=d at x1;obtain⟨t1,t2,t3⟩:=kY _ (h.ev k d x1).sg;have c1:decide (0<(tk d.sign:Int))=true:=Du (by omega);have y1:((List.range (k+1)).map λk=>(jz p.aY k:Int))[k]? =some (jz p.aY k:Int):=by grind
   have m1:((List.range (k+1)).map λk=>(jz p.aY k:Int)).length+1<=bc:=by simp;unfold bc;omega
   have hb:=Pf h k (by omega);have w1:wr ((jz p.aY k:Int)+(tk d.sign:Int))=(jz p.aY (k+1):Int):=by grind [jx,Dl]
   simp only[cy x1,cP,bT x1,cN,t1,c1,f370,bT y1,cQ m1,w1,dp (l:=p.aY) (by grind) x1]
   grind [List.range_succ]
  ·rintro⟨q1,q2,q3⟩ ⟨e0,e1⟩;simp only at e0 e1;subst e0;subst e1;simp only[AX,fZ,dv];exact⟨_,rfl,rfl⟩
  grind
 obtain⟨r,h1,rfl⟩:=key;unfold f126;rw[f30_y p hi h hl];simp only[cN,qd,qe,fZ,dv,f189,h1]
theorem f144_y{p:aQ}{q:Int}(h:p∈(eN a q).1):f144 a p=some (q,0):=by
 obtain⟨h0,p1,p2,p3,p4,c,p5,p6,p7⟩:=iQ h;have F6:=(lf.1 p5).1;obtain⟨_,i2,_,_,i5⟩:=instS_ok h0;have hc:=ko (i5 c (gN p5));have w1:wr (p.aW-1)=(((p.aW-1).toNat:Nat):Int):=by rw[jx (by omega) (by omega)];omega
 have c1:decide (p.aW<1)=false:=qf (by omega);have c2:decide ((a.bQ.length:Int)<p.aW)=false:=qf (by omega);have c3:decide (p.ct<0)=false:=qf (by omega);have c4:decide (c.dJ<p.ct)=false:=qf (by omega);have h71:=f201_eq a c p.ct.toNat (by omega) hc.2.1 i2;rw[show((p.ct.toNat:Nat):Int)=p.ct by omega,p7]at h71;unfold f144;rw[f85_eq,h0];simp only[cN,qd,qe,fZ,dv,c1,c2,w1,bT p5,c3,c4,h71]
end
structure Ag (E:List bJ) (e:Nat) (s:cC) (c:Nat):Prop where
 lt:e<c
 le:c<=E.length
 fr:0<s.ct->(e:Int)+s.hold<(c:Int)/\(∀(j:Nat)d,(e:Int)+s.hold<(j:Int)->j<c->E[j]? =some d->d.tie=true)/\ ∀d,E[c]? =some d->d.tie=false
 op: ¬0<s.ct->(∀(j:Nat)d,e<j->j<c->E[j]? =some d->xJ d=false/\vh d s.aW=false)/\ ∀d,E[c]? =some d->xJ d=true\/vh d s.aW=true
def Pg(a:bp)(s:cC):Int:=((f144 a ⟨s.aW,s.ct⟩).getD (0,0)).1
def pT(a:bp)(E:List bJ)(e:Nat)(s:cC)(to:Nat):dX:=⟨(e:Int),s.aW,Pg a s,(jz E e:Int),(jz E to:Int)⟩
def qX(E:List bJ)(i:Nat):List (Nat×cC):=(((E[i]?).map bJ.cR).getD []).map λs=>(i,s)
def stM(E:List bJ):Nat->List (Nat×cC)
 |0=>[]
 |i+1=>stM E i++qX E i
structure lr (a:bp) (E:List bJ) (i:Nat) (done:Int->Bool) (M:List (Nat×cC)) (out:List dX) (ring:List Int):Prop where
 ol:out.length=M.length
 rl:ring.length=15
 nt: ∀(m e:Nat)s,M[m]? =some (e,s)-> ∃c,out[m]? =some (pT a E e s c)/\(Ag E e s c\/(¬0<s.ct/\ring[s.aW.toNat]? =some ((m:Int)+1)/\c=E.length))
 rg: ∀(x:Nat)v,ring[x]? =some v->v=0\/ ∃(m e:Nat)(s:cC),v=(m:Int)+1/\M[m]? =some (e,s)/\s.aW=(x:Int)/\ ¬0<s.ct/\out[m]? =some (pT a E e s E.length)/\(∀(j:Nat)d,e<j->j<i->E[j]? =some d->xJ d=false/\vh d s.aW=false)/\(e<i->done s.aW=false)
section
variable {a:bp} {E:List bJ} {i:Nat} {done:Int->Bool} {M:List (Nat×cC)} {out:List dX} {ring:List Int} {d:bJ}
theorem S6(h:lr a E i done M out ring)(x:Nat)(hx:x<15)(hd:E[i]? =some d)(hs:xJ d=true\/vh d (x:Int)=true)(hM: ∀(m e:Nat)s,M[m]? =some (e,s)->s.aW=(x:Int)->e<i)(hl:M.length<=10000):
  ∃r,f143 (x:Int) (jz E i:Int) ring out=some r/\lr a E i (λy=>done y||decide (y=(x:Int))) M r.1 r.2/\r.2[x]? =some 0:=by
 have Z2:=h.rl;have e1:ring[x]? =some (ring[x]'(by omega)):=dF _;generalize ring[x]'(by omega)=v at e1;have n1:(x:Int)<15:=by omega
 unfold f143;simp only[cQ n1,bT e1,cN];rcases h.rg x v e1 with rfl|⟨m,e,s,rfl,m1,m2,m3,m4,m5,m6⟩
 ·simp only[AX,fZ,dv];refine⟨_,rfl,⟨h.ol,h.rl,h.nt,λx' v' hv=>?_⟩,e1⟩;rcases h.rg x' v' hv with h0|⟨m,e,s,q1,q2,q3,q4,q5,q6,q7⟩
  ·exact .inl h0
  ·by_cases Cg:x'=x
   all_goals grind
 ·have R1:=(lf.1 m1).1;have c1:decide (0<(m:Int)+1)=true:=Du (by omega);have w1:wr ((m:Int)+1-1)=(m:Int):=by grind [jx]
  have hei:=hM m e s m1 m2;have hmo:=(lf.1 m4).1;simp only[c1,cP,w1,bT m4,cN,wb];refine⟨_,rfl,⟨by simpa using h.ol,by grind,λm' e' s' ve=>?_,λx' v' hv=>?_⟩,VP (by omega)⟩
  ·by_cases VT:m=m'
   ·subst VT;rw[m1]at ve;cases ve;refine⟨i,VP hmo,.inl ⟨hei,?_,λhf=>absurd hf m3,λ_=>⟨m5,λd' LL=>?_⟩⟩⟩
    all_goals grind
   ·obtain⟨c,c2,c3⟩:=h.nt m' e' s' ve
    grind
  ·by_cases Cg:x=x'
   ·grind
   ·have hv:(ring.set x 0)[x']? =some v':=hv;rw[VQ Cg]at hv;rcases h.rg x' v' hv with h0|⟨m',e',s',q1,q2,q3,q4,q5,q6,q7⟩
    ·exact .inl h0
    ·have VT:m≠m':=λhq=>by
      grind
     grind
theorem lr.abd(h:lr a E i done M out ring){s:cC}{c:Nat}(hc:Ag E i s c):lr a E i done (M++[(i,s)]) (out++[pT a E i s c]) ring:=by
 have Kh:=h.ol;refine⟨by simp[Kh],h.rl,λm e s' hm=>?_,λx v hv=>?_⟩
 ·rcases J4 m M.length with q|q
  ·rw[Aq q]at hm;obtain⟨c',c1,c2⟩:=h.nt m e s' hm
   grind
  grind
 ·rcases h.rg x v hv with h0|⟨m,e,s',q1,q2,q3,q4,q5,q6⟩
  all_goals grind
theorem lr.abe(h:lr a E i done M out ring){s:cC}{x:Nat}(hx:s.aW=(x:Int))(PK:x<15)(hr:ring[x]? =some 0)(hf: ¬0<s.ct):lr a E i done (M++[(i,s)]) (out++[pT a E i s E.length]) (ring.set x ((M.length:Int)+1)):=by
 have Kh:=h.ol;have Z2:=h.rl;have DW:(out++[pT a E i s E.length])[M.length]? =some (pT a E i s E.length):=by grind
 have hxn:s.aW.toNat=x:=by omega
 refine⟨by simp[Kh],by grind,λm e s' hm=>?_,λx' v hv=>?_⟩
 ·rcases J4 m M.length with q|q
  ·rw[Aq q]at hm;obtain⟨c',c1,c2⟩:=h.nt m e s' hm
   grind
  grind
 ·by_cases Cg:x=x'
  ·subst Cg;rw[VP (by omega)]at hv;have hv:=(Option.some.inj hv).symm;exact .inr ⟨M.length,i,s,hv,by simp,hx,hf,DW,λj d h1 h2=>by omega,λh=>by omega⟩
  ·rw[VQ Cg]at hv;rcases h.rg x' v hv with h0|⟨m,e,s',q1,q2,q3,q4,q5,q6⟩
   all_goals grind
theorem lr.next(h:lr a E i done M out ring)(hM: ∀(m e:Nat)s,M[m]? =some (e,s)->1<=s.aW/\s.aW<=14)(hd:E[i]? =some d)(hn: ∀x:Int,1<=x->x<=14->done x=false->xJ d=false/\vh d x=false):lr a E (i+1) (λ_=>false) M out ring:=
 ⟨h.ol,h.rl,h.nt,λx v hv=>by
  rcases h.rg x v hv with h0|⟨m,e,s,q1,q2,q3,q4,q5,q6,q7⟩
  all_goals grind⟩
theorem Ah{x:Nat×cC}:x∈qX E i↔x.1=i/\fR E i x.2:=by
 unfold qX fR
 grind
theorem lV: ∀{i:Nat}{x:Nat×cC},x∈stM E i↔x.1<i/\fR E x.1 x.2
 |0,x=>by simp[stM]
 |i+1,x=>by
  unfold stM;rw[oq,lV,Ah];constructor
  ·rintro(⟨h1,h2⟩|⟨rfl,h2⟩)
   ·exact⟨by omega,h2⟩
   ·exact⟨by omega,h2⟩
  ·rintro⟨h1,h2⟩;by_cases hq:x.1<i
   ·exact .inl ⟨hq,h2⟩
   ·have:x.1=i:=by omega
    subst this;exact .inr ⟨rfl,h2⟩
theorem xN(h:kH a E): ∀i,(stM E i).length<=14*i
 |0=>by simp[stM]
 |i+1=>by
  have h1:=xN h i;have h2:(qX E i).length<=14:=by
   unfold qX;cases hd:E[i]? with
   |none=>simp
   |some d=>simpa using h.Wl hd
  unfold stM;rw[re];omega
theorem JU(h:kH a E): ∀i,(stM E i).Pairwise λx y=>x.1<y.1\/x.1=y.1/\x.2.aW<y.2.aW
 |0=>by simp[stM]
 |i+1=>by
  unfold stM;rw[Wu];refine⟨JU h i,?_,λx hx y hy=>.inl ?_⟩
  ·unfold qX;cases hd:E[i]? with
   |none=>simp
   |some d=>
    show List.Pairwise _ (d.cR.map _);rw[L3];exact(h.ev i d hd).qM.imp λh=>.inr ⟨rfl,h⟩
  ·rw[(Ah.1 hy).1];exact(lV.1 hx).1
theorem f146_y(p:cD)(ons:List Int)(hl:p.aY.length<=400){s:cC}(h0:0<=s.hold)(hi:(i:Int)+s.hold<(p.aY.length:Int)): ∃r,f146 ⟨p,ons⟩ (i:Int) s.hold=some r/\ ∃c:Nat,r+1=(c:Int)/\c<=p.aY.length/\(i:Int)+s.hold<(c:Int)/\
  (∀(j:Nat)d,(i:Int)+s.hold<(j:Int)->j<c->p.aY[j]? =some d->d.tie=true)/\ ∀d,p.aY[c]? =some d->d.tie=false:=by
 unfold f146;have w0:wr ((i:Int)+s.hold)=((i+s.hold.toNat:Nat):Int):=by grind [jx]
 rw[w0];generalize hg:i+s.hold.toNat=g;refine iF (P1:=λr=> ∃c:Nat,r+1=(c:Int)/\c<=p.aY.length/\(g:Int)<(c:Int)/\(∀(j:Nat)d,g<j->j<c->p.aY[j]? =some d->d.tie=true)/\ ∀d,p.aY[c]? =some d->d.tie=false) ?_ ?_
 ·refine jt (λk(q:Int)=>q=((g+k:Nat):Int)/\ ∀(j:Nat)d,g<j->j<=g+k->p.aY[j]? =some d->d.tie=true) _ (p.aY.length-1-g) (by omega) ⟨by simp,λj d h1 h2=>by omega⟩ ?_ ?_
  ·rintro k _ hk ⟨rfl,hq⟩;have w1:wr (((g+k:Nat):Int)+1)=((g+k+1:Nat):Int):=iz (by omega);have e1:p.aY[g+k+1]? =some (p.aY[g+k+1]'(by omega)):=dF _;generalize p.aY[g+k+1]'(by omega)=d at e1;simp only[w1,cy e1,cP,bT e1,cN];cases ht:d.tie
   all_goals grind
  ·rintro _ ⟨rfl,hq⟩;have w1:wr (((g+(p.aY.length-1-g):Nat):Int)+1)=((p.aY.length:Nat):Int):=by rw[iz (by omega)];grind
   simp only[w1,AX,fZ,dv,cN]
   grind
 grind
theorem f89_y(p:cD)(h:kH p.instrument p.aY)(hl:p.aY.length<=400): ∃r,f89 ⟨p,xj p.aY⟩=some r/\(r.1.length=(stM p.aY p.aY.length).length/\
  ∀(m e:Nat)s,(stM p.aY p.aY.length)[m]? =some (e,s)-> ∃c,Ag p.aY e s c/\r.1[m]? =some (pT p.instrument p.aY e s c)):=by
 have ja: ∀{e s},fR p.aY e s->1<=s.aW/\s.aW<=14/\f144 p.instrument ⟨s.aW,s.ct⟩=some (Pg p.instrument s,0):=λ{e s}hs=>by
  obtain⟨q,hq⟩:=(h.st e s hs).pl;obtain⟨_,p1,p2,_⟩:=iQ hq;refine⟨p1,p2,?_⟩;unfold Pg;rw[f144_y hq];rfl
 have Ri:f145 ⟨p,xj p.aY⟩=some (jz p.aY p.aY.length:Int):=by
  unfold f145;have w1:wr (((xj p.aY).length:Int)-1)=((p.aY.length:Nat):Int):=by grind [FV,jx]
  simp_all[bT,vc]
 unfold f89;refine eF (λk(q:List dX×List iA×List Int×Int)=>q.2.2.2=(k:Int)/\q.2.1.length=(stM p.aY k).length/\lr p.instrument p.aY k (λ_=>false) (stM p.aY k) q.1 q.2.2.1)
  (λr=> ∃ring,lr p.instrument p.aY p.aY.length (λ_=>false) (stM p.aY p.aY.length) r.1 ring) p.aY.length (by omega) ⟨rfl,rfl,⟨rfl,rfl,by simp[stM],λx v hv=>?_⟩⟩ ?_ ?_ ?_
 ·left;have hx:=(lf.1 hv).1;simp at hx;have hv:(List.replicate 15 (0:Int))[x]? =some v:=hv
  grind
 ·rintro k ⟨q1,q2,q3,q4⟩ hk ⟨e0,e1,e2⟩;simp only at e0 e1 e2;subst e0;have x1:p.aY[k]? =some (p.aY[k]'hk):=dF _;generalize p.aY[k]'hk=d at x1;have hML:=xN h k;have hf:=h.Wl x1;have PB:((bif decide ((d.cR.length:Int)=0)then some (!d.tie)else some false):Option Bool)=some (xJ d):=by
   have:=f199_eq d;unfold f199 at this
   grind
  simp only[cy x1,cP,bT x1,bT (vc (Wr hk)),cN,PB,dp (l:=p.aY) (by grind) x1];have hMk: ∀(m e:Nat)s,(stM p.aY k)[m]? =some (e,s)->e<k/\1<=s.aW/\s.aW<=14:=λm e s hm=>by
   obtain⟨h1,h2⟩:=lV.1 (gN hm)
   grind
  have first: ∃z,((bif xJ d then((bO (σ:=(List dX×List Int×Int)) (τ:=(List dX×List Int)) (λ((S7,S8,Ph):(List dX×List Int×Int))=>bif (decide (Ph<15))then((f143 Ph (jz p.aY k:Int) S8 S7).bind λr7=>some (.inl (r7.1,r7.2,(wr (Ph+1)))))else(some (.inr (S7,S8)))) cr (q1,q3,0)).bind λ((Vt,Vu):(List dX×List Int))=>some (Vt,Vu))else(some (q1,q3))):Option (List dX×List Int))=some z/\
    ∃bG:Int->Bool,(∀x:Int,1<=x->x<=14->bG x=false->xJ d=false)/\lr p.instrument p.aY k bG (stM p.aY k) z.1 z.2:=by
   cases hr:xJ d
   ·grind
   ·refine eF (λj(q:List dX×List Int×Int)=>q.2.2=(j:Int)/\lr p.instrument p.aY k (λy=>decide (y<(j:Int))&&decide (0<=y)) (stM p.aY k) q.1 q.2.1) (λr=>lr p.instrument p.aY k (λy=>decide (y<15)&&decide (0<=y)) (stM p.aY k) r.1 r.2) 15 (by omega) ⟨rfl,?_⟩ ?_ ?_ ?_
    ·grind
    ·rintro j ⟨r1,r2,r3⟩ hj ⟨f0,f1⟩;simp only at f0 f1;subst f0;have c1:decide ((j:Int)<15)=true:=Du (by omega);obtain⟨r,s1,s2,_⟩:=S6 f1 j hj x1 (.inl hr) (λm e s hm _=>(hMk m e s hm).1) (by omega);simp only[c1,cP,s1,cN,iz (show j<=4194304 by omega)];refine .inl ⟨_,rfl,rfl,?_⟩
     grind
    ·simp_all
    grind
  obtain⟨⟨z1,z2⟩,hz,bG,yi,Gu⟩:=first
  simp only[hz,cN];refine .inl (FQ (λj(q:List dX×List iA×List Int×Int)=>q.2.2.2=(j:Int)/\q.2.1.length=(stM p.aY k).length+j/\lr p.instrument p.aY k (λy=>bG y||(d.cR.take j).any λs=>decide (s.aW=y)) (stM p.aY k++(d.cR.take j).map λs=>(k,s)) q.1 q.2.2.1)
   (λr=>r.2.1.length=(stM p.aY (k+1)).length/\lr p.instrument p.aY k (λy=>bG y||vh d y) (stM p.aY (k+1)) r.1 r.2.2) d.cR.length (by omega) ⟨rfl,by grind,?_⟩ ?_ ?_ ?_)
  ·simpa using Gu
  ·rintro j ⟨r1,r2,r3,r4⟩ hj ⟨f0,f1,f2⟩;simp only at f0 f1 f2;subst f0;have y1:d.cR[j]? =some (d.cR[j]'hj):=dF _;have PJ:fR p.aY k (d.cR[j]'hj):=⟨d,x1,F2 _⟩;have FU:=(h.ev k d x1).qM;rw[Tc]at FU;have abf: ∀s∈d.cR.take j,s.aW<(d.cR[j]'hj).aW:=λs hs=>by
    grind [List.mem_take_iff_getElem]
   generalize d.cR[j]'hj=s at y1 PJ abf;obtain⟨b1,b2,b3⟩:=ja PJ;have kI:s.aW=((s.aW.toNat:Nat):Int):=by omega
   have Yl:vh d ((s.aW.toNat:Nat):Int)=true:=F5.2 ⟨s,gN y1,by grind⟩;have Kh:=f2.ol;have hM2:(stM p.aY k++(d.cR.take j).map λs=>(k,s)).length<=14*k+14:=by simp;omega
   obtain⟨r,s1,s2,s3⟩:=S6 f2 s.aW.toNat (by omega) x1 (.inr Yl) (λm e s' hm hc=>by
    grind) (by omega)
   rw[<-kI]at s1;have abg:=s2.ol;have n2:r.1.length+1<=bc:=by unfold bc;omega
   have n3:r2.length+1<=bc:=by grind
   have hMs:(stM p.aY k++(d.cR.take (j+1)).map λs=>(k,s))=(stM p.aY k++(d.cR.take j).map λs=>(k,s))++[(k,s)]:=by rw[cz y1];simp
   have hdn:(λy=>bG y||(d.cR.take (j+1)).any λs=>decide (s.aW=y))=λy=>(bG y||(d.cR.take j).any λs=>decide (s.aW=y))||decide (y=((s.aW.toNat:Nat):Int)):=by
    funext y;rw[cz y1,List.any_append,YU]
    grind
   simp only[cy y1,cP,bT y1,cN,s1,b3,Ri,dp (l:=d.cR) (by grind) y1];by_cases sM:0<s.ct
   ·have so:=h.st k s PJ;obtain⟨t,t1,c,t2,t3,t4,t5,t6⟩:=f146_y (i:=k) p (xj p.aY) hl so.h0 (h.hold PJ);have w1:wr (t+1)=(c:Int):=by rw[t2,jx (by omega) (by omega)]
    simp only[sM,ju,cP,t1,cN,w1,bT (vc t3),cQ n2,cQ n3];refine .inl ⟨_,rfl,rfl,by grind,?_⟩;rw[hMs,hdn];have:=so.h0;exact s2.abd (c:=c) ⟨by omega,t3,λ_=>⟨t4,t5,t6⟩,λhq=>absurd sM hq⟩
   ·have n4:s.aW<15:=by omega
    have s3':ix r.2 s.aW=some 0:=by grind [bT]
    have w1:wr ((r.1.length:Int)+1)=((stM p.aY k++(d.cR.take j).map λs=>(k,s)).length:Int)+1:=by rw[jx (by omega) (by omega),abg]
    simp only[sM,fZ,dv,cQ n4,s3',cN,w1,cQ n2,cQ n3];refine .inl ⟨_,rfl,rfl,by grind,?_⟩;rw[hMs,hdn];exact s2.abe kI (by omega) s3 sM
  ·rintro⟨r1,r2,r3,r4⟩ ⟨f0,f1,f2⟩;simp only at f0 f1 f2;subst f0;simp only[AX,fZ,dv];rw[LH]at f2;have hM3:stM p.aY (k+1)=stM p.aY k++d.cR.map λs=>(k,s):=by show stM p.aY k++qX p.aY k=_;unfold qX;rw[x1];rfl
   exact⟨_,rfl,by grind,by rw[hM3];exact f2⟩
  ·rintro⟨r1,r2,r3⟩ ⟨f1,f2⟩;refine⟨_,rfl,rfl,f1,f2.next (λm e s hm=>?_) x1 λx h1 h2 h3=>?_⟩
   ·have:=ja (lV.1 (gN hm)).2
    grind
   grind
 ·rintro⟨q1,q2,q3,q4⟩ ⟨e0,e1,e2⟩;simp only at e0 e1 e2;subst e0
  grind
 ·rintro⟨r1,r2⟩ ⟨ring,hr⟩;refine⟨_,rfl,hr.ol,λm e s hm=>?_⟩;obtain⟨c,c1,c2⟩:=hr.nt m e s hm;refine⟨c,?_,c1⟩;rcases c2 with c2|⟨c2,c3,rfl⟩
  ·exact c2
  ·have PJ:=lV.1 (gN hm);rcases hr.rg _ _ c3 with h0|⟨m',e',s',g1,g2,_,_,_,g6,_⟩
   ·omega
   ·have:m'=m:=by omega
    subst this;rw[hm]at g2;cases g2;exact⟨PJ.1,fw _,λhf=>absurd hf c2,λ_=>⟨g6,λd hd=>by simp at hd⟩⟩
theorem f32_y(p:cD)(hi:instS p.instrument=0)(h:kH p.instrument p.aY)(hl:p.aY.length<=400): ∃N,f32 p=some (N,0)/\N.length=(stM p.aY p.aY.length).length/\
  ∀(m e:Nat)s,(stM p.aY p.aY.length)[m]? =some (e,s)-> ∃c,Ag p.aY e s c/\N[m]? =some (pT p.instrument p.aY e s c):=by
 obtain⟨r,r1,r2⟩:=f89_y p h hl;unfold f32 f88;simp_all[f126_y]
theorem Rg.Pj{e c c':Nat}{s:cC}{p:aQ}(h:Rg E e p c')(h2:Ag E e s c)(hs:fR E e s)(hc:s.aW=p.aW)(hf:s.ct=p.ct):c'<=c:=by
 rcases J4 c c' with q|q
 ·exfalso;have hl:=h.le;have e1:E[c]? =some (E[c]'(by omega)):=dF _;by_cases hp:0<s.ct
  ·obtain⟨f1,_,f3⟩:=h2.fr hp;have h3:=f3 _ e1;rw[h.ho s hs hc (by omega) c _ f1 q e1]at h3;cases h3
  ·obtain⟨h3,h4⟩:=h.on c _ h2.lt q e1;rcases(h2.op hp).2 _ e1 with h5|h5
   all_goals grind
 ·exact q
theorem Nd.Vv{e c c':Nat}{s:cC}{p:aQ}(h:Nd E e p c')(h2:Ag E e s c)(hs:fR E e s)(hc:s.aW=p.aW)(hf:s.ct=p.ct):c'=c:=by
 have h1:=h.rg.Pj h2 hs hc hf;rcases J4 c' c with q|q
 ·exfalso;obtain⟨d,d1,d2,d3⟩:=h.en;by_cases hp:0<s.ct
  ·obtain⟨f1,f2⟩:=d2 (by omega);rw[(h2.fr hp).2.1 c' d (f2 s hs hc) q d1]at f1;cases f1
  ·have:=((h2.op hp).1 c' d h.rg.lt q d1).2
   grind
 ·omega
end
theorem f42_ex(l:List (List bH))(hs:ck l): ∃r,f42 l=some r/\r.1.length<=10000:=by
 unfold f42;rw[f14_eq l hs];simp only[cN];by_cases h:jd l=0
 ·obtain⟨h6,hp⟩:=lJ h;have h4: ∀p∈l,p.length<=400:=λp DN=>(hp p DN).1;have hf:=qQ 6 h6 h4;simp only[h,qd,qe,fZ,dv,f76_eq l h6 h4,cN]
  grind [Ju]
 simp_all
theorem f15_ex(j:jn)(hs:ck j.bW): ∃b,f15 j=some b/\True:=by
 unfold f15;rw[f14_eq _ hs,f41_eq];refine iF (P1:=λb=>b=false->jd j.bW=0) ?_ ?_
 ·simp only[cN];by_cases h:jd j.bW=0
  ·simp only[h,qd,qe,fZ,dv]
   grind
  simp_all
 intro b hb;cases b
 case true=>grind
 have Ft:=hb rfl;obtain⟨h6,hp⟩:=lJ Ft;have hp4: ∀p∈j.bW,ck p:=λp DN=>by grind
 simp only[dv];cases decide (4<(j.bW.length:Int))
 case true=>grind
 simp only[dv];refine eF (λk(s:Int×Int)=>s.2=(k:Int)) (λ_=>True) j.bW.length hs rfl ?_ ?_ ?_
 ·rintro k ⟨s1,s2⟩ hk e;simp only at e;subst e;have e1:j.bW[k]? =some (j.bW[k]'hk):=dF _;simp only[cy e1,cP,bT e1,cN,dp hs e1]
  grind
 ·simp_all
 intro n _;cases decide (24<n)
 case true=>grind
 simp only[dv];obtain⟨r,r1,r2⟩:=f42_ex j.bW hs;have hr:ck r.1:=by grind
 simp only[r1,cN];refine eF (λk(s:Int)=>s=(k:Int)) (λ_=>True) r.1.length hr rfl ?_ ?_ ?_
 ·rintro k s hk rfl;have e1:r.1[k]? =some (r.1[k]'hk):=dF _;generalize r.1[k]'hk=t at e1;simp only[cy e1,cP,bT e1,dp hr e1];have key: ∃z,(bO (σ:=(Int×Int)) (τ:=Int) (λ((Yx,Vw):(Int×Int))=>bif (decide (Vw<(j.bW.length:Int)))then((bO (σ:=(Int×Int)) (τ:=Int) (λ((Ia,Ai):(Int×Int))=>(ix j.bW Vw).bind λOE=>bif (decide (Ai<(OE.length:Int)))then((((ix OE Ai).bind λGf=>(((some t).bind λy15=>bif (decide (Gf.bP=y15))then(bif (decide (-1000<j.shift))then(some (decide (j.shift<1000)))else(some false))else(some false)):Option Bool).bind λ(Pk:Bool)=>bif Pk then((f43 j.instrument (wr (Gf.bU+j.shift))).bind λr19=>some (wr (Ia*(jZ 1 (r19.1.length:Int)))))else(some Ia)):Option Int).bind λ(Vx:Int)=>some (.inl (Vx,(wr (Ai+1)))))else(some (.inr Ia))) cr (Yx,0)).bind λ(Yy:Int)=>some (.inl (Yy,(wr (Vw+1)))))else(some (.inr Yx))) cr (1,0))=some z/\True:=by
   refine jt (λm(s:Int×Int)=>s.2=(m:Int)) (λ_=>True) j.bW.length hs rfl ?_ ?_
   ·rintro m ⟨s1,s2⟩ hm e;simp only at e;subst e;have e2:j.bW[m]? =some (j.bW[m]'hm):=dF _;have Ft:=hp4 _ (F2 hm);generalize j.bW[m]'hm=p at e2 Ft;simp only[cy e2,cP,bT e2,cN,dp hs e2];have abh: ∃z,(bO (σ:=(Int×Int)) (τ:=Int) (λ((Ia,Ai):(Int×Int))=>bif (decide (Ai<(p.length:Int)))then((((ix p Ai).bind λGf=>((bif (decide (Gf.bP=t))then(bif (decide (-1000<j.shift))then(some (decide (j.shift<1000)))else(some false))else(some false)):Option Bool).bind λ(Pk:Bool)=>bif Pk then((f43 j.instrument (wr (Gf.bU+j.shift))).bind λr19=>some (wr (Ia*(jZ 1 (r19.1.length:Int)))))else(some Ia)):Option Int).bind λ(Vx:Int)=>some (.inl (Vx,(wr (Ai+1)))))else(some (.inr Ia))) cr (s1,0))=some z/\True:=by
     refine jt (λm(s:Int×Int)=>s.2=(m:Int)) (λ_=>True) p.length Ft rfl ?_ ?_
     ·rintro q ⟨s1,s2⟩ hq e;simp only at e;subst e;have e3:p[q]? =some (p[q]'hq):=dF _;simp only[cy e3,cP,bT e3,cN,dp Ft e3,f43_eq];cases decide ((p[q]'hq).bP=t)
      ·simp_all
      ·cases decide (-1000<j.shift)
       ·simp_all
       ·cases decide (j.shift<1000)<;>exact .inl ⟨_,rfl,rfl⟩
     simp_all
    obtain⟨z,z1,_⟩:=abh;simp_all
   simp_all
  obtain⟨z,z1,_⟩:=key;rw[z1];simp only[cN];cases decide (300<z)
  all_goals grind
 ·simp_all
 ·intro o _;cases o<;>exact⟨_,rfl,trivial⟩
def xk(i k:Nat)(c:Int)(l:cV):Bool:=decide (l.part=(i:Int))&&(decide (l.fj=(k:Int))&&decide (l.kind=c))
def Vy(X:List cV)(i k:Nat)(c:Int):Prop:= ∀l∈X,xk i k c l=false
theorem Ib{i k:Nat}{c:Int}{l:cV}:xk i k c l=true↔l.part=(i:Int)/\l.fj=(k:Int)/\l.kind=c:=by simp[xk]
structure Yz (P:List (List bH)) (a:bp) (sh:Int) (s:cW) (i k:Nat) (x:bH) (p:aQ):Prop where
 pl:p∈(eN a (wr (x.bU+sh))).1
 n1:Vy s.dm i k 1
 n2:(Twin P s.dL i x p/\(⟨(i:Int),(k:Int),2,x.bP⟩:cV)∈s.dm)\/(¬Twin P s.dL i x p/\Vy s.dm i k 2)
 st: ∃(e:Nat)(t:cC),fR s.bE.aY e t/\t.aW=p.aW/\t.ct=p.ct/\x.bP=(jz s.bE.aY e:Int)/\
  ((Vy s.dm i k 3/\ ∃c,Rg s.bE.aY e p c/\x.dr<=(jz s.bE.aY c:Int))\/ ∃c,Nd s.bE.aY e p c/\(jz s.bE.aY c:Int)<x.dr/\(⟨(i:Int),(k:Int),3,(jz s.bE.aY c:Int)⟩:cV)∈s.dm)
def YA(s:cW)(i k:Nat)(x:bH)(p:aQ):Prop:=p=⟨0,0⟩/\(⟨(i:Int),(k:Int),1,x.bP⟩:cV)∈s.dm/\Vy s.dm i k 2/\Vy s.dm i k 3
section
variable {P:List (List bH)} {a:bp} {sh:Int} {s:cW}
theorem lq.YB(h:lq P a sh s){i k:Nat}{x:bH}(hx:ey P i k=some x): ∃p,fM s.dL i k=some p/\(YA s i k x p\/Yz P a sh s i k x p):=by
 obtain⟨T,L,X,gn,SZ,FW,_⟩:=h.set;have mj:=(lJ h.pr).2;have htk:=rW mj hx;have hxT:=SZ i k x hx;obtain⟨p,p1,p2⟩:=gn.fa i k x hx (by omega);have mu: ∀l,l∈s.dm-> ∀c,xk i k c l=true->l∈jA X i k:=λl hl c hq=>by
  rw[Ib]at hq;exact xQ.2 ⟨FW.mem_iff.1 hl,by simp[tg,hq.1,hq.2.1]⟩
 have ga: ∀l,l∈jA X i k->l∈s.dm:=λl hl=>FW.mem_iff.2 (xQ.1 hl).1;have ym: ∀c,(∀l∈jA X i k,l.kind≠c)->Vy s.dm i k c:=λc hc l hl=>by
  grind [Ib]
 refine⟨p,p1,?_⟩;rcases p2 with⟨rfl,p2⟩|⟨e,D,d1,d2,d3,d4⟩
 ·exact .inl ⟨rfl,ga _ (by rw[p2];simp),ym 2 (by rw[p2];simp),ym 3 (by rw[p2];simp)⟩
 ·right;have Pb: ∀{c c'},c<=c'->c'<=s.bE.aY.length->jz s.bE.aY c<=jz s.bE.aY c':=λ{c c'}h1 h2=>by
   rcases J4 c c' with q|q
   ·exact Wr (uY gn.ev q h2)
   grind
  rcases d4 with⟨d4,d5⟩|⟨c,c1,c2,c3⟩
  ·have hr: ∃c,Rg s.bE.aY e p c/\x.dr<=(jz s.bE.aY c:Int):=by
    rcases d5 with⟨n,n1,n2,n3⟩|d5
    ·obtain⟨e0,e1,e2,e3⟩:=(gn.lv n n1).ev
     grind
    ·exact d5
   obtain⟨c,c1,c2⟩:=hr;obtain⟨t,t1,t2,t3⟩:=c1.st;refine⟨d1,ym 1 ?_,?_,e,t,t1,t2,t3,d2.symm,.inl ⟨ym 3 ?_,c,c1,c2⟩⟩
   ·rw[d4];rcases d3 with⟨rfl,_⟩|⟨rfl,_⟩<;>simp
   ·rcases d3 with⟨rfl,h1⟩|⟨rfl,h1⟩
    all_goals grind
   ·rw[d4];rcases d3 with⟨rfl,_⟩|⟨rfl,_⟩<;>simp
  ·obtain⟨t,t1,t2,t3⟩:=c1.rg.st;refine⟨d1,ym 1 ?_,?_,e,t,t1,t2,t3,d2.symm,.inr ⟨c,c1,c2,ga _ (by rw[c3];simp)⟩⟩
   ·rw[c3];rcases d3 with⟨rfl,_⟩|⟨rfl,_⟩<;>simp
   ·rcases d3 with⟨rfl,h1⟩|⟨rfl,h1⟩
    all_goals grind
theorem lq.one(h:lq P a sh s){l l':cV}(h1:l∈s.dm)(h2:l'∈s.dm)(he:kL l=kL l'):l=l':=by
 have hs:=h.srt
 grind [List.pairwise_iff_getElem,List.getElem_of_mem]
theorem f147_eq(X:List cV)(i k:Nat)(c:Int)(hs:ck X):f147 X ⟨(i:Int),(k:Int)⟩ c=some (gX (xk i k c) X):=by
 unfold f147;rw[eg X (xk i k c) (λi _=>(i:Int)) hs]
 ·simp only[cN,fH,gX]
  grind
 ·intro j y hy;simp only[cy hy,cP,bT hy,cN,f148,xk]
  grind
 ·simp
theorem f90_none(A:eL){i k:Nat}{c:Int}(hs:ck A.s.dm)(h:Vy A.s.dm i k c):f90 A ⟨(i:Int),(k:Int)⟩ c=some (⟨0,0,0,0⟩,false):=by
 unfold f90;rw[f147_eq _ _ _ _ hs];have:decide (gX (xk i k c) A.s.dm<0)=true:=by
  rw[xG];have:A.s.dm.any (xk i k c)=false:=by
   rw[Ww];intro l hl;rw[h l hl];simp
  grind
 grind
theorem f90_some(A:eL){i k:Nat}{c:Int}{l:cV}(hs:ck A.s.dm)(hl:l∈A.s.dm)(hk:xk i k c l=true)(hu: ∀l'∈A.s.dm,xk i k c l'=true->l'=l):f90 A ⟨(i:Int),(k:Int)⟩ c=some (l,true):=by
 unfold f90;rw[f147_eq _ _ _ _ hs];obtain⟨j,x,e1,e2,e3⟩:=rO (F5.2 ⟨l,hl,hk⟩);have:=hu x (gN e2) e3;simp_all[qf,bT]
theorem lq.f72s(h:lq P a sh s)(N:List dX)(B:List Bool){i k:Nat}{c t:Int}(hl:(⟨(i:Int),(k:Int),c,t⟩:cV)∈s.dm):f90 ⟨P,s,N,B⟩ ⟨(i:Int),(k:Int)⟩ c=some (⟨(i:Int),(k:Int),c,t⟩,true):=
 f90_some _ (by show s.dm.length<=_;have:=h.ll;omega) hl (by simp[xk]) λl' h1 h2=>h.one h1 hl (by
  rw[Ib]at h2;unfold kL
  grind)
theorem qY{P:List (List bH)}{i k:Nat}{x:bH}(h:ey P i k=some x): ∃p,P[i]? =some p/\p[k]? =some x:=by
 unfold ey at h
 grind
theorem v8{W:List (List aQ)}{i k:Nat}{p:aQ}(h:fM W i k=some p): ∃w,W[i]? =some w/\w[k]? =some p:=by
 unfold fM at h
 grind
theorem JV{P:List (List bH)}{i k:Nat}{p:List bH}{x:bH}(h1:P[i]? =some p)(h2:p[k]? =some x):ey P i k=some x:=by unfold ey;grind
theorem abi{n i:Nat}(h:i<n)(hn:n<=4194304):wr ((i:Int)+1)=((i+1:Nat):Int):=iz (by omega)
theorem f92_y(h:lq P a sh s)(N:List dX)(B:List Bool){i k:Nat}{x:bH}{p:aQ}(hx:ey P i k=some x)(hp:fM s.dL i k=some p)(h0:1<=p.aW): ∃b,f92 ⟨P,s,N,B⟩ ⟨(i:Int),(k:Int)⟩=some b/\(b=true↔Twin P s.dL i x p):=by
 obtain⟨hP6,mj⟩:=lJ h.pr;obtain⟨q,x1,x2⟩:=qY hx;obtain⟨w,y1,y2⟩:=v8 hp;have hi:=(lf.1 x1).1;have SS:=h.ll;unfold f92;simp only[bT x1,bT x2,bT y1,bT y2,cN];refine eF (λl(z:Int)=>z=(l:Int)/\ ∀(i' k':Nat)x',i'<l->ey P i' k'=some x'->x'.bP=x.bP->fM s.dL i' k'≠some p) (λr=>match r with
  |.inl _=> ¬Twin P s.dL i x p
  |.inr b=>b=true/\Twin P s.dL i x p) i (by omega) ⟨rfl,λi' k' x' h=>by omega⟩ ?_ ?_ ?_
 ·rintro l _ hl ⟨rfl,hq⟩;have z1:P[l]? =some (P[l]'(by omega)):=dF _;have Z8:=(mj _ (F2 (by omega:l<P.length))).1;generalize P[l]'(by omega)=q' at z1 Z8;have c1:decide ((l:Int)<(i:Int))=true:=Du (by omega);simp only[c1,cP,bT z1,cN,abi hl (by omega)];have row: ∃r,bO (σ:=Int) (τ:=(Unit⊕(Int⊕(Unit⊕Bool)))) (λ(FX:Int)=>bif (decide (FX<(q'.length:Int)))then((((ix q' FX).bind λy8=>((bif (decide (y8.bP≠x.bP))then(some true)else((ix s.dL (l:Int)).bind λy10=>(ix y10 FX).bind λy11=>some (!(jo y11 p)))):Option Bool).bind λ(YC:Bool)=>bif YC then(some (.inl ()))else((f90 ⟨P,s,N,B⟩ (⟨(l:Int),FX⟩:bX) 1).bind λr13=>bif (!r13.2)then(some (.inr (.inr (.inr (.inr (.inr true))))))else(some (.inl ())))):Option (Unit⊕(Int⊕(Unit⊕(Int⊕(Unit⊕Bool)))))).bind (Sum.elim (λ(_:Unit)=>some (.inl (wr (FX+1)))) some))else(some (.inr (.inl ())))) cr 0=some r/\
    ((r=.inl ()/\ ∀(k':Nat)x',q'[k']? =some x'->x'.bP=x.bP->fM s.dL l k'≠some p)\/(r=.inr (.inr (.inr true))/\Twin P s.dL i x p)):=by
   refine jt (λj(z:Int)=>z=(j:Int)/\ ∀(k':Nat)x',k'<j->q'[k']? =some x'->x'.bP=x.bP->fM s.dL l k'≠some p) _ q'.length (by omega) ⟨rfl,λk' x' h=>by omega⟩ ?_ ?_
   ·rintro j _ hj ⟨rfl,hr⟩;have v1:q'[j]? =some (q'[j]'hj):=dF _;generalize q'[j]'hj=x' at v1;have ht:=JV z1 v1;obtain⟨p',p1,p2⟩:=h.YB ht;obtain⟨w',w1,w2⟩:=v8 p1;simp only[cy v1,cP,bT v1,bT w1,bT w2,cN,dp (l:=q') (by grind) v1];by_cases hf:x'.bP=x.bP
    ·simp only[hf,qd,qe,fZ,dv,cN,FE];by_cases ML:p'=p
     ·subst ML;rcases p2 with⟨p2,_⟩|p2
      ·grind
      ·rw[f90_none _ (by grind) p2.n1];simp only[ju,pV,dv,cN,LI,cP];exact .inr ⟨_,rfl,.inr ⟨rfl,l,j,x',hl,ht,hf,p1⟩⟩
     grind
    grind
   grind
  grind [qY]
 ·rintro _ ⟨rfl,hq⟩;simp only[AX,fZ,dv];exact⟨_,rfl,λ⟨i',k',x',t1,t2,t3,t4⟩=>hq i' k' x' t1 t2 t3 t4⟩
 ·intro r hr;cases r with
  |inl u=>simp_all
  |inr b=>
   simp_all
def xO(p:cD)(N:List dX):Prop:=N.length=(stM p.aY p.aY.length).length/\
 ∀(m e:Nat)s,(stM p.aY p.aY.length)[m]? =some (e,s)-> ∃c,Ag p.aY e s c/\N[m]? =some (pT p.instrument p.aY e s c)
theorem Vz{E:List bJ}{e:Nat}{t:cC}(h:fR E e t): ∃m:Nat,(stM E E.length)[m]? =some (e,t):=by
 obtain⟨m,hm,he⟩:=qZ ((lV (x:=(e,t))).2 ⟨h.lt,h⟩);exact⟨m,by grind⟩
theorem FY(h:lq P a sh s){N:List dX}(hN:xO s.bE N){m e:Nat}{t:cC}(hm:(stM s.bE.aY s.bE.aY.length)[m]? =some (e,t)){j:Nat}{y:dX}(hy:N[j]? =some y)(h1:y.bP=(jz s.bE.aY e:Int))(h2:y.aW=t.aW):j=m:=by
 obtain⟨T,L,X,gn,_⟩:=h.set;have hj:=(lf.1 hy).1;have ej:(stM s.bE.aY s.bE.aY.length)[j]? =some ((stM s.bE.aY s.bE.aY.length)[j]'(by rw[<-hN.1];exact hj)):=dF _;generalize(stM s.bE.aY s.bE.aY.length)[j]'(by grind)=z at ej;obtain⟨e',t'⟩:=z;obtain⟨c,_,c2⟩:=hN.2 j e' t' ej;rw[hy]at c2;cases c2;have m1:=lV.1 (gN hm);have m2:=lV.1 (gN ej);have m1l:=m1.1;have m2l:=m2.1;have h1:((jz s.bE.aY e':Nat):Int)=(jz s.bE.aY e:Int):=h1;have he:e'=e:=O1 gn.ev (Wr m2l) (Wr m1l) (by omega);subst he;have h2:t'.aW=t.aW:=h2;have ht:=gn.ev.one m2.2 m1.2 h2;subst ht;have hp:=JU gn.ev s.bE.aY.length
 grind [List.pairwise_iff_getElem]
theorem f150_y(h:lq P a sh s){N:List dX}(hN:xO s.bE N)(B:List Bool){x:bH}{p:aQ}{m e:Nat}{t:cC}(hm:(stM s.bE.aY s.bE.aY.length)[m]? =some (e,t))(h1:x.bP=(jz s.bE.aY e:Int))(h2:t.aW=p.aW)(h3:t.ct=p.ct)
  (h4:p∈(eN a (wr (x.bU+sh))).1):f150 N x p ⟨P,s,N,B⟩=some (m:Int):=by
 obtain⟨T,L,X,gn,_⟩:=h.set;obtain⟨c,_,c2⟩:=hN.2 m e t hm;have hNl:N.length<=5600:=by have:=xN gn.ev s.bE.aY.length;have:=h.el;have:=hN.1;omega
 have abj:Pg s.bE.instrument t=wr (x.bU+sh):=by
  unfold Pg;rw[show(⟨t.aW,t.ct⟩:aQ)=p by rw[h2,h3],h.ai,f144_y h4];rfl
 unfold f150;rw[eg N (λy=>decide (y.bP=x.bP)&&(decide (y.aW=p.aW)&&decide (y.bU=wr (x.bU+s.shift)))) (λi _=>(i:Int)) (by grind)]
 ·have xo:=FL (p:=λy:dX=>decide (y.bP=x.bP)&&(decide (y.aW=p.aW)&&decide (y.bU=wr (x.bU+s.shift)))) c2 (by simp[pT,abj,h.si,h1,h2]) λj y hy hq=>by
   grind [FY]
  simp only[cN,fH];unfold gX at xo
  grind
 ·intro j y hy;simp only[cy hy,cP,bT hy,cN,f151]
  grind
 ·simp
theorem f34_y(h:lq P a sh s){N:List dX}(hN:xO s.bE N)(B:List Bool)(hB:B.length=N.length){i k:Nat}{x:bH}(hx:ey P i k=some x):
  ∃B',f34 ⟨P,s,N,B⟩ ⟨(i:Int),(k:Int)⟩=some (true,B')/\B'.length=B.length/\(∀m:Nat,B[m]? =some true->B'[m]? =some true)/\
   ∀(m e:Nat)t,(stM s.bE.aY s.bE.aY.length)[m]? =some (e,t)->fM s.dL i k=some ⟨t.aW,t.ct⟩->x.bP=(jz s.bE.aY e:Int)->B'[m]? =some true:=by
 obtain⟨T,L,X,gn,_⟩:=h.set;have SS:=h.ll;have FB:ck s.dm:=by grind
 obtain⟨q,x1,x2⟩:=qY hx;obtain⟨p,p1,p2⟩:=h.YB hx;obtain⟨w,y1,y2⟩:=v8 p1;unfold f34;rcases p2 with⟨rfl,d1,d2,d3⟩|wm
 ·have e1:=h.f72s N B d1;have e2:f91 ⟨P,s,N,B⟩ ⟨(i:Int),(k:Int)⟩ ⟨(i:Int),(k:Int),1,x.bP⟩=some true:=by
   unfold f91;rw[f90_none _ FB d2,f90_none _ FB d3];simp only[cN,LI,cP,bT x1,bT x2,bT y1,bT y2,ju];rfl
  simp only[e1,cN,cP,e2];refine⟨B,rfl,rfl,λm hm=>hm,λm e t hm hp _=>?_⟩;have hs:=(lV.1 (gN hm)).2;obtain⟨q',hq'⟩:=(gn.ev.st e t hs).pl;have h1:=(iQ hq').2.1
  grind
 ·have Q7:=(iQ wm.pl).2.1;obtain⟨e,t,s1,s2,s3,s4,s5⟩:=wm.st;obtain⟨m,hm⟩:=Vz s1;obtain⟨c,c1,c2⟩:=hN.2 m e t hm;have R1:=(lf.1 c2).1;obtain⟨b,b1,b2⟩:=f92_y h N B hx p1 Q7;have e2: ∃r4,f90 ⟨P,s,N,B⟩ ⟨(i:Int),(k:Int)⟩ 2=some r4/\(!(r4.2==b))=false/\(r4.2=true->r4.1.time=x.bP):=by
   rcases wm.n2 with⟨n1,n2⟩|⟨n1,n2⟩
   ·refine⟨_,h.f72s N B n2,?_,λ_=>rfl⟩
    grind
   simp_all[f90_none]
  obtain⟨r4,r1,r2,r3⟩:=e2;have e3:(bif r4.2 then(some (decide (r4.1.time≠x.bP)))else some false)=some false:=by
   grind
  have e4:f149 s.bE.instrument p (wr (x.bU+s.shift))=some true:=by
   unfold f149;rw[h.ai,h.si,f144_y wm.pl];simp
  have e5:=f150_y h hN B hm s4 s2 s3 wm.pl;have e6:B[m]? =some (B[m]'(by omega)):=dF _;have c3:decide ((m:Int)<0)=false:=qf (by omega);have e7:f93 ⟨P,s,N,B⟩ ⟨(i:Int),(k:Int)⟩=some (true,B.set m true):=by
   unfold f93;simp only[bT x1,bT x2,bT y1,bT y2,cN,e4,pV,dv,e5,c3,bT e6,bT c2,wb];rcases s5 with⟨n3,c',r5,r6⟩|⟨c',r5,r6,r7⟩
   ·rw[f90_none ⟨P,s,N,B.set m true⟩ FB n3];have:=r5.Pj c1 s1 s2 s3;have eR:x.dr<=(jz s.bE.aY c:Int):=by
     rcases J4 c' c with q|q
     ·have:=uY gn.ev q c1.le;omega
     grind
    have:decide (x.dr<=(pT s.bE.instrument s.bE.aY e t c).dr)=true:=Du eR
    grind
   ·rw[h.f72s N (B.set m true) r7];have:=r5.Vv c1 s1 s2 s3;subst this;have:decide ((jz s.bE.aY c':Int)<x.dr)=true:=Du r6;simp only[cN,cP,this];simp[pT]
  rw[f90_none ⟨P,s,N,B⟩ FB wm.n1];simp only[cN,dv,r1,b1,r2,bT x1,bT x2,e3,e7];refine⟨_,rfl,by simp,λm' ve=>?_,λm' e' t' ve DN DJ=>?_⟩
  ·grind
  ·rw[p1]at DN;have DN:=Option.some.inj DN;obtain⟨c',_,c4⟩:=hN.2 m' e' t' ve;have:m'=m:=FY h hN hm c4 (by show(jz s.bE.aY e':Int)=_;omega) (by show t'.aW=_;rw[s2,DN])
   grind
theorem f33_y(h:lq P a sh s)(N:List dX)(B:List Bool):f33 ⟨P,s,N,B⟩=some true:=by
 have key: ∃r,f33 ⟨P,s,N,B⟩=some r/\r=true:=by
  obtain⟨T,L,X,gn,_,FW,_⟩:=h.set;obtain⟨hP6,mj⟩:=lJ h.pr;have SS:=h.ll;unfold f33;refine eF (λk(z:Int)=>z=(k:Int)) (λr=>r=.inl ()) s.dm.length (by omega) rfl ?_ ?_ ?_
  ·rintro k _ hk rfl;have e1:s.dm[k]? =some (s.dm[k]'hk):=dF _;have hl:=F2 hk;have hlk:=h.lk _ hl;obtain⟨i,j,x,l1,l2,l3,_⟩:=gn.lo _ (FW.mem_iff.1 hl);obtain⟨q,x1,x2⟩:=qY l3;have hi:=(lf.1 x1).1;have hj:=(lf.1 x2).1;have Z8:=(mj q (gN x1)).1;have YD:=h.srt;rw[Tc]at YD;have YE: ∀k',k'+1=k-> ∃l',s.dm[k']? =some l'/\f70 l' (s.dm[k]'hk)=some (-1):=λk' ye=>by
    have e2:s.dm[k']? =some (s.dm[k']'(by omega)):=dF _;refine⟨_,e2,?_⟩;have hb:=h.lk _ (F2 (by omega:k'<s.dm.length));rw[f70_key (by omega) (by omega)];have:=YD k' k (by omega) hk (by omega);simp[p8,this]
   generalize s.dm[k]'hk=l at e1 hlk l1 l2 YE;have w1:wr ((P.length:Int)-1)=(P.length:Int)-1:=jx (by omega) (by omega);have w2:wr ((q.length:Int)-1)=(q.length:Int)-1:=jx (by omega) (by omega);have r1:pB l.part 0 ((P.length:Int)-1)=true:=by simp[pB];omega
   have r2:pB l.fj 0 ((q.length:Int)-1)=true:=by simp[pB];omega
   have r3:pB l.kind 1 3=true:=by simp[pB];omega
   have ixp:ix P l.part=some q:=by grind [bT]
   simp only[cy e1,cP,bT e1,cN,f31_eq,w1,r1,ixp,w2,r2,r3,pV,dv,dp (l:=s.dm) (by grind) e1];by_cases hk0:k=0
   ·grind
   ·obtain⟨l',g1,g2⟩:=YE (k-1) (by omega);have c1:decide ((0:Int)<(k:Int))=true:=Du (by omega);have w3:wr ((k:Int)-1)=((k-1:Nat):Int):=by grind [jx]
    simp_all[bT]
  all_goals simp_all
 grind
theorem f35_all(B:List Bool)(hs:ck B)(h: ∀(m:Nat)b,B[m]? =some b->b=true):f35 B false=some false:=by
 unfold f35 f94;rw[eg B (λb=>false==b) (λi _=>(i:Int)) hs]
 ·have:B.findIdx? (λb=>false==b)=none:=by
   rw[List.findIdx?_eq_none_iff];intro b hb;obtain⟨m,hm,rfl⟩:=qZ hb;rw[h m _ (dF hm)];rfl
  grind [fH]
 ·intro j y hy;simp only[cy hy,cP,bT hy,cN]
  grind
 ·simp
theorem f12_y(h:lq P a sh s):f12 P s=some 0:=by
 have key: ∃r,f12 P s=some r/\r=0:=by
  obtain⟨T,L,X,gn,SZ,FW,_⟩:=h.set;obtain⟨hP6,mj⟩:=lJ h.pr;have Kw:kH s.bE.instrument s.bE.aY:=by rw[h.ai];exact gn.ev
  have yu:instS s.bE.instrument=0:=by rw[h.ai];exact h.ins
  obtain⟨N,n1,n2⟩:=f32_y s.bE yu Kw h.el;have hN:xO s.bE N:=n2;have hNl:N.length<=5600:=by have:=xN gn.ev s.bE.aY.length;have:=h.el;grind
  have hwl:s.dL.length=P.length:=by have:=fL List.length gn.ws;grind
  have hr:pB s.shift (-24) 24=true:=by have:=h.shr;rw[h.si];simp[pB];omega
  have cw:decide ((s.dL.length:Int)≠(P.length:Int))=false:=by grind
  unfold f12;rw[f21_eq P (by grind),h.pr,f30_y s.bE yu Kw h.el,f31_eq,hr];simp only[cN,qd,qe,fZ,dv,pV,cw];refine eF (λk(z:Int)=>z=(k:Int)) (λr=>r=.inl ()) P.length (by omega) rfl ?_ ?_ ?_
  ·rintro k _ hk rfl;have e1:P[k]? =some (P[k]'hk):=dF _;have e2:s.dL[k]? =some (s.dL[k]'(by omega)):=dF _;generalize P[k]'hk=q at e1;generalize s.dL[k]'(by omega)=w at e2;have dK:w.length=q.length:=by
    have:=fL (·[k]?) gn.ws
    grind
   have c1:decide (¬(w.length:Int)=(q.length:Int))=false:=by grind
   simp only[cy e1,cP,bT e1,bT e2,cN,c1,dv,dp (l:=P) (by grind) e1]
   grind
  ·grind
  rintro _ rfl;have m1:(0:Int)<=(N.length:Int):=by omega
  have m2:(N.length:Int)<=(bc:Int):=by unfold bc;omega
  simp only[BX,n1,cN,qe,fZ,dv,cQ m1,cQ m2,wb,f33_y h,pV];refine eF (λi(z:List Bool×Int)=>z.2=(i:Int)/\z.1.length=N.length/\ ∀(m e:Nat)t,(stM s.bE.aY s.bE.aY.length)[m]? =some (e,t)->(∃(i' k':Nat)(x':bH),i'<i/\ey P i' k'=some x'/\fM s.dL i' k'=some ⟨t.aW,t.ct⟩/\x'.bP=(jz s.bE.aY e:Int))->z.1[m]? =some true)
   (λr=> ∃B,r=.inl B/\B.length=N.length/\ ∀(m:Nat)b,B[m]? =some b->b=true) P.length (by omega) ⟨rfl,by simp,λm e t _ ⟨i',_,_,h,_⟩=>by omega⟩ ?_ ?_ ?_
  ·rintro i ⟨B,_⟩ hi ⟨e0,b1,b2⟩;simp only at e0 b1 b2;subst e0;have e1:P[i]? =some (P[i]'hi):=dF _;have Z8:=(mj _ (F2 hi)).1;generalize P[i]'hi=q at e1 Z8;simp only[cy e1,cP,bT e1,cN,dp (l:=P) (by grind) e1];refine .inl (FQ (λk(z:List Bool×Int)=>z.2=(k:Int)/\z.1.length=N.length/\ ∀(m e:Nat)t,(stM s.bE.aY s.bE.aY.length)[m]? =some (e,t)->(∃(i' k':Nat)(x':bH),(i'<i\/i'=i/\k'<k)/\ey P i' k'=some x'/\fM s.dL i' k'=some ⟨t.aW,t.ct⟩/\x'.bP=(jz s.bE.aY e:Int))->z.1[m]? =some true)
    (λr=> ∃B',r=.inl B'/\B'.length=N.length/\ ∀(m e:Nat)t,(stM s.bE.aY s.bE.aY.length)[m]? =some (e,t)->(∃(i' k':Nat)(x':bH),i'<i+1/\ey P i' k'=some x'/\fM s.dL i' k'=some ⟨t.aW,t.ct⟩/\x'.bP=(jz s.bE.aY e:Int))->B'[m]? =some true) q.length (by omega) ⟨rfl,b1,λm e t hm ⟨i',k',x',h1,h2⟩=>b2 m e t hm ⟨i',k',x',by omega,h2⟩⟩ ?_ ?_ ?_)
   ·rintro k ⟨B1,_⟩ hk ⟨f0,f1,f2⟩;simp only at f0 f1 f2;subst f0;have y1:q[k]? =some (q[k]'hk):=dF _;generalize q[k]'hk=x at y1;have hx:=JV e1 y1;obtain⟨B',g1,g2,g3,g4⟩:=f34_y h hN B1 f1 hx;simp only[cy y1,cP,g1,cN,pV,dv,dp (l:=q) (by grind) y1]
    grind
   ·rintro⟨B1,_⟩ ⟨f0,f1,f2⟩;simp only at f0 f1 f2;subst f0;simp only[AX,fZ,dv]
    grind [qY]
   ·rintro _ ⟨B',rfl,f1,f2⟩;exact⟨_,rfl,rfl,f1,f2⟩
  ·rintro⟨B,_⟩ ⟨e0,b1,b2⟩;simp only at e0 b1 b2;subst e0;simp only[AX,fZ,dv];refine⟨_,rfl,B,rfl,b1,λm b hb=>?_⟩;have hm:=(lf.1 hb).1;have em:(stM s.bE.aY s.bE.aY.length)[m]? =some ((stM s.bE.aY s.bE.aY.length)[m]'(by grind)):=dF _;generalize(stM s.bE.aY s.bE.aY.length)[m]'(by grind)=z at em;obtain⟨e,t⟩:=z;obtain⟨i',k',x',h1,h2,h3⟩:=gn.sp e t (lV.1 (gN em)).2;have:=b2 m e t em ⟨i',k',x',(rW mj h1).2.2.2.2.2.2,h1,h3,h2⟩
   grind
  rintro _ ⟨B,rfl,b1,b2⟩;simp only[BX,f35_all B (by grind) b2,cN,dv]
  grind
 grind
end
theorem f15_4(j:jn)(hs:ck j.bW): ∃b,f15 j=some b/\(b=false->nw j.bW j.instrument=0->j.bW.length<=4):=by
 obtain⟨b,h1,_⟩:=f15_ex j hs;refine⟨b,h1,λhb h2=>?_⟩;subst hb;rcases J4 4 j.bW.length with c|c
 ·exfalso;obtain⟨p1,p2⟩:=Fw h2;have c1:decide (4<(j.bW.length:Int))=true:=Du (by omega);have:f15 j=some true:=by
   unfold f15;rw[f14_eq _ hs,f41_eq];simp only[p1,p2,cN,qd,qe,fZ,dv,c1,cP]
  rw[this]at h1;cases h1
 ·exact c
section
variable {P:List (List bH)} {a:bp} {sh:Int} {s:cW}
end
end Go.Proofs.YtgpciecmgoppiaaGreat
