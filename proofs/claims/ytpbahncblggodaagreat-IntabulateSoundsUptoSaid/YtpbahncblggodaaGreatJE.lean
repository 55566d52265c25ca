/- Plain laws, joined by gen/joinH.py. -/
import Derived.Test.YtpbahncblggodaaGreatJD
set_option linter.all false
namespace Go.Proofs.YtpbahncblggodaaGreat
open Go Go.Am
set_option maxRecDepth 100000
def sF(i k:Nat)(l:cQ):Bool:=decide (l.part=(i:Int))&&decide (l.eK=(k:Int))
def je(X:List cQ)(i k:Nat):List cQ:=X.filter (sF i k)
def Twin(P:List (List bV))(W:List (List bn))(i:Nat)(x:bV)(p:bn):Prop:= ∃(i' k':Nat)(x':bV),i'<i/\dO P i' k'=some x'/\x'.bX=x.bX/\eU W i' k'=some p
def XC(P:List (List bV))(W:List (List bn))(i k:Nat)(x:bV)(p:bn)(D:List cQ):Prop:=(D=[]/\ ¬Twin P W i x p)\/(D=[⟨(i:Int),(k:Int),2,x.bX⟩]/\Twin P W i x p)
def Z9(a:bK)(sh:Int)(P:List (List bV))(E:List cg)(L:List bF)(W:List (List bn))(X:List cQ)(i k:Nat)(x:bV):Prop:=
 ∃p,eU W i k=some p/\((p=⟨0,0⟩/\je X i k=[⟨(i:Int),(k:Int),1,x.bX⟩])\/
  ∃(e:Nat)(D:List cQ),p∈(eD a (wr (x.bW+sh))).1/\(iD E e:Int)=x.bX/\XC P W i k x p D/\
   ((je X i k=D/\((∃n∈L,(⟨(i:Int),(k:Int)⟩:b8)∈n.bO/\n.cW=(e:Int))\/ ∃c,Rg E e p c/\x.dr<=(iD E c:Int)))\/
    ∃c,Nd E e p c/\(iD E c:Int)<x.dr/\je X i k=D++[⟨(i:Int),(k:Int),3,(iD E c:Int)⟩]))
structure MY (a:bK) (sh:Int) (P:List (List bV)) (T:Int) (E:List cg) (L:List bF) (W:List (List bn)) (X:List cQ):Prop where
 ev:kC a E
 du:(iD E E.length:Int)=T
 lv: ∀n∈L,Qx P E W n
 ld:L.Pairwise λx y=>x.bP.bc≠y.bP.bc
 ws:Ee P W
 fa: ∀(i k:Nat)x,dO P i k=some x->x.bX<T->Z9 a sh P E L W X i k x
 lo: ∀l∈X,∃(i k:Nat)(x:bV),l.part=(i:Int)/\l.eK=(k:Int)/\dO P i k=some x/\x.bX<T
 sp: ∀e s,fA E e s-> ∃(i k:Nat)(x:bV),dO P i k=some x/\x.bX=(iD E e:Int)/\eU W i k=some ⟨s.bc,s.ct⟩
def Cn(X:List cQ):Prop:=X.Pairwise λx y=> ¬(x.part=y.part/\x.eK=y.eK)
theorem sG{X:List cQ}(h:Cn X){i k:Nat}{l:cQ}(hl:l∈X)(hk:sF i k l=true):je X i k=[l]:=by
 induction X with
 |nil=>simp at hl
 |cons y r ih=>
  rw[Cn,CG]at h
  simp[sF]at hk
  rcases mB.1 hl with rfl|hl
  ·unfold je
   rw[Yc (by simp[sF,hk])]
   congr 1
   rw[WR]
   intro z hz hq
   simp[sF]at hq
   exact h.1 z hz ⟨by omega,by omega⟩
  ·unfold je
   rw[Yd]
   ·exact ih h.2 hl
   ·intro hq
    simp[sF]at hq
    exact h.1 l hl ⟨by omega,by omega⟩
theorem nU{X:List cQ}{i k:Nat}(h: ∀l∈X,¬(l.part=(i:Int)/\l.eK=(k:Int))):je X i k=[]:=by
 unfold je
 rw[WR]
 intro l hl hq
 simp[sF]at hq
 exact h l hl hq
theorem qQ{X Y:List cQ}{i k:Nat}:je (X++Y) i k=je X i k++je Y i k:=EL ..
theorem qR{T:Int}{n:bF}{l:cQ}(h:l∈jo T n): ∃m∈n.bO,l.part=m.part/\l.eK=m.eK:=by
 unfold jo at h
 cases hc:decide (n.bP.bc=0)<;>rw[hc]at h
 ·obtain⟨m,h1,rfl⟩:=kb.1 h
  exact⟨m,GF h1,rfl,rfl⟩
 ·obtain⟨m,h1,rfl⟩:=kb.1 h
  exact⟨m,h1,rfl,rfl⟩
theorem qS{P:List (List bV)}{T:Int}{n:bF}{l:cQ}(h:l∈lr P T n): ∃m∈n.bO,l.part=m.part/\l.eK=m.eK/\T<toOf P m:=by
 obtain⟨m,h1,rfl⟩:=kb.1 h
 obtain⟨h2,h3⟩:=mC.1 h1
 exact⟨m,h2,rfl,rfl,by simpa using h3⟩
theorem Ii{f:bF->List cQ}{l:List bF}{R:bF->bF->Prop}(h1: ∀n∈l,∀x∈f n,∃m∈n.bO,x.part=m.part/\x.eK=m.eK)(h2: ∀n∈l,Cn (f n))(h3:l.Pairwise R)(h4: ∀n∈l,∀n'∈l,R n n'-> ∀m∈n.bO,m ∉ n'.bO):Cn (l.flatMap f):=by
 unfold Cn
 rw[List.pairwise_flatMap]
 refine⟨h2,h3.imp_of_mem λ{n n'}hn lY hR x hx y hy GY=>?_⟩
 obtain⟨m,m1,m2,m3⟩:=h1 n hn x hx
 obtain⟨m',m4,m5,m6⟩:=h1 n' lY y hy
 have:m=m':=by cases m;cases m';simp at m2 m3 m5 m6;simp;omega
 subst this
 exact h4 n hn n' lY hR m m1 m4
theorem yK{t kd:Int}{l:List b8}(h:l.Pairwise λa b=>a.part<b.part):Cn (l.map (pg t kd)):=by
 unfold Cn
 rw[GJ]
 exact h.imp λ{a b}Ja hq=>by have:a.part=b.part:=hq.1;omega
section
variable {P:List (List bV)} {W:List (List bn)} {i k:Nat} {x:bV} {p q:bn}
theorem MZ(h:Ee P W)(hx:dO P i k=some x){m:b8}(hm:uk P m):eU (Gn W m q) i k=bif decide (m=⟨(i:Int),(k:Int)⟩)then some q else eU W i k:=by
 obtain⟨i',k',y,rfl,hy⟩:=hm
 obtain⟨w,w1,w2⟩:=h.get hy
 rw[Ie w1]
 unfold eU
 by_cases hi:i'=i
 ·subst hi
  rw[GI (fM.1 w1).1,w1]
  simp only[cH]
  by_cases hk:k'=k
  ·subst hk
   rw[GI w2];simp
  ·rw[EM hk]
   have:decide ((⟨(i':Int),(k':Int)⟩:b8)=⟨(i':Int),(k:Int)⟩)=false:=decide_eq_false λh=>hk (by simp at h;omega)
   rw[this];rfl
 ·rw[EM hi]
  have:decide ((⟨(i':Int),(k':Int)⟩:b8)=⟨(i:Int),(k:Int)⟩)=false:=decide_eq_false λh=>hi (by simp at h;omega)
  rw[this];rfl
theorem yL(hx:dO P i k=some x): ∀{l:List b8}{W:List (List bn)},Ee P W->(∀m∈l,uk P m)->eU (yI W l q) i k=bif decide ((⟨(i:Int),(k:Int)⟩:b8)∈l)then some q else eU W i k
 | [],W,_,_=>by simp[yI]
 |m::l,W,h,hm=>by
  have h1:=yL hx (l:=l) (Ic (m:=m) (p:=q) h) λm' nr=>hm m' (by simp[nr])
  have h2:=MZ (q:=q) h hx (hm m (by simp))
  show eU (yI (Gn W m q) l q) i k=_
  rw[h1,h2]
  by_cases c1:(⟨(i:Int),(k:Int)⟩:b8)∈l
  ·simp[c1]
  ·by_cases c2:m=⟨(i:Int),(k:Int)⟩
   ·subst c2;simp
   ·have c3: ¬(⟨(i:Int),(k:Int)⟩:b8)=m:=λh=>c2 h.symm
    simp[c1,c2,c3]
theorem vc(hx:dO P i k=some x): ∀{l:List bF}{W:List (List bn)},Ee P W->(∀n∈l,∀m∈n.bO,uk P m)->(∀n∈l,(⟨(i:Int),(k:Int)⟩:b8) ∉ n.bO)->eU (lO W l) i k=eU W i k
 | [],W,_,_,_=>rfl
 |n::l,W,h,hm,hn=>by
  have h1:=vc hx (l:=l) (qP (l:=n.bO) (p:=n.bP) h) (λn' lY=>hm n' (by simp[lY])) λn' lY=>hn n' (by simp[lY])
  have h2:=yL hx (q:=n.bP) h (hm n (by simp))
  show eU (lO (yI W n.bO n.bP) l) i k=_
  rw[h1,h2]
  have:=hn n (by simp)
  simp[this]
theorem AW(hx:dO P i k=some x): ∀{l:List bF}{W:List (List bn)},Ee P W->(∀n∈l,∀m∈n.bO,uk P m)->(∀n∈l,(⟨(i:Int),(k:Int)⟩:b8)∈n.bO->n.bP=p)->(∃n∈l,(⟨(i:Int),(k:Int)⟩:b8)∈n.bO)->eU (lO W l) i k=some p
 | [],W,_,_,_,h=>by simp at h
 |n::l,W,h,hm,hn,he=>by
  show eU (lO (yI W n.bO n.bP) l) i k=_
  by_cases hq: ∃n∈l,(⟨(i:Int),(k:Int)⟩:b8)∈n.bO
  ·exact AW hx (qP h) (λn' lY=>hm n' (by simp[lY])) (λn' lY=>hn n' (by simp[lY])) hq
  ·rw[vc hx (qP h) (λn' lY=>hm n' (by simp[lY])) λn' lY hc=>hq ⟨n',lY,hc⟩,yL hx (q:=n.bP) h (hm n (by simp))]
   obtain⟨n',h1,h2⟩:=he
   rcases mB.1 h1 with rfl|h1
   ·rw[hn n' (by simp) h2];simp[h2]
   ·exact absurd ⟨n',h1,h2⟩ hq
end
section
variable {a:bK} {sh T:Int} {P:List (List bV)} {E:List cg} {L B U:List bF} {S:List cI} {B' C L':List bF} {E':List cg} {W:List (List bn)} {X:List cQ}
theorem MY.step(h:MY a sh P T E L W X)(T8:Gk P)(hP:P.length<=6)(hB:Cj P T P.length 0 B)(hm:Mv a sh T E L B S B' C L' E')(hS:0<kB S)(T':Int)(hT:T'=T+kB S)(hnx: ∀(i k:Nat)x,dO P i k=some x->x.bX<T'->x.bX<=T):
   MY a sh P T' E' L' (lO W B') (X++B'.flatMap (jo T)++C.flatMap (lr P T)):=by
 have hdu:=h.du
 have uF: ∀n'∈B',n'.bO≠[]/\n'.bO.length<=6/\(n'.bO.Pairwise λa b=>a.part<b.part)/\(∀m∈n'.bO,∃(i k:Nat)(x:bV),m=⟨(i:Int),(k:Int)⟩/\dO P i k=some x/\x.bX=T/\x.bW=n'.bW/\x.dr<=n'.dr)/\
    (n'.bP=⟨0,0⟩\/n'.bP∈(eD a (wr (n'.bW+sh))).1/\n'∈L'/\n'.cW=(E.length:Int)):=λn' lY=>by
   obtain⟨n,n1,n2,n3,n4,n5⟩:=hm.b1 n' lY
   have hn:=hB.no n n1
   rw[n2,n3,n4]
   exact⟨hn.ne,by have:=hn.len;omega,hn.qf,λm hq=>by
    obtain⟨i',k',x,e1,_,e2,e3,e4,e5⟩:=hn.me m hq
    exact⟨i',k',x,e1,e2,e3,e4,e5⟩,n5⟩
 have hbm: ∀n∈B',∀m∈n.bO,uk P m:=λn hn m hq=>by
   obtain⟨i,k,x,e1,e2,_⟩:=(uF n hn).2.2.2.1 m hq
   exact⟨i,k,x,e1,e2⟩
 have We: ∀n∈B',∀(i k:Nat)x,dO P i k=some x->(⟨(i:Int),(k:Int)⟩:b8)∈n.bO->x.bX=T/\x.bW=n.bW/\x.dr<=n.dr:=λn hn i k x hx hq=>by
   obtain⟨i',k',x',e1,e2,e3,e4,e5⟩:=(uF n hn).2.2.2.1 _ hq
   simp at e1
   obtain⟨e6,e7⟩:=e1
   have:i=i':=by omega
   subst this
   have:k=k':=by omega
   subst this
   rw[hx]at e2;cases e2
   exact⟨e3,e4,e5⟩
 have Kn:(B'.map bF.bW).Nodup:=by rw[hm.b3];exact hB.pi
 have hbu: ∀n∈B',∀n'∈B',n.bW=n'.bW->n=n':=λn hn n' lY he=>by
   obtain⟨i,hi,rfl⟩:=pA hn
   obtain⟨j,hj,rfl⟩:=pA lY
   have Kn:List.Pairwise _ (B'.map bF.bW):=Kn
   rw[GJ,EN]at Kn
   rcases JR i j with c|c|c
   ·exact absurd he (Kn i j hi hj c)
   ·subst c;rfl
   ·exact absurd he.symm (Kn j i hj hi c)
 have SN: ∀n∈B',∀n'∈B',∀m∈n.bO,m∈n'.bO->n=n':=λn hn n' lY m h1 h2=>by
   obtain⟨i,k,x,rfl,hx,_⟩:=(uF n hn).2.2.2.1 m h1
   exact hbu n hn n' lY (by rw[<-(We n hn i k x hx h1).2.1,(We n' lY i k x hx h2).2.1])
 have hKF:Cn (B'.flatMap (jo T)):=Ii (R:=λx y=>x.bW≠y.bW) (λn _ x hx=>qR hx) (λn hn=>by
   unfold jo
   have hp:=(uF n hn).2.2.1
   cases decide (n.bP.bc=0)
   ·exact yK (hp.sublist (List.drop_sublist ..))
   ·exact yK hp) (by rw[<-GJ];exact Kn) λn hn n' lY hR m h1 h2=>hR (by rw[SN n hn n' lY m h1 h2])
 have Wf: ∀n∈L,∃e:Nat,n.cW=(e:Int)/\Rg E e n.bP E.length/\iD E e<iD E E.length/\ ∀(i k:Nat)x,dO P i k=some x->(⟨(i:Int),(k:Int)⟩:b8)∈n.bO->x.dr<=n.dr/\eU W i k=some n.bP/\x.bX=(iD E e:Int):=λn hn=>by
   obtain⟨e,e1,e2,e3⟩:=(h.lv n hn).ev
   refine⟨e,e1,e2,rN h.ev e2.lt (eu _),λi k x hx hq=>?_⟩
   obtain⟨i',k',x',f1,f2,f3,f4,f5⟩:=e3 _ hq
   simp at f1
   obtain⟨e6,e7⟩:=f1
   have:i=i':=by omega
   subst this
   have:k=k':=by omega
   subst this
   rw[hx]at f2;cases f2
   exact⟨f3,f4,f5⟩
 have hlu: ∀n∈L,∀n'∈L,∀m∈n.bO,m∈n'.bO->n=n':=λn hn n' lY m h1 h2=>by
   obtain⟨e,_,_,e3⟩:=(h.lv n hn).ev
   obtain⟨i,k,x,rfl,hx,_⟩:=e3 m h1
   obtain⟨_,_,_,_,q1⟩:=Wf n hn
   obtain⟨_,_,_,_,q2⟩:=Wf n' lY
   have r1:=(q1 i k x hx h1).2.1
   have r2:=(q2 i k x hx h2).2.1
   rw[r1]at r2
   exact Qy h.ld hn lY (by rw[Option.some.inj r2])
 have hKC:Cn (C.flatMap (lr P T)):=Ii (R:=λx y=>x.bP.bc≠y.bP.bc) (λn _ x hx=>by
   obtain⟨m,m1,m2,m3,_⟩:=qS hx
   exact⟨m,m1,m2,m3⟩) (λn hn=>yK ((h.lv n (hm.cL n hn)).qf.sublist Uj)) hm.cd λn hn n' lY hR q h1 h2=>hR (by rw[hlu n (hm.cL n hn) n' (hm.cL n' lY) q h1 h2])
 have Wg: ∀(i k:Nat)x,dO P i k=some x->x.bX≠T->eU (lO W B') i k=eU W i k:=λi k x hx ht=>vc hx h.ws hbm λn hn hq=>ht (We n hn i k x hx hq).1
 have Wh: ∀(i k:Nat)x n',dO P i k=some x->n'∈B'->(⟨(i:Int),(k:Int)⟩:b8)∈n'.bO->eU (lO W B') i k=some n'.bP:=λi k x n' hx lY hq=>AW hx h.ws hbm (λn hn I7=>by rw[SN n hn n' lY _ I7 hq]) ⟨n',lY,hq⟩
 have J1: ∀(i k:Nat)x,dO P i k=some x->x.bX=T-> ∃n'∈B',(⟨(i:Int),(k:Int)⟩:b8)∈n'.bO:=λi k x hx ht=>by
   have hi:i<P.length:=by
    unfold dO at hx
    cases hp:P[i]? with
    |none=>rw[hp]at hx;simp at hx
    |some p=>exact(fM.1 hp).1
   obtain⟨n,n1,n2⟩:=hB.al i k x (.inl hi) hx ht
   obtain⟨n',n3,n4⟩:=hm.b2 n n1
   exact⟨n',n3,by rw[n4];exact n2⟩
 have Sm: ∀(i k:Nat)x,dO P i k=some x->x.bX≠T->je (B'.flatMap (jo T)) i k=[]:=λi k x hx ht=>nU λl hl hq=>by
   obtain⟨n,n1,n2⟩:=sL.1 hl
   obtain⟨m,m1,m2,m3⟩:=qR n2
   have:m=⟨(i:Int),(k:Int)⟩:=by cases m;simp at m2 m3;simp;omega
   subst this
   exact ht (We n n1 i k x hx m1).1
 have XD: ∀(i k:Nat),(∀n∈C,(⟨(i:Int),(k:Int)⟩:b8) ∉ n.bO)->je (C.flatMap (lr P T)) i k=[]:=λi k hq=>nU λl hl hk=>by
   obtain⟨n,n1,n2⟩:=sL.1 hl
   obtain⟨m,m1,m2,m3,_⟩:=qS n2
   have:m=⟨(i:Int),(k:Int)⟩:=by cases m;simp at m2 m3;simp;omega
   subst this
   exact hq n n1 m1
 have Pu: ∀(i k:Nat)x,dO P i k=some x->toOf P ⟨(i:Int),(k:Int)⟩=x.dr:=λi k x hx=>by unfold toOf;simp only[nv,hx,gl,Bc]
 have hTw: ∀(i:Nat)(x:bV)p,x.bX<T->(Twin P (lO W B') i x p↔Twin P W i x p):=λi x p ht=>by
   constructor
   ·rintro⟨i',k',x',t1,t2,t3,t4⟩
    exact⟨i',k',x',t1,t2,t3,by rw[<-Wg i' k' x' t2 (by omega)];exact t4⟩
   ·rintro⟨i',k',x',t1,t2,t3,t4⟩
    exact⟨i',k',x',t1,t2,t3,by rw[Wg i' k' x' t2 (by omega)];exact t4⟩
 refine⟨hm.ev,by rw[hm.du];omega,λn hn=>?_,hm.ld,yJ h.ws,λi k x hx hxT=>?_,λl hl=>?_,λe s hs=>?_⟩
 ·
   rcases hm.lL n hn with⟨n1,n2⟩|⟨n1,n2,n3,n4⟩
   ·have hl:=h.lv n n1
    obtain⟨e,e1,e2,e3⟩:=hl.ev
    have gh:=rN h.ev e2.lt (eu _)
    refine⟨hl.ne,hl.le,hl.qf,hl.co,e,e1,n2 e e1,λm hq=>?_⟩
    obtain⟨i,k,x,f1,f2,f3,f4,f5⟩:=e3 m hq
    have:=e2.lt
    exact⟨i,k,x,f1,f2,f3,by rw[Wg i k x f2 (by omega)];exact f4,by rw[hm.on e (by omega)];exact f5⟩
   ·obtain⟨q1,q2,q3,q4,_⟩:=uF n n1
    refine⟨q1,q2,q3,n2,E.length,n3,n4,λm hq=>?_⟩
    obtain⟨i,k,x,f1,f2,f3,f4,f5⟩:=q4 m hq
    exact⟨i,k,x,f1,f2,f5,Wh i k x n f2 n1 (by rw[<-f1];exact hq),by rw[hm.on _ (eu _)];omega⟩
 ·
   have ep:=hnx i k x hx hxT
   by_cases hold:x.bX<T
   ·obtain⟨p,p1,p2⟩:=h.fa i k x hx hold
    refine⟨p,by rw[Wg i k x hx (by omega)];exact p1,?_⟩
    rw[qQ,qQ,Sm i k x hx (by omega),wx]
    have hD: ∀D,XC P W i k x p D->XC P (lO W B') i k x p D:=λD hd=>by unfold XC at *;rw[hTw i x p hold];exact hd
    by_cases jZ: ∃n∈L,(⟨(i:Int),(k:Int)⟩:b8)∈n.bO
    ·obtain⟨n,n1,n2⟩:=jZ
     obtain⟨e0,e1,e2,e3,e4⟩:=Wf n n1
     obtain⟨f1,f2,f3⟩:=e4 i k x hx n2
     rw[p1]at f2
     have f2:=Option.some.inj f2
     subst f2
     have O5:=(h.lv n n1).co
     rcases p2 with⟨p2,_⟩|⟨e,D,d1,d2,d3,d4⟩
     ·rw[p2]at O5;simp at O5
     ·have hee:e<=E.length->e=e0:=λhq=>MR h.ev hq (by have:=e2.lt;omega) (by omega)
      have XE: ∀n'∈C,(⟨(i:Int),(k:Int)⟩:b8)∈n'.bO->n'=n:=λn' h1 h2=>hlu n' (hm.cL n' h1) n n1 _ h2 n2
      rcases d4 with⟨d4,d5⟩|⟨c,c1,_⟩
      ·have he:e=e0:=by
        rcases d5 with⟨n',m1,_,m3⟩|⟨c,c1,_⟩
        ·obtain⟨e',m4,m5,_⟩:=Wf n' m1
         have:=m5.lt
         exact hee (by omega)
        ·exact hee (by have:=c1.lt;have:=c1.le;omega)
       subst he
       have M0:=hm.on E.length (eu _)
       refine .inr ⟨e,D,d1,by rw[hm.on e (by have:=e2.lt;omega)];exact d2,hD D d3,?_⟩
       rcases hm.pD n n1 e e1 with⟨o1,o2⟩|⟨o1,o2⟩|⟨o1,o2⟩
       ·rw[XD i k λn' h1 h2=>o2 (by rw[<-XE n' h1 h2];exact h1),wx]
        exact .inl ⟨d4,.inl ⟨n,o1,n2,e1⟩⟩
       ·by_cases hc:T<x.dr
        ·refine .inr ⟨E.length,o2,by rw[M0];omega,?_⟩
         rw[M0,hdu,d4]
         congr 1
         refine sG hKC (sL.2 ⟨n,o1,kb.2 ⟨⟨(i:Int),(k:Int)⟩,mC.2 ⟨n2,?_⟩,rfl⟩⟩) (by simp[sF])
         rw[Pu i k x hx];simpa using hc
        ·rw[nU (X:=C.flatMap (lr P T)) λl hl hk=>?_,wx]
         ·exact .inl ⟨d4,.inr ⟨E.length,o2.rg,by rw[M0];omega⟩⟩
         ·obtain⟨n',l1,l2⟩:=sL.1 hl
          obtain⟨m,m1,m2,m3,m4⟩:=qS l2
          have:m=⟨(i:Int),(k:Int)⟩:=by cases m;simp at m2 m3;simp;omega
          subst this
          rw[Pu i k x hx]at m4
          exact hc m4
       ·rw[XD i k λn' h1 h2=>o1 (by rw[<-XE n' h1 h2];exact h1),wx]
        exact .inl ⟨d4,.inr ⟨E.length,hm.rg _ _ _ e2,by rw[M0];omega⟩⟩
      ·have:=hee (by have:=c1.rg.lt;have:=c1.rg.le;omega)
       subst this
       exact(e2.nd c1).elim
    ·rw[XD i k λn' h1 h2=>jZ ⟨n',hm.cL n' h1,h2⟩,wx]
     rcases p2 with p2|⟨e,D,d1,d2,d3,d4⟩
     ·exact .inl p2
     ·have M0: ∀c,Rg E e p c->iD E' e=iD E e/\iD E' c=iD E c:=λc hc=>by
       have:=hc.lt;have:=hc.le
       exact⟨hm.on e (by omega),hm.on c (by omega)⟩
      rcases d4 with⟨d4,⟨n,n1,n2,_⟩|⟨c,c1,c2⟩⟩|⟨c,c1,c2,c3⟩
      ·exact absurd ⟨n,n1,n2⟩ jZ
      ·obtain⟨o1,o2⟩:=M0 c c1
       exact .inr ⟨e,D,d1,by rw[o1];exact d2,hD D d3,.inl ⟨d4,.inr ⟨c,hm.rg _ _ _ c1,by rw[o2];exact c2⟩⟩⟩
      ·obtain⟨o1,o2⟩:=M0 c c1.rg
       exact .inr ⟨e,D,d1,by rw[o1];exact d2,hD D d3,.inr ⟨c,hm.nd _ _ _ c1,by rw[o2];exact c2,by rw[o2];exact c3⟩⟩
   ·have ht:x.bX=T:=by omega
    obtain⟨n',n1,n2⟩:=J1 i k x hx ht
    obtain⟨q1,q2,q3,q4,q5⟩:=uF n' n1
    have hp:=Wh i k x n' hx n1 n2
    obtain⟨r1,r2,r3⟩:=We n' n1 i k x hx n2
    have hX0:je X i k=[]:=nU λl hl hk=>by
     obtain⟨i',k',x',l1,l2,l3,l4⟩:=h.lo l hl
     have e1:i'=i:=by omega
     have e2:k'=k:=by omega
     subst e1;subst e2
     rw[hx]at l3;cases l3
     omega
    have XE:je (C.flatMap (lr P T)) i k=[]:=XD i k λn h1 h2=>by
     obtain⟨e,_,_,e3,e4⟩:=Wf n (hm.cL n h1)
     have:=(e4 i k x hx h2).2.2
     omega
    refine⟨n'.bP,hp,?_⟩
    rw[qQ,qQ,hX0,XE,wx,qY,ht]
    rcases q5 with q5|⟨q5,q6,q7⟩
    ·refine .inl ⟨q5,sG hKF (sL.2 ⟨n',n1,?_⟩) (by simp[sF])⟩
     unfold jo
     rw[q5]
     exact kb.2 ⟨_,n2,rfl⟩
    ·have O5:=(gQ q5).2.1
     have Wi:jo T n'=(n'.bO.drop 1).map (pg T 2):=by unfold jo;rw[decide_eq_false (by omega)];rfl
     refine .inr ⟨E.length,je (B'.flatMap (jo T)) i k,by rw[r2];exact q5,by rw[hm.on _ (eu _)];exact hdu,?_,.inl ⟨rfl,.inl ⟨n',q6,n2,q7⟩⟩⟩
     obtain⟨m0,ms,Px⟩:=WU q1
     rw[Px,CG]at q3
     rw[Px]at n2 Wi
     have Wi:jo T n'=ms.map (pg T 2):=Wi
     rcases mB.1 n2 with Bo|eP
     ·refine .inl ⟨nU λl hl hk=>?_,?_⟩
      ·obtain⟨n,l1,l2⟩:=sL.1 hl
       obtain⟨m,m1,m2,m3⟩:=qR l2
       have:m=⟨(i:Int),(k:Int)⟩:=by cases m;simp at m2 m3;simp;omega
       subst this
       have:=SN n l1 n' n1 _ m1 (by rw[Px,Bo];simp)
       subst this
       rw[Wi]at l2
       obtain⟨m',m4,rfl⟩:=kb.1 l2
       have h1:=q3.1 m' m4
       have h2:m'.part=(i:Int):=hk.1
       rw[<-Bo]at h1
       simp at h1
       omega
      ·rintro⟨i',k',x',t1,t2,t3,t4⟩
       obtain⟨n,t5,t6⟩:=J1 i' k' x' t2 (by omega)
       rw[Wh i' k' x' n t2 t5 t6]at t4
       have t4:=Option.some.inj t4
       have:=hm.b4 n t5 n' n1 (by rw[t4];omega) (by rw[t4])
       subst this
       rw[Px,<-Bo]at t6
       rw[<-Bo]at q3
       rcases mB.1 t6 with t6|t6
       ·simp at t6;omega
       ·have:=q3.1 _ t6
        simp at this;omega
     ·refine .inr ⟨?_,?_⟩
      ·rw[ht]
       exact sG hKF (sL.2 ⟨n',n1,by rw[Wi];exact kb.2 ⟨_,eP,rfl⟩⟩) (by simp[sF])
      ·obtain⟨i0,k0,x0,rfl,y1,y2,_⟩:=q4 m0 (by rw[Px];simp)
       have:=q3.1 _ eP
       simp at this
       exact⟨i0,k0,x0,this,y1,by omega,Wh i0 k0 x0 n' y1 n1 (by rw[Px];simp)⟩
 ·
   rcases la.1 hl with hl|hl
   ·rcases la.1 hl with hl|hl
    ·obtain⟨i,k,x,e1,e2,e3,e4⟩:=h.lo l hl
     exact⟨i,k,x,e1,e2,e3,by omega⟩
    ·obtain⟨n,n1,n2⟩:=sL.1 hl
     obtain⟨m,m1,m2,m3⟩:=qR n2
     obtain⟨i,k,x,rfl,f2,f3,_⟩:=(uF n n1).2.2.2.1 m m1
     exact⟨i,k,x,m2,m3,f2,by omega⟩
   ·obtain⟨n,n1,n2⟩:=sL.1 hl
    obtain⟨m,m1,m2,m3,_⟩:=qS n2
    obtain⟨e,_,e2,e3⟩:=(h.lv n (hm.cL n n1)).ev
    obtain⟨i,k,x,rfl,f2,_,_,f5⟩:=e3 m m1
    have:=rN h.ev e2.lt (eu _)
    exact⟨i,k,x,m2,m3,f2,by omega⟩
 ·
   rcases hm.st e s hs with⟨s0,s1,s2,s3⟩|⟨rfl,n',n1,n2⟩
   ·obtain⟨i,k,x,e1,e2,e3⟩:=h.sp e s0 s1
    have hl:=s1.lt
    have:=rN h.ev hl (eu _)
    exact⟨i,k,x,e1,by rw[hm.on e (by omega)];exact e2,by rw[Wg i k x e1 (by omega),e3,s2,s3]⟩
   ·obtain⟨q1,_,_,q4,_⟩:=uF n' n1
    obtain⟨m0,ms,Px⟩:=WU q1
    obtain⟨i,k,x,rfl,f2,f3,_⟩:=q4 m0 (by rw[Px];simp)
    exact⟨i,k,x,f2,by rw[hm.on _ (eu _)];omega,by rw[Wh i k x n' f2 n1 (by rw[Px];simp),n2]⟩
end
end Go.Proofs.YtpbahncblggodaaGreat
set_option linter.all false
namespace Go.Proofs.YtpbahncblggodaaGreat
open Go Go.Am Go.Sort
set_option maxRecDepth 100000
def kL(l:cQ):Int:=l.part*4096+l.eK*4+l.kind
theorem f51_key{x y:cQ}(h1:0<=x.eK/\x.eK<1000/\1<=x.kind/\x.kind<=3)(h2:0<=y.eK/\y.eK<1000/\1<=y.kind/\y.kind<=3):f51 x y=some (pu (kL x) (kL y)):=by
 unfold f51
 simp only[f104_eq,cH,f103_eq _ (show bT [_,_,_]by simp[bT])]
 have lt: ∀{a b:Int},a<b->pu a b= -1:=λh=>by simp[pu,h]
 have gt: ∀{a b:Int},b<a->pu a b=1:=λ{a b}h=>by
  have: ¬a<b:=by omega
  simp[pu,h,this]
 have eq: ∀a:Int,pu a a=0:=λa=>by simp[pu]
 rcases Yk x.part y.part with c|c|c
 ·rw[lt c,lt (show kL x<kL y by unfold kL;omega)];rfl
 ·rw[c,eq]
  rcases Yk x.eK y.eK with d|d|d
  ·rw[lt d,lt (show kL x<kL y by unfold kL;omega)];rfl
  ·rw[d,eq]
   rcases Yk x.kind y.kind with e|e|e
   ·rw[lt e,lt (show kL x<kL y by unfold kL;omega)];rfl
   ·rw[e,eq,show kL x=kL y by unfold kL;omega,eq];rfl
   ·rw[gt e,gt (show kL y<kL x by unfold kL;omega)];rfl
  ·rw[gt d,gt (show kL y<kL x by unfold kL;omega)];rfl
 ·rw[gt c,gt (show kL y<kL x by unfold kL;omega)];rfl
theorem qT{P:List (List bV)}{x:bV}:x∈P.flatten↔ ∃i k,dO P i k=some x:=by
 rw[List.mem_flatten]
 constructor
 ·rintro⟨p,h1,h2⟩
  obtain⟨i,hi,rfl⟩:=pA h1
  obtain⟨k,hk,rfl⟩:=pA h2
  exact⟨i,k,by simp[dO,hi,hk]⟩
 ·rintro⟨i,k,h⟩
  unfold dO at h
  cases hp:P[i]? with
  |none=>rw[hp]at h;simp at h
  |some p=>
   rw[hp]at h
   exact⟨p,gx hp,gx (by simpa using h)⟩
theorem oT{P:List (List bV)}(hP: ∀p∈P,p.length<=400/\CN 0 p=true){i k:Nat}{x:bV}(h:dO P i k=some x):0<=x.bX/\x.bX<x.dr/\x.dr<=262144/\0<=x.bW/\x.bW<=127/\k<400/\i<P.length:=by
 unfold dO at h
 cases hp:P[i]? with
 |none=>rw[hp]at h;simp at h
 |some p=>
  rw[hp]at h
  simp only[cH]at h
  have h1:=hP p (gx hp)
  have h2:=(Cc p 0 h1.2).1 k x h
  have h3:=(fM.1 h).1
  have h4:=(fM.1 hp).1
  omega
theorem SO{p:List bV}(hp: ∀x∈p,x.bX<x.dr): ∀x∈p,∃t∈kv p,x.dr<=t:=by
 have key: ∀(n:Nat)(x:bV),x∈p->(∀y∈p,y.dr-x.dr<=(n:Int))-> ∃t∈kv p,x.dr<=t:=by
  intro n
  induction n with
  |zero=>
   intro x hx hn
   refine⟨x.dr,?_,Int.le_refl _⟩
   rw[ue]
   refine .inl ⟨x,hx,?_⟩
   unfold eL
   have:fU p x.dr=false:=by
    unfold fU
    rw[Ny]
    intro y hy
    have:=hn y hy
    simp;omega
   rw[this];simp
  |succ n ih=>
   intro x hx hn
   by_cases hq: ∃y∈p,x.dr<y.dr
   ·obtain⟨y,hy,gh⟩:=hq
    obtain⟨t,h1,h2⟩:=ih y hy λz hz=>by have:=hn z hz;omega
    exact⟨t,h1,by omega⟩
   ·exact ih x hx λy hy=>by
     have: ¬x.dr<y.dr:=λh=>hq ⟨y,hy,h⟩
     omega
 intro x hx
 have: ∃n:Nat,∀y∈p,y.dr-x.dr<=(n:Int):=by
  clear key hx hp
  induction p with
  |nil=>exact⟨0,by simp⟩
  |cons z r ih=>
   obtain⟨n,hn⟩:=ih
   refine⟨n+(z.dr-x.dr).toNat,λy hy=>?_⟩
   rcases mB.1 hy with rfl|hy
   ·omega
   ·have:=hn y hy;omega
 obtain⟨n,hn⟩:=this
 exact key n x hx hn
structure my (P:List (List bV)) (a:bK) (sh:Int) (s:dR):Prop where
 pr:jA P=0
 ins:instS a=0
 shr: -24<=sh/\sh<=24
 ai:s.bM.instrument=a
 si:s.shift=sh
 set: ∃T L X,MY a sh P T s.bM.bG L s.dp X/\(∀(i k:Nat)x,dO P i k=some x->x.dr<=T)/\s.cX.Perm X/\T∈kv P.flatten/\(∀t∈kv P.flatten,t<=T)/\(∀t∈kv P.flatten,∃k,k<=s.bM.bG.length/\(iD s.bM.bG k:Int)=t)
 el:s.bM.bG.length<=400
 ll:s.cX.length<=4000000
 lk: ∀l∈s.cX,0<=l.part/\l.part<6/\0<=l.eK/\l.eK<400/\1<=l.kind/\l.kind<=3
 srt:s.cX.Pairwise λx y=>kL x<kL y
structure M1 (P:List (List bV)) (a:bK) (h:ee) (sh:Int) (eZ:List (List cI)) (i:Nat) (s:ZY):Prop where
 ix:s.2.2.2.2.2.2.2.2.2.2.2=(i:Int)
 dk:yG ⟨⟨s.1,s.2.1,s.2.2.1⟩,a,h,sh,⟨a,s.2.2.2.1⟩,s.2.2.2.2.1,s.2.2.2.2.2.1⟩
 ev:s.2.2.2.1.length=(eZ.take i).flatten.length
 lv:s.2.2.2.2.1.length<=4*i
 xl:s.2.2.2.2.2.2.2.2.2.2.1.length<=9700*i
 st: ∀t,(kv P.flatten)[i]? =some t->MY a sh P t s.2.2.2.1 s.2.2.2.2.1 s.2.2.2.2.2.2.2.2.2.1 s.2.2.2.2.2.2.2.2.2.2.1
 on: ∀(j:Nat)t,j<=i->(kv P.flatten)[j]? =some t-> ∃k,k<=s.2.2.2.1.length/\(iD s.2.2.2.1 k:Int)=t
theorem M3{S:List cI}(h:S≠[])(h2: ∀s∈S,s∈gv):0<kB S:=by
 have:=wV h2
 have:=QU.2 h
 omega
theorem M4(P:List (List bV))(a:bK)(h:ee)(sh:Int)(XF:P.length<=4)(hP: ∀p∈P,p.length<=400/\CN 0 p=true)(eZ:List (List cI))(IL:eZ.length+1=(kv P.flatten).length)
  (hsn: ∀(i:Nat)S,eZ[i]? =some S->S≠[]/\(∀s∈S,s∈gv)/\ ∀t t',(kv P.flatten)[i]? =some t->(kv P.flatten)[i+1]? =some t'->t'=t+kB S) (zO:eZ.length<=400) (pB:eZ.flatten.length<=400) (i:Nat) (s:ZY) (hi:i<eZ.length) (hI:M1 P a h sh eZ i s):
  ∃t S r q,(kv P.flatten)[i]? =some t/\eZ[i]? =some S/\f48 ⟨⟨s.1,s.2.1,s.2.2.1⟩,a,h,sh,⟨a,s.2.2.2.1⟩,s.2.2.2.2.1,s.2.2.2.2.2.1⟩ P t S=some r/\
   f49 ⟨⟨⟨s.2.2.2.2.2.2.1,s.2.2.2.2.2.2.2.1⟩,s.2.2.2.2.2.2.2.2.1⟩,sh,s.2.2.2.2.2.2.2.2.2.1,s.2.2.2.2.2.2.2.2.2.2.1⟩ P r.1 r.2.1 t=some q/\
   M1 P a h sh eZ (i+1) (r.2.2.1,r.2.2.2.1,r.2.2.2.2.1,r.2.2.2.2.2.1,r.2.2.2.2.2.2.1,r.2.2.2.2.2.2.2,s.2.2.2.2.2.2.1,s.2.2.2.2.2.2.2.1,s.2.2.2.2.2.2.2.2.1,q.1,q.2,((i+1:Nat):Int)):=by
 obtain⟨s1,s2,s3,ev,cV,po,c0,c1,c2,wh,lo,ii⟩:=s
 obtain⟨e0,hd,Fp,GS,YI,ia,M0⟩:=hI
 simp only at e0 hd Fp GS YI ia M0
 have et:(kv P.flatten)[i]? =some ((kv P.flatten)[i]'(by omega)):=dC _
 generalize(kv P.flatten)[i]'(by omega)=t at et
 have Wj:(kv P.flatten)[i+1]? =some ((kv P.flatten)[i+1]'(by omega)):=dC _
 generalize(kv P.flatten)[i+1]'(by omega)=t2 at Wj
 have eS:eZ[i]? =some (eZ[i]'hi):=dC _
 generalize eZ[i]'hi=S at eS
 obtain⟨SP,Wl,uz⟩:=hsn i S eS
 have zg:=uz t t2 et Wj
 have htk:=oR eS
 have NF:=oS eZ (i+1)
 rw[htk,kc]at NF
 have ff:=ia t et
 have h1T:=Pr λp hp=>(hP p hp).2
 have hB:=MT (P:=P) t h1T
 have Tc:(qi t 0 P []).length<=4:=by
  rcases hB.le with q|⟨_,k',_,q,_⟩<;>omega
 have aaa:=f96_eq P t (by omega) λp hp=>(hP p hp).1
 obtain⟨r,r1,r2,U,u1,u2⟩:=MW _ hd P t S (qi t 0 P []) Tc aaa SP (by show ev.length+S.length<=4000;omega) (by show cV.length<=_;omega) (λn hn=>(ff.lv n hn).ne) (λn hn hf=>by
  obtain⟨e,e1,e2,_⟩:=(ff.lv n hn).ev
  obtain⟨st,⟨d,d1,d2⟩,s2,s3⟩:=e2.st
  obtain⟨k,hk,rfl⟩:=pA d2
  have ek:d.cZ[k]? =some d.cZ[k]:=dC hk
  have ul:=(ff.ev.ev e d d1).qf
  have EW:d.cZ.length<=14:=by
   have:=wY (l:=d.cZ.map cT.bc) (n:=15) (lo:=1) (by rw[GJ];exact ul) (λx hx=>by
    obtain⟨s,hs,rfl⟩:=kb.1 hx
    obtain⟨q,hq⟩:=(ff.ev.st e s ⟨d,d1,hs⟩).pl
    have:=gQ hq
    have h1:=this.2.1
    have h2:=this.2.2.1
    simp only at h1 h2
    omega) (by omega)
   simp at this;omega
  refine⟨e,d,k,_,e1,d1,ek,s2,by simp only[bT];omega,λj y hy hc=>?_⟩
  obtain⟨hj,rfl⟩:=fM.1 hy
  rw[EN]at ul
  rcases JR j k with c|c|c
  ·have:=ul j k hj hk c;omega
  ·exact c
  ·have:=ul k j hk hj c;omega) ff.ld
 simp only at u1 u2
 have CJ:=V9 (T:=t) ff.ev ff.lv ff.ld (by omega) (λn hn=>(hB.no n hn).pl) u1 SP Wl u2
 have Wm:=ff.step h1T (by omega) hB CJ (M3 SP Wl) t2 zg λi' k' x hx gh=>by
  rcases Int.lt_or_le t x.bX with c|c
  ·have:=MH (HW P.flatten) et Wj (MG (qT.2 ⟨i',k',hx⟩)) c;omega
  ·exact c
 have FH:=CJ.cl
 have uF: ∀n'∈r.1,n'.bO.length<=4/\ ∀m∈n'.bO,uk P m:=λn' lY=>by
  obtain⟨n,n1,n2,_⟩:=CJ.b1 n' lY
  have hn:=hB.no n n1
  rw[n2]
  exact⟨by have:=hn.len;omega,λm hm=>by
   obtain⟨i',k',x,e1,_,e2,_⟩:=hn.me m hm
   exact⟨i',k',x,e1,e2⟩⟩
 have hcm: ∀n∈r.2.1,n.bO.length<=6/\ ∀m∈n.bO,uk P m:=λn hn=>by
  have hl:=ff.lv n (CJ.cL n hn)
  obtain⟨e,_,_,e3⟩:=hl.ev
  exact⟨hl.le,λm hm=>by
   obtain⟨i',k',x,f1,f2,_⟩:=e3 m hm
   exact⟨i',k',x,f1,f2⟩⟩
 have VR:r.1.length<=4:=by
  have:=congrArg List.length CJ.b3
  simp at this;omega
 have hde:=V8 ⟨⟨⟨c0,c1⟩,c2⟩,sh,wh,lo⟩ P r.1 r.2.1 t (by omega) ff.ws (λn hn=>⟨by have:=(uF n hn).1;omega,(uF n hn).2⟩) hcm VR (by omega) (by show lo.length+24+6*r.2.1.length<=_;omega)
 refine⟨t,S,r,_,et,eS,r1,hde,⟨rfl,r2,?_,?_,?_,λt' zf=>?_,λj t' hj zf=>?_⟩⟩
 ·show r.2.2.2.2.2.1.length=_
  rw[CJ.le,htk,kc];omega
 ·show r.2.2.2.2.2.2.1.length<=_
  have:=CJ.ll;omega
 ·show(lo++r.1.flatMap (jo t)++r.2.1.flatMap (lr P t)).length<=_
  have h1:=jY (l:=r.1) (f:=jo t) (b:=4) λn hn=>by
   have:=(uF n hn).1
   unfold jo
   cases decide (n.bP.bc=0)
   ·simp;omega
   ·simp;omega
  have h2:=jY (l:=r.2.1) (f:=lr P t) (b:=6) λn hn=>by
   have:=(hcm n hn).1
   unfold lr
   have:=sM (λm=>decide (t<toOf P m)) n.bO
   simp;omega
  simp only[kc]
  omega
 ·rw[Wj]at zf;cases zf
  exact Wm
 ·show∃k,k<=r.2.2.2.2.2.1.length/\(iD r.2.2.2.2.2.1 k:Int)=t'
  by_cases YU:j<=i
  ·obtain⟨k,k1,k2⟩:=M0 j t' YU zf
   exact⟨k,by rw[CJ.le];omega,by rw[CJ.on k k1];exact k2⟩
  ·have:j=i+1:=by omega
   subst this
   rw[Wj]at zf;cases zf
   exact⟨_,eu _,by rw[CJ.du];have:=ff.du;omega⟩
theorem f11_gen(P:List (List bV))(a:bK)(h:ee)(sh:Int)(hs:bT P)(h4:sx P a=0->P.length<=4): ∃r,f11 P a h sh=some r/\(r.2=0->my P a sh r.1):=by
 unfold f11
 rw[f38_eq P a hs]
 simp only[cH]
 by_cases h1:sx P a=0
 case neg=>simp only[ne_eq,h1,not_false_eq_true,decide_true,cond_true];exact⟨_,rfl,λh=>absurd h h1⟩
 simp only[h1,ne_eq,not_true_eq_false,decide_false,cond_false]
 obtain⟨e,e1,e2⟩:=f39_ex h
 rw[e1]
 simp only[cH]
 by_cases h2:e=0
 case neg=>simp only[h2,not_false_eq_true,decide_true,cond_true];exact⟨_,rfl,λh=>absurd h h2⟩
 subst h2
 have hh:=e2 rfl
 simp only[not_true_eq_false,decide_false,cond_false,f40_eq,cH]
 cases eP:oL sh (-24) 24
 case false=>simp only[E7,cond_true];exact⟨_,rfl,λh=>by simp at h⟩
 have aab: -24<=sh/\sh<=24:=by simpa[oL]using eP
 simp only[oe,cond_false]
 obtain⟨DS,Qz⟩:=DT h1
 obtain⟨_,ku⟩:=jW DS
 have hP4:=h4 h1
 have pB:=qe 4 (by omega) λp hp=>(ku p hp).1
 have hat:f41 P=some (kv P.flatten):=f41_eq P (by omega) λp hp=>(ku p hp).1
 have J1:=Pj (p:=P.flatten)
 have ul:=HW P.flatten
 have Bn:0<(kv P.flatten).length:=X5 ((ue P.flatten 0).2 (.inr rfl))
 have CP: ∀{y},y∈kv P.flatten->0<=y/\y<=262144:=λ{y}hy=>by
  rcases JF hy with rfl|⟨x,hx,hq⟩
  ·omega
  ·obtain⟨i,k,hx⟩:=qT.1 hx
   have:=oT ku hx
   omega
 simp only[hat,cH]
 have w0:wr (((kv P.flatten).length:Int)-1)=(((kv P.flatten).length-1:Nat):Int):=by rw[jd (by omega) (by omega)];omega
 rw[w0]
 refine eO (λk(s:List (List cI)×Int)=>s.2=(k:Int)/\s.1.length=k/\ ∀(i:Nat)S,s.1[i]? =some S->S≠[]/\S.length<=4608/\(∀s∈S,s∈gv)/\ ∀t t',(kv P.flatten)[i]? =some t->(kv P.flatten)[i+1]? =some t'->t'=t+kB S) (λo=>match o with
  |.inl s=>s.length+1=(kv P.flatten).length/\ ∀(i:Nat)S,s[i]? =some S->S≠[]/\S.length<=4608/\(∀s∈S,s∈gv)/\ ∀t t',(kv P.flatten)[i]? =some t->(kv P.flatten)[i+1]? =some t'->t'=t+kB S
  |.inr r=>r.2=25) ((kv P.flatten).length-1) (by omega) ⟨rfl,rfl,by simp⟩ ?_ ?_ ?_
 ·rintro k ⟨s,i⟩ hk ⟨q1,q2,q3⟩
  simp only at q1 q2 q3
  subst q1
  have x1:(kv P.flatten)[k]? =some ((kv P.flatten)[k]'(by omega)):=dC _
  have x2:(kv P.flatten)[k+1]? =some ((kv P.flatten)[k+1]'(by omega)):=dC _
  generalize(kv P.flatten)[k]'(by omega)=t at x1
  generalize(kv P.flatten)[k+1]'(by omega)=t2 at x2
  have c1:(k:Int)<(((kv P.flatten).length-1:Nat):Int):=by omega
  have w1:wr ((k:Int)+1)=((k+1:Nat):Int):=gP (by omega)
  have b1:=CP (gx x1)
  have b2:=CP (gx x2)
  have b3:=uf ul (Td k) x1 x2
  have w2:wr (t2-t)=t2-t:=jd (by omega) (by omega)
  obtain⟨r,r1,r2⟩:=f42_ex (t2-t)
  have m1:s.length+1<=bJ:=by unfold bJ;omega
  simp only[c1,decide_true,cond_true,w1,b9 x2,b9 x1,cH,w2,r1]
  by_cases c2:r.2=0
  ·obtain⟨_,n1,n2,n3⟩:=r2 c2
   simp only[c2,not_true_eq_false,decide_false,cond_false,de m1]
   refine .inl ⟨_,rfl,rfl,by simp[q2],λi S hS=>?_⟩
   have SQ:(s++[r.1])[i]? =some S:=hS
   clear hS
   rcases EI i s.length with gh|JS
   ·rw[nq gh]at SQ
    exact q3 i S SQ
   ·rw[pn JS]at SQ
    have hi0:=(fM.1 SQ).1
    simp at hi0
    have TN:i=k:=by omega
    subst TN
    rw[show i-s.length=0 by omega]at SQ
    simp at SQ;subst SQ
    refine⟨λh=>?_,?_,n3,λt' t'' h1 h2=>?_⟩
    ·rw[h]at n2;simp[kB]at n2;omega
    ·have:=wV n3;omega
    ·rw[x1]at h1;rw[x2]at h2;cases h1;cases h2;omega
  ·simp only[c2,not_false_eq_true,decide_true,cond_true]
   exact .inr ⟨_,rfl,rfl⟩
 ·rintro⟨s,i⟩ ⟨q1,q2,q3⟩
  simp only at q1 q2 q3
  subst q1
  simp only[kF,decide_false,cond_false]
  exact⟨_,rfl,by omega,q3⟩
 intro o ho
 cases o with
 |inr r=>exact⟨r,rfl,λh=>by have h3:r.2=25:=ho;omega⟩
 |inl eZ=>
 obtain⟨IL,Ov⟩:=ho
 have IL:eZ.length+1=(kv P.flatten).length:=IL
 have Wn: ∀S∈eZ,S≠[]/\S.length<=4608:=λS hS=>by
  obtain⟨i,hi,rfl⟩:=pA hS
  have:=Ov i _ (dC hi)
  exact⟨this.1,this.2.1⟩
 have SS:(kv P.flatten)[0]? =some 0:=by
  have e0:(kv P.flatten)[0]? =some ((kv P.flatten)[0]'Bn):=dC _
  obtain⟨m,CK,F9⟩:=pA ((ue P.flatten 0).2 (.inr rfl))
  have em:(kv P.flatten)[m]? =some 0:=by rw[<-F9];exact dC CK
  cases m with
  |zero=>exact em
  |succ m=>
   have:=uf ul (Nat.succ_pos m) e0 em
   have:=(CP (gx e0)).1
   omega
 have hfb: ∀i,i<=eZ.length-> ∀t,(kv P.flatten)[i]? =some t->((eZ.take i).flatten.length:Int)<=t:=by
  intro i
  induction i with
  |zero=>intro _ t ht;rw[SS]at ht;cases ht;simp
  |succ i ih=>
   intro hi t' zf
   have et:(kv P.flatten)[i]? =some ((kv P.flatten)[i]'(by omega)):=dC _
   have eS:eZ[i]? =some (eZ[i]'(by omega)):=dC _
   have h1:=ih (by omega) _ et
   obtain⟨_,_,h2,h3⟩:=Ov i _ eS
   have h4:=h3 _ _ et zf
   have h5:=wV h2
   rw[oR eS,kc]
   omega
 have hfb:eZ.flatten.length<=262144:=by
  have et:(kv P.flatten)[eZ.length]? =some ((kv P.flatten)[eZ.length]'(by omega)):=dC _
  have h1:=hfb eZ.length (eu _) _ et
  have h2:=CP (gx et)
  rw[Bb]at h1
  omega
 simp only[vp]
 have Pt:eZ.length<=3200:=by omega
 rw[f43_eq eZ (by simp only[bT];omega) (by omega)]
 simp only[cH]
 by_cases h3:400<(eZ.flatten.length:Int)
 case pos=>simp only[h3,decide_true,cond_true];exact⟨_,rfl,λh=>by simp at h⟩
 have zO:eZ.length<=400:=by
  have: ∀l:List (List cI),(∀S∈l,S≠[])->l.length<=l.flatten.length:=by
   intro l
   induction l with
   |nil=>simp
   |cons S l ih=>
    intro hl
    have:=ih λS hS=>hl S (by simp[hS])
    have:=QU.2 (hl S (by simp))
    rw[List.flatten_cons,kc,oc];omega
  have:=this eZ λS hS=>(Wn S hS).1
  omega
 obtain⟨i1,i2,_,_,_⟩:=instS_ok Qz
 rw[f44_eq a.cj (by simp only[bT];omega),f45_eq a.bN (by simp only[bT];omega),f46_eq P (by omega) λp hp=>(ku p hp).1]
 simp only[h3,decide_false,cond_false,cH]
 have aac:M1 P a h sh eZ 0 (([]:List bn),([]:List Int),([]:List Int),([]:List cg),([]:List bF),([]:List cp),([]:List cK),([]:List Int),([]:List cg),(P.map λp=>List.replicate p.length (⟨0,0⟩:bn)),([]:List cQ),(0:Int)):=by
  refine⟨rfl,⟨⟨hh,e1,⟨by simp[bT],by simp[bT],by simp[bT]⟩,by simp,by simp⟩,yx⟩,by simp,by simp,by simp,λt ht=>?_,λj t hj ht=>⟨0,by simp,?_⟩⟩
  ·rw[SS]at ht;cases ht
   refine⟨⟨by simp,λe s hs=>?_⟩,rfl,by simp,by simp,by simp[Ee,Function.comp_def],λi k x hx gh=>?_,by simp,λe s hs=>?_⟩
   ·obtain⟨d,d1,_⟩:=hs;simp at d1
   ·have:=oT ku hx;omega
   ·obtain⟨d,d1,_⟩:=hs;simp at d1
  ·have:j=0:=by omega
   subst this
   rw[SS]at ht;cases ht
   rfl
 refine eO (λk(s:ZY)=>M1 P a h sh eZ k s) (λr=> ∃i,M1 P a h sh eZ eZ.length (r.1,r.2.1,r.2.2.1,r.2.2.2.1,r.2.2.2.2.1,r.2.2.2.2.2.1,r.2.2.2.2.2.2.1,r.2.2.2.2.2.2.2.1,r.2.2.2.2.2.2.2.2.1,r.2.2.2.2.2.2.2.2.2.1,r.2.2.2.2.2.2.2.2.2.2,i)) eZ.length (by omega) aac ?_ ?_ ?_
 ·rintro k s hk hI
  obtain⟨t,S,r,q,x1,x2,x3,x5,x6⟩:=M4 P a h sh hP4 ku eZ IL (λi S hS=>by
   obtain⟨y1,_,y2,y3⟩:=Ov i S hS
   exact⟨y1,y2,y3⟩) zO (by omega) k s hk hI
  obtain⟨s1,s2,s3,ev,cV,po,c0,c1,c2,wh,lo,ii⟩:=s
  have rj:=hI.ix
  simp only at rj
  subst rj
  simp only at x3 x5 x6
  simp only[cJ x2,cond_true,b9 x2,b9 x1,cH,x3,x5,dB (l:=eZ) (by simp only[bT];omega) x2]
  exact .inl ⟨_,rfl,x6⟩
 ·rintro s hI
  obtain⟨s1,s2,s3,ev,cV,po,c0,c1,c2,wh,lo,ii⟩:=s
  have rj:=hI.ix
  simp only at rj
  subst rj
  simp only[kF,decide_false,cond_false]
  exact⟨_,rfl,_,hI⟩
 rintro⟨s1,s2,s3,ev,cV,po,c0,c1,c2,wh,lo⟩ ⟨ii,hI⟩
 obtain⟨g0,gd,gev,glv,gxl,gst,gon⟩:=hI
 simp only at g0 gd gev glv gxl gst gon
 have et:(kv P.flatten)[eZ.length]? =some ((kv P.flatten)[eZ.length]'(by omega)):=dC _
 generalize(kv P.flatten)[eZ.length]'(by omega)=T at et
 have ff:=gst T et
 have M5: ∀t∈kv P.flatten,t<=T:=λt ht=>by
  obtain⟨m,CK,F9⟩:=pA ht
  have em:(kv P.flatten)[m]? =some t:=by rw[<-F9];exact dC CK
  rcases JR m eZ.length with c|c|c
  ·have:=uf ul c em et;omega
  ·subst c;rw[et]at em;have:=Option.some.inj em;omega
  ·omega
 have aad: ∀(i k:Nat)x,dO P i k=some x->x.dr<=T:=λi k x hx=>by
  obtain⟨t,t1,t2⟩:=SO (p:=P.flatten) (λy hy=>by
   obtain⟨i,k,hy⟩:=qT.1 hy
   exact(oT ku hy).2.1) x (qT.2 ⟨i,k,hx⟩)
  have:=M5 t t1
  omega
 have SE: ∀l∈lo,0<=l.part/\l.part<6/\0<=l.eK/\l.eK<400/\1<=l.kind/\l.kind<=3:=λl hl=>by
  obtain⟨i,k,x,l1,l2,l3,l4⟩:=ff.lo l hl
  have hx:=oT ku l3
  have hm:l∈je lo i k:=mC.2 ⟨hl,by simp[sF,l1,l2]⟩
  obtain⟨p,_,hf⟩:=ff.fa i k x l3 l4
  have hk:1<=l.kind/\l.kind<=3:=by
   rcases hf with⟨_,hf⟩|⟨e,D,_,_,hD,⟨hf,_⟩|⟨c,_,_,hf⟩⟩
   ·rw[hf]at hm;simp at hm;subst hm;simp
   ·rw[hf]at hm
    rcases hD with⟨rfl,_⟩|⟨rfl,_⟩
    ·simp at hm
    ·simp at hm;subst hm;simp
   ·rw[hf]at hm
    rcases hD with⟨rfl,_⟩|⟨rfl,_⟩
    ·simp at hm;subst hm;simp
    ·simp at hm;rcases hm with rfl|rfl<;>simp
  omega
 have Wo: ∀l∈lo,∀l'∈lo,kL l=kL l'->l=l':=λl hl l' uv he=>by
  have b1:=SE l hl
  have b2:=SE l' uv
  unfold kL at he
  obtain⟨i,k,x,l1,l2,l3,l4⟩:=ff.lo l hl
  have hm:l∈je lo i k:=mC.2 ⟨hl,by simp[sF,l1,l2]⟩
  have nr:l'∈je lo i k:=mC.2 ⟨uv,by simp[sF];omega⟩
  have hkk:l.kind=l'.kind:=by omega
  obtain⟨p,_,hf⟩:=ff.fa i k x l3 l4
  rcases hf with⟨_,hf⟩|⟨e,D,_,_,hD,⟨hf,_⟩|⟨c,_,_,hf⟩⟩
  ·rw[hf]at hm nr;simp at hm nr;rw[hm,nr]
  ·rw[hf]at hm nr
   rcases hD with⟨rfl,_⟩|⟨rfl,_⟩
   ·simp at hm
   ·simp at hm nr;rw[hm,nr]
  ·rw[hf]at hm nr
   rcases hD with⟨rfl,_⟩|⟨rfl,_⟩
   ·simp at hm nr;rw[hm,nr]
   ·simp at hm nr
    rcases hm with rfl|rfl<;>rcases nr with rfl|rfl
    ·rfl
    ·simp at hkk
    ·simp at hkk
    ·rfl
 obtain⟨r,r1,r2,r3⟩:=AM kL f51 lo (λx hx y hy=>by
  have b1:=SE x hx
  have b2:=SE y hy
  exact f51_key (by omega) (by omega)) (by simp only[bT];omega) Wo
 have Uq:=oS eZ eZ.length
 have m1:ev.length<=cO:=by unfold cO;omega
 have Vd:wh.length=P.length:=by have:=congrArg List.length ff.ws;simpa using this
 have m2:wh.length<=cO:=by unfold cO;omega
 unfold f50
 simp only[r1,cH,de m1,de m2,de r2.length_eq]
 refine⟨_,rfl,λ_=>⟨DS,Qz,aab,rfl,rfl,⟨T,cV,lo,ff,aad,r2,gx et,M5,λt ht=>?_⟩,?_,?_,λl hl=>SE l (r2.mem_iff.1 hl),?_⟩⟩
 ·obtain⟨m,CK,F9⟩:=pA ht
  have em:(kv P.flatten)[m]? =some t:=by rw[<-F9];exact dC CK
  exact gon m t (by omega) em
 ·show ev.length<=400;omega
 ·show r.length<=4000000;rw[r2.length_eq];omega
 ·have rB:lo.Nodup:=List.nodup_iff_count.2 λl=>by
   by_cases hl:l∈lo
   ·obtain⟨i,k,x,l1,l2,l3,l4⟩:=ff.lo l hl
    have hc:(je lo i k).count l=lo.count l:=List.count_filter (by simp[sF,l1,l2])
    rw[<-hc]
    obtain⟨p,_,hf⟩:=ff.fa i k x l3 l4
    have:(je lo i k).Nodup:=by
     rcases hf with⟨_,hf⟩|⟨e,D,_,_,hD,⟨hf,_⟩|⟨c,_,_,hf⟩⟩
     ·rw[hf];simp
     ·rw[hf]
      rcases hD with⟨rfl,_⟩|⟨rfl,_⟩<;>simp
     ·rw[hf]
      rcases hD with⟨rfl,_⟩|⟨rfl,_⟩<;>simp
    exact List.nodup_iff_count.1 this l
   ·rw[List.count_eq_zero_of_not_mem hl];omega
  have hnr:r.Pairwise λx y=>x≠y:=r2.nodup_iff.2 rB
  show r.Pairwise _
  refine(r3.and hnr).imp_of_mem λ{x y}hx hy ⟨h1,h2⟩=>?_
  have:=Wo x (r2.mem_iff.1 hx) y (r2.mem_iff.1 hy)
  rcases Int.lt_or_eq_of_le h1 with h|h
  ·exact h
  ·exact absurd (this h) h2
end Go.Proofs.YtpbahncblggodaaGreat
set_option linter.all false
namespace Go.Proofs.YtpbahncblggodaaGreat
open Go Go.Am
set_option maxRecDepth 100000
theorem f244_eq(d:cg):f244 d=some (wm d):=by
 unfold f244 wm
 have:decide ((d.cZ.length:Int)=0)=d.cZ.isEmpty:=by
  cases d.cZ with
  |nil=>rfl
  |cons a l=>exact decide_eq_false (by simp;omega)
 rw[this]
 cases d.cZ.isEmpty<;>rfl
theorem f245_eq(d:cg)(x:Int)(hs:bT d.cZ):f245 d x=some (sQ d x):=by
 unfold f245 f78 f140_1 sQ
 rw[dP d.cZ (λs:cT=>decide (s.bc=x)) (λi _=>(i:Int)) hs]
 ·simp only[cH,fi]
  rw[<-fT]
  unfold gu
  cases d.cZ.findIdx? _<;>simp
 ·intro i y hy
  simp only[cJ hy,cond_true,b9 hy,cH,f296]
  cases decide (y.bc=x)<;>rfl
 ·simp
theorem Wp{s:cI}(h:s∈gv):f129 s=some true/\nV s ⟨0,false,false⟩=false:=by
 obtain⟨h1,h2,_⟩:=js s h
 have h0:nV s ⟨0,false,false⟩=false:=by
  cases hq:nV s ⟨0,false,false⟩
  ·rfl
  ·simp[nV]at hq
   have:s=⟨0,false,false⟩:=by cases s;simp at hq;simp[hq]
   rw[this]at h1 h2
   have h3:f93 ⟨0,false,false⟩=some 0:=rfl
   rw[h3]at h1
   have:=Option.some.inj h1
   omega
 refine⟨?_,h0⟩
 unfold f129
 have hd:decide (0<(tk s:Int))=true:=decide_eq_true (by omega)
 simp only[h0,cond_false,h1,cH,hd]
section
variable {a:bK} {E:List cg}
theorem kC.XG(h:kC a E){e:Nat}{d:cg}(hd:E[e]? =some d):d.cZ.length<=14:=by
 have:=wY (l:=d.cZ.map cT.bc) (n:=15) (lo:=1) (by rw[GJ];exact(h.ev e d hd).qf) (λx hx=>by
  obtain⟨s,hs,rfl⟩:=kb.1 hx
  obtain⟨q,hq⟩:=(h.st e s ⟨d,hd,hs⟩).pl
  have:=gQ hq
  have h1:=this.2.1
  have h2:=this.2.2.1
  simp only at h1 h2
  omega) (by omega)
 simp at this;omega
theorem kC.sQ(h:kC a E){e:Nat}{d:cg}(hd:E[e]? =some d)(x:Int):f245 d x=some (sQ d x):=f245_eq d x (by have:=h.XG hd;simp only[bT];omega)
theorem f192_ex(p:dL)(h:kC a p.bG)(hl:p.bG.length<=400){i:Nat}{s:cT}(hs:fA p.bG i s): ∃r,f192 p (i:Int) s.bc=some r/\s.hold<=r:=by
 have hi:=hs.lt
 have so:=h.st i s hs
 have ho:=h.hold hs
 unfold f192
 have c1:decide ((i:Int)<0)=false:=decide_eq_false (by omega)
 have c2:decide ((p.bG.length:Int)<=(i:Int))=false:=decide_eq_false (by omega)
 have w1:wr ((i:Int)+1)=((i+1:Nat):Int):=gP (by omega)
 have n1:(0:Int)<=((i+1:Nat):Int):=by omega
 have n2:i+1<=p.bG.length:=by omega
 simp only[c1,c2,cond_false,cH,w1,de n1,nv,de n2,Bb]
 have EW:(p.bG.drop (i+1)).length=p.bG.length-(i+1):=Tf ..
 refine eO (λk(q:Int×Int)=>q=((k:Int),(k:Int))/\k<=15) (λr=>s.hold<=r) (p.bG.drop (i+1)).length (by omega) ⟨rfl,by omega⟩ ?_ ?_ ?_
 ·rintro k _ hk ⟨rfl,aau⟩
  have e1:(p.bG.drop (i+1))[k]? =some ((p.bG.drop (i+1))[k]'hk):=dC _
  generalize(p.bG.drop (i+1))[k]'hk=d at e1
  have e2:p.bG[i+1+k]? =some d:=by rw[J8]at e1;exact e1
  simp only[cJ e1,cond_true,b9 e1,cH,f244_eq,h.sQ e2,gP (show k<=4194304 by omega)]
  by_cases hc:k<s.hold
  ·obtain⟨h1,h2⟩:=so.on (i+1+k) d (by omega) (by omega) e2
   have h3:=(so.hl (by omega)).2.1
   have c3:decide ((k:Int)=15)=false:=decide_eq_false (by omega)
   simp only[h1,h2,c3,cond_false,cH]
   exact .inl ⟨_,rfl,rfl,by omega⟩
  ·cases c3:decide ((k:Int)=15)
   ·have c3:=of_decide_eq_false c3
    cases wm d
    ·cases sQ d s.bc
     ·simp only[cond_false,cH]
      exact .inl ⟨_,rfl,rfl,by omega⟩
     ·simp only[cond_false,cH,cond_true]
      exact .inr ⟨_,rfl,by omega⟩
    ·simp only[cond_false,cH,cond_true]
     exact .inr ⟨_,rfl,by omega⟩
   ·simp only[cH,cond_true]
    exact .inr ⟨_,rfl,by omega⟩
 ·rintro _ ⟨rfl,_⟩
  simp only[kF,decide_false,cond_false]
  exact⟨_,rfl,by omega⟩
 ·intro r hr
  exact⟨r,rfl,hr⟩
theorem f130_y(p:dL)(h:kC p.instrument p.bG)(hl:p.bG.length<=400){i:Nat}{s:cT}(hs:fA p.bG i s){last:Int}(M5:last<s.bc):f130 p (i:Int) s last=some 0:=by
 have so:=h.st i s hs
 obtain⟨q,hq⟩:=so.pl
 obtain⟨_,p1,p2,p3,p4,c,p5,p6,_⟩:=gQ hq
 simp only at p1 p2 p3 p4 p5 p6
 have FH:=(fM.1 p5).1
 obtain⟨r,r1,r2⟩:=f192_ex p h hl hs
 obtain⟨s1,s2⟩:=so.rg
 have w1:wr (s.bc-1)=(((s.bc-1).toNat:Nat):Int):=by rw[jd (by omega) (by omega)];omega
 unfold f130
 have c1:decide (s.bc<1)=false:=decide_eq_false (by omega)
 have c2:decide ((p.instrument.cj.length:Int)<s.bc)=false:=decide_eq_false (by omega)
 have c3:decide (s.ct<0)=false:=decide_eq_false (by omega)
 have c4:decide (c.dz<s.ct)=false:=decide_eq_false (by omega)
 have c5:decide (s.bc<=last)=false:=decide_eq_false (by omega)
 have c6:decide (s.hold<0)=false:=decide_eq_false (by have:=so.h0;omega)
 have c7:decide (r<s.hold)=false:=decide_eq_false (by omega)
 have c8:(bif decide (0<s.hold)then some (decide (s.ct=0))else some false)=some false:=by
  by_cases hh:0<s.hold
  ·have:=(so.hl hh).1
   have c9:decide (s.ct=0)=false:=decide_eq_false (by omega)
   rw[c9];cases decide (0<s.hold)<;>rfl
  ·rw[decide_eq_false hh];rfl
 simp only[c1,c2,c3,w1,b9 p5,c4,c5,s1,s2,c6,r1,c7,c8,cond_false,cH]
 rfl
theorem f66_y(p:dL)(hi:instS p.instrument=0)(h:kC p.instrument p.bG)(hl:p.bG.length<=400):f66 p=some 0:=by
 have key: ∃r,f66 p=some r/\r=0:=by
  unfold f66
  have c1:decide (400<(p.bG.length:Int))=false:=decide_eq_false (by omega)
  rw[f70_eq,hi]
  simp only[cH,ne_eq,not_true_eq_false,decide_false,cond_false,c1]
  refine eO (λk(q:Int)=>q=(k:Int)) (λr=>r=.inl ()) p.bG.length (by omega) rfl ?_ ?_ ?_
  ·rintro k _ hk rfl
   have e1:p.bG[k]? =some (p.bG[k]'hk):=dC _
   generalize p.bG[k]'hk=d at e1
   have hd:=h.ev k d e1
   obtain⟨g1,g2⟩:=Wp hd.sg
   have hf:=h.XG e1
   have c2:(bif decide ((k:Int)=0)then some false else some false)=some false:=by cases decide ((k:Int)=0)<;>rfl
   have c3:(bif d.tie then(bif decide ((k:Int)=0)then some true else some (decide (0<(d.cZ.length:Int))))else some false)=some false:=by
    cases ht:d.tie
    ·rfl
    ·obtain⟨t1,t2⟩:=hd.tie ht
     have:decide ((k:Int)=0)=false:=decide_eq_false (by omega)
     rw[t1,this];rfl
   simp only[cJ e1,cond_true,b9 e1,cH,g1,g2,c2,c3,oe,cond_false,dB (l:=p.bG) (by simp only[bT];omega) e1]
   refine .inl (AU (λj(q:Int×Int)=>q.2=(j:Int)/\ ∀s,d.cZ[j]? =some s->q.1<s.bc) (λr=>r=.inl ()) d.cZ.length (by omega) ⟨rfl,λs hs=>?_⟩ ?_ ?_ ?_)
   ·obtain⟨q,hq⟩:=(h.st k s ⟨d,e1,gx hs⟩).pl
    have:=(gQ hq).2.1
    show 0<s.bc
    simp only at this;omega
   ·rintro j ⟨q1,q2⟩ hj ⟨e0,hq⟩
    simp only at e0 hq
    subst e0
    have e2:d.cZ[j]? =some (d.cZ[j]'hj):=dC _
    have gh:=hq _ e2
    have W2:=f130_y p h hl (i:=k) (s:=d.cZ[j]'hj) ⟨d,e1,zo _⟩ gh
    have ul:=hd.qf
    rw[EN]at ul
    simp only[cJ e2,cond_true,b9 e2,cH,W2,dB (l:=d.cZ) (by simp only[bT];omega) e2,ne_eq,not_true_eq_false,decide_false,cond_false]
    refine .inl ⟨_,rfl,rfl,λs hs=>?_⟩
    obtain⟨TQ,rfl⟩:=fM.1 hs
    exact ul j (j+1) hj TQ (Td j)
   ·rintro⟨q1,q2⟩ ⟨e0,hq⟩
    simp only at e0
    subst e0
    simp only[kF,decide_false,cond_false]
    exact⟨_,rfl,rfl⟩
   ·rintro _ rfl
    exact⟨_,rfl,rfl⟩
  ·rintro _ rfl
   simp only[kF,decide_false,cond_false]
   exact⟨_,rfl,rfl⟩
  ·rintro _ rfl
   exact⟨_,rfl,rfl⟩
 obtain⟨r,h1,rfl⟩:=key
 exact h1
def yM(E:List cg):List Int:=(List.range (E.length+1)).map λk=>(iD E k:Int)
theorem M6:(yM E).length=E.length+1:=by simp[yM]
theorem yN{k:Nat}(h:k<=E.length):(yM E)[k]? =some (iD E k:Int):=by
 unfold yM
 rw[sK,List.getElem?_range (by omega)];rfl
theorem QA(h:kC a E): ∀k,k<=E.length->iD E k<=768*k
 |0,_=>by simp[iD]
 |k+1,hk=>by
  have e1:E[k]? =some (E[k]'(by omega)):=dC _
  rw[Ci e1]
  have:=QA h k (by omega)
  have:=(js _ (h.ev k _ e1).sg).2.2
  omega
theorem f29_y(p:dL)(hi:instS p.instrument=0)(h:kC p.instrument p.bG)(hl:p.bG.length<=400):f29 p=some (yM p.bG,0):=by
 have key: ∃r,f139 [0] p=some r/\r=yM p.bG:=by
  unfold f139
  refine eO (λk(q:List Int×Int×Int)=>q.2.2=(k:Int)/\q.1=(List.range (k+1)).map λk=>(iD p.bG k:Int)) (λr=>r=.inl (yM p.bG)) p.bG.length (by omega) ⟨rfl,rfl⟩ ?_ ?_ ?_
  ·rintro k ⟨q1,q2,q3⟩ hk ⟨e0,e1⟩
   simp only at e0 e1
   subst e0;subst e1
   have x1:p.bG[k]? =some (p.bG[k]'hk):=dC _
   generalize p.bG[k]'hk=d at x1
   obtain⟨t1,t2,t3⟩:=js _ (h.ev k d x1).sg
   have c1:decide (0<(tk d.sign:Int))=true:=decide_eq_true (by omega)
   have y1:((List.range (k+1)).map λk=>(iD p.bG k:Int))[k]? =some (iD p.bG k:Int):=by rw[sK,List.getElem?_range (by omega)];rfl
   have m1:((List.range (k+1)).map λk=>(iD p.bG k:Int)).length+1<=bJ:=by simp;unfold bJ;omega
   have hb:=QA h k (by omega)
   have w1:wr ((iD p.bG k:Int)+(tk d.sign:Int))=(iD p.bG (k+1):Int):=by rw[jd (by omega) (by omega),Ci x1];omega
   simp only[cJ x1,cond_true,b9 x1,cH,t1,c1,f351,b9 y1,de m1,w1,dB (l:=p.bG) (by simp only[bT];omega) x1]
   refine .inl ⟨_,rfl,rfl,?_⟩
   show _++_=_
   rw[List.range_succ (n:=k+1),CE];rfl
  ·rintro⟨q1,q2,q3⟩ ⟨e0,e1⟩
   simp only at e0 e1
   subst e0;subst e1
   simp only[kF,decide_false,cond_false]
   exact⟨_,rfl,rfl⟩
  ·rintro _ rfl
   exact⟨_,rfl,rfl⟩
 obtain⟨r,h1,rfl⟩:=key
 unfold f29
 rw[f66_y p hi h hl]
 simp only[cH,ne_eq,not_true_eq_false,decide_false,cond_false,f76,h1]
theorem f25_y{p:bn}{q:Int}(h:p∈(eD a q).1):f25 a p=some (q,0):=by
 obtain⟨h0,p1,p2,p3,p4,c,p5,p6,p7⟩:=gQ h
 have FH:=(fM.1 p5).1
 obtain⟨_,i2,_,_,i5⟩:=instS_ok h0
 have hc:=jL (i5 c (gx p5))
 have w1:wr (p.bc-1)=(((p.bc-1).toNat:Nat):Int):=by rw[jd (by omega) (by omega)];omega
 have c1:decide (p.bc<1)=false:=decide_eq_false (by omega)
 have c2:decide ((a.cj.length:Int)<p.bc)=false:=decide_eq_false (by omega)
 have c3:decide (p.ct<0)=false:=decide_eq_false (by omega)
 have c4:decide (c.dz<p.ct)=false:=decide_eq_false (by omega)
 have h71:=f71_eq a c p.ct.toNat (by omega) hc.2.1 i2
 rw[show((p.ct.toNat:Nat):Int)=p.ct by omega,p7]at h71
 unfold f25
 rw[f70_eq,h0]
 simp only[cH,ne_eq,not_true_eq_false,decide_false,cond_false,c1,c2,w1,b9 p5,c3,c4,h71]
end
end Go.Proofs.YtpbahncblggodaaGreat
set_option linter.all false
namespace Go.Proofs.YtpbahncblggodaaGreat
open Go Go.Am
set_option maxRecDepth 100000
structure yO (E:List cg) (e:Nat) (s:cT) (c:Nat):Prop where
 lt:e<c
 le:c<=E.length
 fr:0<s.ct->(e:Int)+s.hold<(c:Int)/\(∀(j:Nat)d,(e:Int)+s.hold<(j:Int)->j<c->E[j]? =some d->d.tie=true)/\ ∀d,E[c]? =some d->d.tie=false
 op: ¬0<s.ct->(∀(j:Nat)d,e<j->j<c->E[j]? =some d->wm d=false/\sQ d s.bc=false)/\ ∀d,E[c]? =some d->wm d=true\/sQ d s.bc=true
def Gq(a:bK)(s:cT):Int:=((f25 a ⟨s.bc,s.ct⟩).getD (0,0)).1
def lP(a:bK)(E:List cg)(e:Nat)(s:cT)(to:Nat):eg:=⟨(e:Int),s.bc,Gq a s,(iD E e:Int),(iD E to:Int)⟩
def qm(E:List cg)(i:Nat):List (Nat×cT):=(((E[i]?).map cg.cZ).getD []).map λs=>(i,s)
def stM(E:List cg):Nat->List (Nat×cT)
 |0=>[]
 |i+1=>stM E i++qm E i
structure kH (a:bK) (E:List cg) (i:Nat) (done:Int->Bool) (M:List (Nat×cT)) (out:List eg) (ring:List Int):Prop where
 ol:out.length=M.length
 rl:ring.length=15
 nt: ∀(m e:Nat)s,M[m]? =some (e,s)-> ∃c,out[m]? =some (lP a E e s c)/\(yO E e s c\/(¬0<s.ct/\ring[s.bc.toNat]? =some ((m:Int)+1)/\c=E.length))
 rg: ∀(x:Nat)v,ring[x]? =some v->v=0\/ ∃(m e:Nat)(s:cT),v=(m:Int)+1/\M[m]? =some (e,s)/\s.bc=(x:Int)/\ ¬0<s.ct/\out[m]? =some (lP a E e s E.length)/\(∀(j:Nat)d,e<j->j<i->E[j]? =some d->wm d=false/\sQ d s.bc=false)/\(e<i->done s.bc=false)
section
variable {a:bK} {E:List cg} {i:Nat} {done:Int->Bool} {M:List (Nat×cT)} {out:List eg} {ring:List Int} {d:cg}
theorem QB(h:kH a E i done M out ring)(x:Nat)(hx:x<15)(hd:E[i]? =some d)(hs:wm d=true\/sQ d (x:Int)=true)(hM: ∀(m e:Nat)s,M[m]? =some (e,s)->s.bc=(x:Int)->e<i)(hl:M.length<=10000):
  ∃r,f126 (x:Int) (iD E i:Int) ring out=some r/\kH a E i (λy=>done y||decide (y=(x:Int))) M r.1 r.2/\r.2[x]? =some 0:=by
 have VR:=h.rl
 have e1:ring[x]? =some (ring[x]'(by omega)):=dC _
 generalize ring[x]'(by omega)=v at e1
 have n1:(x:Int)<15:=by omega
 unfold f126
 simp only[de n1,b9 e1,cH]
 rcases h.rg x v e1 with rfl|⟨m,e,s,rfl,m1,m2,m3,m4,m5,m6⟩
 ·simp only[kF,decide_false,cond_false]
  refine⟨_,rfl,⟨h.ol,h.rl,h.nt,λx' v' hv=>?_⟩,e1⟩
  rcases h.rg x' v' hv with h0|⟨m,e,s,q1,q2,q3,q4,q5,q6,q7⟩
  ·exact .inl h0
  ·by_cases wD:x'=x
   ·subst wD;rw[e1]at hv;exact .inl (Option.some.inj hv).symm
   ·exact .inr ⟨m,e,s,q1,q2,q3,q4,q5,q6,λhq=>by rw[q7 hq,q3];exact decide_eq_false (by omega)⟩
 ·have NE:=(fM.1 m1).1
  have c1:decide (0<(m:Int)+1)=true:=decide_eq_true (by omega)
  have w1:wr ((m:Int)+1-1)=(m:Int):=by rw[show(m:Int)+1-1=(m:Int)by omega,jd (by omega) (by omega)]
  have hei:=hM m e s m1 m2
  have hmo:=(fM.1 m4).1
  simp only[c1,cond_true,w1,b9 m4,cH,nv]
  refine⟨_,rfl,⟨by simpa using h.ol,by simpa using h.rl,λm' e' s' nr=>?_,λx' v' hv=>?_⟩,GI (by omega)⟩
  ·by_cases Ns:m=m'
   ·subst Ns
    rw[m1]at nr;cases nr
    refine⟨i,GI hmo,.inl ⟨hei,?_,λhf=>absurd hf m3,λ_=>⟨m5,λd' uy=>?_⟩⟩⟩
    ·have:=(fM.1 hd).1;omega
    ·rw[hd]at uy;cases uy;rw[m2];exact hs
   ·obtain⟨c,c2,c3⟩:=h.nt m' e' s' nr
    refine⟨c,by rw[EM Ns];exact c2,?_⟩
    rcases c3 with c3|⟨c3,c4,c5⟩
    ·exact .inl c3
    ·refine .inr ⟨c3,?_,c5⟩
     rw[EM]
     ·exact c4
     ·rintro rfl
      rw[e1]at c4
      have:=Option.some.inj c4
      omega
  ·by_cases wD:x=x'
   ·subst wD
    have hv:(ring.set x 0)[x]? =some v':=hv
    rw[GI (by omega)]at hv
    exact .inl (Option.some.inj hv).symm
   ·have hv:(ring.set x 0)[x']? =some v':=hv
    rw[EM wD]at hv
    rcases h.rg x' v' hv with h0|⟨m',e',s',q1,q2,q3,q4,q5,q6,q7⟩
    ·exact .inl h0
    ·have Ns:m≠m':=λhq=>by
      subst hq
      rw[m1]at q2;cases q2;omega
     exact .inr ⟨m',e',s',q1,q2,q3,q4,by show(out.set m _)[m']? =_;rw[EM Ns];exact q5,q6,λhq=>by rw[q7 hq,q3];exact decide_eq_false (by omega)⟩
theorem kH.aae(h:kH a E i done M out ring){s:cT}{c:Nat}(hc:yO E i s c):kH a E i done (M++[(i,s)]) (out++[lP a E i s c]) ring:=by
 have EO:=h.ol
 refine⟨by simp[EO],h.rl,λm e s' hm=>?_,λx v hv=>?_⟩
 ·rcases EI m M.length with q|q
  ·rw[nq q]at hm
   obtain⟨c',c1,c2⟩:=h.nt m e s' hm
   exact⟨c',by rw[nq (by omega)];exact c1,c2⟩
  ·rw[pn q]at hm
   have:=(fM.1 hm).1
   simp at this
   have hq:m=M.length:=by omega
   subst hq
   simp at hm
   obtain⟨rfl,rfl⟩:=hm
   exact⟨c,by rw[pn (by omega)];simp[EO],.inl hc⟩
 ·rcases h.rg x v hv with h0|⟨m,e,s',q1,q2,q3,q4,q5,q6⟩
  ·exact .inl h0
  ·have hm:=(fM.1 q2).1
   exact .inr ⟨m,e,s',q1,by rw[nq hm];exact q2,q3,q4,by rw[nq (by omega)];exact q5,q6⟩
theorem kH.aaf(h:kH a E i done M out ring){s:cT}{x:Nat}(hx:s.bc=(x:Int))(P8:x<15)(hr:ring[x]? =some 0)(hf: ¬0<s.ct):kH a E i done (M++[(i,s)]) (out++[lP a E i s E.length]) (ring.set x ((M.length:Int)+1)):=by
 have EO:=h.ol
 have VR:=h.rl
 have wc:(out++[lP a E i s E.length])[M.length]? =some (lP a E i s E.length):=by rw[pn (by omega)];simp[EO]
 have hxn:s.bc.toNat=x:=by omega
 refine⟨by simp[EO],by simpa using VR,λm e s' hm=>?_,λx' v hv=>?_⟩
 ·rcases EI m M.length with q|q
  ·rw[nq q]at hm
   obtain⟨c',c1,c2⟩:=h.nt m e s' hm
   refine⟨c',by rw[nq (by omega)];exact c1,?_⟩
   rcases c2 with c2|⟨c2,c3,c4⟩
   ·exact .inl c2
   ·refine .inr ⟨c2,?_,c4⟩
    rw[EM]
    ·exact c3
    ·rintro rfl
     rw[hr]at c3
     have:=Option.some.inj c3
     omega
  ·rw[pn q]at hm
   have:=(fM.1 hm).1
   simp at this
   have hq:m=M.length:=by omega
   subst hq
   simp at hm
   obtain⟨rfl,rfl⟩:=hm
   exact⟨E.length,wc,.inr ⟨hf,by rw[hxn,GI (by omega)],rfl⟩⟩
 ·by_cases wD:x=x'
  ·subst wD
   rw[GI (by omega)]at hv
   have hv:=(Option.some.inj hv).symm
   exact .inr ⟨M.length,i,s,hv,by simp,hx,hf,wc,λj d h1 h2=>by omega,λh=>by omega⟩
  ·rw[EM wD]at hv
   rcases h.rg x' v hv with h0|⟨m,e,s',q1,q2,q3,q4,q5,q6⟩
   ·exact .inl h0
   ·have hm:=(fM.1 q2).1
    exact .inr ⟨m,e,s',q1,by rw[nq hm];exact q2,q3,q4,by rw[nq (by omega)];exact q5,q6⟩
theorem kH.next(h:kH a E i done M out ring)(hM: ∀(m e:Nat)s,M[m]? =some (e,s)->1<=s.bc/\s.bc<=14)(hd:E[i]? =some d)(hn: ∀x:Int,1<=x->x<=14->done x=false->wm d=false/\sQ d x=false):kH a E (i+1) (λ_=>false) M out ring:=
 ⟨h.ol,h.rl,h.nt,λx v hv=>by
  rcases h.rg x v hv with h0|⟨m,e,s,q1,q2,q3,q4,q5,q6,q7⟩
  ·exact .inl h0
  ·obtain⟨b1,b2⟩:=hM m e s q2
   refine .inr ⟨m,e,s,q1,q2,q3,q4,q5,λj d' h1 h2 uy=>?_,λ_=>rfl⟩
   by_cases hj:j=i
   ·subst hj
    rw[hd]at uy;cases uy
    exact hn s.bc b1 b2 (q7 h1)
   ·exact q6 j d' h1 (by omega) uy⟩
theorem yP{x:Nat×cT}:x∈qm E i↔x.1=i/\fA E i x.2:=by
 unfold qm fA
 rw[kb]
 constructor
 ·rintro⟨s,h1,rfl⟩
  cases hd:E[i]? with
  |none=>rw[hd]at h1;simp at h1
  |some d=>rw[hd]at h1;exact⟨rfl,d,rfl,by simpa using h1⟩
 ·rintro⟨rfl,d,h1,h2⟩
  exact⟨x.2,by rw[h1];simpa using h2,rfl⟩
theorem jt: ∀{i:Nat}{x:Nat×cT},x∈stM E i↔x.1<i/\fA E x.1 x.2
 |0,x=>by simp[stM]
 |i+1,x=>by
  unfold stM
  rw[la,jt,yP]
  constructor
  ·rintro(⟨h1,h2⟩|⟨rfl,h2⟩)
   ·exact⟨by omega,h2⟩
   ·exact⟨by omega,h2⟩
  ·rintro⟨h1,h2⟩
   by_cases hq:x.1<i
   ·exact .inl ⟨hq,h2⟩
   ·have:x.1=i:=by omega
    subst this;exact .inr ⟨rfl,h2⟩
theorem um(h:kC a E): ∀i,(stM E i).length<=14*i
 |0=>by simp[stM]
 |i+1=>by
  have h1:=um h i
  have h2:(qm E i).length<=14:=by
   unfold qm
   cases hd:E[i]? with
   |none=>simp
   |some d=>simpa using h.XG hd
  unfold stM
  rw[kc];omega
theorem Ij(h:kC a E): ∀i,(stM E i).Pairwise λx y=>x.1<y.1\/x.1=y.1/\x.2.bc<y.2.bc
 |0=>by simp[stM]
 |i+1=>by
  unfold stM
  rw[WW]
  refine⟨Ij h i,?_,λx hx y hy=>.inl ?_⟩
  ·unfold qm
   cases hd:E[i]? with
   |none=>simp
   |some d=>
    show List.Pairwise _ (d.cZ.map _)
    rw[GJ]
    exact(h.ev i d hd).qf.imp λh=>.inr ⟨rfl,h⟩
  ·rw[(yP.1 hy).1];exact(jt.1 hx).1
theorem f128_y(p:dL)(ons:List Int)(hl:p.bG.length<=400){s:cT}(h0:0<=s.hold)(hi:(i:Int)+s.hold<(p.bG.length:Int)): ∃r,f128 ⟨p,ons⟩ (i:Int) s.hold=some r/\ ∃c:Nat,r+1=(c:Int)/\c<=p.bG.length/\(i:Int)+s.hold<(c:Int)/\
  (∀(j:Nat)d,(i:Int)+s.hold<(j:Int)->j<c->p.bG[j]? =some d->d.tie=true)/\ ∀d,p.bG[c]? =some d->d.tie=false:=by
 unfold f128
 have w0:wr ((i:Int)+s.hold)=((i+s.hold.toNat:Nat):Int):=by rw[jd (by omega) (by omega)];omega
 rw[w0]
 generalize hg:i+s.hold.toNat=g
 refine gY (P1:=λr=> ∃c:Nat,r+1=(c:Int)/\c<=p.bG.length/\(g:Int)<(c:Int)/\(∀(j:Nat)d,g<j->j<c->p.bG[j]? =some d->d.tie=true)/\ ∀d,p.bG[c]? =some d->d.tie=false) ?_ ?_
 ·refine jJ (λk(q:Int)=>q=((g+k:Nat):Int)/\ ∀(j:Nat)d,g<j->j<=g+k->p.bG[j]? =some d->d.tie=true) _ (p.bG.length-1-g) (by omega) ⟨by simp,λj d h1 h2=>by omega⟩ ?_ ?_
  ·rintro k _ hk ⟨rfl,hq⟩
   have w1:wr (((g+k:Nat):Int)+1)=((g+k+1:Nat):Int):=gP (by omega)
   have e1:p.bG[g+k+1]? =some (p.bG[g+k+1]'(by omega)):=dC _
   generalize p.bG[g+k+1]'(by omega)=d at e1
   simp only[w1,cJ e1,cond_true,b9 e1,cH]
   cases ht:d.tie
   ·refine .inr ⟨_,rfl,g+k+1,by omega,by omega,by omega,λj d' h1 h2=>hq j d' h1 (by omega),λd' uy=>?_⟩
    rw[e1]at uy;cases uy;exact ht
   ·refine .inl ⟨_,rfl,rfl,λj d' h1 h2 uy=>?_⟩
    by_cases hj:j=g+k+1
    ·subst hj;rw[e1]at uy;cases uy;exact ht
    ·exact hq j d' h1 (by omega) uy
  ·rintro _ ⟨rfl,hq⟩
   have w1:wr (((g+(p.bG.length-1-g):Nat):Int)+1)=((p.bG.length:Nat):Int):=by rw[gP (by omega)];congr 1;omega
   simp only[w1,kF,decide_false,cond_false,cH]
   exact⟨_,rfl,p.bG.length,by omega,eu _,by omega,λj d' h1 h2=>hq j d' h1 (by omega),λd' uy=>by simp at uy⟩
 ·rintro r ⟨c,c1,c2,c3,c4,c5⟩
  exact⟨r,rfl,c,c1,c2,by omega,λj d h1 h2=>c4 j d (by omega) h2,c5⟩
theorem f65_y(p:dL)(h:kC p.instrument p.bG)(hl:p.bG.length<=400): ∃r,f65 ⟨p,yM p.bG⟩=some r/\(r.1.length=(stM p.bG p.bG.length).length/\
  ∀(m e:Nat)s,(stM p.bG p.bG.length)[m]? =some (e,s)-> ∃c,yO p.bG e s c/\r.1[m]? =some (lP p.instrument p.bG e s c)):=by
 have ia: ∀{e s},fA p.bG e s->1<=s.bc/\s.bc<=14/\f25 p.instrument ⟨s.bc,s.ct⟩=some (Gq p.instrument s,0):=λ{e s}hs=>by
  obtain⟨q,hq⟩:=(h.st e s hs).pl
  obtain⟨_,p1,p2,_⟩:=gQ hq
  refine⟨p1,p2,?_⟩
  unfold Gq
  rw[f25_y hq];rfl
 have Jf:f127 ⟨p,yM p.bG⟩=some (iD p.bG p.bG.length:Int):=by
  unfold f127
  have w1:wr (((yM p.bG).length:Int)-1)=((p.bG.length:Nat):Int):=by rw[M6,jd (by omega) (by omega)];omega
  simp only[w1,b9 (yN (eu _)),cH]
 unfold f65
 refine eO (λk(q:List eg×List gR×List Int×Int)=>q.2.2.2=(k:Int)/\q.2.1.length=(stM p.bG k).length/\kH p.instrument p.bG k (λ_=>false) (stM p.bG k) q.1 q.2.2.1)
  (λr=> ∃ring,kH p.instrument p.bG p.bG.length (λ_=>false) (stM p.bG p.bG.length) r.1 ring) p.bG.length (by omega) ⟨rfl,rfl,⟨rfl,rfl,by simp[stM],λx v hv=>?_⟩⟩ ?_ ?_ ?_
 ·left
  have hx:=(fM.1 hv).1
  simp at hx
  have hv:(List.replicate 15 (0:Int))[x]? =some v:=hv
  rw[WL,if_pos hx]at hv
  exact(Option.some.inj hv).symm
 ·rintro k ⟨q1,q2,q3,q4⟩ hk ⟨e0,e1,e2⟩
  simp only at e0 e1 e2
  subst e0
  have x1:p.bG[k]? =some (p.bG[k]'hk):=dC _
  generalize p.bG[k]'hk=d at x1
  have hML:=um h k
  have hf:=h.XG x1
  have NA:((bif decide ((d.cZ.length:Int)=0)then some (!d.tie)else some false):Option Bool)=some (wm d):=by
   have:=f244_eq d
   unfold f244 at this
   rw[<-this]
   cases decide ((d.cZ.length:Int)=0)<;>rfl
  simp only[cJ x1,cond_true,b9 x1,b9 (yN (Tj hk)),cH,NA,dB (l:=p.bG) (by simp only[bT];omega) x1]
  have hMk: ∀(m e:Nat)s,(stM p.bG k)[m]? =some (e,s)->e<k/\1<=s.bc/\s.bc<=14:=λm e s hm=>by
   obtain⟨h1,h2⟩:=jt.1 (gx hm)
   have:=ia h2
   exact⟨h1,this.1,this.2.1⟩
  have first: ∃z,((bif wm d then((bY (σ:=(List eg×List Int×Int)) (τ:=(List eg×List Int)) (λ((QC,QD,M7):(List eg×List Int×Int))=>bif (decide (M7<15))then((f126 M7 (iD p.bG k:Int) QD QC).bind λr7=>some (.inl (r7.1,r7.2,(wr (M7+1)))))else(some (.inr (QC,QD)))) cy (q1,q3,0)).bind λ((SU,SV):(List eg×List Int))=>some (SU,SV))else(some (q1,q3))):Option (List eg×List Int))=some z/\
    ∃bQ:Int->Bool,(∀x:Int,1<=x->x<=14->bQ x=false->wm d=false)/\kH p.instrument p.bG k bQ (stM p.bG k) z.1 z.2:=by
   cases hr:wm d
   ·exact⟨_,rfl,λ_=>false,λ_ _ _ _=>rfl,e2⟩
   ·refine eO (λj(q:List eg×List Int×Int)=>q.2.2=(j:Int)/\kH p.instrument p.bG k (λy=>decide (y<(j:Int))&&decide (0<=y)) (stM p.bG k) q.1 q.2.1) (λr=>kH p.instrument p.bG k (λy=>decide (y<15)&&decide (0<=y)) (stM p.bG k) r.1 r.2) 15 (by omega) ⟨rfl,?_⟩ ?_ ?_ ?_
    ·have:(λy:Int=>decide (y<((0:Nat):Int))&&decide (0<=y))=λ_=>false:=by
      funext y
      by_cases hy:y<0
      ·have: ¬0<=y:=by omega
       simp[this]
      ·have: ¬y<((0:Nat):Int):=by omega
       simp only[this,decide_false,WV]
     rw[this];exact e2
    ·rintro j ⟨r1,r2,r3⟩ hj ⟨f0,f1⟩
     simp only at f0 f1
     subst f0
     have c1:decide ((j:Int)<15)=true:=decide_eq_true (by omega)
     obtain⟨r,s1,s2,_⟩:=QB f1 j hj x1 (.inl hr) (λm e s hm _=>(hMk m e s hm).1) (by omega)
     simp only[c1,cond_true,s1,cH,gP (show j<=4194304 by omega)]
     refine .inl ⟨_,rfl,rfl,?_⟩
     have:(λy:Int=>decide (y<((j+1:Nat):Int))&&decide (0<=y))=λy:Int=>(decide (y<(j:Int))&&decide (0<=y))||decide (y=(j:Int)):=by
      funext y
      rw[Bool.eq_iff_iff]
      simp
      omega
     rw[this];exact s2
    ·rintro⟨r1,r2,r3⟩ ⟨f0,f1⟩
     simp only at f0 f1
     subst f0
     exact⟨_,rfl,f1⟩
    ·rintro⟨r1,r2⟩ Q9
     exact⟨_,rfl,_,λx h1 h2 h3=>by simp at h3;omega,Q9⟩
  obtain⟨⟨z1,z2⟩,hz,bQ,uF,wC⟩:=first
  simp only[hz,cH]
  refine .inl (AU (λj(q:List eg×List gR×List Int×Int)=>q.2.2.2=(j:Int)/\q.2.1.length=(stM p.bG k).length+j/\kH p.instrument p.bG k (λy=>bQ y||(d.cZ.take j).any λs=>decide (s.bc=y)) (stM p.bG k++(d.cZ.take j).map λs=>(k,s)) q.1 q.2.2.1)
   (λr=>r.2.1.length=(stM p.bG (k+1)).length/\kH p.instrument p.bG k (λy=>bQ y||sQ d y) (stM p.bG (k+1)) r.1 r.2.2) d.cZ.length (by omega) ⟨rfl,by simpa using e1,?_⟩ ?_ ?_ ?_)
  ·simpa using wC
  ·rintro j ⟨r1,r2,r3,r4⟩ hj ⟨f0,f1,f2⟩
   simp only at f0 f1 f2
   subst f0
   have y1:d.cZ[j]? =some (d.cZ[j]'hj):=dC _
   have T0:fA p.bG k (d.cZ[j]'hj):=⟨d,x1,zo _⟩
   have ul:=(h.ev k d x1).qf
   rw[EN]at ul
   have Wq: ∀s∈d.cZ.take j,s.bc<(d.cZ[j]'hj).bc:=λs hs=>by
    rw[List.mem_take_iff_getElem]at hs
    obtain⟨i',Bm,rfl⟩:=hs
    exact ul i' j (by omega) hj (by omega)
   generalize d.cZ[j]'hj=s at y1 T0 Wq
   obtain⟨b1,b2,b3⟩:=ia T0
   have jg:s.bc=((s.bc.toNat:Nat):Int):=by omega
   have Pv:sQ d ((s.bc.toNat:Nat):Int)=true:=w9.2 ⟨s,gx y1,by simpa using jg⟩
   have EO:=f2.ol
   have hM2:(stM p.bG k++(d.cZ.take j).map λs=>(k,s)).length<=14*k+14:=by simp;omega
   obtain⟨r,s1,s2,s3⟩:=QB f2 s.bc.toNat (by omega) x1 (.inr Pv) (λm e s' hm hc=>by
    rcases la.1 (gx hm)with hm|hm
    ·exact(jt.1 hm).1
    ·obtain⟨s'',t1,t2⟩:=kb.1 hm
     cases t2
     have:=Wq s' t1
     omega) (by omega)
   rw[<-jg]at s1
   have aag:=s2.ol
   have n2:r.1.length+1<=bJ:=by unfold bJ;omega
   have n3:r2.length+1<=bJ:=by unfold bJ;omega
   have hMs:(stM p.bG k++(d.cZ.take (j+1)).map λs=>(k,s))=(stM p.bG k++(d.cZ.take j).map λs=>(k,s))++[(k,s)]:=by rw[cN y1];simp
   have hdn:(λy=>bQ y||(d.cZ.take (j+1)).any λs=>decide (s.bc=y))=λy=>(bQ y||(d.cZ.take j).any λs=>decide (s.bc=y))||decide (y=((s.bc.toNat:Nat):Int)):=by
    funext y
    rw[cN y1,List.any_append,WO]
    congr 2
    simp only[Ue,List.any_nil,Uh]
    rw[<-jg]
    by_cases hq:s.bc=y
    ·simp[hq]
    ·have: ¬y=s.bc:=λh=>hq h.symm
     simp[hq,this]
   simp only[cJ y1,cond_true,b9 y1,cH,s1,b3,Jf,dB (l:=d.cZ) (by simp only[bT];omega) y1]
   by_cases rI:0<s.ct
   ·have so:=h.st k s T0
    obtain⟨t,t1,c,t2,t3,t4,t5,t6⟩:=f128_y (i:=k) p (yM p.bG) hl so.h0 (h.hold T0)
    have w1:wr (t+1)=(c:Int):=by rw[t2,jd (by omega) (by omega)]
    simp only[rI,decide_true,cond_true,t1,cH,w1,b9 (yN t3),de n2,de n3]
    refine .inl ⟨_,rfl,rfl,by simp[f1];omega,?_⟩
    rw[hMs,hdn]
    have:=so.h0
    exact s2.aae (c:=c) ⟨by omega,t3,λ_=>⟨t4,t5,t6⟩,λhq=>absurd rI hq⟩
   ·have n4:s.bc<15:=by omega
    have ZJ:ix r.2 s.bc=some 0:=by rw[jg];exact b9 s3
    have w1:wr ((r.1.length:Int)+1)=((stM p.bG k++(d.cZ.take j).map λs=>(k,s)).length:Int)+1:=by rw[jd (by omega) (by omega),aag]
    simp only[rI,decide_false,cond_false,de n4,ZJ,cH,w1,de n2,de n3]
    refine .inl ⟨_,rfl,rfl,by simp[f1];omega,?_⟩
    rw[hMs,hdn]
    exact s2.aaf jg (by omega) s3 rI
  ·rintro⟨r1,r2,r3,r4⟩ ⟨f0,f1,f2⟩
   simp only at f0 f1 f2
   subst f0
   simp only[kF,decide_false,cond_false]
   rw[Bb]at f2
   have hM3:stM p.bG (k+1)=stM p.bG k++d.cZ.map λs=>(k,s):=by show stM p.bG k++qm p.bG k=_;unfold qm;rw[x1];rfl
   exact⟨_,rfl,by rw[hM3];simpa using f1,by rw[hM3];exact f2⟩
  ·rintro⟨r1,r2,r3⟩ ⟨f1,f2⟩
   refine⟨_,rfl,rfl,f1,f2.next (λm e s hm=>?_) x1 λx h1 h2 h3=>?_⟩
   ·have:=ia (jt.1 (gx hm)).2
    exact⟨this.1,this.2.1⟩
   ·simp only[EH]at h3
    exact⟨uF x h1 h2 h3.1,h3.2⟩
 ·rintro⟨q1,q2,q3,q4⟩ ⟨e0,e1,e2⟩
  simp only at e0 e1 e2
  subst e0
  simp only[kF,decide_false,cond_false]
  exact⟨_,rfl,q3,e2⟩
 ·rintro⟨r1,r2⟩ ⟨ring,hr⟩
  refine⟨_,rfl,hr.ol,λm e s hm=>?_⟩
  obtain⟨c,c1,c2⟩:=hr.nt m e s hm
  refine⟨c,?_,c1⟩
  rcases c2 with c2|⟨c2,c3,rfl⟩
  ·exact c2
  ·have T0:=jt.1 (gx hm)
   rcases hr.rg _ _ c3 with h0|⟨m',e',s',g1,g2,_,_,_,g6,_⟩
   ·omega
   ·have:m'=m:=by omega
    subst this
    rw[hm]at g2;cases g2
    exact⟨T0.1,eu _,λhf=>absurd hf c2,λ_=>⟨g6,λd hd=>by simp at hd⟩⟩
theorem f22_y(p:dL)(hi:instS p.instrument=0)(h:kC p.instrument p.bG)(hl:p.bG.length<=400): ∃N,f22 p=some (N,0)/\N.length=(stM p.bG p.bG.length).length/\
  ∀(m e:Nat)s,(stM p.bG p.bG.length)[m]? =some (e,s)-> ∃c,yO p.bG e s c/\N[m]? =some (lP p.instrument p.bG e s c):=by
 obtain⟨r,r1,r2⟩:=f65_y p h hl
 unfold f22 f64
 rw[f29_y p hi h hl]
 simp only[cH,ne_eq,not_true_eq_false,decide_false,cond_false,r1]
 exact⟨r.1,rfl,r2⟩
theorem Rg.Gr{e c c':Nat}{s:cT}{p:bn}(h:Rg E e p c')(h2:yO E e s c)(hs:fA E e s)(hc:s.bc=p.bc)(hf:s.ct=p.ct):c'<=c:=by
 rcases EI c c' with q|q
 ·exfalso
  have hl:=h.le
  have e1:E[c]? =some (E[c]'(by omega)):=dC _
  by_cases hp:0<s.ct
  ·obtain⟨f1,_,f3⟩:=h2.fr hp
   have h3:=f3 _ e1
   rw[h.ho s hs hc (by omega) c _ f1 q e1]at h3;cases h3
  ·obtain⟨h3,h4⟩:=h.on c _ h2.lt q e1
   rcases(h2.op hp).2 _ e1 with h5|h5
   ·rw[h3]at h5;cases h5
   ·rw[hc,h4]at h5;cases h5
 ·exact q
theorem Nd.M8{e c c':Nat}{s:cT}{p:bn}(h:Nd E e p c')(h2:yO E e s c)(hs:fA E e s)(hc:s.bc=p.bc)(hf:s.ct=p.ct):c'=c:=by
 have h1:=h.rg.Gr h2 hs hc hf
 rcases EI c' c with q|q
 ·exfalso
  obtain⟨d,d1,d2,d3⟩:=h.en
  by_cases hp:0<s.ct
  ·obtain⟨f1,f2⟩:=d2 (by omega)
   rw[(h2.fr hp).2.1 c' d (f2 s hs hc) q d1]at f1;cases f1
  ·have:=((h2.op hp).1 c' d h.rg.lt q d1).2
   rw[hc,d3 (by omega)]at this;cases this
 ·omega
end
end Go.Proofs.YtpbahncblggodaaGreat
set_option linter.all false
namespace Go.Proofs.YtpbahncblggodaaGreat
open Go Go.Am
set_option maxRecDepth 100000
def nW(i k:Nat)(c:Int)(l:cQ):Bool:=decide (l.part=(i:Int))&&(decide (l.eK=(k:Int))&&decide (l.kind=c))
def QE(X:List cQ)(i k:Nat)(c:Int):Prop:= ∀l∈X,nW i k c l=false
theorem Cp{i k:Nat}{c:Int}{l:cQ}:nW i k c l=true↔l.part=(i:Int)/\l.eK=(k:Int)/\l.kind=c:=by simp[nW]
structure Wr (P:List (List bV)) (a:bK) (sh:Int) (s:dR) (i k:Nat) (x:bV) (p:bn):Prop where
 pl:p∈(eD a (wr (x.bW+sh))).1
 n1:QE s.cX i k 1
 n2:(Twin P s.dp i x p/\(⟨(i:Int),(k:Int),2,x.bX⟩:cQ)∈s.cX)\/(¬Twin P s.dp i x p/\QE s.cX i k 2)
 st: ∃(e:Nat)(t:cT),fA s.bM.bG e t/\t.bc=p.bc/\t.ct=p.ct/\x.bX=(iD s.bM.bG e:Int)/\
  ((QE s.cX i k 3/\ ∃c,Rg s.bM.bG e p c/\x.dr<=(iD s.bM.bG c:Int))\/ ∃c,Nd s.bM.bG e p c/\(iD s.bM.bG c:Int)<x.dr/\(⟨(i:Int),(k:Int),3,(iD s.bM.bG c:Int)⟩:cQ)∈s.cX)
def Ws(s:dR)(i k:Nat)(x:bV)(p:bn):Prop:=p=⟨0,0⟩/\(⟨(i:Int),(k:Int),1,x.bX⟩:cQ)∈s.cX/\QE s.cX i k 2/\QE s.cX i k 3
section
variable {P:List (List bV)} {a:bK} {sh:Int} {s:dR}
theorem my.SX(h:my P a sh s){i k:Nat}{x:bV}(hx:dO P i k=some x): ∃p,eU s.dp i k=some p/\(Ws s i k x p\/Wr P a sh s i k x p):=by
 obtain⟨T,L,X,ff,Pu,AX,_⟩:=h.set
 have ku:=(jW h.pr).2
 have htk:=oT ku hx
 have hxT:=Pu i k x hx
 obtain⟨p,p1,p2⟩:=ff.fa i k x hx (by omega)
 have jZ: ∀l,l∈s.cX-> ∀c,nW i k c l=true->l∈je X i k:=λl hl c hq=>by
  rw[Cp]at hq
  exact mC.2 ⟨AX.mem_iff.1 hl,by simp[sF,hq.1,hq.2.1]⟩
 have eP: ∀l,l∈je X i k->l∈s.cX:=λl hl=>AX.mem_iff.2 (mC.1 hl).1
 have rh: ∀c,(∀l∈je X i k,l.kind≠c)->QE s.cX i k c:=λc hc l hl=>by
  cases hq:nW i k c l
  ·rfl
  ·exact absurd (Cp.1 hq).2.2 (hc l (jZ l hl c hq))
 refine⟨p,p1,?_⟩
 rcases p2 with⟨rfl,p2⟩|⟨e,D,d1,d2,d3,d4⟩
 ·exact .inl ⟨rfl,eP _ (by rw[p2];simp),rh 2 (by rw[p2];simp),rh 3 (by rw[p2];simp)⟩
 ·right
  have M0: ∀{c c'},c<=c'->c'<=s.bM.bG.length->iD s.bM.bG c<=iD s.bM.bG c':=λ{c c'}h1 h2=>by
   rcases EI c c' with q|q
   ·exact Tj (rN ff.ev q h2)
   ·have:c=c':=by omega
    subst this;exact eu _
  rcases d4 with⟨d4,d5⟩|⟨c,c1,c2,c3⟩
  ·have hr: ∃c,Rg s.bM.bG e p c/\x.dr<=(iD s.bM.bG c:Int):=by
    rcases d5 with⟨n,n1,n2,n3⟩|d5
    ·obtain⟨e0,e1,e2,e3⟩:=(ff.lv n n1).ev
     obtain⟨i',k',x',f1,f2,_,f4,_⟩:=e3 _ n2
     simp at f1
     obtain⟨g1,g2⟩:=f1
     have:i=i':=by omega
     subst this
     have:k=k':=by omega
     subst this
     have:e0=e:=by omega
     subst this
     rw[p1]at f4;cases f4
     exact⟨_,e2,by have:=ff.du;omega⟩
    ·exact d5
   obtain⟨c,c1,c2⟩:=hr
   obtain⟨t,t1,t2,t3⟩:=c1.st
   refine⟨d1,rh 1 ?_,?_,e,t,t1,t2,t3,d2.symm,.inl ⟨rh 3 ?_,c,c1,c2⟩⟩
   ·rw[d4];rcases d3 with⟨rfl,_⟩|⟨rfl,_⟩<;>simp
   ·rcases d3 with⟨rfl,h1⟩|⟨rfl,h1⟩
    ·exact .inr ⟨h1,rh 2 (by rw[d4];simp)⟩
    ·exact .inl ⟨h1,eP _ (by rw[d4];simp)⟩
   ·rw[d4];rcases d3 with⟨rfl,_⟩|⟨rfl,_⟩<;>simp
  ·obtain⟨t,t1,t2,t3⟩:=c1.rg.st
   refine⟨d1,rh 1 ?_,?_,e,t,t1,t2,t3,d2.symm,.inr ⟨c,c1,c2,eP _ (by rw[c3];simp)⟩⟩
   ·rw[c3];rcases d3 with⟨rfl,_⟩|⟨rfl,_⟩<;>simp
   ·rcases d3 with⟨rfl,h1⟩|⟨rfl,h1⟩
    ·exact .inr ⟨h1,rh 2 (by rw[c3];simp)⟩
    ·exact .inl ⟨h1,eP _ (by rw[c3];simp)⟩
theorem my.one(h:my P a sh s){l l':cQ}(h1:l∈s.cX)(h2:l'∈s.cX)(he:kL l=kL l'):l=l':=by
 have hs:=h.srt
 rw[EN]at hs
 obtain⟨i,hi,rfl⟩:=pA h1
 obtain⟨j,hj,rfl⟩:=pA h2
 rcases JR i j with q|q|q
 ·have:=hs i j hi hj q;omega
 ·subst q;rfl
 ·have:=hs j i hj hi q;omega
theorem f136_eq(X:List cQ)(i k:Nat)(c:Int)(hs:bT X):f136 X ⟨(i:Int),(k:Int)⟩ c=some (gu (nW i k c) X):=by
 unfold f136
 rw[dP X (nW i k c) (λi _=>(i:Int)) hs]
 ·simp only[cH,fi,gu]
  cases X.findIdx? _<;>simp
 ·intro j y hy
  simp only[cJ hy,cond_true,b9 hy,cH,f137,nW]
  cases decide (y.part=(i:Int))<;>cases decide (y.eK=(k:Int))<;>cases decide (y.kind=c)<;>rfl
 ·simp
theorem f72_none(A:eF){i k:Nat}{c:Int}(hs:bT A.s.cX)(h:QE A.s.cX i k c):f72 A ⟨(i:Int),(k:Int)⟩ c=some (⟨0,0,0,0⟩,false):=by
 unfold f72
 rw[f136_eq _ _ _ _ hs]
 have:decide (gu (nW i k c) A.s.cX<0)=true:=by
  rw[wU]
  have:A.s.cX.any (nW i k c)=false:=by
   rw[Ny]
   intro l hl
   rw[h l hl];simp
  rw[this];rfl
 simp only[cH,this,cond_true]
theorem f72_some(A:eF){i k:Nat}{c:Int}{l:cQ}(hs:bT A.s.cX)(hl:l∈A.s.cX)(hk:nW i k c l=true)(hu: ∀l'∈A.s.cX,nW i k c l'=true->l'=l):f72 A ⟨(i:Int),(k:Int)⟩ c=some (l,true):=by
 unfold f72
 rw[f136_eq _ _ _ _ hs]
 obtain⟨j,x,e1,e2,e3⟩:=qM (w9.2 ⟨l,hl,hk⟩)
 have:=hu x (gx e2) e3
 subst this
 have c1:decide ((j:Int)<0)=false:=decide_eq_false (by omega)
 simp only[cH,e1,c1,cond_false,b9 e2]
theorem my.f72s(h:my P a sh s)(N:List eg)(B:List Bool){i k:Nat}{c t:Int}(hl:(⟨(i:Int),(k:Int),c,t⟩:cQ)∈s.cX):f72 ⟨P,s,N,B⟩ ⟨(i:Int),(k:Int)⟩ c=some (⟨(i:Int),(k:Int),c,t⟩,true):=
 f72_some _ (by show s.cX.length<=_;have:=h.ll;omega) hl (by simp[nW]) λl' h1 h2=>h.one h1 hl (by
  rw[Cp]at h2
  unfold kL
  rw[h2.1,h2.2.1,h2.2.2])
theorem nX{P:List (List bV)}{i k:Nat}{x:bV}(h:dO P i k=some x): ∃p,P[i]? =some p/\p[k]? =some x:=by
 unfold dO at h
 cases hp:P[i]? with
 |none=>rw[hp]at h;simp at h
 |some p=>rw[hp]at h;exact⟨p,rfl,by simpa using h⟩
theorem qU{W:List (List bn)}{i k:Nat}{p:bn}(h:eU W i k=some p): ∃w,W[i]? =some w/\w[k]? =some p:=by
 unfold eU at h
 cases hp:W[i]? with
 |none=>rw[hp]at h;simp at h
 |some w=>rw[hp]at h;exact⟨w,rfl,by simpa using h⟩
theorem Cq{P:List (List bV)}{i k:Nat}{p:List bV}{x:bV}(h1:P[i]? =some p)(h2:p[k]? =some x):dO P i k=some x:=by unfold dO;rw[h1];exact h2
theorem aah{n i:Nat}(h:i<n)(hn:n<=4194304):wr ((i:Int)+1)=((i+1:Nat):Int):=gP (by omega)
theorem f132_y(h:my P a sh s)(N:List eg)(B:List Bool){i k:Nat}{x:bV}{p:bn}(hx:dO P i k=some x)(hp:eU s.dp i k=some p)(h0:1<=p.bc): ∃b,f132 ⟨P,s,N,B⟩ ⟨(i:Int),(k:Int)⟩=some b/\(b=true↔Twin P s.dp i x p):=by
 obtain⟨XF,ku⟩:=jW h.pr
 obtain⟨q,x1,x2⟩:=nX hx
 obtain⟨w,y1,y2⟩:=qU hp
 have hi:=(fM.1 x1).1
 have Ph:=h.ll
 unfold f132
 simp only[b9 x1,b9 x2,b9 y1,b9 y2,cH]
 refine eO (λl(z:Int)=>z=(l:Int)/\ ∀(i' k':Nat)x',i'<l->dO P i' k'=some x'->x'.bX=x.bX->eU s.dp i' k'≠some p) (λr=>match r with
  |.inl _=> ¬Twin P s.dp i x p
  |.inr b=>b=true/\Twin P s.dp i x p) i (by omega) ⟨rfl,λi' k' x' h=>by omega⟩ ?_ ?_ ?_
 ·rintro l _ hl ⟨rfl,hq⟩
  have z1:P[l]? =some (P[l]'(by omega)):=dC _
  have T1:=(ku _ (zo (by omega:l<P.length))).1
  generalize P[l]'(by omega)=q' at z1 T1
  have c1:decide ((l:Int)<(i:Int))=true:=decide_eq_true (by omega)
  simp only[c1,cond_true,b9 z1,cH,aah hl (by omega)]
  have row: ∃r,bY (σ:=Int) (τ:=(Unit⊕(Int⊕(Unit⊕Bool)))) (λ(Ef:Int)=>bif (decide (Ef<(q'.length:Int)))then((((ix q' Ef).bind λy8=>((bif (decide (y8.bX≠x.bX))then(some true)else((ix s.dp (l:Int)).bind λy10=>(ix y10 Ef).bind λy11=>some (!(gK y11 p)))):Option Bool).bind λ(Wt:Bool)=>bif Wt then(some (.inl ()))else((f72 ⟨P,s,N,B⟩ (⟨(l:Int),Ef⟩:b8) 1).bind λr13=>bif (!r13.2)then(some (.inr (.inr (.inr (.inr (.inr true))))))else(some (.inl ())))):Option (Unit⊕(Int⊕(Unit⊕(Int⊕(Unit⊕Bool)))))).bind (Sum.elim (λ(_:Unit)=>some (.inl (wr (Ef+1)))) some))else(some (.inr (.inl ())))) cy 0=some r/\
    ((r=.inl ()/\ ∀(k':Nat)x',q'[k']? =some x'->x'.bX=x.bX->eU s.dp l k'≠some p)\/(r=.inr (.inr (.inr true))/\Twin P s.dp i x p)):=by
   refine jJ (λj(z:Int)=>z=(j:Int)/\ ∀(k':Nat)x',k'<j->q'[k']? =some x'->x'.bX=x.bX->eU s.dp l k'≠some p) _ q'.length (by omega) ⟨rfl,λk' x' h=>by omega⟩ ?_ ?_
   ·rintro j _ hj ⟨rfl,hr⟩
    have v1:q'[j]? =some (q'[j]'hj):=dC _
    generalize q'[j]'hj=x' at v1
    have ht:=Cq z1 v1
    obtain⟨p',p1,p2⟩:=h.SX ht
    obtain⟨w',w1,w2⟩:=qU p1
    simp only[cJ v1,cond_true,b9 v1,b9 w1,b9 w2,cH,dB (l:=q') (by simp only[bT];omega) v1]
    by_cases hf:x'.bX=x.bX
    ·simp only[hf,ne_eq,not_true_eq_false,decide_false,cond_false,cH,D3]
     by_cases IZ:p'=p
     ·subst IZ
      rcases p2 with⟨p2,_⟩|p2
      ·rw[p2]at h0;simp at h0
      ·rw[f72_none _ (by show s.cX.length<=_;omega) p2.n1]
       simp only[decide_true,oe,cond_false,cH,E7,cond_true]
       exact .inr ⟨_,rfl,.inr ⟨rfl,l,j,x',hl,ht,hf,p1⟩⟩
     ·simp only[IZ,decide_false,E7,cond_true,cH]
      refine .inl ⟨_,rfl,rfl,λk' x'' hk xU sR=>?_⟩
      by_cases hkj:k'=j
      ·subst hkj;rw[p1];exactλh=>IZ (Option.some.inj h)
      ·exact hr k' x'' (by omega) xU sR
    ·simp only[hf,ne_eq,not_false_eq_true,decide_true,cond_true,cH]
     refine .inl ⟨_,rfl,rfl,λk' x'' hk xU sR=>?_⟩
     by_cases hkj:k'=j
     ·subst hkj;rw[v1]at xU;cases xU;exact absurd sR hf
     ·exact hr k' x'' (by omega) xU sR
   ·rintro _ ⟨rfl,hr⟩
    simp only[kF,decide_false,cond_false]
    exact⟨_,rfl,.inl ⟨rfl,λk' x' pp sR=>hr k' x' (fM.1 pp).1 pp sR⟩⟩
  obtain⟨r,r1,r2⟩:=row
  rw[r1]
  rcases r2 with⟨rfl,r2⟩|⟨rfl,r2⟩
  ·refine .inl ⟨_,rfl,rfl,λi' k' x' rX pp sR=>?_⟩
   by_cases hii:i'=l
   ·subst hii
    obtain⟨q'',g1,g2⟩:=nX pp
    rw[z1]at g1;cases g1
    exact r2 k' x' g2 sR
   ·exact hq i' k' x' (by omega) pp sR
  ·exact .inr ⟨_,rfl,rfl,r2⟩
 ·rintro _ ⟨rfl,hq⟩
  simp only[kF,decide_false,cond_false]
  exact⟨_,rfl,λ⟨i',k',x',t1,t2,t3,t4⟩=>hq i' k' x' t1 t2 t3 t4⟩
 ·intro r hr
  cases r with
  |inl u=>exact⟨_,rfl,by simpa using hr⟩
  |inr b=>
   obtain⟨rfl,h2⟩:=hr
   exact⟨_,rfl,by simpa using h2⟩
def uo(p:dL)(N:List eg):Prop:=N.length=(stM p.bG p.bG.length).length/\
 ∀(m e:Nat)s,(stM p.bG p.bG.length)[m]? =some (e,s)-> ∃c,yO p.bG e s c/\N[m]? =some (lP p.instrument p.bG e s c)
theorem M9{E:List cg}{e:Nat}{t:cT}(h:fA E e t): ∃m:Nat,(stM E E.length)[m]? =some (e,t):=by
 obtain⟨m,hm,he⟩:=pA ((jt (x:=(e,t))).2 ⟨h.lt,h⟩)
 exact⟨m,by rw[dC hm,he]⟩
theorem uq(h:my P a sh s){N:List eg}(hN:uo s.bM N){m e:Nat}{t:cT}(hm:(stM s.bM.bG s.bM.bG.length)[m]? =some (e,t)){j:Nat}{y:eg}(hy:N[j]? =some y)(h1:y.bX=(iD s.bM.bG e:Int))(h2:y.bc=t.bc):j=m:=by
 obtain⟨T,L,X,ff,_⟩:=h.set
 have hj:=(fM.1 hy).1
 have ej:(stM s.bM.bG s.bM.bG.length)[j]? =some ((stM s.bM.bG s.bM.bG.length)[j]'(by rw[<-hN.1];exact hj)):=dC _
 generalize(stM s.bM.bG s.bM.bG.length)[j]'(by rw[<-hN.1];exact hj)=z at ej
 obtain⟨e',t'⟩:=z
 obtain⟨c,_,c2⟩:=hN.2 j e' t' ej
 rw[hy]at c2;cases c2
 have m1:=jt.1 (gx hm)
 have m2:=jt.1 (gx ej)
 have m1l:=m1.1
 have m2l:=m2.1
 have h1:((iD s.bM.bG e':Nat):Int)=(iD s.bM.bG e:Int):=h1
 have he:e'=e:=MR ff.ev (Tj m2l) (Tj m1l) (by omega)
 subst he
 have h2:t'.bc=t.bc:=h2
 have ht:=ff.ev.one m2.2 m1.2 h2
 subst ht
 have hp:=Ij ff.ev s.bM.bG.length
 rw[EN]at hp
 obtain⟨i1,i2⟩:=fM.1 hm
 obtain⟨j1,j2⟩:=fM.1 ej
 rcases JR j m with c|c|c
 ·have:=hp j m j1 i1 c
  rw[i2,j2]at this;simp at this
 ·exact c
 ·have:=hp m j i1 j1 c
  rw[i2,j2]at this;simp at this
theorem f194_y(h:my P a sh s){N:List eg}(hN:uo s.bM N)(B:List Bool){x:bV}{p:bn}{m e:Nat}{t:cT}(hm:(stM s.bM.bG s.bM.bG.length)[m]? =some (e,t))(h1:x.bX=(iD s.bM.bG e:Int))(h2:t.bc=p.bc)(h3:t.ct=p.ct)
  (h4:p∈(eD a (wr (x.bW+sh))).1):f194 N x p ⟨P,s,N,B⟩=some (m:Int):=by
 obtain⟨T,L,X,ff,_⟩:=h.set
 obtain⟨c,_,c2⟩:=hN.2 m e t hm
 have hNl:N.length<=5600:=by have:=um ff.ev s.bM.bG.length;have:=h.el;have:=hN.1;omega
 have SY:Gq s.bM.instrument t=wr (x.bW+sh):=by
  unfold Gq
  rw[show(⟨t.bc,t.ct⟩:bn)=p by rw[h2,h3],h.ai,f25_y h4];rfl
 unfold f194
 rw[dP N (λy=>decide (y.bX=x.bX)&&(decide (y.bc=p.bc)&&decide (y.bW=wr (x.bW+s.shift)))) (λi _=>(i:Int)) (by simp only[bT];omega)]
 ·have rj:=D9 (p:=λy:eg=>decide (y.bX=x.bX)&&(decide (y.bc=p.bc)&&decide (y.bW=wr (x.bW+s.shift)))) c2 (by simp[lP,SY,h.si,h1,h2]) λj y hy hq=>by
   simp at hq
   exact uq h hN hm hy (by rw[hq.1,h1]) (by rw[hq.2.1,h2])
  simp only[cH,fi]
  unfold gu at rj
  cases hf:N.findIdx? (λy=>decide (y.bX=x.bX)&&(decide (y.bc=p.bc)&&decide (y.bW=wr (x.bW+s.shift))))with
  |none=>rw[hf]at rj;simp at rj
  |some j=>rw[hf]at rj;simp at rj;simp[rj]
 ·intro j y hy
  simp only[cJ hy,cond_true,b9 hy,cH,f195]
  cases decide (y.bX=x.bX)<;>cases decide (y.bc=p.bc)<;>cases decide (y.bW=wr (x.bW+s.shift))<;>rfl
 ·simp
theorem f68_y(h:my P a sh s){N:List eg}(hN:uo s.bM N)(B:List Bool)(hB:B.length=N.length){i k:Nat}{x:bV}(hx:dO P i k=some x):
  ∃B',f68 ⟨P,s,N,B⟩ ⟨(i:Int),(k:Int)⟩=some (true,B')/\B'.length=B.length/\(∀m:Nat,B[m]? =some true->B'[m]? =some true)/\
   ∀(m e:Nat)t,(stM s.bM.bG s.bM.bG.length)[m]? =some (e,t)->eU s.dp i k=some ⟨t.bc,t.ct⟩->x.bX=(iD s.bM.bG e:Int)->B'[m]? =some true:=by
 obtain⟨T,L,X,ff,_⟩:=h.set
 have Ph:=h.ll
 have zO:bT s.cX:=by simp only[bT];omega
 obtain⟨q,x1,x2⟩:=nX hx
 obtain⟨p,p1,p2⟩:=h.SX hx
 obtain⟨w,y1,y2⟩:=qU p1
 unfold f68
 rcases p2 with⟨rfl,d1,d2,d3⟩|sO
 ·have e1:=h.f72s N B d1
  have e2:f131 ⟨P,s,N,B⟩ ⟨(i:Int),(k:Int)⟩ ⟨(i:Int),(k:Int),1,x.bX⟩=some true:=by
   unfold f131
   rw[f72_none _ zO d2,f72_none _ zO d3]
   simp only[cH,E7,cond_true,b9 x1,b9 x2,b9 y1,b9 y2,decide_true]
   rfl
  simp only[e1,cH,cond_true,e2]
  refine⟨B,rfl,rfl,λm hm=>hm,λm e t hm hp _=>?_⟩
  have hs:=(jt.1 (gx hm)).2
  obtain⟨q',V3⟩:=(ff.ev.st e t hs).pl
  have h1:=(gQ V3).2.1
  rw[p1]at hp
  have:=Option.some.inj hp
  simp at this h1
  omega
 ·have O5:=(gQ sO.pl).2.1
  obtain⟨e,t,s1,s2,s3,s4,s5⟩:=sO.st
  obtain⟨m,hm⟩:=M9 s1
  obtain⟨c,c1,c2⟩:=hN.2 m e t hm
  have NE:=(fM.1 c2).1
  obtain⟨b,b1,b2⟩:=f132_y h N B hx p1 O5
  have e2: ∃r4,f72 ⟨P,s,N,B⟩ ⟨(i:Int),(k:Int)⟩ 2=some r4/\(!(r4.2==b))=false/\(r4.2=true->r4.1.time=x.bX):=by
   rcases sO.n2 with⟨n1,n2⟩|⟨n1,n2⟩
   ·refine⟨_,h.f72s N B n2,?_,λ_=>rfl⟩
    rw[b2.2 n1];rfl
   ·refine⟨_,f72_none _ zO n2,?_,λh=>by simp at h⟩
    have:b=false:=by
     cases b
     ·rfl
     ·exact absurd (b2.1 rfl) n1
    rw[this];rfl
  obtain⟨r4,r1,r2,r3⟩:=e2
  have e3:(bif r4.2 then(some (decide (r4.1.time≠x.bX)))else some false)=some false:=by
   cases hr:r4.2
   ·rfl
   ·have:=r3 hr
    simp[this]
  have e4:f193 s.bM.instrument p (wr (x.bW+s.shift))=some true:=by
   unfold f193
   rw[h.ai,h.si,f25_y sO.pl]
   simp
  have e5:=f194_y h hN B hm s4 s2 s3 sO.pl
  have e6:B[m]? =some (B[m]'(by omega)):=dC _
  have c3:decide ((m:Int)<0)=false:=decide_eq_false (by omega)
  have e7:f133 ⟨P,s,N,B⟩ ⟨(i:Int),(k:Int)⟩=some (true,B.set m true):=by
   unfold f133
   simp only[b9 x1,b9 x2,b9 y1,b9 y2,cH,e4,oe,cond_false,e5,c3,b9 e6,b9 c2,nv]
   rcases s5 with⟨n3,c',r5,r6⟩|⟨c',r5,r6,r7⟩
   ·rw[f72_none ⟨P,s,N,B.set m true⟩ zO n3]
    have:=r5.Gr c1 s1 s2 s3
    have ep:x.dr<=(iD s.bM.bG c:Int):=by
     rcases EI c' c with q|q
     ·have:=rN ff.ev q c1.le;omega
     ·have:c'=c:=by omega
      subst this;exact r6
    have:decide (x.dr<=(lP s.bM.instrument s.bM.bG e t c).dr)=true:=decide_eq_true ep
    simp only[cH,cond_false,this]
   ·rw[h.f72s N (B.set m true) r7]
    have:=r5.M8 c1 s1 s2 s3
    subst this
    have:decide ((iD s.bM.bG c':Int)<x.dr)=true:=decide_eq_true r6
    simp only[cH,cond_true,this]
    simp[lP]
  rw[f72_none ⟨P,s,N,B⟩ zO sO.n1]
  simp only[cH,cond_false,r1,b1,r2,b9 x1,b9 x2,e3,e7]
  refine⟨_,rfl,by simp,λm' nr=>?_,λm' e' t' nr CI sR=>?_⟩
  ·by_cases hq:m=m'
   ·subst hq;exact GI (by omega)
   ·rw[EM hq];exact nr
  ·rw[p1]at CI
   have CI:=Option.some.inj CI
   obtain⟨c',_,c4⟩:=hN.2 m' e' t' nr
   have:m'=m:=uq h hN hm c4 (by show(iD s.bM.bG e':Int)=_;omega) (by show t'.bc=_;rw[s2,CI])
   subst this
   exact GI (by omega)
theorem f67_y(h:my P a sh s)(N:List eg)(B:List Bool):f67 ⟨P,s,N,B⟩=some true:=by
 have key: ∃r,f67 ⟨P,s,N,B⟩=some r/\r=true:=by
  obtain⟨T,L,X,ff,_,AX,_⟩:=h.set
  obtain⟨XF,ku⟩:=jW h.pr
  have Ph:=h.ll
  unfold f67
  refine eO (λk(z:Int)=>z=(k:Int)) (λr=>r=.inl ()) s.cX.length (by omega) rfl ?_ ?_ ?_
  ·rintro k _ hk rfl
   have e1:s.cX[k]? =some (s.cX[k]'hk):=dC _
   have hl:=zo hk
   have Xx:=h.lk _ hl
   obtain⟨i,j,x,l1,l2,l3,_⟩:=ff.lo _ (AX.mem_iff.1 hl)
   obtain⟨q,x1,x2⟩:=nX l3
   have hi:=(fM.1 x1).1
   have hj:=(fM.1 x2).1
   have T1:=(ku q (gx x1)).1
   have Wu:=h.srt
   rw[EN]at Wu
   have Wv: ∀k',k'+1=k-> ∃l',s.cX[k']? =some l'/\f51 l' (s.cX[k]'hk)=some (-1):=λk' kX=>by
    have e2:s.cX[k']? =some (s.cX[k']'(by omega)):=dC _
    refine⟨_,e2,?_⟩
    have hb:=h.lk _ (zo (by omega:k'<s.cX.length))
    rw[f51_key (by omega) (by omega)]
    have:=Wu k' k (by omega) hk (by omega)
    simp[pu,this]
   generalize s.cX[k]'hk=l at e1 Xx l1 l2 Wv
   have w1:wr ((P.length:Int)-1)=(P.length:Int)-1:=jd (by omega) (by omega)
   have w2:wr ((q.length:Int)-1)=(q.length:Int)-1:=jd (by omega) (by omega)
   have r1:oL l.part 0 ((P.length:Int)-1)=true:=by simp[oL];omega
   have r2:oL l.eK 0 ((q.length:Int)-1)=true:=by simp[oL];omega
   have r3:oL l.kind 1 3=true:=by simp[oL];omega
   have ixp:ix P l.part=some q:=by rw[l1];exact b9 x1
   simp only[cJ e1,cond_true,b9 e1,cH,f40_eq,w1,r1,ixp,w2,r2,r3,oe,cond_false,dB (l:=s.cX) (by simp only[bT];omega) e1]
   by_cases Sp:k=0
   ·subst Sp
    exact .inl ⟨_,rfl,rfl⟩
   ·obtain⟨l',g1,g2⟩:=Wv (k-1) (by omega)
    have c1:decide ((0:Int)<(k:Int))=true:=decide_eq_true (by omega)
    have w3:wr ((k:Int)-1)=((k-1:Nat):Int):=by rw[jd (by omega) (by omega)];omega
    have c2:decide ((0:Int)<= -1)=false:=rfl
    simp only[c1,cond_true,w3,b9 g1,cH,g2,c2,cond_false]
    exact .inl ⟨_,rfl,rfl⟩
  ·rintro _ rfl
   simp only[kF,decide_false,cond_false]
   exact⟨_,rfl,rfl⟩
  ·rintro _ rfl
   exact⟨_,rfl,rfl⟩
 obtain⟨r,h1,rfl⟩:=key
 exact h1
theorem f69_all(B:List Bool)(hs:bT B)(h: ∀(m:Nat)b,B[m]? =some b->b=true):f69 B false=some false:=by
 unfold f69 f134
 rw[dP B (λb=>false==b) (λi _=>(i:Int)) hs]
 ·have:B.findIdx? (λb=>false==b)=none:=by
   rw[WS]
   intro b hb
   obtain⟨m,hm,rfl⟩:=pA hb
   rw[h m _ (dC hm)];rfl
  simp only[cH,fi,this]
  rfl
 ·intro j y hy
  simp only[cJ hy,cond_true,b9 hy,cH]
  cases(false==y)<;>rfl
 ·simp
theorem f23_y(h:my P a sh s):f23 P s=some 0:=by
 have key: ∃r,f23 P s=some r/\r=0:=by
  obtain⟨T,L,X,ff,Pu,AX,_⟩:=h.set
  obtain⟨XF,ku⟩:=jW h.pr
  have Fp:kC s.bM.instrument s.bM.bG:=by rw[h.ai];exact ff.ev
  have td:instS s.bM.instrument=0:=by rw[h.ai];exact h.ins
  obtain⟨N,n1,n2⟩:=f22_y s.bM td Fp h.el
  have hN:uo s.bM N:=n2
  have hNl:N.length<=5600:=by have:=um ff.ev s.bM.bG.length;have:=h.el;have:=hN.1;omega
  have Vd:s.dp.length=P.length:=by have:=congrArg List.length ff.ws;simpa using this
  have hr:oL s.shift (-24) 24=true:=by have:=h.shr;rw[h.si];simp[oL];omega
  have cw:decide ((s.dp.length:Int)≠(P.length:Int))=false:=by rw[Vd];simp
  unfold f23
  rw[f28_eq P (by simp only[bT];omega),h.pr,f66_y s.bM td Fp h.el,f40_eq,hr]
  simp only[cH,ne_eq,not_true_eq_false,decide_false,cond_false,oe,cw]
  refine eO (λk(z:Int)=>z=(k:Int)) (λr=>r=.inl ()) P.length (by omega) rfl ?_ ?_ ?_
  ·rintro k _ hk rfl
   have e1:P[k]? =some (P[k]'hk):=dC _
   have e2:s.dp[k]? =some (s.dp[k]'(by omega)):=dC _
   generalize P[k]'hk=q at e1
   generalize s.dp[k]'(by omega)=w at e2
   have dt:w.length=q.length:=by
    have:=congrArg (·[k]?) ff.ws
    simp only[sK,e1,e2,gl]at this
    exact Option.some.inj this
   have c1:decide (¬(w.length:Int)=(q.length:Int))=false:=by rw[dt];simp
   simp only[cJ e1,cond_true,b9 e1,b9 e2,cH,c1,cond_false,dB (l:=P) (by simp only[bT];omega) e1]
   exact .inl ⟨_,rfl,rfl⟩
  ·rintro _ rfl
   simp only[kF,decide_false,cond_false]
   exact⟨_,rfl,rfl⟩
  rintro _ rfl
  have m1:(0:Int)<=(N.length:Int):=by omega
  have m2:(N.length:Int)<=(bJ:Int):=by unfold bJ;omega
  simp only[vp,n1,cH,not_true_eq_false,decide_false,cond_false,de m1,de m2,nv,f67_y h,oe]
  refine eO (λi(z:List Bool×Int)=>z.2=(i:Int)/\z.1.length=N.length/\ ∀(m e:Nat)t,(stM s.bM.bG s.bM.bG.length)[m]? =some (e,t)->(∃(i' k':Nat)(x':bV),i'<i/\dO P i' k'=some x'/\eU s.dp i' k'=some ⟨t.bc,t.ct⟩/\x'.bX=(iD s.bM.bG e:Int))->z.1[m]? =some true)
   (λr=> ∃B,r=.inl B/\B.length=N.length/\ ∀(m:Nat)b,B[m]? =some b->b=true) P.length (by omega) ⟨rfl,by simp,λm e t _ ⟨i',_,_,h,_⟩=>by omega⟩ ?_ ?_ ?_
  ·rintro i ⟨B,_⟩ hi ⟨e0,b1,b2⟩
   simp only at e0 b1 b2
   subst e0
   have e1:P[i]? =some (P[i]'hi):=dC _
   have T1:=(ku _ (zo hi)).1
   generalize P[i]'hi=q at e1 T1
   simp only[cJ e1,cond_true,b9 e1,cH,dB (l:=P) (by simp only[bT];omega) e1]
   refine .inl (AU (λk(z:List Bool×Int)=>z.2=(k:Int)/\z.1.length=N.length/\ ∀(m e:Nat)t,(stM s.bM.bG s.bM.bG.length)[m]? =some (e,t)->(∃(i' k':Nat)(x':bV),(i'<i\/i'=i/\k'<k)/\dO P i' k'=some x'/\eU s.dp i' k'=some ⟨t.bc,t.ct⟩/\x'.bX=(iD s.bM.bG e:Int))->z.1[m]? =some true)
    (λr=> ∃B',r=.inl B'/\B'.length=N.length/\ ∀(m e:Nat)t,(stM s.bM.bG s.bM.bG.length)[m]? =some (e,t)->(∃(i' k':Nat)(x':bV),i'<i+1/\dO P i' k'=some x'/\eU s.dp i' k'=some ⟨t.bc,t.ct⟩/\x'.bX=(iD s.bM.bG e:Int))->B'[m]? =some true) q.length (by omega) ⟨rfl,b1,λm e t hm ⟨i',k',x',h1,h2⟩=>b2 m e t hm ⟨i',k',x',by omega,h2⟩⟩ ?_ ?_ ?_)
   ·rintro k ⟨B1,_⟩ hk ⟨f0,f1,f2⟩
    simp only at f0 f1 f2
    subst f0
    have y1:q[k]? =some (q[k]'hk):=dC _
    generalize q[k]'hk=x at y1
    have hx:=Cq e1 y1
    obtain⟨B',g1,g2,g3,g4⟩:=f68_y h hN B1 f1 hx
    simp only[cJ y1,cond_true,g1,cH,oe,cond_false,dB (l:=q) (by simp only[bT];omega) y1]
    refine .inl ⟨_,rfl,rfl,by rw[g2];exact f1,λm e t hm ⟨i',k',x',h1,h2,h3,h4⟩=>?_⟩
    by_cases hc:i'=i/\k'=k
    ·obtain⟨rfl,rfl⟩:=hc
     rw[hx]at h2;cases h2
     exact g4 m e t hm h3 h4
    ·exact g3 m (f2 m e t hm ⟨i',k',x',by omega,h2,h3,h4⟩)
   ·rintro⟨B1,_⟩ ⟨f0,f1,f2⟩
    simp only at f0 f1 f2
    subst f0
    simp only[kF,decide_false,cond_false]
    refine⟨_,rfl,B1,rfl,f1,λm e t hm ⟨i',k',x',h1,h2,h3⟩=>f2 m e t hm ⟨i',k',x',?_,h2,h3⟩⟩
    by_cases hc:i'=i
    ·subst hc
     obtain⟨q',y1,y2⟩:=nX h2
     rw[e1]at y1;cases y1
     exact .inr ⟨rfl,(fM.1 y2).1⟩
    ·exact .inl (by omega)
   ·rintro _ ⟨B',rfl,f1,f2⟩
    exact⟨_,rfl,rfl,f1,f2⟩
  ·rintro⟨B,_⟩ ⟨e0,b1,b2⟩
   simp only at e0 b1 b2
   subst e0
   simp only[kF,decide_false,cond_false]
   refine⟨_,rfl,B,rfl,b1,λm b hb=>?_⟩
   have hm:=(fM.1 hb).1
   have em:(stM s.bM.bG s.bM.bG.length)[m]? =some ((stM s.bM.bG s.bM.bG.length)[m]'(by rw[<-hN.1];omega)):=dC _
   generalize(stM s.bM.bG s.bM.bG.length)[m]'(by rw[<-hN.1];omega)=z at em
   obtain⟨e,t⟩:=z
   obtain⟨i',k',x',h1,h2,h3⟩:=ff.sp e t (jt.1 (gx em)).2
   have:=b2 m e t em ⟨i',k',x',(oT ku h1).2.2.2.2.2.2,h1,h3,h2⟩
   rw[hb]at this;exact Option.some.inj this
  rintro _ ⟨B,rfl,b1,b2⟩
  simp only[vp,f69_all B (by simp only[bT];omega) b2,cH,cond_false]
  exact⟨_,rfl,rfl⟩
 obtain⟨r,h1,rfl⟩:=key
 exact h1
end
end Go.Proofs.YtpbahncblggodaaGreat
set_option linter.all false
namespace Go.Proofs.YtpbahncblggodaaGreat
open Go Go.Am
set_option maxRecDepth 100000
theorem f9_4(j:fY)(hs:bT j.cu): ∃b,f9 j=some b/\(b=false->sx j.cu j.instrument=0->j.cu.length<=4):=by
 obtain⟨b,h1,_⟩:=f9_ex j hs
 refine⟨b,h1,λhb h2=>?_⟩
 subst hb
 rcases EI 4 j.cu.length with c|c
 ·exfalso
  obtain⟨p1,p2⟩:=DT h2
  have c1:decide (4<(j.cu.length:Int))=true:=decide_eq_true (by omega)
  have:f9 j=some true:=by
   unfold f9
   rw[f33_eq _ hs,f15_eq]
   simp only[p1,p2,cH,ne_eq,not_true_eq_false,decide_false,cond_false,c1,cond_true]
  rw[this]at h1;cases h1
 ·exact c
theorem f24_find(X:List cQ)(i k:Nat)(c:Int)(hs:bT X):f24 X (i:Int) (k:Int) c=some (match X.find? (nW i k c)with
  |some l=>(l,true)
  |none=>(⟨0,0,0,0⟩,false)):=by
 unfold f24
 rw[dP X (nW i k c) (λ_ y=>(y,true)) hs]
 ·simp only[cH,jK]
  cases X.find? (nW i k c)<;>rfl
 ·intro j y hy
  simp only[cJ hy,cond_true,b9 hy,cH,nW]
  cases decide (y.part=(i:Int))<;>cases decide (y.eK=(k:Int))<;>cases decide (y.kind=c)<;>rfl
 ·simp
section
variable {P:List (List bV)} {a:bK} {sh:Int} {s:dR}
theorem f24_none{i k:Nat}{c:Int}(hs:bT s.cX)(h:QE s.cX i k c):f24 s.cX (i:Int) (k:Int) c=some (⟨0,0,0,0⟩,false):=by
 rw[f24_find _ _ _ _ hs]
 have:s.cX.find? (nW i k c)=none:=by
  rw[Ya]
  intro l hl
  rw[h l hl];simp
 rw[this]
theorem my.f24s(h:my P a sh s){i k:Nat}{c t:Int}(hl:(⟨(i:Int),(k:Int),c,t⟩:cQ)∈s.cX):f24 s.cX (i:Int) (k:Int) c=some (⟨(i:Int),(k:Int),c,t⟩,true):=by
 rw[f24_find _ _ _ _ (by simp only[bT];have:=h.ll;omega)]
 cases hf:s.cX.find? (nW i k c)with
 |none=>
  rw[Ya]at hf
  exact absurd (by simp[nW]) (hf _ hl)
 |some l=>
  have h1:=List.find?_some hf
  have h2:=List.mem_of_find?_eq_some hf
  rw[Cp]at h1
  rw[h.one h2 hl (by unfold kL;rw[h1.1,h1.2.1,h1.2.2])]
theorem Ww{E:List cg}(h:kC a E){c c':Nat}(h1:c<=c')(h2:c'<=E.length):iD E c<=iD E c':=by
 rcases EI c c' with q|q
 ·exact Tj (rN h q h2)
 ·have:c=c':=by omega
  subst this;exact eu _
theorem f6_y(j:fY)(hs:bT j.cu):f6 j=some true:=by
 have key: ∃b,f6 j=some b/\b=true:=by
  unfold f6
  obtain⟨b,b1,b2⟩:=f9_4 j hs
  rw[b1]
  cases b
  case true=>simp only[cH,cond_true,f10_eq];exact⟨_,rfl,rfl⟩
  obtain⟨r,r1,r2⟩:=f11_gen j.cu j.instrument j.hand j.shift hs (b2 rfl)
  simp only[cH,cond_false,r1]
  by_cases hr:r.2=0
  case neg=>simp only[ne_eq,hr,not_false_eq_true,decide_true,cond_true,f10_eq,cH];exact⟨_,rfl,rfl⟩
  have h:=r2 hr
  simp only[ne_eq,hr,not_true_eq_false,decide_false,cond_false]
  generalize r.1=s at h
  obtain⟨T,L,X,ff,Pu,AX,_⟩:=h.set
  obtain⟨XF,ku⟩:=jW h.pr
  have Fp:kC s.bM.instrument s.bM.bG:=by rw[h.ai];exact ff.ev
  have td:instS s.bM.instrument=0:=by rw[h.ai];exact h.ins
  obtain⟨N,n1,n2⟩:=f22_y s.bM td Fp h.el
  have hN:uo s.bM N:=n2
  have hNl:N.length<=5600:=by have:=um ff.ev s.bM.bG.length;have:=h.el;have:=hN.1;omega
  have Vd:s.dp.length=j.cu.length:=by have:=congrArg List.length ff.ws;simpa using this
  have Ph:=h.ll
  have zO:bT s.cX:=by simp only[bT];omega
  have cw:decide (¬(s.dp.length:Int)=(j.cu.length:Int))=false:=by rw[Vd];simp
  have m1:(0:Int)<=(N.length:Int):=by omega
  have m2:(N.length:Int)<=(bJ:Int):=by unfold bJ;omega
  simp only[n1,cH,not_true_eq_false,decide_false,cond_false,f23_y h,cw,de m1,de m2,nv]
  refine eO (λi(z:List Bool×Int)=>z.2=(i:Int)/\z.1.length=N.length/\ ∀(m e:Nat)t,(stM s.bM.bG s.bM.bG.length)[m]? =some (e,t)->(∃(i' k':Nat)(x':bV),i'<i/\dO j.cu i' k'=some x'/\eU s.dp i' k'=some ⟨t.bc,t.ct⟩/\x'.bX=(iD s.bM.bG e:Int))->z.1[m]? =some true)
   (λr=> ∃B,r=.inl B/\B.length=N.length/\ ∀(m:Nat)b,B[m]? =some b->b=true) j.cu.length hs ⟨rfl,by simp,λm e t _ ⟨i',_,_,h,_⟩=>by omega⟩ ?_ ?_ ?_
  ·rintro i ⟨B,_⟩ hi ⟨e0,b1,b2⟩
   simp only at e0 b1 b2
   subst e0
   have e1:j.cu[i]? =some (j.cu[i]'hi):=dC _
   have e2:s.dp[i]? =some (s.dp[i]'(by omega)):=dC _
   have T1:=(ku _ (zo hi)).1
   generalize j.cu[i]'hi=q at e1 T1
   generalize s.dp[i]'(by omega)=w at e2
   have dt:w.length=q.length:=by
    have:=congrArg (·[i]?) ff.ws
    simp only[sK,e1,e2,gl]at this
    exact Option.some.inj this
   have c1:decide (¬(w.length:Int)=(q.length:Int))=false:=by rw[dt];simp
   simp only[cJ e1,cond_true,b9 e1,b9 e2,cH,c1,cond_false,dB hs e1]
   refine .inl (AU (λk(z:List Bool×Int)=>z.2=(k:Int)/\z.1.length=N.length/\ ∀(m e:Nat)t,(stM s.bM.bG s.bM.bG.length)[m]? =some (e,t)->(∃(i' k':Nat)(x':bV),(i'<i\/i'=i/\k'<k)/\dO j.cu i' k'=some x'/\eU s.dp i' k'=some ⟨t.bc,t.ct⟩/\x'.bX=(iD s.bM.bG e:Int))->z.1[m]? =some true)
    (λr=> ∃B',r=.inl B'/\B'.length=N.length/\ ∀(m e:Nat)t,(stM s.bM.bG s.bM.bG.length)[m]? =some (e,t)->(∃(i' k':Nat)(x':bV),i'<i+1/\dO j.cu i' k'=some x'/\eU s.dp i' k'=some ⟨t.bc,t.ct⟩/\x'.bX=(iD s.bM.bG e:Int))->B'[m]? =some true) q.length (by omega) ⟨rfl,b1,λm e t hm ⟨i',k',x',h1,h2⟩=>b2 m e t hm ⟨i',k',x',by omega,h2⟩⟩ ?_ ?_ ?_)
   ·rintro k ⟨B1,_⟩ hk ⟨f0,f1,f2⟩
    simp only at f0 f1 f2
    subst f0
    have y1:q[k]? =some (q[k]'hk):=dC _
    generalize q[k]'hk=x at y1
    have hx:=Cq e1 y1
    obtain⟨p,p1,p2⟩:=h.SX hx
    obtain⟨w',w1,w2⟩:=qU p1
    rw[e2]at w1;cases w1
    simp only[cJ y1,cond_true,b9 y1,cH,dB (l:=q) (by simp only[bT];omega) y1]
    have keep: ∀B2:List Bool,B2.length=N.length->(∀m:Nat,B1[m]? =some true->B2[m]? =some true)->(∀(m e:Nat)t,(stM s.bM.bG s.bM.bG.length)[m]? =some (e,t)->p=⟨t.bc,t.ct⟩->x.bX=(iD s.bM.bG e:Int)->B2[m]? =some true)->
      B2.length=N.length/\ ∀(m e:Nat)t,(stM s.bM.bG s.bM.bG.length)[m]? =some (e,t)->(∃(i' k':Nat)(x':bV),(i'<i\/i'=i/\k'<k+1)/\dO j.cu i' k'=some x'/\eU s.dp i' k'=some ⟨t.bc,t.ct⟩/\x'.bX=(iD s.bM.bG e:Int))->B2[m]? =some true:=λB2 g1 g2 g3=>⟨g1,λm e t hm ⟨i',k',x',h1,h2,h3,h4⟩=>by
     by_cases hc:i'=i/\k'=k
     ·obtain⟨rfl,rfl⟩:=hc
      rw[hx]at h2;cases h2
      rw[p1]at h3
      exact g3 m e t hm (Option.some.inj h3) h4
     ·exact g2 m (f2 m e t hm ⟨i',k',x',by omega,h2,h3,h4⟩)⟩
    rcases p2 with⟨rfl,d1,d2,d3⟩|sO
    ·rw[h.f24s d1]
     simp only[cH,cond_true,vp]
     refine .inl ⟨_,rfl,rfl,keep B1 f1 (λm hm=>hm) λm e t hm hp _=>?_⟩
     have Z2:=(jt.1 (gx hm)).2
     obtain⟨q',V3⟩:=(ff.ev.st e t Z2).pl
     have h1:=(gQ V3).2.1
     simp at hp h1
     omega
    ·obtain⟨e,t,s1,s2,s3,s4,s5⟩:=sO.st
     obtain⟨m,hm⟩:=M9 s1
     obtain⟨c,c1,c2⟩:=hN.2 m e t hm
     have NE:=(fM.1 c2).1
     have e4:=f25_y sO.pl
     rw[<-h.ai]at e4
     have SY:Gq s.bM.instrument t=wr (x.bW+j.shift):=by
      unfold Gq
      rw[show(⟨t.bc,t.ct⟩:bn)=p by rw[s2,s3],e4];rfl
     rw[f24_none zO sO.n1]
     simp only[cH,cond_false,b9 w2,e4,not_true_eq_false,decide_false]
     have Jf: ∃EY,f24 s.cX (i:Int) (k:Int) 3=some EY/\((bif (!EY.2)then(bif (decide ((iD s.bM.bG c:Int)<x.dr))then(some true)else(bif EY.2 then(bif (decide (¬(iD s.bM.bG c:Int)=EY.1.time))then(some true)else(some (decide (x.dr<=EY.1.time))))else(some false)))else(bif EY.2 then(bif (decide (¬(iD s.bM.bG c:Int)=EY.1.time))then(some true)else(some (decide (x.dr<=EY.1.time))))else(some false))):Option Bool)=some false:=by
      rcases s5 with⟨n3,c',r5,r6⟩|⟨c',r5,r6,r7⟩
      ·refine⟨_,f24_none zO n3,?_⟩
       have:=Ww ff.ev (r5.Gr c1 s1 s2 s3) c1.le
       have:decide ((iD s.bM.bG c:Int)<x.dr)=false:=decide_eq_false (by omega)
       simp only[E7,cond_true,this,cond_false]
      ·refine⟨_,h.f24s r7,?_⟩
       have:=r5.M8 c1 s1 s2 s3
       subst this
       have:decide (x.dr<=(iD s.bM.bG c':Int))=false:=decide_eq_false (by omega)
       simp only[oe,cond_true,cond_false,not_true_eq_false,decide_false,this]
     obtain⟨EY,g1,g2⟩:=Jf
     simp only[g1,cH]
     have HM: ∃z,bY (σ:=(List Bool×Bool×Int)) (τ:=((List Bool×Bool)⊕((List Bool)⊕((List Bool×Int)⊕((List Bool)⊕((List Bool×Int)⊕((List Bool)⊕Bool))))))) (λ((Py,QF,yQ):(List Bool×Bool×Int))=>bif (decide (yQ<(N.length:Int)))then((((ix N yQ).bind λJ2=>((bif (decide (¬J2.bX=x.bX))then(some true)else(bif (decide (¬J2.bc=p.bc))then(some true)else(some (decide (¬J2.bW=wr (x.bW+j.shift)))))):Option Bool).bind λ(SZ:Bool)=>bif SZ then(some (.inl (Py,QF)))else((ix Py yQ).bind λy32=>((bif (!EY.2)then(bif (decide (J2.dr<x.dr))then(some true)else(bif EY.2 then(bif (decide (¬J2.dr=EY.1.time))then(some true)else(some (decide (x.dr<=EY.1.time))))else(some false)))else(bif EY.2 then(bif (decide (¬J2.dr=EY.1.time))then(some true)else(some (decide (x.dr<=EY.1.time))))else(some false))):Option Bool).bind λ(S0:Bool)=>bif S0 then(some (.inr (.inr (.inr (.inr (.inr (.inr (.inr (.inr false)))))))))else(some (.inl ((Py.set yQ.toNat true),true))))):Option ((List Bool×Bool)⊕((List Bool×Bool×Int)⊕((List Bool×Bool)⊕((List Bool)⊕((List Bool×Int)⊕((List Bool)⊕((List Bool×Int)⊕((List Bool)⊕Bool))))))))).bind (Sum.elim (λ((aai,Wx):(List Bool×Bool))=>some (.inl (aai,Wx,(wr (yQ+1))))) some))else(some (.inr (.inl (Py,QF))))) cy (B1,false,0)=some z/\z=.inl (B1.set m true,true):=by
      refine jJ (λn(z:List Bool×Bool×Int)=>z=(bif decide (m<n)then B1.set m true else B1,decide (m<n),(n:Int))) _ N.length (by omega) (by simp) ?_ ?_
      ·rintro n _ hn rfl
       have v1:N[n]? =some (N[n]'hn):=dC _
       have v2: ∃y,(bif decide (m<n)then B1.set m true else B1)[n]? =some y:=by
        have:n<(bif decide (m<n)then B1.set m true else B1).length:=by cases decide (m<n)<;>simp <;>omega
        exact⟨_,dC this⟩
       obtain⟨y,v2⟩:=v2
       have Wy:(N[n]'hn).bX=x.bX->(N[n]'hn).bc=p.bc->n=m:=λq1 q2=>uq h hN hm v1 (by omega) (by omega)
       generalize N[n]'hn=J2 at v1 Wy
       simp only[cJ v1,cond_true,b9 v1,cH,dB (l:=N) (by simp only[bT];omega) v1]
       by_cases hnm:n=m
       ·subst hnm
        rw[c2]at v1;cases v1
        have q1:(lP s.bM.instrument s.bM.bG e t c).bX=x.bX:=s4.symm
        have q2:(lP s.bM.instrument s.bM.bG e t c).bc=p.bc:=s2
        have q3:(lP s.bM.instrument s.bM.bG e t c).bW=wr (x.bW+j.shift):=SY
        have q4:(lP s.bM.instrument s.bM.bG e t c).dr=(iD s.bM.bG c:Int):=rfl
        simp only[q1,q2,q3,q4,not_true_eq_false,decide_false,cond_false,cH,b9 v2,g2,vp,nv]
        refine .inl ⟨_,rfl,?_⟩
        have z1:decide (n<n+1)=true:=decide_eq_true (by omega)
        simp only[z1,Nat.lt_irrefl,decide_false,cond_false,cond_true]
       ·have hz:((bif (decide (¬J2.bX=x.bX))then(some true)else(bif (decide (¬J2.bc=p.bc))then(some true)else(some (decide (¬J2.bW=wr (x.bW+j.shift)))))):Option Bool)=some true:=by
         by_cases q1:J2.bX=x.bX
         ·by_cases q2:J2.bc=p.bc
          ·exact absurd (Wy q1 q2) hnm
          ·simp[q1,q2]
         ·simp[q1]
        simp only[hz,cH,cond_true,vp]
        refine .inl ⟨_,rfl,?_⟩
        have z1:decide (m<n+1)=decide (m<n):=by
         by_cases q:m<n
         ·have:m<n+1:=by omega
          simp[q,this]
         ·have: ¬m<n+1:=by omega
          simp[q,this]
        rw[z1]
      ·rintro _ rfl
       have z1:decide (m<N.length)=true:=decide_eq_true NE
       simp only[kF,decide_false,cond_false,z1,cond_true]
       exact⟨_,rfl,rfl⟩
     obtain⟨z,z1,rfl⟩:=HM
     rw[z1]
     simp only[cH,vp,oe,cond_false]
     refine .inl ⟨_,rfl,rfl,keep _ (by simpa using f1) (λm' nr=>?_) λm' e' t' nr CI sR=>?_⟩
     ·by_cases hq:m=m'
      ·subst hq;exact GI (by omega)
      ·rw[EM hq];exact nr
     ·obtain⟨c',_,c4⟩:=hN.2 m' e' t' nr
      have:m'=m:=uq h hN hm c4 (by show(iD s.bM.bG e':Int)=_;omega) (by show t'.bc=_;rw[s2,CI])
      subst this
      exact GI (by omega)
   ·rintro⟨B1,_⟩ ⟨f0,f1,f2⟩
    simp only at f0 f1 f2
    subst f0
    simp only[kF,decide_false,cond_false]
    refine⟨_,rfl,B1,rfl,f1,λm e t hm ⟨i',k',x',h1,h2,h3⟩=>f2 m e t hm ⟨i',k',x',?_,h2,h3⟩⟩
    by_cases hc:i'=i
    ·subst hc
     obtain⟨q',y1,y2⟩:=nX h2
     rw[e1]at y1;cases y1
     exact .inr ⟨rfl,(fM.1 y2).1⟩
    ·exact .inl (by omega)
   ·rintro _ ⟨B',rfl,f1,f2⟩
    exact⟨_,rfl,rfl,f1,f2⟩
  ·rintro⟨B,_⟩ ⟨e0,b1,b2⟩
   simp only at e0 b1 b2
   subst e0
   simp only[kF,decide_false,cond_false]
   refine⟨_,rfl,B,rfl,b1,λm b hb=>?_⟩
   have hm:=(fM.1 hb).1
   have em:(stM s.bM.bG s.bM.bG.length)[m]? =some ((stM s.bM.bG s.bM.bG.length)[m]'(by rw[<-hN.1];omega)):=dC _
   generalize(stM s.bM.bG s.bM.bG.length)[m]'(by rw[<-hN.1];omega)=z at em
   obtain⟨e,t⟩:=z
   obtain⟨i',k',x',h1,h2,h3⟩:=ff.sp e t (jt.1 (gx em)).2
   have:=b2 m e t em ⟨i',k',x',(oT ku h1).2.2.2.2.2.2,h1,h3,h2⟩
   rw[hb]at this;exact Option.some.inj this
  rintro _ ⟨B,rfl,b1,b2⟩
  simp only[vp]
  refine eO (λk(z:Int)=>z=(k:Int)) (λr=>r=.inl ()) B.length (by omega) rfl ?_ ?_ ?_
  ·rintro k _ hk rfl
   have e1:B[k]? =some (B[k]'hk):=dC _
   have:=b2 k _ e1
   generalize B[k]'hk=b at e1 this
   subst this
   simp only[cJ e1,cond_true,b9 e1,cH,oe,cond_false,dB (l:=B) (by simp only[bT];omega) e1]
   exact .inl ⟨_,rfl,rfl⟩
  ·rintro _ rfl
   simp only[kF,decide_false,cond_false]
   exact⟨_,rfl,rfl⟩
  ·rintro _ rfl
   simp only[vp,f10_eq,cH]
   exact⟨_,rfl,rfl⟩
 obtain⟨b,h1,rfl⟩:=key
 exact h1
end
end Go.Proofs.YtpbahncblggodaaGreat
