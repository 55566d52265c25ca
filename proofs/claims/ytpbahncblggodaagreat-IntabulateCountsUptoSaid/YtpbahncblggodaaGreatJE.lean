/- Plain laws, joined by gen/joinH.py. -/
import Derived.Test.YtpbahncblggodaaGreatJD
set_option linter.all false
namespace Go.Proofs.YtpbahncblggodaaGreat
open Go Go.Am
set_option maxRecDepth 100000
def th(i k:Nat)(l:cU):Bool:=decide (l.part=(i:Int))&&decide (l.eI=(k:Int))
def jv(X:List cU)(i k:Nat):List cU:=X.filter (th i k)
def Twin(P:List (List bP))(W:List (List aW))(i:Nat)(x:bP)(p:aW):Prop:= ∃(i' k':Nat)(x':bP),i'<i/\dV P i' k'=some x'/\x'.bW=x.bW/\eT W i' k'=some p
def Yr(P:List (List bP))(W:List (List aW))(i k:Nat)(x:bP)(p:aW)(D:List cU):Prop:=(D=[]/\ ¬Twin P W i x p)\/(D=[⟨(i:Int),(k:Int),2,x.bW⟩]/\Twin P W i x p)
def aas(a:bK)(sh:Int)(P:List (List bP))(E:List cn)(L:List bx)(W:List (List aW))(X:List cU)(i k:Nat)(x:bP):Prop:=
 ∃p,eT W i k=some p/\((p=⟨0,0⟩/\jv X i k=[⟨(i:Int),(k:Int),1,x.bW⟩])\/
  ∃(e:Nat)(D:List cU),p∈(eD a (wr (x.bY+sh))).1/\(iO E e:Int)=x.bW/\Yr P W i k x p D/\
   ((jv X i k=D/\((∃n∈L,(⟨(i:Int),(k:Int)⟩:bX)∈n.bO/\n.de=(e:Int))\/ ∃c,Rg E e p c/\x.dx<=(iO E c:Int)))\/
    ∃c,Nd E e p c/\(iO E c:Int)<x.dx/\jv X i k=D++[⟨(i:Int),(k:Int),3,(iO E c:Int)⟩]))
structure NQ (a:bK) (sh:Int) (P:List (List bP)) (T:Int) (E:List cn) (L:List bx) (W:List (List aW)) (X:List cU):Prop where
 ev:kS a E
 du:(iO E E.length:Int)=T
 lv: ∀n∈L,Rs P E W n
 ld:L.Pairwise λx y=>x.bQ.bt≠y.bQ.bt
 ws:EX P W
 fa: ∀(i k:Nat)x,dV P i k=some x->x.bW<T->aas a sh P E L W X i k x
 lo: ∀l∈X,∃(i k:Nat)(x:bP),l.part=(i:Int)/\l.eI=(k:Int)/\dV P i k=some x/\x.bW<T
 sp: ∀e s,fy E e s-> ∃(i k:Nat)(x:bP),dV P i k=some x/\x.bW=(iO E e:Int)/\eT W i k=some ⟨s.bt,s.cy⟩
def C3(X:List cU):Prop:=X.Pairwise λx y=> ¬(x.part=y.part/\x.eI=y.eI)
theorem tl{X:List cU}(h:C3 X){i k:Nat}{l:cU}(hl:l∈X)(hk:th i k l=true):jv X i k=[l]:=by
 induction X with
 |nil=>simp at hl
 |cons y r ih=>
  rw[C3,Dr]at h
  simp[th]at hk
  rcases mU.1 hl with rfl|hl
  ·unfold jv
   rw[Y1 (by simp[th,hk])]
   congr 1
   rw[XG]
   intro z hz hq
   simp[th]at hq
   exact h.1 z hz ⟨by omega,by omega⟩
  ·unfold jv
   rw[Y2]
   ·exact ih h.2 hl
   ·intro hq
    simp[th]at hq
    exact h.1 l hl ⟨by omega,by omega⟩
theorem oC{X:List cU}{i k:Nat}(h: ∀l∈X,¬(l.part=(i:Int)/\l.eI=(k:Int))):jv X i k=[]:=by
 unfold jv
 rw[XG]
 intro l hl hq
 simp[th]at hq
 exact h l hl hq
theorem rE{X Y:List cU}{i k:Nat}:jv (X++Y) i k=jv X i k++jv Y i k:=Dq ..
theorem rG{T:Int}{n:bx}{l:cU}(h:l∈jH T n): ∃m∈n.bO,l.part=m.part/\l.eI=m.eI:=by
 unfold jH at h
 cases hc:decide (n.bQ.bt=0)<;>rw[hc]at h
 ·obtain⟨m,h1,rfl⟩:=jJ.1 h
  exact⟨m,Hv h1,rfl,rfl⟩
 ·obtain⟨m,h1,rfl⟩:=jJ.1 h
  exact⟨m,h1,rfl,rfl⟩
theorem rH{P:List (List bP)}{T:Int}{n:bx}{l:cU}(h:l∈lN P T n): ∃m∈n.bO,l.part=m.part/\l.eI=m.eI/\T<toOf P m:=by
 obtain⟨m,h1,rfl⟩:=jJ.1 h
 obtain⟨h2,h3⟩:=lD.1 h1
 exact⟨m,h2,rfl,rfl,by simpa using h3⟩
theorem I4{f:bx->List cU}{l:List bx}{R:bx->bx->Prop}(h1: ∀n∈l,∀x∈f n,∃m∈n.bO,x.part=m.part/\x.eI=m.eI)(h2: ∀n∈l,C3 (f n))(h3:l.Pairwise R)(h4: ∀n∈l,∀n'∈l,R n n'-> ∀m∈n.bO,m ∉ n'.bO):C3 (l.flatMap f):=by
 unfold C3
 rw[List.pairwise_flatMap]
 refine⟨h2,h3.imp_of_mem λ{n n'}hn mu hR x hx y hy Ca=>?_⟩
 obtain⟨m,m1,m2,m3⟩:=h1 n hn x hx
 obtain⟨m',m4,m5,m6⟩:=h1 n' mu y hy
 have:m=m':=by cases m;cases m';simp at m2 m3 m5 m6;simp;omega
 subst this
 exact h4 n hn n' mu hR m m1 m4
theorem zy{t kd:Int}{l:List bX}(h:l.Pairwise λa b=>a.part<b.part):C3 (l.map (pQ t kd)):=by
 unfold C3
 rw[FB]
 exact h.imp λ{a b}JT hq=>by have:a.part=b.part:=hq.1;omega
section
variable {P:List (List bP)} {W:List (List aW)} {i k:Nat} {x:bP} {p q:aW}
theorem NR(h:EX P W)(hx:dV P i k=some x){m:bX}(hm:uN P m):eT (Hf W m q) i k=bif decide (m=⟨(i:Int),(k:Int)⟩)then some q else eT W i k:=by
 obtain⟨i',k',y,rfl,hy⟩:=hm
 obtain⟨w,w1,w2⟩:=h.get hy
 rw[I1 w1]
 unfold eT
 by_cases hi:i'=i
 ·subst hi
  rw[KB (fP.1 w1).1,w1]
  simp only[cK]
  by_cases hk:k'=k
  ·subst hk
   rw[KB w2];simp
  ·rw[FU hk]
   have:decide ((⟨(i':Int),(k':Int)⟩:bX)=⟨(i':Int),(k:Int)⟩)=false:=mC λh=>hk (by simp at h;omega)
   rw[this];rfl
 ·rw[FU hi]
  have:decide ((⟨(i':Int),(k':Int)⟩:bX)=⟨(i:Int),(k:Int)⟩)=false:=mC λh=>hi (by simp at h;omega)
  rw[this];rfl
theorem zA(hx:dV P i k=some x): ∀{l:List bX}{W:List (List aW)},EX P W->(∀m∈l,uN P m)->eT (zw W l q) i k=bif decide ((⟨(i:Int),(k:Int)⟩:bX)∈l)then some q else eT W i k
 | [],W,_,_=>by simp[zw]
 |m::l,W,h,hm=>by
  have h1:=zA hx (l:=l) (I0 (m:=m) (p:=q) h) λm' pM=>hm m' (by simp[pM])
  have h2:=NR (q:=q) h hx (hm m (by simp))
  show eT (zw (Hf W m q) l q) i k=_
  rw[h1,h2]
  by_cases c1:(⟨(i:Int),(k:Int)⟩:bX)∈l
  ·simp[c1]
  ·by_cases c2:m=⟨(i:Int),(k:Int)⟩
   ·subst c2;simp
   ·have c3: ¬(⟨(i:Int),(k:Int)⟩:bX)=m:=λh=>c2 h.symm
    simp[c1,c2,c3]
theorem vG(hx:dV P i k=some x): ∀{l:List bx}{W:List (List aW)},EX P W->(∀n∈l,∀m∈n.bO,uN P m)->(∀n∈l,(⟨(i:Int),(k:Int)⟩:bX) ∉ n.bO)->eT (ma W l) i k=eT W i k
 | [],W,_,_,_=>rfl
 |n::l,W,h,hm,hn=>by
  have h1:=vG hx (l:=l) (rD (l:=n.bO) (p:=n.bQ) h) (λn' mu=>hm n' (by simp[mu])) λn' mu=>hn n' (by simp[mu])
  have h2:=zA hx (q:=n.bQ) h (hm n (by simp))
  show eT (ma (zw W n.bO n.bQ) l) i k=_
  rw[h1,h2]
  have:=hn n (by simp)
  simp[this]
theorem BO(hx:dV P i k=some x): ∀{l:List bx}{W:List (List aW)},EX P W->(∀n∈l,∀m∈n.bO,uN P m)->(∀n∈l,(⟨(i:Int),(k:Int)⟩:bX)∈n.bO->n.bQ=p)->(∃n∈l,(⟨(i:Int),(k:Int)⟩:bX)∈n.bO)->eT (ma W l) i k=some p
 | [],W,_,_,_,h=>by simp at h
 |n::l,W,h,hm,hn,he=>by
  show eT (ma (zw W n.bO n.bQ) l) i k=_
  by_cases hq: ∃n∈l,(⟨(i:Int),(k:Int)⟩:bX)∈n.bO
  ·exact BO hx (rD h) (λn' mu=>hm n' (by simp[mu])) (λn' mu=>hn n' (by simp[mu])) hq
  ·rw[vG hx (rD h) (λn' mu=>hm n' (by simp[mu])) λn' mu hc=>hq ⟨n',mu,hc⟩,zA hx (q:=n.bQ) h (hm n (by simp))]
   obtain⟨n',h1,h2⟩:=he
   rcases mU.1 h1 with rfl|h1
   ·rw[hn n' (by simp) h2];simp[h2]
   ·exact absurd ⟨n',h1,h2⟩ hq
end
section
variable {a:bK} {sh T:Int} {P:List (List bP)} {E:List cn} {L B U:List bx} {S:List cN} {B' C L':List bx} {E':List cn} {W:List (List aW)} {X:List cU}
theorem NQ.step(h:NQ a sh P T E L W X)(Jg:Hc P)(hP:P.length<=6)(hB:C0 P T P.length 0 B)(hm:Mv a sh T E L B S B' C L' E')(hS:0<kR S)(T':Int)(hT:T'=T+kR S)(hnx: ∀(i k:Nat)x,dV P i k=some x->x.bW<T'->x.bW<=T):
   NQ a sh P T' E' L' (ma W B') (X++B'.flatMap (jH T)++C.flatMap (lN P T)):=by
 have hdu:=h.du
 have vf: ∀n'∈B',n'.bO≠[]/\n'.bO.length<=6/\(n'.bO.Pairwise λa b=>a.part<b.part)/\(∀m∈n'.bO,∃(i k:Nat)(x:bP),m=⟨(i:Int),(k:Int)⟩/\dV P i k=some x/\x.bW=T/\x.bY=n'.bY/\x.dx<=n'.dx)/\
    (n'.bQ=⟨0,0⟩\/n'.bQ∈(eD a (wr (n'.bY+sh))).1/\n'∈L'/\n'.de=(E.length:Int)):=λn' mu=>by
   obtain⟨n,n1,n2,n3,n4,n5⟩:=hm.b1 n' mu
   have hn:=hB.no n n1
   rw[n2,n3,n4]
   exact⟨hn.ne,by have:=hn.len;omega,hn.qF,λm hq=>by
    obtain⟨i',k',x,e1,_,e2,e3,e4,e5⟩:=hn.me m hq
    exact⟨i',k',x,e1,e2,e3,e4,e5⟩,n5⟩
 have hbm: ∀n∈B',∀m∈n.bO,uN P m:=λn hn m hq=>by
   obtain⟨i,k,x,e1,e2,_⟩:=(vf n hn).2.2.2.1 m hq
   exact⟨i,k,x,e1,e2⟩
 have W6: ∀n∈B',∀(i k:Nat)x,dV P i k=some x->(⟨(i:Int),(k:Int)⟩:bX)∈n.bO->x.bW=T/\x.bY=n.bY/\x.dx<=n.dx:=λn hn i k x hx hq=>by
   obtain⟨i',k',x',e1,e2,e3,e4,e5⟩:=(vf n hn).2.2.2.1 _ hq
   simp at e1
   obtain⟨e6,e7⟩:=e1
   have:i=i':=by omega
   subst this
   have:k=k':=by omega
   subst this
   rw[hx]at e2;cases e2
   exact⟨e3,e4,e5⟩
 have Lg:(B'.map bx.bY).Nodup:=by rw[hm.b3];exact hB.pi
 have hbu: ∀n∈B',∀n'∈B',n.bY=n'.bY->n=n':=λn hn n' mu he=>by
   obtain⟨i,hi,rfl⟩:=pH hn
   obtain⟨j,hj,rfl⟩:=pH mu
   have Lg:List.Pairwise _ (B'.map bx.bY):=Lg
   rw[FB,DD]at Lg
   rcases Jk i j with c|c|c
   ·exact absurd he (Lg i j hi hj c)
   ·subst c;rfl
   ·exact absurd he.symm (Lg j i hj hi c)
 have TL: ∀n∈B',∀n'∈B',∀m∈n.bO,m∈n'.bO->n=n':=λn hn n' mu m h1 h2=>by
   obtain⟨i,k,x,rfl,hx,_⟩:=(vf n hn).2.2.2.1 m h1
   exact hbu n hn n' mu (by rw[<-(W6 n hn i k x hx h1).2.1,(W6 n' mu i k x hx h2).2.1])
 have hKF:C3 (B'.flatMap (jH T)):=I4 (R:=λx y=>x.bY≠y.bY) (λn _ x hx=>rG hx) (λn hn=>by
   unfold jH
   have hp:=(vf n hn).2.2.1
   cases decide (n.bQ.bt=0)
   ·exact zy (hp.sublist (List.drop_sublist ..))
   ·exact zy hp) (by rw[<-FB];exact Lg) λn hn n' mu hR m h1 h2=>hR (by rw[TL n hn n' mu m h1 h2])
 have W7: ∀n∈L,∃e:Nat,n.de=(e:Int)/\Rg E e n.bQ E.length/\iO E e<iO E E.length/\ ∀(i k:Nat)x,dV P i k=some x->(⟨(i:Int),(k:Int)⟩:bX)∈n.bO->x.dx<=n.dx/\eT W i k=some n.bQ/\x.bW=(iO E e:Int):=λn hn=>by
   obtain⟨e,e1,e2,e3⟩:=(h.lv n hn).ev
   refine⟨e,e1,e2,pP h.ev e2.lt (eF _),λi k x hx hq=>?_⟩
   obtain⟨i',k',x',f1,f2,f3,f4,f5⟩:=e3 _ hq
   simp at f1
   obtain⟨e6,e7⟩:=f1
   have:i=i':=by omega
   subst this
   have:k=k':=by omega
   subst this
   rw[hx]at f2;cases f2
   exact⟨f3,f4,f5⟩
 have hlu: ∀n∈L,∀n'∈L,∀m∈n.bO,m∈n'.bO->n=n':=λn hn n' mu m h1 h2=>by
   obtain⟨e,_,_,e3⟩:=(h.lv n hn).ev
   obtain⟨i,k,x,rfl,hx,_⟩:=e3 m h1
   obtain⟨_,_,_,_,q1⟩:=W7 n hn
   obtain⟨_,_,_,_,q2⟩:=W7 n' mu
   have r1:=(q1 i k x hx h1).2.1
   have r2:=(q2 i k x hx h2).2.1
   rw[r1]at r2
   exact Rt h.ld hn mu (by rw[Option.some.inj r2])
 have hKC:C3 (C.flatMap (lN P T)):=I4 (R:=λx y=>x.bQ.bt≠y.bQ.bt) (λn _ x hx=>by
   obtain⟨m,m1,m2,m3,_⟩:=rH hx
   exact⟨m,m1,m2,m3⟩) (λn hn=>zy ((h.lv n (hm.cL n hn)).qF.sublist Qz)) hm.cd λn hn n' mu hR q h1 h2=>hR (by rw[hlu n (hm.cL n hn) n' (hm.cL n' mu) q h1 h2])
 have W8: ∀(i k:Nat)x,dV P i k=some x->x.bW≠T->eT (ma W B') i k=eT W i k:=λi k x hx ht=>vG hx h.ws hbm λn hn hq=>ht (W6 n hn i k x hx hq).1
 have W9: ∀(i k:Nat)x n',dV P i k=some x->n'∈B'->(⟨(i:Int),(k:Int)⟩:bX)∈n'.bO->eT (ma W B') i k=some n'.bQ:=λi k x n' hx mu hq=>BO hx h.ws hbm (λn hn JQ=>by rw[TL n hn n' mu _ JQ hq]) ⟨n',mu,hq⟩
 have Kl: ∀(i k:Nat)x,dV P i k=some x->x.bW=T-> ∃n'∈B',(⟨(i:Int),(k:Int)⟩:bX)∈n'.bO:=λi k x hx ht=>by
   have hi:i<P.length:=by
    unfold dV at hx
    cases hp:P[i]? with
    |none=>rw[hp]at hx;simp at hx
    |some p=>exact(fP.1 hp).1
   obtain⟨n,n1,n2⟩:=hB.al i k x (.inl hi) hx ht
   obtain⟨n',n3,n4⟩:=hm.b2 n n1
   exact⟨n',n3,by rw[n4];exact n2⟩
 have Tk: ∀(i k:Nat)x,dV P i k=some x->x.bW≠T->jv (B'.flatMap (jH T)) i k=[]:=λi k x hx ht=>oC λl hl hq=>by
   obtain⟨n,n1,n2⟩:=sF.1 hl
   obtain⟨m,m1,m2,m3⟩:=rG n2
   have:m=⟨(i:Int),(k:Int)⟩:=by cases m;simp at m2 m3;simp;omega
   subst this
   exact ht (W6 n n1 i k x hx m1).1
 have Ys: ∀(i k:Nat),(∀n∈C,(⟨(i:Int),(k:Int)⟩:bX) ∉ n.bO)->jv (C.flatMap (lN P T)) i k=[]:=λi k hq=>oC λl hl hk=>by
   obtain⟨n,n1,n2⟩:=sF.1 hl
   obtain⟨m,m1,m2,m3,_⟩:=rH n2
   have:m=⟨(i:Int),(k:Int)⟩:=by cases m;simp at m2 m3;simp;omega
   subst this
   exact hq n n1 m1
 have KM: ∀(i k:Nat)x,dV P i k=some x->toOf P ⟨(i:Int),(k:Int)⟩=x.dx:=λi k x hx=>by unfold toOf;simp only[oH,hx,gy,Ab]
 have hTw: ∀(i:Nat)(x:bP)p,x.bW<T->(Twin P (ma W B') i x p↔Twin P W i x p):=λi x p ht=>by
   constructor
   ·rintro⟨i',k',x',t1,t2,t3,t4⟩
    exact⟨i',k',x',t1,t2,t3,by rw[<-W8 i' k' x' t2 (by omega)];exact t4⟩
   ·rintro⟨i',k',x',t1,t2,t3,t4⟩
    exact⟨i',k',x',t1,t2,t3,by rw[W8 i' k' x' t2 (by omega)];exact t4⟩
 refine⟨hm.ev,by rw[hm.du];omega,λn hn=>?_,hm.ld,zx h.ws,λi k x hx hxT=>?_,λl hl=>?_,λe s hs=>?_⟩
 ·
   rcases hm.lL n hn with⟨n1,n2⟩|⟨n1,n2,n3,n4⟩
   ·have hl:=h.lv n n1
    obtain⟨e,e1,e2,e3⟩:=hl.ev
    have gq:=pP h.ev e2.lt (eF _)
    refine⟨hl.ne,hl.le,hl.qF,hl.co,e,e1,n2 e e1,λm hq=>?_⟩
    obtain⟨i,k,x,f1,f2,f3,f4,f5⟩:=e3 m hq
    have:=e2.lt
    exact⟨i,k,x,f1,f2,f3,by rw[W8 i k x f2 (by omega)];exact f4,by rw[hm.on e (by omega)];exact f5⟩
   ·obtain⟨q1,q2,q3,q4,_⟩:=vf n n1
    refine⟨q1,q2,q3,n2,E.length,n3,n4,λm hq=>?_⟩
    obtain⟨i,k,x,f1,f2,f3,f4,f5⟩:=q4 m hq
    exact⟨i,k,x,f1,f2,f5,W9 i k x n f2 n1 (by rw[<-f1];exact hq),by rw[hm.on _ (eF _)];omega⟩
 ·
   have eE:=hnx i k x hx hxT
   by_cases hold:x.bW<T
   ·obtain⟨p,p1,p2⟩:=h.fa i k x hx hold
    refine⟨p,by rw[W8 i k x hx (by omega)];exact p1,?_⟩
    rw[rE,rE,Tk i k x hx (by omega),xa]
    have hD: ∀D,Yr P W i k x p D->Yr P (ma W B') i k x p D:=λD hd=>by unfold Yr at *;rw[hTw i x p hold];exact hd
    by_cases ku: ∃n∈L,(⟨(i:Int),(k:Int)⟩:bX)∈n.bO
    ·obtain⟨n,n1,n2⟩:=ku
     obtain⟨e0,e1,e2,e3,e4⟩:=W7 n n1
     obtain⟨f1,f2,f3⟩:=e4 i k x hx n2
     rw[p1]at f2
     have f2:=Option.some.inj f2
     subst f2
     have PQ:=(h.lv n n1).co
     rcases p2 with⟨p2,_⟩|⟨e,D,d1,d2,d3,d4⟩
     ·rw[p2]at PQ;simp at PQ
     ·have hee:e<=E.length->e=e0:=λhq=>CZ h.ev hq (by have:=e2.lt;omega) (by omega)
      have Yt: ∀n'∈C,(⟨(i:Int),(k:Int)⟩:bX)∈n'.bO->n'=n:=λn' h1 h2=>hlu n' (hm.cL n' h1) n n1 _ h2 n2
      rcases d4 with⟨d4,d5⟩|⟨c,c1,_⟩
      ·have he:e=e0:=by
        rcases d5 with⟨n',m1,_,m3⟩|⟨c,c1,_⟩
        ·obtain⟨e',m4,m5,_⟩:=W7 n' m1
         have:=m5.lt
         exact hee (by omega)
        ·exact hee (by have:=c1.lt;have:=c1.le;omega)
       subst he
       have NS:=hm.on E.length (eF _)
       refine .inr ⟨e,D,d1,by rw[hm.on e (by have:=e2.lt;omega)];exact d2,hD D d3,?_⟩
       rcases hm.pI n n1 e e1 with⟨o1,o2⟩|⟨o1,o2⟩|⟨o1,o2⟩
       ·rw[Ys i k λn' h1 h2=>o2 (by rw[<-Yt n' h1 h2];exact h1),xa]
        exact .inl ⟨d4,.inl ⟨n,o1,n2,e1⟩⟩
       ·by_cases hc:T<x.dx
        ·refine .inr ⟨E.length,o2,by rw[NS];omega,?_⟩
         rw[NS,hdu,d4]
         congr 1
         refine tl hKC (sF.2 ⟨n,o1,jJ.2 ⟨⟨(i:Int),(k:Int)⟩,lD.2 ⟨n2,?_⟩,rfl⟩⟩) (by simp[th])
         rw[KM i k x hx];simpa using hc
        ·rw[oC (X:=C.flatMap (lN P T)) λl hl hk=>?_,xa]
         ·exact .inl ⟨d4,.inr ⟨E.length,o2.rg,by rw[NS];omega⟩⟩
         ·obtain⟨n',l1,l2⟩:=sF.1 hl
          obtain⟨m,m1,m2,m3,m4⟩:=rH l2
          have:m=⟨(i:Int),(k:Int)⟩:=by cases m;simp at m2 m3;simp;omega
          subst this
          rw[KM i k x hx]at m4
          exact hc m4
       ·rw[Ys i k λn' h1 h2=>o1 (by rw[<-Yt n' h1 h2];exact h1),xa]
        exact .inl ⟨d4,.inr ⟨E.length,hm.rg _ _ _ e2,by rw[NS];omega⟩⟩
      ·have:=hee (by have:=c1.rg.lt;have:=c1.rg.le;omega)
       subst this
       exact(e2.nd c1).elim
    ·rw[Ys i k λn' h1 h2=>ku ⟨n',hm.cL n' h1,h2⟩,xa]
     rcases p2 with p2|⟨e,D,d1,d2,d3,d4⟩
     ·exact .inl p2
     ·have NS: ∀c,Rg E e p c->iO E' e=iO E e/\iO E' c=iO E c:=λc hc=>by
       have:=hc.lt;have:=hc.le
       exact⟨hm.on e (by omega),hm.on c (by omega)⟩
      rcases d4 with⟨d4,⟨n,n1,n2,_⟩|⟨c,c1,c2⟩⟩|⟨c,c1,c2,c3⟩
      ·exact absurd ⟨n,n1,n2⟩ ku
      ·obtain⟨o1,o2⟩:=NS c c1
       exact .inr ⟨e,D,d1,by rw[o1];exact d2,hD D d3,.inl ⟨d4,.inr ⟨c,hm.rg _ _ _ c1,by rw[o2];exact c2⟩⟩⟩
      ·obtain⟨o1,o2⟩:=NS c c1.rg
       exact .inr ⟨e,D,d1,by rw[o1];exact d2,hD D d3,.inr ⟨c,hm.nd _ _ _ c1,by rw[o2];exact c2,by rw[o2];exact c3⟩⟩
   ·have ht:x.bW=T:=by omega
    obtain⟨n',n1,n2⟩:=Kl i k x hx ht
    obtain⟨q1,q2,q3,q4,q5⟩:=vf n' n1
    have hp:=W9 i k x n' hx n1 n2
    obtain⟨r1,r2,r3⟩:=W6 n' n1 i k x hx n2
    have hX0:jv X i k=[]:=oC λl hl hk=>by
     obtain⟨i',k',x',l1,l2,l3,l4⟩:=h.lo l hl
     have e1:i'=i:=by omega
     have e2:k'=k:=by omega
     subst e1;subst e2
     rw[hx]at l3;cases l3
     omega
    have Yt:jv (C.flatMap (lN P T)) i k=[]:=Ys i k λn h1 h2=>by
     obtain⟨e,_,_,e3,e4⟩:=W7 n (hm.cL n h1)
     have:=(e4 i k x hx h2).2.2
     omega
    refine⟨n'.bQ,hp,?_⟩
    rw[rE,rE,hX0,Yt,xa,rN,ht]
    rcases q5 with q5|⟨q5,q6,q7⟩
    ·refine .inl ⟨q5,tl hKF (sF.2 ⟨n',n1,?_⟩) (by simp[th])⟩
     unfold jH
     rw[q5]
     exact jJ.2 ⟨_,n2,rfl⟩
    ·have PQ:=(ie q5).2.1
     have Xa:jH T n'=(n'.bO.drop 1).map (pQ T 2):=by unfold jH;rw[mC (by omega)];rfl
     refine .inr ⟨E.length,jv (B'.flatMap (jH T)) i k,by rw[r2];exact q5,by rw[hm.on _ (eF _)];exact hdu,?_,.inl ⟨rfl,.inl ⟨n',q6,n2,q7⟩⟩⟩
     obtain⟨m0,ms,Qg⟩:=XJ q1
     rw[Qg,Dr]at q3
     rw[Qg]at n2 Xa
     have Xa:jH T n'=ms.map (pQ T 2):=Xa
     rcases mU.1 n2 with B4|eZ
     ·refine .inl ⟨oC λl hl hk=>?_,?_⟩
      ·obtain⟨n,l1,l2⟩:=sF.1 hl
       obtain⟨m,m1,m2,m3⟩:=rG l2
       have:m=⟨(i:Int),(k:Int)⟩:=by cases m;simp at m2 m3;simp;omega
       subst this
       have:=TL n l1 n' n1 _ m1 (by rw[Qg,B4];simp)
       subst this
       rw[Xa]at l2
       obtain⟨m',m4,rfl⟩:=jJ.1 l2
       have h1:=q3.1 m' m4
       have h2:m'.part=(i:Int):=hk.1
       rw[<-B4]at h1
       simp at h1
       omega
      ·rintro⟨i',k',x',t1,t2,t3,t4⟩
       obtain⟨n,t5,t6⟩:=Kl i' k' x' t2 (by omega)
       rw[W9 i' k' x' n t2 t5 t6]at t4
       have t4:=Option.some.inj t4
       have:=hm.b4 n t5 n' n1 (by rw[t4];omega) (by rw[t4])
       subst this
       rw[Qg,<-B4]at t6
       rw[<-B4]at q3
       rcases mU.1 t6 with t6|t6
       ·simp at t6;omega
       ·have:=q3.1 _ t6
        simp at this;omega
     ·refine .inr ⟨?_,?_⟩
      ·rw[ht]
       exact tl hKF (sF.2 ⟨n',n1,by rw[Xa];exact jJ.2 ⟨_,eZ,rfl⟩⟩) (by simp[th])
      ·obtain⟨i0,k0,x0,rfl,y1,y2,_⟩:=q4 m0 (by rw[Qg];simp)
       have:=q3.1 _ eZ
       simp at this
       exact⟨i0,k0,x0,this,y1,by omega,W9 i0 k0 x0 n' y1 n1 (by rw[Qg];simp)⟩
 ·
   rcases lr.1 hl with hl|hl
   ·rcases lr.1 hl with hl|hl
    ·obtain⟨i,k,x,e1,e2,e3,e4⟩:=h.lo l hl
     exact⟨i,k,x,e1,e2,e3,by omega⟩
    ·obtain⟨n,n1,n2⟩:=sF.1 hl
     obtain⟨m,m1,m2,m3⟩:=rG n2
     obtain⟨i,k,x,rfl,f2,f3,_⟩:=(vf n n1).2.2.2.1 m m1
     exact⟨i,k,x,m2,m3,f2,by omega⟩
   ·obtain⟨n,n1,n2⟩:=sF.1 hl
    obtain⟨m,m1,m2,m3,_⟩:=rH n2
    obtain⟨e,_,e2,e3⟩:=(h.lv n (hm.cL n n1)).ev
    obtain⟨i,k,x,rfl,f2,_,_,f5⟩:=e3 m m1
    have:=pP h.ev e2.lt (eF _)
    exact⟨i,k,x,m2,m3,f2,by omega⟩
 ·
   rcases hm.st e s hs with⟨s0,s1,s2,s3⟩|⟨rfl,n',n1,n2⟩
   ·obtain⟨i,k,x,e1,e2,e3⟩:=h.sp e s0 s1
    have hl:=s1.lt
    have:=pP h.ev hl (eF _)
    exact⟨i,k,x,e1,by rw[hm.on e (by omega)];exact e2,by rw[W8 i k x e1 (by omega),e3,s2,s3]⟩
   ·obtain⟨q1,_,_,q4,_⟩:=vf n' n1
    obtain⟨m0,ms,Qg⟩:=XJ q1
    obtain⟨i,k,x,rfl,f2,f3,_⟩:=q4 m0 (by rw[Qg];simp)
    exact⟨i,k,x,f2,by rw[hm.on _ (eF _)];omega,by rw[W9 i k x n' f2 n1 (by rw[Qg];simp),n2]⟩
end
open Go.Sort
def kL(l:cU):Int:=l.part*4096+l.eI*4+l.kind
theorem f51_key{x y:cU}(h1:0<=x.eI/\x.eI<1000/\1<=x.kind/\x.kind<=3)(h2:0<=y.eI/\y.eI<1000/\1<=y.kind/\y.kind<=3):f51 x y=some (pX (kL x) (kL y)):=by
 unfold f51
 simp only[f104_eq,cK,f103_eq _ (show bU [_,_,_]by simp[bU])]
 have lt: ∀{a b:Int},a<b->pX a b= -1:=λh=>by simp[pX,h]
 have gt: ∀{a b:Int},b<a->pX a b=1:=λ{a b}h=>by
  have: ¬a<b:=by omega
  simp[pX,h,this]
 have eq: ∀a:Int,pX a a=0:=λa=>by simp[pX]
 rcases Y9 x.part y.part with c|c|c
 ·rw[lt c,lt (show kL x<kL y by unfold kL;omega)];rfl
 ·rw[c,eq]
  rcases Y9 x.eI y.eI with d|d|d
  ·rw[lt d,lt (show kL x<kL y by unfold kL;omega)];rfl
  ·rw[d,eq]
   rcases Y9 x.kind y.kind with e|e|e
   ·rw[lt e,lt (show kL x<kL y by unfold kL;omega)];rfl
   ·rw[e,eq,show kL x=kL y by unfold kL;omega,eq];rfl
   ·rw[gt e,gt (show kL y<kL x by unfold kL;omega)];rfl
  ·rw[gt d,gt (show kL y<kL x by unfold kL;omega)];rfl
 ·rw[gt c,gt (show kL y<kL x by unfold kL;omega)];rfl
theorem rI{P:List (List bP)}{x:bP}:x∈P.flatten↔ ∃i k,dV P i k=some x:=by
 rw[List.mem_flatten]
 constructor
 ·rintro⟨p,h1,h2⟩
  obtain⟨i,hi,rfl⟩:=pH h1
  obtain⟨k,hk,rfl⟩:=pH h2
  exact⟨i,k,by simp[dV,hi,hk]⟩
 ·rintro⟨i,k,h⟩
  unfold dV at h
  cases hp:P[i]? with
  |none=>rw[hp]at h;simp at h
  |some p=>
   rw[hp]at h
   exact⟨p,gz hp,gz (by simpa using h)⟩
theorem pB{P:List (List bP)}(hP: ∀p∈P,p.length<=400/\Ax 0 p=true){i k:Nat}{x:bP}(h:dV P i k=some x):0<=x.bW/\x.bW<x.dx/\x.dx<=262144/\0<=x.bY/\x.bY<=127/\k<400/\i<P.length:=by
 unfold dV at h
 cases hp:P[i]? with
 |none=>rw[hp]at h;simp at h
 |some p=>
  rw[hp]at h
  simp only[cK]at h
  have h1:=hP p (gz hp)
  have h2:=(xA p 0 h1.2).1 k x h
  have h3:=(fP.1 h).1
  have h4:=(fP.1 hp).1
  omega
theorem TN{p:List bP}(hp: ∀x∈p,x.bW<x.dx): ∀x∈p,∃t∈iU p,x.dx<=t:=by
 have key: ∀(n:Nat)(x:bP),x∈p->(∀y∈p,y.dx-x.dx<=(n:Int))-> ∃t∈iU p,x.dx<=t:=by
  intro n
  induction n with
  |zero=>
   intro x hx hn
   refine⟨x.dx,?_,Int.le_refl _⟩
   rw[uI]
   refine .inl ⟨x,hx,?_⟩
   unfold eW
   have:gg p x.dx=false:=by
    unfold gg
    rw[KA]
    intro y hy
    have:=hn y hy
    simp;omega
   rw[this];simp
  |succ n ih=>
   intro x hx hn
   by_cases hq: ∃y∈p,x.dx<y.dx
   ·obtain⟨y,hy,gq⟩:=hq
    obtain⟨t,h1,h2⟩:=ih y hy λz hz=>by have:=hn z hz;omega
    exact⟨t,h1,by omega⟩
   ·exact ih x hx λy hy=>by
     have: ¬x.dx<y.dx:=λh=>hq ⟨y,hy,h⟩
     omega
 intro x hx
 have: ∃n:Nat,∀y∈p,y.dx-x.dx<=(n:Int):=by
  clear key hx hp
  induction p with
  |nil=>exact⟨0,by simp⟩
  |cons z r ih=>
   obtain⟨n,hn⟩:=ih
   refine⟨n+(z.dx-x.dx).toNat,λy hy=>?_⟩
   rcases mU.1 hy with rfl|hy
   ·omega
   ·have:=hn y hy;omega
 obtain⟨n,hn⟩:=this
 exact key n x hx hn
structure lO (P:List (List bP)) (a:bK) (sh:Int) (s:dC):Prop where
 pr:jr P=0
 ins:instS a=0
 shr: -24<=sh/\sh<=24
 ai:s.bM.instrument=a
 si:s.shift=sh
 set: ∃T L X,NQ a sh P T s.bM.bG L s.dz X/\(∀(i k:Nat)x,dV P i k=some x->x.dx<=T)/\s.cI.Perm X/\T∈iU P.flatten/\(∀t∈iU P.flatten,t<=T)/\(∀t∈iU P.flatten,∃k,k<=s.bM.bG.length/\(iO s.bM.bG k:Int)=t)
 el:s.bM.bG.length<=400
 ll:s.cI.length<=4000000
 lk: ∀l∈s.cI,0<=l.part/\l.part<6/\0<=l.eI/\l.eI<400/\1<=l.kind/\l.kind<=3
 srt:s.cI.Pairwise λx y=>kL x<kL y
structure NT (P:List (List bP)) (a:bK) (h:eA) (sh:Int) (fq:List (List cN)) (i:Nat) (s:StI):Prop where
 ix:s.2.2.2.2.2.2.2.2.2.2.2=(i:Int)
 dk:zt ⟨⟨s.1,s.2.1,s.2.2.1⟩,a,h,sh,⟨a,s.2.2.2.1⟩,s.2.2.2.2.1,s.2.2.2.2.2.1⟩
 ev:s.2.2.2.1.length=(fq.take i).flatten.length
 lv:s.2.2.2.2.1.length<=4*i
 xl:s.2.2.2.2.2.2.2.2.2.2.1.length<=9700*i
 st: ∀t,(iU P.flatten)[i]? =some t->NQ a sh P t s.2.2.2.1 s.2.2.2.2.1 s.2.2.2.2.2.2.2.2.2.1 s.2.2.2.2.2.2.2.2.2.2.1
 on: ∀(j:Nat)t,j<=i->(iU P.flatten)[j]? =some t-> ∃k,k<=s.2.2.2.1.length/\(iO s.2.2.2.1 k:Int)=t
theorem NU{S:List cN}(h:S≠[])(h2: ∀s∈S,s∈gJ):0<kR S:=by
 have:=xC h2
 have:=RO.2 h
 omega
theorem NV(P:List (List bP))(a:bK)(h:eA)(sh:Int)(TP:P.length<=4)(hP: ∀p∈P,p.length<=400/\Ax 0 p=true)(fq:List (List cN))(Jz:fq.length+1=(iU P.flatten).length)
  (hsn: ∀(i:Nat)S,fq[i]? =some S->S≠[]/\(∀s∈S,s∈gJ)/\ ∀t t',(iU P.flatten)[i]? =some t->(iU P.flatten)[i+1]? =some t'->t'=t+kR S) (AA:fq.length<=400) (pZ:fq.flatten.length<=400) (i:Nat) (s:StI) (hi:i<fq.length) (hI:NT P a h sh fq i s):
  ∃t S r q,(iU P.flatten)[i]? =some t/\fq[i]? =some S/\f48 ⟨⟨s.1,s.2.1,s.2.2.1⟩,a,h,sh,⟨a,s.2.2.2.1⟩,s.2.2.2.2.1,s.2.2.2.2.2.1⟩ P t S=some r/\
   f49 ⟨⟨⟨s.2.2.2.2.2.2.1,s.2.2.2.2.2.2.2.1⟩,s.2.2.2.2.2.2.2.2.1⟩,sh,s.2.2.2.2.2.2.2.2.2.1,s.2.2.2.2.2.2.2.2.2.2.1⟩ P r.1 r.2.1 t=some q/\
   NT P a h sh fq (i+1) (r.2.2.1,r.2.2.2.1,r.2.2.2.2.1,r.2.2.2.2.2.1,r.2.2.2.2.2.2.1,r.2.2.2.2.2.2.2,s.2.2.2.2.2.2.1,s.2.2.2.2.2.2.2.1,s.2.2.2.2.2.2.2.2.1,q.1,q.2,((i+1:Nat):Int)):=by
 obtain⟨s1,s2,s3,ev,db,po,c0,c1,c2,wh,lo,ii⟩:=s
 obtain⟨e0,hd,Ga,HI,Zy,iz,NS⟩:=hI
 simp only at e0 hd Ga HI Zy iz NS
 have et:(iU P.flatten)[i]? =some ((iU P.flatten)[i]'(by omega)):=dH _
 generalize(iU P.flatten)[i]'(by omega)=t at et
 have Xb:(iU P.flatten)[i+1]? =some ((iU P.flatten)[i+1]'(by omega)):=dH _
 generalize(iU P.flatten)[i+1]'(by omega)=t2 at Xb
 have eS:fq[i]? =some (fq[i]'hi):=dH _
 generalize fq[i]'hi=S at eS
 obtain⟨TQ,Xc,uY⟩:=hsn i S eS
 have zV:=uY t t2 et Xb
 have Yu:=py eS
 have Oo:=pz fq (i+1)
 rw[Yu,jW]at Oo
 have eN:=iz t et
 have h1T:=IW λp hp=>(hP p hp).2
 have hB:=NL (P:=P) t h1T
 have Ud:(qI t 0 P []).length<=4:=by
  rcases hB.le with q|⟨_,k',_,q,_⟩<;>omega
 have aat:=f96_eq P t (by omega) λp hp=>(hP p hp).1
 obtain⟨r,r1,r2,U,u1,u2⟩:=NO _ hd P t S (qI t 0 P []) Ud aat TQ (by show ev.length+S.length<=4000;omega) (by show db.length<=_;omega) (λn hn=>(eN.lv n hn).ne) (λn hn hf=>by
  obtain⟨e,e1,e2,_⟩:=(eN.lv n hn).ev
  obtain⟨st,⟨d,d1,d2⟩,s2,s3⟩:=e2.st
  obtain⟨k,hk,rfl⟩:=pH d2
  have ek:d.df[k]? =some d.df[k]:=dH hk
  have qM:=(eN.ev.ev e d d1).qF
  have FL:d.df.length<=14:=by
   have:=xF (l:=d.df.map cW.bt) (n:=15) (lo:=1) (by rw[FB];exact qM) (λx hx=>by
    obtain⟨s,hs,rfl⟩:=jJ.1 hx
    obtain⟨q,hq⟩:=(eN.ev.st e s ⟨d,d1,hs⟩).pl
    have:=ie hq
    have h1:=this.2.1
    have h2:=this.2.2.1
    simp only at h1 h2
    omega) (by omega)
   simp at this;omega
  refine⟨e,d,k,_,e1,d1,ek,s2,by simp only[bU];omega,λj y hy hc=>?_⟩
  obtain⟨hj,rfl⟩:=fP.1 hy
  rw[DD]at qM
  rcases Jk j k with c|c|c
  ·have:=qM j k hj hk c;omega
  ·exact c
  ·have:=qM k j hk hj c;omega) eN.ld
 simp only at u1 u2
 have Dt:=W1 (T:=t) eN.ev eN.lv eN.ld (by omega) (λn hn=>(hB.no n hn).pl) u1 TQ Xc u2
 have Xd:=eN.step h1T (by omega) hB Dt (NU TQ Xc) t2 zV λi' k' x hx gq=>by
  rcases Int.lt_or_le t x.bW with c|c
  ·have:=NA (CS P.flatten) et Xb (Nz (rI.2 ⟨i',k',hx⟩)) c;omega
  ·exact c
 have Gr:=Dt.cl
 have vf: ∀n'∈r.1,n'.bO.length<=4/\ ∀m∈n'.bO,uN P m:=λn' mu=>by
  obtain⟨n,n1,n2,_⟩:=Dt.b1 n' mu
  have hn:=hB.no n n1
  rw[n2]
  exact⟨by have:=hn.len;omega,λm hm=>by
   obtain⟨i',k',x,e1,_,e2,_⟩:=hn.me m hm
   exact⟨i',k',x,e1,e2⟩⟩
 have hcm: ∀n∈r.2.1,n.bO.length<=6/\ ∀m∈n.bO,uN P m:=λn hn=>by
  have hl:=eN.lv n (Dt.cL n hn)
  obtain⟨e,_,_,e3⟩:=hl.ev
  exact⟨hl.le,λm hm=>by
   obtain⟨i',k',x,f1,f2,_⟩:=e3 m hm
   exact⟨i',k',x,f1,f2⟩⟩
 have WJ:r.1.length<=4:=by
  have:=fA List.length Dt.b3
  simp at this;omega
 have hde:=W0 ⟨⟨⟨c0,c1⟩,c2⟩,sh,wh,lo⟩ P r.1 r.2.1 t (by omega) eN.ws (λn hn=>⟨by have:=(vf n hn).1;omega,(vf n hn).2⟩) hcm WJ (by omega) (by show lo.length+24+6*r.2.1.length<=_;omega)
 refine⟨t,S,r,_,et,eS,r1,hde,⟨rfl,r2,?_,?_,?_,λt' w9=>?_,λj t' hj w9=>?_⟩⟩
 ·show r.2.2.2.2.2.1.length=_
  rw[Dt.le,Yu,jW];omega
 ·show r.2.2.2.2.2.2.1.length<=_
  have:=Dt.ll;omega
 ·show(lo++r.1.flatMap (jH t)++r.2.1.flatMap (lN P t)).length<=_
  have h1:=kt (l:=r.1) (f:=jH t) (b:=4) λn hn=>by
   have:=(vf n hn).1
   unfold jH
   cases decide (n.bQ.bt=0)
   ·simp;omega
   ·simp;omega
  have h2:=kt (l:=r.2.1) (f:=lN P t) (b:=6) λn hn=>by
   have:=(hcm n hn).1
   unfold lN
   have:=sq (λm=>decide (t<toOf P m)) n.bO
   simp;omega
  simp only[jW]
  omega
 ·rw[Xb]at w9;cases w9
  exact Xd
 ·show∃k,k<=r.2.2.2.2.2.1.length/\(iO r.2.2.2.2.2.1 k:Int)=t'
  by_cases ZK:j<=i
  ·obtain⟨k,k1,k2⟩:=NS j t' ZK w9
   exact⟨k,by rw[Dt.le];omega,by rw[Dt.on k k1];exact k2⟩
  ·have:j=i+1:=by omega
   subst this
   rw[Xb]at w9;cases w9
   exact⟨_,eF _,by rw[Dt.du];have:=eN.du;omega⟩
theorem f11_gen(P:List (List bP))(a:bK)(h:eA)(sh:Int)(hs:bU P)(h4:s8 P a=0->P.length<=4): ∃r,f11 P a h sh=some r/\(r.2=0->lO P a sh r.1):=by
 unfold f11
 rw[f38_eq P a hs]
 simp only[cK]
 by_cases h1:s8 P a=0
 case neg=>simp only[pU,h1,Hw,gp,cS];exact⟨_,rfl,λh=>absurd h h1⟩
 simp only[h1,pU,tt,dX,dj]
 obtain⟨e,e1,e2⟩:=f39_ex h
 rw[e1]
 simp only[cK]
 by_cases h2:e=0
 case neg=>simp only[h2,Hw,gp,cS];exact⟨_,rfl,λh=>absurd h h2⟩
 subst h2
 have hh:=e2 rfl
 simp only[tt,dX,dj,f40_eq,cK]
 cases eZ:om sh (-24) 24
 case false=>simp only[Hz,cS];exact⟨_,rfl,λh=>by simp at h⟩
 have aau: -24<=sh/\sh<=24:=by simpa[om]using eZ
 simp only[p8,dj]
 obtain⟨CQ,Ru⟩:=EE h1
 obtain⟨_,jN⟩:=jk CQ
 have hP4:=h4 h1
 have pZ:=oq 4 (by omega) λp hp=>(jN p hp).1
 have hat:f41 P=some (iU P.flatten):=f41_eq P (by omega) λp hp=>(jN p hp).1
 have Kl:=IJ (p:=P.flatten)
 have qM:=CS P.flatten
 have Ah:0<(iU P.flatten).length:=XB ((uI P.flatten 0).2 (.inr rfl))
 have Dy: ∀{y},y∈iU P.flatten->0<=y/\y<=262144:=λ{y}hy=>by
  rcases Ko hy with rfl|⟨x,hx,hq⟩
  ·omega
  ·obtain⟨i,k,hx⟩:=rI.1 hx
   have:=pB jN hx
   omega
 simp only[hat,cK]
 have w0:wr (((iU P.flatten).length:Int)-1)=(((iU P.flatten).length-1:Nat):Int):=by rw[iL (by omega) (by omega)];omega
 rw[w0]
 refine eK (λk(s:List (List cN)×Int)=>s.2=(k:Int)/\s.1.length=k/\ ∀(i:Nat)S,s.1[i]? =some S->S≠[]/\S.length<=4608/\(∀s∈S,s∈gJ)/\ ∀t t',(iU P.flatten)[i]? =some t->(iU P.flatten)[i+1]? =some t'->t'=t+kR S) (λo=>match o with
  |.inl s=>s.length+1=(iU P.flatten).length/\ ∀(i:Nat)S,s[i]? =some S->S≠[]/\S.length<=4608/\(∀s∈S,s∈gJ)/\ ∀t t',(iU P.flatten)[i]? =some t->(iU P.flatten)[i+1]? =some t'->t'=t+kR S
  |.inr r=>r.2=25) ((iU P.flatten).length-1) (by omega) ⟨rfl,rfl,by simp⟩ ?_ ?_ ?_
 ·rintro k ⟨s,i⟩ hk ⟨q1,q2,q3⟩
  simp only at q1 q2 q3
  subst q1
  have x1:(iU P.flatten)[k]? =some ((iU P.flatten)[k]'(by omega)):=dH _
  have x2:(iU P.flatten)[k+1]? =some ((iU P.flatten)[k+1]'(by omega)):=dH _
  generalize(iU P.flatten)[k]'(by omega)=t at x1
  generalize(iU P.flatten)[k+1]'(by omega)=t2 at x2
  have c1:(k:Int)<(((iU P.flatten).length-1:Nat):Int):=by omega
  have w1:wr ((k:Int)+1)=((k+1:Nat):Int):=gH (by omega)
  have b1:=Dy (gz x1)
  have b2:=Dy (gz x2)
  have b3:=pA qM (Ue k) x1 x2
  have w2:wr (t2-t)=t2-t:=iL (by omega) (by omega)
  obtain⟨r,r1,r2⟩:=f42_ex (t2-t)
  have m1:s.length+1<=bJ:=by unfold bJ;omega
  simp only[c1,gp,cS,w1,cj x2,cj x1,cK,w2,r1]
  by_cases c2:r.2=0
  ·obtain⟨_,n1,n2,n3⟩:=r2 c2
   simp only[c2,tt,dX,dj,dg m1]
   refine .inl ⟨_,rfl,rfl,by simp[q2],λi S hS=>?_⟩
   have TU:(s++[r.1])[i]? =some S:=hS
   clear hS
   rcases Dp i s.length with gq|KC
   ·rw[np gq]at TU
    exact q3 i S TU
   ·rw[pG KC]at TU
    have hi0:=(fP.1 TU).1
    simp at hi0
    have UJ:i=k:=by omega
    subst UJ
    rw[show i-s.length=0 by omega]at TU
    simp at TU;subst TU
    refine⟨λh=>?_,?_,n3,λt' t'' h1 h2=>?_⟩
    ·rw[h]at n2;simp[kR]at n2;omega
    ·have:=xC n3;omega
    ·rw[x1]at h1;rw[x2]at h2;cases h1;cases h2;omega
  ·simp only[c2,Hw,gp,cS]
   exact .inr ⟨_,rfl,rfl⟩
 ·rintro⟨s,i⟩ ⟨q1,q2,q3⟩
  simp only at q1 q2 q3
  subst q1
  simp only[ky,dX,dj]
  exact⟨_,rfl,by omega,q3⟩
 intro o ho
 cases o with
 |inr r=>exact⟨r,rfl,λh=>by have h3:r.2=25:=ho;omega⟩
 |inl fq=>
 obtain⟨Jz,Pg⟩:=ho
 have Jz:fq.length+1=(iU P.flatten).length:=Jz
 have Xe: ∀S∈fq,S≠[]/\S.length<=4608:=λS hS=>by
  obtain⟨i,hi,rfl⟩:=pH hS
  have:=Pg i _ (dH hi)
  exact⟨this.1,this.2.1⟩
 have TW:(iU P.flatten)[0]? =some 0:=by
  have e0:(iU P.flatten)[0]? =some ((iU P.flatten)[0]'Ah):=dH _
  obtain⟨m,Bm,Dx⟩:=pH ((uI P.flatten 0).2 (.inr rfl))
  have em:(iU P.flatten)[m]? =some 0:=by rw[<-Dx];exact dH Bm
  cases m with
  |zero=>exact em
  |succ m=>
   have:=pA qM (Nat.succ_pos m) e0 em
   have:=(Dy (gz e0)).1
   omega
 have hfb: ∀i,i<=fq.length-> ∀t,(iU P.flatten)[i]? =some t->((fq.take i).flatten.length:Int)<=t:=by
  intro i
  induction i with
  |zero=>intro _ t ht;rw[TW]at ht;cases ht;simp
  |succ i ih=>
   intro hi t' w9
   have et:(iU P.flatten)[i]? =some ((iU P.flatten)[i]'(by omega)):=dH _
   have eS:fq[i]? =some (fq[i]'(by omega)):=dH _
   have h1:=ih (by omega) _ et
   obtain⟨_,_,h2,h3⟩:=Pg i _ eS
   have h4:=h3 _ _ et w9
   have h5:=xC h2
   rw[py eS,jW]
   omega
 have hfb:fq.flatten.length<=262144:=by
  have et:(iU P.flatten)[fq.length]? =some ((iU P.flatten)[fq.length]'(by omega)):=dH _
  have h1:=hfb fq.length (eF _) _ et
  have h2:=Dy (gz et)
  rw[AL]at h1
  omega
 simp only[Ac]
 have Qd:fq.length<=3200:=by omega
 rw[f43_eq fq (by simp only[bU];omega) (by omega)]
 simp only[cK]
 by_cases h3:400<(fq.flatten.length:Int)
 case pos=>simp only[h3,gp,cS];exact⟨_,rfl,λh=>by simp at h⟩
 have AA:fq.length<=400:=by
  have: ∀l:List (List cN),(∀S∈l,S≠[])->l.length<=l.flatten.length:=by
   intro l
   induction l with
   |nil=>simp
   |cons S l ih=>
    intro hl
    have:=ih λS hS=>hl S (by simp[hS])
    have:=RO.2 (hl S (by simp))
    rw[List.flatten_cons,jW,oG];omega
  have:=this fq λS hS=>(Xe S hS).1
  omega
 obtain⟨i1,i2,_,_,_⟩:=instS_ok Ru
 rw[f44_eq a.ck (by simp only[bU];omega),f45_eq a.bN (by simp only[bU];omega),f46_eq P (by omega) λp hp=>(jN p hp).1]
 simp only[h3,dX,dj,cK]
 have aav:NT P a h sh fq 0 (([]:List aW),([]:List Int),([]:List Int),([]:List cn),([]:List bx),([]:List cr),([]:List cO),([]:List Int),([]:List cn),(P.map λp=>List.replicate p.length (⟨0,0⟩:aW)),([]:List cU),(0:Int)):=by
  refine⟨rfl,⟨⟨hh,e1,⟨by simp[bU],by simp[bU],by simp[bU]⟩,by simp,by simp⟩,zh⟩,by simp,by simp,by simp,λt ht=>?_,λj t hj ht=>⟨0,by simp,?_⟩⟩
  ·rw[TW]at ht;cases ht
   refine⟨⟨by simp,λe s hs=>?_⟩,rfl,by simp,by simp,by simp[EX,Function.comp_def],λi k x hx gq=>?_,by simp,λe s hs=>?_⟩
   ·obtain⟨d,d1,_⟩:=hs;simp at d1
   ·have:=pB jN hx;omega
   ·obtain⟨d,d1,_⟩:=hs;simp at d1
  ·have:j=0:=by omega
   subst this
   rw[TW]at ht;cases ht
   rfl
 refine eK (λk(s:StI)=>NT P a h sh fq k s) (λr=> ∃i,NT P a h sh fq fq.length (r.1,r.2.1,r.2.2.1,r.2.2.2.1,r.2.2.2.2.1,r.2.2.2.2.2.1,r.2.2.2.2.2.2.1,r.2.2.2.2.2.2.2.1,r.2.2.2.2.2.2.2.2.1,r.2.2.2.2.2.2.2.2.2.1,r.2.2.2.2.2.2.2.2.2.2,i)) fq.length (by omega) aav ?_ ?_ ?_
 ·rintro k s hk hI
  obtain⟨t,S,r,q,x1,x2,x3,x5,x6⟩:=NV P a h sh hP4 jN fq Jz (λi S hS=>by
   obtain⟨y1,_,y2,y3⟩:=Pg i S hS
   exact⟨y1,y2,y3⟩) AA (by omega) k s hk hI
  obtain⟨s1,s2,s3,ev,db,po,c0,c1,c2,wh,lo,ii⟩:=s
  have rS:=hI.ix
  simp only at rS
  subst rS
  simp only at x3 x5 x6
  simp only[cJ x2,cS,cj x2,cj x1,cK,x3,x5,dI (l:=fq) (by simp only[bU];omega) x2]
  exact .inl ⟨_,rfl,x6⟩
 ·rintro s hI
  obtain⟨s1,s2,s3,ev,db,po,c0,c1,c2,wh,lo,ii⟩:=s
  have rS:=hI.ix
  simp only at rS
  subst rS
  simp only[ky,dX,dj]
  exact⟨_,rfl,_,hI⟩
 rintro⟨s1,s2,s3,ev,db,po,c0,c1,c2,wh,lo⟩ ⟨ii,hI⟩
 obtain⟨g0,gd,gev,glv,gxl,gst,gon⟩:=hI
 simp only at g0 gd gev glv gxl gst gon
 have et:(iU P.flatten)[fq.length]? =some ((iU P.flatten)[fq.length]'(by omega)):=dH _
 generalize(iU P.flatten)[fq.length]'(by omega)=T at et
 have eN:=gst T et
 have EY: ∀t∈iU P.flatten,t<=T:=λt ht=>by
  obtain⟨m,Bm,Dx⟩:=pH ht
  have em:(iU P.flatten)[m]? =some t:=by rw[<-Dx];exact dH Bm
  rcases Jk m fq.length with c|c|c
  ·have:=pA qM c em et;omega
  ·subst c;rw[et]at em;have:=Option.some.inj em;omega
  ·omega
 have aaw: ∀(i k:Nat)x,dV P i k=some x->x.dx<=T:=λi k x hx=>by
  obtain⟨t,t1,t2⟩:=TN (p:=P.flatten) (λy hy=>by
   obtain⟨i,k,hy⟩:=rI.1 hy
   exact(pB jN hy).2.1) x (rI.2 ⟨i,k,hx⟩)
  have:=EY t t1
  omega
 have P9: ∀l∈lo,0<=l.part/\l.part<6/\0<=l.eI/\l.eI<400/\1<=l.kind/\l.kind<=3:=λl hl=>by
  obtain⟨i,k,x,l1,l2,l3,l4⟩:=eN.lo l hl
  have hx:=pB jN l3
  have hm:l∈jv lo i k:=lD.2 ⟨hl,by simp[th,l1,l2]⟩
  obtain⟨p,_,hf⟩:=eN.fa i k x l3 l4
  have hk:1<=l.kind/\l.kind<=3:=by
   rcases hf with⟨_,hf⟩|⟨e,D,_,_,hD,⟨hf,_⟩|⟨c,_,_,hf⟩⟩
   ·rw[hf]at hm;simp at hm;subst hm;simp
   ·rw[hf]at hm
    rcases hD with⟨rfl,_⟩|⟨rfl,_⟩
    ·simp at hm
    ·simp at hm;subst hm;simp
   ·rw[hf]at hm
    rcases hD with⟨rfl,_⟩|⟨rfl,_⟩
    ·simp at hm;subst hm;simp
    ·simp at hm;rcases hm with rfl|rfl<;>simp
  omega
 have Xf: ∀l∈lo,∀l'∈lo,kL l=kL l'->l=l':=λl hl l' uT he=>by
  have b1:=P9 l hl
  have b2:=P9 l' uT
  unfold kL at he
  obtain⟨i,k,x,l1,l2,l3,l4⟩:=eN.lo l hl
  have hm:l∈jv lo i k:=lD.2 ⟨hl,by simp[th,l1,l2]⟩
  have pM:l'∈jv lo i k:=lD.2 ⟨uT,by simp[th];omega⟩
  have Yv:l.kind=l'.kind:=by omega
  obtain⟨p,_,hf⟩:=eN.fa i k x l3 l4
  rcases hf with⟨_,hf⟩|⟨e,D,_,_,hD,⟨hf,_⟩|⟨c,_,_,hf⟩⟩
  ·rw[hf]at hm pM;simp at hm pM;rw[hm,pM]
  ·rw[hf]at hm pM
   rcases hD with⟨rfl,_⟩|⟨rfl,_⟩
   ·simp at hm
   ·simp at hm pM;rw[hm,pM]
  ·rw[hf]at hm pM
   rcases hD with⟨rfl,_⟩|⟨rfl,_⟩
   ·simp at hm pM;rw[hm,pM]
   ·simp at hm pM
    rcases hm with rfl|rfl<;>rcases pM with rfl|rfl
    ·rfl
    ·simp at Yv
    ·simp at Yv
    ·rfl
 obtain⟨r,r1,r2,r3⟩:=BG kL f51 lo (λx hx y hy=>by
  have b1:=P9 x hx
  have b2:=P9 y hy
  exact f51_key (by omega) (by omega)) (by simp only[bU];omega) Xf
 have Vh:=pz fq fq.length
 have m1:ev.length<=cT:=by unfold cT;omega
 have UE:wh.length=P.length:=by have:=fA List.length eN.ws;simpa using this
 have m2:wh.length<=cT:=by unfold cT;omega
 unfold f50
 simp only[r1,cK,dg m1,dg m2,dg r2.length_eq]
 refine⟨_,rfl,λ_=>⟨CQ,Ru,aau,rfl,rfl,⟨T,db,lo,eN,aaw,r2,gz et,EY,λt ht=>?_⟩,?_,?_,λl hl=>P9 l (r2.mem_iff.1 hl),?_⟩⟩
 ·obtain⟨m,Bm,Dx⟩:=pH ht
  have em:(iU P.flatten)[m]? =some t:=by rw[<-Dx];exact dH Bm
  exact gon m t (by omega) em
 ·show ev.length<=400;omega
 ·show r.length<=4000000;rw[r2.length_eq];omega
 ·have qQ:lo.Nodup:=List.nodup_iff_count.2 λl=>by
   by_cases hl:l∈lo
   ·obtain⟨i,k,x,l1,l2,l3,l4⟩:=eN.lo l hl
    have hc:(jv lo i k).count l=lo.count l:=List.count_filter (by simp[th,l1,l2])
    rw[<-hc]
    obtain⟨p,_,hf⟩:=eN.fa i k x l3 l4
    have:(jv lo i k).Nodup:=by
     rcases hf with⟨_,hf⟩|⟨e,D,_,_,hD,⟨hf,_⟩|⟨c,_,_,hf⟩⟩
     ·rw[hf];simp
     ·rw[hf]
      rcases hD with⟨rfl,_⟩|⟨rfl,_⟩<;>simp
     ·rw[hf]
      rcases hD with⟨rfl,_⟩|⟨rfl,_⟩<;>simp
    exact List.nodup_iff_count.1 this l
   ·rw[List.count_eq_zero_of_not_mem hl];omega
  have hnr:r.Pairwise λx y=>x≠y:=r2.nodup_iff.2 qQ
  show r.Pairwise _
  refine(r3.and hnr).imp_of_mem λ{x y}hx hy ⟨h1,h2⟩=>?_
  have:=Xf x (r2.mem_iff.1 hx) y (r2.mem_iff.1 hy)
  rcases Int.lt_or_eq_of_le h1 with h|h
  ·exact h
  ·exact absurd (this h) h2
theorem f244_eq(d:cn):f244 d=some (wZ d):=by
 unfold f244 wZ
 have:decide ((d.df.length:Int)=0)=d.df.isEmpty:=by
  cases d.df with
  |nil=>rfl
  |cons a l=>exact mC (by simp;omega)
 rw[this]
 cases d.df.isEmpty<;>rfl
theorem f245_eq(d:cn)(x:Int)(hs:bU d.df):f245 d x=some (tw d x):=by
 unfold f245 f78 f140_1 tw
 rw[ey d.df (λs:cW=>decide (s.bt=x)) (λi _=>(i:Int)) hs]
 ·simp only[cK,fC]
  rw[<-gb]
  unfold gG
  cases d.df.findIdx? _<;>simp
 ·intro i y hy
  simp only[cJ hy,cS,cj hy,cK,f296]
  cases decide (y.bt=x)<;>rfl
 ·simp
theorem Xg{s:cN}(h:s∈gJ):f129 s=some true/\oD s ⟨0,false,false⟩=false:=by
 obtain⟨h1,h2,_⟩:=jM s h
 have h0:oD s ⟨0,false,false⟩=false:=by
  cases hq:oD s ⟨0,false,false⟩
  ·rfl
  ·simp[oD]at hq
   have:s=⟨0,false,false⟩:=by cases s;simp at hq;simp[hq]
   rw[this]at h1 h2
   have h3:f93 ⟨0,false,false⟩=some 0:=rfl
   rw[h3]at h1
   have:=Option.some.inj h1
   omega
 refine⟨?_,h0⟩
 unfold f129
 have hd:decide (0<(tk s:Int))=true:=xM (by omega)
 simp only[h0,dj,h1,cK,hd]
section
variable {a:bK} {E:List cn}
theorem kS.Xh(h:kS a E){e:Nat}{d:cn}(hd:E[e]? =some d):d.df.length<=14:=by
 have:=xF (l:=d.df.map cW.bt) (n:=15) (lo:=1) (by rw[FB];exact(h.ev e d hd).qF) (λx hx=>by
  obtain⟨s,hs,rfl⟩:=jJ.1 hx
  obtain⟨q,hq⟩:=(h.st e s ⟨d,hd,hs⟩).pl
  have:=ie hq
  have h1:=this.2.1
  have h2:=this.2.2.1
  simp only at h1 h2
  omega) (by omega)
 simp at this;omega
theorem kS.tw(h:kS a E){e:Nat}{d:cn}(hd:E[e]? =some d)(x:Int):f245 d x=some (tw d x):=f245_eq d x (by have:=h.Xh hd;simp only[bU];omega)
theorem f192_ex(p:dS)(h:kS a p.bG)(hl:p.bG.length<=400){i:Nat}{s:cW}(hs:fy p.bG i s): ∃r,f192 p (i:Int) s.bt=some r/\s.hold<=r:=by
 have hi:=hs.lt
 have so:=h.st i s hs
 have ho:=h.hold hs
 unfold f192
 have c1:decide ((i:Int)<0)=false:=mC (by omega)
 have c2:decide ((p.bG.length:Int)<=(i:Int))=false:=mC (by omega)
 have w1:wr ((i:Int)+1)=((i+1:Nat):Int):=gH (by omega)
 have n1:(0:Int)<=((i+1:Nat):Int):=by omega
 have n2:i+1<=p.bG.length:=by omega
 simp only[c1,c2,dj,cK,w1,dg n1,oH,dg n2,AL]
 have FL:(p.bG.drop (i+1)).length=p.bG.length-(i+1):=Ug ..
 refine eK (λk(q:Int×Int)=>q=((k:Int),(k:Int))/\k<=15) (λr=>s.hold<=r) (p.bG.drop (i+1)).length (by omega) ⟨rfl,by omega⟩ ?_ ?_ ?_
 ·rintro k _ hk ⟨rfl,aaO⟩
  have e1:(p.bG.drop (i+1))[k]? =some ((p.bG.drop (i+1))[k]'hk):=dH _
  generalize(p.bG.drop (i+1))[k]'hk=d at e1
  have e2:p.bG[i+1+k]? =some d:=by rw[KS]at e1;exact e1
  simp only[cJ e1,cS,cj e1,cK,f244_eq,h.tw e2,gH (show k<=4194304 by omega)]
  by_cases hc:k<s.hold
  ·obtain⟨h1,h2⟩:=so.on (i+1+k) d (by omega) (by omega) e2
   have h3:=(so.hl (by omega)).2.1
   have c3:decide ((k:Int)=15)=false:=mC (by omega)
   simp only[h1,h2,c3,dj,cK]
   exact .inl ⟨_,rfl,rfl,by omega⟩
  ·cases c3:decide ((k:Int)=15)
   ·have c3:=Za c3
    cases wZ d
    ·cases tw d s.bt
     ·simp only[dj,cK]
      exact .inl ⟨_,rfl,rfl,by omega⟩
     ·simp only[dj,cK,cS]
      exact .inr ⟨_,rfl,by omega⟩
    ·simp only[dj,cK,cS]
     exact .inr ⟨_,rfl,by omega⟩
   ·simp only[cK,cS]
    exact .inr ⟨_,rfl,by omega⟩
 ·rintro _ ⟨rfl,_⟩
  simp only[ky,dX,dj]
  exact⟨_,rfl,by omega⟩
 ·intro r hr
  exact⟨r,rfl,hr⟩
theorem f130_y(p:dS)(h:kS p.instrument p.bG)(hl:p.bG.length<=400){i:Nat}{s:cW}(hs:fy p.bG i s){last:Int}(EY:last<s.bt):f130 p (i:Int) s last=some 0:=by
 have so:=h.st i s hs
 obtain⟨q,hq⟩:=so.pl
 obtain⟨_,p1,p2,p3,p4,c,p5,p6,_⟩:=ie hq
 simp only at p1 p2 p3 p4 p5 p6
 have Gr:=(fP.1 p5).1
 obtain⟨r,r1,r2⟩:=f192_ex p h hl hs
 obtain⟨s1,s2⟩:=so.rg
 have w1:wr (s.bt-1)=(((s.bt-1).toNat:Nat):Int):=by rw[iL (by omega) (by omega)];omega
 unfold f130
 have c1:decide (s.bt<1)=false:=mC (by omega)
 have c2:decide ((p.instrument.ck.length:Int)<s.bt)=false:=mC (by omega)
 have c3:decide (s.cy<0)=false:=mC (by omega)
 have c4:decide (c.dG<s.cy)=false:=mC (by omega)
 have c5:decide (s.bt<=last)=false:=mC (by omega)
 have c6:decide (s.hold<0)=false:=mC (by have:=so.h0;omega)
 have c7:decide (r<s.hold)=false:=mC (by omega)
 have c8:(bif decide (0<s.hold)then some (decide (s.cy=0))else some false)=some false:=by
  by_cases hh:0<s.hold
  ·have:=(so.hl hh).1
   have c9:decide (s.cy=0)=false:=mC (by omega)
   rw[c9];cases decide (0<s.hold)<;>rfl
  ·rw[mC hh];rfl
 simp only[c1,c2,c3,w1,cj p5,c4,c5,s1,s2,c6,r1,c7,c8,dj,cK]
 rfl
theorem f66_y(p:dS)(hi:instS p.instrument=0)(h:kS p.instrument p.bG)(hl:p.bG.length<=400):f66 p=some 0:=by
 have key: ∃r,f66 p=some r/\r=0:=by
  unfold f66
  have c1:decide (400<(p.bG.length:Int))=false:=mC (by omega)
  rw[f70_eq,hi]
  simp only[cK,pU,tt,dX,dj,c1]
  refine eK (λk(q:Int)=>q=(k:Int)) (λr=>r=.inl ()) p.bG.length (by omega) rfl ?_ ?_ ?_
  ·rintro k _ hk rfl
   have e1:p.bG[k]? =some (p.bG[k]'hk):=dH _
   generalize p.bG[k]'hk=d at e1
   have hd:=h.ev k d e1
   obtain⟨g1,g2⟩:=Xg hd.sg
   have hf:=h.Xh e1
   have c2:(bif decide ((k:Int)=0)then some false else some false)=some false:=by cases decide ((k:Int)=0)<;>rfl
   have c3:(bif d.tie then(bif decide ((k:Int)=0)then some true else some (decide (0<(d.df.length:Int))))else some false)=some false:=by
    cases ht:d.tie
    ·rfl
    ·obtain⟨t1,t2⟩:=hd.tie ht
     have:decide ((k:Int)=0)=false:=mC (by omega)
     rw[t1,this];rfl
   simp only[cJ e1,cS,cj e1,cK,g1,g2,c2,c3,p8,dj,dI (l:=p.bG) (by simp only[bU];omega) e1]
   refine .inl (BN (λj(q:Int×Int)=>q.2=(j:Int)/\ ∀s,d.df[j]? =some s->q.1<s.bt) (λr=>r=.inl ()) d.df.length (by omega) ⟨rfl,λs hs=>?_⟩ ?_ ?_ ?_)
   ·obtain⟨q,hq⟩:=(h.st k s ⟨d,e1,gz hs⟩).pl
    have:=(ie hq).2.1
    show 0<s.bt
    simp only at this;omega
   ·rintro j ⟨q1,q2⟩ hj ⟨e0,hq⟩
    simp only at e0 hq
    subst e0
    have e2:d.df[j]? =some (d.df[j]'hj):=dH _
    have gq:=hq _ e2
    have XQ:=f130_y p h hl (i:=k) (s:=d.df[j]'hj) ⟨d,e1,va _⟩ gq
    have qM:=hd.qF
    rw[DD]at qM
    simp only[cJ e2,cS,cj e2,cK,XQ,dI (l:=d.df) (by simp only[bU];omega) e2,pU,tt,dX,dj]
    refine .inl ⟨_,rfl,rfl,λs hs=>?_⟩
    obtain⟨UL,rfl⟩:=fP.1 hs
    exact qM j (j+1) hj UL (Ue j)
   ·rintro⟨q1,q2⟩ ⟨e0,hq⟩
    simp only at e0
    subst e0
    simp only[ky,dX,dj]
    exact⟨_,rfl,rfl⟩
   ·rintro _ rfl
    exact⟨_,rfl,rfl⟩
  ·rintro _ rfl
   simp only[ky,dX,dj]
   exact⟨_,rfl,rfl⟩
  ·rintro _ rfl
   exact⟨_,rfl,rfl⟩
 obtain⟨r,h1,rfl⟩:=key
 exact h1
def se(E:List cn):List Int:=(List.range (E.length+1)).map λk=>(iO E k:Int)
theorem uO:(se E).length=E.length+1:=by simp[se]
theorem mR{k:Nat}(h:k<=E.length):(se E)[k]? =some (iO E k:Int):=by
 unfold se
 rw[tx,List.getElem?_range (by omega)];rfl
theorem Rv(h:kS a E): ∀k,k<=E.length->iO E k<=768*k
 |0,_=>by simp[iO]
 |k+1,hk=>by
  have e1:E[k]? =some (E[k]'(by omega)):=dH _
  rw[CY e1]
  have:=Rv h k (by omega)
  have:=(jM _ (h.ev k _ e1).sg).2.2
  omega
theorem f29_y(p:dS)(hi:instS p.instrument=0)(h:kS p.instrument p.bG)(hl:p.bG.length<=400):f29 p=some (se p.bG,0):=by
 have key: ∃r,f139 [0] p=some r/\r=se p.bG:=by
  unfold f139
  refine eK (λk(q:List Int×Int×Int)=>q.2.2=(k:Int)/\q.1=(List.range (k+1)).map λk=>(iO p.bG k:Int)) (λr=>r=.inl (se p.bG)) p.bG.length (by omega) ⟨rfl,rfl⟩ ?_ ?_ ?_
  ·rintro k ⟨q1,q2,q3⟩ hk ⟨e0,e1⟩
   simp only at e0 e1
   subst e0;subst e1
   have x1:p.bG[k]? =some (p.bG[k]'hk):=dH _
   generalize p.bG[k]'hk=d at x1
   obtain⟨t1,t2,t3⟩:=jM _ (h.ev k d x1).sg
   have c1:decide (0<(tk d.sign:Int))=true:=xM (by omega)
   have y1:((List.range (k+1)).map λk=>(iO p.bG k:Int))[k]? =some (iO p.bG k:Int):=by rw[tx,List.getElem?_range (by omega)];rfl
   have m1:((List.range (k+1)).map λk=>(iO p.bG k:Int)).length+1<=bJ:=by simp;unfold bJ;omega
   have hb:=Rv h k (by omega)
   have w1:wr ((iO p.bG k:Int)+(tk d.sign:Int))=(iO p.bG (k+1):Int):=by rw[iL (by omega) (by omega),CY x1];omega
   simp only[cJ x1,cS,cj x1,cK,t1,c1,f351,cj y1,dg m1,w1,dI (l:=p.bG) (by simp only[bU];omega) x1]
   refine .inl ⟨_,rfl,rfl,?_⟩
   show _++_=_
   rw[XE (n:=k+1),Dm];rfl
  ·rintro⟨q1,q2,q3⟩ ⟨e0,e1⟩
   simp only at e0 e1
   subst e0;subst e1
   simp only[ky,dX,dj]
   exact⟨_,rfl,rfl⟩
  ·rintro _ rfl
   exact⟨_,rfl,rfl⟩
 obtain⟨r,h1,rfl⟩:=key
 unfold f29
 rw[f66_y p hi h hl]
 simp only[cK,pU,tt,dX,dj,f76,h1]
theorem f25_y{p:aW}{q:Int}(h:p∈(eD a q).1):f25 a p=some (q,0):=by
 obtain⟨h0,p1,p2,p3,p4,c,p5,p6,p7⟩:=ie h
 have Gr:=(fP.1 p5).1
 obtain⟨_,i2,_,_,i5⟩:=instS_ok h0
 have hc:=ka (i5 c (gz p5))
 have w1:wr (p.bt-1)=(((p.bt-1).toNat:Nat):Int):=by rw[iL (by omega) (by omega)];omega
 have c1:decide (p.bt<1)=false:=mC (by omega)
 have c2:decide ((a.ck.length:Int)<p.bt)=false:=mC (by omega)
 have c3:decide (p.cy<0)=false:=mC (by omega)
 have c4:decide (c.dG<p.cy)=false:=mC (by omega)
 have h71:=f71_eq a c p.cy.toNat (by omega) hc.2.1 i2
 rw[show((p.cy.toNat:Nat):Int)=p.cy by omega,p7]at h71
 unfold f25
 rw[f70_eq,h0]
 simp only[cK,pU,tt,dX,dj,c1,c2,w1,cj p5,c3,c4,h71]
end
structure zB (E:List cn) (e:Nat) (s:cW) (c:Nat):Prop where
 lt:e<c
 le:c<=E.length
 fr:0<s.cy->(e:Int)+s.hold<(c:Int)/\(∀(j:Nat)d,(e:Int)+s.hold<(j:Int)->j<c->E[j]? =some d->d.tie=true)/\ ∀d,E[c]? =some d->d.tie=false
 op: ¬0<s.cy->(∀(j:Nat)d,e<j->j<c->E[j]? =some d->wZ d=false/\tw d s.bt=false)/\ ∀d,E[c]? =some d->wZ d=true\/tw d s.bt=true
def NW(a:bK)(s:cW):Int:=((f25 a ⟨s.bt,s.cy⟩).getD (0,0)).1
def pR(a:bK)(E:List cn)(e:Nat)(s:cW)(to:Nat):ez:=⟨(e:Int),s.bt,NW a s,(iO E e:Int),(iO E to:Int)⟩
def nL(E:List cn)(i:Nat):List (Nat×cW):=(((E[i]?).map cn.df).getD []).map λs=>(i,s)
def stM(E:List cn):Nat->List (Nat×cW)
 |0=>[]
 |i+1=>stM E i++nL E i
structure kV (a:bK) (E:List cn) (i:Nat) (done:Int->Bool) (M:List (Nat×cW)) (out:List ez) (ring:List Int):Prop where
 ol:out.length=M.length
 rl:ring.length=15
 nt: ∀(m e:Nat)s,M[m]? =some (e,s)-> ∃c,out[m]? =some (pR a E e s c)/\(zB E e s c\/(¬0<s.cy/\ring[s.bt.toNat]? =some ((m:Int)+1)/\c=E.length))
 rg: ∀(x:Nat)v,ring[x]? =some v->v=0\/ ∃(m e:Nat)(s:cW),v=(m:Int)+1/\M[m]? =some (e,s)/\s.bt=(x:Int)/\ ¬0<s.cy/\out[m]? =some (pR a E e s E.length)/\(∀(j:Nat)d,e<j->j<i->E[j]? =some d->wZ d=false/\tw d s.bt=false)/\(e<i->done s.bt=false)
section
variable {a:bK} {E:List cn} {i:Nat} {done:Int->Bool} {M:List (Nat×cW)} {out:List ez} {ring:List Int} {d:cn}
theorem Rw(h:kV a E i done M out ring)(x:Nat)(hx:x<15)(hd:E[i]? =some d)(hs:wZ d=true\/tw d (x:Int)=true)(hM: ∀(m e:Nat)s,M[m]? =some (e,s)->s.bt=(x:Int)->e<i)(hl:M.length<=10000):
  ∃r,f126 (x:Int) (iO E i:Int) ring out=some r/\kV a E i (λy=>done y||decide (y=(x:Int))) M r.1 r.2/\r.2[x]? =some 0:=by
 have WJ:=h.rl
 have e1:ring[x]? =some (ring[x]'(by omega)):=dH _
 generalize ring[x]'(by omega)=v at e1
 have n1:(x:Int)<15:=by omega
 unfold f126
 simp only[dg n1,cj e1,cK]
 rcases h.rg x v e1 with rfl|⟨m,e,s,rfl,m1,m2,m3,m4,m5,m6⟩
 ·simp only[ky,dX,dj]
  refine⟨_,rfl,⟨h.ol,h.rl,h.nt,λx' v' hv=>?_⟩,e1⟩
  rcases h.rg x' v' hv with h0|⟨m,e,s,q1,q2,q3,q4,q5,q6,q7⟩
  ·exact .inl h0
  ·by_cases xg:x'=x
   ·subst xg;rw[e1]at hv;exact .inl (Option.some.inj hv).symm
   ·exact .inr ⟨m,e,s,q1,q2,q3,q4,q5,q6,λhq=>by rw[q7 hq,q3];exact mC (by omega)⟩
 ·have QB:=(fP.1 m1).1
  have c1:decide (0<(m:Int)+1)=true:=xM (by omega)
  have w1:wr ((m:Int)+1-1)=(m:Int):=by rw[show(m:Int)+1-1=(m:Int)by omega,iL (by omega) (by omega)]
  have hei:=hM m e s m1 m2
  have hmo:=(fP.1 m4).1
  simp only[c1,cS,w1,cj m4,cK,oH]
  refine⟨_,rfl,⟨by simpa using h.ol,by simpa using h.rl,λm' e' s' pM=>?_,λx' v' hv=>?_⟩,KB (by omega)⟩
  ·by_cases Oe:m=m'
   ·subst Oe
    rw[m1]at pM;cases pM
    refine⟨i,KB hmo,.inl ⟨hei,?_,λhf=>absurd hf m3,λ_=>⟨m5,λd' uX=>?_⟩⟩⟩
    ·have:=(fP.1 hd).1;omega
    ·rw[hd]at uX;cases uX;rw[m2];exact hs
   ·obtain⟨c,c2,c3⟩:=h.nt m' e' s' pM
    refine⟨c,by rw[FU Oe];exact c2,?_⟩
    rcases c3 with c3|⟨c3,c4,c5⟩
    ·exact .inl c3
    ·refine .inr ⟨c3,?_,c5⟩
     rw[FU]
     ·exact c4
     ·rintro rfl
      rw[e1]at c4
      have:=Option.some.inj c4
      omega
  ·by_cases xg:x=x'
   ·subst xg
    have hv:(ring.set x 0)[x]? =some v':=hv
    rw[KB (by omega)]at hv
    exact .inl (Option.some.inj hv).symm
   ·have hv:(ring.set x 0)[x']? =some v':=hv
    rw[FU xg]at hv
    rcases h.rg x' v' hv with h0|⟨m',e',s',q1,q2,q3,q4,q5,q6,q7⟩
    ·exact .inl h0
    ·have Oe:m≠m':=λhq=>by
      subst hq
      rw[m1]at q2;cases q2;omega
     exact .inr ⟨m',e',s',q1,q2,q3,q4,by show(out.set m _)[m']? =_;rw[FU Oe];exact q5,q6,λhq=>by rw[q7 hq,q3];exact mC (by omega)⟩
theorem kV.aax(h:kV a E i done M out ring){s:cW}{c:Nat}(hc:zB E i s c):kV a E i done (M++[(i,s)]) (out++[pR a E i s c]) ring:=by
 have FD:=h.ol
 refine⟨by simp[FD],h.rl,λm e s' hm=>?_,λx v hv=>?_⟩
 ·rcases Dp m M.length with q|q
  ·rw[np q]at hm
   obtain⟨c',c1,c2⟩:=h.nt m e s' hm
   exact⟨c',by rw[np (by omega)];exact c1,c2⟩
  ·rw[pG q]at hm
   have:=(fP.1 hm).1
   simp at this
   have hq:m=M.length:=by omega
   subst hq
   simp at hm
   obtain⟨rfl,rfl⟩:=hm
   exact⟨c,by rw[pG (by omega)];simp[FD],.inl hc⟩
 ·rcases h.rg x v hv with h0|⟨m,e,s',q1,q2,q3,q4,q5,q6⟩
  ·exact .inl h0
  ·have hm:=(fP.1 q2).1
   exact .inr ⟨m,e,s',q1,by rw[np hm];exact q2,q3,q4,by rw[np (by omega)];exact q5,q6⟩
theorem kV.aay(h:kV a E i done M out ring){s:cW}{x:Nat}(hx:s.bt=(x:Int))(QX:x<15)(hr:ring[x]? =some 0)(hf: ¬0<s.cy):kV a E i done (M++[(i,s)]) (out++[pR a E i s E.length]) (ring.set x ((M.length:Int)+1)):=by
 have FD:=h.ol
 have WJ:=h.rl
 have wT:(out++[pR a E i s E.length])[M.length]? =some (pR a E i s E.length):=by rw[pG (by omega)];simp[FD]
 have hxn:s.bt.toNat=x:=by omega
 refine⟨by simp[FD],by simpa using WJ,λm e s' hm=>?_,λx' v hv=>?_⟩
 ·rcases Dp m M.length with q|q
  ·rw[np q]at hm
   obtain⟨c',c1,c2⟩:=h.nt m e s' hm
   refine⟨c',by rw[np (by omega)];exact c1,?_⟩
   rcases c2 with c2|⟨c2,c3,c4⟩
   ·exact .inl c2
   ·refine .inr ⟨c2,?_,c4⟩
    rw[FU]
    ·exact c3
    ·rintro rfl
     rw[hr]at c3
     have:=Option.some.inj c3
     omega
  ·rw[pG q]at hm
   have:=(fP.1 hm).1
   simp at this
   have hq:m=M.length:=by omega
   subst hq
   simp at hm
   obtain⟨rfl,rfl⟩:=hm
   exact⟨E.length,wT,.inr ⟨hf,by rw[hxn,KB (by omega)],rfl⟩⟩
 ·by_cases xg:x=x'
  ·subst xg
   rw[KB (by omega)]at hv
   have hv:=(Option.some.inj hv).symm
   exact .inr ⟨M.length,i,s,hv,by simp,hx,hf,wT,λj d h1 h2=>by omega,λh=>by omega⟩
  ·rw[FU xg]at hv
   rcases h.rg x' v hv with h0|⟨m,e,s',q1,q2,q3,q4,q5,q6⟩
   ·exact .inl h0
   ·have hm:=(fP.1 q2).1
    exact .inr ⟨m,e,s',q1,by rw[np hm];exact q2,q3,q4,by rw[np (by omega)];exact q5,q6⟩
theorem kV.next(h:kV a E i done M out ring)(hM: ∀(m e:Nat)s,M[m]? =some (e,s)->1<=s.bt/\s.bt<=14)(hd:E[i]? =some d)(hn: ∀x:Int,1<=x->x<=14->done x=false->wZ d=false/\tw d x=false):kV a E (i+1) (λ_=>false) M out ring:=
 ⟨h.ol,h.rl,h.nt,λx v hv=>by
  rcases h.rg x v hv with h0|⟨m,e,s,q1,q2,q3,q4,q5,q6,q7⟩
  ·exact .inl h0
  ·obtain⟨b1,b2⟩:=hM m e s q2
   refine .inr ⟨m,e,s,q1,q2,q3,q4,q5,λj d' h1 h2 uX=>?_,λ_=>rfl⟩
   by_cases hj:j=i
   ·subst hj
    rw[hd]at uX;cases uX
    exact hn s.bt b1 b2 (q7 h1)
   ·exact q6 j d' h1 (by omega) uX⟩
theorem zC{x:Nat×cW}:x∈nL E i↔x.1=i/\fy E i x.2:=by
 unfold nL fy
 rw[jJ]
 constructor
 ·rintro⟨s,h1,rfl⟩
  cases hd:E[i]? with
  |none=>rw[hd]at h1;simp at h1
  |some d=>rw[hd]at h1;exact⟨rfl,d,rfl,by simpa using h1⟩
 ·rintro⟨rfl,d,h1,h2⟩
  exact⟨x.2,by rw[h1];simpa using h2,rfl⟩
theorem jx: ∀{i:Nat}{x:Nat×cW},x∈stM E i↔x.1<i/\fy E x.1 x.2
 |0,x=>by simp[stM]
 |i+1,x=>by
  unfold stM
  rw[lr,jx,zC]
  constructor
  ·rintro(⟨h1,h2⟩|⟨rfl,h2⟩)
   ·exact⟨by omega,h2⟩
   ·exact⟨by omega,h2⟩
  ·rintro⟨h1,h2⟩
   by_cases hq:x.1<i
   ·exact .inl ⟨hq,h2⟩
   ·have:x.1=i:=by omega
    subst this;exact .inr ⟨rfl,h2⟩
theorem rJ(h:kS a E): ∀i,(stM E i).length<=14*i
 |0=>by simp[stM]
 |i+1=>by
  have h1:=rJ h i
  have h2:(nL E i).length<=14:=by
   unfold nL
   cases hd:E[i]? with
   |none=>simp
   |some d=>simpa using h.Xh hd
  unfold stM
  rw[jW];omega
theorem C4(h:kS a E): ∀i,(stM E i).Pairwise λx y=>x.1<y.1\/x.1=y.1/\x.2.bt<y.2.bt
 |0=>by simp[stM]
 |i+1=>by
  unfold stM
  rw[Va]
  refine⟨C4 h i,?_,λx hx y hy=>.inl ?_⟩
  ·unfold nL
   cases hd:E[i]? with
   |none=>simp
   |some d=>
    show List.Pairwise _ (d.df.map _)
    rw[FB]
    exact(h.ev i d hd).qF.imp λh=>.inr ⟨rfl,h⟩
  ·rw[(zC.1 hy).1];exact(jx.1 hx).1
theorem f128_y(p:dS)(ons:List Int)(hl:p.bG.length<=400){s:cW}(h0:0<=s.hold)(hi:(i:Int)+s.hold<(p.bG.length:Int)): ∃r,f128 ⟨p,ons⟩ (i:Int) s.hold=some r/\ ∃c:Nat,r+1=(c:Int)/\c<=p.bG.length/\(i:Int)+s.hold<(c:Int)/\
  (∀(j:Nat)d,(i:Int)+s.hold<(j:Int)->j<c->p.bG[j]? =some d->d.tie=true)/\ ∀d,p.bG[c]? =some d->d.tie=false:=by
 unfold f128
 have w0:wr ((i:Int)+s.hold)=((i+s.hold.toNat:Nat):Int):=by rw[iL (by omega) (by omega)];omega
 rw[w0]
 generalize hg:i+s.hold.toNat=g
 refine iw (P1:=λr=> ∃c:Nat,r+1=(c:Int)/\c<=p.bG.length/\(g:Int)<(c:Int)/\(∀(j:Nat)d,g<j->j<c->p.bG[j]? =some d->d.tie=true)/\ ∀d,p.bG[c]? =some d->d.tie=false) ?_ ?_
 ·refine j7 (λk(q:Int)=>q=((g+k:Nat):Int)/\ ∀(j:Nat)d,g<j->j<=g+k->p.bG[j]? =some d->d.tie=true) _ (p.bG.length-1-g) (by omega) ⟨by simp,λj d h1 h2=>by omega⟩ ?_ ?_
  ·rintro k _ hk ⟨rfl,hq⟩
   have w1:wr (((g+k:Nat):Int)+1)=((g+k+1:Nat):Int):=gH (by omega)
   have e1:p.bG[g+k+1]? =some (p.bG[g+k+1]'(by omega)):=dH _
   generalize p.bG[g+k+1]'(by omega)=d at e1
   simp only[w1,cJ e1,cS,cj e1,cK]
   cases ht:d.tie
   ·refine .inr ⟨_,rfl,g+k+1,by omega,by omega,by omega,λj d' h1 h2=>hq j d' h1 (by omega),λd' uX=>?_⟩
    rw[e1]at uX;cases uX;exact ht
   ·refine .inl ⟨_,rfl,rfl,λj d' h1 h2 uX=>?_⟩
    by_cases hj:j=g+k+1
    ·subst hj;rw[e1]at uX;cases uX;exact ht
    ·exact hq j d' h1 (by omega) uX
  ·rintro _ ⟨rfl,hq⟩
   have w1:wr (((g+(p.bG.length-1-g):Nat):Int)+1)=((p.bG.length:Nat):Int):=by rw[gH (by omega)];congr 1;omega
   simp only[w1,ky,dX,dj,cK]
   exact⟨_,rfl,p.bG.length,by omega,eF _,by omega,λj d' h1 h2=>hq j d' h1 (by omega),λd' uX=>by simp at uX⟩
 ·rintro r ⟨c,c1,c2,c3,c4,c5⟩
  exact⟨r,rfl,c,c1,c2,by omega,λj d h1 h2=>c4 j d (by omega) h2,c5⟩
theorem f65_y(p:dS)(h:kS p.instrument p.bG)(hl:p.bG.length<=400): ∃r,f65 ⟨p,se p.bG⟩=some r/\(r.1.length=(stM p.bG p.bG.length).length/\
  ∀(m e:Nat)s,(stM p.bG p.bG.length)[m]? =some (e,s)-> ∃c,zB p.bG e s c/\r.1[m]? =some (pR p.instrument p.bG e s c)):=by
 have iz: ∀{e s},fy p.bG e s->1<=s.bt/\s.bt<=14/\f25 p.instrument ⟨s.bt,s.cy⟩=some (NW p.instrument s,0):=λ{e s}hs=>by
  obtain⟨q,hq⟩:=(h.st e s hs).pl
  obtain⟨_,p1,p2,_⟩:=ie hq
  refine⟨p1,p2,?_⟩
  unfold NW
  rw[f25_y hq];rfl
 have Pr:f127 ⟨p,se p.bG⟩=some (iO p.bG p.bG.length:Int):=by
  unfold f127
  have w1:wr (((se p.bG).length:Int)-1)=((p.bG.length:Nat):Int):=by rw[uO,iL (by omega) (by omega)];omega
  simp only[w1,cj (mR (eF _)),cK]
 unfold f65
 refine eK (λk(q:List ez×List ig×List Int×Int)=>q.2.2.2=(k:Int)/\q.2.1.length=(stM p.bG k).length/\kV p.instrument p.bG k (λ_=>false) (stM p.bG k) q.1 q.2.2.1)
  (λr=> ∃ring,kV p.instrument p.bG p.bG.length (λ_=>false) (stM p.bG p.bG.length) r.1 ring) p.bG.length (by omega) ⟨rfl,rfl,⟨rfl,rfl,by simp[stM],λx v hv=>?_⟩⟩ ?_ ?_ ?_
 ·left
  have hx:=(fP.1 hv).1
  simp at hx
  have hv:(List.replicate 15 (0:Int))[x]? =some v:=hv
  rw[Xz,dD hx]at hv
  exact(Option.some.inj hv).symm
 ·rintro k ⟨q1,q2,q3,q4⟩ hk ⟨e0,e1,e2⟩
  simp only at e0 e1 e2
  subst e0
  have x1:p.bG[k]? =some (p.bG[k]'hk):=dH _
  generalize p.bG[k]'hk=d at x1
  have hML:=rJ h k
  have hf:=h.Xh x1
  have Oj:((bif decide ((d.df.length:Int)=0)then some (!d.tie)else some false):Option Bool)=some (wZ d):=by
   have:=f244_eq d
   unfold f244 at this
   rw[<-this]
   cases decide ((d.df.length:Int)=0)<;>rfl
  simp only[cJ x1,cS,cj x1,cj (mR (Qw hk)),cK,Oj,dI (l:=p.bG) (by simp only[bU];omega) x1]
  have hMk: ∀(m e:Nat)s,(stM p.bG k)[m]? =some (e,s)->e<k/\1<=s.bt/\s.bt<=14:=λm e s hm=>by
   obtain⟨h1,h2⟩:=jx.1 (gz hm)
   have:=iz h2
   exact⟨h1,this.1,this.2.1⟩
  have first: ∃z,((bif wZ d then((bZ (σ:=(List ez×List Int×Int)) (τ:=(List ez×List Int)) (λ((Rx,Ry,NX):(List ez×List Int×Int))=>bif (decide (NX<15))then((f126 NX (iO p.bG k:Int) Ry Rx).bind λr7=>some (.inl (r7.1,r7.2,(wr (NX+1)))))else(some (.inr (Rx,Ry)))) cz (q1,q3,0)).bind λ((TY,TZ):(List ez×List Int))=>some (TY,TZ))else(some (q1,q3))):Option (List ez×List Int))=some z/\
    ∃bR:Int->Bool,(∀x:Int,1<=x->x<=14->bR x=false->wZ d=false)/\kV p.instrument p.bG k bR (stM p.bG k) z.1 z.2:=by
   cases hr:wZ d
   ·exact⟨_,rfl,λ_=>false,λ_ _ _ _=>rfl,e2⟩
   ·refine eK (λj(q:List ez×List Int×Int)=>q.2.2=(j:Int)/\kV p.instrument p.bG k (λy=>decide (y<(j:Int))&&decide (0<=y)) (stM p.bG k) q.1 q.2.1) (λr=>kV p.instrument p.bG k (λy=>decide (y<15)&&decide (0<=y)) (stM p.bG k) r.1 r.2) 15 (by omega) ⟨rfl,?_⟩ ?_ ?_ ?_
    ·have:(λy:Int=>decide (y<((0:Nat):Int))&&decide (0<=y))=λ_=>false:=by
      funext y
      by_cases hy:y<0
      ·have: ¬0<=y:=by omega
       simp[this]
      ·have: ¬y<((0:Nat):Int):=by omega
       simp only[this,dX,XK]
     rw[this];exact e2
    ·rintro j ⟨r1,r2,r3⟩ hj ⟨f0,f1⟩
     simp only at f0 f1
     subst f0
     have c1:decide ((j:Int)<15)=true:=xM (by omega)
     obtain⟨r,s1,s2,_⟩:=Rw f1 j hj x1 (.inl hr) (λm e s hm _=>(hMk m e s hm).1) (by omega)
     simp only[c1,cS,s1,cK,gH (show j<=4194304 by omega)]
     refine .inl ⟨_,rfl,rfl,?_⟩
     have:(λy:Int=>decide (y<((j+1:Nat):Int))&&decide (0<=y))=λy:Int=>(decide (y<(j:Int))&&decide (0<=y))||decide (y=(j:Int)):=by
      funext y
      rw[Bool.eq_iff_iff]
      simp
      omega
     rw[this];exact s2
    ·rintro⟨r1,r2,r3⟩ ⟨f0,f1⟩
     simp only at f0 f1
     subst f0
     exact⟨_,rfl,f1⟩
    ·rintro⟨r1,r2⟩ R3
     exact⟨_,rfl,_,λx h1 h2 h3=>by simp at h3;omega,R3⟩
  obtain⟨⟨z1,z2⟩,hz,bR,vf,xf⟩:=first
  simp only[hz,cK]
  refine .inl (BN (λj(q:List ez×List ig×List Int×Int)=>q.2.2.2=(j:Int)/\q.2.1.length=(stM p.bG k).length+j/\kV p.instrument p.bG k (λy=>bR y||(d.df.take j).any λs=>decide (s.bt=y)) (stM p.bG k++(d.df.take j).map λs=>(k,s)) q.1 q.2.2.1)
   (λr=>r.2.1.length=(stM p.bG (k+1)).length/\kV p.instrument p.bG k (λy=>bR y||tw d y) (stM p.bG (k+1)) r.1 r.2.2) d.df.length (by omega) ⟨rfl,by simpa using e1,?_⟩ ?_ ?_ ?_)
  ·simpa using xf
  ·rintro j ⟨r1,r2,r3,r4⟩ hj ⟨f0,f1,f2⟩
   simp only at f0 f1 f2
   subst f0
   have y1:d.df[j]? =some (d.df[j]'hj):=dH _
   have UR:fy p.bG k (d.df[j]'hj):=⟨d,x1,va _⟩
   have qM:=(h.ev k d x1).qF
   rw[DD]at qM
   have Xi: ∀s∈d.df.take j,s.bt<(d.df[j]'hj).bt:=λs hs=>by
    rw[List.mem_take_iff_getElem]at hs
    obtain⟨i',AP,rfl⟩:=hs
    exact qM i' j (by omega) hj (by omega)
   generalize d.df[j]'hj=s at y1 UR Xi
   obtain⟨b1,b2,b3⟩:=iz UR
   have jz:s.bt=((s.bt.toNat:Nat):Int):=by omega
   have Qe:tw d ((s.bt.toNat:Nat):Int)=true:=vV.2 ⟨s,gz y1,by simpa using jz⟩
   have FD:=f2.ol
   have hM2:(stM p.bG k++(d.df.take j).map λs=>(k,s)).length<=14*k+14:=by simp;omega
   obtain⟨r,s1,s2,s3⟩:=Rw f2 s.bt.toNat (by omega) x1 (.inr Qe) (λm e s' hm hc=>by
    rcases lr.1 (gz hm)with hm|hm
    ·exact(jx.1 hm).1
    ·obtain⟨s'',t1,t2⟩:=jJ.1 hm
     cases t2
     have:=Xi s' t1
     omega) (by omega)
   rw[<-jz]at s1
   have aaz:=s2.ol
   have n2:r.1.length+1<=bJ:=by unfold bJ;omega
   have n3:r2.length+1<=bJ:=by unfold bJ;omega
   have hMs:(stM p.bG k++(d.df.take (j+1)).map λs=>(k,s))=(stM p.bG k++(d.df.take j).map λs=>(k,s))++[(k,s)]:=by rw[cQ y1];simp
   have hdn:(λy=>bR y||(d.df.take (j+1)).any λs=>decide (s.bt=y))=λy=>(bR y||(d.df.take j).any λs=>decide (s.bt=y))||decide (y=((s.bt.toNat:Nat):Int)):=by
    funext y
    rw[cQ y1,List.any_append,XD]
    congr 2
    simp only[U4,List.any_nil,U8]
    rw[<-jz]
    by_cases hq:s.bt=y
    ·simp[hq]
    ·have: ¬y=s.bt:=λh=>hq h.symm
     simp[hq,this]
   simp only[cJ y1,cS,cj y1,cK,s1,b3,Pr,dI (l:=d.df) (by simp only[bU];omega) y1]
   by_cases sx:0<s.cy
   ·have so:=h.st k s UR
    obtain⟨t,t1,c,t2,t3,t4,t5,t6⟩:=f128_y (i:=k) p (se p.bG) hl so.h0 (h.hold UR)
    have w1:wr (t+1)=(c:Int):=by rw[t2,iL (by omega) (by omega)]
    simp only[sx,gp,cS,t1,cK,w1,cj (mR t3),dg n2,dg n3]
    refine .inl ⟨_,rfl,rfl,by simp[f1];omega,?_⟩
    rw[hMs,hdn]
    have:=so.h0
    exact s2.aax (c:=c) ⟨by omega,t3,λ_=>⟨t4,t5,t6⟩,λhq=>absurd sx hq⟩
   ·have n4:s.bt<15:=by omega
    have s3':ix r.2 s.bt=some 0:=by rw[jz];exact cj s3
    have w1:wr ((r.1.length:Int)+1)=((stM p.bG k++(d.df.take j).map λs=>(k,s)).length:Int)+1:=by rw[iL (by omega) (by omega),aaz]
    simp only[sx,dX,dj,dg n4,s3',cK,w1,dg n2,dg n3]
    refine .inl ⟨_,rfl,rfl,by simp[f1];omega,?_⟩
    rw[hMs,hdn]
    exact s2.aay jz (by omega) s3 sx
  ·rintro⟨r1,r2,r3,r4⟩ ⟨f0,f1,f2⟩
   simp only at f0 f1 f2
   subst f0
   simp only[ky,dX,dj]
   rw[AL]at f2
   have hM3:stM p.bG (k+1)=stM p.bG k++d.df.map λs=>(k,s):=by show stM p.bG k++nL p.bG k=_;unfold nL;rw[x1];rfl
   exact⟨_,rfl,by rw[hM3];simpa using f1,by rw[hM3];exact f2⟩
  ·rintro⟨r1,r2,r3⟩ ⟨f1,f2⟩
   refine⟨_,rfl,rfl,f1,f2.next (λm e s hm=>?_) x1 λx h1 h2 h3=>?_⟩
   ·have:=iz (jx.1 (gz hm)).2
    exact⟨this.1,this.2.1⟩
   ·simp only[Fx]at h3
    exact⟨vf x h1 h2 h3.1,h3.2⟩
 ·rintro⟨q1,q2,q3,q4⟩ ⟨e0,e1,e2⟩
  simp only at e0 e1 e2
  subst e0
  simp only[ky,dX,dj]
  exact⟨_,rfl,q3,e2⟩
 ·rintro⟨r1,r2⟩ ⟨ring,hr⟩
  refine⟨_,rfl,hr.ol,λm e s hm=>?_⟩
  obtain⟨c,c1,c2⟩:=hr.nt m e s hm
  refine⟨c,?_,c1⟩
  rcases c2 with c2|⟨c2,c3,rfl⟩
  ·exact c2
  ·have UR:=jx.1 (gz hm)
   rcases hr.rg _ _ c3 with h0|⟨m',e',s',g1,g2,_,_,_,g6,_⟩
   ·omega
   ·have:m'=m:=by omega
    subst this
    rw[hm]at g2;cases g2
    exact⟨UR.1,eF _,λhf=>absurd hf c2,λ_=>⟨g6,λd hd=>by simp at hd⟩⟩
theorem f22_y(p:dS)(hi:instS p.instrument=0)(h:kS p.instrument p.bG)(hl:p.bG.length<=400): ∃N,f22 p=some (N,0)/\N.length=(stM p.bG p.bG.length).length/\
  ∀(m e:Nat)s,(stM p.bG p.bG.length)[m]? =some (e,s)-> ∃c,zB p.bG e s c/\N[m]? =some (pR p.instrument p.bG e s c):=by
 obtain⟨r,r1,r2⟩:=f65_y p h hl
 unfold f22 f64
 rw[f29_y p hi h hl]
 simp only[cK,pU,tt,dX,dj,r1]
 exact⟨r.1,rfl,r2⟩
theorem Rg.NY{e c c':Nat}{s:cW}{p:aW}(h:Rg E e p c')(h2:zB E e s c)(hs:fy E e s)(hc:s.bt=p.bt)(hf:s.cy=p.cy):c'<=c:=by
 rcases Dp c c' with q|q
 ·exfalso
  have hl:=h.le
  have e1:E[c]? =some (E[c]'(by omega)):=dH _
  by_cases hp:0<s.cy
  ·obtain⟨f1,_,f3⟩:=h2.fr hp
   have h3:=f3 _ e1
   rw[h.ho s hs hc (by omega) c _ f1 q e1]at h3;cases h3
  ·obtain⟨h3,h4⟩:=h.on c _ h2.lt q e1
   rcases(h2.op hp).2 _ e1 with h5|h5
   ·rw[h3]at h5;cases h5
   ·rw[hc,h4]at h5;cases h5
 ·exact q
theorem Nd.T0{e c c':Nat}{s:cW}{p:aW}(h:Nd E e p c')(h2:zB E e s c)(hs:fy E e s)(hc:s.bt=p.bt)(hf:s.cy=p.cy):c'=c:=by
 have h1:=h.rg.NY h2 hs hc hf
 rcases Dp c' c with q|q
 ·exfalso
  obtain⟨d,d1,d2,d3⟩:=h.en
  by_cases hp:0<s.cy
  ·obtain⟨f1,f2⟩:=d2 (by omega)
   rw[(h2.fr hp).2.1 c' d (f2 s hs hc) q d1]at f1;cases f1
  ·have:=((h2.op hp).1 c' d h.rg.lt q d1).2
   rw[hc,d3 (by omega)]at this;cases this
 ·omega
end
def tm(i k:Nat)(c:Int)(l:cU):Bool:=decide (l.part=(i:Int))&&(decide (l.eI=(k:Int))&&decide (l.kind=c))
def Rz(X:List cU)(i k:Nat)(c:Int):Prop:= ∀l∈X,tm i k c l=false
theorem zD{i k:Nat}{c:Int}{l:cU}:tm i k c l=true↔l.part=(i:Int)/\l.eI=(k:Int)/\l.kind=c:=by simp[tm]
structure RA (P:List (List bP)) (a:bK) (sh:Int) (s:dC) (i k:Nat) (x:bP) (p:aW):Prop where
 pl:p∈(eD a (wr (x.bY+sh))).1
 n1:Rz s.cI i k 1
 n2:(Twin P s.dz i x p/\(⟨(i:Int),(k:Int),2,x.bW⟩:cU)∈s.cI)\/(¬Twin P s.dz i x p/\Rz s.cI i k 2)
 st: ∃(e:Nat)(t:cW),fy s.bM.bG e t/\t.bt=p.bt/\t.cy=p.cy/\x.bW=(iO s.bM.bG e:Int)/\
  ((Rz s.cI i k 3/\ ∃c,Rg s.bM.bG e p c/\x.dx<=(iO s.bM.bG c:Int))\/ ∃c,Nd s.bM.bG e p c/\(iO s.bM.bG c:Int)<x.dx/\(⟨(i:Int),(k:Int),3,(iO s.bM.bG c:Int)⟩:cU)∈s.cI)
def Xj(s:dC)(i k:Nat)(x:bP)(p:aW):Prop:=p=⟨0,0⟩/\(⟨(i:Int),(k:Int),1,x.bW⟩:cU)∈s.cI/\Rz s.cI i k 2/\Rz s.cI i k 3
section
variable {P:List (List bP)} {a:bK} {sh:Int} {s:dC}
theorem lO.Hh(h:lO P a sh s){i k:Nat}{x:bP}(hx:dV P i k=some x): ∃p,eT s.dz i k=some p/\(Xj s i k x p\/RA P a sh s i k x p):=by
 obtain⟨T,L,X,eN,KM,sC,_⟩:=h.set
 have jN:=(jk h.pr).2
 have Yu:=pB jN hx
 have hxT:=KM i k x hx
 obtain⟨p,p1,p2⟩:=eN.fa i k x hx (by omega)
 have ku: ∀l,l∈s.cI-> ∀c,tm i k c l=true->l∈jv X i k:=λl hl c hq=>by
  rw[zD]at hq
  exact lD.2 ⟨sC.mem_iff.1 hl,by simp[th,hq.1,hq.2.1]⟩
 have eZ: ∀l,l∈jv X i k->l∈s.cI:=λl hl=>sC.mem_iff.2 (lD.1 hl).1
 have rQ: ∀c,(∀l∈jv X i k,l.kind≠c)->Rz s.cI i k c:=λc hc l hl=>by
  cases hq:tm i k c l
  ·rfl
  ·exact absurd (zD.1 hq).2.2 (hc l (ku l hl c hq))
 refine⟨p,p1,?_⟩
 rcases p2 with⟨rfl,p2⟩|⟨e,D,d1,d2,d3,d4⟩
 ·exact .inl ⟨rfl,eZ _ (by rw[p2];simp),rQ 2 (by rw[p2];simp),rQ 3 (by rw[p2];simp)⟩
 ·right
  have NS: ∀{c c'},c<=c'->c'<=s.bM.bG.length->iO s.bM.bG c<=iO s.bM.bG c':=λ{c c'}h1 h2=>by
   rcases Dp c c' with q|q
   ·exact Qw (pP eN.ev q h2)
   ·have:c=c':=by omega
    subst this;exact eF _
  rcases d4 with⟨d4,d5⟩|⟨c,c1,c2,c3⟩
  ·have hr: ∃c,Rg s.bM.bG e p c/\x.dx<=(iO s.bM.bG c:Int):=by
    rcases d5 with⟨n,n1,n2,n3⟩|d5
    ·obtain⟨e0,e1,e2,e3⟩:=(eN.lv n n1).ev
     obtain⟨i',k',x',f1,f2,_,f4,_⟩:=e3 _ n2
     simp at f1
     obtain⟨g1,g2⟩:=f1
     have:i=i':=by omega
     subst this
     have:k=k':=by omega
     subst this
     have:e0=e:=by omega
     subst this
     rw[p1]at f4;cases f4
     exact⟨_,e2,by have:=eN.du;omega⟩
    ·exact d5
   obtain⟨c,c1,c2⟩:=hr
   obtain⟨t,t1,t2,t3⟩:=c1.st
   refine⟨d1,rQ 1 ?_,?_,e,t,t1,t2,t3,d2.symm,.inl ⟨rQ 3 ?_,c,c1,c2⟩⟩
   ·rw[d4];rcases d3 with⟨rfl,_⟩|⟨rfl,_⟩<;>simp
   ·rcases d3 with⟨rfl,h1⟩|⟨rfl,h1⟩
    ·exact .inr ⟨h1,rQ 2 (by rw[d4];simp)⟩
    ·exact .inl ⟨h1,eZ _ (by rw[d4];simp)⟩
   ·rw[d4];rcases d3 with⟨rfl,_⟩|⟨rfl,_⟩<;>simp
  ·obtain⟨t,t1,t2,t3⟩:=c1.rg.st
   refine⟨d1,rQ 1 ?_,?_,e,t,t1,t2,t3,d2.symm,.inr ⟨c,c1,c2,eZ _ (by rw[c3];simp)⟩⟩
   ·rw[c3];rcases d3 with⟨rfl,_⟩|⟨rfl,_⟩<;>simp
   ·rcases d3 with⟨rfl,h1⟩|⟨rfl,h1⟩
    ·exact .inr ⟨h1,rQ 2 (by rw[c3];simp)⟩
    ·exact .inl ⟨h1,eZ _ (by rw[c3];simp)⟩
theorem lO.one(h:lO P a sh s){l l':cU}(h1:l∈s.cI)(h2:l'∈s.cI)(he:kL l=kL l'):l=l':=by
 have hs:=h.srt
 rw[DD]at hs
 obtain⟨i,hi,rfl⟩:=pH h1
 obtain⟨j,hj,rfl⟩:=pH h2
 rcases Jk i j with q|q|q
 ·have:=hs i j hi hj q;omega
 ·subst q;rfl
 ·have:=hs j i hj hi q;omega
theorem f136_eq(X:List cU)(i k:Nat)(c:Int)(hs:bU X):f136 X ⟨(i:Int),(k:Int)⟩ c=some (gG (tm i k c) X):=by
 unfold f136
 rw[ey X (tm i k c) (λi _=>(i:Int)) hs]
 ·simp only[cK,fC,gG]
  cases X.findIdx? _<;>simp
 ·intro j y hy
  simp only[cJ hy,cS,cj hy,cK,f137,tm]
  cases decide (y.part=(i:Int))<;>cases decide (y.eI=(k:Int))<;>cases decide (y.kind=c)<;>rfl
 ·simp
theorem f72_none(A:dT){i k:Nat}{c:Int}(hs:bU A.s.cI)(h:Rz A.s.cI i k c):f72 A ⟨(i:Int),(k:Int)⟩ c=some (⟨0,0,0,0⟩,false):=by
 unfold f72
 rw[f136_eq _ _ _ _ hs]
 have:decide (gG (tm i k c) A.s.cI<0)=true:=by
  rw[xz]
  have:A.s.cI.any (tm i k c)=false:=by
   rw[KA]
   intro l hl
   rw[h l hl];simp
  rw[this];rfl
 simp only[cK,this,cS]
theorem f72_some(A:dT){i k:Nat}{c:Int}{l:cU}(hs:bU A.s.cI)(hl:l∈A.s.cI)(hk:tm i k c l=true)(hu: ∀l'∈A.s.cI,tm i k c l'=true->l'=l):f72 A ⟨(i:Int),(k:Int)⟩ c=some (l,true):=by
 unfold f72
 rw[f136_eq _ _ _ _ hs]
 obtain⟨j,x,e1,e2,e3⟩:=rA (vV.2 ⟨l,hl,hk⟩)
 have:=hu x (gz e2) e3
 subst this
 have c1:decide ((j:Int)<0)=false:=mC (by omega)
 simp only[cK,e1,c1,dj,cj e2]
theorem lO.f72s(h:lO P a sh s)(N:List ez)(B:List Bool){i k:Nat}{c t:Int}(hl:(⟨(i:Int),(k:Int),c,t⟩:cU)∈s.cI):f72 ⟨P,s,N,B⟩ ⟨(i:Int),(k:Int)⟩ c=some (⟨(i:Int),(k:Int),c,t⟩,true):=
 f72_some _ (by show s.cI.length<=_;have:=h.ll;omega) hl (by simp[tm]) λl' h1 h2=>h.one h1 hl (by
  rw[zD]at h2
  unfold kL
  rw[h2.1,h2.2.1,h2.2.2])
theorem qN{P:List (List bP)}{i k:Nat}{x:bP}(h:dV P i k=some x): ∃p,P[i]? =some p/\p[k]? =some x:=by
 unfold dV at h
 cases hp:P[i]? with
 |none=>rw[hp]at h;simp at h
 |some p=>rw[hp]at h;exact⟨p,rfl,by simpa using h⟩
theorem vH{W:List (List aW)}{i k:Nat}{p:aW}(h:eT W i k=some p): ∃w,W[i]? =some w/\w[k]? =some p:=by
 unfold eT at h
 cases hp:W[i]? with
 |none=>rw[hp]at h;simp at h
 |some w=>rw[hp]at h;exact⟨w,rfl,by simpa using h⟩
theorem C5{P:List (List bP)}{i k:Nat}{p:List bP}{x:bP}(h1:P[i]? =some p)(h2:p[k]? =some x):dV P i k=some x:=by unfold dV;rw[h1];exact h2
theorem aaA{n i:Nat}(h:i<n)(hn:n<=4194304):wr ((i:Int)+1)=((i+1:Nat):Int):=gH (by omega)
theorem f132_y(h:lO P a sh s)(N:List ez)(B:List Bool){i k:Nat}{x:bP}{p:aW}(hx:dV P i k=some x)(hp:eT s.dz i k=some p)(h0:1<=p.bt): ∃b,f132 ⟨P,s,N,B⟩ ⟨(i:Int),(k:Int)⟩=some b/\(b=true↔Twin P s.dz i x p):=by
 obtain⟨TP,jN⟩:=jk h.pr
 obtain⟨q,x1,x2⟩:=qN hx
 obtain⟨w,y1,y2⟩:=vH hp
 have hi:=(fP.1 x1).1
 have P4:=h.ll
 unfold f132
 simp only[cj x1,cj x2,cj y1,cj y2,cK]
 refine eK (λl(z:Int)=>z=(l:Int)/\ ∀(i' k':Nat)x',i'<l->dV P i' k'=some x'->x'.bW=x.bW->eT s.dz i' k'≠some p) (λr=>match r with
  |.inl _=> ¬Twin P s.dz i x p
  |.inr b=>b=true/\Twin P s.dz i x p) i (by omega) ⟨rfl,λi' k' x' h=>by omega⟩ ?_ ?_ ?_
 ·rintro l _ hl ⟨rfl,hq⟩
  have z1:P[l]? =some (P[l]'(by omega)):=dH _
  have Yw:=(jN _ (va (by omega:l<P.length))).1
  generalize P[l]'(by omega)=q' at z1 Yw
  have c1:decide ((l:Int)<(i:Int))=true:=xM (by omega)
  simp only[c1,cS,cj z1,cK,aaA hl (by omega)]
  have row: ∃r,bZ (σ:=Int) (τ:=(Unit⊕(Int⊕(Unit⊕Bool)))) (λ(EZ:Int)=>bif (decide (EZ<(q'.length:Int)))then((((ix q' EZ).bind λy8=>((bif (decide (y8.bW≠x.bW))then(some true)else((ix s.dz (l:Int)).bind λy10=>(ix y10 EZ).bind λy11=>some (!(gY y11 p)))):Option Bool).bind λ(Xk:Bool)=>bif Xk then(some (.inl ()))else((f72 ⟨P,s,N,B⟩ (⟨(l:Int),EZ⟩:bX) 1).bind λr13=>bif (!r13.2)then(some (.inr (.inr (.inr (.inr (.inr true))))))else(some (.inl ())))):Option (Unit⊕(Int⊕(Unit⊕(Int⊕(Unit⊕Bool)))))).bind (Sum.elim (λ(_:Unit)=>some (.inl (wr (EZ+1)))) some))else(some (.inr (.inl ())))) cz 0=some r/\
    ((r=.inl ()/\ ∀(k':Nat)x',q'[k']? =some x'->x'.bW=x.bW->eT s.dz l k'≠some p)\/(r=.inr (.inr (.inr true))/\Twin P s.dz i x p)):=by
   refine j7 (λj(z:Int)=>z=(j:Int)/\ ∀(k':Nat)x',k'<j->q'[k']? =some x'->x'.bW=x.bW->eT s.dz l k'≠some p) _ q'.length (by omega) ⟨rfl,λk' x' h=>by omega⟩ ?_ ?_
   ·rintro j _ hj ⟨rfl,hr⟩
    have v1:q'[j]? =some (q'[j]'hj):=dH _
    generalize q'[j]'hj=x' at v1
    have ht:=C5 z1 v1
    obtain⟨p',p1,p2⟩:=h.Hh ht
    obtain⟨w',w1,w2⟩:=vH p1
    simp only[cJ v1,cS,cj v1,cj w1,cj w2,cK,dI (l:=q') (by simp only[bU];omega) v1]
    by_cases hf:x'.bW=x.bW
    ·simp only[hf,pU,tt,dX,dj,cK,EM]
     by_cases JI:p'=p
     ·subst JI
      rcases p2 with⟨p2,_⟩|p2
      ·rw[p2]at h0;simp at h0
      ·rw[f72_none _ (by show s.cI.length<=_;omega) p2.n1]
       simp only[gp,p8,dj,cK,Hz,cS]
       exact .inr ⟨_,rfl,.inr ⟨rfl,l,j,x',hl,ht,hf,p1⟩⟩
     ·simp only[JI,dX,Hz,cS,cK]
      refine .inl ⟨_,rfl,rfl,λk' x'' hk yH uU=>?_⟩
      by_cases hkj:k'=j
      ·subst hkj;rw[p1];exactλh=>JI (Option.some.inj h)
      ·exact hr k' x'' (by omega) yH uU
    ·simp only[hf,pU,Hw,gp,cS,cK]
     refine .inl ⟨_,rfl,rfl,λk' x'' hk yH uU=>?_⟩
     by_cases hkj:k'=j
     ·subst hkj;rw[v1]at yH;cases yH;exact absurd uU hf
     ·exact hr k' x'' (by omega) yH uU
   ·rintro _ ⟨rfl,hr⟩
    simp only[ky,dX,dj]
    exact⟨_,rfl,.inl ⟨rfl,λk' x' pV uU=>hr k' x' (fP.1 pV).1 pV uU⟩⟩
  obtain⟨r,r1,r2⟩:=row
  rw[r1]
  rcases r2 with⟨rfl,r2⟩|⟨rfl,r2⟩
  ·refine .inl ⟨_,rfl,rfl,λi' k' x' sO pV uU=>?_⟩
   by_cases hii:i'=l
   ·subst hii
    obtain⟨q'',g1,g2⟩:=qN pV
    rw[z1]at g1;cases g1
    exact r2 k' x' g2 uU
   ·exact hq i' k' x' (by omega) pV uU
  ·exact .inr ⟨_,rfl,rfl,r2⟩
 ·rintro _ ⟨rfl,hq⟩
  simp only[ky,dX,dj]
  exact⟨_,rfl,λ⟨i',k',x',t1,t2,t3,t4⟩=>hq i' k' x' t1 t2 t3 t4⟩
 ·intro r hr
  cases r with
  |inl u=>exact⟨_,rfl,by simpa using hr⟩
  |inr b=>
   obtain⟨rfl,h2⟩:=hr
   exact⟨_,rfl,by simpa using h2⟩
def xH(p:dS)(N:List ez):Prop:=N.length=(stM p.bG p.bG.length).length/\
 ∀(m e:Nat)s,(stM p.bG p.bG.length)[m]? =some (e,s)-> ∃c,zB p.bG e s c/\N[m]? =some (pR p.instrument p.bG e s c)
theorem T1{E:List cn}{e:Nat}{t:cW}(h:fy E e t): ∃m:Nat,(stM E E.length)[m]? =some (e,t):=by
 obtain⟨m,hm,he⟩:=pH ((jx (x:=(e,t))).2 ⟨h.lt,h⟩)
 exact⟨m,by rw[dH hm,he]⟩
theorem E0(h:lO P a sh s){N:List ez}(hN:xH s.bM N){m e:Nat}{t:cW}(hm:(stM s.bM.bG s.bM.bG.length)[m]? =some (e,t)){j:Nat}{y:ez}(hy:N[j]? =some y)(h1:y.bW=(iO s.bM.bG e:Int))(h2:y.bt=t.bt):j=m:=by
 obtain⟨T,L,X,eN,_⟩:=h.set
 have hj:=(fP.1 hy).1
 have ej:(stM s.bM.bG s.bM.bG.length)[j]? =some ((stM s.bM.bG s.bM.bG.length)[j]'(by rw[<-hN.1];exact hj)):=dH _
 generalize(stM s.bM.bG s.bM.bG.length)[j]'(by rw[<-hN.1];exact hj)=z at ej
 obtain⟨e',t'⟩:=z
 obtain⟨c,_,c2⟩:=hN.2 j e' t' ej
 rw[hy]at c2;cases c2
 have m1:=jx.1 (gz hm)
 have m2:=jx.1 (gz ej)
 have m1l:=m1.1
 have m2l:=m2.1
 have h1:((iO s.bM.bG e':Nat):Int)=(iO s.bM.bG e:Int):=h1
 have he:e'=e:=CZ eN.ev (Qw m2l) (Qw m1l) (by omega)
 subst he
 have h2:t'.bt=t.bt:=h2
 have ht:=eN.ev.one m2.2 m1.2 h2
 subst ht
 have hp:=C4 eN.ev s.bM.bG.length
 rw[DD]at hp
 obtain⟨i1,i2⟩:=fP.1 hm
 obtain⟨j1,j2⟩:=fP.1 ej
 rcases Jk j m with c|c|c
 ·have:=hp j m j1 i1 c
  rw[i2,j2]at this;simp at this
 ·exact c
 ·have:=hp m j i1 j1 c
  rw[i2,j2]at this;simp at this
theorem f194_y(h:lO P a sh s){N:List ez}(hN:xH s.bM N)(B:List Bool){x:bP}{p:aW}{m e:Nat}{t:cW}(hm:(stM s.bM.bG s.bM.bG.length)[m]? =some (e,t))(h1:x.bW=(iO s.bM.bG e:Int))(h2:t.bt=p.bt)(h3:t.cy=p.cy)
  (h4:p∈(eD a (wr (x.bY+sh))).1):f194 N x p ⟨P,s,N,B⟩=some (m:Int):=by
 obtain⟨T,L,X,eN,_⟩:=h.set
 obtain⟨c,_,c2⟩:=hN.2 m e t hm
 have hNl:N.length<=5600:=by have:=rJ eN.ev s.bM.bG.length;have:=h.el;have:=hN.1;omega
 have aaB:NW s.bM.instrument t=wr (x.bY+sh):=by
  unfold NW
  rw[show(⟨t.bt,t.cy⟩:aW)=p by rw[h2,h3],h.ai,f25_y h4];rfl
 unfold f194
 rw[ey N (λy=>decide (y.bW=x.bW)&&(decide (y.bt=p.bt)&&decide (y.bY=wr (x.bY+s.shift)))) (λi _=>(i:Int)) (by simp only[bU];omega)]
 ·have rS:=ES (p:=λy:ez=>decide (y.bW=x.bW)&&(decide (y.bt=p.bt)&&decide (y.bY=wr (x.bY+s.shift)))) c2 (by simp[pR,aaB,h.si,h1,h2]) λj y hy hq=>by
   simp at hq
   exact E0 h hN hm hy (by rw[hq.1,h1]) (by rw[hq.2.1,h2])
  simp only[cK,fC]
  unfold gG at rS
  cases hf:N.findIdx? (λy=>decide (y.bW=x.bW)&&(decide (y.bt=p.bt)&&decide (y.bY=wr (x.bY+s.shift))))with
  |none=>rw[hf]at rS;simp at rS
  |some j=>rw[hf]at rS;simp at rS;simp[rS]
 ·intro j y hy
  simp only[cJ hy,cS,cj hy,cK,f195]
  cases decide (y.bW=x.bW)<;>cases decide (y.bt=p.bt)<;>cases decide (y.bY=wr (x.bY+s.shift))<;>rfl
 ·simp
theorem f68_y(h:lO P a sh s){N:List ez}(hN:xH s.bM N)(B:List Bool)(hB:B.length=N.length){i k:Nat}{x:bP}(hx:dV P i k=some x):
  ∃B',f68 ⟨P,s,N,B⟩ ⟨(i:Int),(k:Int)⟩=some (true,B')/\B'.length=B.length/\(∀m:Nat,B[m]? =some true->B'[m]? =some true)/\
   ∀(m e:Nat)t,(stM s.bM.bG s.bM.bG.length)[m]? =some (e,t)->eT s.dz i k=some ⟨t.bt,t.cy⟩->x.bW=(iO s.bM.bG e:Int)->B'[m]? =some true:=by
 obtain⟨T,L,X,eN,_⟩:=h.set
 have P4:=h.ll
 have AA:bU s.cI:=by simp only[bU];omega
 obtain⟨q,x1,x2⟩:=qN hx
 obtain⟨p,p1,p2⟩:=h.Hh hx
 obtain⟨w,y1,y2⟩:=vH p1
 unfold f68
 rcases p2 with⟨rfl,d1,d2,d3⟩|v8
 ·have e1:=h.f72s N B d1
  have e2:f131 ⟨P,s,N,B⟩ ⟨(i:Int),(k:Int)⟩ ⟨(i:Int),(k:Int),1,x.bW⟩=some true:=by
   unfold f131
   rw[f72_none _ AA d2,f72_none _ AA d3]
   simp only[cK,Hz,cS,cj x1,cj x2,cj y1,cj y2,gp]
   rfl
  simp only[e1,cK,cS,e2]
  refine⟨B,rfl,rfl,λm hm=>hm,λm e t hm hp _=>?_⟩
  have hs:=(jx.1 (gz hm)).2
  obtain⟨q',hq'⟩:=(eN.ev.st e t hs).pl
  have h1:=(ie hq').2.1
  rw[p1]at hp
  have:=Option.some.inj hp
  simp at this h1
  omega
 ·have PQ:=(ie v8.pl).2.1
  obtain⟨e,t,s1,s2,s3,s4,s5⟩:=v8.st
  obtain⟨m,hm⟩:=T1 s1
  obtain⟨c,c1,c2⟩:=hN.2 m e t hm
  have QB:=(fP.1 c2).1
  obtain⟨b,b1,b2⟩:=f132_y h N B hx p1 PQ
  have e2: ∃r4,f72 ⟨P,s,N,B⟩ ⟨(i:Int),(k:Int)⟩ 2=some r4/\(!(r4.2==b))=false/\(r4.2=true->r4.1.time=x.bW):=by
   rcases v8.n2 with⟨n1,n2⟩|⟨n1,n2⟩
   ·refine⟨_,h.f72s N B n2,?_,λ_=>rfl⟩
    rw[b2.2 n1];rfl
   ·refine⟨_,f72_none _ AA n2,?_,λh=>by simp at h⟩
    have:b=false:=by
     cases b
     ·rfl
     ·exact absurd (b2.1 rfl) n1
    rw[this];rfl
  obtain⟨r4,r1,r2,r3⟩:=e2
  have e3:(bif r4.2 then(some (decide (r4.1.time≠x.bW)))else some false)=some false:=by
   cases hr:r4.2
   ·rfl
   ·have:=r3 hr
    simp[this]
  have e4:f193 s.bM.instrument p (wr (x.bY+s.shift))=some true:=by
   unfold f193
   rw[h.ai,h.si,f25_y v8.pl]
   simp
  have e5:=f194_y h hN B hm s4 s2 s3 v8.pl
  have e6:B[m]? =some (B[m]'(by omega)):=dH _
  have c3:decide ((m:Int)<0)=false:=mC (by omega)
  have e7:f133 ⟨P,s,N,B⟩ ⟨(i:Int),(k:Int)⟩=some (true,B.set m true):=by
   unfold f133
   simp only[cj x1,cj x2,cj y1,cj y2,cK,e4,p8,dj,e5,c3,cj e6,cj c2,oH]
   rcases s5 with⟨n3,c',r5,r6⟩|⟨c',r5,r6,r7⟩
   ·rw[f72_none ⟨P,s,N,B.set m true⟩ AA n3]
    have:=r5.NY c1 s1 s2 s3
    have eE:x.dx<=(iO s.bM.bG c:Int):=by
     rcases Dp c' c with q|q
     ·have:=pP eN.ev q c1.le;omega
     ·have:c'=c:=by omega
      subst this;exact r6
    have:decide (x.dx<=(pR s.bM.instrument s.bM.bG e t c).dx)=true:=xM eE
    simp only[cK,dj,this]
   ·rw[h.f72s N (B.set m true) r7]
    have:=r5.T0 c1 s1 s2 s3
    subst this
    have:decide ((iO s.bM.bG c':Int)<x.dx)=true:=xM r6
    simp only[cK,cS,this]
    simp[pR]
  rw[f72_none ⟨P,s,N,B⟩ AA v8.n1]
  simp only[cK,dj,r1,b1,r2,cj x1,cj x2,e3,e7]
  refine⟨_,rfl,by simp,λm' pM=>?_,λm' e' t' pM AS uU=>?_⟩
  ·by_cases hq:m=m'
   ·subst hq;exact KB (by omega)
   ·rw[FU hq];exact pM
  ·rw[p1]at AS
   have AS:=Option.some.inj AS
   obtain⟨c',_,c4⟩:=hN.2 m' e' t' pM
   have:m'=m:=E0 h hN hm c4 (by show(iO s.bM.bG e':Int)=_;omega) (by show t'.bt=_;rw[s2,AS])
   subst this
   exact KB (by omega)
theorem f67_y(h:lO P a sh s)(N:List ez)(B:List Bool):f67 ⟨P,s,N,B⟩=some true:=by
 have key: ∃r,f67 ⟨P,s,N,B⟩=some r/\r=true:=by
  obtain⟨T,L,X,eN,_,sC,_⟩:=h.set
  obtain⟨TP,jN⟩:=jk h.pr
  have P4:=h.ll
  unfold f67
  refine eK (λk(z:Int)=>z=(k:Int)) (λr=>r=.inl ()) s.cI.length (by omega) rfl ?_ ?_ ?_
  ·rintro k _ hk rfl
   have e1:s.cI[k]? =some (s.cI[k]'hk):=dH _
   have hl:=va hk
   have Ym:=h.lk _ hl
   obtain⟨i,j,x,l1,l2,l3,_⟩:=eN.lo _ (sC.mem_iff.1 hl)
   obtain⟨q,x1,x2⟩:=qN l3
   have hi:=(fP.1 x1).1
   have hj:=(fP.1 x2).1
   have Yw:=(jN q (gz x1)).1
   have Xl:=h.srt
   rw[DD]at Xl
   have Xm: ∀k',k'+1=k-> ∃l',s.cI[k']? =some l'/\f51 l' (s.cI[k]'hk)=some (-1):=λk' lx=>by
    have e2:s.cI[k']? =some (s.cI[k']'(by omega)):=dH _
    refine⟨_,e2,?_⟩
    have hb:=h.lk _ (va (by omega:k'<s.cI.length))
    rw[f51_key (by omega) (by omega)]
    have:=Xl k' k (by omega) hk (by omega)
    simp[pX,this]
   generalize s.cI[k]'hk=l at e1 Ym l1 l2 Xm
   have w1:wr ((P.length:Int)-1)=(P.length:Int)-1:=iL (by omega) (by omega)
   have w2:wr ((q.length:Int)-1)=(q.length:Int)-1:=iL (by omega) (by omega)
   have r1:om l.part 0 ((P.length:Int)-1)=true:=by simp[om];omega
   have r2:om l.eI 0 ((q.length:Int)-1)=true:=by simp[om];omega
   have r3:om l.kind 1 3=true:=by simp[om];omega
   have ixp:ix P l.part=some q:=by rw[l1];exact cj x1
   simp only[cJ e1,cS,cj e1,cK,f40_eq,w1,r1,ixp,w2,r2,r3,p8,dj,dI (l:=s.cI) (by simp only[bU];omega) e1]
   by_cases To:k=0
   ·subst To
    exact .inl ⟨_,rfl,rfl⟩
   ·obtain⟨l',g1,g2⟩:=Xm (k-1) (by omega)
    have c1:decide ((0:Int)<(k:Int))=true:=xM (by omega)
    have w3:wr ((k:Int)-1)=((k-1:Nat):Int):=by rw[iL (by omega) (by omega)];omega
    have c2:decide ((0:Int)<= -1)=false:=rfl
    simp only[c1,cS,w3,cj g1,cK,g2,c2,dj]
    exact .inl ⟨_,rfl,rfl⟩
  ·rintro _ rfl
   simp only[ky,dX,dj]
   exact⟨_,rfl,rfl⟩
  ·rintro _ rfl
   exact⟨_,rfl,rfl⟩
 obtain⟨r,h1,rfl⟩:=key
 exact h1
theorem f69_all(B:List Bool)(hs:bU B)(h: ∀(m:Nat)b,B[m]? =some b->b=true):f69 B false=some false:=by
 unfold f69 f134
 rw[ey B (λb=>false==b) (λi _=>(i:Int)) hs]
 ·have:B.findIdx? (λb=>false==b)=none:=by
   rw[XH]
   intro b hb
   obtain⟨m,hm,rfl⟩:=pH hb
   rw[h m _ (dH hm)];rfl
  simp only[cK,fC,this]
  rfl
 ·intro j y hy
  simp only[cJ hy,cS,cj hy,cK]
  cases(false==y)<;>rfl
 ·simp
theorem f23_y(h:lO P a sh s):f23 P s=some 0:=by
 have key: ∃r,f23 P s=some r/\r=0:=by
  obtain⟨T,L,X,eN,KM,sC,_⟩:=h.set
  obtain⟨TP,jN⟩:=jk h.pr
  have Ga:kS s.bM.instrument s.bM.bG:=by rw[h.ai];exact eN.ev
  have tT:instS s.bM.instrument=0:=by rw[h.ai];exact h.ins
  obtain⟨N,n1,n2⟩:=f22_y s.bM tT Ga h.el
  have hN:xH s.bM N:=n2
  have hNl:N.length<=5600:=by have:=rJ eN.ev s.bM.bG.length;have:=h.el;have:=hN.1;omega
  have UE:s.dz.length=P.length:=by have:=fA List.length eN.ws;simpa using this
  have hr:om s.shift (-24) 24=true:=by have:=h.shr;rw[h.si];simp[om];omega
  have cw:decide ((s.dz.length:Int)≠(P.length:Int))=false:=by rw[UE];simp
  unfold f23
  rw[f28_eq P (by simp only[bU];omega),h.pr,f66_y s.bM tT Ga h.el,f40_eq,hr]
  simp only[cK,pU,tt,dX,dj,p8,cw]
  refine eK (λk(z:Int)=>z=(k:Int)) (λr=>r=.inl ()) P.length (by omega) rfl ?_ ?_ ?_
  ·rintro k _ hk rfl
   have e1:P[k]? =some (P[k]'hk):=dH _
   have e2:s.dz[k]? =some (s.dz[k]'(by omega)):=dH _
   generalize P[k]'hk=q at e1
   generalize s.dz[k]'(by omega)=w at e2
   have dA:w.length=q.length:=by
    have:=fA (·[k]?) eN.ws
    simp only[tx,e1,e2,gy]at this
    exact Option.some.inj this
   have c1:decide (¬(w.length:Int)=(q.length:Int))=false:=by rw[dA];simp
   simp only[cJ e1,cS,cj e1,cj e2,cK,c1,dj,dI (l:=P) (by simp only[bU];omega) e1]
   exact .inl ⟨_,rfl,rfl⟩
  ·rintro _ rfl
   simp only[ky,dX,dj]
   exact⟨_,rfl,rfl⟩
  rintro _ rfl
  have m1:(0:Int)<=(N.length:Int):=by omega
  have m2:(N.length:Int)<=(bJ:Int):=by unfold bJ;omega
  simp only[Ac,n1,cK,tt,dX,dj,dg m1,dg m2,oH,f67_y h,p8]
  refine eK (λi(z:List Bool×Int)=>z.2=(i:Int)/\z.1.length=N.length/\ ∀(m e:Nat)t,(stM s.bM.bG s.bM.bG.length)[m]? =some (e,t)->(∃(i' k':Nat)(x':bP),i'<i/\dV P i' k'=some x'/\eT s.dz i' k'=some ⟨t.bt,t.cy⟩/\x'.bW=(iO s.bM.bG e:Int))->z.1[m]? =some true)
   (λr=> ∃B,r=.inl B/\B.length=N.length/\ ∀(m:Nat)b,B[m]? =some b->b=true) P.length (by omega) ⟨rfl,by simp,λm e t _ ⟨i',_,_,h,_⟩=>by omega⟩ ?_ ?_ ?_
  ·rintro i ⟨B,_⟩ hi ⟨e0,b1,b2⟩
   simp only at e0 b1 b2
   subst e0
   have e1:P[i]? =some (P[i]'hi):=dH _
   have Yw:=(jN _ (va hi)).1
   generalize P[i]'hi=q at e1 Yw
   simp only[cJ e1,cS,cj e1,cK,dI (l:=P) (by simp only[bU];omega) e1]
   refine .inl (BN (λk(z:List Bool×Int)=>z.2=(k:Int)/\z.1.length=N.length/\ ∀(m e:Nat)t,(stM s.bM.bG s.bM.bG.length)[m]? =some (e,t)->(∃(i' k':Nat)(x':bP),(i'<i\/i'=i/\k'<k)/\dV P i' k'=some x'/\eT s.dz i' k'=some ⟨t.bt,t.cy⟩/\x'.bW=(iO s.bM.bG e:Int))->z.1[m]? =some true)
    (λr=> ∃B',r=.inl B'/\B'.length=N.length/\ ∀(m e:Nat)t,(stM s.bM.bG s.bM.bG.length)[m]? =some (e,t)->(∃(i' k':Nat)(x':bP),i'<i+1/\dV P i' k'=some x'/\eT s.dz i' k'=some ⟨t.bt,t.cy⟩/\x'.bW=(iO s.bM.bG e:Int))->B'[m]? =some true) q.length (by omega) ⟨rfl,b1,λm e t hm ⟨i',k',x',h1,h2⟩=>b2 m e t hm ⟨i',k',x',by omega,h2⟩⟩ ?_ ?_ ?_)
   ·rintro k ⟨B1,_⟩ hk ⟨f0,f1,f2⟩
    simp only at f0 f1 f2
    subst f0
    have y1:q[k]? =some (q[k]'hk):=dH _
    generalize q[k]'hk=x at y1
    have hx:=C5 e1 y1
    obtain⟨B',g1,g2,g3,g4⟩:=f68_y h hN B1 f1 hx
    simp only[cJ y1,cS,g1,cK,p8,dj,dI (l:=q) (by simp only[bU];omega) y1]
    refine .inl ⟨_,rfl,rfl,by rw[g2];exact f1,λm e t hm ⟨i',k',x',h1,h2,h3,h4⟩=>?_⟩
    by_cases hc:i'=i/\k'=k
    ·obtain⟨rfl,rfl⟩:=hc
     rw[hx]at h2;cases h2
     exact g4 m e t hm h3 h4
    ·exact g3 m (f2 m e t hm ⟨i',k',x',by omega,h2,h3,h4⟩)
   ·rintro⟨B1,_⟩ ⟨f0,f1,f2⟩
    simp only at f0 f1 f2
    subst f0
    simp only[ky,dX,dj]
    refine⟨_,rfl,B1,rfl,f1,λm e t hm ⟨i',k',x',h1,h2,h3⟩=>f2 m e t hm ⟨i',k',x',?_,h2,h3⟩⟩
    by_cases hc:i'=i
    ·subst hc
     obtain⟨q',y1,y2⟩:=qN h2
     rw[e1]at y1;cases y1
     exact .inr ⟨rfl,(fP.1 y2).1⟩
    ·exact .inl (by omega)
   ·rintro _ ⟨B',rfl,f1,f2⟩
    exact⟨_,rfl,rfl,f1,f2⟩
  ·rintro⟨B,_⟩ ⟨e0,b1,b2⟩
   simp only at e0 b1 b2
   subst e0
   simp only[ky,dX,dj]
   refine⟨_,rfl,B,rfl,b1,λm b hb=>?_⟩
   have hm:=(fP.1 hb).1
   have em:(stM s.bM.bG s.bM.bG.length)[m]? =some ((stM s.bM.bG s.bM.bG.length)[m]'(by rw[<-hN.1];omega)):=dH _
   generalize(stM s.bM.bG s.bM.bG.length)[m]'(by rw[<-hN.1];omega)=z at em
   obtain⟨e,t⟩:=z
   obtain⟨i',k',x',h1,h2,h3⟩:=eN.sp e t (jx.1 (gz em)).2
   have:=b2 m e t em ⟨i',k',x',(pB jN h1).2.2.2.2.2.2,h1,h3,h2⟩
   rw[hb]at this;exact Option.some.inj this
  rintro _ ⟨B,rfl,b1,b2⟩
  simp only[Ac,f69_all B (by simp only[bU];omega) b2,cK,dj]
  exact⟨_,rfl,rfl⟩
 obtain⟨r,h1,rfl⟩:=key
 exact h1
end
def gW(P:List (List bP)):List (Nat×Nat):=(List.range P.length).flatMap λi=>(List.range ((P[i]?).getD []).length).map λk=>(i,k)
theorem pC{P:List (List bP)}{i k:Nat}:(i,k)∈gW P↔ ∃x,dV P i k=some x:=by
 unfold gW dV
 simp only[sF,jJ,AN,Prod.mk.injEq]
 constructor
 ·rintro⟨a,h1,b,h2,rfl,rfl⟩
  have e1:P[a]? =some P[a]:=dH h1
  rw[e1]at h2 |-
  exact⟨_,dH (by simpa using h2)⟩
 ·rintro⟨x,hx⟩
  cases hp:P[i]? with
  |none=>rw[hp]at hx;simp at hx
  |some p=>
   rw[hp]at hx
   have h1:=(fP.1 hp).1
   have h2:=(fP.1 (show p[k]? =some x by simpa using hx)).1
   exact⟨i,h1,k,by rw[hp];simpa using h2,rfl,rfl⟩
theorem vI{α β:Type}{f:α->β}{l:List α}(h:l.Nodup)(hf: ∀x∈l,∀y∈l,f x=f y->x=y):(l.map f).Nodup:=by
 show List.Pairwise _ _
 rw[FB]
 exact List.Pairwise.imp_of_mem (λ{x y}hx hy Ca he=>Ca (hf x hx y hy he)) h
theorem uP(P:List (List bP)):(gW P).Nodup:=by
 unfold gW
 show List.Pairwise _ _
 rw[List.pairwise_flatMap]
 refine⟨λi _=>vI List.nodup_range (by simp),List.Pairwise.imp (λ{i j}oT x hx y hy he=>?_) (show List.Pairwise (· ≠ ·) _ from List.nodup_range)⟩
 obtain⟨_,_,rfl⟩:=jJ.1 hx
 obtain⟨_,_,rfl⟩:=jJ.1 hy
 simp at he
 exact oT he.1
theorem BP{α:Type}{p q:α->Bool}: ∀{l:List α},(∀x∈l,p x=true->q x=false)->l.length=(l.filter p).length+(l.filter q).length+(l.filter λx=>!p x&&!q x).length
 | [],_=>rfl
 |x::l,h=>by
  have ih:=BP (l:=l) λy hy=>h y (by simp[hy])
  have h0:=h x (by simp)
  cases hp:p x<;>cases hq:q x<;>simp[Qv,hp,hq]at h0 |- <;>omega
theorem I5{α:Type}{p:α->Bool}: ∀{l:List α},l.length=(l.filter p).length+(l.filter λx=>!p x).length
 | []=>rfl
 |x::l=>by
  have ih:=I5 (p:=p) (l:=l)
  cases hp:p x<;>simp[Qv,hp]<;>omega
def iy(s:dC)(c:Int)(x:Nat×Nat):Bool:=s.cI.any (tm x.1 x.2 c)
section
variable {P:List (List bP)} {a:bK} {sh:Int} {s:dC} {E:List cn}
theorem pD{c:Int}{i k:Nat}(h:Rz s.cI i k c):iy s c (i,k)=false:=by
 unfold iy
 rw[KA]
 intro l hl
 rw[h l hl];simp
theorem C6{c t:Int}{i k:Nat}(h:(⟨(i:Int),(k:Int),c,t⟩:cU)∈s.cI):iy s c (i,k)=true:=vV.2 ⟨_,h,by simp[tm]⟩
theorem Xn(h:lO P a sh s)(c:Int):(s.cI.filter λl=>decide (l.kind=c)).length=((gW P).filter (iy s c)).length:=by
 obtain⟨T,L,X,eN,KM,sC,_⟩:=h.set
 have P9: ∀l∈s.cI,∃(i k:Nat)(x:bP),l.part=(i:Int)/\l.eI=(k:Int)/\dV P i k=some x:=λl hl=>by
  obtain⟨i,k,x,h1,h2,h3,_⟩:=eN.lo l (sC.mem_iff.1 hl)
  exact⟨i,k,x,h1,h2,h3⟩
 have qQ:(s.cI.filter λl=>decide (l.kind=c)).Nodup:=(List.Pairwise.imp (λ{x y}Ca he=>by rw[he]at Ca;omega) h.srt:s.cI.Nodup).sublist Qz
 have hp:((s.cI.filter λl=>decide (l.kind=c)).map λl=>(l.part.toNat,l.eI.toNat)).Perm ((gW P).filter (iy s c)):=by
  refine(List.perm_ext_iff_of_nodup (vI qQ λx hx y hy he=>?_) ((uP P).sublist Qz)).2 λ⟨i,k⟩=>?_
  ·obtain⟨x1,x2⟩:=lD.1 hx
   obtain⟨y1,y2⟩:=lD.1 hy
   have b1:=h.lk x x1
   have b2:=h.lk y y1
   simp at he x2 y2
   refine h.one x1 y1 ?_
   unfold kL
   rw[show x.part=y.part by omega,show x.eI=y.eI by omega,x2,y2]
  ·constructor
   ·intro hm
    obtain⟨l,l1,l2⟩:=jJ.1 hm
    obtain⟨l3,l4⟩:=lD.1 l1
    obtain⟨i',k',x,e1,e2,e3⟩:=P9 l l3
    simp at l2 l4
    have hi:i'=i:=by omega
    have hk:k'=k:=by omega
    subst hi;subst hk
    exact lD.2 ⟨pC.2 ⟨x,e3⟩,vV.2 ⟨l,l3,zD.2 ⟨e1,e2,l4⟩⟩⟩
   ·intro hm
    obtain⟨_,h2⟩:=lD.1 hm
    obtain⟨l,l1,l2⟩:=vV.1 h2
    have l2:=zD.1 l2
    refine jJ.2 ⟨l,lD.2 ⟨l1,by simpa using l2.2.2⟩,?_⟩
    rw[l2.1,l2.2.1];simp
 rw[<-hp.length_eq,mB]
def Qh(E:List cn)(t:Int):Nat:=(List.range (E.length+1)).findIdx λe=>decide ((iO E e:Int)=t)
theorem Qi(h:kS a E){e:Nat}(he:e<=E.length):Qh E (iO E e:Int)=e:=by
 unfold Qh
 have h0:e<(List.range (E.length+1)).length:=by simp;omega
 rw[List.findIdx_eq h0]
 refine⟨by simp,λj hj=>?_⟩
 simp only[List.getElem_range,Jj]
 intro hq
 have:=CZ h (by omega) he (show iO E j=iO E e by omega)
 omega
theorem T2(h:lO P a sh s){e:Nat}{t:cW}(hs:fy s.bM.bG e t): ∃(i k:Nat)(x:bP),dV P i k=some x/\x.bW=(iO s.bM.bG e:Int)/\eT s.dz i k=some ⟨t.bt,t.cy⟩/\iy s 1 (i,k)=false/\iy s 2 (i,k)=false:=by
 obtain⟨T,L,X,eN,_⟩:=h.set
 obtain⟨q,hq⟩:=(eN.ev.st e t hs).pl
 have h1:=(ie hq).2.1
 have key: ∀(n i:Nat),i<=n-> ∀(k:Nat)x,dV P i k=some x->x.bW=(iO s.bM.bG e:Int)->eT s.dz i k=some ⟨t.bt,t.cy⟩-> ∃(i k:Nat)(x:bP),dV P i k=some x/\x.bW=(iO s.bM.bG e:Int)/\eT s.dz i k=some ⟨t.bt,t.cy⟩/\iy s 1 (i,k)=false/\iy s 2 (i,k)=false:=by
  intro n
  induction n with
  |zero=>
   intro i hi k x hx hf hp
   obtain⟨p,p1,p2⟩:=h.Hh hx
   rw[hp]at p1;cases p1
   rcases p2 with⟨p2,_⟩|p2
   ·simp at p2 h1;omega
   ·rcases p2.n2 with⟨⟨i',_,_,gq,_⟩,_⟩|⟨_,n2⟩
    ·omega
    ·exact⟨i,k,x,hx,hf,hp,pD p2.n1,pD n2⟩
  |succ n ih=>
   intro i hi k x hx hf hp
   obtain⟨p,p1,p2⟩:=h.Hh hx
   rw[hp]at p1;cases p1
   rcases p2 with⟨p2,_⟩|p2
   ·simp at p2 h1;omega
   ·rcases p2.n2 with⟨⟨i',k',x',gq,g1,g2,g3⟩,_⟩|⟨_,n2⟩
    ·exact ih i' (by omega) k' x' g1 (by rw[g2];exact hf) g3
    ·exact⟨i,k,x,hx,hf,hp,pD p2.n1,pD n2⟩
 obtain⟨i,k,x,e1,e2,e3⟩:=eN.sp e t hs
 exact key i i (eF _) k x e1 e2 e3
theorem aaC(h:lO P a sh s):(stM s.bM.bG s.bM.bG.length).length=((gW P).filter λx=>!iy s 1 x&&!iy s 2 x).length:=by
 obtain⟨T,L,X,eN,KM,sC,_⟩:=h.set
 have Jg:=IW λp hp=>((jk h.pr).2 p hp).2
 let g:Nat×Nat->Nat×Int:=λx=>(Qh s.bM.bG (((dV P x.1 x.2).map bP.bW).getD 0),((eT s.dz x.1 x.2).getD ⟨0,0⟩).bt)
 have gR: ∀i k,(i,k)∈(gW P).filter (λx=>!iy s 1 x&&!iy s 2 x)-> ∃x p e t,dV P i k=some x/\eT s.dz i k=some p/\RA P a sh s i k x p/\ ¬Twin P s.dz i x p/\fy s.bM.bG e t/\t.bt=p.bt/\t.cy=p.cy/\x.bW=(iO s.bM.bG e:Int)/\g (i,k)=(e,p.bt):=λi k hm=>by
  obtain⟨h1,h2⟩:=lD.1 hm
  obtain⟨x,hx⟩:=pC.1 h1
  simp at h2
  obtain⟨p,p1,p2⟩:=h.Hh hx
  rcases p2 with⟨_,d1,_⟩|p2
  ·rw[C6 d1]at h2;simp at h2
  ·obtain⟨e,t,s1,s2,s3,s4,_⟩:=p2.st
   have hl:=s1.lt
   refine⟨x,p,e,t,hx,p1,p2,?_,s1,s2,s3,s4,?_⟩
   ·rcases p2.n2 with⟨_,n2⟩|⟨n2,_⟩
    ·rw[C6 n2]at h2;simp at h2
    ·exact n2
   ·show(Qh _ (((dV P i k).map bP.bW).getD 0),((eT s.dz i k).getD ⟨0,0⟩).bt)=_
    rw[hx,p1]
    simp only[gy,Ab,s4]
    rw[Qi eN.ev (Qw hl)]
 have hp:((stM s.bM.bG s.bM.bG.length).map λx=>(x.1,x.2.bt)).Perm (((gW P).filter λx=>!iy s 1 x&&!iy s 2 x).map g):=by
  refine(List.perm_ext_iff_of_nodup ?_ (vI ((uP P).sublist Qz) λx hx y hy he=>?_)).2 λ⟨e,c⟩=>?_
  ·show List.Pairwise _ _
   rw[FB]
   refine(C4 eN.ev _).imp λ{x y}Ca he=>?_
   simp at he
   omega
  ·obtain⟨i,k⟩:=x
   obtain⟨i',k'⟩:=y
   obtain⟨x,p,e,t,a1,a2,a3,a4,a5,a6,a7,a8,a9⟩:=gR i k hx
   obtain⟨x',p',e',t',b1,b2,b3,b4,b5,b6,b7,b8,b9⟩:=gR i' k' hy
   rw[a9,b9]at he
   simp at he
   obtain⟨rfl,hc⟩:=he
   have htt:=eN.ev.one a5 b5 (by rw[a6,b6];exact hc)
   subst htt
   have jN:p=p':=by cases p;cases p';simp at a6 a7 b6 b7 |-;omega
   subst jN
   rcases Jk i i' with q|q|q
   ·exact absurd ⟨i,k,x,q,a1,by omega,a2⟩ b4
   ·subst q
    rw[Jg i k k' x x' a1 b1 (by omega)]
   ·exact absurd ⟨i',k',x',q,b1,by omega,b2⟩ a4
  ·constructor
   ·intro hm
    obtain⟨⟨e',t⟩,h1,h2⟩:=jJ.1 hm
    simp at h2
    obtain⟨rfl,rfl⟩:=h2
    obtain⟨i,k,x,f1,f2,f3,f4,f5⟩:=T2 h (jx.1 h1).2
    have hm:(i,k)∈(gW P).filter λx=>!iy s 1 x&&!iy s 2 x:=lD.2 ⟨pC.2 ⟨x,f1⟩,by simp[f4,f5]⟩
    refine jJ.2 ⟨(i,k),hm,?_⟩
    obtain⟨x',p,e,t',a1,a2,a3,a4,a5,a6,a7,a8,a9⟩:=gR i k hm
    rw[f1]at a1;cases a1
    rw[f3]at a2;cases a2
    have h3:e'<s.bM.bG.length:=(jx.1 h1).1
    have f2:x.bW=(iO s.bM.bG e':Int):=f2
    have:e=e':=CZ eN.ev (Qw a5.lt) (Qw h3) (by omega)
    subst this
    exact a9
   ·intro hm
    obtain⟨⟨i,k⟩,h1,h2⟩:=jJ.1 hm
    obtain⟨x',p,e',t',a1,a2,a3,a4,a5,a6,a7,a8,a9⟩:=gR i k h1
    rw[a9]at h2
    simp at h2
    obtain⟨rfl,rfl⟩:=h2
    exact jJ.2 ⟨(e',t'),jx.2 ⟨a5.lt,a5⟩,by simp[a6]⟩
 have:=hp.length_eq
 simpa using this
theorem f26_eq(hl:s.cI.length<=4000000): ∃c,f26 s=some (((s.cI.filter λl=>decide (l.kind=1)).length:Int),((s.cI.filter λl=>decide (l.kind=2)).length:Int),c):=by
 have key: ∃r,f26 s=some r/\(r.1=((s.cI.filter λl=>decide (l.kind=1)).length:Int)/\r.2.1=((s.cI.filter λl=>decide (l.kind=2)).length:Int)):=by
  unfold f26
  refine eK (λk(z:Int×Int×Int×Int)=>z.2.2.2=(k:Int)/\z.1=(((s.cI.take k).filter λl=>decide (l.kind=1)).length:Int)/\z.2.1=(((s.cI.take k).filter λl=>decide (l.kind=2)).length:Int)/\ ∃n:Nat,n<=k/\z.2.2.1=(n:Int))
   (λr=>r.1=((s.cI.filter λl=>decide (l.kind=1)).length:Int)/\r.2.1=((s.cI.filter λl=>decide (l.kind=2)).length:Int)) s.cI.length (by omega) ⟨rfl,rfl,rfl,0,by omega,rfl⟩ ?_ ?_ ?_
  ·rintro k ⟨z1,z2,z3,z4⟩ hk ⟨e0,e1,e2,n,e3,e4⟩
   simp only at e0 e1 e2 e4
   subst e0;subst e4
   have x1:s.cI[k]? =some (s.cI[k]'hk):=dH _
   generalize s.cI[k]'hk=l at x1
   have b1: ∀c:Int,((s.cI.take k).filter λl=>decide (l.kind=c)).length<=k:=λc=>vU (sq ..) (KU ..)
   have c1:=b1 1
   have c2:=b1 2
   have w1:wr (z1+1)=z1+1:=iL (by omega) (by omega)
   have w2:wr (z2+1)=z2+1:=iL (by omega) (by omega)
   have w3:wr ((n:Int)+1)=((n+1:Nat):Int):=gH (by omega)
   have ts: ∀c:Int,(((s.cI.take (k+1)).filter λl=>decide (l.kind=c)).length:Int)=(((s.cI.take k).filter λl=>decide (l.kind=c)).length:Int)+(if l.kind=c then 1 else 0):=λc=>by
    rw[cQ x1,Dq,jW]
    by_cases hc:l.kind=c<;>simp[List.filter,hc]
   simp only[cJ x1,cS,cj x1,cK,dI (l:=s.cI) (by simp only[bU];omega) x1,w1,w2,w3]
   refine .inl ?_
   by_cases k1:l.kind=1
   ·simp only[k1,gp,cS,cK]
    exact⟨_,rfl,rfl,by rw[ts 1,dD k1,e1],by rw[ts 2,dM (by omega),e2];simp,n,by omega,rfl⟩
   ·by_cases k2:l.kind=2
    ·simp only[k2,gp,cS,cK,show decide ((2:Int)=1)=false from rfl,dj]
     exact⟨_,rfl,rfl,by rw[ts 1,dM k1,e1];simp,by rw[ts 2,dD k2,e2],n,by omega,rfl⟩
    ·cases hk3:decide (l.kind=3)
     ·simp only[k1,k2,dX,dj,cK]
      exact⟨_,rfl,rfl,by rw[ts 1,dM k1,e1];simp,by rw[ts 2,dM k2,e2];simp,n,by omega,rfl⟩
     ·simp only[k1,k2,dX,dj,cS,cK]
      exact⟨_,rfl,rfl,by rw[ts 1,dM k1,e1];simp,by rw[ts 2,dM k2,e2];simp,n+1,by omega,rfl⟩
  ·rintro⟨z1,z2,z3,z4⟩ ⟨e0,e1,e2,_⟩
   simp only at e0 e1 e2
   subst e0
   rw[AL]at e1 e2
   simp only[ky,dX,dj]
   exact⟨_,rfl,e1,e2⟩
  ·rintro⟨z1,z2,z3⟩ ⟨e1,e2⟩
   exact⟨_,rfl,e1,e2⟩
 obtain⟨⟨r1,r2,r3⟩,h1,h2,h3⟩:=key
 simp only at h2 h3
 subst h2;subst h3
 exact⟨r3,h1⟩
end
theorem NZ: ∀(w:List bP)(e:Int),(∀(i:Nat)x,w[i]? =some x->e<=x.bW/\x.bW<x.dx/\x.dx<=262144/\0<=x.bY/\x.bY<=127)->(∀(i j:Nat)x y,i<j->w[i]? =some x->w[j]? =some y->x.dx<=y.bW)->Ax e w=true
 | [],_,_,_=>rfl
 |t::r,e,h1,h2=>by
  obtain⟨a1,a2,a3,a4,a5⟩:=h1 0 t rfl
  have h3:=NZ r t.dx (λi x hx=>⟨h2 0 (i+1) t x (by omega) rfl (by simpa using hx),(h1 (i+1) x (by simpa using hx)).2⟩) λi j x y oT hx hy=>h2 (i+1) (j+1) x y (by omega) (by simpa using hx) (by simpa using hy)
  have c1:om t.bY 0 127=true:=by simp[om];omega
  have c2:decide (t.bW<e)=false:=mC (by omega)
  have c3:decide (t.dx<=t.bW)=false:=mC (by omega)
  have c4:decide (262144<t.dx)=false:=mC (by omega)
  simp only[Ax,wX,c1,c2,c3,c4,h3]
  rfl
theorem Hi{a:bK}{q:Int}{p:aW}(h:p∈(eD a q).1):0<=q/\q<=127:=by
 unfold eD at h
 split at h
 ·cases h1:decide (q<0)
  ·cases h2:decide (127<q)
   ·have:=Za h1;have:=Za h2;omega
   ·rw[h1,h2]at h;simp at h
  ·rw[h1]at h;simp at h
 ·simp at h
theorem f9_5(j:gk)(hs:bU j.cA): ∃b,f9 j=some b/\(b=false->s8 j.cA j.instrument=0->j.cA.length<=4):=by
 obtain⟨b,h1,_⟩:=f9_ex j hs
 refine⟨b,h1,λhb h2=>?_⟩
 subst hb
 rcases Dp 4 j.cA.length with c|c
 ·exfalso
  obtain⟨p1,p2⟩:=EE h2
  have c1:decide (4<(j.cA.length:Int))=true:=xM (by omega)
  have:f9 j=some true:=by
   unfold f9
   rw[f33_eq _ hs,f15_eq]
   simp only[p1,p2,cK,pU,tt,dX,dj,c1,cS]
  rw[this]at h1;cases h1
 ·exact c
def pE(g:Nat->Nat)(k:Nat):Nat:=((List.range k).map g).sum
theorem vJ(g:Nat->Nat)(k:Nat):pE g (k+1)=pE g k+g k:=by unfold pE;rw[XE];simp
theorem zF(P:List (List bP)):(gW P).length=pE (λi=>((P[i]?).getD []).length) P.length:=by
 unfold gW pE
 rw[List.length_flatMap]
 simp
def mS(P:List (List bP))(s:dC)(i k:Nat):Nat:=((List.range k).filter λk=>!iy s 1 (i,k)).length
theorem N0(P:List (List bP))(s:dC):((gW P).filter λx=>!iy s 1 x).length=pE (λi=>mS P s i ((P[i]?).getD []).length) P.length:=by
 unfold gW pE mS
 rw[List.filter_flatMap,List.length_flatMap]
 congr 1
 refine List.map_congr_left λi _=>?_
 rw[List.filter_map,mB]
 rfl
theorem C7(g:Nat->Nat)(b:Nat): ∀k,(∀i,i<k->g i<=b)->pE g k<=b*k
 |0,_=>by simp[pE]
 |k+1,h=>by
  have h1:=C7 g b k λi hi=>h i (by omega)
  have h2:=h k (by omega)
  rw[vJ,Nat.mul_succ];omega
structure zG (P:List (List bP)) (s:dC) (p:List bP) (i k:Nat) (w:List bP):Prop where
 ok: ∀y∈w,0<=y.bW/\y.bW<y.dx/\y.dx<=262144/\0<=y.bY/\y.bY<=127/\ ∃(j:Nat)(x:bP),j<k/\p[j]? =some x/\y.dx<=x.dx
 pw:w.Pairwise λx y=>x.dx<=y.bW
 len:w.length=mS P s i k
section
variable {P:List (List bP)} {a:bK} {sh:Int} {s:dC}
theorem uQ(i k:Nat):mS P s i k<=k:=by
 unfold mS
 have:=sq (λk=>!iy s 1 (i,k)) (List.range k)
 simpa using this
theorem f27_y(h:lO P a sh s): ∃out,f27 P s=some (out,0)/\out.length=P.length/\ ∀(i:Nat)w p,out[i]? =some w->P[i]? =some p->zG P s p i p.length w:=by
 have key: ∃r,f27 P s=some r/\(r.2=0/\r.1.length=P.length/\ ∀(i:Nat)w p,r.1[i]? =some w->P[i]? =some p->zG P s p i p.length w):=by
  obtain⟨T,L,X,eN,KM,sC,_⟩:=h.set
  obtain⟨TP,jN⟩:=jk h.pr
  have P4:=h.ll
  have AA:bU s.cI:=by simp only[bU];omega
  have m1:(0:Int)<=(P.length:Int):=by omega
  have m2:(P.length:Int)<=(bJ:Int):=by unfold bJ;omega
  have Jg: @f72_1= @f72:=rfl
  unfold f27
  rw[f23_y h,Jg]
  simp only[cK,pU,tt,dX,dj,dg m1,dg m2,oH]
  refine eK (λi(z:dT×List (List bP)×Nat×Int)=>z.2.2.2=(i:Int)/\z.1=⟨P,s,[],[]⟩/\z.2.2.1+i=P.length/\z.2.1.length=i/\ ∀(i':Nat)w p,z.2.1[i']? =some w->P[i']? =some p->zG P s p i' p.length w)
   (λr=>r.2=0/\r.1.length=P.length/\ ∀(i':Nat)w p,r.1[i']? =some w->P[i']? =some p->zG P s p i' p.length w) P.length (by omega) ⟨rfl,rfl,rfl,rfl,by simp⟩ ?_ ?_ ?_
  ·rintro i ⟨z1,z2,z3,z4⟩ hi ⟨e0,e1,e2,e3,e4⟩
   simp only at e0 e1 e2 e3 e4
   subst e0;subst e1
   have x1:P[i]? =some (P[i]'hi):=dH _
   have Rn:=jN _ (va hi)
   generalize P[i]'hi=p at x1 Rn
   have n1:0<z3:=by omega
   simp only[cJ x1,cS,cj x1,cK,dg n1,dI (l:=P) (by simp only[bU];omega) x1]
   refine .inl (BN (λk(z:List bP×Int)=>z.2=(k:Int)/\zG P s p i k z.1) (λw=>zG P s p i p.length w) p.length (by omega) ⟨rfl,by simp,by simp,by simp[mS]⟩ ?_ ?_ ?_)
   ·rintro k ⟨w,_⟩ hk ⟨f0,f1⟩
    simp only at f0 f1
    subst f0
    have y1:p[k]? =some (p[k]'hk):=dH _
    generalize p[k]'hk=x at y1
    have hx:=C5 x1 y1
    have Yu:=pB jN hx
    obtain⟨pl,p1,p2⟩:=h.Hh hx
    have pI: ∀y∈w,0<=y.bW/\y.bW<y.dx/\y.dx<=262144/\0<=y.bY/\y.bY<=127/\ ∃(j:Nat)(x:bP),j<k+1/\p[j]? =some x/\y.dx<=x.dx:=λy hy=>by
     obtain⟨a1,a2,a3,a4,a5,j,x',a6,a7⟩:=f1.ok y hy
     exact⟨a1,a2,a3,a4,a5,j,x',by omega,a7⟩
    have Vi:mS P s i (k+1)=mS P s i k+(bif iy s 1 (i,k)then 0 else 1):=by
     unfold mS
     rw[XE,Dq,jW]
     cases hq:iy s 1 (i,k)<;>simp[List.filter,hq]
    simp only[cJ y1,cS,cj y1,cK,dI (l:=p) (by simp only[bU];omega) y1]
    rcases p2 with⟨_,d1,_⟩|p2
    ·rw[h.f72s [] [] d1]
     simp only[cK,cS]
     exact .inl ⟨_,rfl,rfl,pI,f1.pw,by rw[Vi,C6 d1,f1.len];rfl⟩
    ·rw[f72_none _ AA p2.n1]
     simp only[cK,dj]
     have UE:=f1.len
     have zY:=uQ (P:=P) (s:=s) i k
     have n2:(0:Int)<=(i:Int)/\(i:Int)<(P.length:Int):=by omega
     have n3:((i:Nat):Int).toNat=z2.length:=by omega
     have n4:w.length+1<=bJ:=by unfold bJ;omega
     obtain⟨q1,q2⟩:=Hi p2.pl
     have GS: ∃to:Int,((f72 ⟨P,s,[],[]⟩ ⟨(i:Int),(k:Int)⟩ 3).bind λUN=>bif UN.2 then(some UN.1.time)else(some x.dx))=some to/\x.bW<to/\to<=x.dx:=by
      obtain⟨e,t,s1,s2,s3,s4,s5⟩:=p2.st
      rcases s5 with⟨n3,_⟩|⟨c,r5,r6,r7⟩
      ·rw[f72_none _ AA n3]
       exact⟨x.dx,rfl,by omega,Int.le_refl _⟩
      ·rw[h.f72s [] [] r7]
       have:=pP eN.ev r5.rg.lt r5.rg.le
       exact⟨(iO s.bM.bG c:Int),rfl,by omega,by omega⟩
     obtain⟨to,t1,t2,t3⟩:=GS
     simp only[t1,cK,dg n2,dg n3,dg n4,h.si]
     refine .inl ⟨_,rfl,rfl,λy hy=>?_,?_,?_⟩
     ·rcases lr.1 hy with hy|hy
      ·exact pI y hy
      ·simp at hy;subst hy
       exact⟨by show 0<=x.bW;omega,t2,by show to<=262144;omega,q1,q2,k,x,by omega,y1,t3⟩
     ·show(w++[_]).Pairwise _
      rw[Va]
      refine⟨f1.pw,by simp,λy hy z hz=>?_⟩
      simp at hz;subst hz
      obtain⟨_,_,_,_,_,j,x',a6,a7,a8⟩:=f1.ok y hy
      have:=(xA p 0 Rn.2).2 j k x' x a6 a7 y1
      show y.dx<=x.bW
      omega
     ·show(w++[_]).length=_
      rw[Vi,pD p2.n1,jW,f1.len];rfl
   ·rintro⟨w,_⟩ ⟨f0,f1⟩
    simp only at f0 f1
    subst f0
    simp only[ky,dX,dj]
    exact⟨_,rfl,f1⟩
   ·rintro w hw
    refine⟨_,rfl,rfl,rfl,by show z3-1+(i+1)=_;omega,by simp[e3],λi' w' p' Yk AS=>?_⟩
    have zY:(z2++[w])[i']? =some w':=Yk
    clear Yk
    rcases Dp i' z2.length with q|q
    ·rw[np q]at zY
     exact e4 i' w' p' zY AS
    ·rw[pG q]at zY
     have hl:=(fP.1 zY).1
     simp at hl
     have:i'=i:=by omega
     subst this
     rw[show i'-z2.length=0 by omega]at zY
     simp at zY;subst zY
     rw[x1]at AS;cases AS
     exact hw
  ·rintro⟨z1,z2,z3,z4⟩ ⟨e0,e1,e2,e3,e4⟩
   simp only at e0 e1 e2 e3 e4
   subst e0
   simp only[ky,dX,dj]
   exact⟨_,rfl,by show z3=0;omega,e3,e4⟩
  ·rintro⟨z2,z3⟩ ⟨e1,e2,e3⟩
   simp only at e1 e2 e3
   have n1:z3=0/\P.length=z2.length:=⟨e1,e2.symm⟩
   simp only[dg n1]
   exact⟨_,rfl,rfl,e2,e3⟩
 obtain⟨⟨out,e⟩,h1,h2,h3⟩:=key
 simp only at h2
 subst h2
 exact⟨out,h1,h3⟩
theorem f7_y(j:gk)(hs:bU j.cA):f7 j=some true:=by
 have key: ∃b,f7 j=some b/\b=true:=by
  unfold f7
  obtain⟨b,b1,b2⟩:=f9_5 j hs
  rw[b1]
  cases b
  case true=>simp only[cK,cS,f10_eq];exact⟨_,rfl,rfl⟩
  obtain⟨r,r1,r2⟩:=f11_gen j.cA j.instrument j.hand j.shift hs (b2 rfl)
  simp only[cK,dj,r1]
  by_cases hr:r.2=0
  case neg=>simp only[pU,hr,Hw,gp,cS,f10_eq,cK];exact⟨_,rfl,rfl⟩
  have h:=r2 hr
  simp only[pU,hr,tt,dX,dj]
  generalize r.1=s at h
  generalize hPj:j.cA=P at h
  rw[hPj]at hs
  obtain⟨T,L,X,eN,KM,sC,hT1,hT2,hT3⟩:=h.set
  obtain⟨TP,jN⟩:=jk h.pr
  have Ga:kS s.bM.instrument s.bM.bG:=by rw[h.ai];exact eN.ev
  have tT:instS s.bM.instrument=0:=by rw[h.ai];exact h.ins
  have iM:=h.el
  have hML:=rJ eN.ev s.bM.bG.length
  have hTL:(gW P).length<=2400:=by
   rw[zF]
   have:=C7 (λi=>((P[i]?).getD []).length) 400 P.length λi hi=>by
    rw[dH hi]
    exact(jN _ (va hi)).1
   omega
  have c1:=Xn h 1
  have c2:=Xn h 2
  have c3:=aaC h
  have c4:=BP (p:=iy s 1) (q:=iy s 2) (l:=gW P) λ⟨i,k⟩ hm hq=>by
   obtain⟨x,hx⟩:=pC.1 hm
   obtain⟨p,_,p2⟩:=h.Hh hx
   rcases p2 with⟨_,_,d2,_⟩|p2
   ·exact pD d2
   ·rw[pD p2.n1]at hq;cases hq
  have c5:=I5 (p:=iy s 1) (l:=gW P)
  refine eK (λk(z:Int×Int)=>z=(((stM s.bM.bG k).length:Int),(k:Int))) (λr=>r=((stM s.bM.bG s.bM.bG.length).length:Int)) s.bM.bG.length (by omega) rfl ?_ ?_ ?_
  ·rintro k _ hk rfl
   have x1:s.bM.bG[k]? =some (s.bM.bG[k]'hk):=dH _
   generalize s.bM.bG[k]'hk=d at x1
   have hf:=eN.ev.Xh x1
   have hl:=rJ eN.ev k
   have e1:(stM s.bM.bG (k+1)).length=(stM s.bM.bG k).length+d.df.length:=by
    show(stM _ k++nL _ k).length=_
    rw[jW];unfold nL;rw[x1];simp
   have w1:wr (((stM s.bM.bG k).length:Int)+(d.df.length:Int))=((stM s.bM.bG (k+1)).length:Int):=by rw[iL (by omega) (by omega),e1];omega
   simp only[cJ x1,cS,cj x1,cK,w1,dI (l:=s.bM.bG) (by simp only[bU];omega) x1]
   exact .inl ⟨_,rfl,rfl⟩
  ·rintro _ rfl
   simp only[ky,dX,dj]
   exact⟨_,rfl,rfl⟩
  rintro _ rfl
  refine eK (λk(z:Int×Int)=>z=((pE (λi=>((P[i]?).getD []).length) k:Int),(k:Int))) (λr=>r=((gW P).length:Int)) P.length (by omega) rfl ?_ ?_ ?_
  ·rintro k _ hk rfl
   have x1:P[k]? =some (P[k]'hk):=dH _
   have Rn:=(jN _ (va hk)).1
   generalize P[k]'hk=p at x1 Rn
   have hb:=C7 (λi=>((P[i]?).getD []).length) 400 k λi hi=>by
    rw[dH (by omega)]
    exact(jN _ (va (by omega))).1
   have e1:pE (λi=>((P[i]?).getD []).length) (k+1)=pE (λi=>((P[i]?).getD []).length) k+p.length:=by rw[vJ,x1];rfl
   have w1:wr ((pE (λi=>((P[i]?).getD []).length) k:Int)+(p.length:Int))=(pE (λi=>((P[i]?).getD []).length) (k+1):Int):=by rw[iL (by omega) (by omega),e1];omega
   simp only[cJ x1,cS,cj x1,cK,w1,dI (l:=P) (by simp only[bU];omega) x1]
   exact .inl ⟨_,rfl,rfl⟩
  ·rintro _ rfl
   simp only[ky,dX,dj]
   exact⟨_,rfl,by rw[zF]⟩
  rintro _ rfl
  obtain⟨cc,c6⟩:=f26_eq h.ll
  obtain⟨out,o1,o2,o3⟩:=f27_y h
  have T3: ∀(i:Nat)w,out[i]? =some w-> ∃p,P[i]? =some p/\p.length<=400/\zG P s p i p.length w:=λi w hw=>by
   have hi:=(fP.1 hw).1
   have x1:P[i]? =some (P[i]'(by omega)):=dH _
   exact⟨_,x1,(jN _ (va (by omega))).1,o3 i w _ hw x1⟩
  have CQ:jr out=0:=by
   unfold jr
   have hm:qD out=false:=by
    unfold qD
    have c1:decide (6<out.length)=false:=mC (by omega)
    have c2:(out.any λp=>decide (400<p.length))=false:=by
     rw[KA]
     intro w hw
     obtain⟨i,hi,rfl⟩:=pH hw
     obtain⟨p,_,h2,h3⟩:=T3 i _ (dH hi)
     have:=h3.len
     have:=uQ (P:=P) (s:=s) i p.length
     simp;omega
    rw[c1,c2];rfl
   have ha:out.all (Ax 0)=true:=by
    rw[pT]
    intro w hw
    obtain⟨i,hi,rfl⟩:=pH hw
    obtain⟨p,_,h2,h3⟩:=T3 i _ (dH hi)
    refine NZ _ 0 (λk x hx=>?_) λk k' x y Yv hx hy=>?_
    ·obtain⟨a1,a2,a3,a4,a5,_⟩:=h3.ok x (gz hx)
     exact⟨a1,a2,a3,a4,a5⟩
    ·have:=h3.pw
     rw[DD]at this
     obtain⟨g1,rfl⟩:=fP.1 hx
     obtain⟨g2,rfl⟩:=fP.1 hy
     exact this k k' g1 g2 Yv
   rw[hm,ha];rfl
  have cw:decide (¬(out.length:Int)=(P.length:Int))=false:=by rw[o2];simp
  simp only[c6,o1,cK,tt,dX,dj,f28_eq out (by simp only[bU];omega),CQ,cw]
  refine eK (λk(z:Int×Int)=>z=((pE (λi=>mS P s i ((P[i]?).getD []).length) k:Int),(k:Int))) (λr=>r=(((gW P).filter λx=>!iy s 1 x).length:Int)) out.length (by omega) rfl ?_ ?_ ?_
  ·rintro k _ hk rfl
   have x1:out[k]? =some (out[k]'hk):=dH _
   generalize out[k]'hk=w at x1
   obtain⟨p,p1,p2,p3⟩:=T3 k w x1
   have hb:=C7 (λi=>mS P s i ((P[i]?).getD []).length) 400 k λi hi=>by
    have:=(jN _ (va (show i<P.length by omega))).1
    rw[dH (show i<P.length by omega)]
    have:=uQ (P:=P) (s:=s) i (P[i]'(by omega)).length
    simp only[Ab]
    omega
   have UE:=p3.len
   have e1:pE (λi=>mS P s i ((P[i]?).getD []).length) (k+1)=pE (λi=>mS P s i ((P[i]?).getD []).length) k+w.length:=by rw[vJ,p1,UE];rfl
   have:=uQ (P:=P) (s:=s) k p.length
   have w1:wr ((pE (λi=>mS P s i ((P[i]?).getD []).length) k:Int)+(w.length:Int))=(pE (λi=>mS P s i ((P[i]?).getD []).length) (k+1):Int):=by rw[iL (by omega) (by omega),e1];omega
   simp only[cJ x1,cS,cj x1,cK,w1,dI (l:=out) (by simp only[bU];omega) x1]
   exact .inl ⟨_,rfl,rfl⟩
  ·rintro _ rfl
   simp only[ky,dX,dj]
   exact⟨_,rfl,by rw[N0,o2]⟩
  rintro _ rfl
  have w1:wr (((gW P).length:Int)-((s.cI.filter λl=>decide (l.kind=1)).length:Int))=(((gW P).filter λx=>!iy s 1 x).length:Int):=by rw[iL (by omega) (by omega)];omega
  have w2:wr ((((gW P).filter λx=>!iy s 1 x).length:Int)-((s.cI.filter λl=>decide (l.kind=2)).length:Int))=((stM s.bM.bG s.bM.bG.length).length:Int):=by rw[iL (by omega) (by omega)];omega
  have pZ:=oq 6 TP λp hp=>(jN p hp).1
  have hat:f30 P=some (iU P.flatten,0):=by
   unfold f30
   rw[f28_eq P (by simp only[bU];omega),h.pr,f41_eq P TP λp hp=>(jN p hp).1]
   rfl
  have Kl:=IJ (p:=P.flatten)
  have Ah:0<(iU P.flatten).length:=XB hT1
  have n1:decide (((iU P.flatten).length:Int)=0)=false:=mC (by omega)
  have n2:decide (((se s.bM.bG).length:Int)=0)=false:=mC (by rw[uO];omega)
  simp only[w1,w2,tt,dX,dj,cK,f29_y s.bM tT Ga h.el,hat,n1,n2]
  have qM:=CS P.flatten
  refine eK (λi(z:Int×Int)=>z.2=(i:Int)/\ ∃k:Nat,z.1=(k:Int)/\k<=s.bM.bG.length/\ ∀(i':Nat)t,i<=i'->(iU P.flatten)[i']? =some t->(iO s.bM.bG k:Int)<=t) (λr=>r=.inl ()) (iU P.flatten).length (by omega) ⟨rfl,0,rfl,by omega,λi' t _ ht=>?_⟩ ?_ ?_ ?_
  ·obtain⟨k,_,k2⟩:=hT3 t (gz ht)
   show((0:Nat):Int)<=t
   omega
  ·rintro i ⟨z1,z2⟩ hi ⟨e0,k,e1,e2,e3⟩
   simp only at e0 e1
   subst e0;subst e1
   have x1:(iU P.flatten)[i]? =some ((iU P.flatten)[i]'hi):=dH _
   generalize(iU P.flatten)[i]'hi=t at x1
   obtain⟨m,m1,m2⟩:=hT3 t (gz x1)
   have hkm:k<=m:=by
    have:=e3 i t (eF _) x1
    rcases Dp m k with q|q
    ·have:=pP eN.ev q e2;omega
    ·exact q
   simp only[cJ x1,cS,cj x1,cK,dI (l:=iU P.flatten) (by simp only[bU];omega) x1]
   have eZ: ∃z,bZ (σ:=Int) (τ:=Int) (λ(I6:Int)=>((bif (decide (I6<((se s.bM.bG).length:Int)))then((ix (se s.bM.bG) I6).bind λy30=>some (decide (y30<t)))else(some false)):Option Bool).bind λ(T4:Bool)=>bif T4 then(some (.inl (wr (I6+1))))else(some (.inr I6))) cz (k:Int)=some z/\z=(m:Int):=by
    refine j7 (λn(z:Int)=>z=((k+n:Nat):Int)) _ (m-k) (by omega) (by simp) ?_ ?_
    ·rintro n _ hn rfl
     have y1:=mR (E:=s.bM.bG) (k:=k+n) (by omega)
     have gq:=pP eN.ev (show k+n<m by omega) m1
     have d1:decide ((iO s.bM.bG (k+n):Int)<t)=true:=xM (by omega)
     simp only[cJ y1,cS,cj y1,cK,d1,gH (show k+n<=4194304 by omega)]
     exact .inl ⟨_,rfl,rfl⟩
    ·rintro _ rfl
     have hq:k+(m-k)=m:=by omega
     rw[hq]
     have y1:=mR (E:=s.bM.bG) m1
     have d1:decide ((iO s.bM.bG m:Int)<t)=false:=mC (by omega)
     simp only[cJ y1,cS,cj y1,cK,d1,dj]
     exact⟨_,rfl,rfl⟩
   obtain⟨z,z1,rfl⟩:=eZ
   have y1:=mR (E:=s.bM.bG) m1
   have d1:decide ((m:Int)=((se s.bM.bG).length:Int))=false:=mC (by rw[uO];omega)
   have d2:decide (¬(iO s.bM.bG m:Int)=t)=false:=by rw[m2];simp
   simp only[z1,cK,d1,dj,cj y1,d2]
   refine .inl ⟨_,rfl,rfl,m,rfl,m1,λi' t' AP w9=>?_⟩
   have:=pA qM (show i<i' by omega) x1 w9
   omega
  ·rintro⟨z1,z2⟩ ⟨e0,_⟩
   simp only at e0
   subst e0
   simp only[ky,dX,dj]
   exact⟨_,rfl,rfl⟩
  rintro _ rfl
  have w3:wr (((se s.bM.bG).length:Int)-1)=((s.bM.bG.length:Nat):Int):=by rw[uO,iL (by omega) (by omega)];omega
  have w4:wr (((iU P.flatten).length:Int)-1)=(((iU P.flatten).length-1:Nat):Int):=by rw[iL (by omega) (by omega)];omega
  have x2:(iU P.flatten)[(iU P.flatten).length-1]? =some ((iU P.flatten)[(iU P.flatten).length-1]'(by omega)):=dH _
  have EY:(iU P.flatten)[(iU P.flatten).length-1]'(by omega)=T:=by
   obtain⟨m,Bm,Dx⟩:=pH hT1
   have em:(iU P.flatten)[m]? =some T:=by rw[<-Dx];exact dH Bm
   have h1:=hT2 _ (va (show(iU P.flatten).length-1<(iU P.flatten).length by omega))
   rcases Dp m ((iU P.flatten).length-1)with q|q
   ·have:=pA qM q em x2;omega
   ·have:m=(iU P.flatten).length-1:=by omega
    subst this
    exact Dx
  rw[EY]at x2
  have d3:decide ((iO s.bM.bG s.bM.bG.length:Int)=T)=true:=xM eN.du
  simp only[Ac,w3,cj (mR (E:=s.bM.bG) (eF _)),w4,cj x2,cK,d3,cS,f10_eq]
  exact⟨_,rfl,rfl⟩
 obtain⟨b,h1,rfl⟩:=key
 exact h1
end
end Go.Proofs.YtpbahncblggodaaGreat
