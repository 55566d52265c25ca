/- Plain laws, joined by gen/joinH.py. -/
import Derived.Test.YtfdnjgoegamonaaGreatDoorJD
set_option linter.all false
namespace Go.Proofs.YtfdnjgoegamonaaGreatDoor
open Go Go.Am
set_option maxRecDepth 100000
def tG(i k:Nat)(l:dG):Bool:=decide (l.part=(i:Int))&&decide (l.gD=(k:Int))
def jD(X:List dG)(i k:Nat):List dG:=X.filter (tG i k)
def Twin(P:List (List cj))(W:List (List be))(i:Nat)(x:cj)(p:be):Prop:= ∃(i' k':Nat)(x':cj),i'<i/\eR P i' k'=some x'/\x'.cy=x.cy/\gQ W i' k'=some p
def Zw(P:List (List cj))(W:List (List be))(i k:Nat)(x:cj)(p:be)(D:List dG):Prop:=(D=[]/\ ¬Twin P W i x p)\/(D=[⟨(i:Int),(k:Int),2,x.cy⟩]/\Twin P W i x p)
def aaV(a:bY)(sh:Int)(P:List (List cj))(E:List cz)(L:List bE)(W:List (List be))(X:List dG)(i k:Nat)(x:cj):Prop:=
 ∃p,gQ W i k=some p/\((p=⟨0,0⟩/\jD X i k=[⟨(i:Int),(k:Int),1,x.cy⟩])\/
  ∃(e:Nat)(D:List dG),p∈(fx a (wr (x.cw+sh))).1/\(jI E e:Int)=x.cy/\Zw P W i k x p D/\
   ((jD X i k=D/\((∃n∈L,(⟨(i:Int),(k:Int)⟩:cK)∈n.cg/\n.cP=(e:Int))\/ ∃c,Rg E e p c/\x.dK<=(jI E c:Int)))\/
    ∃c,Nd E e p c/\(jI E c:Int)<x.dK/\jD X i k=D++[⟨(i:Int),(k:Int),3,(jI E c:Int)⟩]))
structure OE (a:bY) (sh:Int) (P:List (List cj)) (T:Int) (E:List cz) (L:List bE) (W:List (List be)) (X:List dG):Prop where
 ev:lM a E
 du:(jI E E.length:Int)=T
 lv: ∀n∈L,Si P E W n
 ld:L.Pairwise λx y=>x.cp.aY≠y.cp.aY
 ws:D3 P W
 fa: ∀(i k:Nat)x,eR P i k=some x->x.cy<T->aaV a sh P E L W X i k x
 lo: ∀l∈X,∃(i k:Nat)(x:cj),l.part=(i:Int)/\l.gD=(k:Int)/\eR P i k=some x/\x.cy<T
 sp: ∀e s,fY E e s-> ∃(i k:Nat)(x:cj),eR P i k=some x/\x.cy=(jI E e:Int)/\gQ W i k=some ⟨s.aY,s.cO⟩
def DE(X:List dG):Prop:=X.Pairwise λx y=> ¬(x.part=y.part/\x.gD=y.gD)
theorem tH{X:List dG}(h:DE X){i k:Nat}{l:dG}(hl:l∈X)(hk:tG i k l=true):jD X i k=[l]:=by
 induction X with
 |nil=>simp at hl
 |cons y r ih=>
  rw[DE,Gc]at h;simp[tG]at hk;rcases mZ.1 hl with rfl|hl
  ·unfold jD;rw[List.filter_cons_of_pos (by simp[tG,hk])];congr 1;rw[ZW];intro z hz hq;simp[tG]at hq;exact h.1 z hz ⟨by omega,by omega⟩
  ·unfold jD;rw[List.filter_cons_of_neg]
   ·exact ih h.2 hl
   ·intro hq;simp[tG]at hq;exact h.1 l hl ⟨by omega,by omega⟩
theorem pu{X:List dG}{i k:Nat}(h: ∀l∈X,¬(l.part=(i:Int)/\l.gD=(k:Int))):jD X i k=[]:=by
 unfold jD;rw[ZW];intro l hl hq;simp[tG]at hq;exact h l hl hq
theorem sv{X Y:List dG}{i k:Nat}:jD (X++Y) i k=jD X i k++jD Y i k:=Gd ..
theorem sw{T:Int}{n:bE}{l:dG}(h:l∈jR T n): ∃m∈n.cg,l.part=m.part/\l.gD=m.gD:=by
 unfold jR at h;cases hc:decide (n.cp.aY=0)<;>rw[hc]at h
 ·obtain⟨m,h1,rfl⟩:=kl.1 h;exact⟨m,D4 h1,rfl,rfl⟩
 ·obtain⟨m,h1,rfl⟩:=kl.1 h;exact⟨m,h1,rfl,rfl⟩
theorem sx{P:List (List cj)}{T:Int}{n:bE}{l:dG}(h:l∈mq P T n): ∃m∈n.cg,l.part=m.part/\l.gD=m.gD/\T<toOf P m:=by
 obtain⟨m,h1,rfl⟩:=kl.1 h;obtain⟨h2,h3⟩:=nT.1 h1;exact⟨m,h2,rfl,rfl,by simpa using h3⟩
theorem JL{f:bE->List dG}{l:List bE}{R:bE->bE->Prop}(h1: ∀n∈l,∀x∈f n,∃m∈n.cg,x.part=m.part/\x.gD=m.gD)(h2: ∀n∈l,DE (f n))(h3:l.Pairwise R)(h4: ∀n∈l,∀n'∈l,R n n'-> ∀m∈n.cg,m ∉ n'.cg):DE (l.flatMap f):=by
 unfold DE;rw[List.pairwise_flatMap];refine⟨h2,h3.imp_of_mem λ{n n'}hn mU hR x hx y hy Ix=>?_⟩;obtain⟨m,m1,m2,m3⟩:=h1 n hn x hx;obtain⟨m',m4,m5,m6⟩:=h1 n' mU y hy;have:m=m':=by cases m;cases m';simp at m2 m3 m5 m6;simp;omega
 subst this;exact h4 n hn n' mU hR m m1 m4
theorem Ar{t kd:Int}{l:List cK}(h:l.Pairwise λa b=>a.part<b.part):DE (l.map (qi t kd)):=by
 unfold DE;rw[Ij];exact h.imp λ{a b}KJ hq=>by have:a.part=b.part:=hq.1;omega
section
variable {P:List (List cj)} {W:List (List be)} {i k:Nat} {x:cj} {p q:be}
theorem OG(h:D3 P W)(hx:eR P i k=some x){m:cK}(hm:vf P m):gQ (Ib W m q) i k=bif decide (m=⟨(i:Int),(k:Int)⟩)then some q else gQ W i k:=by
 obtain⟨i',k',y,rfl,hy⟩:=hm;obtain⟨w,w1,w2⟩:=h.get hy;rw[JI w1];unfold gQ;by_cases hi:i'=i
 ·subst hi;rw[Gu (fT.1 w1).1,w1];simp only[dm];by_cases hk:k'=k
  ·subst hk;rw[Gu w2];simp
  ·rw[DR hk];have:decide ((⟨(i':Int),(k':Int)⟩:cK)=⟨(i':Int),(k:Int)⟩)=false:=jb λh=>hk (by simp at h;omega);rw[this];rfl
 ·rw[DR hi];have:decide ((⟨(i':Int),(k':Int)⟩:cK)=⟨(i:Int),(k:Int)⟩)=false:=jb λh=>hi (by simp at h;omega);rw[this];rfl
theorem As(hx:eR P i k=some x): ∀{l:List cK}{W:List (List be)},D3 P W->(∀m∈l,vf P m)->gQ (Ap W l q) i k=bif decide ((⟨(i:Int),(k:Int)⟩:cK)∈l)then some q else gQ W i k
 | [],W,_,_=>by simp[Ap]
 |m::l,W,h,hm=>by
  have h1:=As hx (l:=l) (JH (m:=m) (p:=q) h) λm' oG=>hm m' (by simp[oG]);have h2:=OG (q:=q) h hx (hm m (by simp));show gQ (Ap (Ib W m q) l q) i k=_;rw[h1,h2];by_cases c1:(⟨(i:Int),(k:Int)⟩:cK)∈l
  ·simp[c1]
  ·by_cases c2:m=⟨(i:Int),(k:Int)⟩
   ·subst c2;simp
   ·have c3: ¬(⟨(i:Int),(k:Int)⟩:cK)=m:=λh=>c2 h.symm;simp[c1,c2,c3]
theorem wj(hx:eR P i k=some x): ∀{l:List bE}{W:List (List be)},D3 P W->(∀n∈l,∀m∈n.cg,vf P m)->(∀n∈l,(⟨(i:Int),(k:Int)⟩:cK) ∉ n.cg)->gQ (mL W l) i k=gQ W i k
 | [],W,_,_,_=>rfl
 |n::l,W,h,hm,hn=>by
  have h1:=wj hx (l:=l) (su (l:=n.cg) (p:=n.cp) h) (λn' mU=>hm n' (by simp[mU])) λn' mU=>hn n' (by simp[mU]);have h2:=As hx (q:=n.cp) h (hm n (by simp));show gQ (mL (Ap W n.cg n.cp) l) i k=_;rw[h1,h2];have:=hn n (by simp);simp[this]
theorem Cb(hx:eR P i k=some x): ∀{l:List bE}{W:List (List be)},D3 P W->(∀n∈l,∀m∈n.cg,vf P m)->(∀n∈l,(⟨(i:Int),(k:Int)⟩:cK)∈n.cg->n.cp=p)->(∃n∈l,(⟨(i:Int),(k:Int)⟩:cK)∈n.cg)->gQ (mL W l) i k=some p
 | [],W,_,_,_,h=>by simp at h
 |n::l,W,h,hm,hn,he=>by
  show gQ (mL (Ap W n.cg n.cp) l) i k=_;by_cases hq: ∃n∈l,(⟨(i:Int),(k:Int)⟩:cK)∈n.cg
  ·exact Cb hx (su h) (λn' mU=>hm n' (by simp[mU])) (λn' mU=>hn n' (by simp[mU])) hq
  ·rw[wj hx (su h) (λn' mU=>hm n' (by simp[mU])) λn' mU hc=>hq ⟨n',mU,hc⟩,As hx (q:=n.cp) h (hm n (by simp))];obtain⟨n',h1,h2⟩:=he;rcases mZ.1 h1 with rfl|h1
   ·rw[hn n' (by simp) h2];simp[h2]
   ·exact absurd ⟨n',h1,h2⟩ hq
end
section
variable {a:bY} {sh T:Int} {P:List (List cj)} {E:List cz} {L B U:List bE} {S:List df} {B' C L':List bE} {E':List cz} {W:List (List be)} {X:List dG}
theorem OE.step(h:OE a sh P T E L W X)(Xs:H8 P)(hP:P.length<=6)(hB:DB P T P.length 0 B)(hm:Mv a sh T E L B S B' C L' E')(hS:0<lr S)(T':Int)(hT:T'=T+lr S)(hnx: ∀(i k:Nat)x,eR P i k=some x->x.cy<T'->x.cy<=T):
   OE a sh P T' E' L' (mL W B') (X++B'.flatMap (jR T)++C.flatMap (mq P T)):=by
 have hdu:=h.du;have uj: ∀n'∈B',n'.cg≠[]/\n'.cg.length<=6/\(n'.cg.Pairwise λa b=>a.part<b.part)/\(∀m∈n'.cg,∃(i k:Nat)(x:cj),m=⟨(i:Int),(k:Int)⟩/\eR P i k=some x/\x.cy=T/\x.cw=n'.cw/\x.dK<=n'.dK)/\
    (n'.cp=⟨0,0⟩\/n'.cp∈(fx a (wr (n'.cw+sh))).1/\n'∈L'/\n'.cP=(E.length:Int)):=λn' mU=>by
   obtain⟨n,n1,n2,n3,n4,n5⟩:=hm.b1 n' mU;have hn:=hB.no n n1;rw[n2,n3,n4];exact⟨hn.ne,by have:=hn.len;omega,hn.tW,λm hq=>by
    obtain⟨i',k',x,e1,_,e2,e3,e4,e5⟩:=hn.me m hq;exact⟨i',k',x,e1,e2,e3,e4,e5⟩,n5⟩
 have hbm: ∀n∈B',∀m∈n.cg,vf P m:=λn hn m hq=>by
   obtain⟨i,k,x,e1,e2,_⟩:=(uj n hn).2.2.2.1 m hq;exact⟨i,k,x,e1,e2⟩
 have X0: ∀n∈B',∀(i k:Nat)x,eR P i k=some x->(⟨(i:Int),(k:Int)⟩:cK)∈n.cg->x.cy=T/\x.cw=n.cw/\x.dK<=n.dK:=λn hn i k x hx hq=>by
   obtain⟨i',k',x',e1,e2,e3,e4,e5⟩:=(uj n hn).2.2.2.1 _ hq;simp at e1;obtain⟨e6,e7⟩:=e1;have:i=i':=by omega
   subst this;have:k=k':=by omega
   subst this;rw[hx]at e2;cases e2;exact⟨e3,e4,e5⟩
 have LO:(B'.map bE.cw).Nodup:=by rw[hm.b3];exact hB.pi
 have hbu: ∀n∈B',∀n'∈B',n.cw=n'.cw->n=n':=λn hn n' mU he=>by
   obtain⟨i,hi,rfl⟩:=ry hn;obtain⟨j,hj,rfl⟩:=ry mU;have LO:List.Pairwise _ (B'.map bE.cw):=LO;rw[Ij,D6]at LO;rcases Gt i j with c|c|c
   ·exact absurd he (LO i j hi hj c)
   ·subst c;rfl
   ·exact absurd he.symm (LO j i hj hi c)
 have UO: ∀n∈B',∀n'∈B',∀m∈n.cg,m∈n'.cg->n=n':=λn hn n' mU m h1 h2=>by
   obtain⟨i,k,x,rfl,hx,_⟩:=(uj n hn).2.2.2.1 m h1;exact hbu n hn n' mU (by rw[<-(X0 n hn i k x hx h1).2.1,(X0 n' mU i k x hx h2).2.1])
 have hKF:DE (B'.flatMap (jR T)):=JL (R:=λx y=>x.cw≠y.cw) (λn _ x hx=>sw hx) (λn hn=>by
   unfold jR;have hp:=(uj n hn).2.2.1;cases decide (n.cp.aY=0)
   ·exact Ar (hp.sublist (List.drop_sublist ..))
   ·exact Ar hp) (by rw[<-Ij];exact LO) λn hn n' mU hR m h1 h2=>hR (by rw[UO n hn n' mU m h1 h2])
 have UP: ∀n∈L,∃e:Nat,n.cP=(e:Int)/\Rg E e n.cp E.length/\jI E e<jI E E.length/\ ∀(i k:Nat)x,eR P i k=some x->(⟨(i:Int),(k:Int)⟩:cK)∈n.cg->x.dK<=n.dK/\gQ W i k=some n.cp/\x.cy=(jI E e:Int):=λn hn=>by
   obtain⟨e,e1,e2,e3⟩:=(h.lv n hn).ev;refine⟨e,e1,e2,rm h.ev e2.lt (eD _),λi k x hx hq=>?_⟩;obtain⟨i',k',x',f1,f2,f3,f4,f5⟩:=e3 _ hq;simp at f1;obtain⟨e6,e7⟩:=f1;have:i=i':=by omega
   subst this;have:k=k':=by omega
   subst this;rw[hx]at f2;cases f2;exact⟨f3,f4,f5⟩
 have hlu: ∀n∈L,∀n'∈L,∀m∈n.cg,m∈n'.cg->n=n':=λn hn n' mU m h1 h2=>by
   obtain⟨e,_,_,e3⟩:=(h.lv n hn).ev;obtain⟨i,k,x,rfl,hx,_⟩:=e3 m h1;obtain⟨_,_,_,_,q1⟩:=UP n hn;obtain⟨_,_,_,_,q2⟩:=UP n' mU;have r1:=(q1 i k x hx h1).2.1;have r2:=(q2 i k x hx h2).2.1;rw[r1]at r2;exact Sj h.ld hn mU (by rw[Option.some.inj r2])
 have hKC:DE (C.flatMap (mq P T)):=JL (R:=λx y=>x.cp.aY≠y.cp.aY) (λn _ x hx=>by
   obtain⟨m,m1,m2,m3,_⟩:=sx hx;exact⟨m,m1,m2,m3⟩) (λn hn=>Ar ((h.lv n (hm.cL n hn)).tW.sublist V5)) hm.cd λn hn n' mU hR q h1 h2=>hR (by rw[hlu n (hm.cL n hn) n' (hm.cL n' mU) q h1 h2])
 have X1: ∀(i k:Nat)x,eR P i k=some x->x.cy≠T->gQ (mL W B') i k=gQ W i k:=λi k x hx ht=>wj hx h.ws hbm λn hn hq=>ht (X0 n hn i k x hx hq).1;have X2: ∀(i k:Nat)x n',eR P i k=some x->n'∈B'->(⟨(i:Int),(k:Int)⟩:cK)∈n'.cg->gQ (mL W B') i k=some n'.cp:=λi k x n' hx mU hq=>Cb hx h.ws hbm (λn hn Kw=>by rw[UO n hn n' mU _ Kw hq]) ⟨n',mU,hq⟩;have Gn: ∀(i k:Nat)x,eR P i k=some x->x.cy=T-> ∃n'∈B',(⟨(i:Int),(k:Int)⟩:cK)∈n'.cg:=λi k x hx ht=>by
   have hi:i<P.length:=by
    unfold eR at hx;cases hp:P[i]? with
    |none=>rw[hp]at hx;simp at hx
    |some p=>exact(fT.1 hp).1
   obtain⟨n,n1,n2⟩:=hB.al i k x (.inl hi) hx ht;obtain⟨n',n3,n4⟩:=hm.b2 n n1;exact⟨n',n3,by rw[n4];exact n2⟩
 have T2: ∀(i k:Nat)x,eR P i k=some x->x.cy≠T->jD (B'.flatMap (jR T)) i k=[]:=λi k x hx ht=>pu λl hl hq=>by
   obtain⟨n,n1,n2⟩:=tK.1 hl;obtain⟨m,m1,m2,m3⟩:=sw n2;have:m=⟨(i:Int),(k:Int)⟩:=by cases m;simp at m2 m3;simp;omega
   subst this;exact ht (X0 n n1 i k x hx m1).1
 have Zx: ∀(i k:Nat),(∀n∈C,(⟨(i:Int),(k:Int)⟩:cK) ∉ n.cg)->jD (C.flatMap (mq P T)) i k=[]:=λi k hq=>pu λl hl hk=>by
   obtain⟨n,n1,n2⟩:=tK.1 hl;obtain⟨m,m1,m2,m3,_⟩:=sx n2;have:m=⟨(i:Int),(k:Int)⟩:=by cases m;simp at m2 m3;simp;omega
   subst this;exact hq n n1 m1
 have Sh: ∀(i k:Nat)x,eR P i k=some x->toOf P ⟨(i:Int),(k:Int)⟩=x.dK:=λi k x hx=>by unfold toOf;simp only[oD,hx,gX,Ce]
 have hTw: ∀(i:Nat)(x:cj)p,x.cy<T->(Twin P (mL W B') i x p↔Twin P W i x p):=λi x p ht=>by
   constructor
   ·rintro⟨i',k',x',t1,t2,t3,t4⟩;exact⟨i',k',x',t1,t2,t3,by rw[<-X1 i' k' x' t2 (by omega)];exact t4⟩
   ·rintro⟨i',k',x',t1,t2,t3,t4⟩;exact⟨i',k',x',t1,t2,t3,by rw[X1 i' k' x' t2 (by omega)];exact t4⟩
 refine⟨hm.ev,by rw[hm.du];omega,λn hn=>?_,hm.ld,Aq h.ws,λi k x hx hxT=>?_,λl hl=>?_,λe s hs=>?_⟩
 ·
   rcases hm.lL n hn with⟨n1,n2⟩|⟨n1,n2,n3,n4⟩
   ·have hl:=h.lv n n1;obtain⟨e,e1,e2,e3⟩:=hl.ev;have gl:=rm h.ev e2.lt (eD _);refine⟨hl.ne,hl.le,hl.tW,hl.co,e,e1,n2 e e1,λm hq=>?_⟩;obtain⟨i,k,x,f1,f2,f3,f4,f5⟩:=e3 m hq;have:=e2.lt;exact⟨i,k,x,f1,f2,f3,by rw[X1 i k x f2 (by omega)];exact f4,by rw[hm.on e (by omega)];exact f5⟩
   ·obtain⟨q1,q2,q3,q4,_⟩:=uj n n1;refine⟨q1,q2,q3,n2,E.length,n3,n4,λm hq=>?_⟩;obtain⟨i,k,x,f1,f2,f3,f4,f5⟩:=q4 m hq;exact⟨i,k,x,f1,f2,f5,X2 i k x n f2 n1 (by rw[<-f1];exact hq),by rw[hm.on _ (eD _)];omega⟩
 ·
   have eP:=hnx i k x hx hxT;by_cases hold:x.cy<T
   ·obtain⟨p,p1,p2⟩:=h.fa i k x hx hold;refine⟨p,by rw[X1 i k x hx (by omega)];exact p1,?_⟩;rw[sv,sv,T2 i k x hx (by omega),xD];have hD: ∀D,Zw P W i k x p D->Zw P (mL W B') i k x p D:=λD hd=>by unfold Zw at *;rw[hTw i x p hold];exact hd
    by_cases kM: ∃n∈L,(⟨(i:Int),(k:Int)⟩:cK)∈n.cg
    ·obtain⟨n,n1,n2⟩:=kM;obtain⟨e0,e1,e2,e3,e4⟩:=UP n n1;obtain⟨f1,f2,f3⟩:=e4 i k x hx n2;rw[p1]at f2;have f2:=Option.some.inj f2;subst f2;have W5:=(h.lv n n1).co;rcases p2 with⟨p2,_⟩|⟨e,D,d1,d2,d3,d4⟩
     ·rw[p2]at W5;simp at W5
     ·have Zy:e<=E.length->e=e0:=λhq=>H7 h.ev hq (by have:=e2.lt;omega) (by omega);have Zz: ∀n'∈C,(⟨(i:Int),(k:Int)⟩:cK)∈n'.cg->n'=n:=λn' h1 h2=>hlu n' (hm.cL n' h1) n n1 _ h2 n2;rcases d4 with⟨d4,d5⟩|⟨c,c1,_⟩
      ·have he:e=e0:=by
        rcases d5 with⟨n',m1,_,m3⟩|⟨c,c1,_⟩
        ·obtain⟨e',m4,m5,_⟩:=UP n' m1;have:=m5.lt;exact Zy (by omega)
        ·exact Zy (by have:=c1.lt;have:=c1.le;omega)
       subst he;have Lv:=hm.on E.length (eD _);refine .inr ⟨e,D,d1,by rw[hm.on e (by have:=e2.lt;omega)];exact d2,hD D d3,?_⟩;rcases hm.qq n n1 e e1 with⟨o1,o2⟩|⟨o1,o2⟩|⟨o1,o2⟩
       ·rw[Zx i k λn' h1 h2=>o2 (by rw[<-Zz n' h1 h2];exact h1),xD];exact .inl ⟨d4,.inl ⟨n,o1,n2,e1⟩⟩
       ·by_cases hc:T<x.dK
        ·refine .inr ⟨E.length,o2,by rw[Lv];omega,?_⟩;rw[Lv,hdu,d4];congr 1;refine tH hKC (tK.2 ⟨n,o1,kl.2 ⟨⟨(i:Int),(k:Int)⟩,nT.2 ⟨n2,?_⟩,rfl⟩⟩) (by simp[tG]);rw[Sh i k x hx];simpa using hc
        ·rw[pu (X:=C.flatMap (mq P T)) λl hl hk=>?_,xD]
         ·exact .inl ⟨d4,.inr ⟨E.length,o2.rg,by rw[Lv];omega⟩⟩
         ·obtain⟨n',l1,l2⟩:=tK.1 hl;obtain⟨m,m1,m2,m3,m4⟩:=sx l2;have:m=⟨(i:Int),(k:Int)⟩:=by cases m;simp at m2 m3;simp;omega
          subst this;rw[Sh i k x hx]at m4;exact hc m4
       ·rw[Zx i k λn' h1 h2=>o1 (by rw[<-Zz n' h1 h2];exact h1),xD];exact .inl ⟨d4,.inr ⟨E.length,hm.rg _ _ _ e2,by rw[Lv];omega⟩⟩
      ·have:=Zy (by have:=c1.rg.lt;have:=c1.rg.le;omega);subst this;exact(e2.nd c1).elim
    ·rw[Zx i k λn' h1 h2=>kM ⟨n',hm.cL n' h1,h2⟩,xD];rcases p2 with p2|⟨e,D,d1,d2,d3,d4⟩
     ·exact .inl p2
     ·have Lv: ∀c,Rg E e p c->jI E' e=jI E e/\jI E' c=jI E c:=λc hc=>by
       have:=hc.lt;have:=hc.le;exact⟨hm.on e (by omega),hm.on c (by omega)⟩
      rcases d4 with⟨d4,⟨n,n1,n2,_⟩|⟨c,c1,c2⟩⟩|⟨c,c1,c2,c3⟩
      ·exact absurd ⟨n,n1,n2⟩ kM
      ·obtain⟨o1,o2⟩:=Lv c c1;exact .inr ⟨e,D,d1,by rw[o1];exact d2,hD D d3,.inl ⟨d4,.inr ⟨c,hm.rg _ _ _ c1,by rw[o2];exact c2⟩⟩⟩
      ·obtain⟨o1,o2⟩:=Lv c c1.rg;exact .inr ⟨e,D,d1,by rw[o1];exact d2,hD D d3,.inr ⟨c,hm.nd _ _ _ c1,by rw[o2];exact c2,by rw[o2];exact c3⟩⟩
   ·have ht:x.cy=T:=by omega
    obtain⟨n',n1,n2⟩:=Gn i k x hx ht;obtain⟨q1,q2,q3,q4,q5⟩:=uj n' n1;have hp:=X2 i k x n' hx n1 n2;obtain⟨r1,r2,r3⟩:=X0 n' n1 i k x hx n2;have hX0:jD X i k=[]:=pu λl hl hk=>by
     obtain⟨i',k',x',l1,l2,l3,l4⟩:=h.lo l hl;have e1:i'=i:=by omega
     have e2:k'=k:=by omega
     subst e1;subst e2;rw[hx]at l3;cases l3;omega
    have Zz:jD (C.flatMap (mq P T)) i k=[]:=Zx i k λn h1 h2=>by
     obtain⟨e,_,_,e3,e4⟩:=UP n (hm.cL n h1);have:=(e4 i k x hx h2).2.2;omega
    refine⟨n'.cp,hp,?_⟩;rw[sv,sv,hX0,Zz,xD,sA,ht];rcases q5 with q5|⟨q5,q6,q7⟩
    ·refine .inl ⟨q5,tH hKF (tK.2 ⟨n',n1,?_⟩) (by simp[tG])⟩;unfold jR;rw[q5];exact kl.2 ⟨_,n2,rfl⟩
    ·have W5:=(js q5).2.1;have X3:jR T n'=(n'.cg.drop 1).map (qi T 2):=by unfold jR;rw[jb (by omega)];rfl
     refine .inr ⟨E.length,jD (B'.flatMap (jR T)) i k,by rw[r2];exact q5,by rw[hm.on _ (eD _)];exact hdu,?_,.inl ⟨rfl,.inl ⟨n',q6,n2,q7⟩⟩⟩;obtain⟨m0,ms,Q7⟩:=Yu q1;rw[Q7,Gc]at q3;rw[Q7]at n2 X3;have X3:jR T n'=ms.map (qi T 2):=X3;rcases mZ.1 n2 with Cu|fB
     ·refine .inl ⟨pu λl hl hk=>?_,?_⟩
      ·obtain⟨n,l1,l2⟩:=tK.1 hl;obtain⟨m,m1,m2,m3⟩:=sw l2;have:m=⟨(i:Int),(k:Int)⟩:=by cases m;simp at m2 m3;simp;omega
       subst this;have:=UO n l1 n' n1 _ m1 (by rw[Q7,Cu];simp);subst this;rw[X3]at l2;obtain⟨m',m4,rfl⟩:=kl.1 l2;have h1:=q3.1 m' m4;have h2:m'.part=(i:Int):=hk.1;rw[<-Cu]at h1;simp at h1;omega
      ·rintro⟨i',k',x',t1,t2,t3,t4⟩;obtain⟨n,t5,t6⟩:=Gn i' k' x' t2 (by omega);rw[X2 i' k' x' n t2 t5 t6]at t4;have t4:=Option.some.inj t4;have:=hm.b4 n t5 n' n1 (by rw[t4];omega) (by rw[t4]);subst this;rw[Q7,<-Cu]at t6;rw[<-Cu]at q3;rcases mZ.1 t6 with t6|t6
       ·simp at t6;omega
       ·have:=q3.1 _ t6;simp at this;omega
     ·refine .inr ⟨?_,?_⟩
      ·rw[ht];exact tH hKF (tK.2 ⟨n',n1,by rw[X3];exact kl.2 ⟨_,fB,rfl⟩⟩) (by simp[tG])
      ·obtain⟨i0,k0,x0,rfl,y1,y2,_⟩:=q4 m0 (by rw[Q7];simp);have:=q3.1 _ fB;simp at this;exact⟨i0,k0,x0,this,y1,by omega,X2 i0 k0 x0 n' y1 n1 (by rw[Q7];simp)⟩
 ·
   rcases lT.1 hl with hl|hl
   ·rcases lT.1 hl with hl|hl
    ·obtain⟨i,k,x,e1,e2,e3,e4⟩:=h.lo l hl;exact⟨i,k,x,e1,e2,e3,by omega⟩
    ·obtain⟨n,n1,n2⟩:=tK.1 hl;obtain⟨m,m1,m2,m3⟩:=sw n2;obtain⟨i,k,x,rfl,f2,f3,_⟩:=(uj n n1).2.2.2.1 m m1;exact⟨i,k,x,m2,m3,f2,by omega⟩
   ·obtain⟨n,n1,n2⟩:=tK.1 hl;obtain⟨m,m1,m2,m3,_⟩:=sx n2;obtain⟨e,_,e2,e3⟩:=(h.lv n (hm.cL n n1)).ev;obtain⟨i,k,x,rfl,f2,_,_,f5⟩:=e3 m m1;have:=rm h.ev e2.lt (eD _);exact⟨i,k,x,m2,m3,f2,by omega⟩
 ·
   rcases hm.st e s hs with⟨s0,s1,s2,s3⟩|⟨rfl,n',n1,n2⟩
   ·obtain⟨i,k,x,e1,e2,e3⟩:=h.sp e s0 s1;have hl:=s1.lt;have:=rm h.ev hl (eD _);exact⟨i,k,x,e1,by rw[hm.on e (by omega)];exact e2,by rw[X1 i k x e1 (by omega),e3,s2,s3]⟩
   ·obtain⟨q1,_,_,q4,_⟩:=uj n' n1;obtain⟨m0,ms,Q7⟩:=Yu q1;obtain⟨i,k,x,rfl,f2,f3,_⟩:=q4 m0 (by rw[Q7];simp);exact⟨i,k,x,f2,by rw[hm.on _ (eD _)];omega,by rw[X2 i k x n' f2 n1 (by rw[Q7];simp),n2]⟩
end
open Go.Sort
def kL(l:dG):Int:=l.part*4096+l.gD*4+l.kind
theorem f44_key{x y:dG}(h1:0<=x.gD/\x.gD<1000/\1<=x.kind/\x.kind<=3)(h2:0<=y.gD/\y.gD<1000/\1<=y.kind/\y.kind<=3):f44 x y=some (rh (kL x) (kL y)):=by
 unfold f44;simp only[f84_eq,dm,f83_eq _ (show cH [_,_,_]by simp[cH])];have lt: ∀{a b:Int},a<b->rh a b= -1:=λh=>by simp[rh,h]
 have gt: ∀{a b:Int},b<a->rh a b=1:=λ{a b}h=>by
  have: ¬a<b:=by omega
  simp[rh,h,this]
 have eq: ∀a:Int,rh a a=0:=λa=>by simp[rh]
 rcases ZX x.part y.part with c|c|c
 ·rw[lt c,lt (show kL x<kL y by unfold kL;omega)];rfl
 ·rw[c,eq];rcases ZX x.gD y.gD with d|d|d
  ·rw[lt d,lt (show kL x<kL y by unfold kL;omega)];rfl
  ·rw[d,eq];rcases ZX x.kind y.kind with e|e|e
   ·rw[lt e,lt (show kL x<kL y by unfold kL;omega)];rfl
   ·rw[e,eq,show kL x=kL y by unfold kL;omega,eq];rfl
   ·rw[gt e,gt (show kL y<kL x by unfold kL;omega)];rfl
  ·rw[gt d,gt (show kL y<kL x by unfold kL;omega)];rfl
 ·rw[gt c,gt (show kL y<kL x by unfold kL;omega)];rfl
theorem px{P:List (List cj)}{x:cj}:x∈P.flatten↔ ∃i k,eR P i k=some x:=by
 rw[List.mem_flatten];constructor
 ·rintro⟨p,h1,h2⟩;obtain⟨i,hi,rfl⟩:=ry h1;obtain⟨k,hk,rfl⟩:=ry h2;exact⟨i,k,by simp[eR,hi,hk]⟩
 ·rintro⟨i,k,h⟩;unfold eR at h;cases hp:P[i]? with
  |none=>rw[hp]at h;simp at h
  |some p=>
   rw[hp]at h;exact⟨p,gT hp,gT (by simpa using h)⟩
theorem sy{P:List (List cj)}(hP: ∀p∈P,p.length<=400/\KV 0 p=true){i k:Nat}{x:cj}(h:eR P i k=some x):0<=x.cy/\x.cy<x.dK/\x.dK<=262144/\0<=x.cw/\x.cw<=127/\k<400/\i<P.length:=by
 unfold eR at h;cases hp:P[i]? with
 |none=>rw[hp]at h;simp at h
 |some p=>
  rw[hp]at h;simp only[dm]at h;have h1:=hP p (gT hp);have h2:=(xZ p 0 h1.2).1 k x h;have h3:=(fT.1 h).1;have h4:=(fT.1 hp).1;omega
theorem UQ{p:List cj}(hp: ∀x∈p,x.cy<x.dK): ∀x∈p,∃t∈lg p,x.dK<=t:=by
 have key: ∀(n:Nat)(x:cj),x∈p->(∀y∈p,y.dK-x.dK<=(n:Int))-> ∃t∈lg p,x.dK<=t:=by
  intro n
  induction n with
  |zero=>
   intro x hx hn;refine⟨x.dK,?_,Ve _⟩;rw[u0];refine .inl ⟨x,hx,?_⟩;unfold fX;have:ml p x.dK=false:=by
    unfold ml;rw[Vf];intro y hy;have:=hn y hy;simp;omega
   rw[this];simp
  |succ n ih=>
   intro x hx hn;by_cases hq: ∃y∈p,x.dK<y.dK
   ·obtain⟨y,hy,gl⟩:=hq;obtain⟨t,h1,h2⟩:=ih y hy λz hz=>by have:=hn z hz;omega
    exact⟨t,h1,by omega⟩
   ·exact ih x hx λy hy=>by
     have: ¬x.dK<y.dK:=λh=>hq ⟨y,hy,h⟩;omega
 intro x hx;have: ∃n:Nat,∀y∈p,y.dK-x.dK<=(n:Int):=by
  clear key hx hp
  induction p with
  |nil=>exact⟨0,by simp⟩
  |cons z r ih=>
   obtain⟨n,hn⟩:=ih;refine⟨n+(z.dK-x.dK).toNat,λy hy=>?_⟩;rcases mZ.1 hy with rfl|hy
   ·omega
   ·have:=hn y hy;omega
 obtain⟨n,hn⟩:=this;exact key n x hx hn
structure kh (P:List (List cj)) (a:bY) (sh:Int) (s:dX):Prop where
 pr:oq P=0
 ins:instS a=0
 shr: -24<=sh/\sh<=24
 ai:s.ck.instrument=a
 si:s.shift=sh
 set: ∃T L X,OE a sh P T s.ck.bP L s.gO X/\(∀(i k:Nat)x,eR P i k=some x->x.dK<=T)/\s.eA.Perm X/\T∈lg P.flatten/\(∀t∈lg P.flatten,t<=T)/\(∀t∈lg P.flatten,∃k,k<=s.ck.bP.length/\(jI s.ck.bP k:Int)=t)
 el:s.ck.bP.length<=400
 ll:s.eA.length<=4000000
 lk: ∀l∈s.eA,0<=l.part/\l.part<6/\0<=l.gD/\l.gD<400/\1<=l.kind/\l.kind<=3
 srt:s.eA.Pairwise λx y=>kL x<kL y
structure OH (P:List (List cj)) (a:bY) (h:eM) (sh:Int) (fK:List (List df)) (i:Nat) (s:StI):Prop where
 ix:s.2.2.2.2.2.2.2.2.2.2.2=(i:Int)
 dk:An ⟨⟨s.1,s.2.1,s.2.2.1⟩,a,h,sh,⟨a,s.2.2.2.1⟩,s.2.2.2.2.1,s.2.2.2.2.2.1⟩
 ev:s.2.2.2.1.length=(fK.take i).flatten.length
 lv:s.2.2.2.2.1.length<=4*i
 xl:s.2.2.2.2.2.2.2.2.2.2.1.length<=9700*i
 st: ∀t,(lg P.flatten)[i]? =some t->OE a sh P t s.2.2.2.1 s.2.2.2.2.1 s.2.2.2.2.2.2.2.2.2.1 s.2.2.2.2.2.2.2.2.2.2.1
 on: ∀(j:Nat)t,j<=i->(lg P.flatten)[j]? =some t-> ∃k,k<=s.2.2.2.1.length/\(jI s.2.2.2.1 k:Int)=t
theorem OI{S:List df}(h:S≠[])(h2: ∀s∈S,s∈ig):0<lr S:=by
 have:=ya h2;have:=Pu.2 h;omega
theorem OJ(P:List (List cj))(a:bY)(h:eM)(sh:Int)(hP6:P.length<=4)(hP: ∀p∈P,p.length<=400/\KV 0 p=true)(fK:List (List df))(J6:fK.length+1=(lg P.flatten).length)
  (hsn: ∀(i:Nat)S,fK[i]? =some S->S≠[]/\(∀s∈S,s∈ig)/\ ∀t t',(lg P.flatten)[i]? =some t->(lg P.flatten)[i+1]? =some t'->t'=t+lr S) (Pr:fK.length<=400) (pI:fK.flatten.length<=400) (i:Nat) (s:StI) (hi:i<fK.length) (hI:OH P a h sh fK i s):
  ∃t S r q,(lg P.flatten)[i]? =some t/\fK[i]? =some S/\f41 ⟨⟨s.1,s.2.1,s.2.2.1⟩,a,h,sh,⟨a,s.2.2.2.1⟩,s.2.2.2.2.1,s.2.2.2.2.2.1⟩ P t S=some r/\
   f42 ⟨⟨⟨s.2.2.2.2.2.2.1,s.2.2.2.2.2.2.2.1⟩,s.2.2.2.2.2.2.2.2.1⟩,sh,s.2.2.2.2.2.2.2.2.2.1,s.2.2.2.2.2.2.2.2.2.2.1⟩ P r.1 r.2.1 t=some q/\
   OH P a h sh fK (i+1) (r.2.2.1,r.2.2.2.1,r.2.2.2.2.1,r.2.2.2.2.2.1,r.2.2.2.2.2.2.1,r.2.2.2.2.2.2.2,s.2.2.2.2.2.2.1,s.2.2.2.2.2.2.2.1,s.2.2.2.2.2.2.2.2.1,q.1,q.2,((i+1:Nat):Int)):=by
 obtain⟨s1,s2,s3,ev,dx,po,c0,c1,c2,wh,lo,ii⟩:=s;obtain⟨e0,hd,IB,Is,hxl,iA,Lv⟩:=hI;simp only at e0 hd IB Is hxl iA Lv;have et:(lg P.flatten)[i]? =some ((lg P.flatten)[i]'(by omega)):=dR _;generalize(lg P.flatten)[i]'(by omega)=t at et;have X4:(lg P.flatten)[i+1]? =some ((lg P.flatten)[i+1]'(by omega)):=dR _;generalize(lg P.flatten)[i+1]'(by omega)=t2 at X4;have eS:fK[i]? =some (fK[i]'hi):=dR _;generalize fK[i]'hi=S at eS;obtain⟨UR,X5,vt⟩:=hsn i S eS;have AG:=vt t t2 et X4;have htk:=p9 eS;have Rk:=qa fK (i+1);rw[htk,lu]at Rk;have fF:=iA t et;have h1T:=JC λp hp=>(hP p hp).2;have hB:=Oz (P:=P) t h1T;have VC:(ri t 0 P []).length<=4:=by
  rcases hB.le with q|⟨_,k',_,q,_⟩<;>omega
 have aaW:=f76_eq P t (by omega) λp hp=>(hP p hp).1;obtain⟨r,r1,r2,U,u1,u2⟩:=OC _ hd P t S (ri t 0 P []) VC aaW UR (by show ev.length+S.length<=4000;omega) (by show dx.length<=_;omega) (λn hn=>(fF.lv n hn).ne) (λn hn hf=>by
  obtain⟨e,e1,e2,_⟩:=(fF.lv n hn).ev;obtain⟨st,⟨d,d1,d2⟩,s2,s3⟩:=e2.st;obtain⟨k,hk,rfl⟩:=ry d2;have ek:d.dy[k]? =some d.dy[k]:=dR hk;have vg:=(fF.ev.ev e d d1).tW;have Gp:d.dy.length<=14:=by
   have:=yd (l:=d.dy.map dw.aY) (n:=15) (lo:=1) (by rw[Ij];exact vg) (λx hx=>by
    obtain⟨s,hs,rfl⟩:=kl.1 hx;obtain⟨q,hq⟩:=(fF.ev.st e s ⟨d,d1,hs⟩).pl;have:=js hq;have h1:=this.2.1;have h2:=this.2.2.1;simp only at h1 h2;omega) (by omega)
   simp at this;omega
  refine⟨e,d,k,_,e1,d1,ek,s2,by simp only[cH];omega,λj y hy hc=>?_⟩;obtain⟨hj,rfl⟩:=fT.1 hy;rw[D6]at vg;rcases Gt j k with c|c|c
  ·have:=vg j k hj hk c;omega
  ·exact c
  ·have:=vg k j hk hj c;omega) fF.ld
 simp only at u1 u2;have DY:=XV (T:=t) fF.ev fF.lv fF.ld (by omega) (λn hn=>(hB.no n hn).pl) u1 UR X5 u2;have X6:=fF.step h1T (by omega) hB DY (OI UR X5) t2 AG λi' k' x hx gl=>by
  rcases Int.lt_or_le t x.cy with c|c
  ·have:=Ol (Jt P.flatten) et X4 (Oj (px.2 ⟨i',k',hx⟩)) c;omega
  ·exact c
 have Ed:=DY.cl;have uj: ∀n'∈r.1,n'.cg.length<=4/\ ∀m∈n'.cg,vf P m:=λn' mU=>by
  obtain⟨n,n1,n2,_⟩:=DY.b1 n' mU;have hn:=hB.no n n1;rw[n2];exact⟨by have:=hn.len;omega,λm hm=>by
   obtain⟨i',k',x,e1,_,e2,_⟩:=hn.me m hm;exact⟨i',k',x,e1,e2⟩⟩
 have hcm: ∀n∈r.2.1,n.cg.length<=6/\ ∀m∈n.cg,vf P m:=λn hn=>by
  have hl:=fF.lv n (DY.cL n hn);obtain⟨e,_,_,e3⟩:=hl.ev;exact⟨hl.le,λm hm=>by
   obtain⟨i',k',x,f1,f2,_⟩:=e3 m hm;exact⟨i',k',x,f1,f2⟩⟩
 have XE:r.1.length<=4:=by
  have:=fC List.length DY.b3;simp at this;omega
 have hde:=XU ⟨⟨⟨c0,c1⟩,c2⟩,sh,wh,lo⟩ P r.1 r.2.1 t (by omega) fF.ws (λn hn=>⟨by have:=(uj n hn).1;omega,(uj n hn).2⟩) hcm XE (by omega) (by show lo.length+24+6*r.2.1.length<=_;omega);refine⟨t,S,r,_,et,eS,r1,hde,⟨rfl,r2,?_,?_,?_,λt' AF=>?_,λj t' hj AF=>?_⟩⟩
 ·show r.2.2.2.2.2.1.length=_;rw[DY.le,htk,lu];omega
 ·show r.2.2.2.2.2.2.1.length<=_;have:=DY.ll;omega
 ·show(lo++r.1.flatMap (jR t)++r.2.1.flatMap (mq P t)).length<=_;have h1:=kK (l:=r.1) (f:=jR t) (b:=4) λn hn=>by
   have:=(uj n hn).1;unfold jR;cases decide (n.cp.aY=0)
   ·simp;omega
   ·simp;omega
  have h2:=kK (l:=r.2.1) (f:=mq P t) (b:=6) λn hn=>by
   have:=(hcm n hn).1;unfold mq;have:=tQ (λm=>decide (t<toOf P m)) n.cg;simp;omega
  simp only[lu];omega
 ·rw[X4]at AF;cases AF;exact X6
 ·show∃k,k<=r.2.2.2.2.2.1.length/\(jI r.2.2.2.2.2.1 k:Int)=t';by_cases hji:j<=i
  ·obtain⟨k,k1,k2⟩:=Lv j t' hji AF;exact⟨k,by rw[DY.le];omega,by rw[DY.on k k1];exact k2⟩
  ·have:j=i+1:=by omega
   subst this;rw[X4]at AF;cases AF;exact⟨_,eD _,by rw[DY.du];have:=fF.du;omega⟩
theorem f12_gen(P:List (List cj))(a:bY)(h:eM)(sh:Int)(hs:cH P)(h4:wa P a=0->P.length<=4): ∃r,f12 P a h sh=some r/\(r.2=0->kh P a sh r.1):=by
 unfold f12;rw[f32_eq P a hs];simp only[dm];by_cases h1:wa P a=0
 case neg=>simp only[rz,h1,O4,ij,dt];exact⟨_,rfl,λh=>absurd h h1⟩
 simp only[h1,rz,xb,fq,dD];obtain⟨e,e1,e2⟩:=f33_ex h;rw[e1];simp only[dm];by_cases h2:e=0
 case neg=>simp only[h2,O4,ij,dt];exact⟨_,rfl,λh=>absurd h h2⟩
 subst h2;have hh:=e2 rfl;simp only[xb,fq,dD,f34_eq,dm];cases fB:om sh (-24) 24
 case false=>simp only[Lz,dt];exact⟨_,rfl,λh=>by simp at h⟩
 have aaX: -24<=sh/\sh<=24:=by simpa[om]using fB
 simp only[qc,dD];obtain⟨Sb,Sk⟩:=N2 h1;obtain⟨_,oH⟩:=kJ Sb;have hP4:=h4 h1;have pI:=z8 4 (by omega) λp hp=>(oH p hp).1;have hat:f35 P=some (lg P.flatten):=f35_eq P (by omega) λp hp=>(oH p hp).1;have Gn:=QU (p:=P.flatten);have vg:=Jt P.flatten;have vz:0<(lg P.flatten).length:=ZK ((u0 P.flatten 0).2 (.inr rfl));have Du: ∀{y},y∈lg P.flatten->0<=y/\y<=262144:=λ{y}hy=>by
  rcases B8 hy with rfl|⟨x,hx,hq⟩
  ·omega
  ·obtain⟨i,k,hx⟩:=px.1 hx;have:=sy oH hx;omega
 simp only[hat,dm];have w0:wr (((lg P.flatten).length:Int)-1)=(((lg P.flatten).length-1:Nat):Int):=by rw[iZ (by omega) (by omega)];omega
 rw[w0];refine fc (λk(s:List (List df)×Int)=>s.2=(k:Int)/\s.1.length=k/\ ∀(i:Nat)S,s.1[i]? =some S->S≠[]/\S.length<=4608/\(∀s∈S,s∈ig)/\ ∀t t',(lg P.flatten)[i]? =some t->(lg P.flatten)[i+1]? =some t'->t'=t+lr S) (λo=>match o with
  |.inl s=>s.length+1=(lg P.flatten).length/\ ∀(i:Nat)S,s[i]? =some S->S≠[]/\S.length<=4608/\(∀s∈S,s∈ig)/\ ∀t t',(lg P.flatten)[i]? =some t->(lg P.flatten)[i+1]? =some t'->t'=t+lr S
  |.inr r=>r.2=25) ((lg P.flatten).length-1) (by omega) ⟨rfl,rfl,by simp⟩ ?_ ?_ ?_
 ·rintro k ⟨s,i⟩ hk ⟨q1,q2,q3⟩;simp only at q1 q2 q3;subst q1;have x1:(lg P.flatten)[k]? =some ((lg P.flatten)[k]'(by omega)):=dR _;have x2:(lg P.flatten)[k+1]? =some ((lg P.flatten)[k+1]'(by omega)):=dR _;generalize(lg P.flatten)[k]'(by omega)=t at x1;generalize(lg P.flatten)[k+1]'(by omega)=t2 at x2;have c1:(k:Int)<(((lg P.flatten).length-1:Nat):Int):=by omega
  have w1:wr ((k:Int)+1)=((k+1:Nat):Int):=fH (by omega);have b1:=Du (gT x1);have b2:=Du (gT x2);have b3:=va vg (Vc k) x1 x2;have w2:wr (t2-t)=t2-t:=iZ (by omega) (by omega);obtain⟨r,r1,r2⟩:=f36_ex (t2-t);have m1:s.length+1<=bQ:=by unfold bQ;omega
  simp only[c1,ij,dt,w1,cJ x2,cJ x1,dm,w2,r1];by_cases c2:r.2=0
  ·obtain⟨_,n1,n2,n3⟩:=r2 c2;simp only[c2,xb,fq,dD,cX m1];refine .inl ⟨_,rfl,rfl,by simp[q2],λi S hS=>?_⟩;have US:(s++[r.1])[i]? =some S:=hS;clear hS;rcases Ch i s.length with gl|JS
   ·rw[nD gl]at US;exact q3 i S US
   ·rw[qb JS]at US;have Y8:=(fT.1 US).1;simp at Y8;have Sc:i=k:=by omega
    subst Sc;rw[show i-s.length=0 by omega]at US;simp at US;subst US;refine⟨λh=>?_,?_,n3,λt' t'' h1 h2=>?_⟩
    ·rw[h]at n2;simp[lr]at n2;omega
    ·have:=ya n3;omega
    ·rw[x1]at h1;rw[x2]at h2;cases h1;cases h2;omega
  ·simp only[c2,O4,ij,dt];exact .inr ⟨_,rfl,rfl⟩
 ·rintro⟨s,i⟩ ⟨q1,q2,q3⟩;simp only at q1 q2 q3;subst q1;simp only[oF,fq,dD];exact⟨_,rfl,by omega,q3⟩
 intro o ho;cases o with
 |inr r=>exact⟨r,rfl,λh=>by have h3:r.2=25:=ho;omega⟩
 |inl fK=>
 obtain⟨J6,T9⟩:=ho;have J6:fK.length+1=(lg P.flatten).length:=J6;have X7: ∀S∈fK,S≠[]/\S.length<=4608:=λS hS=>by
  obtain⟨i,hi,rfl⟩:=ry hS;have:=T9 i _ (dR hi);exact⟨this.1,this.2.1⟩
 have UT:(lg P.flatten)[0]? =some 0:=by
  have e0:(lg P.flatten)[0]? =some ((lg P.flatten)[0]'vz):=dR _;obtain⟨m,DZ,HR⟩:=ry ((u0 P.flatten 0).2 (.inr rfl));have em:(lg P.flatten)[m]? =some 0:=by rw[<-HR];exact dR DZ
  cases m with
  |zero=>exact em
  |succ m=>
   have:=va vg (Nat.succ_pos m) e0 em;have:=(Du (gT e0)).1;omega
 have hfb: ∀i,i<=fK.length-> ∀t,(lg P.flatten)[i]? =some t->((fK.take i).flatten.length:Int)<=t:=by
  intro i
  induction i with
  |zero=>intro _ t ht;rw[UT]at ht;cases ht;simp
  |succ i ih=>
   intro hi t' AF;have et:(lg P.flatten)[i]? =some ((lg P.flatten)[i]'(by omega)):=dR _;have eS:fK[i]? =some (fK[i]'(by omega)):=dR _;have h1:=ih (by omega) _ et;obtain⟨_,_,h2,h3⟩:=T9 i _ eS;have h4:=h3 _ _ et AF;have h5:=ya h2;rw[p9 eS,lu];omega
 have hfb:fK.flatten.length<=262144:=by
  have et:(lg P.flatten)[fK.length]? =some ((lg P.flatten)[fK.length]'(by omega)):=dR _;have h1:=hfb fK.length (eD _) _ et;have h2:=Du (gT et);rw[AN]at h1;omega
 simp only[vn];have Q4:fK.length<=3200:=by omega
 rw[f37_eq fK (by simp only[cH];omega) (by omega)];simp only[dm];by_cases h3:400<(fK.flatten.length:Int)
 case pos=>simp only[h3,ij,dt];exact⟨_,rfl,λh=>by simp at h⟩
 have Pr:fK.length<=400:=by
  have: ∀l:List (List df),(∀S∈l,S≠[])->l.length<=l.flatten.length:=by
   intro l
   induction l with
   |nil=>simp
   |cons S l ih=>
    intro hl;have:=ih λS hS=>hl S (by simp[hS]);have:=Pu.2 (hl S (by simp));rw[V3,lu,oC];omega
  have:=this fK λS hS=>(X7 S hS).1;omega
 obtain⟨i1,i2,_,_,_⟩:=instS_ok Sk;rw[f38_eq a.cS (by simp only[cH];omega),f22_eq a.cu (by simp only[cH];omega),f39_eq P (by omega) λp hp=>(oH p hp).1];simp only[h3,fq,dD,dm];have aaY:OH P a h sh fK 0 (([]:List be),([]:List Int),([]:List Int),([]:List cz),([]:List bE),([]:List cG),([]:List cT),([]:List Int),([]:List cz),(P.map λp=>List.replicate p.length (⟨0,0⟩:be)),([]:List dG),(0:Int)):=by
  refine⟨rfl,⟨⟨hh,e1,⟨by simp[cH],by simp[cH],by simp[cH]⟩,by simp,by simp⟩,Ae⟩,by simp,by simp,by simp,λt ht=>?_,λj t hj ht=>⟨0,by simp,?_⟩⟩
  ·rw[UT]at ht;cases ht;refine⟨⟨by simp,λe s hs=>?_⟩,rfl,by simp,by simp,by simp[D3,Function.comp_def],λi k x hx gl=>?_,by simp,λe s hs=>?_⟩
   ·obtain⟨d,d1,_⟩:=hs;simp at d1
   ·have:=sy oH hx;omega
   ·obtain⟨d,d1,_⟩:=hs;simp at d1
  ·have:j=0:=by omega
   subst this;rw[UT]at ht;cases ht;rfl
 refine fc (λk(s:StI)=>OH P a h sh fK k s) (λr=> ∃i,OH P a h sh fK fK.length (r.1,r.2.1,r.2.2.1,r.2.2.2.1,r.2.2.2.2.1,r.2.2.2.2.2.1,r.2.2.2.2.2.2.1,r.2.2.2.2.2.2.2.1,r.2.2.2.2.2.2.2.2.1,r.2.2.2.2.2.2.2.2.2.1,r.2.2.2.2.2.2.2.2.2.2,i)) fK.length (by omega) aaY ?_ ?_ ?_
 ·rintro k s hk hI;obtain⟨t,S,r,q,x1,x2,x3,x5,x6⟩:=OJ P a h sh hP4 oH fK J6 (λi S hS=>by
   obtain⟨y1,_,y2,y3⟩:=T9 i S hS;exact⟨y1,y2,y3⟩) Pr (by omega) k s hk hI
  obtain⟨s1,s2,s3,ev,dx,po,c0,c1,c2,wh,lo,ii⟩:=s;have vp:=hI.ix;simp only at vp;subst vp;simp only at x3 x5 x6;simp only[dr x2,dt,cJ x2,cJ x1,dm,x3,x5,eT (l:=fK) (by simp only[cH];omega) x2];exact .inl ⟨_,rfl,x6⟩
 ·rintro s hI;obtain⟨s1,s2,s3,ev,dx,po,c0,c1,c2,wh,lo,ii⟩:=s;have vp:=hI.ix;simp only at vp;subst vp;simp only[oF,fq,dD];exact⟨_,rfl,_,hI⟩
 rintro⟨s1,s2,s3,ev,dx,po,c0,c1,c2,wh,lo⟩ ⟨ii,hI⟩;obtain⟨g0,gd,gev,glv,gxl,gst,gon⟩:=hI;simp only at g0 gd gev glv gxl gst gon;have et:(lg P.flatten)[fK.length]? =some ((lg P.flatten)[fK.length]'(by omega)):=dR _;generalize(lg P.flatten)[fK.length]'(by omega)=T at et;have fF:=gst T et;have OK: ∀t∈lg P.flatten,t<=T:=λt ht=>by
  obtain⟨m,DZ,HR⟩:=ry ht;have em:(lg P.flatten)[m]? =some t:=by rw[<-HR];exact dR DZ
  rcases Gt m fK.length with c|c|c
  ·have:=va vg c em et;omega
  ·subst c;rw[et]at em;have:=Option.some.inj em;omega
  ·omega
 have aaZ: ∀(i k:Nat)x,eR P i k=some x->x.dK<=T:=λi k x hx=>by
  obtain⟨t,t1,t2⟩:=UQ (p:=P.flatten) (λy hy=>by
   obtain⟨i,k,hy⟩:=px.1 hy;exact(sy oH hy).2.1) x (px.2 ⟨i,k,hx⟩)
  have:=OK t t1;omega
 have UG: ∀l∈lo,0<=l.part/\l.part<6/\0<=l.gD/\l.gD<400/\1<=l.kind/\l.kind<=3:=λl hl=>by
  obtain⟨i,k,x,l1,l2,l3,l4⟩:=fF.lo l hl;have hx:=sy oH l3;have hm:l∈jD lo i k:=nT.2 ⟨hl,by simp[tG,l1,l2]⟩;obtain⟨p,_,hf⟩:=fF.fa i k x l3 l4;have hk:1<=l.kind/\l.kind<=3:=by
   rcases hf with⟨_,hf⟩|⟨e,D,_,_,hD,⟨hf,_⟩|⟨c,_,_,hf⟩⟩
   ·rw[hf]at hm;simp at hm;subst hm;simp
   ·rw[hf]at hm;rcases hD with⟨rfl,_⟩|⟨rfl,_⟩
    ·simp at hm
    ·simp at hm;subst hm;simp
   ·rw[hf]at hm;rcases hD with⟨rfl,_⟩|⟨rfl,_⟩
    ·simp at hm;subst hm;simp
    ·simp at hm;rcases hm with rfl|rfl<;>simp
  omega
 have X8: ∀l∈lo,∀l'∈lo,kL l=kL l'->l=l':=λl hl l' vr he=>by
  have b1:=UG l hl;have b2:=UG l' vr;unfold kL at he;obtain⟨i,k,x,l1,l2,l3,l4⟩:=fF.lo l hl;have hm:l∈jD lo i k:=nT.2 ⟨hl,by simp[tG,l1,l2]⟩;have oG:l'∈jD lo i k:=nT.2 ⟨vr,by simp[tG];omega⟩;have VR:l.kind=l'.kind:=by omega
  obtain⟨p,_,hf⟩:=fF.fa i k x l3 l4;rcases hf with⟨_,hf⟩|⟨e,D,_,_,hD,⟨hf,_⟩|⟨c,_,_,hf⟩⟩
  ·rw[hf]at hm oG;simp at hm oG;rw[hm,oG]
  ·rw[hf]at hm oG;rcases hD with⟨rfl,_⟩|⟨rfl,_⟩
   ·simp at hm
   ·simp at hm oG;rw[hm,oG]
  ·rw[hf]at hm oG;rcases hD with⟨rfl,_⟩|⟨rfl,_⟩
   ·simp at hm oG;rw[hm,oG]
   ·simp at hm oG;rcases hm with rfl|rfl<;>rcases oG with rfl|rfl
    ·rfl
    ·simp at VR
    ·simp at VR
    ·rfl
 obtain⟨r,r1,r2,r3⟩:=B4 kL f44 lo (λx hx y hy=>by
  have b1:=UG x hx;have b2:=UG y hy;exact f44_key (by omega) (by omega)) (by simp only[cH];omega) X8
 have Wd:=qa fK fK.length;have m1:ev.length<=cU:=by unfold cU;omega
 have hwl:wh.length=P.length:=by have:=fC List.length fF.ws;simpa using this
 have m2:wh.length<=cU:=by unfold cU;omega
 unfold f43;simp only[r1,dm,cX m1,cX m2,cX r2.length_eq];refine⟨_,rfl,λ_=>⟨Sb,Sk,aaX,rfl,rfl,⟨T,dx,lo,fF,aaZ,r2,gT et,OK,λt ht=>?_⟩,?_,?_,λl hl=>UG l (r2.mem_iff.1 hl),?_⟩⟩
 ·obtain⟨m,DZ,HR⟩:=ry ht;have em:(lg P.flatten)[m]? =some t:=by rw[<-HR];exact dR DZ
  exact gon m t (by omega) em
 ·show ev.length<=400;omega
 ·show r.length<=4000000;rw[r2.length_eq];omega
 ·have sK:lo.Nodup:=List.nodup_iff_count.2 λl=>by
   by_cases hl:l∈lo
   ·obtain⟨i,k,x,l1,l2,l3,l4⟩:=fF.lo l hl;have hc:(jD lo i k).count l=lo.count l:=List.count_filter (by simp[tG,l1,l2]);rw[<-hc];obtain⟨p,_,hf⟩:=fF.fa i k x l3 l4;have:(jD lo i k).Nodup:=by
     rcases hf with⟨_,hf⟩|⟨e,D,_,_,hD,⟨hf,_⟩|⟨c,_,_,hf⟩⟩
     ·rw[hf];simp
     ·rw[hf];rcases hD with⟨rfl,_⟩|⟨rfl,_⟩<;>simp
     ·rw[hf];rcases hD with⟨rfl,_⟩|⟨rfl,_⟩<;>simp
    exact List.nodup_iff_count.1 this l
   ·rw[List.count_eq_zero_of_not_mem hl];omega
  have hnr:r.Pairwise λx y=>x≠y:=r2.nodup_iff.2 sK;show r.Pairwise _;refine(r3.and hnr).imp_of_mem λ{x y}hx hy ⟨h1,h2⟩=>?_;have:=X8 x (r2.mem_iff.1 hx) y (r2.mem_iff.1 hy);rcases Int.lt_or_eq_of_le h1 with h|h
  ·exact h
  ·exact absurd (this h) h2
theorem f133_eq(d:cz):f133 d=some (xw d):=by
 unfold f133 xw;have:decide ((d.dy.length:Int)=0)=d.dy.isEmpty:=by
  cases d.dy with
  |nil=>rfl
  |cons a l=>exact jb (by simp;omega)
 rw[this];cases d.dy.isEmpty<;>rfl
theorem f134_eq(d:cz)(x:Int)(hs:cH d.dy):f134 d x=some (tX d x):=by
 unfold f134 f175 f115_1 tX;rw[fZ d.dy (λs:dw=>decide (s.aY=x)) (λi _=>(i:Int)) hs]
 ·simp only[dm,gJ];rw[<-gz];unfold iF;cases d.dy.findIdx? _<;>simp
 ·intro i y hy;simp only[dr hy,dt,cJ hy,dm,f176];cases decide (y.aY=x)<;>rfl
 ·simp
theorem X9{s:df}(h:s∈ig):f55 s=some true/\oZ s ⟨0,false,false⟩=false:=by
 obtain⟨h1,h2,_⟩:=jZ s h;have h0:oZ s ⟨0,false,false⟩=false:=by
  cases hq:oZ s ⟨0,false,false⟩
  ·rfl
  ·simp[oZ]at hq;have:s=⟨0,false,false⟩:=by cases s;simp at hq;simp[hq]
   rw[this]at h1 h2;have h3:f58 ⟨0,false,false⟩=some 0:=rfl;rw[h3]at h1;have:=Option.some.inj h1;omega
 refine⟨?_,h0⟩;unfold f55;have hd:decide (0<(tk s:Int))=true:=sB (by omega);simp only[h0,dD,h1,dm,hd]
section
variable {a:bY} {E:List cz}
theorem lM.ZA(h:lM a E){e:Nat}{d:cz}(hd:E[e]? =some d):d.dy.length<=14:=by
 have:=yd (l:=d.dy.map dw.aY) (n:=15) (lo:=1) (by rw[Ij];exact(h.ev e d hd).tW) (λx hx=>by
  obtain⟨s,hs,rfl⟩:=kl.1 hx;obtain⟨q,hq⟩:=(h.st e s ⟨d,hd,hs⟩).pl;have:=js hq;have h1:=this.2.1;have h2:=this.2.2.1;simp only at h1 h2;omega) (by omega)
 simp at this;omega
theorem lM.tX(h:lM a E){e:Nat}{d:cz}(hd:E[e]? =some d)(x:Int):f134 d x=some (tX d x):=f134_eq d x (by have:=h.ZA hd;simp only[cH];omega)
theorem f90_ex(p:dW)(h:lM a p.bP)(hl:p.bP.length<=400){i:Nat}{s:dw}(hs:fY p.bP i s): ∃r,f90 p (i:Int) s.aY=some r/\s.hold<=r:=by
 have hi:=hs.lt;have so:=h.st i s hs;have ho:=h.hold hs;unfold f90;have c1:decide ((i:Int)<0)=false:=jb (by omega);have c2:decide ((p.bP.length:Int)<=(i:Int))=false:=jb (by omega);have w1:wr ((i:Int)+1)=((i+1:Nat):Int):=fH (by omega);have n1:(0:Int)<=((i+1:Nat):Int):=by omega
 have n2:i+1<=p.bP.length:=by omega
 simp only[c1,c2,dD,dm,w1,cX n1,oD,cX n2,AN];have Gp:(p.bP.drop (i+1)).length=p.bP.length-(i+1):=U8 ..;refine fc (λk(q:Int×Int)=>q=((k:Int),(k:Int))/\k<=15) (λr=>s.hold<=r) (p.bP.drop (i+1)).length (by omega) ⟨rfl,by omega⟩ ?_ ?_ ?_
 ·rintro k _ hk ⟨rfl,abd⟩;have e1:(p.bP.drop (i+1))[k]? =some ((p.bP.drop (i+1))[k]'hk):=dR _;generalize(p.bP.drop (i+1))[k]'hk=d at e1;have e2:p.bP[i+1+k]? =some d:=by rw[Lw]at e1;exact e1
  simp only[dr e1,dt,cJ e1,dm,f133_eq,h.tX e2,fH (show k<=4194304 by omega)];by_cases hc:k<s.hold
  ·obtain⟨h1,h2⟩:=so.on (i+1+k) d (by omega) (by omega) e2;have h3:=(so.hl (by omega)).2.1;have c3:decide ((k:Int)=15)=false:=jb (by omega);simp only[h1,h2,c3,dD,dm];exact .inl ⟨_,rfl,rfl,by omega⟩
  ·cases c3:decide ((k:Int)=15)
   ·have c3:=of_decide_eq_false c3;cases xw d
    ·cases tX d s.aY
     ·simp only[dD,dm];exact .inl ⟨_,rfl,rfl,by omega⟩
     ·simp only[dD,dm,dt];exact .inr ⟨_,rfl,by omega⟩
    ·simp only[dD,dm,dt];exact .inr ⟨_,rfl,by omega⟩
   ·simp only[dm,dt];exact .inr ⟨_,rfl,by omega⟩
 ·rintro _ ⟨rfl,_⟩;simp only[oF,fq,dD];exact⟨_,rfl,by omega⟩
 ·intro r hr;exact⟨r,rfl,hr⟩
theorem f56_y(p:dW)(h:lM p.instrument p.bP)(hl:p.bP.length<=400){i:Nat}{s:dw}(hs:fY p.bP i s){last:Int}(OK:last<s.aY):f56 p (i:Int) s last=some 0:=by
 have so:=h.st i s hs;obtain⟨q,hq⟩:=so.pl;obtain⟨_,p1,p2,p3,p4,c,p5,p6,_⟩:=js hq;simp only at p1 p2 p3 p4 p5 p6;have Ed:=(fT.1 p5).1;obtain⟨r,r1,r2⟩:=f90_ex p h hl hs;obtain⟨s1,s2⟩:=so.rg;have w1:wr (s.aY-1)=(((s.aY-1).toNat:Nat):Int):=by rw[iZ (by omega) (by omega)];omega
 unfold f56;have c1:decide (s.aY<1)=false:=jb (by omega);have c2:decide ((p.instrument.cS.length:Int)<s.aY)=false:=jb (by omega);have c3:decide (s.cO<0)=false:=jb (by omega);have c4:decide (c.eZ<s.cO)=false:=jb (by omega);have c5:decide (s.aY<=last)=false:=jb (by omega);have c6:decide (s.hold<0)=false:=jb (by have:=so.h0;omega);have c7:decide (r<s.hold)=false:=jb (by omega);have c8:(bif decide (0<s.hold)then some (decide (s.cO=0))else some false)=some false:=by
  by_cases hh:0<s.hold
  ·have:=(so.hl hh).1;have c9:decide (s.cO=0)=false:=jb (by omega);rw[c9];cases decide (0<s.hold)<;>rfl
  ·rw[jb hh];rfl
 simp only[c1,c2,c3,w1,cJ p5,c4,c5,s1,s2,c6,r1,c7,c8,dD,dm];rfl
theorem f25_y(p:dW)(hi:instS p.instrument=0)(h:lM p.instrument p.bP)(hl:p.bP.length<=400):f25 p=some 0:=by
 have key: ∃r,f25 p=some r/\r=0:=by
  unfold f25;have c1:decide (400<(p.bP.length:Int))=false:=jb (by omega);rw[f31_eq,hi];simp only[dm,rz,xb,fq,dD,c1];refine fc (λk(q:Int)=>q=(k:Int)) (λr=>r=.inl ()) p.bP.length (by omega) rfl ?_ ?_ ?_
  ·rintro k _ hk rfl;have e1:p.bP[k]? =some (p.bP[k]'hk):=dR _;generalize p.bP[k]'hk=d at e1;have hd:=h.ev k d e1;obtain⟨g1,g2⟩:=X9 hd.sg;have hf:=h.ZA e1;have c2:(bif decide ((k:Int)=0)then some false else some false)=some false:=by cases decide ((k:Int)=0)<;>rfl
   have c3:(bif d.tie then(bif decide ((k:Int)=0)then some true else some (decide (0<(d.dy.length:Int))))else some false)=some false:=by
    cases ht:d.tie
    ·rfl
    ·obtain⟨t1,t2⟩:=hd.tie ht;have:decide ((k:Int)=0)=false:=jb (by omega);rw[t1,this];rfl
   simp only[dr e1,dt,cJ e1,dm,g1,g2,c2,c3,qc,dD,eT (l:=p.bP) (by simp only[cH];omega) e1];refine .inl (JG (λj(q:Int×Int)=>q.2=(j:Int)/\ ∀s,d.dy[j]? =some s->q.1<s.aY) (λr=>r=.inl ()) d.dy.length (by omega) ⟨rfl,λs hs=>?_⟩ ?_ ?_ ?_)
   ·obtain⟨q,hq⟩:=(h.st k s ⟨d,e1,gT hs⟩).pl;have:=(js hq).2.1;show 0<s.aY;simp only at this;omega
   ·rintro j ⟨q1,q2⟩ hj ⟨e0,hq⟩;simp only at e0 hq;subst e0;have e2:d.dy[j]? =some (d.dy[j]'hj):=dR _;have gl:=hq _ e2;have YE:=f56_y p h hl (i:=k) (s:=d.dy[j]'hj) ⟨d,e1,JN _⟩ gl;have vg:=hd.tW;rw[D6]at vg;simp only[dr e2,dt,cJ e2,dm,YE,eT (l:=d.dy) (by simp only[cH];omega) e2,rz,xb,fq,dD];refine .inl ⟨_,rfl,rfl,λs hs=>?_⟩;obtain⟨VM,rfl⟩:=fT.1 hs;exact vg j (j+1) hj VM (Vc j)
   ·rintro⟨q1,q2⟩ ⟨e0,hq⟩;simp only at e0;subst e0;simp only[oF,fq,dD];exact⟨_,rfl,rfl⟩
   ·rintro _ rfl;exact⟨_,rfl,rfl⟩
  ·rintro _ rfl;simp only[oF,fq,dD];exact⟨_,rfl,rfl⟩
  ·rintro _ rfl;exact⟨_,rfl,rfl⟩
 obtain⟨r,h1,rfl⟩:=key;exact h1
def xy(E:List cz):List Int:=(List.range (E.length+1)).map λk=>(jI E k:Int)
theorem FY:(xy E).length=E.length+1:=by simp[xy]
theorem Au{k:Nat}(h:k<=E.length):(xy E)[k]? =some (jI E k:Int):=by
 unfold xy;rw[sW,List.getElem?_range (by omega)];rfl
theorem Sl(h:lM a E): ∀k,k<=E.length->jI E k<=768*k
 |0,_=>by simp[jI]
 |k+1,hk=>by
  have e1:E[k]? =some (E[k]'(by omega)):=dR _;rw[DA e1];have:=Sl h k (by omega);have:=(jZ _ (h.ev k _ e1).sg).2.2;omega
theorem f9_y(p:dW)(hi:instS p.instrument=0)(h:lM p.instrument p.bP)(hl:p.bP.length<=400):f9 p=some (xy p.bP,0):=by
 have key: ∃r,f57 [0] p=some r/\r=xy p.bP:=by
  unfold f57;refine fc (λk(q:List Int×Int×Int)=>q.2.2=(k:Int)/\q.1=(List.range (k+1)).map λk=>(jI p.bP k:Int)) (λr=>r=.inl (xy p.bP)) p.bP.length (by omega) ⟨rfl,rfl⟩ ?_ ?_ ?_
  ·rintro k ⟨q1,q2,q3⟩ hk ⟨e0,e1⟩;simp only at e0 e1;subst e0;subst e1;have x1:p.bP[k]? =some (p.bP[k]'hk):=dR _;generalize p.bP[k]'hk=d at x1;obtain⟨t1,t2,t3⟩:=jZ _ (h.ev k d x1).sg;have c1:decide (0<(tk d.sign:Int))=true:=sB (by omega);have y1:((List.range (k+1)).map λk=>(jI p.bP k:Int))[k]? =some (jI p.bP k:Int):=by rw[sW,List.getElem?_range (by omega)];rfl
   have m1:((List.range (k+1)).map λk=>(jI p.bP k:Int)).length+1<=bQ:=by simp;unfold bQ;omega
   have hb:=Sl h k (by omega);have w1:wr ((jI p.bP k:Int)+(tk d.sign:Int))=(jI p.bP (k+1):Int):=by rw[iZ (by omega) (by omega),DA x1];omega
   simp only[dr x1,dt,cJ x1,dm,t1,c1,f297,cJ y1,cX m1,w1,eT (l:=p.bP) (by simp only[cH];omega) x1];refine .inl ⟨_,rfl,rfl,?_⟩;show _++_=_;rw[List.range_succ (n:=k+1),Cf];rfl
  ·rintro⟨q1,q2,q3⟩ ⟨e0,e1⟩;simp only at e0 e1;subst e0;subst e1;simp only[oF,fq,dD];exact⟨_,rfl,rfl⟩
  ·rintro _ rfl;exact⟨_,rfl,rfl⟩
 obtain⟨r,h1,rfl⟩:=key;unfold f9;rw[f25_y p hi h hl];simp only[dm,rz,xb,fq,dD,f26,h1]
theorem f49_y{p:be}{q:Int}(h:p∈(fx a q).1):f49 a p=some (q,0):=by
 obtain⟨h0,p1,p2,p3,p4,c,p5,p6,p7⟩:=js h;have Ed:=(fT.1 p5).1;obtain⟨_,i2,_,_,i5⟩:=instS_ok h0;have hc:=nA (i5 c (gT p5));have w1:wr (p.aY-1)=(((p.aY-1).toNat:Nat):Int):=by rw[iZ (by omega) (by omega)];omega
 have c1:decide (p.aY<1)=false:=jb (by omega);have c2:decide ((a.cS.length:Int)<p.aY)=false:=jb (by omega);have c3:decide (p.cO<0)=false:=jb (by omega);have c4:decide (c.eZ<p.cO)=false:=jb (by omega);have h71:=f89_eq a c p.cO.toNat (by omega) hc.2.1 i2;rw[show((p.cO.toNat:Nat):Int)=p.cO by omega,p7]at h71;unfold f49;rw[f31_eq,h0];simp only[dm,rz,xb,fq,dD,c1,c2,w1,cJ p5,c3,c4,h71]
end
structure Cc (E:List cz) (e:Nat) (s:dw) (c:Nat):Prop where
 lt:e<c
 le:c<=E.length
 fr:0<s.cO->(e:Int)+s.hold<(c:Int)/\(∀(j:Nat)d,(e:Int)+s.hold<(j:Int)->j<c->E[j]? =some d->d.tie=true)/\ ∀d,E[c]? =some d->d.tie=false
 op: ¬0<s.cO->(∀(j:Nat)d,e<j->j<c->E[j]? =some d->xw d=false/\tX d s.aY=false)/\ ∀d,E[c]? =some d->xw d=true\/tX d s.aY=true
def DF(a:bY)(s:dw):Int:=((f49 a ⟨s.aY,s.cO⟩).getD (0,0)).1
def vh(a:bY)(E:List cz)(e:Nat)(s:dw)(to:Nat):de:=⟨(e:Int),s.aY,DF a s,(jI E e:Int),(jI E to:Int)⟩
def rp(E:List cz)(i:Nat):List (Nat×dw):=(((E[i]?).map cz.dy).getD []).map λs=>(i,s)
def stM(E:List cz):Nat->List (Nat×dw)
 |0=>[]
 |i+1=>stM E i++rp E i
structure lA (a:bY) (E:List cz) (i:Nat) (done:Int->Bool) (M:List (Nat×dw)) (out:List de) (ring:List Int):Prop where
 ol:out.length=M.length
 rl:ring.length=15
 nt: ∀(m e:Nat)s,M[m]? =some (e,s)-> ∃c,out[m]? =some (vh a E e s c)/\(Cc E e s c\/(¬0<s.cO/\ring[s.aY.toNat]? =some ((m:Int)+1)/\c=E.length))
 rg: ∀(x:Nat)v,ring[x]? =some v->v=0\/ ∃(m e:Nat)(s:dw),v=(m:Int)+1/\M[m]? =some (e,s)/\s.aY=(x:Int)/\ ¬0<s.cO/\out[m]? =some (vh a E e s E.length)/\(∀(j:Nat)d,e<j->j<i->E[j]? =some d->xw d=false/\tX d s.aY=false)/\(e<i->done s.aY=false)
section
variable {a:bY} {E:List cz} {i:Nat} {done:Int->Bool} {M:List (Nat×dw)} {out:List de} {ring:List Int} {d:cz}
theorem Sm(h:lA a E i done M out ring)(x:Nat)(hx:x<15)(hd:E[i]? =some d)(hs:xw d=true\/tX d (x:Int)=true)(hM: ∀(m e:Nat)s,M[m]? =some (e,s)->s.aY=(x:Int)->e<i)(hl:M.length<=10000):
  ∃r,f48 (x:Int) (jI E i:Int) ring out=some r/\lA a E i (λy=>done y||decide (y=(x:Int))) M r.1 r.2/\r.2[x]? =some 0:=by
 have XE:=h.rl;have e1:ring[x]? =some (ring[x]'(by omega)):=dR _;generalize ring[x]'(by omega)=v at e1;have n1:(x:Int)<15:=by omega
 unfold f48;simp only[cX n1,cJ e1,dm];rcases h.rg x v e1 with rfl|⟨m,e,s,rfl,m1,m2,m3,m4,m5,m6⟩
 ·simp only[oF,fq,dD];refine⟨_,rfl,⟨h.ol,h.rl,h.nt,λx' v' hv=>?_⟩,e1⟩;rcases h.rg x' v' hv with h0|⟨m,e,s,q1,q2,q3,q4,q5,q6,q7⟩
  ·exact .inl h0
  ·by_cases xG:x'=x
   ·subst xG;rw[e1]at hv;exact .inl (Option.some.inj hv).symm
   ·exact .inr ⟨m,e,s,q1,q2,q3,q4,q5,q6,λhq=>by rw[q7 hq,q3];exact jb (by omega)⟩
 ·have PH:=(fT.1 m1).1;have c1:decide (0<(m:Int)+1)=true:=sB (by omega);have w1:wr ((m:Int)+1-1)=(m:Int):=by rw[show(m:Int)+1-1=(m:Int)by omega,iZ (by omega) (by omega)]
  have hei:=hM m e s m1 m2;have hmo:=(fT.1 m4).1;simp only[c1,dt,w1,cJ m4,dm,oD];refine⟨_,rfl,⟨by simpa using h.ol,by simpa using h.rl,λm' e' s' oG=>?_,λx' v' hv=>?_⟩,Gu (by omega)⟩
  ·by_cases Pd:m=m'
   ·subst Pd;rw[m1]at oG;cases oG;refine⟨i,Gu hmo,.inl ⟨hei,?_,λhf=>absurd hf m3,λ_=>⟨m5,λd' vq=>?_⟩⟩⟩
    ·have:=(fT.1 hd).1;omega
    ·rw[hd]at vq;cases vq;rw[m2];exact hs
   ·obtain⟨c,c2,c3⟩:=h.nt m' e' s' oG;refine⟨c,by rw[DR Pd];exact c2,?_⟩;rcases c3 with c3|⟨c3,c4,c5⟩
    ·exact .inl c3
    ·refine .inr ⟨c3,?_,c5⟩;rw[DR]
     ·exact c4
     ·rintro rfl;rw[e1]at c4;have:=Option.some.inj c4;omega
  ·by_cases xG:x=x'
   ·subst xG;have hv:(ring.set x 0)[x]? =some v':=hv;rw[Gu (by omega)]at hv;exact .inl (Option.some.inj hv).symm
   ·have hv:(ring.set x 0)[x']? =some v':=hv;rw[DR xG]at hv;rcases h.rg x' v' hv with h0|⟨m',e',s',q1,q2,q3,q4,q5,q6,q7⟩
    ·exact .inl h0
    ·have Pd:m≠m':=λhq=>by
      subst hq;rw[m1]at q2;cases q2;omega
     exact .inr ⟨m',e',s',q1,q2,q3,q4,by show(out.set m _)[m']? =_;rw[DR Pd];exact q5,q6,λhq=>by rw[q7 hq,q3];exact jb (by omega)⟩
theorem lA.aa0(h:lA a E i done M out ring){s:dw}{c:Nat}(hc:Cc E i s c):lA a E i done (M++[(i,s)]) (out++[vh a E i s c]) ring:=by
 have Gf:=h.ol;refine⟨by simp[Gf],h.rl,λm e s' hm=>?_,λx v hv=>?_⟩
 ·rcases Ch m M.length with q|q
  ·rw[nD q]at hm;obtain⟨c',c1,c2⟩:=h.nt m e s' hm;exact⟨c',by rw[nD (by omega)];exact c1,c2⟩
  ·rw[qb q]at hm;have:=(fT.1 hm).1;simp at this;have hq:m=M.length:=by omega
   subst hq;simp at hm;obtain⟨rfl,rfl⟩:=hm;exact⟨c,by rw[qb (by omega)];simp[Gf],.inl hc⟩
 ·rcases h.rg x v hv with h0|⟨m,e,s',q1,q2,q3,q4,q5,q6⟩
  ·exact .inl h0
  ·have hm:=(fT.1 q2).1;exact .inr ⟨m,e,s',q1,by rw[nD hm];exact q2,q3,q4,by rw[nD (by omega)];exact q5,q6⟩
theorem lA.aa1(h:lA a E i done M out ring){s:dw}{x:Nat}(hx:s.aY=(x:Int))(RL:x<15)(hr:ring[x]? =some 0)(hf: ¬0<s.cO):lA a E i done (M++[(i,s)]) (out++[vh a E i s E.length]) (ring.set x ((M.length:Int)+1)):=by
 have Gf:=h.ol;have XE:=h.rl;have xm:(out++[vh a E i s E.length])[M.length]? =some (vh a E i s E.length):=by rw[qb (by omega)];simp[Gf]
 have hxn:s.aY.toNat=x:=by omega
 refine⟨by simp[Gf],by simpa using XE,λm e s' hm=>?_,λx' v hv=>?_⟩
 ·rcases Ch m M.length with q|q
  ·rw[nD q]at hm;obtain⟨c',c1,c2⟩:=h.nt m e s' hm;refine⟨c',by rw[nD (by omega)];exact c1,?_⟩;rcases c2 with c2|⟨c2,c3,c4⟩
   ·exact .inl c2
   ·refine .inr ⟨c2,?_,c4⟩;rw[DR]
    ·exact c3
    ·rintro rfl;rw[hr]at c3;have:=Option.some.inj c3;omega
  ·rw[qb q]at hm;have:=(fT.1 hm).1;simp at this;have hq:m=M.length:=by omega
   subst hq;simp at hm;obtain⟨rfl,rfl⟩:=hm;exact⟨E.length,xm,.inr ⟨hf,by rw[hxn,Gu (by omega)],rfl⟩⟩
 ·by_cases xG:x=x'
  ·subst xG;rw[Gu (by omega)]at hv;have hv:=(Option.some.inj hv).symm;exact .inr ⟨M.length,i,s,hv,by simp,hx,hf,xm,λj d h1 h2=>by omega,λh=>by omega⟩
  ·rw[DR xG]at hv;rcases h.rg x' v hv with h0|⟨m,e,s',q1,q2,q3,q4,q5,q6⟩
   ·exact .inl h0
   ·have hm:=(fT.1 q2).1;exact .inr ⟨m,e,s',q1,by rw[nD hm];exact q2,q3,q4,by rw[nD (by omega)];exact q5,q6⟩
theorem lA.next(h:lA a E i done M out ring)(hM: ∀(m e:Nat)s,M[m]? =some (e,s)->1<=s.aY/\s.aY<=14)(hd:E[i]? =some d)(hn: ∀x:Int,1<=x->x<=14->done x=false->xw d=false/\tX d x=false):lA a E (i+1) (λ_=>false) M out ring:=
 ⟨h.ol,h.rl,h.nt,λx v hv=>by
  rcases h.rg x v hv with h0|⟨m,e,s,q1,q2,q3,q4,q5,q6,q7⟩
  ·exact .inl h0
  ·obtain⟨b1,b2⟩:=hM m e s q2;refine .inr ⟨m,e,s,q1,q2,q3,q4,q5,λj d' h1 h2 vq=>?_,λ_=>rfl⟩;by_cases hj:j=i
   ·subst hj;rw[hd]at vq;cases vq;exact hn s.aY b1 b2 (q7 h1)
   ·exact q6 j d' h1 (by omega) vq⟩
theorem Av{x:Nat×dw}:x∈rp E i↔x.1=i/\fY E i x.2:=by
 unfold rp fY;rw[kl];constructor
 ·rintro⟨s,h1,rfl⟩;cases hd:E[i]? with
  |none=>rw[hd]at h1;simp at h1
  |some d=>rw[hd]at h1;exact⟨rfl,d,rfl,by simpa using h1⟩
 ·rintro⟨rfl,d,h1,h2⟩;exact⟨x.2,by rw[h1];simpa using h2,rfl⟩
theorem jE: ∀{i:Nat}{x:Nat×dw},x∈stM E i↔x.1<i/\fY E x.1 x.2
 |0,x=>by simp[stM]
 |i+1,x=>by
  unfold stM;rw[lT,jE,Av];constructor
  ·rintro(⟨h1,h2⟩|⟨rfl,h2⟩)
   ·exact⟨by omega,h2⟩
   ·exact⟨by omega,h2⟩
  ·rintro⟨h1,h2⟩;by_cases hq:x.1<i
   ·exact .inl ⟨hq,h2⟩
   ·have:x.1=i:=by omega
    subst this;exact .inr ⟨rfl,h2⟩
theorem DG(h:lM a E): ∀i,(stM E i).length<=14*i
 |0=>by simp[stM]
 |i+1=>by
  have h1:=DG h i;have h2:(rp E i).length<=14:=by
   unfold rp;cases hd:E[i]? with
   |none=>simp
   |some d=>simpa using h.ZA hd
  unfold stM;rw[lu];omega
theorem yf(h:lM a E): ∀i,(stM E i).Pairwise λx y=>x.1<y.1\/x.1=y.1/\x.2.aY<y.2.aY
 |0=>by simp[stM]
 |i+1=>by
  unfold stM;rw[Yt];refine⟨yf h i,?_,λx hx y hy=>.inl ?_⟩
  ·unfold rp;cases hd:E[i]? with
   |none=>simp
   |some d=>
    show List.Pairwise _ (d.dy.map _);rw[Ij];exact(h.ev i d hd).tW.imp λh=>.inr ⟨rfl,h⟩
  ·rw[(Av.1 hy).1];exact(jE.1 hx).1
theorem f51_y(p:dW)(ons:List Int)(hl:p.bP.length<=400){s:dw}(h0:0<=s.hold)(hi:(i:Int)+s.hold<(p.bP.length:Int)): ∃r,f51 ⟨p,ons⟩ (i:Int) s.hold=some r/\ ∃c:Nat,r+1=(c:Int)/\c<=p.bP.length/\(i:Int)+s.hold<(c:Int)/\
  (∀(j:Nat)d,(i:Int)+s.hold<(j:Int)->j<c->p.bP[j]? =some d->d.tie=true)/\ ∀d,p.bP[c]? =some d->d.tie=false:=by
 unfold f51;have w0:wr ((i:Int)+s.hold)=((i+s.hold.toNat:Nat):Int):=by rw[iZ (by omega) (by omega)];omega
 rw[w0];generalize hg:i+s.hold.toNat=g;refine fR (P1:=λr=> ∃c:Nat,r+1=(c:Int)/\c<=p.bP.length/\(g:Int)<(c:Int)/\(∀(j:Nat)d,g<j->j<c->p.bP[j]? =some d->d.tie=true)/\ ∀d,p.bP[c]? =some d->d.tie=false) ?_ ?_
 ·refine jQ (λk(q:Int)=>q=((g+k:Nat):Int)/\ ∀(j:Nat)d,g<j->j<=g+k->p.bP[j]? =some d->d.tie=true) _ (p.bP.length-1-g) (by omega) ⟨by simp,λj d h1 h2=>by omega⟩ ?_ ?_
  ·rintro k _ hk ⟨rfl,hq⟩;have w1:wr (((g+k:Nat):Int)+1)=((g+k+1:Nat):Int):=fH (by omega);have e1:p.bP[g+k+1]? =some (p.bP[g+k+1]'(by omega)):=dR _;generalize p.bP[g+k+1]'(by omega)=d at e1;simp only[w1,dr e1,dt,cJ e1,dm];cases ht:d.tie
   ·refine .inr ⟨_,rfl,g+k+1,by omega,by omega,by omega,λj d' h1 h2=>hq j d' h1 (by omega),λd' vq=>?_⟩;rw[e1]at vq;cases vq;exact ht
   ·refine .inl ⟨_,rfl,rfl,λj d' h1 h2 vq=>?_⟩;by_cases hj:j=g+k+1
    ·subst hj;rw[e1]at vq;cases vq;exact ht
    ·exact hq j d' h1 (by omega) vq
  ·rintro _ ⟨rfl,hq⟩;have w1:wr (((g+(p.bP.length-1-g):Nat):Int)+1)=((p.bP.length:Nat):Int):=by rw[fH (by omega)];congr 1;omega
   simp only[w1,oF,fq,dD,dm];exact⟨_,rfl,p.bP.length,by omega,eD _,by omega,λj d' h1 h2=>hq j d' h1 (by omega),λd' vq=>by simp at vq⟩
 ·rintro r ⟨c,c1,c2,c3,c4,c5⟩;exact⟨r,rfl,c,c1,c2,by omega,λj d h1 h2=>c4 j d (by omega) h2,c5⟩
theorem f17_y(p:dW)(h:lM p.instrument p.bP)(hl:p.bP.length<=400): ∃r,f17 ⟨p,xy p.bP⟩=some r/\(r.1.length=(stM p.bP p.bP.length).length/\
  ∀(m e:Nat)s,(stM p.bP p.bP.length)[m]? =some (e,s)-> ∃c,Cc p.bP e s c/\r.1[m]? =some (vh p.instrument p.bP e s c)):=by
 have iA: ∀{e s},fY p.bP e s->1<=s.aY/\s.aY<=14/\f49 p.instrument ⟨s.aY,s.cO⟩=some (DF p.instrument s,0):=λ{e s}hs=>by
  obtain⟨q,hq⟩:=(h.st e s hs).pl;obtain⟨_,p1,p2,_⟩:=js hq;refine⟨p1,p2,?_⟩;unfold DF;rw[f49_y hq];rfl
 have Qz:f50 ⟨p,xy p.bP⟩=some (jI p.bP p.bP.length:Int):=by
  unfold f50;have w1:wr (((xy p.bP).length:Int)-1)=((p.bP.length:Nat):Int):=by rw[FY,iZ (by omega) (by omega)];omega
  simp only[w1,cJ (Au (eD _)),dm]
 unfold f17;refine fc (λk(q:List de×List iC×List Int×Int)=>q.2.2.2=(k:Int)/\q.2.1.length=(stM p.bP k).length/\lA p.instrument p.bP k (λ_=>false) (stM p.bP k) q.1 q.2.2.1)
  (λr=> ∃ring,lA p.instrument p.bP p.bP.length (λ_=>false) (stM p.bP p.bP.length) r.1 ring) p.bP.length (by omega) ⟨rfl,rfl,⟨rfl,rfl,by simp[stM],λx v hv=>?_⟩⟩ ?_ ?_ ?_
 ·left;have hx:=(fT.1 hv).1;simp at hx;have hv:(List.replicate 15 (0:Int))[x]? =some v:=hv;rw[Va,dP hx]at hv;exact(Option.some.inj hv).symm
 ·rintro k ⟨q1,q2,q3,q4⟩ hk ⟨e0,e1,e2⟩;simp only at e0 e1 e2;subst e0;have x1:p.bP[k]? =some (p.bP[k]'hk):=dR _;generalize p.bP[k]'hk=d at x1;have hML:=DG h k;have hf:=h.ZA x1;have Pa:((bif decide ((d.dy.length:Int)=0)then some (!d.tie)else some false):Option Bool)=some (xw d):=by
   have:=f133_eq d;unfold f133 at this;rw[<-this];cases decide ((d.dy.length:Int)=0)<;>rfl
  simp only[dr x1,dt,cJ x1,cJ (Au (O8 hk)),dm,Pa,eT (l:=p.bP) (by simp only[cH];omega) x1];have hMk: ∀(m e:Nat)s,(stM p.bP k)[m]? =some (e,s)->e<k/\1<=s.aY/\s.aY<=14:=λm e s hm=>by
   obtain⟨h1,h2⟩:=jE.1 (gT hm);have:=iA h2;exact⟨h1,this.1,this.2.1⟩
  have first: ∃z,((bif xw d then((cA (σ:=(List de×List Int×Int)) (τ:=(List de×List Int)) (λ((Sn,Sp,OL):(List de×List Int×Int))=>bif (decide (OL<15))then((f48 OL (jI p.bP k:Int) Sp Sn).bind λr7=>some (.inl (r7.1,r7.2,(wr (OL+1)))))else(some (.inr (Sn,Sp)))) cQ (q1,q3,0)).bind λ((UU,UW):(List de×List Int))=>some (UU,UW))else(some (q1,q3))):Option (List de×List Int))=some z/\
    ∃cn:Int->Bool,(∀x:Int,1<=x->x<=14->cn x=false->xw d=false)/\lA p.instrument p.bP k cn (stM p.bP k) z.1 z.2:=by
   cases hr:xw d
   ·exact⟨_,rfl,λ_=>false,λ_ _ _ _=>rfl,e2⟩
   ·refine fc (λj(q:List de×List Int×Int)=>q.2.2=(j:Int)/\lA p.instrument p.bP k (λy=>decide (y<(j:Int))&&decide (0<=y)) (stM p.bP k) q.1 q.2.1) (λr=>lA p.instrument p.bP k (λy=>decide (y<15)&&decide (0<=y)) (stM p.bP k) r.1 r.2) 15 (by omega) ⟨rfl,?_⟩ ?_ ?_ ?_
    ·have:(λy:Int=>decide (y<((0:Nat):Int))&&decide (0<=y))=λ_=>false:=by
      funext y;by_cases hy:y<0
      ·have: ¬0<=y:=by omega
       simp[this]
      ·have: ¬y<((0:Nat):Int):=by omega
       simp only[this,fq,Yw]
     rw[this];exact e2
    ·rintro j ⟨r1,r2,r3⟩ hj ⟨f0,f1⟩;simp only at f0 f1;subst f0;have c1:decide ((j:Int)<15)=true:=sB (by omega);obtain⟨r,s1,s2,_⟩:=Sm f1 j hj x1 (.inl hr) (λm e s hm _=>(hMk m e s hm).1) (by omega);simp only[c1,dt,s1,dm,fH (show j<=4194304 by omega)];refine .inl ⟨_,rfl,rfl,?_⟩;have:(λy:Int=>decide (y<((j+1:Nat):Int))&&decide (0<=y))=λy:Int=>(decide (y<(j:Int))&&decide (0<=y))||decide (y=(j:Int)):=by
      funext y;rw[Bool.eq_iff_iff];simp;omega
     rw[this];exact s2
    ·rintro⟨r1,r2,r3⟩ ⟨f0,f1⟩;simp only at f0 f1;subst f0;exact⟨_,rfl,f1⟩
    ·rintro⟨r1,r2⟩ SO;exact⟨_,rfl,_,λx h1 h2 h3=>by simp at h3;omega,SO⟩
  obtain⟨⟨z1,z2⟩,hz,cn,uj,wE⟩:=first
  simp only[hz,dm];refine .inl (JG (λj(q:List de×List iC×List Int×Int)=>q.2.2.2=(j:Int)/\q.2.1.length=(stM p.bP k).length+j/\lA p.instrument p.bP k (λy=>cn y||(d.dy.take j).any λs=>decide (s.aY=y)) (stM p.bP k++(d.dy.take j).map λs=>(k,s)) q.1 q.2.2.1)
   (λr=>r.2.1.length=(stM p.bP (k+1)).length/\lA p.instrument p.bP k (λy=>cn y||tX d y) (stM p.bP (k+1)) r.1 r.2.2) d.dy.length (by omega) ⟨rfl,by simpa using e1,?_⟩ ?_ ?_ ?_)
  ·simpa using wE
  ·rintro j ⟨r1,r2,r3,r4⟩ hj ⟨f0,f1,f2⟩;simp only at f0 f1 f2;subst f0;have y1:d.dy[j]? =some (d.dy[j]'hj):=dR _;have VS:fY p.bP k (d.dy[j]'hj):=⟨d,x1,JN _⟩;have vg:=(h.ev k d x1).tW;rw[D6]at vg;have Ya: ∀s∈d.dy.take j,s.aY<(d.dy[j]'hj).aY:=λs hs=>by
    rw[List.mem_take_iff_getElem]at hs;obtain⟨i',Ct,rfl⟩:=hs;exact vg i' j (by omega) hj (by omega)
   generalize d.dy[j]'hj=s at y1 VS Ya;obtain⟨b1,b2,b3⟩:=iA VS;have jH:s.aY=((s.aY.toNat:Nat):Int):=by omega
   have Q5:tX d ((s.aY.toNat:Nat):Int)=true:=AO.2 ⟨s,gT y1,by simpa using jH⟩;have Gf:=f2.ol;have hM2:(stM p.bP k++(d.dy.take j).map λs=>(k,s)).length<=14*k+14:=by simp;omega
   obtain⟨r,s1,s2,s3⟩:=Sm f2 s.aY.toNat (by omega) x1 (.inr Q5) (λm e s' hm hc=>by
    rcases lT.1 (gT hm)with hm|hm
    ·exact(jE.1 hm).1
    ·obtain⟨s'',t1,t2⟩:=kl.1 hm;cases t2;have:=Ya s' t1;omega) (by omega)
   rw[<-jH]at s1;have aa2:=s2.ol;have n2:r.1.length+1<=bQ:=by unfold bQ;omega
   have n3:r2.length+1<=bQ:=by unfold bQ;omega
   have hMs:(stM p.bP k++(d.dy.take (j+1)).map λs=>(k,s))=(stM p.bP k++(d.dy.take j).map λs=>(k,s))++[(k,s)]:=by rw[dj y1];simp
   have hdn:(λy=>cn y||(d.dy.take (j+1)).any λs=>decide (s.aY=y))=λy=>(cn y||(d.dy.take j).any λs=>decide (s.aY=y))||decide (y=((s.aY.toNat:Nat):Int)):=by
    funext y;rw[dj y1,List.any_append,Bool.or_assoc];congr 2;simp only[List.any_cons,List.any_nil,Yv];rw[<-jH];by_cases hq:s.aY=y
    ·simp[hq]
    ·have: ¬y=s.aY:=λh=>hq h.symm;simp[hq,this]
   simp only[dr y1,dt,cJ y1,dm,s1,b3,Qz,eT (l:=d.dy) (by simp only[cH];omega) y1];by_cases rL:0<s.cO
   ·have so:=h.st k s VS;obtain⟨t,t1,c,t2,t3,t4,t5,t6⟩:=f51_y (i:=k) p (xy p.bP) hl so.h0 (h.hold VS);have w1:wr (t+1)=(c:Int):=by rw[t2,iZ (by omega) (by omega)]
    simp only[rL,ij,dt,t1,dm,w1,cJ (Au t3),cX n2,cX n3];refine .inl ⟨_,rfl,rfl,by simp[f1];omega,?_⟩;rw[hMs,hdn];have:=so.h0;exact s2.aa0 (c:=c) ⟨by omega,t3,λ_=>⟨t4,t5,t6⟩,λhq=>absurd rL hq⟩
   ·have n4:s.aY<15:=by omega
    have s3':ix r.2 s.aY=some 0:=by rw[jH];exact cJ s3
    have w1:wr ((r.1.length:Int)+1)=((stM p.bP k++(d.dy.take j).map λs=>(k,s)).length:Int)+1:=by rw[iZ (by omega) (by omega),aa2]
    simp only[rL,fq,dD,cX n4,s3',dm,w1,cX n2,cX n3];refine .inl ⟨_,rfl,rfl,by simp[f1];omega,?_⟩;rw[hMs,hdn];exact s2.aa1 jH (by omega) s3 rL
  ·rintro⟨r1,r2,r3,r4⟩ ⟨f0,f1,f2⟩;simp only at f0 f1 f2;subst f0;simp only[oF,fq,dD];rw[AN]at f2;have hM3:stM p.bP (k+1)=stM p.bP k++d.dy.map λs=>(k,s):=by show stM p.bP k++rp p.bP k=_;unfold rp;rw[x1];rfl
   exact⟨_,rfl,by rw[hM3];simpa using f1,by rw[hM3];exact f2⟩
  ·rintro⟨r1,r2,r3⟩ ⟨f1,f2⟩;refine⟨_,rfl,rfl,f1,f2.next (λm e s hm=>?_) x1 λx h1 h2 h3=>?_⟩
   ·have:=iA (jE.1 (gT hm)).2;exact⟨this.1,this.2.1⟩
   ·simp only[JQ]at h3;exact⟨uj x h1 h2 h3.1,h3.2⟩
 ·rintro⟨q1,q2,q3,q4⟩ ⟨e0,e1,e2⟩;simp only at e0 e1 e2;subst e0;simp only[oF,fq,dD];exact⟨_,rfl,q3,e2⟩
 ·rintro⟨r1,r2⟩ ⟨ring,hr⟩;refine⟨_,rfl,hr.ol,λm e s hm=>?_⟩;obtain⟨c,c1,c2⟩:=hr.nt m e s hm;refine⟨c,?_,c1⟩;rcases c2 with c2|⟨c2,c3,rfl⟩
  ·exact c2
  ·have VS:=jE.1 (gT hm);rcases hr.rg _ _ c3 with h0|⟨m',e',s',g1,g2,_,_,_,g6,_⟩
   ·omega
   ·have:m'=m:=by omega
    subst this;rw[hm]at g2;cases g2;exact⟨VS.1,eD _,λhf=>absurd hf c2,λ_=>⟨g6,λd hd=>by simp at hd⟩⟩
theorem f6_y(p:dW)(hi:instS p.instrument=0)(h:lM p.instrument p.bP)(hl:p.bP.length<=400): ∃N,f6 p=some (N,0)/\N.length=(stM p.bP p.bP.length).length/\
  ∀(m e:Nat)s,(stM p.bP p.bP.length)[m]? =some (e,s)-> ∃c,Cc p.bP e s c/\N[m]? =some (vh p.instrument p.bP e s c):=by
 obtain⟨r,r1,r2⟩:=f17_y p h hl;unfold f6 f16;rw[f9_y p hi h hl];simp only[dm,rz,xb,fq,dD,r1];exact⟨r.1,rfl,r2⟩
theorem Rg.UX{e c c':Nat}{s:dw}{p:be}(h:Rg E e p c')(h2:Cc E e s c)(hs:fY E e s)(hc:s.aY=p.aY)(hf:s.cO=p.cO):c'<=c:=by
 rcases Ch c c' with q|q
 ·exfalso;have hl:=h.le;have e1:E[c]? =some (E[c]'(by omega)):=dR _;by_cases hp:0<s.cO
  ·obtain⟨f1,_,f3⟩:=h2.fr hp;have h3:=f3 _ e1;rw[h.ho s hs hc (by omega) c _ f1 q e1]at h3;cases h3
  ·obtain⟨h3,h4⟩:=h.on c _ h2.lt q e1;rcases(h2.op hp).2 _ e1 with h5|h5
   ·rw[h3]at h5;cases h5
   ·rw[hc,h4]at h5;cases h5
 ·exact q
end
def OM(i k:Nat)(c:Int)(l:dG):Bool:=decide (l.part=(i:Int))&&(decide (l.gD=(k:Int))&&decide (l.kind=c))
def VT(X:List dG)(i k:Nat)(c:Int):Prop:= ∀l∈X,OM i k c l=false
theorem ON{i k:Nat}{c:Int}{l:dG}:OM i k c l=true↔l.part=(i:Int)/\l.gD=(k:Int)/\l.kind=c:=by simp[OM]
structure Yb (P:List (List cj)) (a:bY) (sh:Int) (s:dX) (i k:Nat) (x:cj) (p:be):Prop where
 pl:p∈(fx a (wr (x.cw+sh))).1
 n1:VT s.eA i k 1
 n2:(Twin P s.gO i x p/\(⟨(i:Int),(k:Int),2,x.cy⟩:dG)∈s.eA)\/(¬Twin P s.gO i x p/\VT s.eA i k 2)
 st: ∃(e:Nat)(t:dw),fY s.ck.bP e t/\t.aY=p.aY/\t.cO=p.cO/\x.cy=(jI s.ck.bP e:Int)/\
  ((VT s.eA i k 3/\ ∃c,Rg s.ck.bP e p c/\x.dK<=(jI s.ck.bP c:Int))\/ ∃c,Nd s.ck.bP e p c/\(jI s.ck.bP c:Int)<x.dK/\(⟨(i:Int),(k:Int),3,(jI s.ck.bP c:Int)⟩:dG)∈s.eA)
def Yc(s:dX)(i k:Nat)(x:cj)(p:be):Prop:=p=⟨0,0⟩/\(⟨(i:Int),(k:Int),1,x.cy⟩:dG)∈s.eA/\VT s.eA i k 2/\VT s.eA i k 3
section
variable {P:List (List cj)} {a:bY} {sh:Int} {s:dX}
theorem kh.aa3(h:kh P a sh s){i k:Nat}{x:cj}(hx:eR P i k=some x): ∃p,gQ s.gO i k=some p/\(Yc s i k x p\/Yb P a sh s i k x p):=by
 obtain⟨T,L,X,fF,Sh,Sq,_⟩:=h.set;have oH:=(kJ h.pr).2;have htk:=sy oH hx;have hxT:=Sh i k x hx;obtain⟨p,p1,p2⟩:=fF.fa i k x hx (by omega);have kM: ∀l,l∈s.eA-> ∀c,OM i k c l=true->l∈jD X i k:=λl hl c hq=>by
  rw[ON]at hq;exact nT.2 ⟨Sq.mem_iff.1 hl,by simp[tG,hq.1,hq.2.1]⟩
 have fB: ∀l,l∈jD X i k->l∈s.eA:=λl hl=>Sq.mem_iff.2 (nT.1 hl).1;have jT: ∀c,(∀l∈jD X i k,l.kind≠c)->VT s.eA i k c:=λc hc l hl=>by
  cases hq:OM i k c l
  ·rfl
  ·exact absurd (ON.1 hq).2.2 (hc l (kM l hl c hq))
 refine⟨p,p1,?_⟩;rcases p2 with⟨rfl,p2⟩|⟨e,D,d1,d2,d3,d4⟩
 ·exact .inl ⟨rfl,fB _ (by rw[p2];simp),jT 2 (by rw[p2];simp),jT 3 (by rw[p2];simp)⟩
 ·right;have Lv: ∀{c c'},c<=c'->c'<=s.ck.bP.length->jI s.ck.bP c<=jI s.ck.bP c':=λ{c c'}h1 h2=>by
   rcases Ch c c' with q|q
   ·exact O8 (rm fF.ev q h2)
   ·have:c=c':=by omega
    subst this;exact eD _
  rcases d4 with⟨d4,d5⟩|⟨c,c1,c2,c3⟩
  ·have hr: ∃c,Rg s.ck.bP e p c/\x.dK<=(jI s.ck.bP c:Int):=by
    rcases d5 with⟨n,n1,n2,n3⟩|d5
    ·obtain⟨e0,e1,e2,e3⟩:=(fF.lv n n1).ev;obtain⟨i',k',x',f1,f2,_,f4,_⟩:=e3 _ n2;simp at f1;obtain⟨g1,g2⟩:=f1;have:i=i':=by omega
     subst this;have:k=k':=by omega
     subst this;have:e0=e:=by omega
     subst this;rw[p1]at f4;cases f4;exact⟨_,e2,by have:=fF.du;omega⟩
    ·exact d5
   obtain⟨c,c1,c2⟩:=hr;obtain⟨t,t1,t2,t3⟩:=c1.st;refine⟨d1,jT 1 ?_,?_,e,t,t1,t2,t3,d2.symm,.inl ⟨jT 3 ?_,c,c1,c2⟩⟩
   ·rw[d4];rcases d3 with⟨rfl,_⟩|⟨rfl,_⟩<;>simp
   ·rcases d3 with⟨rfl,h1⟩|⟨rfl,h1⟩
    ·exact .inr ⟨h1,jT 2 (by rw[d4];simp)⟩
    ·exact .inl ⟨h1,fB _ (by rw[d4];simp)⟩
   ·rw[d4];rcases d3 with⟨rfl,_⟩|⟨rfl,_⟩<;>simp
  ·obtain⟨t,t1,t2,t3⟩:=c1.rg.st;refine⟨d1,jT 1 ?_,?_,e,t,t1,t2,t3,d2.symm,.inr ⟨c,c1,c2,fB _ (by rw[c3];simp)⟩⟩
   ·rw[c3];rcases d3 with⟨rfl,_⟩|⟨rfl,_⟩<;>simp
   ·rcases d3 with⟨rfl,h1⟩|⟨rfl,h1⟩
    ·exact .inr ⟨h1,jT 2 (by rw[c3];simp)⟩
    ·exact .inl ⟨h1,fB _ (by rw[c3];simp)⟩
theorem kh.one(h:kh P a sh s){l l':dG}(h1:l∈s.eA)(h2:l'∈s.eA)(he:kL l=kL l'):l=l':=by
 have hs:=h.srt;rw[D6]at hs;obtain⟨i,hi,rfl⟩:=ry h1;obtain⟨j,hj,rfl⟩:=ry h2;rcases Gt i j with q|q|q
 ·have:=hs i j hi hj q;omega
 ·subst q;rfl
 ·have:=hs j i hj hi q;omega
theorem mr{P:List (List cj)}{i k:Nat}{x:cj}(h:eR P i k=some x): ∃p,P[i]? =some p/\p[k]? =some x:=by
 unfold eR at h;cases hp:P[i]? with
 |none=>rw[hp]at h;simp at h
 |some p=>rw[hp]at h;exact⟨p,rfl,by simpa using h⟩
theorem DH{P:List (List cj)}{i k:Nat}{p:List cj}{x:cj}(h1:P[i]? =some p)(h2:p[k]? =some x):eR P i k=some x:=by unfold eR;rw[h1];exact h2
theorem FZ{W:List (List be)}{i k:Nat}{w:List be}{p:be}(h1:W[i]? =some w)(h2:w[k]? =some p):gQ W i k=some p:=by unfold gQ;rw[h1];exact h2
def lS(p:dW)(N:List de):Prop:=N.length=(stM p.bP p.bP.length).length/\
 ∀(m e:Nat)s,(stM p.bP p.bP.length)[m]? =some (e,s)-> ∃c,Cc p.bP e s c/\N[m]? =some (vh p.instrument p.bP e s c)
theorem UY{E:List cz}{e:Nat}{t:dw}(h:fY E e t): ∃m:Nat,(stM E E.length)[m]? =some (e,t):=by
 obtain⟨m,hm,he⟩:=ry ((jE (x:=(e,t))).2 ⟨h.lt,h⟩);exact⟨m,by rw[dR hm,he]⟩
theorem F0(h:kh P a sh s){N:List de}(hN:lS s.ck N){m e:Nat}{t:dw}(hm:(stM s.ck.bP s.ck.bP.length)[m]? =some (e,t)){j:Nat}{y:de}(hy:N[j]? =some y)(h1:y.cy=(jI s.ck.bP e:Int))(h2:y.aY=t.aY):j=m:=by
 obtain⟨T,L,X,fF,_⟩:=h.set;have hj:=(fT.1 hy).1;have ej:(stM s.ck.bP s.ck.bP.length)[j]? =some ((stM s.ck.bP s.ck.bP.length)[j]'(by rw[<-hN.1];exact hj)):=dR _;generalize(stM s.ck.bP s.ck.bP.length)[j]'(by rw[<-hN.1];exact hj)=z at ej;obtain⟨e',t'⟩:=z;obtain⟨c,_,c2⟩:=hN.2 j e' t' ej;rw[hy]at c2;cases c2;have m1:=jE.1 (gT hm);have m2:=jE.1 (gT ej);have m1l:=m1.1;have m2l:=m2.1;have h1:((jI s.ck.bP e':Nat):Int)=(jI s.ck.bP e:Int):=h1;have he:e'=e:=H7 fF.ev (O8 m2l) (O8 m1l) (by omega);subst he;have h2:t'.aY=t.aY:=h2;have ht:=fF.ev.one m2.2 m1.2 h2;subst ht;have hp:=yf fF.ev s.ck.bP.length;rw[D6]at hp;obtain⟨i1,i2⟩:=fT.1 hm;obtain⟨j1,j2⟩:=fT.1 ej;rcases Gt j m with c|c|c
 ·have:=hp j m j1 i1 c;rw[i2,j2]at this;simp at this
 ·exact c
 ·have:=hp m j i1 j1 c;rw[i2,j2]at this;simp at this
end
end Go.Proofs.YtfdnjgoegamonaaGreatDoor
